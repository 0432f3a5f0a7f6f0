/- The queue's waits as a list; those of one object. -/
import Derived.Test.YtkfaaeklkplhnaaQRem
import Derived.Shelf.RegionOpen
namespace Go.Proofs.Ytkfaaeklkplhnaa
open Go.RowKit Go.Shelf
attribute [local go_sem] Oper.semAt_some

theorem Try.infoWait : (Try.prog.info? 27).map (fun i => (i.zero, i.size, i.bytes)) = some (some (.agg #[.int .i64 0, .int .i64 0, .int .i64 0, .int .u32 0]), 4, 32) := by kernel_rfl

/-- The cells of waits, one behind the other. -/
def flatW (l : List Wt) : List Value := l.flatMap Wt.cells
theorem flatW_snoc (l : List Wt) (x : Wt) : flatW (l ++ [x]) = flatW l ++ x.cells := by simp [flatW]
theorem flatW_nil : flatW [] = [] := rfl
def waitsOf {l : List (Nat × Wt)} (p : List (In l)) : List Wt := p.map fun x => x.1.2
theorem waitsOf_snoc {l : List (Nat × Wt)} (p : List (In l)) (x : In l) : waitsOf (p ++ [x]) = waitsOf p ++ [x.1.2] := by simp [waitsOf]
theorem waitsOf_length {l : List (Nat × Wt)} (p : List (In l)) : (waitsOf p).length = p.length := by simp [waitsOf]
theorem waitsOf_nil {l : List (Nat × Wt)} : waitsOf ([] : List (In l)) = [] := rfl
theorem row_nil {l : List (Nat × Wt)} (W : World) (b : Nat) (e : TypeId) : W.ownsRow b e 4 (.slice none 0 0) ([] : List (In l)).length (flatW (waitsOf ([] : List (In l)))) := World.ownsRow_nil W b e 4
attribute [irreducible] flatW waitsOf

theorem row_slice {w : World} {base : Nat} {e : TypeId} {size : Nat} {v : Value} {n : Nat} {xs : List Value} (h : w.ownsRow base e size v n xs) : ∃ A m c, v = .slice A m c := by
  rcases h.2 with ⟨rfl, _⟩ | ⟨g, cap, cur, rfl, _⟩
  · exact ⟨_, _, _, rfl⟩
  · exact ⟨_, _, _, rfl⟩
theorem app_keep {W w1 : World} {tmp : Obj} {row : Option Nat} {b B : Nat} {v' : Value} (hg : (W.alloc tmp).grownBy w1 row) (hb : b < W.heap.size) (h1 : some b ≠ row) (h2 : b ≠ B) : (w1.setCell ⟨B, 0, none⟩ v').heap[b]? = W.heap[b]? :=
  (heap_set_other h2 v').trans ((hg.block b (by rw [World.size_alloc]; omega) h1).trans (Below.heap_alloc W tmp b hb))
theorem waits_all {l : List (Nat × Wt)} {p : List (In l)} (h : p.map Subtype.val = l) : waitsOf p = l.map Prod.snd := by
  unfold waitsOf
  rw [show l.map Prod.snd = (p.map Subtype.val).map Prod.snd from congrArg _ h.symm]
  simp

theorem news4 {W : World} {v0 v1 v2 v3 : Value} {t : TypeId} : ∀ (j : Nat) (u : Value), ([v0, v1, v2, v3] : List Value)[j]? = some u → ((W.alloc (.cells #[v0, v1, v2, v3] t)).drew).cell? ((⟨W.heap.size, 0, none⟩ : Addr).add j) = some u := by
  intro j u h
  have hb : (W.alloc (.cells #[v0, v1, v2, v3] t)).drew.heap[W.heap.size]? = some (.cells #[v0, v1, v2, v3] t (0, 0)) := World.alloc_heap_new W _
  have ha : (⟨W.heap.size, 0, none⟩ : Addr).add j = ⟨W.heap.size, j, none⟩ := by unfold Addr.add; split <;> simp_all
  rw [ha, blkc hb j]
  simpa using h

/-- A wait's cells appended to a row of the call's own. -/
theorem run_app_wait (base : Nat) {W : World} {v : Value} {n : Nat} {xs : List Value} (x : Wt) (hrow : W.ownsRow base 27 4 v n xs) (hb : base ≤ W.heap.size) (hn : n ≤ 1000) :
    ∃ v' w', (Builtin.append_ #[49, 49] 49 #[v, .slice (some ⟨W.heap.size, 0, none⟩) 1 1]).run Try.prog (W.alloc (.cells #[.int .i64 x.task, .int .i64 x.kind, .int .i64 x.obj, .int .u32 x.mask] 27)).drew = .ok v' w' ∧
      w'.ownsRow base 27 4 v' (n + 1) (xs ++ x.cells) ∧ (W.alloc (.cells #[.int .i64 x.task, .int .i64 x.kind, .int .i64 x.obj, .int .u32 x.mask] 27)).grownBy w' v.ownBlock := by
  obtain ⟨i0, hi, hz⟩ := Option.map_eq_some_iff.1 Try.infoWait
  simp only [Prod.mk.injEq] at hz
  obtain ⟨hz0, hz1, hz2⟩ := hz
  have hrow' : ((W.alloc (.cells #[.int .i64 x.task, .int .i64 x.kind, .int .i64 x.obj, .int .u32 x.mask] 27)).drew).ownsRow base 27 4 v n xs := hrow.alloc _
  obtain ⟨v', w', h1, h2, h3, _⟩ := run_append_own _ base 49 49 27 i0 (.agg #[.int .i64 0, .int .i64 0, .int .i64 0, .int .u32 0]) 4 32 Try.underlying49 hi hz0 hz1 hz2 rfl (by decide) v n xs hrow'
    ⟨W.heap.size, 0, none⟩ 1 1 x.cells rfl news4 (by simp [Wt.cells, Value.oneCell']) (by unfold maxLen; omega) (by omega) (by show base ≤ (W.alloc _).heap.size; rw [World.size_alloc]; omega)
  exact ⟨v', w', h1, h2, ⟨h3.os, h3.tape, h3.output, h3.size, h3.block⟩⟩

set_option maxRecDepth 100000 in
set_option maxHeartbeats 2000000 in
theorem list_calls (q : Nat) (l : List (Nat × Wt)) (w : World) (hR : Ring w q l) :
    Calls Try.prog 18 #[.pointer (some ⟨q, 0, none⟩)] w fun e W' => ∃ v, e = .returned v ∧ W'.ownsRow w.heap.size 27 4 v l.length (flatW (l.map Prod.snd)) ∧ Below w.heap.size w W' := by
  refine (callsIn_wide (n := 9)).1 ?_
  refine callsIn_of_wp_marks Try.func18 rfl trivial ?_ rfl
  simp only [Try.ntmps18, List.size_toArray, List.length_cons, List.length_nil, Nat.reduceAdd, Nat.reduceSub, Array.replicate_succ, Array.replicate_zero, List.push_toArray, List.append_toArray, List.nil_append, List.cons_append]
  gi_wp2_with (refine ⟨trivial, ?_⟩; gi_at_call 44; refine (all_in (9 - 1) q _).mono ?_; rintro e w' ⟨rfl, rfl⟩)
  have b0 := Boxed.new w 49 (.slice none 0 0)
  have b2 := Boxed.new (w.alloc (.cells #[.slice none 0 0] 49)) 24 (.pointer (some ⟨q, 0, none⟩))
  simp only [World.size_alloc] at b2
  have hB0 : Below w.heap.size w ((w.alloc (.cells #[.slice none 0 0] 49)).alloc (.cells #[.pointer (some ⟨q, 0, none⟩)] 24)) := ((Below.refl _ w).alloc (Nat.le_refl _) _).alloc (by simp) _
  have hlt := hR.lt
  have hfew := hR.ts.few
  have hkb : ∀ b ∈ (w.heap.size + 1) :: qBlocks q l, b < ((w.alloc (.cells #[.slice none 0 0] 49)).alloc (.cells #[.pointer (some ⟨q, 0, none⟩)] 24)).heap.size := by
    intro b hb
    simp only [World.size_alloc]
    rcases List.mem_cons.1 hb with rfl | hb
    · omega
    · have := hlt b hb
      omega
  refine wpIn_rangeFunc_ownF (n := 9) rfl (by omega) (gf := 70) (lb := #[.pointer (some ⟨w.heap.size + 1, 0, none⟩)]) rfl trivial (enters_of Try.func70 (by kernel_rfl) rfl)
    (all_stops (9 - 1) (by omega) (w.heap.size + 1) q l _ b2 (hR.below hB0)) keepB_t (keepB_b hkb) (Below.refl _ _) (fun _ => rfl)
    (fun pre W => (∃ v, Boxed W w.heap.size 49 v ∧ W.ownsRow w.heap.size 27 4 v pre.length (flatW (waitsOf pre)) ∧ True) ∧ Boxed W (w.heap.size + 1) 24 (.pointer (some ⟨q, 0, none⟩)) ∧ Below w.heap.size w W)
    (fun _ _ _ => False)
    (OwnFrom.and (Own.from (holdsRow_own w.heap.size w.heap.size 49 27 4 (fun pre : List (In l) => pre.length) (fun pre => flatW (waitsOf pre)) (fun _ _ => True)) _) (OwnFrom.and (Own.from (fun s A B row hs hg hr => boxed_stay hs hg hr) _) (ownFrom_below (Nat.le_refl _) (by simp; omega))))
    (fun _ _ _ _ _ hs _ _ => hs)
    ⟨⟨_, b0.alloc _, row_nil _ _ _, trivial⟩, b2, hB0⟩
    (fun x => { tmps := #[.pointer (some ⟨q, 0, none⟩), undef, .pointer (some ⟨w.heap.size, 0, none⟩), .pointer (some ⟨x.1.1, 0, none⟩), .pointer (some ⟨q, 0, none⟩), .func (.func 70) #[] #[.pointer (some ⟨w.heap.size + 1, 0, none⟩)], .pointer (some ⟨x.1.1, 0, none⟩), undef, undef, undef, undef, undef, undef, undef, undef], defers := [] }) ?assign ?body ?done ?stop
  case assign =>
    intro l x W K hK
    gi_wp2
    exact hK
  case body =>
    rintro l0 pre x W ⟨⟨v, hv, hrow, _⟩, hbq, hB⟩ hpl
    obtain ⟨A0, n0, c0, rfl⟩ := row_slice hrow
    obtain ⟨ah, nx, hL⟩ := (hR.below hB).seg.mem x.1 x.2
    have hc0 := hL.c0
    have hc1 := hL.c1
    have hc2 := hL.c2
    have hc3 := hL.c3
    have hcv := hv.cell
    have hmx : Try.prog.follows .mixedOrders = true := by kernel_rfl
    obtain ⟨v', w1, hrun, hown', hgrow⟩ := run_app_wait w.heap.size x.1.2 hrow hB.size (by omega)
    simp [go_sem] at hrun
    obtain ⟨g', cap', rfl⟩ := ownsRow_succ hown'
    obtain ⟨hv1, hv2, hr2, hk2, hb2⟩ := hv.appended (by decide) hrow hB.size (Nat.le_refl _) hown' hgrow
    have hcv1 := hv1.cell
    have hfv1 := hv1.frozen
    have hlt1 := hv.lt
    have hlt2 : x.1.1 < W.heap.size := hL.lt
    gi_wp2
    gi_region_with_o (fail)
    all_goals gi_wp2
    all_goals
      have hbq' : Boxed (w1.setCell ⟨w.heap.size, 0, none⟩ (.slice (some ⟨g', 0, none⟩) (pre.length + 1) cap')) (w.heap.size + 1) 24 (.pointer (some ⟨q, 0, none⟩)) :=
        (app_keep hgrow hbq.lt (hbq.not_row (by decide) hrow) (by omega)).trans hbq
      refine ⟨hk2, ?_, ⟨⟨_, hv2, by rw [waitsOf_snoc, flatW_snoc]; simpa using hr2, trivial⟩, hbq', hB.trans hb2⟩⟩
      intro b hb
      rcases List.mem_cons.1 hb with rfl | hb
      · exact hbq'.trans hbq.symm
      · exact hb2.block b (hlt b hb)
  case done =>
    rintro D ys W hD hys ⟨⟨v, hv, hrow, _⟩, hbq, hB⟩ hK
    have hc := hv.cell
    have hf := hv.frozen
    obtain ⟨A0, n0, c0, rfl⟩ := row_slice hrow
    gi_wp2
    have hK' := (KeepsOthers.setCell W ⟨w.heap.size, 0, none⟩ (.slice A0 n0 c0)).same D _ hK rfl
    refine ⟨by simp, .inl ⟨_, _, rfl, run_takeDeferred hK', ?_⟩⟩
    have hc5 := cell_kept (World.cell?_setCell_same' W ⟨w.heap.size, 0, none⟩ (.slice A0 n0 c0) (by rw [hc]; rfl)) (grownBy_putObj' _ D (.deferred none)) (fun r e => by cases e; exact ⟨_, hK', rfl⟩)
    have hrow2 := ownsRow_putObj (hrow.kept (grownBy_setCell' W w.heap.size (.slice A0 n0 c0)) (.inr (hv.not_row (by decide) hrow).symm)) (.deferred none) hK' rfl
    refine ⟨.slice A0 n0 c0, by simp [results, Try.results18, go_sem, hc5], _, rfl, ?_, ?_⟩
    · rw [← waits_all hys]
      have hl : ys.length = l.length := by have := congrArg List.length hys; simpa using this
      rw [← hl]
      exact hrow2
    · exact (hB.setCell (p := ⟨w.heap.size, 0, none⟩) (Nat.le_refl _) _).trans (belowK_b (w := w) (Nat.le_refl _) _ D _ _ (by simp at hD; omega) hK' rfl rfl)
  case stop =>
    rintro D c pre W _ _ h _
    exact h.elim
end Go.Proofs.Ytkfaaeklkplhnaa
