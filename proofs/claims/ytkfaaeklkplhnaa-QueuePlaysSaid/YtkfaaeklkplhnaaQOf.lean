/- The waits of one object. -/
import Derived.Test.YtkfaaeklkplhnaaQList
import Derived.Shelf.RegionOpen
namespace Go.Proofs.Ytkfaaeklkplhnaa
open Go.RowKit Go.Shelf
attribute [local go_sem] Oper.semAt_some

/-- The waits of an object. -/
def ofW (l : List Wt) (obj : Int) : List Wt := l.filter fun x => decide (x.obj = obj)
theorem ofW_hit (l : List Wt) {x : Wt} {obj : Int} (h : x.obj = obj) : ofW (l ++ [x]) obj = ofW l obj ++ [x] := by simp [ofW, h]
theorem ofW_miss (l : List Wt) {x : Wt} {obj : Int} (h : x.obj ≠ obj) : ofW (l ++ [x]) obj = ofW l obj := by simp [ofW, h]
theorem ofW_le {l : List (Nat × Wt)} (p : List (In l)) (obj : Int) : (ofW (waitsOf p) obj).length ≤ p.length := by
  have := List.length_filter_le (fun x : Wt => decide (x.obj = obj)) (waitsOf p)
  rw [waitsOf_length] at this
  exact this
theorem ofW_len (l : List Wt) (obj : Int) : (ofW l obj).length ≤ l.length := List.length_filter_le _ _
theorem ofW_nil (obj : Int) : ofW [] obj = [] := rfl
theorem row_nil' {l : List (Nat × Wt)} (W : World) (b : Nat) (e : TypeId) (obj : Int) : W.ownsRow b e 4 (.slice none 0 0) (ofW (waitsOf ([] : List (In l))) obj).length (flatW (ofW (waitsOf ([] : List (In l))) obj)) := by
  have : waitsOf ([] : List (In l)) = [] := waitsOf_nil
  rw [this, ofW_nil, flatW_nil]
  exact World.ownsRow_nil W b e 4
attribute [irreducible] ofW

set_option maxRecDepth 100000 in
set_option maxHeartbeats 2000000 in
theorem of_calls (q : Nat) (l : List (Nat × Wt)) (obj : Int) (w : World) (hR : Ring w q l) :
    Calls Try.prog 19 #[.pointer (some ⟨q, 0, none⟩), .int .i64 obj] w fun e W' => ∃ v, e = .returned v ∧ W'.ownsRow w.heap.size 27 4 v (ofW (l.map Prod.snd) obj).length (flatW (ofW (l.map Prod.snd) obj)) ∧ Below w.heap.size w W' := by
  refine (callsIn_wide (n := 9)).1 ?_
  refine callsIn_of_wp_marks Try.func19 rfl trivial ?_ rfl
  simp only [Try.ntmps19, List.size_toArray, List.length_cons, List.length_nil, Nat.reduceAdd, Nat.reduceSub, Array.replicate_succ, Array.replicate_zero, List.push_toArray, List.append_toArray, List.nil_append, List.cons_append]
  gi_wp2_with (refine ⟨trivial, ?_⟩; gi_at_call 44; refine (all_in (9 - 1) q _).mono ?_; rintro e w' ⟨rfl, rfl⟩)
  have bo := Boxed.new w 3 (.int .i64 obj)
  have b0 := Boxed.new (w.alloc (.cells #[.int .i64 obj] 3)) 49 (.slice none 0 0)
  have b2 := Boxed.new ((w.alloc (.cells #[.int .i64 obj] 3)).alloc (.cells #[.slice none 0 0] 49)) 24 (.pointer (some ⟨q, 0, none⟩))
  simp only [World.size_alloc] at b0 b2
  have hB0 : Below w.heap.size w (((w.alloc (.cells #[.int .i64 obj] 3)).alloc (.cells #[.slice none 0 0] 49)).alloc (.cells #[.pointer (some ⟨q, 0, none⟩)] 24)) := (((Below.refl _ w).alloc (Nat.le_refl _) _).alloc (by simp) _).alloc (by simp; omega) _
  have hlt := hR.lt
  have hfew := hR.ts.few
  have hkb : ∀ b ∈ (w.heap.size + 1 + 1) :: qBlocks q l, b < (((w.alloc (.cells #[.int .i64 obj] 3)).alloc (.cells #[.slice none 0 0] 49)).alloc (.cells #[.pointer (some ⟨q, 0, none⟩)] 24)).heap.size := by
    intro b hb
    simp only [World.size_alloc]
    rcases List.mem_cons.1 hb with rfl | hb
    · omega
    · have := hlt b hb
      omega
  refine wpIn_rangeFunc_ownF (n := 9) rfl (by omega) (gf := 70) (lb := #[.pointer (some ⟨w.heap.size + 1 + 1, 0, none⟩)]) rfl trivial (enters_of Try.func70 (by kernel_rfl) rfl)
    (all_stops (9 - 1) (by omega) (w.heap.size + 1 + 1) q l _ b2 (hR.below hB0)) keepB_t (keepB_b hkb) (Below.refl _ _) (fun _ => rfl)
    (fun pre W => (∃ v, Boxed W (w.heap.size + 1) 49 v ∧ W.ownsRow w.heap.size 27 4 v (ofW (waitsOf pre) obj).length (flatW (ofW (waitsOf pre) obj)) ∧ True) ∧ Boxed W (w.heap.size + 1 + 1) 24 (.pointer (some ⟨q, 0, none⟩)) ∧ Boxed W w.heap.size 3 (.int .i64 obj) ∧ Below w.heap.size w W)
    (fun _ _ _ => False)
    (OwnFrom.and (Own.from (holdsRow_own w.heap.size (w.heap.size + 1) 49 27 4 (fun pre : List (In l) => (ofW (waitsOf pre) obj).length) (fun pre => flatW (ofW (waitsOf pre) obj)) (fun _ _ => True)) _) (OwnFrom.and (Own.from (fun s A B row hs hg hr => boxed_stay hs hg hr) _) (OwnFrom.and (Own.from (fun s A B row hs hg hr => boxed_stay hs hg hr) _) (ownFrom_below (Nat.le_refl _) (by simp; omega)))))
    (fun _ _ _ _ _ hs _ _ => hs)
    ⟨⟨_, b0.alloc _, row_nil' _ _ _ _, trivial⟩, b2, (bo.alloc _).alloc _, hB0⟩
    (fun x => { tmps := #[.pointer (some ⟨q, 0, none⟩), .int .i64 obj, undef, .pointer (some ⟨w.heap.size, 0, none⟩), .pointer (some ⟨w.heap.size + 1, 0, none⟩), .pointer (some ⟨x.1.1, 0, none⟩), .pointer (some ⟨q, 0, none⟩), .func (.func 70) #[] #[.pointer (some ⟨w.heap.size + 1 + 1, 0, none⟩)], .pointer (some ⟨x.1.1, 0, none⟩), undef, undef, undef, undef, undef, undef, undef, undef, undef, undef, undef, undef, undef, undef, undef], defers := [] }) ?assign ?body ?done ?stop
  case assign =>
    intro l x W K hK
    gi_wp2
    exact hK
  case body =>
    rintro l0 pre x W ⟨⟨v, hv, hrow, _⟩, hbq, hbo, hB⟩ hpl
    obtain ⟨A0, n0, c0, rfl⟩ := row_slice hrow
    obtain ⟨ah, nx, hL⟩ := (hR.below hB).seg.mem x.1 x.2
    have hc0 := hL.c0
    have hc1 := hL.c1
    have hc2 := hL.c2
    have hc3 := hL.c3
    have hcv := hv.cell
    have hco := hbo.cell
    have hmx : Try.prog.follows .mixedOrders = true := by kernel_rfl
    by_cases hx : x.1.2.obj = obj
    · have hxb : (x.1.2.obj == obj) = true := by simp [hx]
      have hof : ofW (waitsOf (pre ++ [x])) obj = ofW (waitsOf pre) obj ++ [x.1.2] := by rw [waitsOf_snoc, ofW_hit _ hx]
      have hlim : (ofW (waitsOf pre) obj).length ≤ pre.length := ofW_le pre obj
      obtain ⟨v', w1, hrun0, hown', hgrow0⟩ := run_app_wait (W := W.drew) w.heap.size x.1.2 hrow hB.size (by omega)
      have hrun : (Builtin.append_ #[49, 49] 49 #[.slice A0 n0 c0, .slice (some ⟨W.heap.size, 0, none⟩) 1 1]).run Try.prog ((W.alloc (.cells #[.int .i64 x.1.2.task, .int .i64 x.1.2.kind, .int .i64 x.1.2.obj, .int .u32 x.1.2.mask] 27)).drew.drew) = .ok v' w1 := hrun0
      simp [go_sem] at hrun
      have hgrow : (W.alloc (.cells #[.int .i64 x.1.2.task, .int .i64 x.1.2.kind, .int .i64 x.1.2.obj, .int .u32 x.1.2.mask] 27)).grownBy w1 (Value.slice A0 n0 c0).ownBlock := ⟨hgrow0.os, hgrow0.tape, hgrow0.output, hgrow0.size, hgrow0.block⟩
      clear hrun0 hgrow0
      obtain ⟨g', cap', rfl⟩ := ownsRow_succ hown'
      obtain ⟨hv1, hv2, hr2, hk2, hb2⟩ := hv.appended (by decide) hrow hB.size (by simp) hown' hgrow
      have hcv1 := hv1.cell
      have hfv1 := hv1.frozen
      have hlt1 := hv.lt
      have hlt2 : x.1.1 < W.heap.size := hL.lt
      have HOF := Lib.hid hof
      clear hx hof
      gi_wp2
      gi_region_with_o (fail)
      all_goals gi_wp2
      all_goals gi_region_with_o (fail)
      all_goals gi_wp2
      all_goals
        have hbq' : Boxed (w1.setCell ⟨w.heap.size + 1, 0, none⟩ (.slice (some ⟨g', 0, none⟩) ((ofW (waitsOf pre) obj).length + 1) cap')) (w.heap.size + 1 + 1) 24 (.pointer (some ⟨q, 0, none⟩)) :=
          (app_keep hgrow hbq.lt (hbq.not_row (by decide) hrow) (by omega)).trans hbq
        have hbo' : Boxed (w1.setCell ⟨w.heap.size + 1, 0, none⟩ (.slice (some ⟨g', 0, none⟩) ((ofW (waitsOf pre) obj).length + 1) cap')) w.heap.size 3 (.int .i64 obj) :=
          (app_keep hgrow hbo.lt (hbo.not_row (by decide) hrow) (by omega)).trans hbo
        refine ⟨hk2, ?_, ⟨⟨_, hv2, by rw [HOF.out, flatW_snoc]; simpa using hr2, trivial⟩, hbq', hbo', hB.trans hb2⟩⟩
        intro b hb
        rcases List.mem_cons.1 hb with rfl | hb
        · exact hbq'.trans hbq.symm
        · exact hb2.block b (hlt b hb)
    · have hxb : (x.1.2.obj == obj) = false := by simp [hx]
      have hof : ofW (waitsOf (pre ++ [x])) obj = ofW (waitsOf pre) obj := by rw [waitsOf_snoc, ofW_miss _ hx]
      have HOF := Lib.hid hof
      clear hx hof
      gi_wp2
      gi_region_with_o (fail)
      all_goals gi_wp2
      all_goals exact ⟨KeepsOthers.drew _, fun _ _ => rfl, ⟨⟨_, hv, by rw [HOF.out]; exact hrow, trivial⟩, hbq, hbo, hB.drew⟩⟩
  case done =>
    rintro D ys W hD hys ⟨⟨v, hv, hrow, _⟩, hbq, hbo, hB⟩ hK
    have hc := hv.cell
    have hf := hv.frozen
    obtain ⟨A0, n0, c0, rfl⟩ := row_slice hrow
    gi_wp2
    have hK' := (KeepsOthers.setCell W ⟨w.heap.size + 1, 0, none⟩ (.slice A0 n0 c0)).same D _ hK rfl
    refine ⟨by simp, .inl ⟨_, _, rfl, run_takeDeferred hK', ?_⟩⟩
    have hc5 := cell_kept (World.cell?_setCell_same' W ⟨w.heap.size + 1, 0, none⟩ (.slice A0 n0 c0) (by rw [hc]; rfl)) (grownBy_putObj' _ D (.deferred none)) (fun r e => by cases e; exact ⟨_, hK', rfl⟩)
    have hrow2 := ownsRow_putObj (hrow.kept (grownBy_setCell' W (w.heap.size + 1) (.slice A0 n0 c0)) (.inr (hv.not_row (by decide) hrow).symm)) (.deferred none) hK' rfl
    refine ⟨.slice A0 n0 c0, by simp [results, Try.results19, go_sem, hc5], _, rfl, ?_, ?_⟩
    · rw [← waits_all hys]
      exact hrow2
    · exact (hB.setCell (p := ⟨w.heap.size + 1, 0, none⟩) (by simp) _).trans (belowK_b (w := w) (Nat.le_refl _) _ D _ _ (by simp at hD; omega) hK' rfl rfl)
  case stop =>
    rintro D c pre W _ _ h _
    exact h.elim
end Go.Proofs.Ytkfaaeklkplhnaa
