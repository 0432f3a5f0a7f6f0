/- The look for a task's link. -/
import Derived.Test.YtkfaaeklkplhnaaQIter
import Derived.Shelf.RegionOpen
namespace Go.Proofs.Ytkfaaeklkplhnaa
open Go.RowKit Go.Shelf
attribute [local go_sem] Oper.semAt_some

theorem cell_of_box_l {W : World} {B : Nat} {v : Value} {t : TypeId} (h : W.heap[B]? = some (.cells #[v] t (0, 0))) : W.cell? ⟨B, 0, none⟩ = some v ∧ W.frozen? ⟨B, 0, none⟩ = false := by
  constructor <;> simp [World.cell?, World.frozen?, h]
theorem cell_new_l (W : World) (v : Value) (t : TypeId) : (W.alloc (.cells #[v] t)).cell? ⟨W.heap.size, 0, none⟩ = some v ∧ (W.alloc (.cells #[v] t)).frozen? ⟨W.heap.size, 0, none⟩ = false :=
  cell_of_box_l (World.alloc_heap_new W _)
theorem cell_alloc_l {W : World} {a : Addr} {v : Value} (o : Obj) (h : W.cell? a = some v) : (W.alloc o).cell? a = some v := cell_kept h (World.grownBy_alloc W o none) (fun r e => by cases e)
theorem frozen_alloc_l {W : World} {a : Addr} {v : Value} (o : Obj) (h : W.cell? a = some v) (hf : W.frozen? a = false) : (W.alloc o).frozen? a = false := (frozen_kept h (World.grownBy_alloc W o none) (fun r e => by cases e)).trans hf

theorem findW_skip {l : List (Nat × Wt)} {t : Int} {pre : List (In l)} (hp : ∀ y ∈ pre, y.1.2.task ≠ t) (h : pre.map Subtype.val = l) : findW l t = none := by
  unfold findW
  rw [List.find?_eq_none]
  intro y hy
  rw [← h] at hy
  obtain ⟨z, hz, rfl⟩ := List.mem_map.1 hy
  simpa using hp z hz
theorem findW_hit {l : List (Nat × Wt)} {t : Int} {pre : List (In l)} {x : In l} (hp : ∀ y ∈ pre, y.1.2.task ≠ t) (hx : x.1.2.task = t) (h : (pre ++ [x]).map Subtype.val <+: l) : findW l t = some x.1 := by
  obtain ⟨r, hr⟩ := h
  unfold findW
  have : l = pre.map Subtype.val ++ (x.1 :: r) := by simpa using hr.symm
  rw [show List.find? (fun p => decide (p.2.task = t)) l = List.find? (fun p => decide (p.2.task = t)) (pre.map Subtype.val ++ (x.1 :: r)) from congrArg _ this]
  rw [List.find?_append]
  have h1 : List.find? (fun p => decide (p.2.task = t)) (pre.map Subtype.val) = none := by
    rw [List.find?_eq_none]
    intro y hy
    obtain ⟨z, hz, rfl⟩ := List.mem_map.1 hy
    simpa using hp z hz
  rw [h1]
  simp [hx]

set_option maxRecDepth 100000 in
set_option maxHeartbeats 2000000 in
theorem find_calls (q : Nat) (l : List (Nat × Wt)) (t : Int) (w : World) (hR : Ring w q l) :
    Calls Try.prog 43 #[.pointer (some ⟨q, 0, none⟩), .int .i64 t] w fun e W' => e = .returned (ptrOf (findW l t)) ∧ Below w.heap.size w W' := by
  refine (callsIn_wide (n := 9)).1 ?_
  refine callsIn_of_wp_marks Try.func43 rfl trivial ?_ rfl
  simp only [Try.ntmps43, List.size_toArray, List.length_cons, List.length_nil, Nat.reduceAdd, Nat.reduceSub, Array.replicate_succ, Array.replicate_zero, List.push_toArray, List.append_toArray, List.nil_append, List.cons_append]
  gi_wp2_with (refine ⟨trivial, ?_⟩; gi_at_call 44; refine (all_in (9 - 1) q _).mono ?_; rintro e w' ⟨rfl, rfl⟩)
  have b0 := Boxed.new w 3 (.int .i64 t)
  have b1 := Boxed.new (w.alloc (.cells #[.int .i64 t] 3)) 28 (.pointer none)
  have b2 := Boxed.new ((w.alloc (.cells #[.int .i64 t] 3)).alloc (.cells #[.pointer none] 28)) 24 (.pointer (some ⟨q, 0, none⟩))
  simp only [World.size_alloc] at b1 b2
  have hB0 : Below w.heap.size w (((w.alloc (.cells #[.int .i64 t] 3)).alloc (.cells #[.pointer none] 28)).alloc (.cells #[.pointer (some ⟨q, 0, none⟩)] 24)) := (((Below.refl _ w).alloc (Nat.le_refl _) _).alloc (by simp) _).alloc (by simp; omega) _
  have hlt := hR.lt
  have hkb : ∀ b ∈ (w.heap.size + 1 + 1) :: qBlocks q l, b < (((w.alloc (.cells #[.int .i64 t] 3)).alloc (.cells #[.pointer none] 28)).alloc (.cells #[.pointer (some ⟨q, 0, none⟩)] 24)).heap.size := by
    intro b hb
    simp only [World.size_alloc]
    rcases List.mem_cons.1 hb with rfl | hb
    · omega
    · have := hlt b hb
      omega
  refine wpIn_rangeFunc_ownF (n := 9) rfl (by omega) (gf := 70) (lb := #[.pointer (some ⟨w.heap.size + 1 + 1, 0, none⟩)]) rfl trivial (enters_of Try.func70 (by kernel_rfl) rfl)
    (all_stops (9 - 1) (by omega) (w.heap.size + 1 + 1) q l _ b2 (hR.below hB0)) keepB_t (keepB_b hkb) (Below.refl _ _) (fun _ => rfl)
    (fun pre W => ((∀ y ∈ pre, y.1.2.task ≠ t) ∧ Boxed W w.heap.size 3 (.int .i64 t) ∧ Boxed W (w.heap.size + 1) 28 (.pointer none)) ∧ Below w.heap.size w W)
    (fun c pre W => (c = .ret ∧ ∃ pr x, pre = pr ++ [x] ∧ (∀ y ∈ pr, y.1.2.task ≠ t) ∧ x.1.2.task = t ∧ Boxed W (w.heap.size + 1) 28 (.pointer (some ⟨x.1.1, 0, none⟩))) ∧ Below w.heap.size w W)
    (OwnFrom.and (Own.from (fun s A B row hs hg hr => ⟨hs.1, boxed_stay hs.2.1 hg hr, boxed_stay hs.2.2 hg hr⟩) _) (ownFrom_below (Nat.le_refl _) (by simp; omega)))
    (fun c => OwnFrom.and (Own.from (fun s A B row hs hg hr => by obtain ⟨rfl, pr, x, e, hp, hx, hb⟩ := hs; exact ⟨rfl, pr, x, e, hp, hx, boxed_stay hb hg hr⟩) _) (ownFrom_below (Nat.le_refl _) (by simp; omega)))
    ⟨⟨by simp, (b0.alloc _).alloc _, b1.alloc _⟩, hB0⟩
    (fun x => { tmps := #[.pointer (some ⟨q, 0, none⟩), .int .i64 t, undef, .pointer (some ⟨w.heap.size, 0, none⟩), .pointer (some ⟨w.heap.size + 1, 0, none⟩), .pointer (some ⟨x.1.1, 0, none⟩), .pointer (some ⟨q, 0, none⟩), .func (.func 70) #[] #[.pointer (some ⟨w.heap.size + 1 + 1, 0, none⟩)], .pointer (some ⟨x.1.1, 0, none⟩), undef, undef, undef, undef, undef, undef, undef, undef], defers := [] }) ?assign ?body ?done ?stop
  case assign =>
    intro l x W K hK
    gi_wp2
    exact hK
  case body =>
    rintro l0 pre x W ⟨⟨hp, hb0, hb1⟩, hB⟩ _
    obtain ⟨ah, nx, hL⟩ := (hR.below hB).seg.mem x.1 x.2
    have hc0 := hL.c0
    have hc1 := hb0.cell
    have hc2 := hb1.cell
    have hf2 := hb1.frozen
    have hmx : Try.prog.follows .mixedOrders = true := by kernel_rfl
    gi_wp2
    gi_region_with_o (fail)
    all_goals gi_wp2
    all_goals
      first
        | (have hx : (x.1.2.task == t) = true := by assumption
           exact ⟨(KeepsOthers.setCell _ _ _).trans (KeepsOthers.drew _), ⟨rfl, pre, x, rfl, hp, eq_of_beq hx, hb1.set _⟩, (hB.setCell (p := ⟨w.heap.size + 1, 0, none⟩) (by simp) _).drew⟩)
        | (have hx : (x.1.2.task == t) = false := by assumption
           exact ⟨KeepsOthers.drew _, fun _ _ => rfl, ⟨fun y hy => (List.mem_append.1 hy).elim (hp y) (fun e e' => by simp at e; subst e; simp [e'] at hx), hb0, hb1⟩, hB.drew⟩)
  case done =>
    rintro D ys W hD hys ⟨⟨hp, hb0, hb1⟩, hB⟩ hK
    have hc2 := hb1.cell
    have hf2 := hb1.frozen
    gi_wp2
    have hK' := (KeepsOthers.setCell W ⟨w.heap.size + 1, 0, none⟩ (.pointer none)).same D _ hK rfl
    refine ⟨by simp, .inl ⟨_, _, rfl, run_takeDeferred hK', ?_⟩⟩
    have hc5 := cell_kept (World.cell?_setCell_same' W ⟨w.heap.size + 1, 0, none⟩ (.pointer none) (by rw [hc2]; rfl)) (grownBy_putObj' _ D (.deferred none)) (fun r e => by cases e; exact ⟨_, hK', rfl⟩)
    refine ⟨.pointer none, by simp [results, Try.results43, go_sem, hc5], ?_, ?_⟩
    · rw [findW_skip hp hys]; rfl
    · exact (hB.setCell (p := ⟨w.heap.size + 1, 0, none⟩) (by simp) _).trans (belowK_b (w := w) (Nat.le_refl _) _ D _ _ (by simp at hD; omega) hK' rfl rfl)
  case stop =>
    rintro D c pre W hD hSp ⟨⟨rfl, pr, x, rfl, hp, hx, hb1⟩, hB⟩ hK
    have hc2 := hb1.cell
    gi_wp2
    refine ⟨by simp, .inl ⟨_, _, rfl, run_takeDeferred hK, ?_⟩⟩
    have hc5 := cell_kept hc2 (grownBy_putObj' _ D (.deferred none)) (fun r e => by cases e; exact ⟨_, hK, rfl⟩)
    refine ⟨.pointer (some ⟨x.1.1, 0, none⟩), by simp [results, Try.results43, go_sem, hc5], ?_, ?_⟩
    · rw [findW_hit hp hx hSp]; rfl
    · exact hB.trans (belowK_b (w := w) (Nat.le_refl _) _ D _ _ (by simp at hD; omega) hK rfl rfl)
end Go.Proofs.Ytkfaaeklkplhnaa
