/- The first words of a value: spec.clip and the document's Clip. -/
import Derived.Laws.IdiomCopy
import Derived.Test.YtkfaaeklkplhnaaWHolds
namespace Go.Proofs.Ytkfaaeklkplhnaa
open Go.RowKit

/-- A value: four words. -/
structure Vl where
  a : Int
  b : Int
  c : Int
  d : Int
abbrev Vl.cells (v : Vl) : List Value := [.int .u32 v.a, .int .u32 v.b, .int .u32 v.c, .int .u32 v.d]
abbrev Vl.agg (v : Vl) : Value := .agg #[.int .u32 v.a, .int .u32 v.b, .int .u32 v.c, .int .u32 v.d]
def Vl.z : Vl := ⟨0, 0, 0, 0⟩
def clipP (v : Vl) (n : Int) : Vl := ⟨if 0 < n then v.a else 0, if 1 < n then v.b else 0, if 2 < n then v.c else 0, if 3 < n then v.d else 0⟩

theorem infoU32 : (Try.prog.info? 25).map (·.size) = some 1 := by kernel_rfl
theorem run_copy_u32 {W : World} {g q : Nat} {a b c d : Int} {t t' : TypeId} (hs : W.heap[g]? = some (.cells #[.int .u32 a, .int .u32 b, .int .u32 c, .int .u32 d] t (0, 0))) {x : Array Value} (hx : x.size = 4)
    (hd : W.heap[q]? = some (.cells x t' (0, 0))) (n : Nat) (hn : n ≤ 4) :
    (Builtin.copy_ #[101, 101] 3 #[.slice (some ⟨q, 0, none⟩) 4 4, .slice (some ⟨g, 0, none⟩) n n]).run Try.prog W = .ok (goInt n) (W.setCells q 0 ((Vl.mk a b c d).cells.take n)) := by
  have hl : ((Vl.mk a b c d).cells.take n).length = n := by simp; omega
  have := run_copy_cells (P := Try.prog) W 101 101 3 25 q 0 4 4 ⟨g, 0, none⟩ n n ((Vl.mk a b c d).cells.take n) Try.underlying101 infoU32 (by rw [hl]; exact (Nat.min_eq_left hn).symm)
    (fun j v hv => by
      rw [Addr.add_mid, Nat.zero_add, blk_cell hs j]
      rw [List.getElem?_take] at hv
      split at hv
      · simpa using hv
      · cases hv)
    (fun j hj => by
      rw [hl] at hj
      rw [Nat.zero_add, blk_cell hd j, Array.getElem?_eq_getElem (by omega)]
      rfl) (fun j _ => blk_froz hd _)
    (fun v hv => by
      have := List.mem_of_mem_take hv
      simp at this
      rcases this with rfl | rfl | rfl | rfl <;> rfl)
  rw [hl] at this
  exact this

set_option maxRecDepth 100000 in
set_option maxHeartbeats 4000000 in
theorem clip_calls (v : Vl) (n : Int) (h0 : 0 ≤ n) (h4 : n ≤ 4) (w : World) :
    Calls Try.prog 46 #[v.agg, .int .i64 n] w fun e W' => e = .returned (clipP v n).agg ∧ Below w.heap.size w W' := by
  obtain ⟨a, b, c, d⟩ := v
  have hw1 : (w.alloc (.cells #[.int .u32 a, .int .u32 b, .int .u32 c, .int .u32 d] 58)).heap[w.heap.size]? = some (.cells #[.int .u32 a, .int .u32 b, .int .u32 c, .int .u32 d] 58) := heap_alloc_last w _
  have hw2 := heap_alloc_last (w.alloc (.cells #[.int .u32 a, .int .u32 b, .int .u32 c, .int .u32 d] 58)) (.cells #[.int .u32 0, .int .u32 0, .int .u32 0, .int .u32 0] 58)
  have hw3 := (Below.heap_alloc (w.alloc (.cells #[.int .u32 a, .int .u32 b, .int .u32 c, .int .u32 d] 58)) (.cells #[.int .u32 0, .int .u32 0, .int .u32 0, .int .u32 0] 58) w.heap.size (by simp)).trans hw1
  rw [World.size_alloc] at hw2
  have hc := fun n hn => run_copy_u32 (W := ((w.alloc (.cells #[.int .u32 a, .int .u32 b, .int .u32 c, .int .u32 d] 58)).alloc (.cells #[.int .u32 0, .int .u32 0, .int .u32 0, .int .u32 0] 58)).drew) hw3 rfl hw2 n hn
  have hb : Below w.heap.size w ((w.alloc (.cells #[.int .u32 a, .int .u32 b, .int .u32 c, .int .u32 d] 58)).alloc (.cells #[.int .u32 0, .int .u32 0, .int .u32 0, .int .u32 0] 58)).drew := (((Below.refl _ _).alloc (Nat.le_refl _) _).alloc (by simp) _).drew
  clear hw1 hw2 hw3
  obtain rfl | rfl | rfl | rfl | rfl : n = 0 ∨ n = 1 ∨ n = 2 ∨ n = 3 ∨ n = 4 := by omega
  · have hcc := hc 0 (by omega)
    simp only [List.take, World.setCells] at hcc
    clear hc
    go_enter Try.func46, Try.ntmps46
    go_wp2
    go_region
    all_goals
      go_wp2
      refine bodyPost_ret (v := (clipP ⟨a, b, c, d⟩ 0).agg) (by simp [results, Try.results46, go_sem, clipP]) rfl ⟨rfl, ?_⟩
      exact (((Below.refl _ _).alloc (Nat.le_refl _) _).alloc (by simp) _).drew
  · have hcc := hc 1 (by omega)
    simp only [List.take, World.setCells] at hcc
    clear hc
    go_enter Try.func46, Try.ntmps46
    go_wp2
    go_region
    all_goals
      go_wp2
      refine bodyPost_ret (v := (clipP ⟨a, b, c, d⟩ 1).agg) (by simp [results, Try.results46, go_sem, clipP]) rfl ⟨rfl, ?_⟩
      exact (((Below.refl _ _).alloc (Nat.le_refl _) _).alloc (by simp) _).drew
  · have hcc := hc 2 (by omega)
    simp only [List.take, World.setCells] at hcc
    clear hc
    go_enter Try.func46, Try.ntmps46
    go_wp2
    go_region
    all_goals
      go_wp2
      refine bodyPost_ret (v := (clipP ⟨a, b, c, d⟩ 2).agg) (by simp [results, Try.results46, go_sem, clipP]) rfl ⟨rfl, ?_⟩
      exact (((Below.refl _ _).alloc (Nat.le_refl _) _).alloc (by simp) _).drew
  · have hcc := hc 3 (by omega)
    simp only [List.take, World.setCells] at hcc
    clear hc
    go_enter Try.func46, Try.ntmps46
    go_wp2
    go_region
    all_goals
      go_wp2
      refine bodyPost_ret (v := (clipP ⟨a, b, c, d⟩ 3).agg) (by simp [results, Try.results46, go_sem, clipP]) rfl ⟨rfl, ?_⟩
      exact (((Below.refl _ _).alloc (Nat.le_refl _) _).alloc (by simp) _).drew
  · have hcc := hc 4 (by omega)
    simp only [List.take, World.setCells] at hcc
    clear hc
    go_enter Try.func46, Try.ntmps46
    go_wp2
    go_region
    all_goals
      go_wp2
      refine bodyPost_ret (v := (clipP ⟨a, b, c, d⟩ 4).agg) (by simp [results, Try.results46, go_sem, clipP]) rfl ⟨rfl, ?_⟩
      exact (((Below.refl _ _).alloc (Nat.le_refl _) _).alloc (by simp) _).drew
end Go.Proofs.Ytkfaaeklkplhnaa
