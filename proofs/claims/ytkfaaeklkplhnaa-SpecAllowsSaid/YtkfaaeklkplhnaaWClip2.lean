/- The first words of a value, by the document. -/
import Derived.Test.YtkfaaeklkplhnaaWClip
namespace Go.Proofs.Ytkfaaeklkplhnaa
open Go.RowKit

theorem clipP_zero (v : Vl) (n : Int) (h : n ≤ 0) : clipP v n = clipP v 0 := by
  unfold clipP
  rw [if_neg (by omega), if_neg (by omega), if_neg (by omega), if_neg (by omega)]
  rfl
set_option maxRecDepth 100000 in
set_option maxHeartbeats 4000000 in
theorem clip2_calls (v : Vl) (n : Int) (h0 : 0 ≤ n) (h4 : n ≤ 4) (w : World) :
    Calls Try.prog 48 #[v.agg, .int .i64 n] w fun e W' => e = .returned (clipP v n).agg ∧ Below w.heap.size w W' := by
  obtain ⟨a, b, c, d⟩ := v
  obtain rfl | rfl | rfl | rfl | rfl : n = 0 ∨ n = 1 ∨ n = 2 ∨ n = 3 ∨ n = 4 := by omega
  · go_enter Try.func48, Try.ntmps48
    go_wp2
    refine wp_loop_rounds 1 ?_
    iterate 1 (rw [rounds_succ]; go_wp2)
    exact bodyPost_ret (v := (clipP ⟨a, b, c, d⟩ 0).agg) (by simp [results, Try.results48, go_sem, clipP]) rfl ⟨rfl, (((Below.refl _ _).alloc (Nat.le_refl _) _).alloc (by simp only [World.size_alloc]; omega) _).alloc (by simp only [World.size_alloc]; omega) _⟩
  · go_enter Try.func48, Try.ntmps48
    go_wp2
    refine wp_loop_rounds 2 ?_
    iterate 2 (rw [rounds_succ]; go_wp2)
    exact bodyPost_ret (v := (clipP ⟨a, b, c, d⟩ 1).agg) (by simp [results, Try.results48, go_sem, clipP]) rfl ⟨rfl, (((Below.refl _ _).alloc (Nat.le_refl _) _).alloc (by simp only [World.size_alloc]; omega) _).alloc (by simp only [World.size_alloc]; omega) _⟩
  · go_enter Try.func48, Try.ntmps48
    go_wp2
    refine wp_loop_rounds 3 ?_
    iterate 3 (rw [rounds_succ]; go_wp2)
    exact bodyPost_ret (v := (clipP ⟨a, b, c, d⟩ 2).agg) (by simp [results, Try.results48, go_sem, clipP]) rfl ⟨rfl, (((Below.refl _ _).alloc (Nat.le_refl _) _).alloc (by simp only [World.size_alloc]; omega) _).alloc (by simp only [World.size_alloc]; omega) _⟩
  · go_enter Try.func48, Try.ntmps48
    go_wp2
    refine wp_loop_rounds 4 ?_
    iterate 4 (rw [rounds_succ]; go_wp2)
    exact bodyPost_ret (v := (clipP ⟨a, b, c, d⟩ 3).agg) (by simp [results, Try.results48, go_sem, clipP]) rfl ⟨rfl, (((Below.refl _ _).alloc (Nat.le_refl _) _).alloc (by simp only [World.size_alloc]; omega) _).alloc (by simp only [World.size_alloc]; omega) _⟩
  · go_enter Try.func48, Try.ntmps48
    go_wp2
    refine wp_loop_rounds 5 ?_
    iterate 5 (rw [rounds_succ]; go_wp2)
    exact bodyPost_ret (v := (clipP ⟨a, b, c, d⟩ 4).agg) (by simp [results, Try.results48, go_sem, clipP]) rfl ⟨rfl, (((Below.refl _ _).alloc (Nat.le_refl _) _).alloc (by simp only [World.size_alloc]; omega) _).alloc (by simp only [World.size_alloc]; omega) _⟩
end Go.Proofs.Ytkfaaeklkplhnaa
