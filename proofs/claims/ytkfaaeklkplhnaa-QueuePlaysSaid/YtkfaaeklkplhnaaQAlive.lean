/- The chapter's example. -/
import Derived.Test.YtkfaaeklkplhnaaQLawP
namespace Go.Proofs.Ytkfaaeklkplhnaa
open Go.RowKit Go.Shelf

theorem Ring.new (W : World) : Ring (W.alloc (.cells #[.int .i64 0, .int .i64 0, .int .i64 0, .int .u32 0, .pointer none, .pointer none, .int .i64 0] 32)) W.heap.size [] :=
  ⟨by rw [qBlocks_eq]; simp, ⟨_, _, World.alloc_heap_new W _, fun h => absurd rfl h⟩, trivial, ⟨by simp, by simp⟩⟩

theorem qb_ge {q B : Nat} {l : List (Nat × Wt)} {b : Nat} {x : Wt} (h : ∀ c ∈ qBlocks q l, B ≤ c) (hb : B ≤ b) : ∀ c ∈ qBlocks q (l ++ [(b, x)]), B ≤ c := by
  intro c hc
  rw [qBlocks_eq, List.map_append] at hc
  rw [qBlocks_eq] at h
  rcases List.mem_cons.1 hc with rfl | hc
  · exact h _ List.mem_cons_self
  · rcases List.mem_append.1 hc with hc | hc
    · exact h c (List.mem_cons_of_mem _ hc)
    · simp at hc
      omega

set_option maxHeartbeats 1000000 in
theorem alive_calls (w : World) :
    Calls Try.prog 7 #[] w fun e W' => e = .returned (.bool true) ∧ Below w.heap.size w W' := by
  go_enter Try.func7, Try.ntmps7
  have hR0 := Ring.new w
  have hB0 : Below w.heap.size w (w.alloc (.cells #[.int .i64 0, .int .i64 0, .int .i64 0, .int .u32 0, .pointer none, .pointer none, .int .i64 0] 32)) := (Below.refl _ _).alloc (Nat.le_refl _) _
  have hs0 : w.heap.size ≤ (w.alloc (.cells #[.int .i64 0, .int .i64 0, .int .i64 0, .int .u32 0, .pointer none, .pointer none, .int .i64 0] 32)).heap.size := hB0.size
  have hq0 : ∀ c ∈ qBlocks w.heap.size [], w.heap.size ≤ c := by rw [qBlocks_eq]; simp
  go_wp2_with fail
  refine (add_new w.heap.size [] ⟨1, 0, 0, 0⟩ _ hR0 (by decide) (by decide) rfl).mono ?_
  rintro e w1 ⟨rfl, ⟨b1, hb1, hR1⟩, hc1⟩
  have hB1 := hc1.below hB0 hs0 hq0
  have hq1 := qb_ge (x := ⟨1, 0, 0, 0⟩) hq0 (Nat.le_trans hs0 hb1)
  clear hR0 hc1 hb1
  go_wp2_with fail
  refine (add_new w.heap.size ([] ++ [(b1, ⟨1, 0, 0, 0⟩)]) ⟨2, 0, 0, 0⟩ _ hR1 (by decide) (by decide) rfl).mono ?_
  rintro e w2 ⟨rfl, ⟨b2, hb2, hR2⟩, hc2⟩
  have hB2 := hc2.below hB1 hB1.size hq1
  have hq2 := qb_ge (x := ⟨2, 0, 0, 0⟩) hq1 (Nat.le_trans hB1.size hb2)
  clear hR1 hc2 hb2
  go_wp2_with fail
  refine (add_new w.heap.size ([] ++ [(b1, ⟨1, 0, 0, 0⟩)] ++ [(b2, ⟨2, 0, 0, 0⟩)]) ⟨3, 0, 0, 0⟩ _ hR2 (by decide) (by decide) rfl).mono ?_
  rintro e w3 ⟨rfl, ⟨b3, hb3, hR3⟩, hc3⟩
  have hB3 := hc3.below hB2 hB2.size hq2
  have hq3 := qb_ge (x := ⟨3, 0, 0, 0⟩) hq2 (Nat.le_trans hB2.size hb3)
  clear hR2 hc3 hb3
  go_wp2_with fail
  refine (remove_some w.heap.size [(b1, ⟨1, 0, 0, 0⟩)] [(b3, ⟨3, 0, 0, 0⟩)] 2 (b2, ⟨2, 0, 0, 0⟩) _ hR3 rfl).mono ?_
  rintro e w4 ⟨rfl, hR4, hc4⟩
  have hB4 := hc4.below hB3 hB3.size hq3
  clear hR3 hc4 hq0 hq1 hq2 hq3 hB0 hB1 hB2 hB3 hs0
  go_wp2_with fail
  refine (next_calls w.heap.size _ 1 _ hR4).mono ?_
  rintro e w5 ⟨rfl, hb5⟩
  have hn5 : tellW (nextW ([(b1, (⟨1, 0, 0, 0⟩ : Wt))] ++ [(b3, ⟨3, 0, 0, 0⟩)]) 1) = .tuple #[.agg #[.int .i64 3, .int .i64 0, .int .i64 0, .int .u32 0], .bool true] := rfl
  rw [hn5]
  have hB5 := hB4.trans (hb5.mono hB4.size)
  have hR5 := hR4.below hb5
  clear hn5 hR4 hb5
  go_wp2_with fail
  have hs5 := hB5.size
  have hb5' : Below w.heap.size w (w5.alloc (.cells #[.int .i64 3, .int .i64 0, .int .i64 0, .int .u32 0] 27)) := hB5.alloc hB5.size _
  have hR5' := hR5.below ((Below.refl _ w5).alloc (Nat.le_refl _) (.cells #[.int .i64 3, .int .i64 0, .int .i64 0, .int .u32 0] 27))
  refine (next_calls w.heap.size _ 2 _ hR5').mono ?_
  rintro e w6 ⟨rfl, hb6⟩
  have hn6 : tellW (nextW ([(b1, (⟨1, 0, 0, 0⟩ : Wt))] ++ [(b3, ⟨3, 0, 0, 0⟩)]) 2) = .tuple #[.agg #[.int .i64 1, .int .i64 0, .int .i64 0, .int .u32 0], .bool true] := rfl
  rw [hn6]
  obtain ⟨c0, c1, c2, c3, f0, f1, f2, f3⟩ := blk4 (own_first hb6)
  have hB6 := hb5'.trans (hb6.mono hb5'.size)
  have hR6 := hR5'.below hb6
  have hs6 : w5.heap.size < w6.heap.size := by have := hb6.size; simp at this; omega
  have hB7 : Below w.heap.size w (w6.alloc (.cells #[.int .i64 1, .int .i64 0, .int .i64 0, .int .u32 0] 27)) := hB6.alloc hB6.size _
  have hR7 := hR6.below ((Below.refl _ w6).alloc (Nat.le_refl _) (.cells #[.int .i64 1, .int .i64 0, .int .i64 0, .int .u32 0] 27))
  clear hn6 hR5 hb6 hb5' hB5 hR5' hB6 hR6
  go_wp2_with fail
  refine (len_calls w.heap.size _ _ hR7).mono ?_
  rintro e w7 ⟨rfl, rfl⟩
  go_wp2_with fail
  go_ret
  exact ⟨rfl, hB7⟩
end Go.Proofs.Ytkfaaeklkplhnaa
