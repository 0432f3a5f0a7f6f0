/- The law's alive; no objects. Printed by gen_law.py. -/
import Derived.Test.YtkfaaeklkplhnaaSAliveP
import Derived.Test.YtkfaaeklkplhnaaSStart
namespace Go.Proofs.Ytkfaaeklkplhnaa
open Go.RowKit

set_option maxRecDepth 100000 in
theorem alive_calls (w : World) :
    Calls Try.prog 22 #[] w fun e W' => e = .returned (.bool true) ∧ Below w.heap.size w W' := by
  refine enterF Try.func22 rfl Try.ntmps22 [] (by kernel_rfl) (by kernel_rfl) ?_
  have hR := Rep.start w
  obtain ⟨H0, hH0⟩ : ∃ x, x = w.heap.size := ⟨_, rfl⟩
  rw [← hH0] at hR
  intro a hE
  refine wp_seq ?_
  refine enterR (idx := [0]) (by kernel_rfl) ?_
  refine segV hE hR [(0, .op [])] [] [(0, .bool false)] [] (by kernel_rfl) (by kernel_rfl) (by kernel_rfl) trivial ?_
  clear hE hR; intro a u hE hR
  refine opsNil ?_; refine thenN ?_; refine wp_seq ?_
  refine enterR (idx := [0, 1, 2, 3]) (by kernel_rfl) ?_
  let kc1 : List Value := [.int .i64 1, .int .i64 1, .int .i64 1, .int .i64 0, .int .i64 0, .int .i64 0, .int .u32 0, .int .u32 0, .int .u32 0, .int .u32 0]
  refine segU hE hR [(0, .op []), (1, .op [])] [2, 3] [(9, .slice (some ⟨H0, 0, none⟩) 1 1)] [⟨H0, 0, kc1, 109, true⟩] (H0 + 1) [] (by kernel_rfl) (by kernel_rfl) (by kernel_rfl) trivial ?_
  clear hE hR; intro a u hE hR
  refine opsCons ?_
  refine call hE hR [] 23 #[.slice (some ⟨H0, 0, none⟩) 1 1] (some 10) [] (by kernel_rfl) (by kernel_rfl) trivial (alive_start _ _ (hR.rangeK 0 rfl)) (by rintro _ _ ⟨_, _, h, _⟩; cases h) (by rintro _ ⟨_, _, h, _⟩; cases h) ?_
  clear hE
  rintro s1 u1 ⟨s1x, L1, hv, hi1, hl1, hb⟩ a hE
  cases hv
  obtain ⟨H1, hH1, hR⟩ := hR.callE hb
  replace hR : Rep ((u1, fun _ => True) :: [(w, fun _ => True)]) u1 H1 [] [⟨H0, 0, kc1⟩] := hR.freeze
  refine segV hE hR [(3, .op [])] [] [(1, s1)] [] (by kernel_rfl) (by kernel_rfl) (by kernel_rfl) trivial ?_
  clear hE hR; intro a u hE hR
  refine opsNil ?_; refine thenN ?_; refine wp_seq ?_
  refine enterR (idx := [0, 1, 2, 3, 4, 5, 6, 7, 8, 9]) (by kernel_rfl) ?_
  let kv2 : Value := .agg #[.int .i64 1, .int .i64 0, .int .u32 5, .int .u32 0, .int .u32 0, .int .u32 0, .int .u32 0]
  refine segV hE hR [(0, .op []), (1, .op []), (2, .op [])] [3, 4, 5, 6, 7, 8, 9] [(12, s1), (14, kv2)] [] (by kernel_rfl) (by kernel_rfl) (by kernel_rfl) trivial ?_
  clear hE hR; intro a u hE hR
  refine opsCons ?_
  refine call hE hR [] 25 #[s1, kv2] (some 15) [] (by kernel_rfl) (by kernel_rfl) trivial (alive_do1 _ s1 L1 (hi1.below (hR.below (by simp))) hl1) (by rintro _ _ ⟨_, _, _, _, _, _, h, _⟩; cases h) (by rintro _ ⟨_, _, _, _, _, _, h, _⟩; cases h) ?_
  clear hE
  rintro v u2 ⟨g2, o2, c2, A2, r2, L2, hv, hi2, hl2, hr2, hb⟩ a hE
  cases hv
  obtain ⟨H2, hH2, hR⟩ := hR.callE hb
  replace hR : Rep ((u2, fun _ => True) :: ((u1, fun _ => True) :: [(w, fun _ => True)])) u2 H2 [] [⟨H0, 0, kc1⟩] := hR.freeze
  let kc3 : List Value := [.int .i64 1, .int .i64 1, .int .i64 1, .int .i64 0, .int .i64 0, .int .i64 0, .int .u32 0, .int .u32 0, .int .u32 0, .int .u32 0, .slice A2 1 r2, .int .u32 0, .int .u32 0, .int .u32 0, .int .u32 0]
  replace hR : Rep ((u2, fun _ => True) :: ((u1, fun _ => True) :: [(w, fun _ => True)])) u2 H2 [] [⟨g2, o2, kc3⟩, ⟨H0, 0, kc1⟩] := hR.addR (f := (u2, fun _ => True)) (by simp) ⟨g2, o2, _⟩ (range_lt hr2) trivial hr2
  let kc4 : List Value := [.int .i64 0, .int .u32 0, .int .u32 0, .int .u32 0, .int .u32 0]
  refine segU hE hR [(4, .op []), (5, .op []), (6, .op []), (7, .op []), (8, .op []), (9, .op (hks 0 0 5))] [] [(3, .pointer (some ⟨H2, 0, none⟩)), (2, .slice (some ⟨g2, o2, none⟩) 1 c2)] [⟨H2, 0, kc4, 63, true⟩] (H2 + 1) [] (by kernel_rfl) (by kernel_rfl) (by kernel_rfl) trivial ?_
  clear hE hR; intro a u hE hR
  refine opsNil ?_; refine thenN ?_; refine wp_seq ?_
  refine enterR (idx := [0, 1, 2, 3, 4, 5, 6, 7, 8, 9]) (by kernel_rfl) ?_
  let kv5 : Value := .agg #[.int .i64 1, .int .i64 0, .int .u32 6, .int .u32 0, .int .u32 0, .int .u32 0, .int .u32 0]
  refine segV hE hR [(0, .op []), (1, .op []), (2, .op [])] [3, 4, 5, 6, 7, 8, 9] [(19, .slice (some ⟨g2, o2, none⟩) 1 c2), (21, kv5)] [] (by kernel_rfl) (by kernel_rfl) (by kernel_rfl) trivial ?_
  clear hE hR; intro a u hE hR
  refine opsCons ?_
  refine call hE hR [] 25 #[.slice (some ⟨g2, o2, none⟩) 1 c2, kv5] (some 22) [] (by kernel_rfl) (by kernel_rfl) trivial (alive_do2 _ _ L2 (hi2.below (hR.below (by simp))) hl2) (by rintro _ _ ⟨_, h, _⟩; cases h) (by rintro _ ⟨_, h, _⟩; cases h) ?_
  clear hE
  rintro v u ⟨s3, hv, hb⟩ a hE
  cases hv
  obtain ⟨H3, hH3, hR⟩ := hR.callE hb
  let kc6 : List Value := [.int .i64 6, .int .u32 0, .int .u32 0, .int .u32 0, .int .u32 0]
  refine segU hE hR [(4, .op []), (5, .op []), (6, .op []), (7, .op []), (8, .op []), (9, .op (hks 0 0 5))] [] [(5, .pointer (some ⟨H3, 0, none⟩))] [⟨H3, 0, kc6, 63, true⟩, ⟨H2, 0, kc4, 63, true⟩] (H3 + 1) [] (by kernel_rfl) (by kernel_rfl) (by kernel_rfl) trivial ?_
  clear hE hR; intro a u hE hR
  refine opsNil ?_; refine thenN ?_; refine wp_seq ?_
  refine enterR (idx := [0, 1, 2, 3, 4, 5, 6, 7, 8, 9]) (by kernel_rfl) ?_
  let kv7 : Value := .agg #[.int .i64 14, .int .i64 0, .int .u32 6, .int .u32 0, .int .u32 0, .int .u32 0, .int .u32 0]
  let kv8 : Value := .agg #[.int .i64 9, .int .u32 0, .int .u32 0, .int .u32 0, .int .u32 0]
  refine seg0 hE hR [(0, .op []), (1, .op []), (2, .op []), (3, .op [])] [4, 5, 6, 7, 8, 9] [(0, .bool false), (3, .pointer (some ⟨H2, 0, none⟩)), (2, .slice (some ⟨g2, o2, none⟩) 1 c2), (5, .pointer (some ⟨H3, 0, none⟩)), (26, .slice (some ⟨g2, o2, none⟩) 1 c2), (28, kv7), (29, kv8)] [] (by kernel_rfl) (by kernel_rfl) (by kernel_rfl) trivial ?_
  clear hE hR; intro a u hE hR
  refine opsCons ?_
  refine call hE hR [] 27 #[.slice (some ⟨g2, o2, none⟩) 1 c2, kv7, kv8] (some 30) [] (by kernel_rfl) (by kernel_rfl) trivial (alive_al _ _ L2 (hi2.below (hR.below (by simp))) hl2) (by rintro _ _ ⟨_, h, _⟩; cases h) (by rintro _ ⟨_, h, _⟩; cases h) ?_
  clear hE
  rintro v u ⟨s4, hv, hb⟩ a hE
  cases hv
  obtain ⟨H4, hH4, hR⟩ := hR.callE hb
  refine segV hE hR [(5, .op []), (6, .op []), (7, .op []), (8, .op []), (9, .op [])] [] [(7, .bool true)] [] (by kernel_rfl) (by kernel_rfl) (by kernel_rfl) trivial ?_
  clear hE hR; intro a u hE hR
  refine opsNil ?_; refine thenN ?_; refine wp_seq ?_
  refine enterR (idx := [0, 1, 2, 3, 4, 5, 6, 7, 8, 9, 10, 11, 12, 13, 14, 15, 16, 17, 18, 19, 20, 21, 22, 23, 24]) (by kernel_rfl) ?_
  refine segV hE hR [(0, .op []), (1, .op [.k 1 0]), (2, .op []), (3, .op []), (4, .op []), (5, .op [.k 0 0]), (6, .op []), (7, .op []), (8, .op []), (9, .op []), (10, .op []), (11, .op []), (12, .op []), (13, .op []), (14, .op []), (15, .op []), (16, .op []), (17, .op []), (18, .op []), (19, .op []), (20, .op [.r 0 10]), (21, .op []), (22, .op []), (23, .op []), (24, .op [])] [] [(0, .bool true)] [true = true, true = true, true = true, true = true, true = true, true = true, true = true, true = true, true = true, true = true, true = true, true = true, true = true] (by kernel_rfl) (by kernel_rfl) (by kernel_rfl) ⟨rfl, rfl, rfl, rfl, rfl, rfl, rfl, rfl, rfl, rfl, rfl, rfl, rfl, trivial⟩ ?_
  clear hE hR; intro a u hE hR
  refine opsNil ?_; refine thenN ?_; refine wp_ret ?_
  refine retF hE hR [] (.bool true) (by kernel_rfl) (by kernel_rfl) (by kernel_rfl) ?_
  exact ⟨rfl, hR.below (by simp)⟩
set_option maxRecDepth 100000 in
theorem start_none (w : World) (A : Option Addr) (c : Nat) :
    Calls Try.prog 23 #[.slice A 0 c] w fun e W' => ∃ s L, e = .returned s ∧ ItemsR W' s L ∧ itms L = [] ∧ Below w.heap.size w W' := by
  refine enterF Try.func23 rfl Try.ntmps23 [(0, .slice A 0 c)] (by kernel_rfl) (by kernel_rfl) ?_
  have hR := Rep.start w
  obtain ⟨H0, hH0⟩ : ∃ x, x = w.heap.size := ⟨_, rfl⟩
  rw [← hH0] at hR
  intro a hE
  refine wp_seq ?_
  refine enterR (idx := [0]) (by kernel_rfl) ?_
  refine segV hE hR [(0, .op [])] [] [(2, .slice none 0 0)] [] (by kernel_rfl) (by kernel_rfl) (by kernel_rfl) trivial ?_
  clear hE hR; intro a u hE hR
  refine opsNil ?_; refine thenN ?_; refine wp_seq ?_; refine wp_seq ?_
  refine enterR (idx := [0, 1, 2]) (by kernel_rfl) ?_
  refine segV hE hR [(0, .op []), (1, .op []), (2, .op [])] [] [(6, .slice A 0 c), (7, .int .i64 0), (8, .int .i64 0)] [] (by kernel_rfl) (by kernel_rfl) (by kernel_rfl) trivial ?_
  clear hE hR; intro a u hE hR
  refine opsNil ?_; refine thenN ?_; refine wp_block ?_
  refine wp_loop_rounds 1 ?_
  rw [rounds_succ]
  refine wp_seq ?_
  refine enterR (idx := [0]) (by kernel_rfl) ?_
  refine segV hE hR [(0, .op [])] [] [(9, .bool false)] [] (by kernel_rfl) (by kernel_rfl) (by kernel_rfl) trivial ?_
  clear hE hR; intro a u hE hR
  refine opsNil ?_; refine thenN ?_; refine wp_seq ?_
  refine condF hE (b := false) (by kernel_rfl) rfl ?_
  refine wp_exit ?_; refine thenE ?_; refine thenE ?_; refine blkE ?_; refine thenN ?_; refine wp_seq ?_
  refine enterR (idx := [0, 1]) (by kernel_rfl) ?_
  refine segV hE hR [(0, .op []), (1, .op [])] [] [] [] (by kernel_rfl) (by kernel_rfl) (by kernel_rfl) trivial ?_
  clear hE hR; intro a u hE hR
  refine opsNil ?_; refine thenN ?_; refine wp_ret ?_
  refine retF hE hR [] (.slice none 0 0) (by kernel_rfl) (by kernel_rfl) (by kernel_rfl) ?_
  exact ⟨_, [], rfl, ItemsR.nil _, rfl, hR.below (by simp)⟩
set_option maxRecDepth 100000 in
theorem startR_none (w : World) (A : Option Addr) (c : Nat) :
    Calls Try.prog 24 #[.slice A 0 c] w fun e W' => ∃ s L, e = .returned s ∧ ItemsR W' s L ∧ itms L = [] ∧ Below w.heap.size w W' := by
  refine enterF Try.func24 rfl Try.ntmps24 [(0, .slice A 0 c)] (by kernel_rfl) (by kernel_rfl) ?_
  have hR := Rep.start w
  obtain ⟨H0, hH0⟩ : ∃ x, x = w.heap.size := ⟨_, rfl⟩
  rw [← hH0] at hR
  intro a hE
  refine wp_seq ?_
  refine enterR (idx := [0]) (by kernel_rfl) ?_
  refine segV hE hR [(0, .op [])] [] [(2, .slice none 0 0)] [] (by kernel_rfl) (by kernel_rfl) (by kernel_rfl) trivial ?_
  clear hE hR; intro a u hE hR
  refine opsNil ?_; refine thenN ?_; refine wp_seq ?_
  refine enterR (idx := [0]) (by kernel_rfl) ?_
  refine segV hE hR [(0, .op [])] [] [(3, .slice none 0 0)] [] (by kernel_rfl) (by kernel_rfl) (by kernel_rfl) trivial ?_
  clear hE hR; intro a u hE hR
  refine opsNil ?_; refine thenN ?_; refine wp_seq ?_; refine wp_seq ?_
  refine enterR (idx := [0]) (by kernel_rfl) ?_
  refine segV hE hR [(0, .op [])] [] [(4, .int .i64 0)] [] (by kernel_rfl) (by kernel_rfl) (by kernel_rfl) trivial ?_
  clear hE hR; intro a u hE hR
  refine opsNil ?_; refine thenN ?_; refine wp_block ?_
  refine wp_loop_rounds 1 ?_
  rw [rounds_succ]
  refine wp_seq ?_; refine wp_seq ?_
  refine enterR (idx := [0, 1, 2, 3]) (by kernel_rfl) ?_
  refine segV hE hR [(0, .op []), (1, .op []), (2, .op []), (3, .op [])] [] [(6, .int .i64 0), (7, .slice A 0 c), (8, .int .i64 0), (9, .bool false)] [] (by kernel_rfl) (by kernel_rfl) (by kernel_rfl) trivial ?_
  clear hE hR; intro a u hE hR
  refine opsNil ?_; refine thenN ?_
  refine condF hE (b := false) (by kernel_rfl) rfl ?_
  refine wp_exit ?_; refine thenE ?_; refine thenE ?_; refine blkE ?_; refine thenN ?_; refine wp_seq ?_
  refine enterR (idx := [0, 1]) (by kernel_rfl) ?_
  refine segV hE hR [(0, .op []), (1, .op [])] [] [] [] (by kernel_rfl) (by kernel_rfl) (by kernel_rfl) trivial ?_
  clear hE hR; intro a u hE hR
  refine opsNil ?_; refine thenN ?_; refine wp_ret ?_
  refine retF hE hR [] (.slice none 0 0) (by kernel_rfl) (by kernel_rfl) (by kernel_rfl) ?_
  exact ⟨_, [], rfl, ItemsR.nil _, rfl, hR.below (by simp)⟩
end Go.Proofs.Ytkfaaeklkplhnaa
