/- The document's Do, leaf by leaf. Printed by gen_ref.py. -/
import Derived.Test.YtkfaaeklkplhnaaSRefP
namespace Go.Proofs.Ytkfaaeklkplhnaa
open Go.RowKit

set_option maxRecDepth 100000 in
theorem ref_send_full (g off c : Nat) (L : List IV) (o : Ob) (row : List Vl) (v : Vl) (ck : Int) (i : Nat) (cv : Vl) (cn : Int) (w : World) (hck : -9223372036854775808 ≤ ck ∧ ck ≤ 9223372036854775807) (hK : plainP ck = 1) (hi : i < L.length) (_ : L.length ≤ 8) (HC : ∀ W, Below w.heap.size w W → Calls Try.prog 52 #[.slice (some ⟨g, off, none⟩) L.length c] W (CopyAt L i ⟨o, row, v⟩ W)) (hrt : rightP o = true) (hkk : o.kind = 1) (hfull : o.cap ≤ (row.length : Int)) :
    Calls Try.prog 26 #[.slice (some ⟨g, off, none⟩) L.length c, .agg #[.int .i64 ck, .int .i64 ((i : Nat) : Int), .int .u32 cv.a, .int .u32 cv.b, .int .u32 cv.c, .int .u32 cv.d, .int .u32 cn]] w fun e W' => e = .returned (.tuple #[.slice (some ⟨g, off, none⟩) L.length c, resA 6 Vl.z]) ∧ Below w.heap.size w W' := by
  have hpl := fun W => plain2B_calls ck W hck
  rw [hK] at hpl
  have HRt := fun W => right2_calls o W
  rw [hrt] at HRt
  let kv1 : Value := .agg #[.int .i64 ck, .int .i64 ((i : Nat) : Int), .int .u32 cv.a, .int .u32 cv.b, .int .u32 cv.c, .int .u32 cv.d, .int .u32 cn]
  refine enterF Try.func26 rfl Try.ntmps26 [(0, .slice (some ⟨g, off, none⟩) L.length c), (1, kv1)] (by kernel_rfl) (by kernel_rfl) ?_
  have hR := Rep.start w
  obtain ⟨H0, hH0⟩ : ∃ x, x = w.heap.size := ⟨_, rfl⟩
  rw [← hH0] at hR
  intro a hE
  refine wp_seq ?_
  refine enterR (idx := [0, 1, 2]) (by kernel_rfl) ?_
  let kc2 : List Value := [.int .i64 0, .int .u32 0, .int .u32 0, .int .u32 0, .int .u32 0]
  let kc3 : List Value := [.int .i64 ck, .int .i64 ((i : Nat) : Int), .int .u32 cv.a, .int .u32 cv.b, .int .u32 cv.c, .int .u32 cv.d, .int .u32 cn]
  refine segU hE hR [(0, .op []), (1, .op []), (2, .op [])] [] [(3, .pointer (some ⟨H0, 0, none⟩)), (4, .slice none 0 0), (5, .pointer (some ⟨H0 + 1, 0, none⟩))] [⟨H0 + 1, 0, kc2, 63, true⟩, ⟨H0, 0, kc3, 60, true⟩] (H0 + 2) [] (by kernel_rfl) (by kernel_rfl) (by kernel_rfl) trivial ?_
  clear hE hR; intro a u hE hR
  refine opsNil ?_; refine thenN ?_; refine wp_seq ?_
  refine enterR (idx := [0, 1, 2, 3]) (by kernel_rfl) ?_
  refine segV hE hR [(0, .op []), (1, .op [.k 1 0])] [2, 3] [(13, .int .i64 ck)] [] (by kernel_rfl) (by kernel_rfl) (by kernel_rfl) trivial ?_
  clear hE hR; intro a u hE hR
  refine opsCons ?_
  refine call hE hR [] 51 #[.int .i64 ck] (some 14) [] (by kernel_rfl) (by kernel_rfl) trivial (hpl _) (fun _ _ h => by cases h.1) (fun _ h => by cases h.1) ?_
  clear hE
  rintro v u ⟨hv, hb⟩ a hE
  cases hv
  obtain ⟨H1, hH1, hR⟩ := hR.callE hb
  refine segV hE hR [(3, .op [])] [] [(6, .int .i64 1)] [] (by kernel_rfl) (by kernel_rfl) (by kernel_rfl) trivial ?_
  clear hE hR; intro a u hE hR
  refine opsNil ?_; refine thenN ?_; refine wp_seq ?_; refine wp_seq ?_
  refine enterR (idx := [0, 1, 2, 3, 4, 5, 6, 7, 8, 9, 10, 11, 12, 13, 14]) (by kernel_rfl) ?_
  refine segV hE hR [(0, .op []), (1, .op []), (2, .op []), (3, .op []), (4, .op []), (5, .op []), (6, .op []), (7, .skip), (8, .skip), (9, .op []), (10, .op []), (11, .skip), (12, .skip), (13, .op []), (14, .op [])] [] [(29, .bool false)] [true = !false, true = !false, true = !false, true = !false, true = true, true = true] (by kernel_rfl) (by kernel_rfl) (by kernel_rfl) ⟨rfl, rfl, rfl, rfl, rfl, rfl, trivial⟩ ?_
  clear hE hR; intro a u hE hR
  refine opsNil ?_; refine thenN ?_
  refine condF hE (b := false) (by kernel_rfl) rfl ?_
  refine wp_skip ?_; refine thenN ?_; refine wp_seq ?_; refine wp_seq ?_
  refine enterR (idx := [0, 1, 2, 3, 4, 5, 6, 7, 8, 9]) (by kernel_rfl) ?_
  refine segV hE hR [(0, .op []), (1, .op [.k 1 1]), (2, .as [] (.bool false)), (3, .op []), (4, .op []), (5, .op [.k 1 1]), (6, .op []), (7, .op []), (8, .as [] (.bool false)), (9, .op [])] [] [(41, .bool false)] [(.bool (decide (((i : Nat) : Int) ≥ ((L.length : Nat) : Int))) : Value) = (.bool false : Value), false = false, false = false, false = false, false = false, false = false, (.bool (decide (((i : Nat) : Int) < 0)) : Value) = (.bool false : Value)] (by kernel_rfl) (by kernel_rfl) (by kernel_rfl) ⟨congrArg Value.bool (decide_eq_false (by omega)), rfl, rfl, rfl, rfl, rfl, congrArg Value.bool (decide_eq_false (by omega)), trivial⟩ ?_
  clear hE hR; intro a u hE hR
  refine opsNil ?_; refine thenN ?_
  refine condF hE (b := false) (by kernel_rfl) rfl ?_
  refine wp_skip ?_; refine thenN ?_; refine wp_seq ?_
  refine enterR (idx := [0, 1, 2]) (by kernel_rfl) ?_
  refine segV hE hR [(0, .op [])] [1, 2] [(44, .slice (some ⟨g, off, none⟩) L.length c)] [] (by kernel_rfl) (by kernel_rfl) (by kernel_rfl) trivial ?_
  clear hE hR; intro a u hE hR
  refine opsCons ?_
  refine call hE hR [] 52 #[.slice (some ⟨g, off, none⟩) L.length c] (some 45) [] (by kernel_rfl) (by kernel_rfl) trivial (HC _ (hR.below (by simp))) (by rintro _ _ ⟨_, _, _, _, _, _, _, _, _, _, h, _⟩; cases h) (by rintro _ ⟨_, _, _, _, _, _, _, _, _, _, h, _⟩; cases h) ?_
  clear hE
  rintro v u ⟨g2, cap2, pr, po, gr, cr, rest, rs, ob, L2, hv, hcf, Hc, hRc⟩ a hE
  cases hv
  let kc4 : List Value := [.int .i64 o.kind, .int .i64 o.cap, .int .i64 o.width, .int .i64 o.retry, .int .i64 o.src, .int .i64 o.dst, .int .u32 o.i0, .int .u32 o.i1, .int .u32 o.i2, .int .u32 o.i3, .slice (some ⟨gr, 0, none⟩) row.length cr, .int .u32 v.a, .int .u32 v.b, .int .u32 v.c, .int .u32 v.d]
  replace hR : Rep [(w, fun _ => True)] u Hc (⟨H0 + 1, 0, kc2, 63, true⟩ :: ⟨H0, 0, kc3, 60, true⟩ :: ⟨g2, 0 + i * 15, kc4, 118, false⟩ :: ⟨g2, 0, pr, 118, false⟩ :: ⟨g2, 0 + i * 15 + 15, po, 118, false⟩ :: (rs ++ ob)) [] := hR.join hRc
  refine segV hE hR [(2, .op [])] [] [(7, .slice (some ⟨g2, 0, none⟩) L.length cap2)] [] (by kernel_rfl) (by kernel_rfl) (by kernel_rfl) trivial ?_
  clear hE hR; intro a u hE hR
  refine opsNil ?_; refine thenN ?_; refine wp_seq ?_
  refine enterR (idx := [0, 1, 2, 3, 4]) (by kernel_rfl) ?_
  refine seg0 hE hR [(0, .op []), (1, .op []), (2, .op [.k 1 1]), (3, .alt (.pointer (some ⟨g2, 0 + i * 15, none⟩))), (4, .op [])] [] [(0, .slice (some ⟨g, off, none⟩) L.length c), (3, .pointer (some ⟨H0, 0, none⟩)), (4, .slice none 0 0), (5, .pointer (some ⟨H0 + 1, 0, none⟩)), (6, .int .i64 1), (29, .bool false), (41, .bool false), (7, .slice (some ⟨g2, 0, none⟩) L.length cap2), (8, .pointer (some ⟨g2, 0 + i * 15, none⟩))] [(0 ≤ (((i : Nat) : Int) : Int) ∧ (((i : Nat) : Int) : Int) < ((L.length : Nat) : Int)) ∧ (Try.prog.info? 118).isSome = true, (.pointer (some ⟨g2, 0 + (((i : Nat) : Int)).toNat * Try.prog.cellsOf 118, none⟩) : Value) = (.pointer (some ⟨g2, 0 + i * 15, none⟩) : Value)] (by kernel_rfl) (by kernel_rfl) (by kernel_rfl) ⟨⟨⟨by omega, by omega⟩, by kernel_rfl⟩, by kernel_rfl, trivial⟩ ?_
  clear hE hR; intro a u hE hR
  refine opsNil ?_; refine thenN ?_; refine wp_seq ?_
  refine enterR (idx := [0]) (by kernel_rfl) ?_
  refine segV hE hR [(0, .op [])] [] [(9, .int .i64 0)] [] (by kernel_rfl) (by kernel_rfl) (by kernel_rfl) trivial ?_
  clear hE hR; intro a u hE hR
  refine opsNil ?_; refine thenN ?_; refine wp_seq ?_; refine wp_seq ?_
  refine enterR (idx := [0, 1, 2, 3, 4]) (by kernel_rfl) ?_
  let kv5 : Value := .agg #[.int .i64 o.kind, .int .i64 o.cap, .int .i64 o.width, .int .i64 o.retry, .int .i64 o.src, .int .i64 o.dst, .int .u32 o.i0, .int .u32 o.i1, .int .u32 o.i2, .int .u32 o.i3]
  refine segV hE hR [(0, .op []), (1, .op []), (2, .op []), (3, .op (hks 2 0 10))] [4] [(53, kv5)] [] (by kernel_rfl) (by kernel_rfl) (by kernel_rfl) trivial ?_
  clear hE hR; intro a u hE hR
  refine opsCons ?_
  refine call hE hR [] 47 #[kv5] (some 54) [] (by kernel_rfl) (by kernel_rfl) trivial (HRt _) (fun _ _ h => by cases h.1) (fun _ h => by cases h.1) ?_
  clear hE
  rintro v u ⟨hv, hb⟩ a hE
  cases hv
  obtain ⟨H2, hH2, hR⟩ := hR.callE hb
  refine opsNil ?_; refine thenN ?_
  refine condT hE (b := true) (by kernel_rfl) rfl ?_
  refine enterR (idx := [0, 1, 2, 3, 4, 5]) (by kernel_rfl) ?_
  refine segV hE hR [(0, .op []), (1, .op []), (2, .op []), (3, .op []), (4, .op [.k 2 0]), (5, .op [])] [] [(9, .int .i64 o.kind)] [] (by kernel_rfl) (by kernel_rfl) (by kernel_rfl) trivial ?_
  clear hE hR; intro a u hE hR
  refine opsNil ?_; refine thenN ?_; refine wp_seq ?_
  refine enterR (idx := [0, 1, 2, 3, 4, 5]) (by kernel_rfl) ?_
  refine segV hE hR [(0, .op []), (1, .op []), (2, .op []), (3, .op []), (4, .op [.k 2 11]), (5, .op [])] [] [(10, .int .u32 v.a)] [] (by kernel_rfl) (by kernel_rfl) (by kernel_rfl) trivial ?_
  clear hE hR; intro a u hE hR
  refine opsNil ?_; refine thenN ?_; refine wp_seq ?_; refine wp_block ?_; refine wp_seq ?_
  refine enterR (idx := [0, 1, 2, 3, 4, 5, 6]) (by kernel_rfl) ?_
  refine segV hE hR [(0, .op []), (1, .op []), (2, .op []), (3, .op []), (4, .as [] (.bool true)), (5, .op []), (6, .op [])] [] [(65, .bool true)] [(.bool ((o.kind : Int) == 1) : Value) = (.bool true : Value), true = true, true = true] (by kernel_rfl) (by kernel_rfl) (by kernel_rfl) ⟨congrArg Value.bool (beq_iff_eq.2 (by omega)), rfl, rfl, trivial⟩ ?_
  clear hE hR; intro a u hE hR
  refine opsNil ?_; refine thenN ?_
  refine condT hE (b := true) (by kernel_rfl) rfl ?_
  refine wp_seq ?_; refine wp_seq ?_
  refine enterD (kl := [⟨H0 + 1, 0, kc2, 63, true⟩, ⟨H0, 0, kc3, 60, true⟩, ⟨g2, 0 + i * 15, kc4, 118, false⟩, ⟨g2, 0, pr, 118, false⟩, ⟨g2, 0 + i * 15 + 15, po, 118, false⟩]) (by kernel_rfl) hR (F := 11) (listed := #[false, false, false, false, false, false, false, false, false, false, false]) (by kernel_rfl) (by kernel_rfl) ?_
  clear hR
  intro u hR
  refine takesU (by kernel_rfl) (pqT (pqT (pqB (pqT pqF)))) hE (hR.ss [0, 1, 2, 3, 4] (by kernel_rfl)) [(0, .op []), (1, .op []), (2, .op []), (3, .op [.k 2 10]), (4, .op []), (5, .op []), (6, .op []), (7, .op []), (8, .op []), (9, .op [.k 2 1]), (10, .as [] (.bool true))] 0 [(82, .bool true)] #[true, true, true, true, true, true, true, true, true, true, true] [(.bool (decide (((row.length : Nat) : Int) ≥ o.cap)) : Value) = (.bool true : Value)] (by kernel_rfl) (by kernel_rfl) (by kernel_rfl) ⟨congrArg Value.bool (decide_eq_true (by omega)), trivial⟩ ?_
  clear hE; intro a hE
  refine wpAnyH_done (by kernel_rfl) ?_ _
  refine thenN ?_
  refine condT hE (b := true) (by kernel_rfl) rfl ?_
  refine wp_seq ?_
  refine enterR (idx := [0, 1, 2, 3]) (by kernel_rfl) ?_
  let kc6 : List Value := [.int .i64 6, .int .u32 0, .int .u32 0, .int .u32 0, .int .u32 0]
  refine segU hE hR [(0, .op []), (1, .op []), (2, .op []), (3, .op (hks 0 0 5))] [] [(4, .slice (some ⟨g, off, none⟩) L.length c)] (⟨H0 + 1, 0, kc6, 63, true⟩ :: ⟨H0, 0, kc3, 60, true⟩ :: ⟨g2, 0 + i * 15, kc4, 118, false⟩ :: ⟨g2, 0, pr, 118, false⟩ :: ⟨g2, 0 + i * 15 + 15, po, 118, false⟩ :: (rs ++ ob)) (H2) [] (by kernel_rfl) (by kernel_rfl) (by kernel_rfl) trivial ?_
  clear hE hR; intro a u hE hR
  refine opsNil ?_; refine thenN ?_; refine wp_ret ?_; refine thenR ?_; refine blkR ?_; refine thenR ?_
  refine retF hE hR (hks 0 0 5) (.tuple #[.slice (some ⟨g, off, none⟩) L.length c, .agg #[.int .i64 6, .int .u32 0, .int .u32 0, .int .u32 0, .int .u32 0]]) (by kernel_rfl) (by kernel_rfl) (by kernel_rfl) ?_
  exact ⟨rfl, hR.below (by simp)⟩
set_option maxRecDepth 100000 in
theorem ref_send (g off c : Nat) (L : List IV) (o : Ob) (row : List Vl) (v : Vl) (ck : Int) (i : Nat) (cv : Vl) (cn : Int) (w : World) (hck : -9223372036854775808 ≤ ck ∧ ck ≤ 9223372036854775807) (hK : plainP ck = 1) (hi : i < L.length) (_ : L.length ≤ 8) (HC : ∀ W, Below w.heap.size w W → Calls Try.prog 52 #[.slice (some ⟨g, off, none⟩) L.length c] W (CopyAt L i ⟨o, row, v⟩ W)) (hrt : rightP o = true) (hkk : o.kind = 1) (h0w : 0 ≤ o.width) (h4w : o.width ≤ 4) (hroom : (row.length : Int) < o.cap) (hcap : o.cap ≤ 64) :
    Calls Try.prog 26 #[.slice (some ⟨g, off, none⟩) L.length c, .agg #[.int .i64 ck, .int .i64 ((i : Nat) : Int), .int .u32 cv.a, .int .u32 cv.b, .int .u32 cv.c, .int .u32 cv.d, .int .u32 cn]] w fun e W' => ∃ s' L', e = .returned (.tuple #[s', resA 0 Vl.z]) ∧ ItemsR W' s' L' ∧ itms L' = (itms L).set i ⟨o, row ++ [clipP cv o.width], v⟩ ∧ Below w.heap.size w W' := by
  have hpl := fun W => plain2B_calls ck W hck
  rw [hK] at hpl
  have HRt := fun W => right2_calls o W
  rw [hrt] at HRt
  let kv1 : Value := .agg #[.int .i64 ck, .int .i64 ((i : Nat) : Int), .int .u32 cv.a, .int .u32 cv.b, .int .u32 cv.c, .int .u32 cv.d, .int .u32 cn]
  refine enterF Try.func26 rfl Try.ntmps26 [(0, .slice (some ⟨g, off, none⟩) L.length c), (1, kv1)] (by kernel_rfl) (by kernel_rfl) ?_
  have hR := Rep.start w
  obtain ⟨H0, hH0⟩ : ∃ x, x = w.heap.size := ⟨_, rfl⟩
  rw [← hH0] at hR
  intro a hE
  refine wp_seq ?_
  refine enterR (idx := [0, 1, 2]) (by kernel_rfl) ?_
  let kc2 : List Value := [.int .i64 0, .int .u32 0, .int .u32 0, .int .u32 0, .int .u32 0]
  let kc3 : List Value := [.int .i64 ck, .int .i64 ((i : Nat) : Int), .int .u32 cv.a, .int .u32 cv.b, .int .u32 cv.c, .int .u32 cv.d, .int .u32 cn]
  refine segU hE hR [(0, .op []), (1, .op []), (2, .op [])] [] [(3, .pointer (some ⟨H0, 0, none⟩)), (4, .slice none 0 0), (5, .pointer (some ⟨H0 + 1, 0, none⟩))] [⟨H0 + 1, 0, kc2, 63, true⟩, ⟨H0, 0, kc3, 60, true⟩] (H0 + 2) [] (by kernel_rfl) (by kernel_rfl) (by kernel_rfl) trivial ?_
  clear hE hR; intro a u hE hR
  refine opsNil ?_; refine thenN ?_; refine wp_seq ?_
  refine enterR (idx := [0, 1, 2, 3]) (by kernel_rfl) ?_
  refine segV hE hR [(0, .op []), (1, .op [.k 1 0])] [2, 3] [(13, .int .i64 ck)] [] (by kernel_rfl) (by kernel_rfl) (by kernel_rfl) trivial ?_
  clear hE hR; intro a u hE hR
  refine opsCons ?_
  refine call hE hR [] 51 #[.int .i64 ck] (some 14) [] (by kernel_rfl) (by kernel_rfl) trivial (hpl _) (fun _ _ h => by cases h.1) (fun _ h => by cases h.1) ?_
  clear hE
  rintro v u ⟨hv, hb⟩ a hE
  cases hv
  obtain ⟨H1, hH1, hR⟩ := hR.callE hb
  refine segV hE hR [(3, .op [])] [] [(6, .int .i64 1)] [] (by kernel_rfl) (by kernel_rfl) (by kernel_rfl) trivial ?_
  clear hE hR; intro a u hE hR
  refine opsNil ?_; refine thenN ?_; refine wp_seq ?_; refine wp_seq ?_
  refine enterR (idx := [0, 1, 2, 3, 4, 5, 6, 7, 8, 9, 10, 11, 12, 13, 14]) (by kernel_rfl) ?_
  refine segV hE hR [(0, .op []), (1, .op []), (2, .op []), (3, .op []), (4, .op []), (5, .op []), (6, .op []), (7, .skip), (8, .skip), (9, .op []), (10, .op []), (11, .skip), (12, .skip), (13, .op []), (14, .op [])] [] [(29, .bool false)] [true = !false, true = !false, true = !false, true = !false, true = true, true = true] (by kernel_rfl) (by kernel_rfl) (by kernel_rfl) ⟨rfl, rfl, rfl, rfl, rfl, rfl, trivial⟩ ?_
  clear hE hR; intro a u hE hR
  refine opsNil ?_; refine thenN ?_
  refine condF hE (b := false) (by kernel_rfl) rfl ?_
  refine wp_skip ?_; refine thenN ?_; refine wp_seq ?_; refine wp_seq ?_
  refine enterR (idx := [0, 1, 2, 3, 4, 5, 6, 7, 8, 9]) (by kernel_rfl) ?_
  refine segV hE hR [(0, .op []), (1, .op [.k 1 1]), (2, .as [] (.bool false)), (3, .op []), (4, .op []), (5, .op [.k 1 1]), (6, .op []), (7, .op []), (8, .as [] (.bool false)), (9, .op [])] [] [(41, .bool false)] [(.bool (decide (((i : Nat) : Int) ≥ ((L.length : Nat) : Int))) : Value) = (.bool false : Value), false = false, false = false, false = false, false = false, false = false, (.bool (decide (((i : Nat) : Int) < 0)) : Value) = (.bool false : Value)] (by kernel_rfl) (by kernel_rfl) (by kernel_rfl) ⟨congrArg Value.bool (decide_eq_false (by omega)), rfl, rfl, rfl, rfl, rfl, congrArg Value.bool (decide_eq_false (by omega)), trivial⟩ ?_
  clear hE hR; intro a u hE hR
  refine opsNil ?_; refine thenN ?_
  refine condF hE (b := false) (by kernel_rfl) rfl ?_
  refine wp_skip ?_; refine thenN ?_; refine wp_seq ?_
  refine enterR (idx := [0, 1, 2]) (by kernel_rfl) ?_
  refine segV hE hR [(0, .op [])] [1, 2] [(44, .slice (some ⟨g, off, none⟩) L.length c)] [] (by kernel_rfl) (by kernel_rfl) (by kernel_rfl) trivial ?_
  clear hE hR; intro a u hE hR
  refine opsCons ?_
  refine call hE hR [] 52 #[.slice (some ⟨g, off, none⟩) L.length c] (some 45) [] (by kernel_rfl) (by kernel_rfl) trivial (HC _ (hR.below (by simp))) (by rintro _ _ ⟨_, _, _, _, _, _, _, _, _, _, h, _⟩; cases h) (by rintro _ ⟨_, _, _, _, _, _, _, _, _, _, h, _⟩; cases h) ?_
  clear hE
  rintro v u ⟨g2, cap2, pr, po, gr, cr, rest, rs, ob, L2, hv, hcf, Hc, hRc⟩ a hE
  cases hv
  let kc4 : List Value := [.int .i64 o.kind, .int .i64 o.cap, .int .i64 o.width, .int .i64 o.retry, .int .i64 o.src, .int .i64 o.dst, .int .u32 o.i0, .int .u32 o.i1, .int .u32 o.i2, .int .u32 o.i3, .slice (some ⟨gr, 0, none⟩) row.length cr, .int .u32 v.a, .int .u32 v.b, .int .u32 v.c, .int .u32 v.d]
  replace hR : Rep [(w, fun _ => True)] u Hc (⟨H0 + 1, 0, kc2, 63, true⟩ :: ⟨H0, 0, kc3, 60, true⟩ :: ⟨g2, 0 + i * 15, kc4, 118, false⟩ :: ⟨g2, 0, pr, 118, false⟩ :: ⟨g2, 0 + i * 15 + 15, po, 118, false⟩ :: (rs ++ ob)) [] := hR.join hRc
  refine segV hE hR [(2, .op [])] [] [(7, .slice (some ⟨g2, 0, none⟩) L.length cap2)] [] (by kernel_rfl) (by kernel_rfl) (by kernel_rfl) trivial ?_
  clear hE hR; intro a u hE hR
  refine opsNil ?_; refine thenN ?_; refine wp_seq ?_
  refine enterR (idx := [0, 1, 2, 3, 4]) (by kernel_rfl) ?_
  refine seg0 hE hR [(0, .op []), (1, .op []), (2, .op [.k 1 1]), (3, .alt (.pointer (some ⟨g2, 0 + i * 15, none⟩))), (4, .op [])] [] [(0, .slice (some ⟨g, off, none⟩) L.length c), (3, .pointer (some ⟨H0, 0, none⟩)), (4, .slice none 0 0), (5, .pointer (some ⟨H0 + 1, 0, none⟩)), (6, .int .i64 1), (29, .bool false), (41, .bool false), (7, .slice (some ⟨g2, 0, none⟩) L.length cap2), (8, .pointer (some ⟨g2, 0 + i * 15, none⟩))] [(0 ≤ (((i : Nat) : Int) : Int) ∧ (((i : Nat) : Int) : Int) < ((L.length : Nat) : Int)) ∧ (Try.prog.info? 118).isSome = true, (.pointer (some ⟨g2, 0 + (((i : Nat) : Int)).toNat * Try.prog.cellsOf 118, none⟩) : Value) = (.pointer (some ⟨g2, 0 + i * 15, none⟩) : Value)] (by kernel_rfl) (by kernel_rfl) (by kernel_rfl) ⟨⟨⟨by omega, by omega⟩, by kernel_rfl⟩, by kernel_rfl, trivial⟩ ?_
  clear hE hR; intro a u hE hR
  refine opsNil ?_; refine thenN ?_; refine wp_seq ?_
  refine enterR (idx := [0]) (by kernel_rfl) ?_
  refine segV hE hR [(0, .op [])] [] [(9, .int .i64 0)] [] (by kernel_rfl) (by kernel_rfl) (by kernel_rfl) trivial ?_
  clear hE hR; intro a u hE hR
  refine opsNil ?_; refine thenN ?_; refine wp_seq ?_; refine wp_seq ?_
  refine enterR (idx := [0, 1, 2, 3, 4]) (by kernel_rfl) ?_
  let kv5 : Value := .agg #[.int .i64 o.kind, .int .i64 o.cap, .int .i64 o.width, .int .i64 o.retry, .int .i64 o.src, .int .i64 o.dst, .int .u32 o.i0, .int .u32 o.i1, .int .u32 o.i2, .int .u32 o.i3]
  refine segV hE hR [(0, .op []), (1, .op []), (2, .op []), (3, .op (hks 2 0 10))] [4] [(53, kv5)] [] (by kernel_rfl) (by kernel_rfl) (by kernel_rfl) trivial ?_
  clear hE hR; intro a u hE hR
  refine opsCons ?_
  refine call hE hR [] 47 #[kv5] (some 54) [] (by kernel_rfl) (by kernel_rfl) trivial (HRt _) (fun _ _ h => by cases h.1) (fun _ h => by cases h.1) ?_
  clear hE
  rintro v u ⟨hv, hb⟩ a hE
  cases hv
  obtain ⟨H2, hH2, hR⟩ := hR.callE hb
  refine opsNil ?_; refine thenN ?_
  refine condT hE (b := true) (by kernel_rfl) rfl ?_
  refine enterR (idx := [0, 1, 2, 3, 4, 5]) (by kernel_rfl) ?_
  refine segV hE hR [(0, .op []), (1, .op []), (2, .op []), (3, .op []), (4, .op [.k 2 0]), (5, .op [])] [] [(9, .int .i64 o.kind)] [] (by kernel_rfl) (by kernel_rfl) (by kernel_rfl) trivial ?_
  clear hE hR; intro a u hE hR
  refine opsNil ?_; refine thenN ?_; refine wp_seq ?_
  refine enterR (idx := [0, 1, 2, 3, 4, 5]) (by kernel_rfl) ?_
  refine segV hE hR [(0, .op []), (1, .op []), (2, .op []), (3, .op []), (4, .op [.k 2 11]), (5, .op [])] [] [(10, .int .u32 v.a)] [] (by kernel_rfl) (by kernel_rfl) (by kernel_rfl) trivial ?_
  clear hE hR; intro a u hE hR
  refine opsNil ?_; refine thenN ?_; refine wp_seq ?_; refine wp_block ?_; refine wp_seq ?_
  refine enterR (idx := [0, 1, 2, 3, 4, 5, 6]) (by kernel_rfl) ?_
  refine segV hE hR [(0, .op []), (1, .op []), (2, .op []), (3, .op []), (4, .as [] (.bool true)), (5, .op []), (6, .op [])] [] [(65, .bool true)] [(.bool ((o.kind : Int) == 1) : Value) = (.bool true : Value), true = true, true = true] (by kernel_rfl) (by kernel_rfl) (by kernel_rfl) ⟨congrArg Value.bool (beq_iff_eq.2 (by omega)), rfl, rfl, trivial⟩ ?_
  clear hE hR; intro a u hE hR
  refine opsNil ?_; refine thenN ?_
  refine condT hE (b := true) (by kernel_rfl) rfl ?_
  refine wp_seq ?_; refine wp_seq ?_
  refine enterD (kl := [⟨H0 + 1, 0, kc2, 63, true⟩, ⟨H0, 0, kc3, 60, true⟩, ⟨g2, 0 + i * 15, kc4, 118, false⟩, ⟨g2, 0, pr, 118, false⟩, ⟨g2, 0 + i * 15 + 15, po, 118, false⟩]) (by kernel_rfl) hR (F := 11) (listed := #[false, false, false, false, false, false, false, false, false, false, false]) (by kernel_rfl) (by kernel_rfl) ?_
  clear hR
  intro u hR
  refine takesU (by kernel_rfl) (pqT (pqT (pqB (pqT pqF)))) hE (hR.ss [0, 1, 2, 3, 4] (by kernel_rfl)) [(0, .op []), (1, .op []), (2, .op []), (3, .op [.k 2 10]), (4, .op []), (5, .op []), (6, .op []), (7, .op []), (8, .op []), (9, .op [.k 2 1]), (10, .as [] (.bool false))] 0 [(82, .bool false)] #[true, true, true, true, true, true, true, true, true, true, true] [(.bool (decide (((row.length : Nat) : Int) ≥ o.cap)) : Value) = (.bool false : Value)] (by kernel_rfl) (by kernel_rfl) (by kernel_rfl) ⟨congrArg Value.bool (decide_eq_false (by omega)), trivial⟩ ?_
  clear hE; intro a hE
  refine wpAnyH_done (by kernel_rfl) ?_ _
  refine thenN ?_
  refine condF hE (b := false) (by kernel_rfl) rfl ?_
  refine wp_skip ?_; refine thenN ?_; refine wp_seq ?_
  refine enterD (kl := [⟨H0 + 1, 0, kc2, 63, true⟩, ⟨H0, 0, kc3, 60, true⟩, ⟨g2, 0, pr, 118, false⟩, ⟨g2, 0 + i * 15 + 15, po, 118, false⟩]) (by kernel_rfl) hR (F := 18) (listed := #[false, false, false, false, false, false, false, false, false, false, false, false, false, false, false, false, false, false]) (by kernel_rfl) (by kernel_rfl) ?_
  clear hR
  intro u hR
  let kv6 : Value := .agg #[.int .u32 cv.a, .int .u32 cv.b, .int .u32 cv.c, .int .u32 cv.d]
  refine takesU (by kernel_rfl) (pqT (pqB (pqT pqF))) hE (hR.ss [0, 1, 3, 4] (by kernel_rfl)) [(0, .op []), (1, .op []), (2, .op []), (3, .op []), (5, .op []), (6, .op (hks 1 2 4)), (7, .op []), (8, .op []), (9, .op []), (10, .op [])] 8 [(85, .pointer (some ⟨g2, 0 + i * 15, none⟩)), (88, .pointer (some ⟨g2, 0 + i * 15 + 10, none⟩)), (91, kv6), (95, .pointer (some ⟨g2, 0 + i * 15 + 2, none⟩))] #[true, true, true, true, false, true, true, true, true, true, true, false, false, false, false, false, false, false] [] (by kernel_rfl) (by kernel_rfl) (by kernel_rfl) trivial ?_
  clear hE; intro a hE
  refine wpAnyH_all (rs := [4, 11]) (by kernel_rfl) (by simp) (allCons ?_ (allCons ?_ allNil))
  · show wpOp _ _ _ _ _ _ _
    refine one hE hR (.op [.k 2 10]) [(0, .slice (some ⟨g, off, none⟩) L.length c), (3, .pointer (some ⟨H0, 0, none⟩)), (4, .slice none 0 0), (5, .pointer (some ⟨H0 + 1, 0, none⟩)), (6, .int .i64 1), (29, .bool false), (41, .bool false), (7, .slice (some ⟨g2, 0, none⟩) L.length cap2), (8, .pointer (some ⟨g2, 0 + i * 15, none⟩)), (9, .int .i64 o.kind), (53, kv5), (54, .bool true), (10, .int .u32 v.a), (65, .bool true), (82, .bool false), (85, .pointer (some ⟨g2, 0 + i * 15, none⟩)), (91, kv6), (95, .pointer (some ⟨g2, 0 + i * 15 + 2, none⟩)), (89, .slice (some ⟨gr, 0, none⟩) row.length cr)] (⟨H0 + 1, 0, kc2, 63, true⟩ :: ⟨H0, 0, kc3, 60, true⟩ :: ⟨g2, 0 + i * 15, kc4, 118, false⟩ :: ⟨g2, 0, pr, 118, false⟩ :: ⟨g2, 0 + i * 15 + 15, po, 118, false⟩ :: (rs ++ ob)) (H2) [] (by kernel_rfl) (by kernel_rfl) trivial ?_
    clear hE hR; intro a u hE hR
    refine ⟨(hR.ss [0, 1, 3, 4] (by kernel_rfl)), ?_⟩
    show wpAnyH _ _ _ _ _ _ #[true, true, true, true, true, true, true, true, true, true, true, false, false, false, false, false, false, false] _ _
    refine wpAnyH_all (rs := [11]) (by kernel_rfl) (by simp) (allCons ?_ allNil)
    refine oneU hE hR (.op [.k 2 2]) [(96, .int .i64 o.width)] (⟨H0 + 1, 0, kc2, 63, true⟩ :: ⟨H0, 0, kc3, 60, true⟩ :: ⟨g2, 0 + i * 15, kc4, 118, false⟩ :: ⟨g2, 0, pr, 118, false⟩ :: ⟨g2, 0 + i * 15 + 15, po, 118, false⟩ :: (rs ++ ob)) (H2) [] (by kernel_rfl) (by kernel_rfl) trivial ?_
    clear hE hR; intro a u hE hR
    refine ⟨(hR.ss [0, 1, 3, 4] (by kernel_rfl)), ?_⟩
    show wpAnyH _ _ _ _ _ _ #[true, true, true, true, true, true, true, true, true, true, true, true, false, false, false, false, false, false] _ _
    refine wpAnyH_all (rs := [12]) (by kernel_rfl) (by simp) (allCons ?_ allNil)
    refine call hE hR [] 48 #[kv6, .int .i64 o.width] (some 97) [] (by kernel_rfl) (by kernel_rfl) trivial (clip2_calls cv o.width h0w h4w _) (fun _ _ h => by cases h.1) (fun _ h => by cases h.1) ?_
    clear hE
    rintro v u ⟨hv, hb⟩ a hE
    cases hv
    obtain ⟨H3, hH3, hR⟩ := hR.callE hb
    refine ⟨(hR.ss [0, 1, 3, 4] (by kernel_rfl)), ?_⟩
    show wpAnyH _ _ _ _ _ _ #[true, true, true, true, true, true, true, true, true, true, true, true, true, false, false, false, false, false] _ _
    refine wpAnyH_all (rs := [13]) (by kernel_rfl) (by simp) (allCons ?_ allNil)
    let kc7 : List Value := [.int .u32 ((clipP cv o.width).a), .int .u32 ((clipP cv o.width).b), .int .u32 ((clipP cv o.width).c), .int .u32 ((clipP cv o.width).d)]
    refine oneU hE hR (.op []) [(98, .slice (some ⟨H3, 0, none⟩) 1 1)] (⟨H3, 0, kc7, 58, true⟩ :: ⟨H0 + 1, 0, kc2, 63, true⟩ :: ⟨H0, 0, kc3, 60, true⟩ :: ⟨g2, 0 + i * 15, kc4, 118, false⟩ :: ⟨g2, 0, pr, 118, false⟩ :: ⟨g2, 0 + i * 15 + 15, po, 118, false⟩ :: (rs ++ ob)) (H3 + 1) [] (by kernel_rfl) (by kernel_rfl) trivial ?_
    clear hE hR; intro a u hE hR
    refine ⟨(hR.ss [1, 2, 4, 5] (by kernel_rfl)), ?_⟩
    show wpAnyH _ _ _ _ _ _ #[true, true, true, true, true, true, true, true, true, true, true, true, true, true, false, false, false, false] _ _
    refine wpAnyH_all (rs := [14]) (by kernel_rfl) (by simp) (allCons ?_ allNil)
    refine app hE 4 58 16 (kn := (⟨H3, 0, kc7, 58, true⟩ :: ⟨H0 + 1, 0, kc2, 63, true⟩ :: ⟨H0, 0, kc3, 60, true⟩ :: ⟨g2, 0 + i * 15, kc4, 118, false⟩ :: ⟨g2, 0, pr, 118, false⟩ :: ⟨g2, 0 + i * 15 + 15, po, 118, false⟩ :: rs)) hR (show OwnS 4 58 (.slice (some ⟨gr, 0, none⟩) row.length cr) row.length (flatV row) ob from hcf.own) (.k 0 0) kc7 H3 0 1 1 [] rfl rfl trivial Try.underlying114 (by kernel_rfl) (by decide) (by kernel_rfl) (by kernel_rfl) (by kernel_rfl) (by kernel_rfl) (rfl) (by kernel_rfl) (by decide) (by unfold maxLen; omega) (by omega) ?_
    clear hE hR
    intro a u v904 ob4 H4 hH4 hE hO4 hR
    obtain ⟨A9, c9, rfl, hc9, hd9⟩ := hO4.slice
    refine ⟨(hR.ss [1, 2, 4, 5] (by kernel_rfl)), ?_⟩
    show wpAnyH _ _ _ _ _ _ #[true, true, true, true, true, true, true, true, true, true, true, true, true, true, true, false, false, false] _ _
    refine takesU (by kernel_rfl) (pqT (pqB (pqT pqF))) hE (hR.ss [1, 2, 4, 5] (by kernel_rfl)) [(15, .op []), (16, .op [])] 1 [(101, .pointer (some ⟨g2, 0 + i * 15 + 10, none⟩))] #[true, true, true, true, true, true, true, true, true, true, true, true, true, true, true, true, true, false] [] (by kernel_rfl) (by kernel_rfl) (by kernel_rfl) trivial ?_
    clear hE; intro a hE
    refine wpAnyH_all (rs := [17]) (by kernel_rfl) (by simp) (allCons ?_ allNil)
    let kc8 : List Value := [.int .i64 o.kind, .int .i64 o.cap, .int .i64 o.width, .int .i64 o.retry, .int .i64 o.src, .int .i64 o.dst, .int .u32 o.i0, .int .u32 o.i1, .int .u32 o.i2, .int .u32 o.i3, .slice A9 (row.length + 1) c9, .int .u32 v.a, .int .u32 v.b, .int .u32 v.c, .int .u32 v.d]
    refine oneU hE hR (.op [.k 3 10]) [] (⟨H3, 0, kc7, 58, true⟩ :: ⟨H0 + 1, 0, kc2, 63, true⟩ :: ⟨H0, 0, kc3, 60, true⟩ :: ⟨g2, 0 + i * 15, kc8, 118, false⟩ :: ⟨g2, 0, pr, 118, false⟩ :: ⟨g2, 0 + i * 15 + 15, po, 118, false⟩ :: (rs ++ ob4)) (H4) [] (by kernel_rfl) (by kernel_rfl) trivial ?_
    clear hE hR; intro a u hE hR
    refine ⟨(hR.ss [1, 2, 4, 5] (by kernel_rfl)), ?_⟩
    show wpAnyH _ _ _ _ _ _ #[true, true, true, true, true, true, true, true, true, true, true, true, true, true, true, true, true, true] _ _
    refine wpAnyH_done (by kernel_rfl) ?_ _
    refine thenN ?_; refine wp_seq ?_
    refine enterR (idx := [0, 1, 2, 3]) (by kernel_rfl) ?_
    refine segV hE hR [(0, .op []), (1, .op []), (2, .op []), (3, .op (hks 1 0 5))] [] [(4, .slice (some ⟨g2, 0, none⟩) L.length cap2)] [] (by kernel_rfl) (by kernel_rfl) (by kernel_rfl) trivial ?_
    clear hE hR; intro a u hE hR
    refine opsNil ?_; refine thenN ?_; refine wp_ret ?_; refine blkR ?_; refine thenR ?_
    refine retF hE hR (hks 1 0 5) (.tuple #[.slice (some ⟨g2, 0, none⟩) L.length cap2, .agg #[.int .i64 0, .int .u32 0, .int .u32 0, .int .u32 0, .int .u32 0]]) (by kernel_rfl) (by kernel_rfl) (by kernel_rfl) ?_
    obtain ⟨L3, h3a, h3b⟩ := hcf.made hi (⟨o, row ++ [clipP cv o.width], v⟩) (.slice A9 (row.length + 1) c9) (by have h9 := hR.rangeK 3 rfl; exact h9) (by have h9 := hR.rangeK 4 rfl; exact h9) (by have h9 := hR.rangeK 5 rfl; exact h9) (fun e he => hR.rangeM (by simp [he])) (hO4.rowV (by simp) (by rw [flatV_app]; exact congrArg (flatV row ++ ·) (by kernel_rfl)) (fun e he => hR.rangeM (by simp [he])))
    exact ⟨_, L3, rfl, h3a, h3b, hR.below (by simp)⟩
  · show wpOp _ _ _ _ _ _ _
    refine oneU hE hR (.op [.k 2 2]) [(96, .int .i64 o.width)] (⟨H0 + 1, 0, kc2, 63, true⟩ :: ⟨H0, 0, kc3, 60, true⟩ :: ⟨g2, 0 + i * 15, kc4, 118, false⟩ :: ⟨g2, 0, pr, 118, false⟩ :: ⟨g2, 0 + i * 15 + 15, po, 118, false⟩ :: (rs ++ ob)) (H2) [] (by kernel_rfl) (by kernel_rfl) trivial ?_
    clear hE hR; intro a u hE hR
    refine ⟨(hR.ss [0, 1, 3, 4] (by kernel_rfl)), ?_⟩
    show wpAnyH _ _ _ _ _ _ #[true, true, true, true, false, true, true, true, true, true, true, true, false, false, false, false, false, false] _ _
    refine wpAnyH_all (rs := [4, 12]) (by kernel_rfl) (by simp) (allCons ?_ (allCons ?_ allNil))
    · show wpOp _ _ _ _ _ _ _
      refine oneU hE hR (.op [.k 2 10]) [(89, .slice (some ⟨gr, 0, none⟩) row.length cr)] (⟨H0 + 1, 0, kc2, 63, true⟩ :: ⟨H0, 0, kc3, 60, true⟩ :: ⟨g2, 0 + i * 15, kc4, 118, false⟩ :: ⟨g2, 0, pr, 118, false⟩ :: ⟨g2, 0 + i * 15 + 15, po, 118, false⟩ :: (rs ++ ob)) (H2) [] (by kernel_rfl) (by kernel_rfl) trivial ?_
      clear hE hR; intro a u hE hR
      refine ⟨(hR.ss [0, 1, 3, 4] (by kernel_rfl)), ?_⟩
      show wpAnyH _ _ _ _ _ _ #[true, true, true, true, true, true, true, true, true, true, true, true, false, false, false, false, false, false] _ _
      refine wpAnyH_all (rs := [12]) (by kernel_rfl) (by simp) (allCons ?_ allNil)
      refine call hE hR [] 48 #[kv6, .int .i64 o.width] (some 97) [] (by kernel_rfl) (by kernel_rfl) trivial (clip2_calls cv o.width h0w h4w _) (fun _ _ h => by cases h.1) (fun _ h => by cases h.1) ?_
      clear hE
      rintro v u ⟨hv, hb⟩ a hE
      cases hv
      obtain ⟨H5, hH5, hR⟩ := hR.callE hb
      refine ⟨(hR.ss [0, 1, 3, 4] (by kernel_rfl)), ?_⟩
      show wpAnyH _ _ _ _ _ _ #[true, true, true, true, true, true, true, true, true, true, true, true, true, false, false, false, false, false] _ _
      refine wpAnyH_all (rs := [13]) (by kernel_rfl) (by simp) (allCons ?_ allNil)
      let kc9 : List Value := [.int .u32 ((clipP cv o.width).a), .int .u32 ((clipP cv o.width).b), .int .u32 ((clipP cv o.width).c), .int .u32 ((clipP cv o.width).d)]
      refine one hE hR (.op []) [(0, .slice (some ⟨g, off, none⟩) L.length c), (3, .pointer (some ⟨H0, 0, none⟩)), (4, .slice none 0 0), (5, .pointer (some ⟨H0 + 1, 0, none⟩)), (6, .int .i64 1), (29, .bool false), (41, .bool false), (7, .slice (some ⟨g2, 0, none⟩) L.length cap2), (8, .pointer (some ⟨g2, 0 + i * 15, none⟩)), (9, .int .i64 o.kind), (53, kv5), (54, .bool true), (10, .int .u32 v.a), (65, .bool true), (82, .bool false), (85, .pointer (some ⟨g2, 0 + i * 15, none⟩)), (89, .slice (some ⟨gr, 0, none⟩) row.length cr), (98, .slice (some ⟨H5, 0, none⟩) 1 1)] (⟨H5, 0, kc9, 58, true⟩ :: ⟨H0 + 1, 0, kc2, 63, true⟩ :: ⟨H0, 0, kc3, 60, true⟩ :: ⟨g2, 0 + i * 15, kc4, 118, false⟩ :: ⟨g2, 0, pr, 118, false⟩ :: ⟨g2, 0 + i * 15 + 15, po, 118, false⟩ :: (rs ++ ob)) (H5 + 1) [] (by kernel_rfl) (by kernel_rfl) trivial ?_
      clear hE hR; intro a u hE hR
      refine ⟨(hR.ss [1, 2, 4, 5] (by kernel_rfl)), ?_⟩
      show wpAnyH _ _ _ _ _ _ #[true, true, true, true, true, true, true, true, true, true, true, true, true, true, false, false, false, false] _ _
      refine wpAnyH_all (rs := [14]) (by kernel_rfl) (by simp) (allCons ?_ allNil)
      refine app hE 4 58 16 (kn := (⟨H5, 0, kc9, 58, true⟩ :: ⟨H0 + 1, 0, kc2, 63, true⟩ :: ⟨H0, 0, kc3, 60, true⟩ :: ⟨g2, 0 + i * 15, kc4, 118, false⟩ :: ⟨g2, 0, pr, 118, false⟩ :: ⟨g2, 0 + i * 15 + 15, po, 118, false⟩ :: rs)) hR (show OwnS 4 58 (.slice (some ⟨gr, 0, none⟩) row.length cr) row.length (flatV row) ob from hcf.own) (.k 0 0) kc9 H5 0 1 1 [] rfl rfl trivial Try.underlying114 (by kernel_rfl) (by decide) (by kernel_rfl) (by kernel_rfl) (by kernel_rfl) (by kernel_rfl) (rfl) (by kernel_rfl) (by decide) (by unfold maxLen; omega) (by omega) ?_
      clear hE hR
      intro a u v906 ob6 H6 hH6 hE hO6 hR
      obtain ⟨A9, c9, rfl, hc9, hd9⟩ := hO6.slice
      refine ⟨(hR.ss [1, 2, 4, 5] (by kernel_rfl)), ?_⟩
      show wpAnyH _ _ _ _ _ _ #[true, true, true, true, true, true, true, true, true, true, true, true, true, true, true, false, false, false] _ _
      refine takesU (by kernel_rfl) (pqT (pqB (pqT pqF))) hE (hR.ss [1, 2, 4, 5] (by kernel_rfl)) [(15, .op []), (16, .op [])] 1 [(101, .pointer (some ⟨g2, 0 + i * 15 + 10, none⟩))] #[true, true, true, true, true, true, true, true, true, true, true, true, true, true, true, true, true, false] [] (by kernel_rfl) (by kernel_rfl) (by kernel_rfl) trivial ?_
      clear hE; intro a hE
      refine wpAnyH_all (rs := [17]) (by kernel_rfl) (by simp) (allCons ?_ allNil)
      let kc10 : List Value := [.int .i64 o.kind, .int .i64 o.cap, .int .i64 o.width, .int .i64 o.retry, .int .i64 o.src, .int .i64 o.dst, .int .u32 o.i0, .int .u32 o.i1, .int .u32 o.i2, .int .u32 o.i3, .slice A9 (row.length + 1) c9, .int .u32 v.a, .int .u32 v.b, .int .u32 v.c, .int .u32 v.d]
      refine oneU hE hR (.op [.k 3 10]) [] (⟨H5, 0, kc9, 58, true⟩ :: ⟨H0 + 1, 0, kc2, 63, true⟩ :: ⟨H0, 0, kc3, 60, true⟩ :: ⟨g2, 0 + i * 15, kc10, 118, false⟩ :: ⟨g2, 0, pr, 118, false⟩ :: ⟨g2, 0 + i * 15 + 15, po, 118, false⟩ :: (rs ++ ob6)) (H6) [] (by kernel_rfl) (by kernel_rfl) trivial ?_
      clear hE hR; intro a u hE hR
      refine ⟨(hR.ss [1, 2, 4, 5] (by kernel_rfl)), ?_⟩
      show wpAnyH _ _ _ _ _ _ #[true, true, true, true, true, true, true, true, true, true, true, true, true, true, true, true, true, true] _ _
      refine wpAnyH_done (by kernel_rfl) ?_ _
      refine thenN ?_; refine wp_seq ?_
      refine enterR (idx := [0, 1, 2, 3]) (by kernel_rfl) ?_
      refine segV hE hR [(0, .op []), (1, .op []), (2, .op []), (3, .op (hks 1 0 5))] [] [(4, .slice (some ⟨g2, 0, none⟩) L.length cap2)] [] (by kernel_rfl) (by kernel_rfl) (by kernel_rfl) trivial ?_
      clear hE hR; intro a u hE hR
      refine opsNil ?_; refine thenN ?_; refine wp_ret ?_; refine blkR ?_; refine thenR ?_
      refine retF hE hR (hks 1 0 5) (.tuple #[.slice (some ⟨g2, 0, none⟩) L.length cap2, .agg #[.int .i64 0, .int .u32 0, .int .u32 0, .int .u32 0, .int .u32 0]]) (by kernel_rfl) (by kernel_rfl) (by kernel_rfl) ?_
      obtain ⟨L3, h3a, h3b⟩ := hcf.made hi (⟨o, row ++ [clipP cv o.width], v⟩) (.slice A9 (row.length + 1) c9) (by have h9 := hR.rangeK 3 rfl; exact h9) (by have h9 := hR.rangeK 4 rfl; exact h9) (by have h9 := hR.rangeK 5 rfl; exact h9) (fun e he => hR.rangeM (by simp [he])) (hO6.rowV (by simp) (by rw [flatV_app]; exact congrArg (flatV row ++ ·) (by kernel_rfl)) (fun e he => hR.rangeM (by simp [he])))
      exact ⟨_, L3, rfl, h3a, h3b, hR.below (by simp)⟩
    · show wpOp _ _ _ _ _ _ _
      refine call hE hR [] 48 #[kv6, .int .i64 o.width] (some 97) [] (by kernel_rfl) (by kernel_rfl) trivial (clip2_calls cv o.width h0w h4w _) (fun _ _ h => by cases h.1) (fun _ h => by cases h.1) ?_
      clear hE
      rintro v u ⟨hv, hb⟩ a hE
      cases hv
      obtain ⟨H7, hH7, hR⟩ := hR.callE hb
      refine ⟨(hR.ss [0, 1, 3, 4] (by kernel_rfl)), ?_⟩
      show wpAnyH _ _ _ _ _ _ #[true, true, true, true, false, true, true, true, true, true, true, true, true, false, false, false, false, false] _ _
      refine wpAnyH_all (rs := [4, 13]) (by kernel_rfl) (by simp) (allCons ?_ (allCons ?_ allNil))
      · show wpOp _ _ _ _ _ _ _
        refine oneU hE hR (.op [.k 2 10]) [(89, .slice (some ⟨gr, 0, none⟩) row.length cr)] (⟨H0 + 1, 0, kc2, 63, true⟩ :: ⟨H0, 0, kc3, 60, true⟩ :: ⟨g2, 0 + i * 15, kc4, 118, false⟩ :: ⟨g2, 0, pr, 118, false⟩ :: ⟨g2, 0 + i * 15 + 15, po, 118, false⟩ :: (rs ++ ob)) (H7) [] (by kernel_rfl) (by kernel_rfl) trivial ?_
        clear hE hR; intro a u hE hR
        refine ⟨(hR.ss [0, 1, 3, 4] (by kernel_rfl)), ?_⟩
        show wpAnyH _ _ _ _ _ _ #[true, true, true, true, true, true, true, true, true, true, true, true, true, false, false, false, false, false] _ _
        refine wpAnyH_all (rs := [13]) (by kernel_rfl) (by simp) (allCons ?_ allNil)
        let kc11 : List Value := [.int .u32 ((clipP cv o.width).a), .int .u32 ((clipP cv o.width).b), .int .u32 ((clipP cv o.width).c), .int .u32 ((clipP cv o.width).d)]
        refine oneU hE hR (.op []) [(98, .slice (some ⟨H7, 0, none⟩) 1 1)] (⟨H7, 0, kc11, 58, true⟩ :: ⟨H0 + 1, 0, kc2, 63, true⟩ :: ⟨H0, 0, kc3, 60, true⟩ :: ⟨g2, 0 + i * 15, kc4, 118, false⟩ :: ⟨g2, 0, pr, 118, false⟩ :: ⟨g2, 0 + i * 15 + 15, po, 118, false⟩ :: (rs ++ ob)) (H7 + 1) [] (by kernel_rfl) (by kernel_rfl) trivial ?_
        clear hE hR; intro a u hE hR
        refine ⟨(hR.ss [1, 2, 4, 5] (by kernel_rfl)), ?_⟩
        show wpAnyH _ _ _ _ _ _ #[true, true, true, true, true, true, true, true, true, true, true, true, true, true, false, false, false, false] _ _
        refine wpAnyH_all (rs := [14]) (by kernel_rfl) (by simp) (allCons ?_ allNil)
        refine app hE 4 58 16 (kn := (⟨H7, 0, kc11, 58, true⟩ :: ⟨H0 + 1, 0, kc2, 63, true⟩ :: ⟨H0, 0, kc3, 60, true⟩ :: ⟨g2, 0 + i * 15, kc4, 118, false⟩ :: ⟨g2, 0, pr, 118, false⟩ :: ⟨g2, 0 + i * 15 + 15, po, 118, false⟩ :: rs)) hR (show OwnS 4 58 (.slice (some ⟨gr, 0, none⟩) row.length cr) row.length (flatV row) ob from hcf.own) (.k 0 0) kc11 H7 0 1 1 [] rfl rfl trivial Try.underlying114 (by kernel_rfl) (by decide) (by kernel_rfl) (by kernel_rfl) (by kernel_rfl) (by kernel_rfl) (rfl) (by kernel_rfl) (by decide) (by unfold maxLen; omega) (by omega) ?_
        clear hE hR
        intro a u v908 ob8 H8 hH8 hE hO8 hR
        obtain ⟨A9, c9, rfl, hc9, hd9⟩ := hO8.slice
        refine ⟨(hR.ss [1, 2, 4, 5] (by kernel_rfl)), ?_⟩
        show wpAnyH _ _ _ _ _ _ #[true, true, true, true, true, true, true, true, true, true, true, true, true, true, true, false, false, false] _ _
        refine takesU (by kernel_rfl) (pqT (pqB (pqT pqF))) hE (hR.ss [1, 2, 4, 5] (by kernel_rfl)) [(15, .op []), (16, .op [])] 1 [(101, .pointer (some ⟨g2, 0 + i * 15 + 10, none⟩))] #[true, true, true, true, true, true, true, true, true, true, true, true, true, true, true, true, true, false] [] (by kernel_rfl) (by kernel_rfl) (by kernel_rfl) trivial ?_
        clear hE; intro a hE
        refine wpAnyH_all (rs := [17]) (by kernel_rfl) (by simp) (allCons ?_ allNil)
        let kc12 : List Value := [.int .i64 o.kind, .int .i64 o.cap, .int .i64 o.width, .int .i64 o.retry, .int .i64 o.src, .int .i64 o.dst, .int .u32 o.i0, .int .u32 o.i1, .int .u32 o.i2, .int .u32 o.i3, .slice A9 (row.length + 1) c9, .int .u32 v.a, .int .u32 v.b, .int .u32 v.c, .int .u32 v.d]
        refine oneU hE hR (.op [.k 3 10]) [] (⟨H7, 0, kc11, 58, true⟩ :: ⟨H0 + 1, 0, kc2, 63, true⟩ :: ⟨H0, 0, kc3, 60, true⟩ :: ⟨g2, 0 + i * 15, kc12, 118, false⟩ :: ⟨g2, 0, pr, 118, false⟩ :: ⟨g2, 0 + i * 15 + 15, po, 118, false⟩ :: (rs ++ ob8)) (H8) [] (by kernel_rfl) (by kernel_rfl) trivial ?_
        clear hE hR; intro a u hE hR
        refine ⟨(hR.ss [1, 2, 4, 5] (by kernel_rfl)), ?_⟩
        show wpAnyH _ _ _ _ _ _ #[true, true, true, true, true, true, true, true, true, true, true, true, true, true, true, true, true, true] _ _
        refine wpAnyH_done (by kernel_rfl) ?_ _
        refine thenN ?_; refine wp_seq ?_
        refine enterR (idx := [0, 1, 2, 3]) (by kernel_rfl) ?_
        refine seg0 hE hR [(0, .op []), (1, .op []), (2, .op []), (3, .op (hks 1 0 5))] [] [(0, .slice (some ⟨g, off, none⟩) L.length c), (3, .pointer (some ⟨H0, 0, none⟩)), (4, .slice (some ⟨g2, 0, none⟩) L.length cap2), (5, .pointer (some ⟨H0 + 1, 0, none⟩)), (6, .int .i64 1), (29, .bool false), (41, .bool false), (7, .slice (some ⟨g2, 0, none⟩) L.length cap2), (8, .pointer (some ⟨g2, 0 + i * 15, none⟩)), (9, .int .i64 o.kind), (53, kv5), (54, .bool true), (10, .int .u32 v.a), (65, .bool true), (82, .bool false)] [] (by kernel_rfl) (by kernel_rfl) (by kernel_rfl) trivial ?_
        clear hE hR; intro a u hE hR
        refine opsNil ?_; refine thenN ?_; refine wp_ret ?_; refine blkR ?_; refine thenR ?_
        refine retF hE hR (hks 1 0 5) (.tuple #[.slice (some ⟨g2, 0, none⟩) L.length cap2, .agg #[.int .i64 0, .int .u32 0, .int .u32 0, .int .u32 0, .int .u32 0]]) (by kernel_rfl) (by kernel_rfl) (by kernel_rfl) ?_
        obtain ⟨L3, h3a, h3b⟩ := hcf.made hi (⟨o, row ++ [clipP cv o.width], v⟩) (.slice A9 (row.length + 1) c9) (by have h9 := hR.rangeK 3 rfl; exact h9) (by have h9 := hR.rangeK 4 rfl; exact h9) (by have h9 := hR.rangeK 5 rfl; exact h9) (fun e he => hR.rangeM (by simp [he])) (hO8.rowV (by simp) (by rw [flatV_app]; exact congrArg (flatV row ++ ·) (by kernel_rfl)) (fun e he => hR.rangeM (by simp [he])))
        exact ⟨_, L3, rfl, h3a, h3b, hR.below (by simp)⟩
      · show wpOp _ _ _ _ _ _ _
        let kc13 : List Value := [.int .u32 ((clipP cv o.width).a), .int .u32 ((clipP cv o.width).b), .int .u32 ((clipP cv o.width).c), .int .u32 ((clipP cv o.width).d)]
        refine oneU hE hR (.op []) [(98, .slice (some ⟨H7, 0, none⟩) 1 1)] (⟨H7, 0, kc13, 58, true⟩ :: ⟨H0 + 1, 0, kc2, 63, true⟩ :: ⟨H0, 0, kc3, 60, true⟩ :: ⟨g2, 0 + i * 15, kc4, 118, false⟩ :: ⟨g2, 0, pr, 118, false⟩ :: ⟨g2, 0 + i * 15 + 15, po, 118, false⟩ :: (rs ++ ob)) (H7 + 1) [] (by kernel_rfl) (by kernel_rfl) trivial ?_
        clear hE hR; intro a u hE hR
        refine ⟨(hR.ss [1, 2, 4, 5] (by kernel_rfl)), ?_⟩
        show wpAnyH _ _ _ _ _ _ #[true, true, true, true, false, true, true, true, true, true, true, true, true, true, false, false, false, false] _ _
        refine wpAnyH_all (rs := [4]) (by kernel_rfl) (by simp) (allCons ?_ allNil)
        refine oneU hE hR (.op [.k 3 10]) [(89, .slice (some ⟨gr, 0, none⟩) row.length cr)] (⟨H7, 0, kc13, 58, true⟩ :: ⟨H0 + 1, 0, kc2, 63, true⟩ :: ⟨H0, 0, kc3, 60, true⟩ :: ⟨g2, 0 + i * 15, kc4, 118, false⟩ :: ⟨g2, 0, pr, 118, false⟩ :: ⟨g2, 0 + i * 15 + 15, po, 118, false⟩ :: (rs ++ ob)) (H7 + 1) [] (by kernel_rfl) (by kernel_rfl) trivial ?_
        clear hE hR; intro a u hE hR
        refine ⟨(hR.ss [1, 2, 4, 5] (by kernel_rfl)), ?_⟩
        show wpAnyH _ _ _ _ _ _ #[true, true, true, true, true, true, true, true, true, true, true, true, true, true, false, false, false, false] _ _
        refine wpAnyH_all (rs := [14]) (by kernel_rfl) (by simp) (allCons ?_ allNil)
        refine app hE 4 58 16 (kn := (⟨H7, 0, kc13, 58, true⟩ :: ⟨H0 + 1, 0, kc2, 63, true⟩ :: ⟨H0, 0, kc3, 60, true⟩ :: ⟨g2, 0 + i * 15, kc4, 118, false⟩ :: ⟨g2, 0, pr, 118, false⟩ :: ⟨g2, 0 + i * 15 + 15, po, 118, false⟩ :: rs)) hR (show OwnS 4 58 (.slice (some ⟨gr, 0, none⟩) row.length cr) row.length (flatV row) ob from hcf.own) (.k 0 0) kc13 H7 0 1 1 [] rfl rfl trivial Try.underlying114 (by kernel_rfl) (by decide) (by kernel_rfl) (by kernel_rfl) (by kernel_rfl) (by kernel_rfl) (rfl) (by kernel_rfl) (by decide) (by unfold maxLen; omega) (by omega) ?_
        clear hE hR
        intro a u v909 ob9 H9 hH9 hE hO9 hR
        obtain ⟨A9, c9, rfl, hc9, hd9⟩ := hO9.slice
        refine ⟨(hR.ss [1, 2, 4, 5] (by kernel_rfl)), ?_⟩
        show wpAnyH _ _ _ _ _ _ #[true, true, true, true, true, true, true, true, true, true, true, true, true, true, true, false, false, false] _ _
        refine takesU (by kernel_rfl) (pqT (pqB (pqT pqF))) hE (hR.ss [1, 2, 4, 5] (by kernel_rfl)) [(15, .op []), (16, .op [])] 1 [(101, .pointer (some ⟨g2, 0 + i * 15 + 10, none⟩))] #[true, true, true, true, true, true, true, true, true, true, true, true, true, true, true, true, true, false] [] (by kernel_rfl) (by kernel_rfl) (by kernel_rfl) trivial ?_
        clear hE; intro a hE
        refine wpAnyH_all (rs := [17]) (by kernel_rfl) (by simp) (allCons ?_ allNil)
        let kc14 : List Value := [.int .i64 o.kind, .int .i64 o.cap, .int .i64 o.width, .int .i64 o.retry, .int .i64 o.src, .int .i64 o.dst, .int .u32 o.i0, .int .u32 o.i1, .int .u32 o.i2, .int .u32 o.i3, .slice A9 (row.length + 1) c9, .int .u32 v.a, .int .u32 v.b, .int .u32 v.c, .int .u32 v.d]
        refine oneU hE hR (.op [.k 3 10]) [] (⟨H7, 0, kc13, 58, true⟩ :: ⟨H0 + 1, 0, kc2, 63, true⟩ :: ⟨H0, 0, kc3, 60, true⟩ :: ⟨g2, 0 + i * 15, kc14, 118, false⟩ :: ⟨g2, 0, pr, 118, false⟩ :: ⟨g2, 0 + i * 15 + 15, po, 118, false⟩ :: (rs ++ ob9)) (H9) [] (by kernel_rfl) (by kernel_rfl) trivial ?_
        clear hE hR; intro a u hE hR
        refine ⟨(hR.ss [1, 2, 4, 5] (by kernel_rfl)), ?_⟩
        show wpAnyH _ _ _ _ _ _ #[true, true, true, true, true, true, true, true, true, true, true, true, true, true, true, true, true, true] _ _
        refine wpAnyH_done (by kernel_rfl) ?_ _
        refine thenN ?_; refine wp_seq ?_
        refine enterR (idx := [0, 1, 2, 3]) (by kernel_rfl) ?_
        refine segV hE hR [(0, .op []), (1, .op []), (2, .op []), (3, .op (hks 1 0 5))] [] [(4, .slice (some ⟨g2, 0, none⟩) L.length cap2)] [] (by kernel_rfl) (by kernel_rfl) (by kernel_rfl) trivial ?_
        clear hE hR; intro a u hE hR
        refine opsNil ?_; refine thenN ?_; refine wp_ret ?_; refine blkR ?_; refine thenR ?_
        refine retF hE hR (hks 1 0 5) (.tuple #[.slice (some ⟨g2, 0, none⟩) L.length cap2, .agg #[.int .i64 0, .int .u32 0, .int .u32 0, .int .u32 0, .int .u32 0]]) (by kernel_rfl) (by kernel_rfl) (by kernel_rfl) ?_
        obtain ⟨L3, h3a, h3b⟩ := hcf.made hi (⟨o, row ++ [clipP cv o.width], v⟩) (.slice A9 (row.length + 1) c9) (by have h9 := hR.rangeK 3 rfl; exact h9) (by have h9 := hR.rangeK 4 rfl; exact h9) (by have h9 := hR.rangeK 5 rfl; exact h9) (fun e he => hR.rangeM (by simp [he])) (hO9.rowV (by simp) (by rw [flatV_app]; exact congrArg (flatV row ++ ·) (by kernel_rfl)) (fun e he => hR.rangeM (by simp [he])))
        exact ⟨_, L3, rfl, h3a, h3b, hR.below (by simp)⟩
set_option maxRecDepth 100000 in
theorem ref_recv_empty (g off c : Nat) (L : List IV) (o : Ob) (v : Vl) (ck : Int) (i : Nat) (cv : Vl) (cn : Int) (w : World) (hck : -9223372036854775808 ≤ ck ∧ ck ≤ 9223372036854775807) (hK : plainP ck = 2) (hi : i < L.length) (_ : L.length ≤ 8) (HC : ∀ W, Below w.heap.size w W → Calls Try.prog 52 #[.slice (some ⟨g, off, none⟩) L.length c] W (CopyAt L i ⟨o, [], v⟩ W)) (hrt : rightP o = true) (hkk : o.kind = 1) :
    Calls Try.prog 26 #[.slice (some ⟨g, off, none⟩) L.length c, .agg #[.int .i64 ck, .int .i64 ((i : Nat) : Int), .int .u32 cv.a, .int .u32 cv.b, .int .u32 cv.c, .int .u32 cv.d, .int .u32 cn]] w fun e W' => e = .returned (.tuple #[.slice (some ⟨g, off, none⟩) L.length c, resA 7 Vl.z]) ∧ Below w.heap.size w W' := by
  have hpl := fun W => plain2B_calls ck W hck
  rw [hK] at hpl
  have HRt := fun W => right2_calls o W
  rw [hrt] at HRt
  let kv1 : Value := .agg #[.int .i64 ck, .int .i64 ((i : Nat) : Int), .int .u32 cv.a, .int .u32 cv.b, .int .u32 cv.c, .int .u32 cv.d, .int .u32 cn]
  refine enterF Try.func26 rfl Try.ntmps26 [(0, .slice (some ⟨g, off, none⟩) L.length c), (1, kv1)] (by kernel_rfl) (by kernel_rfl) ?_
  have hR := Rep.start w
  obtain ⟨H0, hH0⟩ : ∃ x, x = w.heap.size := ⟨_, rfl⟩
  rw [← hH0] at hR
  intro a hE
  refine wp_seq ?_
  refine enterR (idx := [0, 1, 2]) (by kernel_rfl) ?_
  let kc2 : List Value := [.int .i64 0, .int .u32 0, .int .u32 0, .int .u32 0, .int .u32 0]
  let kc3 : List Value := [.int .i64 ck, .int .i64 ((i : Nat) : Int), .int .u32 cv.a, .int .u32 cv.b, .int .u32 cv.c, .int .u32 cv.d, .int .u32 cn]
  refine segU hE hR [(0, .op []), (1, .op []), (2, .op [])] [] [(3, .pointer (some ⟨H0, 0, none⟩)), (4, .slice none 0 0), (5, .pointer (some ⟨H0 + 1, 0, none⟩))] [⟨H0 + 1, 0, kc2, 63, true⟩, ⟨H0, 0, kc3, 60, true⟩] (H0 + 2) [] (by kernel_rfl) (by kernel_rfl) (by kernel_rfl) trivial ?_
  clear hE hR; intro a u hE hR
  refine opsNil ?_; refine thenN ?_; refine wp_seq ?_
  refine enterR (idx := [0, 1, 2, 3]) (by kernel_rfl) ?_
  refine segV hE hR [(0, .op []), (1, .op [.k 1 0])] [2, 3] [(13, .int .i64 ck)] [] (by kernel_rfl) (by kernel_rfl) (by kernel_rfl) trivial ?_
  clear hE hR; intro a u hE hR
  refine opsCons ?_
  refine call hE hR [] 51 #[.int .i64 ck] (some 14) [] (by kernel_rfl) (by kernel_rfl) trivial (hpl _) (fun _ _ h => by cases h.1) (fun _ h => by cases h.1) ?_
  clear hE
  rintro v u ⟨hv, hb⟩ a hE
  cases hv
  obtain ⟨H1, hH1, hR⟩ := hR.callE hb
  refine segV hE hR [(3, .op [])] [] [(6, .int .i64 2)] [] (by kernel_rfl) (by kernel_rfl) (by kernel_rfl) trivial ?_
  clear hE hR; intro a u hE hR
  refine opsNil ?_; refine thenN ?_; refine wp_seq ?_; refine wp_seq ?_
  refine enterR (idx := [0, 1, 2, 3, 4, 5, 6, 7, 8, 9, 10, 11, 12, 13, 14]) (by kernel_rfl) ?_
  refine segV hE hR [(0, .op []), (1, .op []), (2, .op []), (3, .op []), (4, .op []), (5, .op []), (6, .op []), (7, .skip), (8, .skip), (9, .op []), (10, .op []), (11, .skip), (12, .skip), (13, .op []), (14, .op [])] [] [(29, .bool false)] [true = !false, true = !false, true = !false, true = !false, true = true, true = true] (by kernel_rfl) (by kernel_rfl) (by kernel_rfl) ⟨rfl, rfl, rfl, rfl, rfl, rfl, trivial⟩ ?_
  clear hE hR; intro a u hE hR
  refine opsNil ?_; refine thenN ?_
  refine condF hE (b := false) (by kernel_rfl) rfl ?_
  refine wp_skip ?_; refine thenN ?_; refine wp_seq ?_; refine wp_seq ?_
  refine enterR (idx := [0, 1, 2, 3, 4, 5, 6, 7, 8, 9]) (by kernel_rfl) ?_
  refine segV hE hR [(0, .op []), (1, .op [.k 1 1]), (2, .as [] (.bool false)), (3, .op []), (4, .op []), (5, .op [.k 1 1]), (6, .op []), (7, .op []), (8, .as [] (.bool false)), (9, .op [])] [] [(41, .bool false)] [(.bool (decide (((i : Nat) : Int) ≥ ((L.length : Nat) : Int))) : Value) = (.bool false : Value), false = false, false = false, false = false, false = false, false = false, (.bool (decide (((i : Nat) : Int) < 0)) : Value) = (.bool false : Value)] (by kernel_rfl) (by kernel_rfl) (by kernel_rfl) ⟨congrArg Value.bool (decide_eq_false (by omega)), rfl, rfl, rfl, rfl, rfl, congrArg Value.bool (decide_eq_false (by omega)), trivial⟩ ?_
  clear hE hR; intro a u hE hR
  refine opsNil ?_; refine thenN ?_
  refine condF hE (b := false) (by kernel_rfl) rfl ?_
  refine wp_skip ?_; refine thenN ?_; refine wp_seq ?_
  refine enterR (idx := [0, 1, 2]) (by kernel_rfl) ?_
  refine segV hE hR [(0, .op [])] [1, 2] [(44, .slice (some ⟨g, off, none⟩) L.length c)] [] (by kernel_rfl) (by kernel_rfl) (by kernel_rfl) trivial ?_
  clear hE hR; intro a u hE hR
  refine opsCons ?_
  refine call hE hR [] 52 #[.slice (some ⟨g, off, none⟩) L.length c] (some 45) [] (by kernel_rfl) (by kernel_rfl) trivial (HC _ (hR.below (by simp))) (by rintro _ _ ⟨_, _, _, _, _, _, _, _, _, _, h, _⟩; cases h) (by rintro _ ⟨_, _, _, _, _, _, _, _, _, _, h, _⟩; cases h) ?_
  clear hE
  rintro v u ⟨g2, cap2, pr, po, gr, cr, rest, rs, ob, L2, hv, hcf, Hc, hRc⟩ a hE
  cases hv
  let kc4 : List Value := [.int .i64 o.kind, .int .i64 o.cap, .int .i64 o.width, .int .i64 o.retry, .int .i64 o.src, .int .i64 o.dst, .int .u32 o.i0, .int .u32 o.i1, .int .u32 o.i2, .int .u32 o.i3, .slice (some ⟨gr, 0, none⟩) 0 cr, .int .u32 v.a, .int .u32 v.b, .int .u32 v.c, .int .u32 v.d]
  replace hR : Rep [(w, fun _ => True)] u Hc (⟨H0 + 1, 0, kc2, 63, true⟩ :: ⟨H0, 0, kc3, 60, true⟩ :: ⟨g2, 0 + i * 15, kc4, 118, false⟩ :: ⟨g2, 0, pr, 118, false⟩ :: ⟨g2, 0 + i * 15 + 15, po, 118, false⟩ :: (rs ++ ob)) [] := hR.join hRc
  refine segV hE hR [(2, .op [])] [] [(7, .slice (some ⟨g2, 0, none⟩) L.length cap2)] [] (by kernel_rfl) (by kernel_rfl) (by kernel_rfl) trivial ?_
  clear hE hR; intro a u hE hR
  refine opsNil ?_; refine thenN ?_; refine wp_seq ?_
  refine enterR (idx := [0, 1, 2, 3, 4]) (by kernel_rfl) ?_
  refine seg0 hE hR [(0, .op []), (1, .op []), (2, .op [.k 1 1]), (3, .alt (.pointer (some ⟨g2, 0 + i * 15, none⟩))), (4, .op [])] [] [(0, .slice (some ⟨g, off, none⟩) L.length c), (3, .pointer (some ⟨H0, 0, none⟩)), (4, .slice none 0 0), (5, .pointer (some ⟨H0 + 1, 0, none⟩)), (6, .int .i64 2), (29, .bool false), (41, .bool false), (7, .slice (some ⟨g2, 0, none⟩) L.length cap2), (8, .pointer (some ⟨g2, 0 + i * 15, none⟩))] [(0 ≤ (((i : Nat) : Int) : Int) ∧ (((i : Nat) : Int) : Int) < ((L.length : Nat) : Int)) ∧ (Try.prog.info? 118).isSome = true, (.pointer (some ⟨g2, 0 + (((i : Nat) : Int)).toNat * Try.prog.cellsOf 118, none⟩) : Value) = (.pointer (some ⟨g2, 0 + i * 15, none⟩) : Value)] (by kernel_rfl) (by kernel_rfl) (by kernel_rfl) ⟨⟨⟨by omega, by omega⟩, by kernel_rfl⟩, by kernel_rfl, trivial⟩ ?_
  clear hE hR; intro a u hE hR
  refine opsNil ?_; refine thenN ?_; refine wp_seq ?_
  refine enterR (idx := [0]) (by kernel_rfl) ?_
  refine segV hE hR [(0, .op [])] [] [(9, .int .i64 0)] [] (by kernel_rfl) (by kernel_rfl) (by kernel_rfl) trivial ?_
  clear hE hR; intro a u hE hR
  refine opsNil ?_; refine thenN ?_; refine wp_seq ?_; refine wp_seq ?_
  refine enterR (idx := [0, 1, 2, 3, 4]) (by kernel_rfl) ?_
  let kv5 : Value := .agg #[.int .i64 o.kind, .int .i64 o.cap, .int .i64 o.width, .int .i64 o.retry, .int .i64 o.src, .int .i64 o.dst, .int .u32 o.i0, .int .u32 o.i1, .int .u32 o.i2, .int .u32 o.i3]
  refine segV hE hR [(0, .op []), (1, .op []), (2, .op []), (3, .op (hks 2 0 10))] [4] [(53, kv5)] [] (by kernel_rfl) (by kernel_rfl) (by kernel_rfl) trivial ?_
  clear hE hR; intro a u hE hR
  refine opsCons ?_
  refine call hE hR [] 47 #[kv5] (some 54) [] (by kernel_rfl) (by kernel_rfl) trivial (HRt _) (fun _ _ h => by cases h.1) (fun _ h => by cases h.1) ?_
  clear hE
  rintro v u ⟨hv, hb⟩ a hE
  cases hv
  obtain ⟨H2, hH2, hR⟩ := hR.callE hb
  refine opsNil ?_; refine thenN ?_
  refine condT hE (b := true) (by kernel_rfl) rfl ?_
  refine enterR (idx := [0, 1, 2, 3, 4, 5]) (by kernel_rfl) ?_
  refine segV hE hR [(0, .op []), (1, .op []), (2, .op []), (3, .op []), (4, .op [.k 2 0]), (5, .op [])] [] [(9, .int .i64 o.kind)] [] (by kernel_rfl) (by kernel_rfl) (by kernel_rfl) trivial ?_
  clear hE hR; intro a u hE hR
  refine opsNil ?_; refine thenN ?_; refine wp_seq ?_
  refine enterR (idx := [0, 1, 2, 3, 4, 5]) (by kernel_rfl) ?_
  refine segV hE hR [(0, .op []), (1, .op []), (2, .op []), (3, .op []), (4, .op [.k 2 11]), (5, .op [])] [] [(10, .int .u32 v.a)] [] (by kernel_rfl) (by kernel_rfl) (by kernel_rfl) trivial ?_
  clear hE hR; intro a u hE hR
  refine opsNil ?_; refine thenN ?_; refine wp_seq ?_; refine wp_block ?_; refine wp_seq ?_
  refine enterR (idx := [0, 1, 2, 3, 4, 5, 6]) (by kernel_rfl) ?_
  refine segV hE hR [(0, .op []), (1, .op []), (2, .op []), (3, .skip), (4, .skip), (5, .op []), (6, .op [])] [] [(65, .bool false)] [false = !true, false = !true] (by kernel_rfl) (by kernel_rfl) (by kernel_rfl) ⟨rfl, rfl, trivial⟩ ?_
  clear hE hR; intro a u hE hR
  refine opsNil ?_; refine thenN ?_
  refine condF hE (b := false) (by kernel_rfl) rfl ?_
  refine wp_seq ?_
  refine enterR (idx := [0, 1, 2, 3, 4, 5, 6]) (by kernel_rfl) ?_
  refine segV hE hR [(0, .op []), (1, .op []), (2, .op []), (3, .op []), (4, .as [] (.bool true)), (5, .op []), (6, .op [])] [] [(104, .bool true)] [(.bool ((o.kind : Int) == 1) : Value) = (.bool true : Value), true = true, true = true] (by kernel_rfl) (by kernel_rfl) (by kernel_rfl) ⟨congrArg Value.bool (beq_iff_eq.2 (by omega)), rfl, rfl, trivial⟩ ?_
  clear hE hR; intro a u hE hR
  refine opsNil ?_; refine thenN ?_
  refine condT hE (b := true) (by kernel_rfl) rfl ?_
  refine wp_seq ?_; refine wp_seq ?_
  refine enterR (idx := [0, 1, 2, 3, 4, 5]) (by kernel_rfl) ?_
  refine segV hE hR [(0, .op []), (1, .op []), (2, .op []), (3, .op [.k 2 10]), (4, .op []), (5, .op [])] [] [(116, .bool true)] [] (by kernel_rfl) (by kernel_rfl) (by kernel_rfl) trivial ?_
  clear hE hR; intro a u hE hR
  refine opsNil ?_; refine thenN ?_
  refine condT hE (b := true) (by kernel_rfl) rfl ?_
  refine wp_seq ?_
  refine enterR (idx := [0, 1, 2, 3]) (by kernel_rfl) ?_
  let kc6 : List Value := [.int .i64 7, .int .u32 0, .int .u32 0, .int .u32 0, .int .u32 0]
  refine seg hE hR [(0, .op []), (1, .op []), (2, .op []), (3, .op (hks 0 0 5))] [] [(0, .slice (some ⟨g, off, none⟩) L.length c), (3, .pointer (some ⟨H0, 0, none⟩)), (4, .slice (some ⟨g, off, none⟩) L.length c), (5, .pointer (some ⟨H0 + 1, 0, none⟩)), (6, .int .i64 2), (29, .bool false), (41, .bool false), (7, .slice (some ⟨g2, 0, none⟩) L.length cap2), (8, .pointer (some ⟨g2, 0 + i * 15, none⟩)), (9, .int .i64 o.kind), (53, kv5), (54, .bool true), (10, .int .u32 v.a), (65, .bool false), (104, .bool true), (116, .bool true)] (⟨H0 + 1, 0, kc6, 63, true⟩ :: ⟨H0, 0, kc3, 60, true⟩ :: ⟨g2, 0 + i * 15, kc4, 118, false⟩ :: ⟨g2, 0, pr, 118, false⟩ :: ⟨g2, 0 + i * 15 + 15, po, 118, false⟩ :: (rs ++ ob)) (H2) [] (by kernel_rfl) (by kernel_rfl) (by kernel_rfl) trivial ?_
  clear hE hR; intro a u hE hR
  refine opsNil ?_; refine thenN ?_; refine wp_ret ?_; refine thenR ?_; refine blkR ?_; refine thenR ?_
  refine retF hE hR (hks 0 0 5) (.tuple #[.slice (some ⟨g, off, none⟩) L.length c, .agg #[.int .i64 7, .int .u32 0, .int .u32 0, .int .u32 0, .int .u32 0]]) (by kernel_rfl) (by kernel_rfl) (by kernel_rfl) ?_
  exact ⟨rfl, hR.below (by simp)⟩
set_option maxRecDepth 100000 in
theorem ref_recv (g off c : Nat) (L : List IV) (o : Ob) (x : Vl) (row : List Vl) (v : Vl) (ck : Int) (i : Nat) (cv : Vl) (cn : Int) (w : World) (hck : -9223372036854775808 ≤ ck ∧ ck ≤ 9223372036854775807) (hK : plainP ck = 2) (hi : i < L.length) (_ : L.length ≤ 8) (HC : ∀ W, Below w.heap.size w W → Calls Try.prog 52 #[.slice (some ⟨g, off, none⟩) L.length c] W (CopyAt L i ⟨o, x :: row, v⟩ W)) (hrt : rightP o = true) (hkk : o.kind = 1) :
    Calls Try.prog 26 #[.slice (some ⟨g, off, none⟩) L.length c, .agg #[.int .i64 ck, .int .i64 ((i : Nat) : Int), .int .u32 cv.a, .int .u32 cv.b, .int .u32 cv.c, .int .u32 cv.d, .int .u32 cn]] w fun e W' => ∃ s' L', e = .returned (.tuple #[s', resA 0 x]) ∧ ItemsR W' s' L' ∧ itms L' = (itms L).set i ⟨o, row, v⟩ ∧ Below w.heap.size w W' := by
  have hpl := fun W => plain2B_calls ck W hck
  rw [hK] at hpl
  have HRt := fun W => right2_calls o W
  rw [hrt] at HRt
  let kv1 : Value := .agg #[.int .i64 ck, .int .i64 ((i : Nat) : Int), .int .u32 cv.a, .int .u32 cv.b, .int .u32 cv.c, .int .u32 cv.d, .int .u32 cn]
  refine enterF Try.func26 rfl Try.ntmps26 [(0, .slice (some ⟨g, off, none⟩) L.length c), (1, kv1)] (by kernel_rfl) (by kernel_rfl) ?_
  have hR := Rep.start w
  obtain ⟨H0, hH0⟩ : ∃ x, x = w.heap.size := ⟨_, rfl⟩
  rw [← hH0] at hR
  intro a hE
  refine wp_seq ?_
  refine enterR (idx := [0, 1, 2]) (by kernel_rfl) ?_
  let kc2 : List Value := [.int .i64 0, .int .u32 0, .int .u32 0, .int .u32 0, .int .u32 0]
  let kc3 : List Value := [.int .i64 ck, .int .i64 ((i : Nat) : Int), .int .u32 cv.a, .int .u32 cv.b, .int .u32 cv.c, .int .u32 cv.d, .int .u32 cn]
  refine segU hE hR [(0, .op []), (1, .op []), (2, .op [])] [] [(3, .pointer (some ⟨H0, 0, none⟩)), (4, .slice none 0 0), (5, .pointer (some ⟨H0 + 1, 0, none⟩))] [⟨H0 + 1, 0, kc2, 63, true⟩, ⟨H0, 0, kc3, 60, true⟩] (H0 + 2) [] (by kernel_rfl) (by kernel_rfl) (by kernel_rfl) trivial ?_
  clear hE hR; intro a u hE hR
  refine opsNil ?_; refine thenN ?_; refine wp_seq ?_
  refine enterR (idx := [0, 1, 2, 3]) (by kernel_rfl) ?_
  refine segV hE hR [(0, .op []), (1, .op [.k 1 0])] [2, 3] [(13, .int .i64 ck)] [] (by kernel_rfl) (by kernel_rfl) (by kernel_rfl) trivial ?_
  clear hE hR; intro a u hE hR
  refine opsCons ?_
  refine call hE hR [] 51 #[.int .i64 ck] (some 14) [] (by kernel_rfl) (by kernel_rfl) trivial (hpl _) (fun _ _ h => by cases h.1) (fun _ h => by cases h.1) ?_
  clear hE
  rintro v u ⟨hv, hb⟩ a hE
  cases hv
  obtain ⟨H1, hH1, hR⟩ := hR.callE hb
  refine segV hE hR [(3, .op [])] [] [(6, .int .i64 2)] [] (by kernel_rfl) (by kernel_rfl) (by kernel_rfl) trivial ?_
  clear hE hR; intro a u hE hR
  refine opsNil ?_; refine thenN ?_; refine wp_seq ?_; refine wp_seq ?_
  refine enterR (idx := [0, 1, 2, 3, 4, 5, 6, 7, 8, 9, 10, 11, 12, 13, 14]) (by kernel_rfl) ?_
  refine segV hE hR [(0, .op []), (1, .op []), (2, .op []), (3, .op []), (4, .op []), (5, .op []), (6, .op []), (7, .skip), (8, .skip), (9, .op []), (10, .op []), (11, .skip), (12, .skip), (13, .op []), (14, .op [])] [] [(29, .bool false)] [true = !false, true = !false, true = !false, true = !false, true = true, true = true] (by kernel_rfl) (by kernel_rfl) (by kernel_rfl) ⟨rfl, rfl, rfl, rfl, rfl, rfl, trivial⟩ ?_
  clear hE hR; intro a u hE hR
  refine opsNil ?_; refine thenN ?_
  refine condF hE (b := false) (by kernel_rfl) rfl ?_
  refine wp_skip ?_; refine thenN ?_; refine wp_seq ?_; refine wp_seq ?_
  refine enterR (idx := [0, 1, 2, 3, 4, 5, 6, 7, 8, 9]) (by kernel_rfl) ?_
  refine segV hE hR [(0, .op []), (1, .op [.k 1 1]), (2, .as [] (.bool false)), (3, .op []), (4, .op []), (5, .op [.k 1 1]), (6, .op []), (7, .op []), (8, .as [] (.bool false)), (9, .op [])] [] [(41, .bool false)] [(.bool (decide (((i : Nat) : Int) ≥ ((L.length : Nat) : Int))) : Value) = (.bool false : Value), false = false, false = false, false = false, false = false, false = false, (.bool (decide (((i : Nat) : Int) < 0)) : Value) = (.bool false : Value)] (by kernel_rfl) (by kernel_rfl) (by kernel_rfl) ⟨congrArg Value.bool (decide_eq_false (by omega)), rfl, rfl, rfl, rfl, rfl, congrArg Value.bool (decide_eq_false (by omega)), trivial⟩ ?_
  clear hE hR; intro a u hE hR
  refine opsNil ?_; refine thenN ?_
  refine condF hE (b := false) (by kernel_rfl) rfl ?_
  refine wp_skip ?_; refine thenN ?_; refine wp_seq ?_
  refine enterR (idx := [0, 1, 2]) (by kernel_rfl) ?_
  refine segV hE hR [(0, .op [])] [1, 2] [(44, .slice (some ⟨g, off, none⟩) L.length c)] [] (by kernel_rfl) (by kernel_rfl) (by kernel_rfl) trivial ?_
  clear hE hR; intro a u hE hR
  refine opsCons ?_
  refine call hE hR [] 52 #[.slice (some ⟨g, off, none⟩) L.length c] (some 45) [] (by kernel_rfl) (by kernel_rfl) trivial (HC _ (hR.below (by simp))) (by rintro _ _ ⟨_, _, _, _, _, _, _, _, _, _, h, _⟩; cases h) (by rintro _ ⟨_, _, _, _, _, _, _, _, _, _, h, _⟩; cases h) ?_
  clear hE
  rintro v u ⟨g2, cap2, pr, po, gr, cr, rest, rs, ob, L2, hv, hcf, Hc, hRc⟩ a hE
  cases hv
  let kc4 : List Value := [.int .i64 o.kind, .int .i64 o.cap, .int .i64 o.width, .int .i64 o.retry, .int .i64 o.src, .int .i64 o.dst, .int .u32 o.i0, .int .u32 o.i1, .int .u32 o.i2, .int .u32 o.i3, .slice (some ⟨gr, 0, none⟩) (row.length + 1) cr, .int .u32 v.a, .int .u32 v.b, .int .u32 v.c, .int .u32 v.d]
  replace hR : Rep [(w, fun _ => True)] u Hc ([⟨H0 + 1, 0, kc2, 63, true⟩, ⟨H0, 0, kc3, 60, true⟩, ⟨g2, 0 + i * 15, kc4, 118, false⟩, ⟨g2, 0, pr, 118, false⟩, ⟨g2, 0 + i * 15 + 15, po, 118, false⟩] ++ (rs ++ ob)) [] := hR.join hRc
  replace hR := recvSplit hcf hR
  replace hR : Rep [(w, fun _ => True)] u Hc (⟨gr, 0, [.int .u32 x.a, .int .u32 x.b, .int .u32 x.c, .int .u32 x.d], 58, false⟩ :: ⟨gr, 4, (flatV row ++ rest), 58, false⟩ :: ⟨H0 + 1, 0, kc2, 63, true⟩ :: ⟨H0, 0, kc3, 60, true⟩ :: ⟨g2, 0 + i * 15, kc4, 118, false⟩ :: ⟨g2, 0, pr, 118, false⟩ :: ⟨g2, 0 + i * 15 + 15, po, 118, false⟩ :: rs) [] := hR
  refine segV hE hR [(2, .op [])] [] [(7, .slice (some ⟨g2, 0, none⟩) L.length cap2)] [] (by kernel_rfl) (by kernel_rfl) (by kernel_rfl) trivial ?_
  clear hE hR; intro a u hE hR
  refine opsNil ?_; refine thenN ?_; refine wp_seq ?_
  refine enterR (idx := [0, 1, 2, 3, 4]) (by kernel_rfl) ?_
  refine seg0 hE hR [(0, .op []), (1, .op []), (2, .op [.k 3 1]), (3, .alt (.pointer (some ⟨g2, 0 + i * 15, none⟩))), (4, .op [])] [] [(0, .slice (some ⟨g, off, none⟩) L.length c), (3, .pointer (some ⟨H0, 0, none⟩)), (4, .slice none 0 0), (5, .pointer (some ⟨H0 + 1, 0, none⟩)), (6, .int .i64 2), (29, .bool false), (41, .bool false), (7, .slice (some ⟨g2, 0, none⟩) L.length cap2), (8, .pointer (some ⟨g2, 0 + i * 15, none⟩))] [(0 ≤ (((i : Nat) : Int) : Int) ∧ (((i : Nat) : Int) : Int) < ((L.length : Nat) : Int)) ∧ (Try.prog.info? 118).isSome = true, (.pointer (some ⟨g2, 0 + (((i : Nat) : Int)).toNat * Try.prog.cellsOf 118, none⟩) : Value) = (.pointer (some ⟨g2, 0 + i * 15, none⟩) : Value)] (by kernel_rfl) (by kernel_rfl) (by kernel_rfl) ⟨⟨⟨by omega, by omega⟩, by kernel_rfl⟩, by kernel_rfl, trivial⟩ ?_
  clear hE hR; intro a u hE hR
  refine opsNil ?_; refine thenN ?_; refine wp_seq ?_
  refine enterR (idx := [0]) (by kernel_rfl) ?_
  refine segV hE hR [(0, .op [])] [] [(9, .int .i64 0)] [] (by kernel_rfl) (by kernel_rfl) (by kernel_rfl) trivial ?_
  clear hE hR; intro a u hE hR
  refine opsNil ?_; refine thenN ?_; refine wp_seq ?_; refine wp_seq ?_
  refine enterR (idx := [0, 1, 2, 3, 4]) (by kernel_rfl) ?_
  let kv5 : Value := .agg #[.int .i64 o.kind, .int .i64 o.cap, .int .i64 o.width, .int .i64 o.retry, .int .i64 o.src, .int .i64 o.dst, .int .u32 o.i0, .int .u32 o.i1, .int .u32 o.i2, .int .u32 o.i3]
  refine segV hE hR [(0, .op []), (1, .op []), (2, .op []), (3, .op (hks 4 0 10))] [4] [(53, kv5)] [] (by kernel_rfl) (by kernel_rfl) (by kernel_rfl) trivial ?_
  clear hE hR; intro a u hE hR
  refine opsCons ?_
  refine call hE hR [] 47 #[kv5] (some 54) [] (by kernel_rfl) (by kernel_rfl) trivial (HRt _) (fun _ _ h => by cases h.1) (fun _ h => by cases h.1) ?_
  clear hE
  rintro v u ⟨hv, hb⟩ a hE
  cases hv
  obtain ⟨H2, hH2, hR⟩ := hR.callE hb
  refine opsNil ?_; refine thenN ?_
  refine condT hE (b := true) (by kernel_rfl) rfl ?_
  refine enterR (idx := [0, 1, 2, 3, 4, 5]) (by kernel_rfl) ?_
  refine segV hE hR [(0, .op []), (1, .op []), (2, .op []), (3, .op []), (4, .op [.k 4 0]), (5, .op [])] [] [(9, .int .i64 o.kind)] [] (by kernel_rfl) (by kernel_rfl) (by kernel_rfl) trivial ?_
  clear hE hR; intro a u hE hR
  refine opsNil ?_; refine thenN ?_; refine wp_seq ?_
  refine enterR (idx := [0, 1, 2, 3, 4, 5]) (by kernel_rfl) ?_
  refine segV hE hR [(0, .op []), (1, .op []), (2, .op []), (3, .op []), (4, .op [.k 4 11]), (5, .op [])] [] [(10, .int .u32 v.a)] [] (by kernel_rfl) (by kernel_rfl) (by kernel_rfl) trivial ?_
  clear hE hR; intro a u hE hR
  refine opsNil ?_; refine thenN ?_; refine wp_seq ?_; refine wp_block ?_; refine wp_seq ?_
  refine enterR (idx := [0, 1, 2, 3, 4, 5, 6]) (by kernel_rfl) ?_
  refine segV hE hR [(0, .op []), (1, .op []), (2, .op []), (3, .skip), (4, .skip), (5, .op []), (6, .op [])] [] [(65, .bool false)] [false = !true, false = !true] (by kernel_rfl) (by kernel_rfl) (by kernel_rfl) ⟨rfl, rfl, trivial⟩ ?_
  clear hE hR; intro a u hE hR
  refine opsNil ?_; refine thenN ?_
  refine condF hE (b := false) (by kernel_rfl) rfl ?_
  refine wp_seq ?_
  refine enterR (idx := [0, 1, 2, 3, 4, 5, 6]) (by kernel_rfl) ?_
  refine segV hE hR [(0, .op []), (1, .op []), (2, .op []), (3, .op []), (4, .as [] (.bool true)), (5, .op []), (6, .op [])] [] [(104, .bool true)] [(.bool ((o.kind : Int) == 1) : Value) = (.bool true : Value), true = true, true = true] (by kernel_rfl) (by kernel_rfl) (by kernel_rfl) ⟨congrArg Value.bool (beq_iff_eq.2 (by omega)), rfl, rfl, trivial⟩ ?_
  clear hE hR; intro a u hE hR
  refine opsNil ?_; refine thenN ?_
  refine condT hE (b := true) (by kernel_rfl) rfl ?_
  refine wp_seq ?_; refine wp_seq ?_
  refine enterR (idx := [0, 1, 2, 3, 4, 5]) (by kernel_rfl) ?_
  refine segV hE hR [(0, .op []), (1, .op []), (2, .op []), (3, .op [.k 4 10]), (4, .op []), (5, .as [] (.bool false))] [] [(116, .bool false)] [(.bool (((row.length + 1 : Nat) : Int) == 0) : Value) = (.bool false : Value)] (by kernel_rfl) (by kernel_rfl) (by kernel_rfl) ⟨congrArg Value.bool (beq_eq_false_iff_ne.2 (by omega)), trivial⟩ ?_
  clear hE hR; intro a u hE hR
  refine opsNil ?_; refine thenN ?_
  refine condF hE (b := false) (by kernel_rfl) rfl ?_
  refine wp_skip ?_; refine thenN ?_; refine wp_seq ?_
  refine enterR (idx := [0, 1, 2, 3, 4, 5, 6, 7]) (by kernel_rfl) ?_
  refine seg hE hR [(0, .op []), (1, .op []), (2, .op []), (3, .op [.k 4 10]), (4, .alt (.pointer (some ⟨gr, 0, none⟩))), (5, .op (hks 0 0 4)), (6, .op []), (7, .op (hks 0 0 4))] [] [(0, .slice (some ⟨g, off, none⟩) L.length c), (3, .pointer (some ⟨H0, 0, none⟩)), (4, .slice none 0 0), (5, .pointer (some ⟨H0 + 1, 0, none⟩)), (6, .int .i64 2), (29, .bool false), (41, .bool false), (7, .slice (some ⟨g2, 0, none⟩) L.length cap2), (8, .pointer (some ⟨g2, 0 + i * 15, none⟩)), (9, .int .i64 o.kind), (53, kv5), (54, .bool true), (10, .int .u32 v.a), (65, .bool false), (104, .bool true), (116, .bool false), (11, .pointer (some ⟨H2, 0, none⟩))] (⟨H2, 0, [.int .u32 x.a, .int .u32 x.b, .int .u32 x.c, .int .u32 x.d], 58, true⟩ :: ⟨gr, 0, [.int .u32 x.a, .int .u32 x.b, .int .u32 x.c, .int .u32 x.d], 58, false⟩ :: ⟨gr, 4, (flatV row ++ rest), 58, false⟩ :: ⟨H0 + 1, 0, kc2, 63, true⟩ :: ⟨H0, 0, kc3, 60, true⟩ :: ⟨g2, 0 + i * 15, kc4, 118, false⟩ :: ⟨g2, 0, pr, 118, false⟩ :: ⟨g2, 0 + i * 15 + 15, po, 118, false⟩ :: rs) (H2 + 1) [(0 ≤ (0 : Int) ∧ (0 : Int) < ((row.length + 1 : Nat) : Int)) ∧ (Try.prog.info? 58).isSome = true, (.pointer (some ⟨gr, 0, none⟩) : Value) = (.pointer (some ⟨gr, 0, none⟩) : Value)] (by kernel_rfl) (by kernel_rfl) (by kernel_rfl) ⟨⟨⟨by omega, by omega⟩, by kernel_rfl⟩, rfl, trivial⟩ ?_
  clear hE hR; intro a u hE hR
  refine opsNil ?_; refine thenN ?_; refine wp_seq ?_
  refine enterR (idx := [0, 1, 2, 3, 4, 5, 6, 7, 8]) (by kernel_rfl) ?_
  refine segV hE hR [(0, .op []), (1, .op []), (2, .op []), (3, .op []), (4, .op [.k 5 10])] [5, 6, 7, 8] [(125, .pointer (some ⟨g2, 0 + i * 15, none⟩)), (129, .slice (some ⟨gr, 0, none⟩) (row.length + 1) cr)] [] (by kernel_rfl) (by kernel_rfl) (by kernel_rfl) trivial ?_
  clear hE hR; intro a u hE hR
  refine opsCons ?_
  refine slT hE 4 58 16 hR gr 0 (row.length + 1) cr [] rfl rfl trivial Try.underlying114 (by kernel_rfl) (by kernel_rfl) (by kernel_rfl) (by kernel_rfl) (by omega) hcf.c3 ?_
  clear hE hR; intro a o9 ho9 hE hR
  let kc6 : List Value := [.int .i64 o.kind, .int .i64 o.cap, .int .i64 o.width, .int .i64 o.retry, .int .i64 o.src, .int .i64 o.dst, .int .u32 o.i0, .int .u32 o.i1, .int .u32 o.i2, .int .u32 o.i3, .slice (some ⟨gr, o9, none⟩) row.length (cr - 1), .int .u32 v.a, .int .u32 v.b, .int .u32 v.c, .int .u32 v.d]
  refine segU hE hR [(6, .op []), (7, .op []), (8, .op [.k 5 10])] [] [] (⟨H2, 0, [.int .u32 x.a, .int .u32 x.b, .int .u32 x.c, .int .u32 x.d], 58, true⟩ :: ⟨gr, 0, [.int .u32 x.a, .int .u32 x.b, .int .u32 x.c, .int .u32 x.d], 58, false⟩ :: ⟨gr, 4, (flatV row ++ rest), 58, false⟩ :: ⟨H0 + 1, 0, kc2, 63, true⟩ :: ⟨H0, 0, kc3, 60, true⟩ :: ⟨g2, 0 + i * 15, kc6, 118, false⟩ :: ⟨g2, 0, pr, 118, false⟩ :: ⟨g2, 0 + i * 15 + 15, po, 118, false⟩ :: rs) (H2 + 1) [] (by kernel_rfl) (by kernel_rfl) (by kernel_rfl) trivial ?_
  clear hE hR; intro a u hE hR
  refine opsNil ?_; refine thenN ?_; refine wp_seq ?_
  refine enterD (kl := [⟨H2, 0, [.int .u32 x.a, .int .u32 x.b, .int .u32 x.c, .int .u32 x.d], 58, true⟩, ⟨gr, 0, [.int .u32 x.a, .int .u32 x.b, .int .u32 x.c, .int .u32 x.d], 58, false⟩, ⟨gr, 4, (flatV row ++ rest), 58, false⟩, ⟨H0, 0, kc3, 60, true⟩, ⟨g2, 0 + i * 15, kc6, 118, false⟩, ⟨g2, 0, pr, 118, false⟩, ⟨g2, 0 + i * 15 + 15, po, 118, false⟩]) (by kernel_rfl) hR (F := 5) (listed := #[false, false, false, false, false]) (by kernel_rfl) (by kernel_rfl) ?_
  clear hR
  intro u hR
  let kv7 : Value := .agg #[.int .i64 0, .int .u32 x.a, .int .u32 x.b, .int .u32 x.c, .int .u32 x.d]
  refine takesU (by kernel_rfl) (pqT (pqB (pqT pqF))) hE (hR.ss [0, 1, 2, 4, 5, 6, 7] (by kernel_rfl)) [(0, .op []), (1, .op (hks 0 0 4)), (2, .op []), (3, .op [])] 1 [(4, .slice (some ⟨g2, 0, none⟩) L.length cap2), (135, kv7)] #[true, true, true, true, false] [] (by kernel_rfl) (by kernel_rfl) (by kernel_rfl) trivial ?_
  clear hE; intro a hE
  refine wpAnyH_all (rs := [4]) (by kernel_rfl) (by simp) (allCons ?_ allNil)
  let kc8 : List Value := [.int .i64 0, .int .u32 x.a, .int .u32 x.b, .int .u32 x.c, .int .u32 x.d]
  refine oneU hE hR (.op (hks 3 0 5)) [] (⟨H2, 0, [.int .u32 x.a, .int .u32 x.b, .int .u32 x.c, .int .u32 x.d], 58, true⟩ :: ⟨gr, 0, [.int .u32 x.a, .int .u32 x.b, .int .u32 x.c, .int .u32 x.d], 58, false⟩ :: ⟨gr, 4, (flatV row ++ rest), 58, false⟩ :: ⟨H0 + 1, 0, kc8, 63, true⟩ :: ⟨H0, 0, kc3, 60, true⟩ :: ⟨g2, 0 + i * 15, kc6, 118, false⟩ :: ⟨g2, 0, pr, 118, false⟩ :: ⟨g2, 0 + i * 15 + 15, po, 118, false⟩ :: rs) (H2 + 1) [] (by kernel_rfl) (by kernel_rfl) trivial ?_
  clear hE hR; intro a u hE hR
  refine ⟨(hR.ss [0, 1, 2, 4, 5, 6, 7] (by kernel_rfl)), ?_⟩
  show wpAnyH _ _ _ _ _ _ #[true, true, true, true, true] _ _
  refine wpAnyH_done (by kernel_rfl) ?_ _
  refine thenN ?_; refine wp_ret ?_; refine blkR ?_; refine thenR ?_
  refine retF hE hR (hks 3 0 5) (.tuple #[.slice (some ⟨g2, 0, none⟩) L.length cap2, .agg #[.int .i64 0, .int .u32 x.a, .int .u32 x.b, .int .u32 x.c, .int .u32 x.d]]) (by kernel_rfl) (by kernel_rfl) (by kernel_rfl) ?_
  obtain ⟨L3, h3a, h3b⟩ := hcf.made hi (⟨o, row, v⟩) (.slice (some ⟨gr, o9, none⟩) row.length (cr - 1)) (by have h9 := hR.rangeK 5 rfl; exact h9) (by have h9 := hR.rangeK 6 rfl; exact h9) (by have h9 := hR.rangeK 7 rfl; exact h9) (fun e he => hR.rangeM (by simp [he])) (recvRow hcf ho9 (by have h9 := hR.rangeK 2 rfl; exact h9))
  exact ⟨_, L3, rfl, h3a, h3b, hR.below (by simp)⟩
set_option maxRecDepth 100000 in
theorem ref_write_four (g off c : Nat) (L : List IV) (o : Ob) (row : List Vl) (v : Vl) (ck : Int) (i : Nat) (cv : Vl) (cn : Int) (w : World) (hck : -9223372036854775808 ≤ ck ∧ ck ≤ 9223372036854775807) (hK : plainP ck = 3) (hi : i < L.length) (_ : L.length ≤ 8) (HC : ∀ W, Below w.heap.size w W → Calls Try.prog 52 #[.slice (some ⟨g, off, none⟩) L.length c] W (CopyAt L i ⟨o, row, v⟩ W)) (hrt : rightP o = true) (hkk : o.kind = 2) (h0w : 0 ≤ o.width) (h4w : o.width ≤ 4) :
    Calls Try.prog 26 #[.slice (some ⟨g, off, none⟩) L.length c, .agg #[.int .i64 ck, .int .i64 ((i : Nat) : Int), .int .u32 cv.a, .int .u32 cv.b, .int .u32 cv.c, .int .u32 cv.d, .int .u32 cn]] w fun e W' => ∃ s' L', e = .returned (.tuple #[s', resA 0 Vl.z]) ∧ ItemsR W' s' L' ∧ itms L' = (itms L).set i ⟨o, row, clipP cv o.width⟩ ∧ Below w.heap.size w W' := by
  have hpl := fun W => plain2B_calls ck W hck
  rw [hK] at hpl
  have HRt := fun W => right2_calls o W
  rw [hrt] at HRt
  let kv1 : Value := .agg #[.int .i64 ck, .int .i64 ((i : Nat) : Int), .int .u32 cv.a, .int .u32 cv.b, .int .u32 cv.c, .int .u32 cv.d, .int .u32 cn]
  refine enterF Try.func26 rfl Try.ntmps26 [(0, .slice (some ⟨g, off, none⟩) L.length c), (1, kv1)] (by kernel_rfl) (by kernel_rfl) ?_
  have hR := Rep.start w
  obtain ⟨H0, hH0⟩ : ∃ x, x = w.heap.size := ⟨_, rfl⟩
  rw [← hH0] at hR
  intro a hE
  refine wp_seq ?_
  refine enterR (idx := [0, 1, 2]) (by kernel_rfl) ?_
  let kc2 : List Value := [.int .i64 0, .int .u32 0, .int .u32 0, .int .u32 0, .int .u32 0]
  let kc3 : List Value := [.int .i64 ck, .int .i64 ((i : Nat) : Int), .int .u32 cv.a, .int .u32 cv.b, .int .u32 cv.c, .int .u32 cv.d, .int .u32 cn]
  refine segU hE hR [(0, .op []), (1, .op []), (2, .op [])] [] [(3, .pointer (some ⟨H0, 0, none⟩)), (4, .slice none 0 0), (5, .pointer (some ⟨H0 + 1, 0, none⟩))] [⟨H0 + 1, 0, kc2, 63, true⟩, ⟨H0, 0, kc3, 60, true⟩] (H0 + 2) [] (by kernel_rfl) (by kernel_rfl) (by kernel_rfl) trivial ?_
  clear hE hR; intro a u hE hR
  refine opsNil ?_; refine thenN ?_; refine wp_seq ?_
  refine enterR (idx := [0, 1, 2, 3]) (by kernel_rfl) ?_
  refine segV hE hR [(0, .op []), (1, .op [.k 1 0])] [2, 3] [(13, .int .i64 ck)] [] (by kernel_rfl) (by kernel_rfl) (by kernel_rfl) trivial ?_
  clear hE hR; intro a u hE hR
  refine opsCons ?_
  refine call hE hR [] 51 #[.int .i64 ck] (some 14) [] (by kernel_rfl) (by kernel_rfl) trivial (hpl _) (fun _ _ h => by cases h.1) (fun _ h => by cases h.1) ?_
  clear hE
  rintro v u ⟨hv, hb⟩ a hE
  cases hv
  obtain ⟨H1, hH1, hR⟩ := hR.callE hb
  refine segV hE hR [(3, .op [])] [] [(6, .int .i64 3)] [] (by kernel_rfl) (by kernel_rfl) (by kernel_rfl) trivial ?_
  clear hE hR; intro a u hE hR
  refine opsNil ?_; refine thenN ?_; refine wp_seq ?_; refine wp_seq ?_
  refine enterR (idx := [0, 1, 2, 3, 4, 5, 6, 7, 8, 9, 10, 11, 12, 13, 14]) (by kernel_rfl) ?_
  refine segV hE hR [(0, .op []), (1, .op []), (2, .op []), (3, .op []), (4, .op []), (5, .op []), (6, .op []), (7, .skip), (8, .skip), (9, .op []), (10, .op []), (11, .skip), (12, .skip), (13, .op []), (14, .op [])] [] [(29, .bool false)] [true = !false, true = !false, true = !false, true = !false, true = true, true = true] (by kernel_rfl) (by kernel_rfl) (by kernel_rfl) ⟨rfl, rfl, rfl, rfl, rfl, rfl, trivial⟩ ?_
  clear hE hR; intro a u hE hR
  refine opsNil ?_; refine thenN ?_
  refine condF hE (b := false) (by kernel_rfl) rfl ?_
  refine wp_skip ?_; refine thenN ?_; refine wp_seq ?_; refine wp_seq ?_
  refine enterR (idx := [0, 1, 2, 3, 4, 5, 6, 7, 8, 9]) (by kernel_rfl) ?_
  refine segV hE hR [(0, .op []), (1, .op [.k 1 1]), (2, .as [] (.bool false)), (3, .op []), (4, .op []), (5, .op [.k 1 1]), (6, .op []), (7, .op []), (8, .as [] (.bool false)), (9, .op [])] [] [(41, .bool false)] [(.bool (decide (((i : Nat) : Int) ≥ ((L.length : Nat) : Int))) : Value) = (.bool false : Value), false = false, false = false, false = false, false = false, false = false, (.bool (decide (((i : Nat) : Int) < 0)) : Value) = (.bool false : Value)] (by kernel_rfl) (by kernel_rfl) (by kernel_rfl) ⟨congrArg Value.bool (decide_eq_false (by omega)), rfl, rfl, rfl, rfl, rfl, congrArg Value.bool (decide_eq_false (by omega)), trivial⟩ ?_
  clear hE hR; intro a u hE hR
  refine opsNil ?_; refine thenN ?_
  refine condF hE (b := false) (by kernel_rfl) rfl ?_
  refine wp_skip ?_; refine thenN ?_; refine wp_seq ?_
  refine enterR (idx := [0, 1, 2]) (by kernel_rfl) ?_
  refine segV hE hR [(0, .op [])] [1, 2] [(44, .slice (some ⟨g, off, none⟩) L.length c)] [] (by kernel_rfl) (by kernel_rfl) (by kernel_rfl) trivial ?_
  clear hE hR; intro a u hE hR
  refine opsCons ?_
  refine call hE hR [] 52 #[.slice (some ⟨g, off, none⟩) L.length c] (some 45) [] (by kernel_rfl) (by kernel_rfl) trivial (HC _ (hR.below (by simp))) (by rintro _ _ ⟨_, _, _, _, _, _, _, _, _, _, h, _⟩; cases h) (by rintro _ ⟨_, _, _, _, _, _, _, _, _, _, h, _⟩; cases h) ?_
  clear hE
  rintro v u ⟨g2, cap2, pr, po, gr, cr, rest, rs, ob, L2, hv, hcf, Hc, hRc⟩ a hE
  cases hv
  let kc4 : List Value := [.int .i64 o.kind, .int .i64 o.cap, .int .i64 o.width, .int .i64 o.retry, .int .i64 o.src, .int .i64 o.dst, .int .u32 o.i0, .int .u32 o.i1, .int .u32 o.i2, .int .u32 o.i3, .slice (some ⟨gr, 0, none⟩) row.length cr, .int .u32 v.a, .int .u32 v.b, .int .u32 v.c, .int .u32 v.d]
  replace hR : Rep [(w, fun _ => True)] u Hc (⟨H0 + 1, 0, kc2, 63, true⟩ :: ⟨H0, 0, kc3, 60, true⟩ :: ⟨g2, 0 + i * 15, kc4, 118, false⟩ :: ⟨g2, 0, pr, 118, false⟩ :: ⟨g2, 0 + i * 15 + 15, po, 118, false⟩ :: (rs ++ ob)) [] := hR.join hRc
  refine segV hE hR [(2, .op [])] [] [(7, .slice (some ⟨g2, 0, none⟩) L.length cap2)] [] (by kernel_rfl) (by kernel_rfl) (by kernel_rfl) trivial ?_
  clear hE hR; intro a u hE hR
  refine opsNil ?_; refine thenN ?_; refine wp_seq ?_
  refine enterR (idx := [0, 1, 2, 3, 4]) (by kernel_rfl) ?_
  refine seg0 hE hR [(0, .op []), (1, .op []), (2, .op [.k 1 1]), (3, .alt (.pointer (some ⟨g2, 0 + i * 15, none⟩))), (4, .op [])] [] [(0, .slice (some ⟨g, off, none⟩) L.length c), (3, .pointer (some ⟨H0, 0, none⟩)), (4, .slice none 0 0), (5, .pointer (some ⟨H0 + 1, 0, none⟩)), (6, .int .i64 3), (29, .bool false), (41, .bool false), (7, .slice (some ⟨g2, 0, none⟩) L.length cap2), (8, .pointer (some ⟨g2, 0 + i * 15, none⟩))] [(0 ≤ (((i : Nat) : Int) : Int) ∧ (((i : Nat) : Int) : Int) < ((L.length : Nat) : Int)) ∧ (Try.prog.info? 118).isSome = true, (.pointer (some ⟨g2, 0 + (((i : Nat) : Int)).toNat * Try.prog.cellsOf 118, none⟩) : Value) = (.pointer (some ⟨g2, 0 + i * 15, none⟩) : Value)] (by kernel_rfl) (by kernel_rfl) (by kernel_rfl) ⟨⟨⟨by omega, by omega⟩, by kernel_rfl⟩, by kernel_rfl, trivial⟩ ?_
  clear hE hR; intro a u hE hR
  refine opsNil ?_; refine thenN ?_; refine wp_seq ?_
  refine enterR (idx := [0]) (by kernel_rfl) ?_
  refine segV hE hR [(0, .op [])] [] [(9, .int .i64 0)] [] (by kernel_rfl) (by kernel_rfl) (by kernel_rfl) trivial ?_
  clear hE hR; intro a u hE hR
  refine opsNil ?_; refine thenN ?_; refine wp_seq ?_; refine wp_seq ?_
  refine enterR (idx := [0, 1, 2, 3, 4]) (by kernel_rfl) ?_
  let kv5 : Value := .agg #[.int .i64 o.kind, .int .i64 o.cap, .int .i64 o.width, .int .i64 o.retry, .int .i64 o.src, .int .i64 o.dst, .int .u32 o.i0, .int .u32 o.i1, .int .u32 o.i2, .int .u32 o.i3]
  refine segV hE hR [(0, .op []), (1, .op []), (2, .op []), (3, .op (hks 2 0 10))] [4] [(53, kv5)] [] (by kernel_rfl) (by kernel_rfl) (by kernel_rfl) trivial ?_
  clear hE hR; intro a u hE hR
  refine opsCons ?_
  refine call hE hR [] 47 #[kv5] (some 54) [] (by kernel_rfl) (by kernel_rfl) trivial (HRt _) (fun _ _ h => by cases h.1) (fun _ h => by cases h.1) ?_
  clear hE
  rintro v u ⟨hv, hb⟩ a hE
  cases hv
  obtain ⟨H2, hH2, hR⟩ := hR.callE hb
  refine opsNil ?_; refine thenN ?_
  refine condT hE (b := true) (by kernel_rfl) rfl ?_
  refine enterR (idx := [0, 1, 2, 3, 4, 5]) (by kernel_rfl) ?_
  refine segV hE hR [(0, .op []), (1, .op []), (2, .op []), (3, .op []), (4, .op [.k 2 0]), (5, .op [])] [] [(9, .int .i64 o.kind)] [] (by kernel_rfl) (by kernel_rfl) (by kernel_rfl) trivial ?_
  clear hE hR; intro a u hE hR
  refine opsNil ?_; refine thenN ?_; refine wp_seq ?_
  refine enterR (idx := [0, 1, 2, 3, 4, 5]) (by kernel_rfl) ?_
  refine segV hE hR [(0, .op []), (1, .op []), (2, .op []), (3, .op []), (4, .op [.k 2 11]), (5, .op [])] [] [(10, .int .u32 v.a)] [] (by kernel_rfl) (by kernel_rfl) (by kernel_rfl) trivial ?_
  clear hE hR; intro a u hE hR
  refine opsNil ?_; refine thenN ?_; refine wp_seq ?_; refine wp_block ?_; refine wp_seq ?_
  refine enterR (idx := [0, 1, 2, 3, 4, 5, 6]) (by kernel_rfl) ?_
  refine segV hE hR [(0, .op []), (1, .op []), (2, .op []), (3, .skip), (4, .skip), (5, .op []), (6, .op [])] [] [(65, .bool false)] [false = !true, false = !true] (by kernel_rfl) (by kernel_rfl) (by kernel_rfl) ⟨rfl, rfl, trivial⟩ ?_
  clear hE hR; intro a u hE hR
  refine opsNil ?_; refine thenN ?_
  refine condF hE (b := false) (by kernel_rfl) rfl ?_
  refine wp_seq ?_
  refine enterR (idx := [0, 1, 2, 3, 4, 5, 6]) (by kernel_rfl) ?_
  refine segV hE hR [(0, .op []), (1, .op []), (2, .op []), (3, .skip), (4, .skip), (5, .op []), (6, .op [])] [] [(104, .bool false)] [false = !true, false = !true] (by kernel_rfl) (by kernel_rfl) (by kernel_rfl) ⟨rfl, rfl, trivial⟩ ?_
  clear hE hR; intro a u hE hR
  refine opsNil ?_; refine thenN ?_
  refine condF hE (b := false) (by kernel_rfl) rfl ?_
  refine wp_seq ?_
  refine enterR (idx := [0, 1, 2, 3, 4, 5, 6, 7, 8, 9, 10]) (by kernel_rfl) ?_
  refine segV hE hR [(0, .op []), (1, .op []), (2, .op []), (3, .op []), (4, .as [] (.bool true)), (5, .op []), (6, .skip), (7, .skip), (8, .op []), (9, .op []), (10, .op [])] [] [(136, .bool true)] [true = true, true = !false, true = !false, true = true, (.bool ((o.kind : Int) == 2) : Value) = (.bool true : Value), true = true, true = true] (by kernel_rfl) (by kernel_rfl) (by kernel_rfl) ⟨rfl, rfl, rfl, rfl, congrArg Value.bool (beq_iff_eq.2 (by omega)), rfl, rfl, trivial⟩ ?_
  clear hE hR; intro a u hE hR
  refine opsNil ?_; refine thenN ?_
  refine condT hE (b := true) (by kernel_rfl) rfl ?_
  refine wp_seq ?_
  refine enterD (kl := [⟨H0 + 1, 0, kc2, 63, true⟩, ⟨H0, 0, kc3, 60, true⟩, ⟨g2, 0, pr, 118, false⟩, ⟨g2, 0 + i * 15 + 15, po, 118, false⟩]) (by kernel_rfl) hR (F := 12) (listed := #[false, false, false, false, false, false, false, false, false, false, false, false]) (by kernel_rfl) (by kernel_rfl) ?_
  clear hR
  intro u hR
  let kv6 : Value := .agg #[.int .u32 cv.a, .int .u32 cv.b, .int .u32 cv.c, .int .u32 cv.d]
  refine takes (by kernel_rfl) (pqT (pqB (pqT pqF))) hE (hR.ss [0, 1, 3, 4] (by kernel_rfl)) [(0, .op []), (1, .op []), (2, .op (hks 1 2 4)), (3, .op []), (4, .op []), (5, .op []), (6, .op [])] 5 [(0, .slice (some ⟨g, off, none⟩) L.length c), (3, .pointer (some ⟨H0, 0, none⟩)), (4, .slice none 0 0), (5, .pointer (some ⟨H0 + 1, 0, none⟩)), (6, .int .i64 3), (29, .bool false), (41, .bool false), (7, .slice (some ⟨g2, 0, none⟩) L.length cap2), (8, .pointer (some ⟨g2, 0 + i * 15, none⟩)), (9, .int .i64 o.kind), (53, kv5), (54, .bool true), (10, .int .u32 v.a), (65, .bool false), (104, .bool false), (136, .bool true), (147, .pointer (some ⟨g2, 0 + i * 15, none⟩)), (149, kv6), (153, .pointer (some ⟨g2, 0 + i * 15 + 2, none⟩))] #[true, true, true, true, true, true, true, false, false, false, false, false] [] (by kernel_rfl) (by kernel_rfl) (by kernel_rfl) trivial ?_
  clear hE; intro a hE
  refine wpAnyH_all (rs := [7]) (by kernel_rfl) (by simp) (allCons ?_ allNil)
  refine oneU hE hR (.op [.k 2 2]) [(154, .int .i64 o.width)] (⟨H0 + 1, 0, kc2, 63, true⟩ :: ⟨H0, 0, kc3, 60, true⟩ :: ⟨g2, 0 + i * 15, kc4, 118, false⟩ :: ⟨g2, 0, pr, 118, false⟩ :: ⟨g2, 0 + i * 15 + 15, po, 118, false⟩ :: (rs ++ ob)) (H2) [] (by kernel_rfl) (by kernel_rfl) trivial ?_
  clear hE hR; intro a u hE hR
  refine ⟨(hR.ss [0, 1, 3, 4] (by kernel_rfl)), ?_⟩
  show wpAnyH _ _ _ _ _ _ #[true, true, true, true, true, true, true, true, false, false, false, false] _ _
  refine wpAnyH_all (rs := [8]) (by kernel_rfl) (by simp) (allCons ?_ allNil)
  refine call hE hR [] 48 #[kv6, .int .i64 o.width] (some 155) [] (by kernel_rfl) (by kernel_rfl) trivial (clip2_calls cv o.width h0w h4w _) (fun _ _ h => by cases h.1) (fun _ h => by cases h.1) ?_
  clear hE
  rintro v u ⟨hv, hb⟩ a hE
  cases hv
  obtain ⟨H3, hH3, hR⟩ := hR.callE hb
  refine ⟨(hR.ss [0, 1, 3, 4] (by kernel_rfl)), ?_⟩
  show wpAnyH _ _ _ _ _ _ #[true, true, true, true, true, true, true, true, true, false, false, false] _ _
  refine takesU (by kernel_rfl) (pqT (pqB (pqT pqF))) hE (hR.ss [0, 1, 3, 4] (by kernel_rfl)) [(9, .op []), (10, .op [])] 1 [(157, .pointer (some ⟨g2, 0 + i * 15 + 11, none⟩))] #[true, true, true, true, true, true, true, true, true, true, true, false] [] (by kernel_rfl) (by kernel_rfl) (by kernel_rfl) trivial ?_
  clear hE; intro a hE
  refine wpAnyH_all (rs := [11]) (by kernel_rfl) (by simp) (allCons ?_ allNil)
  let kc7 : List Value := [.int .i64 o.kind, .int .i64 o.cap, .int .i64 o.width, .int .i64 o.retry, .int .i64 o.src, .int .i64 o.dst, .int .u32 o.i0, .int .u32 o.i1, .int .u32 o.i2, .int .u32 o.i3, .slice (some ⟨gr, 0, none⟩) row.length cr, .int .u32 ((clipP cv o.width).a), .int .u32 ((clipP cv o.width).b), .int .u32 ((clipP cv o.width).c), .int .u32 ((clipP cv o.width).d)]
  refine oneU hE hR (.op (hks 2 11 4)) [] (⟨H0 + 1, 0, kc2, 63, true⟩ :: ⟨H0, 0, kc3, 60, true⟩ :: ⟨g2, 0 + i * 15, kc7, 118, false⟩ :: ⟨g2, 0, pr, 118, false⟩ :: ⟨g2, 0 + i * 15 + 15, po, 118, false⟩ :: (rs ++ ob)) (H3) [] (by kernel_rfl) (by kernel_rfl) trivial ?_
  clear hE hR; intro a u hE hR
  refine ⟨(hR.ss [0, 1, 3, 4] (by kernel_rfl)), ?_⟩
  show wpAnyH _ _ _ _ _ _ #[true, true, true, true, true, true, true, true, true, true, true, true] _ _
  refine wpAnyH_done (by kernel_rfl) ?_ _
  refine thenN ?_; refine wp_seq ?_
  refine enterR (idx := [0, 1, 2, 3]) (by kernel_rfl) ?_
  refine segV hE hR [(0, .op []), (1, .op []), (2, .op []), (3, .op (hks 0 0 5))] [] [(4, .slice (some ⟨g2, 0, none⟩) L.length cap2)] [] (by kernel_rfl) (by kernel_rfl) (by kernel_rfl) trivial ?_
  clear hE hR; intro a u hE hR
  refine opsNil ?_; refine thenN ?_; refine wp_ret ?_; refine blkR ?_; refine thenR ?_
  refine retF hE hR (hks 0 0 5) (.tuple #[.slice (some ⟨g2, 0, none⟩) L.length cap2, .agg #[.int .i64 0, .int .u32 0, .int .u32 0, .int .u32 0, .int .u32 0]]) (by kernel_rfl) (by kernel_rfl) (by kernel_rfl) ?_
  obtain ⟨L3, h3a, h3b⟩ := hcf.made hi (⟨o, row, clipP cv o.width⟩) (.slice (some ⟨gr, 0, none⟩) row.length cr) (by have h9 := hR.rangeK 2 rfl; exact h9) (by have h9 := hR.rangeK 3 rfl; exact h9) (by have h9 := hR.rangeK 4 rfl; exact h9) (fun e he => hR.rangeM (by simp [he])) (hcf.rowV (fun e he => hR.rangeM (by simp [he])))
  exact ⟨_, L3, rfl, h3a, h3b, hR.below (by simp)⟩
set_option maxRecDepth 100000 in
theorem ref_write_lock (g off c : Nat) (L : List IV) (o : Ob) (row : List Vl) (v : Vl) (ck : Int) (i : Nat) (cv : Vl) (cn : Int) (w : World) (hck : -9223372036854775808 ≤ ck ∧ ck ≤ 9223372036854775807) (hK : plainP ck = 3) (hi : i < L.length) (_ : L.length ≤ 8) (HC : ∀ W, Below w.heap.size w W → Calls Try.prog 52 #[.slice (some ⟨g, off, none⟩) L.length c] W (CopyAt L i ⟨o, row, v⟩ W)) (hrt : rightP o = true) (hkk : o.kind = 3) (h0w : 0 ≤ o.width) (h4w : o.width ≤ 4) :
    Calls Try.prog 26 #[.slice (some ⟨g, off, none⟩) L.length c, .agg #[.int .i64 ck, .int .i64 ((i : Nat) : Int), .int .u32 cv.a, .int .u32 cv.b, .int .u32 cv.c, .int .u32 cv.d, .int .u32 cn]] w fun e W' => ∃ s' L', e = .returned (.tuple #[s', resA 0 Vl.z]) ∧ ItemsR W' s' L' ∧ itms L' = (itms L).set i ⟨o, row, clipP cv o.width⟩ ∧ Below w.heap.size w W' := by
  have hpl := fun W => plain2B_calls ck W hck
  rw [hK] at hpl
  have HRt := fun W => right2_calls o W
  rw [hrt] at HRt
  let kv1 : Value := .agg #[.int .i64 ck, .int .i64 ((i : Nat) : Int), .int .u32 cv.a, .int .u32 cv.b, .int .u32 cv.c, .int .u32 cv.d, .int .u32 cn]
  refine enterF Try.func26 rfl Try.ntmps26 [(0, .slice (some ⟨g, off, none⟩) L.length c), (1, kv1)] (by kernel_rfl) (by kernel_rfl) ?_
  have hR := Rep.start w
  obtain ⟨H0, hH0⟩ : ∃ x, x = w.heap.size := ⟨_, rfl⟩
  rw [← hH0] at hR
  intro a hE
  refine wp_seq ?_
  refine enterR (idx := [0, 1, 2]) (by kernel_rfl) ?_
  let kc2 : List Value := [.int .i64 0, .int .u32 0, .int .u32 0, .int .u32 0, .int .u32 0]
  let kc3 : List Value := [.int .i64 ck, .int .i64 ((i : Nat) : Int), .int .u32 cv.a, .int .u32 cv.b, .int .u32 cv.c, .int .u32 cv.d, .int .u32 cn]
  refine segU hE hR [(0, .op []), (1, .op []), (2, .op [])] [] [(3, .pointer (some ⟨H0, 0, none⟩)), (4, .slice none 0 0), (5, .pointer (some ⟨H0 + 1, 0, none⟩))] [⟨H0 + 1, 0, kc2, 63, true⟩, ⟨H0, 0, kc3, 60, true⟩] (H0 + 2) [] (by kernel_rfl) (by kernel_rfl) (by kernel_rfl) trivial ?_
  clear hE hR; intro a u hE hR
  refine opsNil ?_; refine thenN ?_; refine wp_seq ?_
  refine enterR (idx := [0, 1, 2, 3]) (by kernel_rfl) ?_
  refine segV hE hR [(0, .op []), (1, .op [.k 1 0])] [2, 3] [(13, .int .i64 ck)] [] (by kernel_rfl) (by kernel_rfl) (by kernel_rfl) trivial ?_
  clear hE hR; intro a u hE hR
  refine opsCons ?_
  refine call hE hR [] 51 #[.int .i64 ck] (some 14) [] (by kernel_rfl) (by kernel_rfl) trivial (hpl _) (fun _ _ h => by cases h.1) (fun _ h => by cases h.1) ?_
  clear hE
  rintro v u ⟨hv, hb⟩ a hE
  cases hv
  obtain ⟨H1, hH1, hR⟩ := hR.callE hb
  refine segV hE hR [(3, .op [])] [] [(6, .int .i64 3)] [] (by kernel_rfl) (by kernel_rfl) (by kernel_rfl) trivial ?_
  clear hE hR; intro a u hE hR
  refine opsNil ?_; refine thenN ?_; refine wp_seq ?_; refine wp_seq ?_
  refine enterR (idx := [0, 1, 2, 3, 4, 5, 6, 7, 8, 9, 10, 11, 12, 13, 14]) (by kernel_rfl) ?_
  refine segV hE hR [(0, .op []), (1, .op []), (2, .op []), (3, .op []), (4, .op []), (5, .op []), (6, .op []), (7, .skip), (8, .skip), (9, .op []), (10, .op []), (11, .skip), (12, .skip), (13, .op []), (14, .op [])] [] [(29, .bool false)] [true = !false, true = !false, true = !false, true = !false, true = true, true = true] (by kernel_rfl) (by kernel_rfl) (by kernel_rfl) ⟨rfl, rfl, rfl, rfl, rfl, rfl, trivial⟩ ?_
  clear hE hR; intro a u hE hR
  refine opsNil ?_; refine thenN ?_
  refine condF hE (b := false) (by kernel_rfl) rfl ?_
  refine wp_skip ?_; refine thenN ?_; refine wp_seq ?_; refine wp_seq ?_
  refine enterR (idx := [0, 1, 2, 3, 4, 5, 6, 7, 8, 9]) (by kernel_rfl) ?_
  refine segV hE hR [(0, .op []), (1, .op [.k 1 1]), (2, .as [] (.bool false)), (3, .op []), (4, .op []), (5, .op [.k 1 1]), (6, .op []), (7, .op []), (8, .as [] (.bool false)), (9, .op [])] [] [(41, .bool false)] [(.bool (decide (((i : Nat) : Int) ≥ ((L.length : Nat) : Int))) : Value) = (.bool false : Value), false = false, false = false, false = false, false = false, false = false, (.bool (decide (((i : Nat) : Int) < 0)) : Value) = (.bool false : Value)] (by kernel_rfl) (by kernel_rfl) (by kernel_rfl) ⟨congrArg Value.bool (decide_eq_false (by omega)), rfl, rfl, rfl, rfl, rfl, congrArg Value.bool (decide_eq_false (by omega)), trivial⟩ ?_
  clear hE hR; intro a u hE hR
  refine opsNil ?_; refine thenN ?_
  refine condF hE (b := false) (by kernel_rfl) rfl ?_
  refine wp_skip ?_; refine thenN ?_; refine wp_seq ?_
  refine enterR (idx := [0, 1, 2]) (by kernel_rfl) ?_
  refine segV hE hR [(0, .op [])] [1, 2] [(44, .slice (some ⟨g, off, none⟩) L.length c)] [] (by kernel_rfl) (by kernel_rfl) (by kernel_rfl) trivial ?_
  clear hE hR; intro a u hE hR
  refine opsCons ?_
  refine call hE hR [] 52 #[.slice (some ⟨g, off, none⟩) L.length c] (some 45) [] (by kernel_rfl) (by kernel_rfl) trivial (HC _ (hR.below (by simp))) (by rintro _ _ ⟨_, _, _, _, _, _, _, _, _, _, h, _⟩; cases h) (by rintro _ ⟨_, _, _, _, _, _, _, _, _, _, h, _⟩; cases h) ?_
  clear hE
  rintro v u ⟨g2, cap2, pr, po, gr, cr, rest, rs, ob, L2, hv, hcf, Hc, hRc⟩ a hE
  cases hv
  let kc4 : List Value := [.int .i64 o.kind, .int .i64 o.cap, .int .i64 o.width, .int .i64 o.retry, .int .i64 o.src, .int .i64 o.dst, .int .u32 o.i0, .int .u32 o.i1, .int .u32 o.i2, .int .u32 o.i3, .slice (some ⟨gr, 0, none⟩) row.length cr, .int .u32 v.a, .int .u32 v.b, .int .u32 v.c, .int .u32 v.d]
  replace hR : Rep [(w, fun _ => True)] u Hc (⟨H0 + 1, 0, kc2, 63, true⟩ :: ⟨H0, 0, kc3, 60, true⟩ :: ⟨g2, 0 + i * 15, kc4, 118, false⟩ :: ⟨g2, 0, pr, 118, false⟩ :: ⟨g2, 0 + i * 15 + 15, po, 118, false⟩ :: (rs ++ ob)) [] := hR.join hRc
  refine segV hE hR [(2, .op [])] [] [(7, .slice (some ⟨g2, 0, none⟩) L.length cap2)] [] (by kernel_rfl) (by kernel_rfl) (by kernel_rfl) trivial ?_
  clear hE hR; intro a u hE hR
  refine opsNil ?_; refine thenN ?_; refine wp_seq ?_
  refine enterR (idx := [0, 1, 2, 3, 4]) (by kernel_rfl) ?_
  refine seg0 hE hR [(0, .op []), (1, .op []), (2, .op [.k 1 1]), (3, .alt (.pointer (some ⟨g2, 0 + i * 15, none⟩))), (4, .op [])] [] [(0, .slice (some ⟨g, off, none⟩) L.length c), (3, .pointer (some ⟨H0, 0, none⟩)), (4, .slice none 0 0), (5, .pointer (some ⟨H0 + 1, 0, none⟩)), (6, .int .i64 3), (29, .bool false), (41, .bool false), (7, .slice (some ⟨g2, 0, none⟩) L.length cap2), (8, .pointer (some ⟨g2, 0 + i * 15, none⟩))] [(0 ≤ (((i : Nat) : Int) : Int) ∧ (((i : Nat) : Int) : Int) < ((L.length : Nat) : Int)) ∧ (Try.prog.info? 118).isSome = true, (.pointer (some ⟨g2, 0 + (((i : Nat) : Int)).toNat * Try.prog.cellsOf 118, none⟩) : Value) = (.pointer (some ⟨g2, 0 + i * 15, none⟩) : Value)] (by kernel_rfl) (by kernel_rfl) (by kernel_rfl) ⟨⟨⟨by omega, by omega⟩, by kernel_rfl⟩, by kernel_rfl, trivial⟩ ?_
  clear hE hR; intro a u hE hR
  refine opsNil ?_; refine thenN ?_; refine wp_seq ?_
  refine enterR (idx := [0]) (by kernel_rfl) ?_
  refine segV hE hR [(0, .op [])] [] [(9, .int .i64 0)] [] (by kernel_rfl) (by kernel_rfl) (by kernel_rfl) trivial ?_
  clear hE hR; intro a u hE hR
  refine opsNil ?_; refine thenN ?_; refine wp_seq ?_; refine wp_seq ?_
  refine enterR (idx := [0, 1, 2, 3, 4]) (by kernel_rfl) ?_
  let kv5 : Value := .agg #[.int .i64 o.kind, .int .i64 o.cap, .int .i64 o.width, .int .i64 o.retry, .int .i64 o.src, .int .i64 o.dst, .int .u32 o.i0, .int .u32 o.i1, .int .u32 o.i2, .int .u32 o.i3]
  refine segV hE hR [(0, .op []), (1, .op []), (2, .op []), (3, .op (hks 2 0 10))] [4] [(53, kv5)] [] (by kernel_rfl) (by kernel_rfl) (by kernel_rfl) trivial ?_
  clear hE hR; intro a u hE hR
  refine opsCons ?_
  refine call hE hR [] 47 #[kv5] (some 54) [] (by kernel_rfl) (by kernel_rfl) trivial (HRt _) (fun _ _ h => by cases h.1) (fun _ h => by cases h.1) ?_
  clear hE
  rintro v u ⟨hv, hb⟩ a hE
  cases hv
  obtain ⟨H2, hH2, hR⟩ := hR.callE hb
  refine opsNil ?_; refine thenN ?_
  refine condT hE (b := true) (by kernel_rfl) rfl ?_
  refine enterR (idx := [0, 1, 2, 3, 4, 5]) (by kernel_rfl) ?_
  refine segV hE hR [(0, .op []), (1, .op []), (2, .op []), (3, .op []), (4, .op [.k 2 0]), (5, .op [])] [] [(9, .int .i64 o.kind)] [] (by kernel_rfl) (by kernel_rfl) (by kernel_rfl) trivial ?_
  clear hE hR; intro a u hE hR
  refine opsNil ?_; refine thenN ?_; refine wp_seq ?_
  refine enterR (idx := [0, 1, 2, 3, 4, 5]) (by kernel_rfl) ?_
  refine segV hE hR [(0, .op []), (1, .op []), (2, .op []), (3, .op []), (4, .op [.k 2 11]), (5, .op [])] [] [(10, .int .u32 v.a)] [] (by kernel_rfl) (by kernel_rfl) (by kernel_rfl) trivial ?_
  clear hE hR; intro a u hE hR
  refine opsNil ?_; refine thenN ?_; refine wp_seq ?_; refine wp_block ?_; refine wp_seq ?_
  refine enterR (idx := [0, 1, 2, 3, 4, 5, 6]) (by kernel_rfl) ?_
  refine segV hE hR [(0, .op []), (1, .op []), (2, .op []), (3, .skip), (4, .skip), (5, .op []), (6, .op [])] [] [(65, .bool false)] [false = !true, false = !true] (by kernel_rfl) (by kernel_rfl) (by kernel_rfl) ⟨rfl, rfl, trivial⟩ ?_
  clear hE hR; intro a u hE hR
  refine opsNil ?_; refine thenN ?_
  refine condF hE (b := false) (by kernel_rfl) rfl ?_
  refine wp_seq ?_
  refine enterR (idx := [0, 1, 2, 3, 4, 5, 6]) (by kernel_rfl) ?_
  refine segV hE hR [(0, .op []), (1, .op []), (2, .op []), (3, .skip), (4, .skip), (5, .op []), (6, .op [])] [] [(104, .bool false)] [false = !true, false = !true] (by kernel_rfl) (by kernel_rfl) (by kernel_rfl) ⟨rfl, rfl, trivial⟩ ?_
  clear hE hR; intro a u hE hR
  refine opsNil ?_; refine thenN ?_
  refine condF hE (b := false) (by kernel_rfl) rfl ?_
  refine wp_seq ?_
  refine enterR (idx := [0, 1, 2, 3, 4, 5, 6, 7, 8, 9, 10]) (by kernel_rfl) ?_
  refine segV hE hR [(0, .op []), (1, .op []), (2, .op []), (3, .op []), (4, .as [] (.bool false)), (5, .op []), (6, .op []), (7, .as [] (.bool true)), (8, .op []), (9, .op []), (10, .op [])] [] [(136, .bool true)] [true = true, (.bool ((o.kind : Int) == 3) : Value) = (.bool true : Value), false = false, false = false, true = true, (.bool ((o.kind : Int) == 2) : Value) = (.bool false : Value), true = true, true = true] (by kernel_rfl) (by kernel_rfl) (by kernel_rfl) ⟨rfl, congrArg Value.bool (beq_iff_eq.2 (by omega)), rfl, rfl, rfl, congrArg Value.bool (beq_eq_false_iff_ne.2 (by omega)), rfl, rfl, trivial⟩ ?_
  clear hE hR; intro a u hE hR
  refine opsNil ?_; refine thenN ?_
  refine condT hE (b := true) (by kernel_rfl) rfl ?_
  refine wp_seq ?_
  refine enterD (kl := [⟨H0 + 1, 0, kc2, 63, true⟩, ⟨H0, 0, kc3, 60, true⟩, ⟨g2, 0, pr, 118, false⟩, ⟨g2, 0 + i * 15 + 15, po, 118, false⟩]) (by kernel_rfl) hR (F := 12) (listed := #[false, false, false, false, false, false, false, false, false, false, false, false]) (by kernel_rfl) (by kernel_rfl) ?_
  clear hR
  intro u hR
  let kv6 : Value := .agg #[.int .u32 cv.a, .int .u32 cv.b, .int .u32 cv.c, .int .u32 cv.d]
  refine takes (by kernel_rfl) (pqT (pqB (pqT pqF))) hE (hR.ss [0, 1, 3, 4] (by kernel_rfl)) [(0, .op []), (1, .op []), (2, .op (hks 1 2 4)), (3, .op []), (4, .op []), (5, .op []), (6, .op [])] 5 [(0, .slice (some ⟨g, off, none⟩) L.length c), (3, .pointer (some ⟨H0, 0, none⟩)), (4, .slice none 0 0), (5, .pointer (some ⟨H0 + 1, 0, none⟩)), (6, .int .i64 3), (29, .bool false), (41, .bool false), (7, .slice (some ⟨g2, 0, none⟩) L.length cap2), (8, .pointer (some ⟨g2, 0 + i * 15, none⟩)), (9, .int .i64 o.kind), (53, kv5), (54, .bool true), (10, .int .u32 v.a), (65, .bool false), (104, .bool false), (136, .bool true), (147, .pointer (some ⟨g2, 0 + i * 15, none⟩)), (149, kv6), (153, .pointer (some ⟨g2, 0 + i * 15 + 2, none⟩))] #[true, true, true, true, true, true, true, false, false, false, false, false] [] (by kernel_rfl) (by kernel_rfl) (by kernel_rfl) trivial ?_
  clear hE; intro a hE
  refine wpAnyH_all (rs := [7]) (by kernel_rfl) (by simp) (allCons ?_ allNil)
  refine oneU hE hR (.op [.k 2 2]) [(154, .int .i64 o.width)] (⟨H0 + 1, 0, kc2, 63, true⟩ :: ⟨H0, 0, kc3, 60, true⟩ :: ⟨g2, 0 + i * 15, kc4, 118, false⟩ :: ⟨g2, 0, pr, 118, false⟩ :: ⟨g2, 0 + i * 15 + 15, po, 118, false⟩ :: (rs ++ ob)) (H2) [] (by kernel_rfl) (by kernel_rfl) trivial ?_
  clear hE hR; intro a u hE hR
  refine ⟨(hR.ss [0, 1, 3, 4] (by kernel_rfl)), ?_⟩
  show wpAnyH _ _ _ _ _ _ #[true, true, true, true, true, true, true, true, false, false, false, false] _ _
  refine wpAnyH_all (rs := [8]) (by kernel_rfl) (by simp) (allCons ?_ allNil)
  refine call hE hR [] 48 #[kv6, .int .i64 o.width] (some 155) [] (by kernel_rfl) (by kernel_rfl) trivial (clip2_calls cv o.width h0w h4w _) (fun _ _ h => by cases h.1) (fun _ h => by cases h.1) ?_
  clear hE
  rintro v u ⟨hv, hb⟩ a hE
  cases hv
  obtain ⟨H3, hH3, hR⟩ := hR.callE hb
  refine ⟨(hR.ss [0, 1, 3, 4] (by kernel_rfl)), ?_⟩
  show wpAnyH _ _ _ _ _ _ #[true, true, true, true, true, true, true, true, true, false, false, false] _ _
  refine takesU (by kernel_rfl) (pqT (pqB (pqT pqF))) hE (hR.ss [0, 1, 3, 4] (by kernel_rfl)) [(9, .op []), (10, .op [])] 1 [(157, .pointer (some ⟨g2, 0 + i * 15 + 11, none⟩))] #[true, true, true, true, true, true, true, true, true, true, true, false] [] (by kernel_rfl) (by kernel_rfl) (by kernel_rfl) trivial ?_
  clear hE; intro a hE
  refine wpAnyH_all (rs := [11]) (by kernel_rfl) (by simp) (allCons ?_ allNil)
  let kc7 : List Value := [.int .i64 o.kind, .int .i64 o.cap, .int .i64 o.width, .int .i64 o.retry, .int .i64 o.src, .int .i64 o.dst, .int .u32 o.i0, .int .u32 o.i1, .int .u32 o.i2, .int .u32 o.i3, .slice (some ⟨gr, 0, none⟩) row.length cr, .int .u32 ((clipP cv o.width).a), .int .u32 ((clipP cv o.width).b), .int .u32 ((clipP cv o.width).c), .int .u32 ((clipP cv o.width).d)]
  refine oneU hE hR (.op (hks 2 11 4)) [] (⟨H0 + 1, 0, kc2, 63, true⟩ :: ⟨H0, 0, kc3, 60, true⟩ :: ⟨g2, 0 + i * 15, kc7, 118, false⟩ :: ⟨g2, 0, pr, 118, false⟩ :: ⟨g2, 0 + i * 15 + 15, po, 118, false⟩ :: (rs ++ ob)) (H3) [] (by kernel_rfl) (by kernel_rfl) trivial ?_
  clear hE hR; intro a u hE hR
  refine ⟨(hR.ss [0, 1, 3, 4] (by kernel_rfl)), ?_⟩
  show wpAnyH _ _ _ _ _ _ #[true, true, true, true, true, true, true, true, true, true, true, true] _ _
  refine wpAnyH_done (by kernel_rfl) ?_ _
  refine thenN ?_; refine wp_seq ?_
  refine enterR (idx := [0, 1, 2, 3]) (by kernel_rfl) ?_
  refine segV hE hR [(0, .op []), (1, .op []), (2, .op []), (3, .op (hks 0 0 5))] [] [(4, .slice (some ⟨g2, 0, none⟩) L.length cap2)] [] (by kernel_rfl) (by kernel_rfl) (by kernel_rfl) trivial ?_
  clear hE hR; intro a u hE hR
  refine opsNil ?_; refine thenN ?_; refine wp_ret ?_; refine blkR ?_; refine thenR ?_
  refine retF hE hR (hks 0 0 5) (.tuple #[.slice (some ⟨g2, 0, none⟩) L.length cap2, .agg #[.int .i64 0, .int .u32 0, .int .u32 0, .int .u32 0, .int .u32 0]]) (by kernel_rfl) (by kernel_rfl) (by kernel_rfl) ?_
  obtain ⟨L3, h3a, h3b⟩ := hcf.made hi (⟨o, row, clipP cv o.width⟩) (.slice (some ⟨gr, 0, none⟩) row.length cr) (by have h9 := hR.rangeK 2 rfl; exact h9) (by have h9 := hR.rangeK 3 rfl; exact h9) (by have h9 := hR.rangeK 4 rfl; exact h9) (fun e he => hR.rangeM (by simp [he])) (hcf.rowV (fun e he => hR.rangeM (by simp [he])))
  exact ⟨_, L3, rfl, h3a, h3b, hR.below (by simp)⟩
set_option maxRecDepth 100000 in
theorem ref_read (g off c : Nat) (L : List IV) (o : Ob) (row : List Vl) (v : Vl) (ck : Int) (i : Nat) (cv : Vl) (cn : Int) (w : World) (hck : -9223372036854775808 ≤ ck ∧ ck ≤ 9223372036854775807) (hK : plainP ck = 4) (hi : i < L.length) (_ : L.length ≤ 8) (HC : ∀ W, Below w.heap.size w W → Calls Try.prog 52 #[.slice (some ⟨g, off, none⟩) L.length c] W (CopyAt L i ⟨o, row, v⟩ W)) (hrt : rightP o = true) (hkk : o.kind = 2) :
    Calls Try.prog 26 #[.slice (some ⟨g, off, none⟩) L.length c, .agg #[.int .i64 ck, .int .i64 ((i : Nat) : Int), .int .u32 cv.a, .int .u32 cv.b, .int .u32 cv.c, .int .u32 cv.d, .int .u32 cn]] w fun e W' => e = .returned (.tuple #[.slice (some ⟨g, off, none⟩) L.length c, resA 0 v]) ∧ Below w.heap.size w W' := by
  have hpl := fun W => plain2B_calls ck W hck
  rw [hK] at hpl
  have HRt := fun W => right2_calls o W
  rw [hrt] at HRt
  let kv1 : Value := .agg #[.int .i64 ck, .int .i64 ((i : Nat) : Int), .int .u32 cv.a, .int .u32 cv.b, .int .u32 cv.c, .int .u32 cv.d, .int .u32 cn]
  refine enterF Try.func26 rfl Try.ntmps26 [(0, .slice (some ⟨g, off, none⟩) L.length c), (1, kv1)] (by kernel_rfl) (by kernel_rfl) ?_
  have hR := Rep.start w
  obtain ⟨H0, hH0⟩ : ∃ x, x = w.heap.size := ⟨_, rfl⟩
  rw [← hH0] at hR
  intro a hE
  refine wp_seq ?_
  refine enterR (idx := [0, 1, 2]) (by kernel_rfl) ?_
  let kc2 : List Value := [.int .i64 0, .int .u32 0, .int .u32 0, .int .u32 0, .int .u32 0]
  let kc3 : List Value := [.int .i64 ck, .int .i64 ((i : Nat) : Int), .int .u32 cv.a, .int .u32 cv.b, .int .u32 cv.c, .int .u32 cv.d, .int .u32 cn]
  refine segU hE hR [(0, .op []), (1, .op []), (2, .op [])] [] [(3, .pointer (some ⟨H0, 0, none⟩)), (4, .slice none 0 0), (5, .pointer (some ⟨H0 + 1, 0, none⟩))] [⟨H0 + 1, 0, kc2, 63, true⟩, ⟨H0, 0, kc3, 60, true⟩] (H0 + 2) [] (by kernel_rfl) (by kernel_rfl) (by kernel_rfl) trivial ?_
  clear hE hR; intro a u hE hR
  refine opsNil ?_; refine thenN ?_; refine wp_seq ?_
  refine enterR (idx := [0, 1, 2, 3]) (by kernel_rfl) ?_
  refine segV hE hR [(0, .op []), (1, .op [.k 1 0])] [2, 3] [(13, .int .i64 ck)] [] (by kernel_rfl) (by kernel_rfl) (by kernel_rfl) trivial ?_
  clear hE hR; intro a u hE hR
  refine opsCons ?_
  refine call hE hR [] 51 #[.int .i64 ck] (some 14) [] (by kernel_rfl) (by kernel_rfl) trivial (hpl _) (fun _ _ h => by cases h.1) (fun _ h => by cases h.1) ?_
  clear hE
  rintro v u ⟨hv, hb⟩ a hE
  cases hv
  obtain ⟨H1, hH1, hR⟩ := hR.callE hb
  refine segV hE hR [(3, .op [])] [] [(6, .int .i64 4)] [] (by kernel_rfl) (by kernel_rfl) (by kernel_rfl) trivial ?_
  clear hE hR; intro a u hE hR
  refine opsNil ?_; refine thenN ?_; refine wp_seq ?_; refine wp_seq ?_
  refine enterR (idx := [0, 1, 2, 3, 4, 5, 6, 7, 8, 9, 10, 11, 12, 13, 14]) (by kernel_rfl) ?_
  refine segV hE hR [(0, .op []), (1, .op []), (2, .op []), (3, .op []), (4, .op []), (5, .op []), (6, .op []), (7, .skip), (8, .skip), (9, .op []), (10, .op []), (11, .skip), (12, .skip), (13, .op []), (14, .op [])] [] [(29, .bool false)] [true = !false, true = !false, true = !false, true = !false, true = true, true = true] (by kernel_rfl) (by kernel_rfl) (by kernel_rfl) ⟨rfl, rfl, rfl, rfl, rfl, rfl, trivial⟩ ?_
  clear hE hR; intro a u hE hR
  refine opsNil ?_; refine thenN ?_
  refine condF hE (b := false) (by kernel_rfl) rfl ?_
  refine wp_skip ?_; refine thenN ?_; refine wp_seq ?_; refine wp_seq ?_
  refine enterR (idx := [0, 1, 2, 3, 4, 5, 6, 7, 8, 9]) (by kernel_rfl) ?_
  refine segV hE hR [(0, .op []), (1, .op [.k 1 1]), (2, .as [] (.bool false)), (3, .op []), (4, .op []), (5, .op [.k 1 1]), (6, .op []), (7, .op []), (8, .as [] (.bool false)), (9, .op [])] [] [(41, .bool false)] [(.bool (decide (((i : Nat) : Int) ≥ ((L.length : Nat) : Int))) : Value) = (.bool false : Value), false = false, false = false, false = false, false = false, false = false, (.bool (decide (((i : Nat) : Int) < 0)) : Value) = (.bool false : Value)] (by kernel_rfl) (by kernel_rfl) (by kernel_rfl) ⟨congrArg Value.bool (decide_eq_false (by omega)), rfl, rfl, rfl, rfl, rfl, congrArg Value.bool (decide_eq_false (by omega)), trivial⟩ ?_
  clear hE hR; intro a u hE hR
  refine opsNil ?_; refine thenN ?_
  refine condF hE (b := false) (by kernel_rfl) rfl ?_
  refine wp_skip ?_; refine thenN ?_; refine wp_seq ?_
  refine enterR (idx := [0, 1, 2]) (by kernel_rfl) ?_
  refine segV hE hR [(0, .op [])] [1, 2] [(44, .slice (some ⟨g, off, none⟩) L.length c)] [] (by kernel_rfl) (by kernel_rfl) (by kernel_rfl) trivial ?_
  clear hE hR; intro a u hE hR
  refine opsCons ?_
  refine call hE hR [] 52 #[.slice (some ⟨g, off, none⟩) L.length c] (some 45) [] (by kernel_rfl) (by kernel_rfl) trivial (HC _ (hR.below (by simp))) (by rintro _ _ ⟨_, _, _, _, _, _, _, _, _, _, h, _⟩; cases h) (by rintro _ ⟨_, _, _, _, _, _, _, _, _, _, h, _⟩; cases h) ?_
  clear hE
  rintro v u ⟨g2, cap2, pr, po, gr, cr, rest, rs, ob, L2, hv, hcf, Hc, hRc⟩ a hE
  cases hv
  let kc4 : List Value := [.int .i64 o.kind, .int .i64 o.cap, .int .i64 o.width, .int .i64 o.retry, .int .i64 o.src, .int .i64 o.dst, .int .u32 o.i0, .int .u32 o.i1, .int .u32 o.i2, .int .u32 o.i3, .slice (some ⟨gr, 0, none⟩) row.length cr, .int .u32 v.a, .int .u32 v.b, .int .u32 v.c, .int .u32 v.d]
  replace hR : Rep [(w, fun _ => True)] u Hc (⟨H0 + 1, 0, kc2, 63, true⟩ :: ⟨H0, 0, kc3, 60, true⟩ :: ⟨g2, 0 + i * 15, kc4, 118, false⟩ :: ⟨g2, 0, pr, 118, false⟩ :: ⟨g2, 0 + i * 15 + 15, po, 118, false⟩ :: (rs ++ ob)) [] := hR.join hRc
  refine segV hE hR [(2, .op [])] [] [(7, .slice (some ⟨g2, 0, none⟩) L.length cap2)] [] (by kernel_rfl) (by kernel_rfl) (by kernel_rfl) trivial ?_
  clear hE hR; intro a u hE hR
  refine opsNil ?_; refine thenN ?_; refine wp_seq ?_
  refine enterR (idx := [0, 1, 2, 3, 4]) (by kernel_rfl) ?_
  refine seg0 hE hR [(0, .op []), (1, .op []), (2, .op [.k 1 1]), (3, .alt (.pointer (some ⟨g2, 0 + i * 15, none⟩))), (4, .op [])] [] [(0, .slice (some ⟨g, off, none⟩) L.length c), (3, .pointer (some ⟨H0, 0, none⟩)), (4, .slice none 0 0), (5, .pointer (some ⟨H0 + 1, 0, none⟩)), (6, .int .i64 4), (29, .bool false), (41, .bool false), (7, .slice (some ⟨g2, 0, none⟩) L.length cap2), (8, .pointer (some ⟨g2, 0 + i * 15, none⟩))] [(0 ≤ (((i : Nat) : Int) : Int) ∧ (((i : Nat) : Int) : Int) < ((L.length : Nat) : Int)) ∧ (Try.prog.info? 118).isSome = true, (.pointer (some ⟨g2, 0 + (((i : Nat) : Int)).toNat * Try.prog.cellsOf 118, none⟩) : Value) = (.pointer (some ⟨g2, 0 + i * 15, none⟩) : Value)] (by kernel_rfl) (by kernel_rfl) (by kernel_rfl) ⟨⟨⟨by omega, by omega⟩, by kernel_rfl⟩, by kernel_rfl, trivial⟩ ?_
  clear hE hR; intro a u hE hR
  refine opsNil ?_; refine thenN ?_; refine wp_seq ?_
  refine enterR (idx := [0]) (by kernel_rfl) ?_
  refine segV hE hR [(0, .op [])] [] [(9, .int .i64 0)] [] (by kernel_rfl) (by kernel_rfl) (by kernel_rfl) trivial ?_
  clear hE hR; intro a u hE hR
  refine opsNil ?_; refine thenN ?_; refine wp_seq ?_; refine wp_seq ?_
  refine enterR (idx := [0, 1, 2, 3, 4]) (by kernel_rfl) ?_
  let kv5 : Value := .agg #[.int .i64 o.kind, .int .i64 o.cap, .int .i64 o.width, .int .i64 o.retry, .int .i64 o.src, .int .i64 o.dst, .int .u32 o.i0, .int .u32 o.i1, .int .u32 o.i2, .int .u32 o.i3]
  refine segV hE hR [(0, .op []), (1, .op []), (2, .op []), (3, .op (hks 2 0 10))] [4] [(53, kv5)] [] (by kernel_rfl) (by kernel_rfl) (by kernel_rfl) trivial ?_
  clear hE hR; intro a u hE hR
  refine opsCons ?_
  refine call hE hR [] 47 #[kv5] (some 54) [] (by kernel_rfl) (by kernel_rfl) trivial (HRt _) (fun _ _ h => by cases h.1) (fun _ h => by cases h.1) ?_
  clear hE
  rintro v u ⟨hv, hb⟩ a hE
  cases hv
  obtain ⟨H2, hH2, hR⟩ := hR.callE hb
  refine opsNil ?_; refine thenN ?_
  refine condT hE (b := true) (by kernel_rfl) rfl ?_
  refine enterR (idx := [0, 1, 2, 3, 4, 5]) (by kernel_rfl) ?_
  refine segV hE hR [(0, .op []), (1, .op []), (2, .op []), (3, .op []), (4, .op [.k 2 0]), (5, .op [])] [] [(9, .int .i64 o.kind)] [] (by kernel_rfl) (by kernel_rfl) (by kernel_rfl) trivial ?_
  clear hE hR; intro a u hE hR
  refine opsNil ?_; refine thenN ?_; refine wp_seq ?_
  refine enterR (idx := [0, 1, 2, 3, 4, 5]) (by kernel_rfl) ?_
  refine segV hE hR [(0, .op []), (1, .op []), (2, .op []), (3, .op []), (4, .op [.k 2 11]), (5, .op [])] [] [(10, .int .u32 v.a)] [] (by kernel_rfl) (by kernel_rfl) (by kernel_rfl) trivial ?_
  clear hE hR; intro a u hE hR
  refine opsNil ?_; refine thenN ?_; refine wp_seq ?_; refine wp_block ?_; refine wp_seq ?_
  refine enterR (idx := [0, 1, 2, 3, 4, 5, 6]) (by kernel_rfl) ?_
  refine segV hE hR [(0, .op []), (1, .op []), (2, .op []), (3, .skip), (4, .skip), (5, .op []), (6, .op [])] [] [(65, .bool false)] [false = !true, false = !true] (by kernel_rfl) (by kernel_rfl) (by kernel_rfl) ⟨rfl, rfl, trivial⟩ ?_
  clear hE hR; intro a u hE hR
  refine opsNil ?_; refine thenN ?_
  refine condF hE (b := false) (by kernel_rfl) rfl ?_
  refine wp_seq ?_
  refine enterR (idx := [0, 1, 2, 3, 4, 5, 6]) (by kernel_rfl) ?_
  refine segV hE hR [(0, .op []), (1, .op []), (2, .op []), (3, .skip), (4, .skip), (5, .op []), (6, .op [])] [] [(104, .bool false)] [false = !true, false = !true] (by kernel_rfl) (by kernel_rfl) (by kernel_rfl) ⟨rfl, rfl, trivial⟩ ?_
  clear hE hR; intro a u hE hR
  refine opsNil ?_; refine thenN ?_
  refine condF hE (b := false) (by kernel_rfl) rfl ?_
  refine wp_seq ?_
  refine enterR (idx := [0, 1, 2, 3, 4, 5, 6, 7, 8, 9, 10]) (by kernel_rfl) ?_
  refine segV hE hR [(0, .op []), (1, .op []), (2, .op []), (3, .skip), (4, .skip), (5, .skip), (6, .skip), (7, .skip), (8, .skip), (9, .op []), (10, .op [])] [] [(136, .bool false)] [false = !true, false = !true, false = !true, false = !true] (by kernel_rfl) (by kernel_rfl) (by kernel_rfl) ⟨rfl, rfl, rfl, rfl, trivial⟩ ?_
  clear hE hR; intro a u hE hR
  refine opsNil ?_; refine thenN ?_
  refine condF hE (b := false) (by kernel_rfl) rfl ?_
  refine wp_seq ?_
  refine enterR (idx := [0, 1, 2, 3, 4, 5, 6, 7, 8, 9, 10, 11, 12, 13, 14, 15, 16, 17, 18]) (by kernel_rfl) ?_
  refine seg0 hE hR [(0, .op []), (1, .op []), (2, .op []), (3, .op []), (4, .as [] (.bool true)), (5, .op []), (6, .op []), (7, .skip), (8, .skip), (9, .skip), (10, .skip), (11, .skip), (12, .skip), (13, .skip), (14, .skip), (15, .skip), (16, .skip), (17, .op []), (18, .op [])] [] [(0, .slice (some ⟨g, off, none⟩) L.length c), (3, .pointer (some ⟨H0, 0, none⟩)), (4, .slice none 0 0), (5, .pointer (some ⟨H0 + 1, 0, none⟩)), (6, .int .i64 4), (29, .bool false), (41, .bool false), (7, .slice (some ⟨g2, 0, none⟩) L.length cap2), (8, .pointer (some ⟨g2, 0 + i * 15, none⟩)), (9, .int .i64 o.kind), (53, kv5), (54, .bool true), (10, .int .u32 v.a), (65, .bool false), (104, .bool false), (136, .bool false), (160, .bool true)] [true = !false, true = !false, true = !false, true = !false, true = !false, true = !false, (.bool ((o.kind : Int) == 2) : Value) = (.bool true : Value), true = true, true = true] (by kernel_rfl) (by kernel_rfl) (by kernel_rfl) ⟨rfl, rfl, rfl, rfl, rfl, rfl, congrArg Value.bool (beq_iff_eq.2 (by omega)), rfl, rfl, trivial⟩ ?_
  clear hE hR; intro a u hE hR
  refine opsNil ?_; refine thenN ?_
  refine condT hE (b := true) (by kernel_rfl) rfl ?_
  refine wp_seq ?_
  refine enterD (kl := [⟨H0, 0, kc3, 60, true⟩, ⟨g2, 0 + i * 15, kc4, 118, false⟩, ⟨g2, 0, pr, 118, false⟩, ⟨g2, 0 + i * 15 + 15, po, 118, false⟩]) (by kernel_rfl) hR (F := 8) (listed := #[false, false, false, false, false, false, false, false]) (by kernel_rfl) (by kernel_rfl) ?_
  clear hR
  intro u hR
  let kv6 : Value := .agg #[.int .i64 0, .int .u32 v.a, .int .u32 v.b, .int .u32 v.c, .int .u32 v.d]
  refine takesU (by kernel_rfl) (pqT (pqB (pqT pqF))) hE (hR.ss [1, 2, 3, 4] (by kernel_rfl)) [(0, .op []), (1, .op []), (2, .op []), (3, .op []), (4, .op (hks 1 11 4)), (5, .op []), (6, .op [])] 1 [(4, .slice (some ⟨g, off, none⟩) L.length c), (184, kv6)] #[true, true, true, true, true, true, true, false] [] (by kernel_rfl) (by kernel_rfl) (by kernel_rfl) trivial ?_
  clear hE; intro a hE
  refine wpAnyH_all (rs := [7]) (by kernel_rfl) (by simp) (allCons ?_ allNil)
  let kc7 : List Value := [.int .i64 0, .int .u32 v.a, .int .u32 v.b, .int .u32 v.c, .int .u32 v.d]
  refine oneU hE hR (.op (hks 0 0 5)) [] (⟨H0 + 1, 0, kc7, 63, true⟩ :: ⟨H0, 0, kc3, 60, true⟩ :: ⟨g2, 0 + i * 15, kc4, 118, false⟩ :: ⟨g2, 0, pr, 118, false⟩ :: ⟨g2, 0 + i * 15 + 15, po, 118, false⟩ :: (rs ++ ob)) (H2) [] (by kernel_rfl) (by kernel_rfl) trivial ?_
  clear hE hR; intro a u hE hR
  refine ⟨(hR.ss [1, 2, 3, 4] (by kernel_rfl)), ?_⟩
  show wpAnyH _ _ _ _ _ _ #[true, true, true, true, true, true, true, true] _ _
  refine wpAnyH_done (by kernel_rfl) ?_ _
  refine thenN ?_; refine wp_ret ?_; refine blkR ?_; refine thenR ?_
  refine retF hE hR (hks 0 0 5) (.tuple #[.slice (some ⟨g, off, none⟩) L.length c, .agg #[.int .i64 0, .int .u32 v.a, .int .u32 v.b, .int .u32 v.c, .int .u32 v.d]]) (by kernel_rfl) (by kernel_rfl) (by kernel_rfl) ?_
  exact ⟨rfl, hR.below (by simp)⟩
set_option maxRecDepth 100000 in
theorem ref_try (g off c : Nat) (L : List IV) (o : Ob) (row : List Vl) (v : Vl) (ck : Int) (i : Nat) (cv : Vl) (cn : Int) (w : World) (hck : -9223372036854775808 ≤ ck ∧ ck ≤ 9223372036854775807) (hK : plainP ck = 5) (hi : i < L.length) (_ : L.length ≤ 8) (HC : ∀ W, Below w.heap.size w W → Calls Try.prog 52 #[.slice (some ⟨g, off, none⟩) L.length c] W (CopyAt L i ⟨o, row, v⟩ W)) (hrt : rightP o = true) (hkk : o.kind = 3) :
    Calls Try.prog 26 #[.slice (some ⟨g, off, none⟩) L.length c, .agg #[.int .i64 ck, .int .i64 ((i : Nat) : Int), .int .u32 cv.a, .int .u32 cv.b, .int .u32 cv.c, .int .u32 cv.d, .int .u32 cn]] w fun e W' => e = .returned (.tuple #[.slice (some ⟨g, off, none⟩) L.length c, resA 0 v]) ∧ Below w.heap.size w W' := by
  have hpl := fun W => plain2B_calls ck W hck
  rw [hK] at hpl
  have HRt := fun W => right2_calls o W
  rw [hrt] at HRt
  let kv1 : Value := .agg #[.int .i64 ck, .int .i64 ((i : Nat) : Int), .int .u32 cv.a, .int .u32 cv.b, .int .u32 cv.c, .int .u32 cv.d, .int .u32 cn]
  refine enterF Try.func26 rfl Try.ntmps26 [(0, .slice (some ⟨g, off, none⟩) L.length c), (1, kv1)] (by kernel_rfl) (by kernel_rfl) ?_
  have hR := Rep.start w
  obtain ⟨H0, hH0⟩ : ∃ x, x = w.heap.size := ⟨_, rfl⟩
  rw [← hH0] at hR
  intro a hE
  refine wp_seq ?_
  refine enterR (idx := [0, 1, 2]) (by kernel_rfl) ?_
  let kc2 : List Value := [.int .i64 0, .int .u32 0, .int .u32 0, .int .u32 0, .int .u32 0]
  let kc3 : List Value := [.int .i64 ck, .int .i64 ((i : Nat) : Int), .int .u32 cv.a, .int .u32 cv.b, .int .u32 cv.c, .int .u32 cv.d, .int .u32 cn]
  refine segU hE hR [(0, .op []), (1, .op []), (2, .op [])] [] [(3, .pointer (some ⟨H0, 0, none⟩)), (4, .slice none 0 0), (5, .pointer (some ⟨H0 + 1, 0, none⟩))] [⟨H0 + 1, 0, kc2, 63, true⟩, ⟨H0, 0, kc3, 60, true⟩] (H0 + 2) [] (by kernel_rfl) (by kernel_rfl) (by kernel_rfl) trivial ?_
  clear hE hR; intro a u hE hR
  refine opsNil ?_; refine thenN ?_; refine wp_seq ?_
  refine enterR (idx := [0, 1, 2, 3]) (by kernel_rfl) ?_
  refine segV hE hR [(0, .op []), (1, .op [.k 1 0])] [2, 3] [(13, .int .i64 ck)] [] (by kernel_rfl) (by kernel_rfl) (by kernel_rfl) trivial ?_
  clear hE hR; intro a u hE hR
  refine opsCons ?_
  refine call hE hR [] 51 #[.int .i64 ck] (some 14) [] (by kernel_rfl) (by kernel_rfl) trivial (hpl _) (fun _ _ h => by cases h.1) (fun _ h => by cases h.1) ?_
  clear hE
  rintro v u ⟨hv, hb⟩ a hE
  cases hv
  obtain ⟨H1, hH1, hR⟩ := hR.callE hb
  refine segV hE hR [(3, .op [])] [] [(6, .int .i64 5)] [] (by kernel_rfl) (by kernel_rfl) (by kernel_rfl) trivial ?_
  clear hE hR; intro a u hE hR
  refine opsNil ?_; refine thenN ?_; refine wp_seq ?_; refine wp_seq ?_
  refine enterR (idx := [0, 1, 2, 3, 4, 5, 6, 7, 8, 9, 10, 11, 12, 13, 14]) (by kernel_rfl) ?_
  refine segV hE hR [(0, .op []), (1, .op []), (2, .op []), (3, .op []), (4, .op []), (5, .op []), (6, .op []), (7, .skip), (8, .skip), (9, .op []), (10, .op []), (11, .skip), (12, .skip), (13, .op []), (14, .op [])] [] [(29, .bool false)] [true = !false, true = !false, true = !false, true = !false, true = true, true = true] (by kernel_rfl) (by kernel_rfl) (by kernel_rfl) ⟨rfl, rfl, rfl, rfl, rfl, rfl, trivial⟩ ?_
  clear hE hR; intro a u hE hR
  refine opsNil ?_; refine thenN ?_
  refine condF hE (b := false) (by kernel_rfl) rfl ?_
  refine wp_skip ?_; refine thenN ?_; refine wp_seq ?_; refine wp_seq ?_
  refine enterR (idx := [0, 1, 2, 3, 4, 5, 6, 7, 8, 9]) (by kernel_rfl) ?_
  refine segV hE hR [(0, .op []), (1, .op [.k 1 1]), (2, .as [] (.bool false)), (3, .op []), (4, .op []), (5, .op [.k 1 1]), (6, .op []), (7, .op []), (8, .as [] (.bool false)), (9, .op [])] [] [(41, .bool false)] [(.bool (decide (((i : Nat) : Int) ≥ ((L.length : Nat) : Int))) : Value) = (.bool false : Value), false = false, false = false, false = false, false = false, false = false, (.bool (decide (((i : Nat) : Int) < 0)) : Value) = (.bool false : Value)] (by kernel_rfl) (by kernel_rfl) (by kernel_rfl) ⟨congrArg Value.bool (decide_eq_false (by omega)), rfl, rfl, rfl, rfl, rfl, congrArg Value.bool (decide_eq_false (by omega)), trivial⟩ ?_
  clear hE hR; intro a u hE hR
  refine opsNil ?_; refine thenN ?_
  refine condF hE (b := false) (by kernel_rfl) rfl ?_
  refine wp_skip ?_; refine thenN ?_; refine wp_seq ?_
  refine enterR (idx := [0, 1, 2]) (by kernel_rfl) ?_
  refine segV hE hR [(0, .op [])] [1, 2] [(44, .slice (some ⟨g, off, none⟩) L.length c)] [] (by kernel_rfl) (by kernel_rfl) (by kernel_rfl) trivial ?_
  clear hE hR; intro a u hE hR
  refine opsCons ?_
  refine call hE hR [] 52 #[.slice (some ⟨g, off, none⟩) L.length c] (some 45) [] (by kernel_rfl) (by kernel_rfl) trivial (HC _ (hR.below (by simp))) (by rintro _ _ ⟨_, _, _, _, _, _, _, _, _, _, h, _⟩; cases h) (by rintro _ ⟨_, _, _, _, _, _, _, _, _, _, h, _⟩; cases h) ?_
  clear hE
  rintro v u ⟨g2, cap2, pr, po, gr, cr, rest, rs, ob, L2, hv, hcf, Hc, hRc⟩ a hE
  cases hv
  let kc4 : List Value := [.int .i64 o.kind, .int .i64 o.cap, .int .i64 o.width, .int .i64 o.retry, .int .i64 o.src, .int .i64 o.dst, .int .u32 o.i0, .int .u32 o.i1, .int .u32 o.i2, .int .u32 o.i3, .slice (some ⟨gr, 0, none⟩) row.length cr, .int .u32 v.a, .int .u32 v.b, .int .u32 v.c, .int .u32 v.d]
  replace hR : Rep [(w, fun _ => True)] u Hc (⟨H0 + 1, 0, kc2, 63, true⟩ :: ⟨H0, 0, kc3, 60, true⟩ :: ⟨g2, 0 + i * 15, kc4, 118, false⟩ :: ⟨g2, 0, pr, 118, false⟩ :: ⟨g2, 0 + i * 15 + 15, po, 118, false⟩ :: (rs ++ ob)) [] := hR.join hRc
  refine segV hE hR [(2, .op [])] [] [(7, .slice (some ⟨g2, 0, none⟩) L.length cap2)] [] (by kernel_rfl) (by kernel_rfl) (by kernel_rfl) trivial ?_
  clear hE hR; intro a u hE hR
  refine opsNil ?_; refine thenN ?_; refine wp_seq ?_
  refine enterR (idx := [0, 1, 2, 3, 4]) (by kernel_rfl) ?_
  refine seg0 hE hR [(0, .op []), (1, .op []), (2, .op [.k 1 1]), (3, .alt (.pointer (some ⟨g2, 0 + i * 15, none⟩))), (4, .op [])] [] [(0, .slice (some ⟨g, off, none⟩) L.length c), (3, .pointer (some ⟨H0, 0, none⟩)), (4, .slice none 0 0), (5, .pointer (some ⟨H0 + 1, 0, none⟩)), (6, .int .i64 5), (29, .bool false), (41, .bool false), (7, .slice (some ⟨g2, 0, none⟩) L.length cap2), (8, .pointer (some ⟨g2, 0 + i * 15, none⟩))] [(0 ≤ (((i : Nat) : Int) : Int) ∧ (((i : Nat) : Int) : Int) < ((L.length : Nat) : Int)) ∧ (Try.prog.info? 118).isSome = true, (.pointer (some ⟨g2, 0 + (((i : Nat) : Int)).toNat * Try.prog.cellsOf 118, none⟩) : Value) = (.pointer (some ⟨g2, 0 + i * 15, none⟩) : Value)] (by kernel_rfl) (by kernel_rfl) (by kernel_rfl) ⟨⟨⟨by omega, by omega⟩, by kernel_rfl⟩, by kernel_rfl, trivial⟩ ?_
  clear hE hR; intro a u hE hR
  refine opsNil ?_; refine thenN ?_; refine wp_seq ?_
  refine enterR (idx := [0]) (by kernel_rfl) ?_
  refine segV hE hR [(0, .op [])] [] [(9, .int .i64 0)] [] (by kernel_rfl) (by kernel_rfl) (by kernel_rfl) trivial ?_
  clear hE hR; intro a u hE hR
  refine opsNil ?_; refine thenN ?_; refine wp_seq ?_; refine wp_seq ?_
  refine enterR (idx := [0, 1, 2, 3, 4]) (by kernel_rfl) ?_
  let kv5 : Value := .agg #[.int .i64 o.kind, .int .i64 o.cap, .int .i64 o.width, .int .i64 o.retry, .int .i64 o.src, .int .i64 o.dst, .int .u32 o.i0, .int .u32 o.i1, .int .u32 o.i2, .int .u32 o.i3]
  refine segV hE hR [(0, .op []), (1, .op []), (2, .op []), (3, .op (hks 2 0 10))] [4] [(53, kv5)] [] (by kernel_rfl) (by kernel_rfl) (by kernel_rfl) trivial ?_
  clear hE hR; intro a u hE hR
  refine opsCons ?_
  refine call hE hR [] 47 #[kv5] (some 54) [] (by kernel_rfl) (by kernel_rfl) trivial (HRt _) (fun _ _ h => by cases h.1) (fun _ h => by cases h.1) ?_
  clear hE
  rintro v u ⟨hv, hb⟩ a hE
  cases hv
  obtain ⟨H2, hH2, hR⟩ := hR.callE hb
  refine opsNil ?_; refine thenN ?_
  refine condT hE (b := true) (by kernel_rfl) rfl ?_
  refine enterR (idx := [0, 1, 2, 3, 4, 5]) (by kernel_rfl) ?_
  refine segV hE hR [(0, .op []), (1, .op []), (2, .op []), (3, .op []), (4, .op [.k 2 0]), (5, .op [])] [] [(9, .int .i64 o.kind)] [] (by kernel_rfl) (by kernel_rfl) (by kernel_rfl) trivial ?_
  clear hE hR; intro a u hE hR
  refine opsNil ?_; refine thenN ?_; refine wp_seq ?_
  refine enterR (idx := [0, 1, 2, 3, 4, 5]) (by kernel_rfl) ?_
  refine segV hE hR [(0, .op []), (1, .op []), (2, .op []), (3, .op []), (4, .op [.k 2 11]), (5, .op [])] [] [(10, .int .u32 v.a)] [] (by kernel_rfl) (by kernel_rfl) (by kernel_rfl) trivial ?_
  clear hE hR; intro a u hE hR
  refine opsNil ?_; refine thenN ?_; refine wp_seq ?_; refine wp_block ?_; refine wp_seq ?_
  refine enterR (idx := [0, 1, 2, 3, 4, 5, 6]) (by kernel_rfl) ?_
  refine segV hE hR [(0, .op []), (1, .op []), (2, .op []), (3, .skip), (4, .skip), (5, .op []), (6, .op [])] [] [(65, .bool false)] [false = !true, false = !true] (by kernel_rfl) (by kernel_rfl) (by kernel_rfl) ⟨rfl, rfl, trivial⟩ ?_
  clear hE hR; intro a u hE hR
  refine opsNil ?_; refine thenN ?_
  refine condF hE (b := false) (by kernel_rfl) rfl ?_
  refine wp_seq ?_
  refine enterR (idx := [0, 1, 2, 3, 4, 5, 6]) (by kernel_rfl) ?_
  refine segV hE hR [(0, .op []), (1, .op []), (2, .op []), (3, .skip), (4, .skip), (5, .op []), (6, .op [])] [] [(104, .bool false)] [false = !true, false = !true] (by kernel_rfl) (by kernel_rfl) (by kernel_rfl) ⟨rfl, rfl, trivial⟩ ?_
  clear hE hR; intro a u hE hR
  refine opsNil ?_; refine thenN ?_
  refine condF hE (b := false) (by kernel_rfl) rfl ?_
  refine wp_seq ?_
  refine enterR (idx := [0, 1, 2, 3, 4, 5, 6, 7, 8, 9, 10]) (by kernel_rfl) ?_
  refine segV hE hR [(0, .op []), (1, .op []), (2, .op []), (3, .skip), (4, .skip), (5, .skip), (6, .skip), (7, .skip), (8, .skip), (9, .op []), (10, .op [])] [] [(136, .bool false)] [false = !true, false = !true, false = !true, false = !true] (by kernel_rfl) (by kernel_rfl) (by kernel_rfl) ⟨rfl, rfl, rfl, rfl, trivial⟩ ?_
  clear hE hR; intro a u hE hR
  refine opsNil ?_; refine thenN ?_
  refine condF hE (b := false) (by kernel_rfl) rfl ?_
  refine wp_seq ?_
  refine enterR (idx := [0, 1, 2, 3, 4, 5, 6, 7, 8, 9, 10, 11, 12, 13, 14, 15, 16, 17, 18]) (by kernel_rfl) ?_
  refine seg0 hE hR [(0, .op []), (1, .op []), (2, .op []), (3, .skip), (4, .skip), (5, .op []), (6, .op []), (7, .op []), (8, .op []), (9, .op []), (10, .skip), (11, .skip), (12, .op []), (13, .op []), (14, .op []), (15, .as [] (.bool true)), (16, .op []), (17, .op []), (18, .op [])] [] [(0, .slice (some ⟨g, off, none⟩) L.length c), (3, .pointer (some ⟨H0, 0, none⟩)), (4, .slice none 0 0), (5, .pointer (some ⟨H0 + 1, 0, none⟩)), (6, .int .i64 5), (29, .bool false), (41, .bool false), (7, .slice (some ⟨g2, 0, none⟩) L.length cap2), (8, .pointer (some ⟨g2, 0 + i * 15, none⟩)), (9, .int .i64 o.kind), (53, kv5), (54, .bool true), (10, .int .u32 v.a), (65, .bool false), (104, .bool false), (136, .bool false), (160, .bool true)] [false = false, (.bool ((o.kind : Int) == 3) : Value) = (.bool true : Value), true = true, true = true, false = false, false = false, true = !false, true = !false, false = false, false = false, false = false, false = !true, false = !true] (by kernel_rfl) (by kernel_rfl) (by kernel_rfl) ⟨rfl, congrArg Value.bool (beq_iff_eq.2 (by omega)), rfl, rfl, rfl, rfl, rfl, rfl, rfl, rfl, rfl, rfl, rfl, trivial⟩ ?_
  clear hE hR; intro a u hE hR
  refine opsNil ?_; refine thenN ?_
  refine condT hE (b := true) (by kernel_rfl) rfl ?_
  refine wp_seq ?_
  refine enterD (kl := [⟨H0, 0, kc3, 60, true⟩, ⟨g2, 0 + i * 15, kc4, 118, false⟩, ⟨g2, 0, pr, 118, false⟩, ⟨g2, 0 + i * 15 + 15, po, 118, false⟩]) (by kernel_rfl) hR (F := 8) (listed := #[false, false, false, false, false, false, false, false]) (by kernel_rfl) (by kernel_rfl) ?_
  clear hR
  intro u hR
  let kv6 : Value := .agg #[.int .i64 0, .int .u32 v.a, .int .u32 v.b, .int .u32 v.c, .int .u32 v.d]
  refine takesU (by kernel_rfl) (pqT (pqB (pqT pqF))) hE (hR.ss [1, 2, 3, 4] (by kernel_rfl)) [(0, .op []), (1, .op []), (2, .op []), (3, .op []), (4, .op (hks 1 11 4)), (5, .op []), (6, .op [])] 1 [(4, .slice (some ⟨g, off, none⟩) L.length c), (184, kv6)] #[true, true, true, true, true, true, true, false] [] (by kernel_rfl) (by kernel_rfl) (by kernel_rfl) trivial ?_
  clear hE; intro a hE
  refine wpAnyH_all (rs := [7]) (by kernel_rfl) (by simp) (allCons ?_ allNil)
  let kc7 : List Value := [.int .i64 0, .int .u32 v.a, .int .u32 v.b, .int .u32 v.c, .int .u32 v.d]
  refine oneU hE hR (.op (hks 0 0 5)) [] (⟨H0 + 1, 0, kc7, 63, true⟩ :: ⟨H0, 0, kc3, 60, true⟩ :: ⟨g2, 0 + i * 15, kc4, 118, false⟩ :: ⟨g2, 0, pr, 118, false⟩ :: ⟨g2, 0 + i * 15 + 15, po, 118, false⟩ :: (rs ++ ob)) (H2) [] (by kernel_rfl) (by kernel_rfl) trivial ?_
  clear hE hR; intro a u hE hR
  refine ⟨(hR.ss [1, 2, 3, 4] (by kernel_rfl)), ?_⟩
  show wpAnyH _ _ _ _ _ _ #[true, true, true, true, true, true, true, true] _ _
  refine wpAnyH_done (by kernel_rfl) ?_ _
  refine thenN ?_; refine wp_ret ?_; refine blkR ?_; refine thenR ?_
  refine retF hE hR (hks 0 0 5) (.tuple #[.slice (some ⟨g, off, none⟩) L.length c, .agg #[.int .i64 0, .int .u32 v.a, .int .u32 v.b, .int .u32 v.c, .int .u32 v.d]]) (by kernel_rfl) (by kernel_rfl) (by kernel_rfl) ?_
  exact ⟨rfl, hR.below (by simp)⟩
set_option maxRecDepth 100000 in
theorem ref_again (g off c : Nat) (L : List IV) (o : Ob) (row : List Vl) (v : Vl) (ck : Int) (i : Nat) (cv : Vl) (cn : Int) (w : World) (hck : -9223372036854775808 ≤ ck ∧ ck ≤ 9223372036854775807) (hK : plainP ck = 6) (hi : i < L.length) (_ : L.length ≤ 8) (HC : ∀ W, Below w.heap.size w W → Calls Try.prog 52 #[.slice (some ⟨g, off, none⟩) L.length c] W (CopyAt L i ⟨o, row, v⟩ W)) (hrt : rightP o = true) (hkk : o.kind = 3) :
    Calls Try.prog 26 #[.slice (some ⟨g, off, none⟩) L.length c, .agg #[.int .i64 ck, .int .i64 ((i : Nat) : Int), .int .u32 cv.a, .int .u32 cv.b, .int .u32 cv.c, .int .u32 cv.d, .int .u32 cn]] w fun e W' => e = .returned (.tuple #[.slice (some ⟨g, off, none⟩) L.length c, resA 0 v]) ∧ Below w.heap.size w W' := by
  have hpl := fun W => plain2B_calls ck W hck
  rw [hK] at hpl
  have HRt := fun W => right2_calls o W
  rw [hrt] at HRt
  let kv1 : Value := .agg #[.int .i64 ck, .int .i64 ((i : Nat) : Int), .int .u32 cv.a, .int .u32 cv.b, .int .u32 cv.c, .int .u32 cv.d, .int .u32 cn]
  refine enterF Try.func26 rfl Try.ntmps26 [(0, .slice (some ⟨g, off, none⟩) L.length c), (1, kv1)] (by kernel_rfl) (by kernel_rfl) ?_
  have hR := Rep.start w
  obtain ⟨H0, hH0⟩ : ∃ x, x = w.heap.size := ⟨_, rfl⟩
  rw [← hH0] at hR
  intro a hE
  refine wp_seq ?_
  refine enterR (idx := [0, 1, 2]) (by kernel_rfl) ?_
  let kc2 : List Value := [.int .i64 0, .int .u32 0, .int .u32 0, .int .u32 0, .int .u32 0]
  let kc3 : List Value := [.int .i64 ck, .int .i64 ((i : Nat) : Int), .int .u32 cv.a, .int .u32 cv.b, .int .u32 cv.c, .int .u32 cv.d, .int .u32 cn]
  refine segU hE hR [(0, .op []), (1, .op []), (2, .op [])] [] [(3, .pointer (some ⟨H0, 0, none⟩)), (4, .slice none 0 0), (5, .pointer (some ⟨H0 + 1, 0, none⟩))] [⟨H0 + 1, 0, kc2, 63, true⟩, ⟨H0, 0, kc3, 60, true⟩] (H0 + 2) [] (by kernel_rfl) (by kernel_rfl) (by kernel_rfl) trivial ?_
  clear hE hR; intro a u hE hR
  refine opsNil ?_; refine thenN ?_; refine wp_seq ?_
  refine enterR (idx := [0, 1, 2, 3]) (by kernel_rfl) ?_
  refine segV hE hR [(0, .op []), (1, .op [.k 1 0])] [2, 3] [(13, .int .i64 ck)] [] (by kernel_rfl) (by kernel_rfl) (by kernel_rfl) trivial ?_
  clear hE hR; intro a u hE hR
  refine opsCons ?_
  refine call hE hR [] 51 #[.int .i64 ck] (some 14) [] (by kernel_rfl) (by kernel_rfl) trivial (hpl _) (fun _ _ h => by cases h.1) (fun _ h => by cases h.1) ?_
  clear hE
  rintro v u ⟨hv, hb⟩ a hE
  cases hv
  obtain ⟨H1, hH1, hR⟩ := hR.callE hb
  refine segV hE hR [(3, .op [])] [] [(6, .int .i64 6)] [] (by kernel_rfl) (by kernel_rfl) (by kernel_rfl) trivial ?_
  clear hE hR; intro a u hE hR
  refine opsNil ?_; refine thenN ?_; refine wp_seq ?_; refine wp_seq ?_
  refine enterR (idx := [0, 1, 2, 3, 4, 5, 6, 7, 8, 9, 10, 11, 12, 13, 14]) (by kernel_rfl) ?_
  refine segV hE hR [(0, .op []), (1, .op []), (2, .op []), (3, .op []), (4, .op []), (5, .op []), (6, .op []), (7, .skip), (8, .skip), (9, .op []), (10, .op []), (11, .skip), (12, .skip), (13, .op []), (14, .op [])] [] [(29, .bool false)] [true = !false, true = !false, true = !false, true = !false, true = true, true = true] (by kernel_rfl) (by kernel_rfl) (by kernel_rfl) ⟨rfl, rfl, rfl, rfl, rfl, rfl, trivial⟩ ?_
  clear hE hR; intro a u hE hR
  refine opsNil ?_; refine thenN ?_
  refine condF hE (b := false) (by kernel_rfl) rfl ?_
  refine wp_skip ?_; refine thenN ?_; refine wp_seq ?_; refine wp_seq ?_
  refine enterR (idx := [0, 1, 2, 3, 4, 5, 6, 7, 8, 9]) (by kernel_rfl) ?_
  refine segV hE hR [(0, .op []), (1, .op [.k 1 1]), (2, .as [] (.bool false)), (3, .op []), (4, .op []), (5, .op [.k 1 1]), (6, .op []), (7, .op []), (8, .as [] (.bool false)), (9, .op [])] [] [(41, .bool false)] [(.bool (decide (((i : Nat) : Int) ≥ ((L.length : Nat) : Int))) : Value) = (.bool false : Value), false = false, false = false, false = false, false = false, false = false, (.bool (decide (((i : Nat) : Int) < 0)) : Value) = (.bool false : Value)] (by kernel_rfl) (by kernel_rfl) (by kernel_rfl) ⟨congrArg Value.bool (decide_eq_false (by omega)), rfl, rfl, rfl, rfl, rfl, congrArg Value.bool (decide_eq_false (by omega)), trivial⟩ ?_
  clear hE hR; intro a u hE hR
  refine opsNil ?_; refine thenN ?_
  refine condF hE (b := false) (by kernel_rfl) rfl ?_
  refine wp_skip ?_; refine thenN ?_; refine wp_seq ?_
  refine enterR (idx := [0, 1, 2]) (by kernel_rfl) ?_
  refine segV hE hR [(0, .op [])] [1, 2] [(44, .slice (some ⟨g, off, none⟩) L.length c)] [] (by kernel_rfl) (by kernel_rfl) (by kernel_rfl) trivial ?_
  clear hE hR; intro a u hE hR
  refine opsCons ?_
  refine call hE hR [] 52 #[.slice (some ⟨g, off, none⟩) L.length c] (some 45) [] (by kernel_rfl) (by kernel_rfl) trivial (HC _ (hR.below (by simp))) (by rintro _ _ ⟨_, _, _, _, _, _, _, _, _, _, h, _⟩; cases h) (by rintro _ ⟨_, _, _, _, _, _, _, _, _, _, h, _⟩; cases h) ?_
  clear hE
  rintro v u ⟨g2, cap2, pr, po, gr, cr, rest, rs, ob, L2, hv, hcf, Hc, hRc⟩ a hE
  cases hv
  let kc4 : List Value := [.int .i64 o.kind, .int .i64 o.cap, .int .i64 o.width, .int .i64 o.retry, .int .i64 o.src, .int .i64 o.dst, .int .u32 o.i0, .int .u32 o.i1, .int .u32 o.i2, .int .u32 o.i3, .slice (some ⟨gr, 0, none⟩) row.length cr, .int .u32 v.a, .int .u32 v.b, .int .u32 v.c, .int .u32 v.d]
  replace hR : Rep [(w, fun _ => True)] u Hc (⟨H0 + 1, 0, kc2, 63, true⟩ :: ⟨H0, 0, kc3, 60, true⟩ :: ⟨g2, 0 + i * 15, kc4, 118, false⟩ :: ⟨g2, 0, pr, 118, false⟩ :: ⟨g2, 0 + i * 15 + 15, po, 118, false⟩ :: (rs ++ ob)) [] := hR.join hRc
  refine segV hE hR [(2, .op [])] [] [(7, .slice (some ⟨g2, 0, none⟩) L.length cap2)] [] (by kernel_rfl) (by kernel_rfl) (by kernel_rfl) trivial ?_
  clear hE hR; intro a u hE hR
  refine opsNil ?_; refine thenN ?_; refine wp_seq ?_
  refine enterR (idx := [0, 1, 2, 3, 4]) (by kernel_rfl) ?_
  refine seg0 hE hR [(0, .op []), (1, .op []), (2, .op [.k 1 1]), (3, .alt (.pointer (some ⟨g2, 0 + i * 15, none⟩))), (4, .op [])] [] [(0, .slice (some ⟨g, off, none⟩) L.length c), (3, .pointer (some ⟨H0, 0, none⟩)), (4, .slice none 0 0), (5, .pointer (some ⟨H0 + 1, 0, none⟩)), (6, .int .i64 6), (29, .bool false), (41, .bool false), (7, .slice (some ⟨g2, 0, none⟩) L.length cap2), (8, .pointer (some ⟨g2, 0 + i * 15, none⟩))] [(0 ≤ (((i : Nat) : Int) : Int) ∧ (((i : Nat) : Int) : Int) < ((L.length : Nat) : Int)) ∧ (Try.prog.info? 118).isSome = true, (.pointer (some ⟨g2, 0 + (((i : Nat) : Int)).toNat * Try.prog.cellsOf 118, none⟩) : Value) = (.pointer (some ⟨g2, 0 + i * 15, none⟩) : Value)] (by kernel_rfl) (by kernel_rfl) (by kernel_rfl) ⟨⟨⟨by omega, by omega⟩, by kernel_rfl⟩, by kernel_rfl, trivial⟩ ?_
  clear hE hR; intro a u hE hR
  refine opsNil ?_; refine thenN ?_; refine wp_seq ?_
  refine enterR (idx := [0]) (by kernel_rfl) ?_
  refine segV hE hR [(0, .op [])] [] [(9, .int .i64 0)] [] (by kernel_rfl) (by kernel_rfl) (by kernel_rfl) trivial ?_
  clear hE hR; intro a u hE hR
  refine opsNil ?_; refine thenN ?_; refine wp_seq ?_; refine wp_seq ?_
  refine enterR (idx := [0, 1, 2, 3, 4]) (by kernel_rfl) ?_
  let kv5 : Value := .agg #[.int .i64 o.kind, .int .i64 o.cap, .int .i64 o.width, .int .i64 o.retry, .int .i64 o.src, .int .i64 o.dst, .int .u32 o.i0, .int .u32 o.i1, .int .u32 o.i2, .int .u32 o.i3]
  refine segV hE hR [(0, .op []), (1, .op []), (2, .op []), (3, .op (hks 2 0 10))] [4] [(53, kv5)] [] (by kernel_rfl) (by kernel_rfl) (by kernel_rfl) trivial ?_
  clear hE hR; intro a u hE hR
  refine opsCons ?_
  refine call hE hR [] 47 #[kv5] (some 54) [] (by kernel_rfl) (by kernel_rfl) trivial (HRt _) (fun _ _ h => by cases h.1) (fun _ h => by cases h.1) ?_
  clear hE
  rintro v u ⟨hv, hb⟩ a hE
  cases hv
  obtain ⟨H2, hH2, hR⟩ := hR.callE hb
  refine opsNil ?_; refine thenN ?_
  refine condT hE (b := true) (by kernel_rfl) rfl ?_
  refine enterR (idx := [0, 1, 2, 3, 4, 5]) (by kernel_rfl) ?_
  refine segV hE hR [(0, .op []), (1, .op []), (2, .op []), (3, .op []), (4, .op [.k 2 0]), (5, .op [])] [] [(9, .int .i64 o.kind)] [] (by kernel_rfl) (by kernel_rfl) (by kernel_rfl) trivial ?_
  clear hE hR; intro a u hE hR
  refine opsNil ?_; refine thenN ?_; refine wp_seq ?_
  refine enterR (idx := [0, 1, 2, 3, 4, 5]) (by kernel_rfl) ?_
  refine segV hE hR [(0, .op []), (1, .op []), (2, .op []), (3, .op []), (4, .op [.k 2 11]), (5, .op [])] [] [(10, .int .u32 v.a)] [] (by kernel_rfl) (by kernel_rfl) (by kernel_rfl) trivial ?_
  clear hE hR; intro a u hE hR
  refine opsNil ?_; refine thenN ?_; refine wp_seq ?_; refine wp_block ?_; refine wp_seq ?_
  refine enterR (idx := [0, 1, 2, 3, 4, 5, 6]) (by kernel_rfl) ?_
  refine segV hE hR [(0, .op []), (1, .op []), (2, .op []), (3, .skip), (4, .skip), (5, .op []), (6, .op [])] [] [(65, .bool false)] [false = !true, false = !true] (by kernel_rfl) (by kernel_rfl) (by kernel_rfl) ⟨rfl, rfl, trivial⟩ ?_
  clear hE hR; intro a u hE hR
  refine opsNil ?_; refine thenN ?_
  refine condF hE (b := false) (by kernel_rfl) rfl ?_
  refine wp_seq ?_
  refine enterR (idx := [0, 1, 2, 3, 4, 5, 6]) (by kernel_rfl) ?_
  refine segV hE hR [(0, .op []), (1, .op []), (2, .op []), (3, .skip), (4, .skip), (5, .op []), (6, .op [])] [] [(104, .bool false)] [false = !true, false = !true] (by kernel_rfl) (by kernel_rfl) (by kernel_rfl) ⟨rfl, rfl, trivial⟩ ?_
  clear hE hR; intro a u hE hR
  refine opsNil ?_; refine thenN ?_
  refine condF hE (b := false) (by kernel_rfl) rfl ?_
  refine wp_seq ?_
  refine enterR (idx := [0, 1, 2, 3, 4, 5, 6, 7, 8, 9, 10]) (by kernel_rfl) ?_
  refine segV hE hR [(0, .op []), (1, .op []), (2, .op []), (3, .skip), (4, .skip), (5, .skip), (6, .skip), (7, .skip), (8, .skip), (9, .op []), (10, .op [])] [] [(136, .bool false)] [false = !true, false = !true, false = !true, false = !true] (by kernel_rfl) (by kernel_rfl) (by kernel_rfl) ⟨rfl, rfl, rfl, rfl, trivial⟩ ?_
  clear hE hR; intro a u hE hR
  refine opsNil ?_; refine thenN ?_
  refine condF hE (b := false) (by kernel_rfl) rfl ?_
  refine wp_seq ?_
  refine enterR (idx := [0, 1, 2, 3, 4, 5, 6, 7, 8, 9, 10, 11, 12, 13, 14, 15, 16, 17, 18]) (by kernel_rfl) ?_
  refine seg0 hE hR [(0, .op []), (1, .op []), (2, .op []), (3, .skip), (4, .skip), (5, .op []), (6, .op []), (7, .op []), (8, .op []), (9, .op []), (10, .op []), (11, .op []), (12, .op []), (13, .op []), (14, .op []), (15, .as [] (.bool true)), (16, .op []), (17, .op []), (18, .op [])] [] [(0, .slice (some ⟨g, off, none⟩) L.length c), (3, .pointer (some ⟨H0, 0, none⟩)), (4, .slice none 0 0), (5, .pointer (some ⟨H0 + 1, 0, none⟩)), (6, .int .i64 6), (29, .bool false), (41, .bool false), (7, .slice (some ⟨g2, 0, none⟩) L.length cap2), (8, .pointer (some ⟨g2, 0 + i * 15, none⟩)), (9, .int .i64 o.kind), (53, kv5), (54, .bool true), (10, .int .u32 v.a), (65, .bool false), (104, .bool false), (136, .bool false), (160, .bool true)] [false = false, (.bool ((o.kind : Int) == 3) : Value) = (.bool true : Value), true = true, true = true, false = false, false = false, false = false, false = false, false = false, false = false, false = false, false = !true, false = !true] (by kernel_rfl) (by kernel_rfl) (by kernel_rfl) ⟨rfl, congrArg Value.bool (beq_iff_eq.2 (by omega)), rfl, rfl, rfl, rfl, rfl, rfl, rfl, rfl, rfl, rfl, rfl, trivial⟩ ?_
  clear hE hR; intro a u hE hR
  refine opsNil ?_; refine thenN ?_
  refine condT hE (b := true) (by kernel_rfl) rfl ?_
  refine wp_seq ?_
  refine enterD (kl := [⟨H0, 0, kc3, 60, true⟩, ⟨g2, 0 + i * 15, kc4, 118, false⟩, ⟨g2, 0, pr, 118, false⟩, ⟨g2, 0 + i * 15 + 15, po, 118, false⟩]) (by kernel_rfl) hR (F := 8) (listed := #[false, false, false, false, false, false, false, false]) (by kernel_rfl) (by kernel_rfl) ?_
  clear hR
  intro u hR
  let kv6 : Value := .agg #[.int .i64 0, .int .u32 v.a, .int .u32 v.b, .int .u32 v.c, .int .u32 v.d]
  refine takesU (by kernel_rfl) (pqT (pqB (pqT pqF))) hE (hR.ss [1, 2, 3, 4] (by kernel_rfl)) [(0, .op []), (1, .op []), (2, .op []), (3, .op []), (4, .op (hks 1 11 4)), (5, .op []), (6, .op [])] 1 [(4, .slice (some ⟨g, off, none⟩) L.length c), (184, kv6)] #[true, true, true, true, true, true, true, false] [] (by kernel_rfl) (by kernel_rfl) (by kernel_rfl) trivial ?_
  clear hE; intro a hE
  refine wpAnyH_all (rs := [7]) (by kernel_rfl) (by simp) (allCons ?_ allNil)
  let kc7 : List Value := [.int .i64 0, .int .u32 v.a, .int .u32 v.b, .int .u32 v.c, .int .u32 v.d]
  refine oneU hE hR (.op (hks 0 0 5)) [] (⟨H0 + 1, 0, kc7, 63, true⟩ :: ⟨H0, 0, kc3, 60, true⟩ :: ⟨g2, 0 + i * 15, kc4, 118, false⟩ :: ⟨g2, 0, pr, 118, false⟩ :: ⟨g2, 0 + i * 15 + 15, po, 118, false⟩ :: (rs ++ ob)) (H2) [] (by kernel_rfl) (by kernel_rfl) trivial ?_
  clear hE hR; intro a u hE hR
  refine ⟨(hR.ss [1, 2, 3, 4] (by kernel_rfl)), ?_⟩
  show wpAnyH _ _ _ _ _ _ #[true, true, true, true, true, true, true, true] _ _
  refine wpAnyH_done (by kernel_rfl) ?_ _
  refine thenN ?_; refine wp_ret ?_; refine blkR ?_; refine thenR ?_
  refine retF hE hR (hks 0 0 5) (.tuple #[.slice (some ⟨g, off, none⟩) L.length c, .agg #[.int .i64 0, .int .u32 v.a, .int .u32 v.b, .int .u32 v.c, .int .u32 v.d]]) (by kernel_rfl) (by kernel_rfl) (by kernel_rfl) ?_
  exact ⟨rfl, hR.below (by simp)⟩
set_option maxRecDepth 100000 in
theorem ref_set (g off c : Nat) (L : List IV) (o : Ob) (row : List Vl) (v : Vl) (ck : Int) (i : Nat) (cv : Vl) (cn : Int) (w : World) (hck : -9223372036854775808 ≤ ck ∧ ck ≤ 9223372036854775807) (hK : plainP ck = 7) (hi : i < L.length) (_ : L.length ≤ 8) (HC : ∀ W, Below w.heap.size w W → Calls Try.prog 52 #[.slice (some ⟨g, off, none⟩) L.length c] W (CopyAt L i ⟨o, row, v⟩ W)) (hrt : rightP o = true) (hkk : o.kind = 4) (hva : 0 ≤ v.a ∧ v.a < 4294967296) (hcv : 0 ≤ cv.a ∧ cv.a < 4294967296) :
    Calls Try.prog 26 #[.slice (some ⟨g, off, none⟩) L.length c, .agg #[.int .i64 ck, .int .i64 ((i : Nat) : Int), .int .u32 cv.a, .int .u32 cv.b, .int .u32 cv.c, .int .u32 cv.d, .int .u32 cn]] w fun e W' => ∃ s' L', e = .returned (.tuple #[s', resA 0 ⟨v.a, 0, 0, 0⟩]) ∧ ItemsR W' s' L' ∧ itms L' = (itms L).set i ⟨o, row, ⟨orP v.a cv.a, v.b, v.c, v.d⟩⟩ ∧ Below w.heap.size w W' := by
  have hpl := fun W => plain2B_calls ck W hck
  rw [hK] at hpl
  have HRt := fun W => right2_calls o W
  rw [hrt] at HRt
  have hor := fun W => or_calls v.a.toNat cv.a.toNat (by omega) (by omega) W
  rw [orP_eq hva hcv] at hor
  simp only [Int.toNat_of_nonneg hva.1, Int.toNat_of_nonneg hcv.1] at hor
  let kv1 : Value := .agg #[.int .i64 ck, .int .i64 ((i : Nat) : Int), .int .u32 cv.a, .int .u32 cv.b, .int .u32 cv.c, .int .u32 cv.d, .int .u32 cn]
  refine enterF Try.func26 rfl Try.ntmps26 [(0, .slice (some ⟨g, off, none⟩) L.length c), (1, kv1)] (by kernel_rfl) (by kernel_rfl) ?_
  have hR := Rep.start w
  obtain ⟨H0, hH0⟩ : ∃ x, x = w.heap.size := ⟨_, rfl⟩
  rw [← hH0] at hR
  intro a hE
  refine wp_seq ?_
  refine enterR (idx := [0, 1, 2]) (by kernel_rfl) ?_
  let kc2 : List Value := [.int .i64 0, .int .u32 0, .int .u32 0, .int .u32 0, .int .u32 0]
  let kc3 : List Value := [.int .i64 ck, .int .i64 ((i : Nat) : Int), .int .u32 cv.a, .int .u32 cv.b, .int .u32 cv.c, .int .u32 cv.d, .int .u32 cn]
  refine segU hE hR [(0, .op []), (1, .op []), (2, .op [])] [] [(3, .pointer (some ⟨H0, 0, none⟩)), (4, .slice none 0 0), (5, .pointer (some ⟨H0 + 1, 0, none⟩))] [⟨H0 + 1, 0, kc2, 63, true⟩, ⟨H0, 0, kc3, 60, true⟩] (H0 + 2) [] (by kernel_rfl) (by kernel_rfl) (by kernel_rfl) trivial ?_
  clear hE hR; intro a u hE hR
  refine opsNil ?_; refine thenN ?_; refine wp_seq ?_
  refine enterR (idx := [0, 1, 2, 3]) (by kernel_rfl) ?_
  refine segV hE hR [(0, .op []), (1, .op [.k 1 0])] [2, 3] [(13, .int .i64 ck)] [] (by kernel_rfl) (by kernel_rfl) (by kernel_rfl) trivial ?_
  clear hE hR; intro a u hE hR
  refine opsCons ?_
  refine call hE hR [] 51 #[.int .i64 ck] (some 14) [] (by kernel_rfl) (by kernel_rfl) trivial (hpl _) (fun _ _ h => by cases h.1) (fun _ h => by cases h.1) ?_
  clear hE
  rintro v u ⟨hv, hb⟩ a hE
  cases hv
  obtain ⟨H1, hH1, hR⟩ := hR.callE hb
  refine segV hE hR [(3, .op [])] [] [(6, .int .i64 7)] [] (by kernel_rfl) (by kernel_rfl) (by kernel_rfl) trivial ?_
  clear hE hR; intro a u hE hR
  refine opsNil ?_; refine thenN ?_; refine wp_seq ?_; refine wp_seq ?_
  refine enterR (idx := [0, 1, 2, 3, 4, 5, 6, 7, 8, 9, 10, 11, 12, 13, 14]) (by kernel_rfl) ?_
  refine segV hE hR [(0, .op []), (1, .op []), (2, .op []), (3, .op []), (4, .op []), (5, .op []), (6, .op []), (7, .skip), (8, .skip), (9, .op []), (10, .op []), (11, .skip), (12, .skip), (13, .op []), (14, .op [])] [] [(29, .bool false)] [true = !false, true = !false, true = !false, true = !false, true = true, true = true] (by kernel_rfl) (by kernel_rfl) (by kernel_rfl) ⟨rfl, rfl, rfl, rfl, rfl, rfl, trivial⟩ ?_
  clear hE hR; intro a u hE hR
  refine opsNil ?_; refine thenN ?_
  refine condF hE (b := false) (by kernel_rfl) rfl ?_
  refine wp_skip ?_; refine thenN ?_; refine wp_seq ?_; refine wp_seq ?_
  refine enterR (idx := [0, 1, 2, 3, 4, 5, 6, 7, 8, 9]) (by kernel_rfl) ?_
  refine segV hE hR [(0, .op []), (1, .op [.k 1 1]), (2, .as [] (.bool false)), (3, .op []), (4, .op []), (5, .op [.k 1 1]), (6, .op []), (7, .op []), (8, .as [] (.bool false)), (9, .op [])] [] [(41, .bool false)] [(.bool (decide (((i : Nat) : Int) ≥ ((L.length : Nat) : Int))) : Value) = (.bool false : Value), false = false, false = false, false = false, false = false, false = false, (.bool (decide (((i : Nat) : Int) < 0)) : Value) = (.bool false : Value)] (by kernel_rfl) (by kernel_rfl) (by kernel_rfl) ⟨congrArg Value.bool (decide_eq_false (by omega)), rfl, rfl, rfl, rfl, rfl, congrArg Value.bool (decide_eq_false (by omega)), trivial⟩ ?_
  clear hE hR; intro a u hE hR
  refine opsNil ?_; refine thenN ?_
  refine condF hE (b := false) (by kernel_rfl) rfl ?_
  refine wp_skip ?_; refine thenN ?_; refine wp_seq ?_
  refine enterR (idx := [0, 1, 2]) (by kernel_rfl) ?_
  refine segV hE hR [(0, .op [])] [1, 2] [(44, .slice (some ⟨g, off, none⟩) L.length c)] [] (by kernel_rfl) (by kernel_rfl) (by kernel_rfl) trivial ?_
  clear hE hR; intro a u hE hR
  refine opsCons ?_
  refine call hE hR [] 52 #[.slice (some ⟨g, off, none⟩) L.length c] (some 45) [] (by kernel_rfl) (by kernel_rfl) trivial (HC _ (hR.below (by simp))) (by rintro _ _ ⟨_, _, _, _, _, _, _, _, _, _, h, _⟩; cases h) (by rintro _ ⟨_, _, _, _, _, _, _, _, _, _, h, _⟩; cases h) ?_
  clear hE
  rintro v u ⟨g2, cap2, pr, po, gr, cr, rest, rs, ob, L2, hv, hcf, Hc, hRc⟩ a hE
  cases hv
  let kc4 : List Value := [.int .i64 o.kind, .int .i64 o.cap, .int .i64 o.width, .int .i64 o.retry, .int .i64 o.src, .int .i64 o.dst, .int .u32 o.i0, .int .u32 o.i1, .int .u32 o.i2, .int .u32 o.i3, .slice (some ⟨gr, 0, none⟩) row.length cr, .int .u32 v.a, .int .u32 v.b, .int .u32 v.c, .int .u32 v.d]
  replace hR : Rep [(w, fun _ => True)] u Hc (⟨H0 + 1, 0, kc2, 63, true⟩ :: ⟨H0, 0, kc3, 60, true⟩ :: ⟨g2, 0 + i * 15, kc4, 118, false⟩ :: ⟨g2, 0, pr, 118, false⟩ :: ⟨g2, 0 + i * 15 + 15, po, 118, false⟩ :: (rs ++ ob)) [] := hR.join hRc
  refine segV hE hR [(2, .op [])] [] [(7, .slice (some ⟨g2, 0, none⟩) L.length cap2)] [] (by kernel_rfl) (by kernel_rfl) (by kernel_rfl) trivial ?_
  clear hE hR; intro a u hE hR
  refine opsNil ?_; refine thenN ?_; refine wp_seq ?_
  refine enterR (idx := [0, 1, 2, 3, 4]) (by kernel_rfl) ?_
  refine seg0 hE hR [(0, .op []), (1, .op []), (2, .op [.k 1 1]), (3, .alt (.pointer (some ⟨g2, 0 + i * 15, none⟩))), (4, .op [])] [] [(0, .slice (some ⟨g, off, none⟩) L.length c), (3, .pointer (some ⟨H0, 0, none⟩)), (4, .slice none 0 0), (5, .pointer (some ⟨H0 + 1, 0, none⟩)), (6, .int .i64 7), (29, .bool false), (41, .bool false), (7, .slice (some ⟨g2, 0, none⟩) L.length cap2), (8, .pointer (some ⟨g2, 0 + i * 15, none⟩))] [(0 ≤ (((i : Nat) : Int) : Int) ∧ (((i : Nat) : Int) : Int) < ((L.length : Nat) : Int)) ∧ (Try.prog.info? 118).isSome = true, (.pointer (some ⟨g2, 0 + (((i : Nat) : Int)).toNat * Try.prog.cellsOf 118, none⟩) : Value) = (.pointer (some ⟨g2, 0 + i * 15, none⟩) : Value)] (by kernel_rfl) (by kernel_rfl) (by kernel_rfl) ⟨⟨⟨by omega, by omega⟩, by kernel_rfl⟩, by kernel_rfl, trivial⟩ ?_
  clear hE hR; intro a u hE hR
  refine opsNil ?_; refine thenN ?_; refine wp_seq ?_
  refine enterR (idx := [0]) (by kernel_rfl) ?_
  refine segV hE hR [(0, .op [])] [] [(9, .int .i64 0)] [] (by kernel_rfl) (by kernel_rfl) (by kernel_rfl) trivial ?_
  clear hE hR; intro a u hE hR
  refine opsNil ?_; refine thenN ?_; refine wp_seq ?_; refine wp_seq ?_
  refine enterR (idx := [0, 1, 2, 3, 4]) (by kernel_rfl) ?_
  let kv5 : Value := .agg #[.int .i64 o.kind, .int .i64 o.cap, .int .i64 o.width, .int .i64 o.retry, .int .i64 o.src, .int .i64 o.dst, .int .u32 o.i0, .int .u32 o.i1, .int .u32 o.i2, .int .u32 o.i3]
  refine segV hE hR [(0, .op []), (1, .op []), (2, .op []), (3, .op (hks 2 0 10))] [4] [(53, kv5)] [] (by kernel_rfl) (by kernel_rfl) (by kernel_rfl) trivial ?_
  clear hE hR; intro a u hE hR
  refine opsCons ?_
  refine call hE hR [] 47 #[kv5] (some 54) [] (by kernel_rfl) (by kernel_rfl) trivial (HRt _) (fun _ _ h => by cases h.1) (fun _ h => by cases h.1) ?_
  clear hE
  rintro v u ⟨hv, hb⟩ a hE
  cases hv
  obtain ⟨H2, hH2, hR⟩ := hR.callE hb
  refine opsNil ?_; refine thenN ?_
  refine condT hE (b := true) (by kernel_rfl) rfl ?_
  refine enterR (idx := [0, 1, 2, 3, 4, 5]) (by kernel_rfl) ?_
  refine segV hE hR [(0, .op []), (1, .op []), (2, .op []), (3, .op []), (4, .op [.k 2 0]), (5, .op [])] [] [(9, .int .i64 o.kind)] [] (by kernel_rfl) (by kernel_rfl) (by kernel_rfl) trivial ?_
  clear hE hR; intro a u hE hR
  refine opsNil ?_; refine thenN ?_; refine wp_seq ?_
  refine enterR (idx := [0, 1, 2, 3, 4, 5]) (by kernel_rfl) ?_
  refine segV hE hR [(0, .op []), (1, .op []), (2, .op []), (3, .op []), (4, .op [.k 2 11]), (5, .op [])] [] [(10, .int .u32 v.a)] [] (by kernel_rfl) (by kernel_rfl) (by kernel_rfl) trivial ?_
  clear hE hR; intro a u hE hR
  refine opsNil ?_; refine thenN ?_; refine wp_seq ?_; refine wp_block ?_; refine wp_seq ?_
  refine enterR (idx := [0, 1, 2, 3, 4, 5, 6]) (by kernel_rfl) ?_
  refine segV hE hR [(0, .op []), (1, .op []), (2, .op []), (3, .skip), (4, .skip), (5, .op []), (6, .op [])] [] [(65, .bool false)] [false = !true, false = !true] (by kernel_rfl) (by kernel_rfl) (by kernel_rfl) ⟨rfl, rfl, trivial⟩ ?_
  clear hE hR; intro a u hE hR
  refine opsNil ?_; refine thenN ?_
  refine condF hE (b := false) (by kernel_rfl) rfl ?_
  refine wp_seq ?_
  refine enterR (idx := [0, 1, 2, 3, 4, 5, 6]) (by kernel_rfl) ?_
  refine segV hE hR [(0, .op []), (1, .op []), (2, .op []), (3, .skip), (4, .skip), (5, .op []), (6, .op [])] [] [(104, .bool false)] [false = !true, false = !true] (by kernel_rfl) (by kernel_rfl) (by kernel_rfl) ⟨rfl, rfl, trivial⟩ ?_
  clear hE hR; intro a u hE hR
  refine opsNil ?_; refine thenN ?_
  refine condF hE (b := false) (by kernel_rfl) rfl ?_
  refine wp_seq ?_
  refine enterR (idx := [0, 1, 2, 3, 4, 5, 6, 7, 8, 9, 10]) (by kernel_rfl) ?_
  refine segV hE hR [(0, .op []), (1, .op []), (2, .op []), (3, .skip), (4, .skip), (5, .skip), (6, .skip), (7, .skip), (8, .skip), (9, .op []), (10, .op [])] [] [(136, .bool false)] [false = !true, false = !true, false = !true, false = !true] (by kernel_rfl) (by kernel_rfl) (by kernel_rfl) ⟨rfl, rfl, rfl, rfl, trivial⟩ ?_
  clear hE hR; intro a u hE hR
  refine opsNil ?_; refine thenN ?_
  refine condF hE (b := false) (by kernel_rfl) rfl ?_
  refine wp_seq ?_
  refine enterR (idx := [0, 1, 2, 3, 4, 5, 6, 7, 8, 9, 10, 11, 12, 13, 14, 15, 16, 17, 18]) (by kernel_rfl) ?_
  refine seg0 hE hR [(0, .op []), (1, .op []), (2, .op []), (3, .skip), (4, .skip), (5, .op []), (6, .op []), (7, .op []), (8, .op []), (9, .op []), (10, .op []), (11, .op []), (12, .op []), (13, .op []), (14, .skip), (15, .skip), (16, .op []), (17, .op []), (18, .op [])] [] [(0, .slice (some ⟨g, off, none⟩) L.length c), (3, .pointer (some ⟨H0, 0, none⟩)), (4, .slice none 0 0), (5, .pointer (some ⟨H0 + 1, 0, none⟩)), (6, .int .i64 7), (29, .bool false), (41, .bool false), (7, .slice (some ⟨g2, 0, none⟩) L.length cap2), (8, .pointer (some ⟨g2, 0 + i * 15, none⟩)), (9, .int .i64 o.kind), (53, kv5), (54, .bool true), (10, .int .u32 v.a), (65, .bool false), (104, .bool false), (136, .bool false), (160, .bool false)] [false = false, false = !true, false = !true, false = false, false = false, false = false, false = false, false = false, false = false, false = false, false = !true, false = !true] (by kernel_rfl) (by kernel_rfl) (by kernel_rfl) ⟨rfl, rfl, rfl, rfl, rfl, rfl, rfl, rfl, rfl, rfl, rfl, rfl, trivial⟩ ?_
  clear hE hR; intro a u hE hR
  refine opsNil ?_; refine thenN ?_
  refine condF hE (b := false) (by kernel_rfl) rfl ?_
  refine wp_seq ?_
  refine enterR (idx := [0, 1, 2, 3, 4, 5, 6]) (by kernel_rfl) ?_
  refine segV hE hR [(0, .op []), (1, .op []), (2, .op []), (3, .op []), (4, .as [] (.bool true)), (5, .op []), (6, .op [])] [] [(185, .bool true)] [(.bool ((o.kind : Int) == 4) : Value) = (.bool true : Value), true = true, true = true] (by kernel_rfl) (by kernel_rfl) (by kernel_rfl) ⟨congrArg Value.bool (beq_iff_eq.2 (by omega)), rfl, rfl, trivial⟩ ?_
  clear hE hR; intro a u hE hR
  refine opsNil ?_; refine thenN ?_
  refine condT hE (b := true) (by kernel_rfl) rfl ?_
  refine wp_seq ?_
  refine enterD (kl := [⟨H0 + 1, 0, kc2, 63, true⟩, ⟨H0, 0, kc3, 60, true⟩, ⟨g2, 0, pr, 118, false⟩, ⟨g2, 0 + i * 15 + 15, po, 118, false⟩]) (by kernel_rfl) hR (F := 10) (listed := #[false, false, false, false, false, false, false, false, false, false]) (by kernel_rfl) (by kernel_rfl) ?_
  clear hR
  intro u hR
  refine takesU (by kernel_rfl) (pqT (pqB (pqT pqF))) hE (hR.ss [0, 1, 3, 4] (by kernel_rfl)) [(0, .op []), (1, .op []), (2, .op []), (3, .op []), (4, .op [.k 1 2]), (6, .op []), (7, .op [])] 3 [(193, .int .u32 v.a), (196, .int .u32 cv.a), (199, .pointer (some ⟨g2, 0 + i * 15 + 11, none⟩))] #[true, true, true, true, true, false, true, true, false, false] [] (by kernel_rfl) (by kernel_rfl) (by kernel_rfl) trivial ?_
  clear hE; intro a hE
  refine wpAnyH_all (rs := [5]) (by kernel_rfl) (by simp) (allCons ?_ allNil)
  refine call hE hR [] 53 #[.int .u32 v.a, .int .u32 cv.a] (some 197) [] (by kernel_rfl) (by kernel_rfl) trivial (hor _) (fun _ _ h => by cases h.1) (fun _ h => by cases h.1) ?_
  clear hE
  rintro v u ⟨hv, hb⟩ a hE
  cases hv
  obtain ⟨H3, hH3, hR⟩ := hR.callE hb
  refine ⟨(hR.ss [0, 1, 3, 4] (by kernel_rfl)), ?_⟩
  show wpAnyH _ _ _ _ _ _ #[true, true, true, true, true, true, true, true, false, false] _ _
  refine takesU (by kernel_rfl) (pqT (pqB (pqT pqF))) hE (hR.ss [0, 1, 3, 4] (by kernel_rfl)) [(8, .op [])] 1 [(200, .pointer (some ⟨g2, 0 + i * 15 + 11, none⟩))] #[true, true, true, true, true, true, true, true, true, false] [] (by kernel_rfl) (by kernel_rfl) (by kernel_rfl) trivial ?_
  clear hE; intro a hE
  refine wpAnyH_all (rs := [9]) (by kernel_rfl) (by simp) (allCons ?_ allNil)
  let kc6 : List Value := [.int .i64 o.kind, .int .i64 o.cap, .int .i64 o.width, .int .i64 o.retry, .int .i64 o.src, .int .i64 o.dst, .int .u32 o.i0, .int .u32 o.i1, .int .u32 o.i2, .int .u32 o.i3, .slice (some ⟨gr, 0, none⟩) row.length cr, .int .u32 (orP v.a cv.a), .int .u32 v.b, .int .u32 v.c, .int .u32 v.d]
  refine oneU hE hR (.op [.k 2 11]) [] (⟨H0 + 1, 0, kc2, 63, true⟩ :: ⟨H0, 0, kc3, 60, true⟩ :: ⟨g2, 0 + i * 15, kc6, 118, false⟩ :: ⟨g2, 0, pr, 118, false⟩ :: ⟨g2, 0 + i * 15 + 15, po, 118, false⟩ :: (rs ++ ob)) (H3) [] (by kernel_rfl) (by kernel_rfl) trivial ?_
  clear hE hR; intro a u hE hR
  refine ⟨(hR.ss [0, 1, 3, 4] (by kernel_rfl)), ?_⟩
  show wpAnyH _ _ _ _ _ _ #[true, true, true, true, true, true, true, true, true, true] _ _
  refine wpAnyH_done (by kernel_rfl) ?_ _
  refine thenN ?_; refine wp_seq ?_
  refine enterR (idx := [0, 1, 2, 3, 4, 5]) (by kernel_rfl) ?_
  let kc7 : List Value := [.int .i64 0, .int .u32 v.a, .int .u32 0, .int .u32 0, .int .u32 0]
  refine segU hE hR [(0, .op []), (1, .op []), (2, .op []), (3, .op []), (4, .op []), (5, .op (hks 0 0 5))] [] [(4, .slice (some ⟨g2, 0, none⟩) L.length cap2)] (⟨H0 + 1, 0, kc7, 63, true⟩ :: ⟨H0, 0, kc3, 60, true⟩ :: ⟨g2, 0 + i * 15, kc6, 118, false⟩ :: ⟨g2, 0, pr, 118, false⟩ :: ⟨g2, 0 + i * 15 + 15, po, 118, false⟩ :: (rs ++ ob)) (H3) [] (by kernel_rfl) (by kernel_rfl) (by kernel_rfl) trivial ?_
  clear hE hR; intro a u hE hR
  refine opsNil ?_; refine thenN ?_; refine wp_ret ?_; refine blkR ?_; refine thenR ?_
  refine retF hE hR (hks 0 0 5) (.tuple #[.slice (some ⟨g2, 0, none⟩) L.length cap2, .agg #[.int .i64 0, .int .u32 v.a, .int .u32 0, .int .u32 0, .int .u32 0]]) (by kernel_rfl) (by kernel_rfl) (by kernel_rfl) ?_
  obtain ⟨L3, h3a, h3b⟩ := hcf.made hi (⟨o, row, ⟨orP v.a cv.a, v.b, v.c, v.d⟩⟩) (.slice (some ⟨gr, 0, none⟩) row.length cr) (by have h9 := hR.rangeK 2 rfl; exact h9) (by have h9 := hR.rangeK 3 rfl; exact h9) (by have h9 := hR.rangeK 4 rfl; exact h9) (fun e he => hR.rangeM (by simp [he])) (hcf.rowV (fun e he => hR.rangeM (by simp [he])))
  exact ⟨_, L3, rfl, h3a, h3b, hR.below (by simp)⟩
set_option maxRecDepth 100000 in
theorem ref_clear (g off c : Nat) (L : List IV) (o : Ob) (row : List Vl) (v : Vl) (ck : Int) (i : Nat) (cv : Vl) (cn : Int) (w : World) (hck : -9223372036854775808 ≤ ck ∧ ck ≤ 9223372036854775807) (hK : plainP ck = 8) (hi : i < L.length) (_ : L.length ≤ 8) (HC : ∀ W, Below w.heap.size w W → Calls Try.prog 52 #[.slice (some ⟨g, off, none⟩) L.length c] W (CopyAt L i ⟨o, row, v⟩ W)) (hrt : rightP o = true) (hkk : o.kind = 4) (hva : 0 ≤ v.a ∧ v.a < 4294967296) (hcv : 0 ≤ cv.a ∧ cv.a < 4294967296) :
    Calls Try.prog 26 #[.slice (some ⟨g, off, none⟩) L.length c, .agg #[.int .i64 ck, .int .i64 ((i : Nat) : Int), .int .u32 cv.a, .int .u32 cv.b, .int .u32 cv.c, .int .u32 cv.d, .int .u32 cn]] w fun e W' => ∃ s' L', e = .returned (.tuple #[s', resA 0 ⟨v.a, 0, 0, 0⟩]) ∧ ItemsR W' s' L' ∧ itms L' = (itms L).set i ⟨o, row, ⟨andNotP v.a cv.a, v.b, v.c, v.d⟩⟩ ∧ Below w.heap.size w W' := by
  have hpl := fun W => plain2B_calls ck W hck
  rw [hK] at hpl
  have HRt := fun W => right2_calls o W
  rw [hrt] at HRt
  have hand := fun W => and_calls v.a.toNat (4294967295 - cv.a).toNat (by omega) (by omega) W
  rw [andNotP_eq hva hcv] at hand
  simp only [Int.toNat_of_nonneg hva.1, Int.toNat_of_nonneg (show 0 ≤ 4294967295 - cv.a by omega)] at hand
  let kv1 : Value := .agg #[.int .i64 ck, .int .i64 ((i : Nat) : Int), .int .u32 cv.a, .int .u32 cv.b, .int .u32 cv.c, .int .u32 cv.d, .int .u32 cn]
  refine enterF Try.func26 rfl Try.ntmps26 [(0, .slice (some ⟨g, off, none⟩) L.length c), (1, kv1)] (by kernel_rfl) (by kernel_rfl) ?_
  have hR := Rep.start w
  obtain ⟨H0, hH0⟩ : ∃ x, x = w.heap.size := ⟨_, rfl⟩
  rw [← hH0] at hR
  intro a hE
  refine wp_seq ?_
  refine enterR (idx := [0, 1, 2]) (by kernel_rfl) ?_
  let kc2 : List Value := [.int .i64 0, .int .u32 0, .int .u32 0, .int .u32 0, .int .u32 0]
  let kc3 : List Value := [.int .i64 ck, .int .i64 ((i : Nat) : Int), .int .u32 cv.a, .int .u32 cv.b, .int .u32 cv.c, .int .u32 cv.d, .int .u32 cn]
  refine segU hE hR [(0, .op []), (1, .op []), (2, .op [])] [] [(3, .pointer (some ⟨H0, 0, none⟩)), (4, .slice none 0 0), (5, .pointer (some ⟨H0 + 1, 0, none⟩))] [⟨H0 + 1, 0, kc2, 63, true⟩, ⟨H0, 0, kc3, 60, true⟩] (H0 + 2) [] (by kernel_rfl) (by kernel_rfl) (by kernel_rfl) trivial ?_
  clear hE hR; intro a u hE hR
  refine opsNil ?_; refine thenN ?_; refine wp_seq ?_
  refine enterR (idx := [0, 1, 2, 3]) (by kernel_rfl) ?_
  refine segV hE hR [(0, .op []), (1, .op [.k 1 0])] [2, 3] [(13, .int .i64 ck)] [] (by kernel_rfl) (by kernel_rfl) (by kernel_rfl) trivial ?_
  clear hE hR; intro a u hE hR
  refine opsCons ?_
  refine call hE hR [] 51 #[.int .i64 ck] (some 14) [] (by kernel_rfl) (by kernel_rfl) trivial (hpl _) (fun _ _ h => by cases h.1) (fun _ h => by cases h.1) ?_
  clear hE
  rintro v u ⟨hv, hb⟩ a hE
  cases hv
  obtain ⟨H1, hH1, hR⟩ := hR.callE hb
  refine segV hE hR [(3, .op [])] [] [(6, .int .i64 8)] [] (by kernel_rfl) (by kernel_rfl) (by kernel_rfl) trivial ?_
  clear hE hR; intro a u hE hR
  refine opsNil ?_; refine thenN ?_; refine wp_seq ?_; refine wp_seq ?_
  refine enterR (idx := [0, 1, 2, 3, 4, 5, 6, 7, 8, 9, 10, 11, 12, 13, 14]) (by kernel_rfl) ?_
  refine segV hE hR [(0, .op []), (1, .op []), (2, .op []), (3, .op []), (4, .op []), (5, .op []), (6, .op []), (7, .skip), (8, .skip), (9, .op []), (10, .op []), (11, .skip), (12, .skip), (13, .op []), (14, .op [])] [] [(29, .bool false)] [true = !false, true = !false, true = !false, true = !false, true = true, true = true] (by kernel_rfl) (by kernel_rfl) (by kernel_rfl) ⟨rfl, rfl, rfl, rfl, rfl, rfl, trivial⟩ ?_
  clear hE hR; intro a u hE hR
  refine opsNil ?_; refine thenN ?_
  refine condF hE (b := false) (by kernel_rfl) rfl ?_
  refine wp_skip ?_; refine thenN ?_; refine wp_seq ?_; refine wp_seq ?_
  refine enterR (idx := [0, 1, 2, 3, 4, 5, 6, 7, 8, 9]) (by kernel_rfl) ?_
  refine segV hE hR [(0, .op []), (1, .op [.k 1 1]), (2, .as [] (.bool false)), (3, .op []), (4, .op []), (5, .op [.k 1 1]), (6, .op []), (7, .op []), (8, .as [] (.bool false)), (9, .op [])] [] [(41, .bool false)] [(.bool (decide (((i : Nat) : Int) ≥ ((L.length : Nat) : Int))) : Value) = (.bool false : Value), false = false, false = false, false = false, false = false, false = false, (.bool (decide (((i : Nat) : Int) < 0)) : Value) = (.bool false : Value)] (by kernel_rfl) (by kernel_rfl) (by kernel_rfl) ⟨congrArg Value.bool (decide_eq_false (by omega)), rfl, rfl, rfl, rfl, rfl, congrArg Value.bool (decide_eq_false (by omega)), trivial⟩ ?_
  clear hE hR; intro a u hE hR
  refine opsNil ?_; refine thenN ?_
  refine condF hE (b := false) (by kernel_rfl) rfl ?_
  refine wp_skip ?_; refine thenN ?_; refine wp_seq ?_
  refine enterR (idx := [0, 1, 2]) (by kernel_rfl) ?_
  refine segV hE hR [(0, .op [])] [1, 2] [(44, .slice (some ⟨g, off, none⟩) L.length c)] [] (by kernel_rfl) (by kernel_rfl) (by kernel_rfl) trivial ?_
  clear hE hR; intro a u hE hR
  refine opsCons ?_
  refine call hE hR [] 52 #[.slice (some ⟨g, off, none⟩) L.length c] (some 45) [] (by kernel_rfl) (by kernel_rfl) trivial (HC _ (hR.below (by simp))) (by rintro _ _ ⟨_, _, _, _, _, _, _, _, _, _, h, _⟩; cases h) (by rintro _ ⟨_, _, _, _, _, _, _, _, _, _, h, _⟩; cases h) ?_
  clear hE
  rintro v u ⟨g2, cap2, pr, po, gr, cr, rest, rs, ob, L2, hv, hcf, Hc, hRc⟩ a hE
  cases hv
  let kc4 : List Value := [.int .i64 o.kind, .int .i64 o.cap, .int .i64 o.width, .int .i64 o.retry, .int .i64 o.src, .int .i64 o.dst, .int .u32 o.i0, .int .u32 o.i1, .int .u32 o.i2, .int .u32 o.i3, .slice (some ⟨gr, 0, none⟩) row.length cr, .int .u32 v.a, .int .u32 v.b, .int .u32 v.c, .int .u32 v.d]
  replace hR : Rep [(w, fun _ => True)] u Hc (⟨H0 + 1, 0, kc2, 63, true⟩ :: ⟨H0, 0, kc3, 60, true⟩ :: ⟨g2, 0 + i * 15, kc4, 118, false⟩ :: ⟨g2, 0, pr, 118, false⟩ :: ⟨g2, 0 + i * 15 + 15, po, 118, false⟩ :: (rs ++ ob)) [] := hR.join hRc
  refine segV hE hR [(2, .op [])] [] [(7, .slice (some ⟨g2, 0, none⟩) L.length cap2)] [] (by kernel_rfl) (by kernel_rfl) (by kernel_rfl) trivial ?_
  clear hE hR; intro a u hE hR
  refine opsNil ?_; refine thenN ?_; refine wp_seq ?_
  refine enterR (idx := [0, 1, 2, 3, 4]) (by kernel_rfl) ?_
  refine seg0 hE hR [(0, .op []), (1, .op []), (2, .op [.k 1 1]), (3, .alt (.pointer (some ⟨g2, 0 + i * 15, none⟩))), (4, .op [])] [] [(0, .slice (some ⟨g, off, none⟩) L.length c), (3, .pointer (some ⟨H0, 0, none⟩)), (4, .slice none 0 0), (5, .pointer (some ⟨H0 + 1, 0, none⟩)), (6, .int .i64 8), (29, .bool false), (41, .bool false), (7, .slice (some ⟨g2, 0, none⟩) L.length cap2), (8, .pointer (some ⟨g2, 0 + i * 15, none⟩))] [(0 ≤ (((i : Nat) : Int) : Int) ∧ (((i : Nat) : Int) : Int) < ((L.length : Nat) : Int)) ∧ (Try.prog.info? 118).isSome = true, (.pointer (some ⟨g2, 0 + (((i : Nat) : Int)).toNat * Try.prog.cellsOf 118, none⟩) : Value) = (.pointer (some ⟨g2, 0 + i * 15, none⟩) : Value)] (by kernel_rfl) (by kernel_rfl) (by kernel_rfl) ⟨⟨⟨by omega, by omega⟩, by kernel_rfl⟩, by kernel_rfl, trivial⟩ ?_
  clear hE hR; intro a u hE hR
  refine opsNil ?_; refine thenN ?_; refine wp_seq ?_
  refine enterR (idx := [0]) (by kernel_rfl) ?_
  refine segV hE hR [(0, .op [])] [] [(9, .int .i64 0)] [] (by kernel_rfl) (by kernel_rfl) (by kernel_rfl) trivial ?_
  clear hE hR; intro a u hE hR
  refine opsNil ?_; refine thenN ?_; refine wp_seq ?_; refine wp_seq ?_
  refine enterR (idx := [0, 1, 2, 3, 4]) (by kernel_rfl) ?_
  let kv5 : Value := .agg #[.int .i64 o.kind, .int .i64 o.cap, .int .i64 o.width, .int .i64 o.retry, .int .i64 o.src, .int .i64 o.dst, .int .u32 o.i0, .int .u32 o.i1, .int .u32 o.i2, .int .u32 o.i3]
  refine segV hE hR [(0, .op []), (1, .op []), (2, .op []), (3, .op (hks 2 0 10))] [4] [(53, kv5)] [] (by kernel_rfl) (by kernel_rfl) (by kernel_rfl) trivial ?_
  clear hE hR; intro a u hE hR
  refine opsCons ?_
  refine call hE hR [] 47 #[kv5] (some 54) [] (by kernel_rfl) (by kernel_rfl) trivial (HRt _) (fun _ _ h => by cases h.1) (fun _ h => by cases h.1) ?_
  clear hE
  rintro v u ⟨hv, hb⟩ a hE
  cases hv
  obtain ⟨H2, hH2, hR⟩ := hR.callE hb
  refine opsNil ?_; refine thenN ?_
  refine condT hE (b := true) (by kernel_rfl) rfl ?_
  refine enterR (idx := [0, 1, 2, 3, 4, 5]) (by kernel_rfl) ?_
  refine segV hE hR [(0, .op []), (1, .op []), (2, .op []), (3, .op []), (4, .op [.k 2 0]), (5, .op [])] [] [(9, .int .i64 o.kind)] [] (by kernel_rfl) (by kernel_rfl) (by kernel_rfl) trivial ?_
  clear hE hR; intro a u hE hR
  refine opsNil ?_; refine thenN ?_; refine wp_seq ?_
  refine enterR (idx := [0, 1, 2, 3, 4, 5]) (by kernel_rfl) ?_
  refine segV hE hR [(0, .op []), (1, .op []), (2, .op []), (3, .op []), (4, .op [.k 2 11]), (5, .op [])] [] [(10, .int .u32 v.a)] [] (by kernel_rfl) (by kernel_rfl) (by kernel_rfl) trivial ?_
  clear hE hR; intro a u hE hR
  refine opsNil ?_; refine thenN ?_; refine wp_seq ?_; refine wp_block ?_; refine wp_seq ?_
  refine enterR (idx := [0, 1, 2, 3, 4, 5, 6]) (by kernel_rfl) ?_
  refine segV hE hR [(0, .op []), (1, .op []), (2, .op []), (3, .skip), (4, .skip), (5, .op []), (6, .op [])] [] [(65, .bool false)] [false = !true, false = !true] (by kernel_rfl) (by kernel_rfl) (by kernel_rfl) ⟨rfl, rfl, trivial⟩ ?_
  clear hE hR; intro a u hE hR
  refine opsNil ?_; refine thenN ?_
  refine condF hE (b := false) (by kernel_rfl) rfl ?_
  refine wp_seq ?_
  refine enterR (idx := [0, 1, 2, 3, 4, 5, 6]) (by kernel_rfl) ?_
  refine segV hE hR [(0, .op []), (1, .op []), (2, .op []), (3, .skip), (4, .skip), (5, .op []), (6, .op [])] [] [(104, .bool false)] [false = !true, false = !true] (by kernel_rfl) (by kernel_rfl) (by kernel_rfl) ⟨rfl, rfl, trivial⟩ ?_
  clear hE hR; intro a u hE hR
  refine opsNil ?_; refine thenN ?_
  refine condF hE (b := false) (by kernel_rfl) rfl ?_
  refine wp_seq ?_
  refine enterR (idx := [0, 1, 2, 3, 4, 5, 6, 7, 8, 9, 10]) (by kernel_rfl) ?_
  refine segV hE hR [(0, .op []), (1, .op []), (2, .op []), (3, .skip), (4, .skip), (5, .skip), (6, .skip), (7, .skip), (8, .skip), (9, .op []), (10, .op [])] [] [(136, .bool false)] [false = !true, false = !true, false = !true, false = !true] (by kernel_rfl) (by kernel_rfl) (by kernel_rfl) ⟨rfl, rfl, rfl, rfl, trivial⟩ ?_
  clear hE hR; intro a u hE hR
  refine opsNil ?_; refine thenN ?_
  refine condF hE (b := false) (by kernel_rfl) rfl ?_
  refine wp_seq ?_
  refine enterR (idx := [0, 1, 2, 3, 4, 5, 6, 7, 8, 9, 10, 11, 12, 13, 14, 15, 16, 17, 18]) (by kernel_rfl) ?_
  refine seg0 hE hR [(0, .op []), (1, .op []), (2, .op []), (3, .skip), (4, .skip), (5, .op []), (6, .op []), (7, .op []), (8, .op []), (9, .op []), (10, .op []), (11, .op []), (12, .op []), (13, .op []), (14, .skip), (15, .skip), (16, .op []), (17, .op []), (18, .op [])] [] [(0, .slice (some ⟨g, off, none⟩) L.length c), (3, .pointer (some ⟨H0, 0, none⟩)), (4, .slice none 0 0), (5, .pointer (some ⟨H0 + 1, 0, none⟩)), (6, .int .i64 8), (29, .bool false), (41, .bool false), (7, .slice (some ⟨g2, 0, none⟩) L.length cap2), (8, .pointer (some ⟨g2, 0 + i * 15, none⟩)), (9, .int .i64 o.kind), (53, kv5), (54, .bool true), (10, .int .u32 v.a), (65, .bool false), (104, .bool false), (136, .bool false), (160, .bool false)] [false = false, false = !true, false = !true, false = false, false = false, false = false, false = false, false = false, false = false, false = false, false = !true, false = !true] (by kernel_rfl) (by kernel_rfl) (by kernel_rfl) ⟨rfl, rfl, rfl, rfl, rfl, rfl, rfl, rfl, rfl, rfl, rfl, rfl, trivial⟩ ?_
  clear hE hR; intro a u hE hR
  refine opsNil ?_; refine thenN ?_
  refine condF hE (b := false) (by kernel_rfl) rfl ?_
  refine wp_seq ?_
  refine enterR (idx := [0, 1, 2, 3, 4, 5, 6]) (by kernel_rfl) ?_
  refine segV hE hR [(0, .op []), (1, .op []), (2, .op []), (3, .skip), (4, .skip), (5, .op []), (6, .op [])] [] [(185, .bool false)] [false = !true, false = !true] (by kernel_rfl) (by kernel_rfl) (by kernel_rfl) ⟨rfl, rfl, trivial⟩ ?_
  clear hE hR; intro a u hE hR
  refine opsNil ?_; refine thenN ?_
  refine condF hE (b := false) (by kernel_rfl) rfl ?_
  refine wp_seq ?_
  refine enterR (idx := [0, 1, 2, 3, 4, 5, 6]) (by kernel_rfl) ?_
  refine segV hE hR [(0, .op []), (1, .op []), (2, .op []), (3, .op []), (4, .as [] (.bool true)), (5, .op []), (6, .op [])] [] [(205, .bool true)] [(.bool ((o.kind : Int) == 4) : Value) = (.bool true : Value), true = true, true = true] (by kernel_rfl) (by kernel_rfl) (by kernel_rfl) ⟨congrArg Value.bool (beq_iff_eq.2 (by omega)), rfl, rfl, trivial⟩ ?_
  clear hE hR; intro a u hE hR
  refine opsNil ?_; refine thenN ?_
  refine condT hE (b := true) (by kernel_rfl) rfl ?_
  refine wp_seq ?_
  refine enterD (kl := [⟨H0 + 1, 0, kc2, 63, true⟩, ⟨H0, 0, kc3, 60, true⟩, ⟨g2, 0, pr, 118, false⟩, ⟨g2, 0 + i * 15 + 15, po, 118, false⟩]) (by kernel_rfl) hR (F := 11) (listed := #[false, false, false, false, false, false, false, false, false, false, false]) (by kernel_rfl) (by kernel_rfl) ?_
  clear hR
  intro u hR
  refine takesU (by kernel_rfl) (pqT (pqB (pqT pqF))) hE (hR.ss [0, 1, 3, 4] (by kernel_rfl)) [(0, .op []), (1, .op []), (2, .op []), (3, .op []), (4, .op [.k 1 2]), (5, .as [] (.int .u32 (4294967295 - cv.a))), (7, .op []), (8, .op [])] 3 [(213, .int .u32 v.a), (217, .int .u32 (4294967295 - cv.a)), (220, .pointer (some ⟨g2, 0 + i * 15 + 11, none⟩))] #[true, true, true, true, true, true, false, true, true, false, false] [(.int .u32 (IntKind.u32.wrap (4294967295 - cv.a)) : Value) = (.int .u32 (4294967295 - cv.a) : Value)] (by kernel_rfl) (by kernel_rfl) (by kernel_rfl) ⟨congrArg (Value.int IntKind.u32) (wrap_u32 ⟨by omega, by omega⟩), trivial⟩ ?_
  clear hE; intro a hE
  refine wpAnyH_all (rs := [6]) (by kernel_rfl) (by simp) (allCons ?_ allNil)
  refine call hE hR [] 54 #[.int .u32 v.a, .int .u32 (4294967295 - cv.a)] (some 218) [] (by kernel_rfl) (by kernel_rfl) trivial (hand _) (fun _ _ h => by cases h.1) (fun _ h => by cases h.1) ?_
  clear hE
  rintro v u ⟨hv, hb⟩ a hE
  cases hv
  obtain ⟨H3, hH3, hR⟩ := hR.callE hb
  refine ⟨(hR.ss [0, 1, 3, 4] (by kernel_rfl)), ?_⟩
  show wpAnyH _ _ _ _ _ _ #[true, true, true, true, true, true, true, true, true, false, false] _ _
  refine takesU (by kernel_rfl) (pqT (pqB (pqT pqF))) hE (hR.ss [0, 1, 3, 4] (by kernel_rfl)) [(9, .op [])] 1 [(221, .pointer (some ⟨g2, 0 + i * 15 + 11, none⟩))] #[true, true, true, true, true, true, true, true, true, true, false] [] (by kernel_rfl) (by kernel_rfl) (by kernel_rfl) trivial ?_
  clear hE; intro a hE
  refine wpAnyH_all (rs := [10]) (by kernel_rfl) (by simp) (allCons ?_ allNil)
  let kc6 : List Value := [.int .i64 o.kind, .int .i64 o.cap, .int .i64 o.width, .int .i64 o.retry, .int .i64 o.src, .int .i64 o.dst, .int .u32 o.i0, .int .u32 o.i1, .int .u32 o.i2, .int .u32 o.i3, .slice (some ⟨gr, 0, none⟩) row.length cr, .int .u32 (andNotP v.a cv.a), .int .u32 v.b, .int .u32 v.c, .int .u32 v.d]
  refine oneU hE hR (.op [.k 2 11]) [] (⟨H0 + 1, 0, kc2, 63, true⟩ :: ⟨H0, 0, kc3, 60, true⟩ :: ⟨g2, 0 + i * 15, kc6, 118, false⟩ :: ⟨g2, 0, pr, 118, false⟩ :: ⟨g2, 0 + i * 15 + 15, po, 118, false⟩ :: (rs ++ ob)) (H3) [] (by kernel_rfl) (by kernel_rfl) trivial ?_
  clear hE hR; intro a u hE hR
  refine ⟨(hR.ss [0, 1, 3, 4] (by kernel_rfl)), ?_⟩
  show wpAnyH _ _ _ _ _ _ #[true, true, true, true, true, true, true, true, true, true, true] _ _
  refine wpAnyH_done (by kernel_rfl) ?_ _
  refine thenN ?_; refine wp_seq ?_
  refine enterR (idx := [0, 1, 2, 3, 4, 5]) (by kernel_rfl) ?_
  let kc7 : List Value := [.int .i64 0, .int .u32 v.a, .int .u32 0, .int .u32 0, .int .u32 0]
  refine segU hE hR [(0, .op []), (1, .op []), (2, .op []), (3, .op []), (4, .op []), (5, .op (hks 0 0 5))] [] [(4, .slice (some ⟨g2, 0, none⟩) L.length cap2)] (⟨H0 + 1, 0, kc7, 63, true⟩ :: ⟨H0, 0, kc3, 60, true⟩ :: ⟨g2, 0 + i * 15, kc6, 118, false⟩ :: ⟨g2, 0, pr, 118, false⟩ :: ⟨g2, 0 + i * 15 + 15, po, 118, false⟩ :: (rs ++ ob)) (H3) [] (by kernel_rfl) (by kernel_rfl) (by kernel_rfl) trivial ?_
  clear hE hR; intro a u hE hR
  refine opsNil ?_; refine thenN ?_; refine wp_ret ?_; refine blkR ?_; refine thenR ?_
  refine retF hE hR (hks 0 0 5) (.tuple #[.slice (some ⟨g2, 0, none⟩) L.length cap2, .agg #[.int .i64 0, .int .u32 v.a, .int .u32 0, .int .u32 0, .int .u32 0]]) (by kernel_rfl) (by kernel_rfl) (by kernel_rfl) ?_
  obtain ⟨L3, h3a, h3b⟩ := hcf.made hi (⟨o, row, ⟨andNotP v.a cv.a, v.b, v.c, v.d⟩⟩) (.slice (some ⟨gr, 0, none⟩) row.length cr) (by have h9 := hR.rangeK 2 rfl; exact h9) (by have h9 := hR.rangeK 3 rfl; exact h9) (by have h9 := hR.rangeK 4 rfl; exact h9) (fun e he => hR.rangeM (by simp [he])) (hcf.rowV (fun e he => hR.rangeM (by simp [he])))
  exact ⟨_, L3, rfl, h3a, h3b, hR.below (by simp)⟩
set_option maxRecDepth 100000 in
theorem ref_get (g off c : Nat) (L : List IV) (o : Ob) (row : List Vl) (v : Vl) (ck : Int) (i : Nat) (cv : Vl) (cn : Int) (w : World) (hck : -9223372036854775808 ≤ ck ∧ ck ≤ 9223372036854775807) (hK : plainP ck = 9) (hi : i < L.length) (_ : L.length ≤ 8) (HC : ∀ W, Below w.heap.size w W → Calls Try.prog 52 #[.slice (some ⟨g, off, none⟩) L.length c] W (CopyAt L i ⟨o, row, v⟩ W)) (hrt : rightP o = true) (hkk : o.kind = 4) :
    Calls Try.prog 26 #[.slice (some ⟨g, off, none⟩) L.length c, .agg #[.int .i64 ck, .int .i64 ((i : Nat) : Int), .int .u32 cv.a, .int .u32 cv.b, .int .u32 cv.c, .int .u32 cv.d, .int .u32 cn]] w fun e W' => e = .returned (.tuple #[.slice (some ⟨g, off, none⟩) L.length c, resA 0 ⟨v.a, 0, 0, 0⟩]) ∧ Below w.heap.size w W' := by
  have hpl := fun W => plain2B_calls ck W hck
  rw [hK] at hpl
  have HRt := fun W => right2_calls o W
  rw [hrt] at HRt
  let kv1 : Value := .agg #[.int .i64 ck, .int .i64 ((i : Nat) : Int), .int .u32 cv.a, .int .u32 cv.b, .int .u32 cv.c, .int .u32 cv.d, .int .u32 cn]
  refine enterF Try.func26 rfl Try.ntmps26 [(0, .slice (some ⟨g, off, none⟩) L.length c), (1, kv1)] (by kernel_rfl) (by kernel_rfl) ?_
  have hR := Rep.start w
  obtain ⟨H0, hH0⟩ : ∃ x, x = w.heap.size := ⟨_, rfl⟩
  rw [← hH0] at hR
  intro a hE
  refine wp_seq ?_
  refine enterR (idx := [0, 1, 2]) (by kernel_rfl) ?_
  let kc2 : List Value := [.int .i64 0, .int .u32 0, .int .u32 0, .int .u32 0, .int .u32 0]
  let kc3 : List Value := [.int .i64 ck, .int .i64 ((i : Nat) : Int), .int .u32 cv.a, .int .u32 cv.b, .int .u32 cv.c, .int .u32 cv.d, .int .u32 cn]
  refine segU hE hR [(0, .op []), (1, .op []), (2, .op [])] [] [(3, .pointer (some ⟨H0, 0, none⟩)), (4, .slice none 0 0), (5, .pointer (some ⟨H0 + 1, 0, none⟩))] [⟨H0 + 1, 0, kc2, 63, true⟩, ⟨H0, 0, kc3, 60, true⟩] (H0 + 2) [] (by kernel_rfl) (by kernel_rfl) (by kernel_rfl) trivial ?_
  clear hE hR; intro a u hE hR
  refine opsNil ?_; refine thenN ?_; refine wp_seq ?_
  refine enterR (idx := [0, 1, 2, 3]) (by kernel_rfl) ?_
  refine segV hE hR [(0, .op []), (1, .op [.k 1 0])] [2, 3] [(13, .int .i64 ck)] [] (by kernel_rfl) (by kernel_rfl) (by kernel_rfl) trivial ?_
  clear hE hR; intro a u hE hR
  refine opsCons ?_
  refine call hE hR [] 51 #[.int .i64 ck] (some 14) [] (by kernel_rfl) (by kernel_rfl) trivial (hpl _) (fun _ _ h => by cases h.1) (fun _ h => by cases h.1) ?_
  clear hE
  rintro v u ⟨hv, hb⟩ a hE
  cases hv
  obtain ⟨H1, hH1, hR⟩ := hR.callE hb
  refine segV hE hR [(3, .op [])] [] [(6, .int .i64 9)] [] (by kernel_rfl) (by kernel_rfl) (by kernel_rfl) trivial ?_
  clear hE hR; intro a u hE hR
  refine opsNil ?_; refine thenN ?_; refine wp_seq ?_; refine wp_seq ?_
  refine enterR (idx := [0, 1, 2, 3, 4, 5, 6, 7, 8, 9, 10, 11, 12, 13, 14]) (by kernel_rfl) ?_
  refine segV hE hR [(0, .op []), (1, .op []), (2, .op []), (3, .op []), (4, .op []), (5, .op []), (6, .op []), (7, .skip), (8, .skip), (9, .op []), (10, .op []), (11, .skip), (12, .skip), (13, .op []), (14, .op [])] [] [(29, .bool false)] [true = !false, true = !false, true = !false, true = !false, true = true, true = true] (by kernel_rfl) (by kernel_rfl) (by kernel_rfl) ⟨rfl, rfl, rfl, rfl, rfl, rfl, trivial⟩ ?_
  clear hE hR; intro a u hE hR
  refine opsNil ?_; refine thenN ?_
  refine condF hE (b := false) (by kernel_rfl) rfl ?_
  refine wp_skip ?_; refine thenN ?_; refine wp_seq ?_; refine wp_seq ?_
  refine enterR (idx := [0, 1, 2, 3, 4, 5, 6, 7, 8, 9]) (by kernel_rfl) ?_
  refine segV hE hR [(0, .op []), (1, .op [.k 1 1]), (2, .as [] (.bool false)), (3, .op []), (4, .op []), (5, .op [.k 1 1]), (6, .op []), (7, .op []), (8, .as [] (.bool false)), (9, .op [])] [] [(41, .bool false)] [(.bool (decide (((i : Nat) : Int) ≥ ((L.length : Nat) : Int))) : Value) = (.bool false : Value), false = false, false = false, false = false, false = false, false = false, (.bool (decide (((i : Nat) : Int) < 0)) : Value) = (.bool false : Value)] (by kernel_rfl) (by kernel_rfl) (by kernel_rfl) ⟨congrArg Value.bool (decide_eq_false (by omega)), rfl, rfl, rfl, rfl, rfl, congrArg Value.bool (decide_eq_false (by omega)), trivial⟩ ?_
  clear hE hR; intro a u hE hR
  refine opsNil ?_; refine thenN ?_
  refine condF hE (b := false) (by kernel_rfl) rfl ?_
  refine wp_skip ?_; refine thenN ?_; refine wp_seq ?_
  refine enterR (idx := [0, 1, 2]) (by kernel_rfl) ?_
  refine segV hE hR [(0, .op [])] [1, 2] [(44, .slice (some ⟨g, off, none⟩) L.length c)] [] (by kernel_rfl) (by kernel_rfl) (by kernel_rfl) trivial ?_
  clear hE hR; intro a u hE hR
  refine opsCons ?_
  refine call hE hR [] 52 #[.slice (some ⟨g, off, none⟩) L.length c] (some 45) [] (by kernel_rfl) (by kernel_rfl) trivial (HC _ (hR.below (by simp))) (by rintro _ _ ⟨_, _, _, _, _, _, _, _, _, _, h, _⟩; cases h) (by rintro _ ⟨_, _, _, _, _, _, _, _, _, _, h, _⟩; cases h) ?_
  clear hE
  rintro v u ⟨g2, cap2, pr, po, gr, cr, rest, rs, ob, L2, hv, hcf, Hc, hRc⟩ a hE
  cases hv
  let kc4 : List Value := [.int .i64 o.kind, .int .i64 o.cap, .int .i64 o.width, .int .i64 o.retry, .int .i64 o.src, .int .i64 o.dst, .int .u32 o.i0, .int .u32 o.i1, .int .u32 o.i2, .int .u32 o.i3, .slice (some ⟨gr, 0, none⟩) row.length cr, .int .u32 v.a, .int .u32 v.b, .int .u32 v.c, .int .u32 v.d]
  replace hR : Rep [(w, fun _ => True)] u Hc (⟨H0 + 1, 0, kc2, 63, true⟩ :: ⟨H0, 0, kc3, 60, true⟩ :: ⟨g2, 0 + i * 15, kc4, 118, false⟩ :: ⟨g2, 0, pr, 118, false⟩ :: ⟨g2, 0 + i * 15 + 15, po, 118, false⟩ :: (rs ++ ob)) [] := hR.join hRc
  refine segV hE hR [(2, .op [])] [] [(7, .slice (some ⟨g2, 0, none⟩) L.length cap2)] [] (by kernel_rfl) (by kernel_rfl) (by kernel_rfl) trivial ?_
  clear hE hR; intro a u hE hR
  refine opsNil ?_; refine thenN ?_; refine wp_seq ?_
  refine enterR (idx := [0, 1, 2, 3, 4]) (by kernel_rfl) ?_
  refine seg0 hE hR [(0, .op []), (1, .op []), (2, .op [.k 1 1]), (3, .alt (.pointer (some ⟨g2, 0 + i * 15, none⟩))), (4, .op [])] [] [(0, .slice (some ⟨g, off, none⟩) L.length c), (3, .pointer (some ⟨H0, 0, none⟩)), (4, .slice none 0 0), (5, .pointer (some ⟨H0 + 1, 0, none⟩)), (6, .int .i64 9), (29, .bool false), (41, .bool false), (7, .slice (some ⟨g2, 0, none⟩) L.length cap2), (8, .pointer (some ⟨g2, 0 + i * 15, none⟩))] [(0 ≤ (((i : Nat) : Int) : Int) ∧ (((i : Nat) : Int) : Int) < ((L.length : Nat) : Int)) ∧ (Try.prog.info? 118).isSome = true, (.pointer (some ⟨g2, 0 + (((i : Nat) : Int)).toNat * Try.prog.cellsOf 118, none⟩) : Value) = (.pointer (some ⟨g2, 0 + i * 15, none⟩) : Value)] (by kernel_rfl) (by kernel_rfl) (by kernel_rfl) ⟨⟨⟨by omega, by omega⟩, by kernel_rfl⟩, by kernel_rfl, trivial⟩ ?_
  clear hE hR; intro a u hE hR
  refine opsNil ?_; refine thenN ?_; refine wp_seq ?_
  refine enterR (idx := [0]) (by kernel_rfl) ?_
  refine segV hE hR [(0, .op [])] [] [(9, .int .i64 0)] [] (by kernel_rfl) (by kernel_rfl) (by kernel_rfl) trivial ?_
  clear hE hR; intro a u hE hR
  refine opsNil ?_; refine thenN ?_; refine wp_seq ?_; refine wp_seq ?_
  refine enterR (idx := [0, 1, 2, 3, 4]) (by kernel_rfl) ?_
  let kv5 : Value := .agg #[.int .i64 o.kind, .int .i64 o.cap, .int .i64 o.width, .int .i64 o.retry, .int .i64 o.src, .int .i64 o.dst, .int .u32 o.i0, .int .u32 o.i1, .int .u32 o.i2, .int .u32 o.i3]
  refine segV hE hR [(0, .op []), (1, .op []), (2, .op []), (3, .op (hks 2 0 10))] [4] [(53, kv5)] [] (by kernel_rfl) (by kernel_rfl) (by kernel_rfl) trivial ?_
  clear hE hR; intro a u hE hR
  refine opsCons ?_
  refine call hE hR [] 47 #[kv5] (some 54) [] (by kernel_rfl) (by kernel_rfl) trivial (HRt _) (fun _ _ h => by cases h.1) (fun _ h => by cases h.1) ?_
  clear hE
  rintro v u ⟨hv, hb⟩ a hE
  cases hv
  obtain ⟨H2, hH2, hR⟩ := hR.callE hb
  refine opsNil ?_; refine thenN ?_
  refine condT hE (b := true) (by kernel_rfl) rfl ?_
  refine enterR (idx := [0, 1, 2, 3, 4, 5]) (by kernel_rfl) ?_
  refine segV hE hR [(0, .op []), (1, .op []), (2, .op []), (3, .op []), (4, .op [.k 2 0]), (5, .op [])] [] [(9, .int .i64 o.kind)] [] (by kernel_rfl) (by kernel_rfl) (by kernel_rfl) trivial ?_
  clear hE hR; intro a u hE hR
  refine opsNil ?_; refine thenN ?_; refine wp_seq ?_
  refine enterR (idx := [0, 1, 2, 3, 4, 5]) (by kernel_rfl) ?_
  refine segV hE hR [(0, .op []), (1, .op []), (2, .op []), (3, .op []), (4, .op [.k 2 11]), (5, .op [])] [] [(10, .int .u32 v.a)] [] (by kernel_rfl) (by kernel_rfl) (by kernel_rfl) trivial ?_
  clear hE hR; intro a u hE hR
  refine opsNil ?_; refine thenN ?_; refine wp_seq ?_; refine wp_block ?_; refine wp_seq ?_
  refine enterR (idx := [0, 1, 2, 3, 4, 5, 6]) (by kernel_rfl) ?_
  refine segV hE hR [(0, .op []), (1, .op []), (2, .op []), (3, .skip), (4, .skip), (5, .op []), (6, .op [])] [] [(65, .bool false)] [false = !true, false = !true] (by kernel_rfl) (by kernel_rfl) (by kernel_rfl) ⟨rfl, rfl, trivial⟩ ?_
  clear hE hR; intro a u hE hR
  refine opsNil ?_; refine thenN ?_
  refine condF hE (b := false) (by kernel_rfl) rfl ?_
  refine wp_seq ?_
  refine enterR (idx := [0, 1, 2, 3, 4, 5, 6]) (by kernel_rfl) ?_
  refine segV hE hR [(0, .op []), (1, .op []), (2, .op []), (3, .skip), (4, .skip), (5, .op []), (6, .op [])] [] [(104, .bool false)] [false = !true, false = !true] (by kernel_rfl) (by kernel_rfl) (by kernel_rfl) ⟨rfl, rfl, trivial⟩ ?_
  clear hE hR; intro a u hE hR
  refine opsNil ?_; refine thenN ?_
  refine condF hE (b := false) (by kernel_rfl) rfl ?_
  refine wp_seq ?_
  refine enterR (idx := [0, 1, 2, 3, 4, 5, 6, 7, 8, 9, 10]) (by kernel_rfl) ?_
  refine segV hE hR [(0, .op []), (1, .op []), (2, .op []), (3, .skip), (4, .skip), (5, .skip), (6, .skip), (7, .skip), (8, .skip), (9, .op []), (10, .op [])] [] [(136, .bool false)] [false = !true, false = !true, false = !true, false = !true] (by kernel_rfl) (by kernel_rfl) (by kernel_rfl) ⟨rfl, rfl, rfl, rfl, trivial⟩ ?_
  clear hE hR; intro a u hE hR
  refine opsNil ?_; refine thenN ?_
  refine condF hE (b := false) (by kernel_rfl) rfl ?_
  refine wp_seq ?_
  refine enterR (idx := [0, 1, 2, 3, 4, 5, 6, 7, 8, 9, 10, 11, 12, 13, 14, 15, 16, 17, 18]) (by kernel_rfl) ?_
  refine seg0 hE hR [(0, .op []), (1, .op []), (2, .op []), (3, .skip), (4, .skip), (5, .op []), (6, .op []), (7, .op []), (8, .op []), (9, .op []), (10, .op []), (11, .op []), (12, .op []), (13, .op []), (14, .skip), (15, .skip), (16, .op []), (17, .op []), (18, .op [])] [] [(0, .slice (some ⟨g, off, none⟩) L.length c), (3, .pointer (some ⟨H0, 0, none⟩)), (4, .slice none 0 0), (5, .pointer (some ⟨H0 + 1, 0, none⟩)), (6, .int .i64 9), (29, .bool false), (41, .bool false), (7, .slice (some ⟨g2, 0, none⟩) L.length cap2), (8, .pointer (some ⟨g2, 0 + i * 15, none⟩)), (9, .int .i64 o.kind), (53, kv5), (54, .bool true), (10, .int .u32 v.a), (65, .bool false), (104, .bool false), (136, .bool false), (160, .bool false)] [false = false, false = !true, false = !true, false = false, false = false, false = false, false = false, false = false, false = false, false = false, false = !true, false = !true] (by kernel_rfl) (by kernel_rfl) (by kernel_rfl) ⟨rfl, rfl, rfl, rfl, rfl, rfl, rfl, rfl, rfl, rfl, rfl, rfl, trivial⟩ ?_
  clear hE hR; intro a u hE hR
  refine opsNil ?_; refine thenN ?_
  refine condF hE (b := false) (by kernel_rfl) rfl ?_
  refine wp_seq ?_
  refine enterR (idx := [0, 1, 2, 3, 4, 5, 6]) (by kernel_rfl) ?_
  refine segV hE hR [(0, .op []), (1, .op []), (2, .op []), (3, .skip), (4, .skip), (5, .op []), (6, .op [])] [] [(185, .bool false)] [false = !true, false = !true] (by kernel_rfl) (by kernel_rfl) (by kernel_rfl) ⟨rfl, rfl, trivial⟩ ?_
  clear hE hR; intro a u hE hR
  refine opsNil ?_; refine thenN ?_
  refine condF hE (b := false) (by kernel_rfl) rfl ?_
  refine wp_seq ?_
  refine enterR (idx := [0, 1, 2, 3, 4, 5, 6]) (by kernel_rfl) ?_
  refine segV hE hR [(0, .op []), (1, .op []), (2, .op []), (3, .skip), (4, .skip), (5, .op []), (6, .op [])] [] [(205, .bool false)] [false = !true, false = !true] (by kernel_rfl) (by kernel_rfl) (by kernel_rfl) ⟨rfl, rfl, trivial⟩ ?_
  clear hE hR; intro a u hE hR
  refine opsNil ?_; refine thenN ?_
  refine condF hE (b := false) (by kernel_rfl) rfl ?_
  refine wp_seq ?_; refine wp_seq ?_
  refine enterR (idx := [0, 1, 2, 3, 4, 5, 6]) (by kernel_rfl) ?_
  refine segV hE hR [(0, .op []), (1, .op []), (2, .op []), (3, .op []), (4, .as [] (.bool true)), (5, .op []), (6, .op [])] [] [(226, .bool true)] [(.bool ((o.kind : Int) == 4) : Value) = (.bool true : Value), true = true, true = true] (by kernel_rfl) (by kernel_rfl) (by kernel_rfl) ⟨congrArg Value.bool (beq_iff_eq.2 (by omega)), rfl, rfl, trivial⟩ ?_
  clear hE hR; intro a u hE hR
  refine opsNil ?_; refine thenN ?_
  refine condT hE (b := true) (by kernel_rfl) rfl ?_
  refine wp_skip ?_; refine thenN ?_
  refine condT hE (b := true) (by kernel_rfl) rfl ?_
  refine wp_seq ?_
  refine enterR (idx := [0, 1, 2, 3, 4, 5]) (by kernel_rfl) ?_
  let kc6 : List Value := [.int .i64 0, .int .u32 v.a, .int .u32 0, .int .u32 0, .int .u32 0]
  refine segU hE hR [(0, .op []), (1, .op []), (2, .op []), (3, .op []), (4, .op []), (5, .op (hks 0 0 5))] [] [(4, .slice (some ⟨g, off, none⟩) L.length c)] (⟨H0 + 1, 0, kc6, 63, true⟩ :: ⟨H0, 0, kc3, 60, true⟩ :: ⟨g2, 0 + i * 15, kc4, 118, false⟩ :: ⟨g2, 0, pr, 118, false⟩ :: ⟨g2, 0 + i * 15 + 15, po, 118, false⟩ :: (rs ++ ob)) (H2) [] (by kernel_rfl) (by kernel_rfl) (by kernel_rfl) trivial ?_
  clear hE hR; intro a u hE hR
  refine opsNil ?_; refine thenN ?_; refine wp_ret ?_; refine blkR ?_; refine thenR ?_
  refine retF hE hR (hks 0 0 5) (.tuple #[.slice (some ⟨g, off, none⟩) L.length c, .agg #[.int .i64 0, .int .u32 v.a, .int .u32 0, .int .u32 0, .int .u32 0]]) (by kernel_rfl) (by kernel_rfl) (by kernel_rfl) ?_
  exact ⟨rfl, hR.below (by simp)⟩
set_option maxRecDepth 100000 in
theorem ref_any_yes (g off c : Nat) (L : List IV) (o : Ob) (row : List Vl) (v : Vl) (ck : Int) (i : Nat) (cv : Vl) (cn : Int) (w : World) (hck : -9223372036854775808 ≤ ck ∧ ck ≤ 9223372036854775807) (hK : plainP ck = 16) (hi : i < L.length) (_ : L.length ≤ 8) (HC : ∀ W, Below w.heap.size w W → Calls Try.prog 52 #[.slice (some ⟨g, off, none⟩) L.length c] W (CopyAt L i ⟨o, row, v⟩ W)) (hrt : rightP o = true) (hkk : o.kind = 4) (hva : 0 ≤ v.a ∧ v.a < 4294967296) (hcv : 0 ≤ cv.a ∧ cv.a < 4294967296) (hbit : (((v.a.toNat &&& cv.a.toNat : Nat) : Int) != 0) = true) :
    Calls Try.prog 26 #[.slice (some ⟨g, off, none⟩) L.length c, .agg #[.int .i64 ck, .int .i64 ((i : Nat) : Int), .int .u32 cv.a, .int .u32 cv.b, .int .u32 cv.c, .int .u32 cv.d, .int .u32 cn]] w fun e W' => e = .returned (.tuple #[.slice (some ⟨g, off, none⟩) L.length c, resA 0 ⟨v.a, 0, 0, 0⟩]) ∧ Below w.heap.size w W' := by
  have hpl := fun W => plain2B_calls ck W hck
  rw [hK] at hpl
  have HRt := fun W => right2_calls o W
  rw [hrt] at HRt
  have hold := fun W => holdsR4_calls v.a.toNat cv.a.toNat (by omega) (by omega) W
  simp only [Int.toNat_of_nonneg hva.1, Int.toNat_of_nonneg hcv.1] at hold
  rw [hbit] at hold
  let kv1 : Value := .agg #[.int .i64 ck, .int .i64 ((i : Nat) : Int), .int .u32 cv.a, .int .u32 cv.b, .int .u32 cv.c, .int .u32 cv.d, .int .u32 cn]
  refine enterF Try.func26 rfl Try.ntmps26 [(0, .slice (some ⟨g, off, none⟩) L.length c), (1, kv1)] (by kernel_rfl) (by kernel_rfl) ?_
  have hR := Rep.start w
  obtain ⟨H0, hH0⟩ : ∃ x, x = w.heap.size := ⟨_, rfl⟩
  rw [← hH0] at hR
  intro a hE
  refine wp_seq ?_
  refine enterR (idx := [0, 1, 2]) (by kernel_rfl) ?_
  let kc2 : List Value := [.int .i64 0, .int .u32 0, .int .u32 0, .int .u32 0, .int .u32 0]
  let kc3 : List Value := [.int .i64 ck, .int .i64 ((i : Nat) : Int), .int .u32 cv.a, .int .u32 cv.b, .int .u32 cv.c, .int .u32 cv.d, .int .u32 cn]
  refine segU hE hR [(0, .op []), (1, .op []), (2, .op [])] [] [(3, .pointer (some ⟨H0, 0, none⟩)), (4, .slice none 0 0), (5, .pointer (some ⟨H0 + 1, 0, none⟩))] [⟨H0 + 1, 0, kc2, 63, true⟩, ⟨H0, 0, kc3, 60, true⟩] (H0 + 2) [] (by kernel_rfl) (by kernel_rfl) (by kernel_rfl) trivial ?_
  clear hE hR; intro a u hE hR
  refine opsNil ?_; refine thenN ?_; refine wp_seq ?_
  refine enterR (idx := [0, 1, 2, 3]) (by kernel_rfl) ?_
  refine segV hE hR [(0, .op []), (1, .op [.k 1 0])] [2, 3] [(13, .int .i64 ck)] [] (by kernel_rfl) (by kernel_rfl) (by kernel_rfl) trivial ?_
  clear hE hR; intro a u hE hR
  refine opsCons ?_
  refine call hE hR [] 51 #[.int .i64 ck] (some 14) [] (by kernel_rfl) (by kernel_rfl) trivial (hpl _) (fun _ _ h => by cases h.1) (fun _ h => by cases h.1) ?_
  clear hE
  rintro v u ⟨hv, hb⟩ a hE
  cases hv
  obtain ⟨H1, hH1, hR⟩ := hR.callE hb
  refine segV hE hR [(3, .op [])] [] [(6, .int .i64 16)] [] (by kernel_rfl) (by kernel_rfl) (by kernel_rfl) trivial ?_
  clear hE hR; intro a u hE hR
  refine opsNil ?_; refine thenN ?_; refine wp_seq ?_; refine wp_seq ?_
  refine enterR (idx := [0, 1, 2, 3, 4, 5, 6, 7, 8, 9, 10, 11, 12, 13, 14]) (by kernel_rfl) ?_
  refine segV hE hR [(0, .op []), (1, .op []), (2, .op []), (3, .op []), (4, .op []), (5, .op []), (6, .op []), (7, .op []), (8, .op []), (9, .op []), (10, .op []), (11, .skip), (12, .skip), (13, .op []), (14, .op [])] [] [(29, .bool false)] [true = !false, true = !false, false = false, false = false, true = true, true = true] (by kernel_rfl) (by kernel_rfl) (by kernel_rfl) ⟨rfl, rfl, rfl, rfl, rfl, rfl, trivial⟩ ?_
  clear hE hR; intro a u hE hR
  refine opsNil ?_; refine thenN ?_
  refine condF hE (b := false) (by kernel_rfl) rfl ?_
  refine wp_skip ?_; refine thenN ?_; refine wp_seq ?_; refine wp_seq ?_
  refine enterR (idx := [0, 1, 2, 3, 4, 5, 6, 7, 8, 9]) (by kernel_rfl) ?_
  refine segV hE hR [(0, .op []), (1, .op [.k 1 1]), (2, .as [] (.bool false)), (3, .op []), (4, .op []), (5, .op [.k 1 1]), (6, .op []), (7, .op []), (8, .as [] (.bool false)), (9, .op [])] [] [(41, .bool false)] [(.bool (decide (((i : Nat) : Int) ≥ ((L.length : Nat) : Int))) : Value) = (.bool false : Value), false = false, false = false, false = false, false = false, false = false, (.bool (decide (((i : Nat) : Int) < 0)) : Value) = (.bool false : Value)] (by kernel_rfl) (by kernel_rfl) (by kernel_rfl) ⟨congrArg Value.bool (decide_eq_false (by omega)), rfl, rfl, rfl, rfl, rfl, congrArg Value.bool (decide_eq_false (by omega)), trivial⟩ ?_
  clear hE hR; intro a u hE hR
  refine opsNil ?_; refine thenN ?_
  refine condF hE (b := false) (by kernel_rfl) rfl ?_
  refine wp_skip ?_; refine thenN ?_; refine wp_seq ?_
  refine enterR (idx := [0, 1, 2]) (by kernel_rfl) ?_
  refine segV hE hR [(0, .op [])] [1, 2] [(44, .slice (some ⟨g, off, none⟩) L.length c)] [] (by kernel_rfl) (by kernel_rfl) (by kernel_rfl) trivial ?_
  clear hE hR; intro a u hE hR
  refine opsCons ?_
  refine call hE hR [] 52 #[.slice (some ⟨g, off, none⟩) L.length c] (some 45) [] (by kernel_rfl) (by kernel_rfl) trivial (HC _ (hR.below (by simp))) (by rintro _ _ ⟨_, _, _, _, _, _, _, _, _, _, h, _⟩; cases h) (by rintro _ ⟨_, _, _, _, _, _, _, _, _, _, h, _⟩; cases h) ?_
  clear hE
  rintro v u ⟨g2, cap2, pr, po, gr, cr, rest, rs, ob, L2, hv, hcf, Hc, hRc⟩ a hE
  cases hv
  let kc4 : List Value := [.int .i64 o.kind, .int .i64 o.cap, .int .i64 o.width, .int .i64 o.retry, .int .i64 o.src, .int .i64 o.dst, .int .u32 o.i0, .int .u32 o.i1, .int .u32 o.i2, .int .u32 o.i3, .slice (some ⟨gr, 0, none⟩) row.length cr, .int .u32 v.a, .int .u32 v.b, .int .u32 v.c, .int .u32 v.d]
  replace hR : Rep [(w, fun _ => True)] u Hc (⟨H0 + 1, 0, kc2, 63, true⟩ :: ⟨H0, 0, kc3, 60, true⟩ :: ⟨g2, 0 + i * 15, kc4, 118, false⟩ :: ⟨g2, 0, pr, 118, false⟩ :: ⟨g2, 0 + i * 15 + 15, po, 118, false⟩ :: (rs ++ ob)) [] := hR.join hRc
  refine segV hE hR [(2, .op [])] [] [(7, .slice (some ⟨g2, 0, none⟩) L.length cap2)] [] (by kernel_rfl) (by kernel_rfl) (by kernel_rfl) trivial ?_
  clear hE hR; intro a u hE hR
  refine opsNil ?_; refine thenN ?_; refine wp_seq ?_
  refine enterR (idx := [0, 1, 2, 3, 4]) (by kernel_rfl) ?_
  refine seg0 hE hR [(0, .op []), (1, .op []), (2, .op [.k 1 1]), (3, .alt (.pointer (some ⟨g2, 0 + i * 15, none⟩))), (4, .op [])] [] [(0, .slice (some ⟨g, off, none⟩) L.length c), (3, .pointer (some ⟨H0, 0, none⟩)), (4, .slice none 0 0), (5, .pointer (some ⟨H0 + 1, 0, none⟩)), (6, .int .i64 16), (29, .bool false), (41, .bool false), (7, .slice (some ⟨g2, 0, none⟩) L.length cap2), (8, .pointer (some ⟨g2, 0 + i * 15, none⟩))] [(0 ≤ (((i : Nat) : Int) : Int) ∧ (((i : Nat) : Int) : Int) < ((L.length : Nat) : Int)) ∧ (Try.prog.info? 118).isSome = true, (.pointer (some ⟨g2, 0 + (((i : Nat) : Int)).toNat * Try.prog.cellsOf 118, none⟩) : Value) = (.pointer (some ⟨g2, 0 + i * 15, none⟩) : Value)] (by kernel_rfl) (by kernel_rfl) (by kernel_rfl) ⟨⟨⟨by omega, by omega⟩, by kernel_rfl⟩, by kernel_rfl, trivial⟩ ?_
  clear hE hR; intro a u hE hR
  refine opsNil ?_; refine thenN ?_; refine wp_seq ?_
  refine enterR (idx := [0]) (by kernel_rfl) ?_
  refine segV hE hR [(0, .op [])] [] [(9, .int .i64 0)] [] (by kernel_rfl) (by kernel_rfl) (by kernel_rfl) trivial ?_
  clear hE hR; intro a u hE hR
  refine opsNil ?_; refine thenN ?_; refine wp_seq ?_; refine wp_seq ?_
  refine enterR (idx := [0, 1, 2, 3, 4]) (by kernel_rfl) ?_
  let kv5 : Value := .agg #[.int .i64 o.kind, .int .i64 o.cap, .int .i64 o.width, .int .i64 o.retry, .int .i64 o.src, .int .i64 o.dst, .int .u32 o.i0, .int .u32 o.i1, .int .u32 o.i2, .int .u32 o.i3]
  refine segV hE hR [(0, .op []), (1, .op []), (2, .op []), (3, .op (hks 2 0 10))] [4] [(53, kv5)] [] (by kernel_rfl) (by kernel_rfl) (by kernel_rfl) trivial ?_
  clear hE hR; intro a u hE hR
  refine opsCons ?_
  refine call hE hR [] 47 #[kv5] (some 54) [] (by kernel_rfl) (by kernel_rfl) trivial (HRt _) (fun _ _ h => by cases h.1) (fun _ h => by cases h.1) ?_
  clear hE
  rintro v u ⟨hv, hb⟩ a hE
  cases hv
  obtain ⟨H2, hH2, hR⟩ := hR.callE hb
  refine opsNil ?_; refine thenN ?_
  refine condT hE (b := true) (by kernel_rfl) rfl ?_
  refine enterR (idx := [0, 1, 2, 3, 4, 5]) (by kernel_rfl) ?_
  refine segV hE hR [(0, .op []), (1, .op []), (2, .op []), (3, .op []), (4, .op [.k 2 0]), (5, .op [])] [] [(9, .int .i64 o.kind)] [] (by kernel_rfl) (by kernel_rfl) (by kernel_rfl) trivial ?_
  clear hE hR; intro a u hE hR
  refine opsNil ?_; refine thenN ?_; refine wp_seq ?_
  refine enterR (idx := [0, 1, 2, 3, 4, 5]) (by kernel_rfl) ?_
  refine segV hE hR [(0, .op []), (1, .op []), (2, .op []), (3, .op []), (4, .op [.k 2 11]), (5, .op [])] [] [(10, .int .u32 v.a)] [] (by kernel_rfl) (by kernel_rfl) (by kernel_rfl) trivial ?_
  clear hE hR; intro a u hE hR
  refine opsNil ?_; refine thenN ?_; refine wp_seq ?_; refine wp_block ?_; refine wp_seq ?_
  refine enterR (idx := [0, 1, 2, 3, 4, 5, 6]) (by kernel_rfl) ?_
  refine segV hE hR [(0, .op []), (1, .op []), (2, .op []), (3, .skip), (4, .skip), (5, .op []), (6, .op [])] [] [(65, .bool false)] [false = !true, false = !true] (by kernel_rfl) (by kernel_rfl) (by kernel_rfl) ⟨rfl, rfl, trivial⟩ ?_
  clear hE hR; intro a u hE hR
  refine opsNil ?_; refine thenN ?_
  refine condF hE (b := false) (by kernel_rfl) rfl ?_
  refine wp_seq ?_
  refine enterR (idx := [0, 1, 2, 3, 4, 5, 6]) (by kernel_rfl) ?_
  refine segV hE hR [(0, .op []), (1, .op []), (2, .op []), (3, .skip), (4, .skip), (5, .op []), (6, .op [])] [] [(104, .bool false)] [false = !true, false = !true] (by kernel_rfl) (by kernel_rfl) (by kernel_rfl) ⟨rfl, rfl, trivial⟩ ?_
  clear hE hR; intro a u hE hR
  refine opsNil ?_; refine thenN ?_
  refine condF hE (b := false) (by kernel_rfl) rfl ?_
  refine wp_seq ?_
  refine enterR (idx := [0, 1, 2, 3, 4, 5, 6, 7, 8, 9, 10]) (by kernel_rfl) ?_
  refine segV hE hR [(0, .op []), (1, .op []), (2, .op []), (3, .skip), (4, .skip), (5, .skip), (6, .skip), (7, .skip), (8, .skip), (9, .op []), (10, .op [])] [] [(136, .bool false)] [false = !true, false = !true, false = !true, false = !true] (by kernel_rfl) (by kernel_rfl) (by kernel_rfl) ⟨rfl, rfl, rfl, rfl, trivial⟩ ?_
  clear hE hR; intro a u hE hR
  refine opsNil ?_; refine thenN ?_
  refine condF hE (b := false) (by kernel_rfl) rfl ?_
  refine wp_seq ?_
  refine enterR (idx := [0, 1, 2, 3, 4, 5, 6, 7, 8, 9, 10, 11, 12, 13, 14, 15, 16, 17, 18]) (by kernel_rfl) ?_
  refine seg0 hE hR [(0, .op []), (1, .op []), (2, .op []), (3, .skip), (4, .skip), (5, .op []), (6, .op []), (7, .op []), (8, .op []), (9, .op []), (10, .op []), (11, .op []), (12, .op []), (13, .op []), (14, .skip), (15, .skip), (16, .op []), (17, .op []), (18, .op [])] [] [(0, .slice (some ⟨g, off, none⟩) L.length c), (3, .pointer (some ⟨H0, 0, none⟩)), (4, .slice none 0 0), (5, .pointer (some ⟨H0 + 1, 0, none⟩)), (6, .int .i64 16), (29, .bool false), (41, .bool false), (7, .slice (some ⟨g2, 0, none⟩) L.length cap2), (8, .pointer (some ⟨g2, 0 + i * 15, none⟩)), (9, .int .i64 o.kind), (53, kv5), (54, .bool true), (10, .int .u32 v.a), (65, .bool false), (104, .bool false), (136, .bool false), (160, .bool false)] [false = false, false = !true, false = !true, false = false, false = false, false = false, false = false, false = false, false = false, false = false, false = !true, false = !true] (by kernel_rfl) (by kernel_rfl) (by kernel_rfl) ⟨rfl, rfl, rfl, rfl, rfl, rfl, rfl, rfl, rfl, rfl, rfl, rfl, trivial⟩ ?_
  clear hE hR; intro a u hE hR
  refine opsNil ?_; refine thenN ?_
  refine condF hE (b := false) (by kernel_rfl) rfl ?_
  refine wp_seq ?_
  refine enterR (idx := [0, 1, 2, 3, 4, 5, 6]) (by kernel_rfl) ?_
  refine segV hE hR [(0, .op []), (1, .op []), (2, .op []), (3, .skip), (4, .skip), (5, .op []), (6, .op [])] [] [(185, .bool false)] [false = !true, false = !true] (by kernel_rfl) (by kernel_rfl) (by kernel_rfl) ⟨rfl, rfl, trivial⟩ ?_
  clear hE hR; intro a u hE hR
  refine opsNil ?_; refine thenN ?_
  refine condF hE (b := false) (by kernel_rfl) rfl ?_
  refine wp_seq ?_
  refine enterR (idx := [0, 1, 2, 3, 4, 5, 6]) (by kernel_rfl) ?_
  refine segV hE hR [(0, .op []), (1, .op []), (2, .op []), (3, .skip), (4, .skip), (5, .op []), (6, .op [])] [] [(205, .bool false)] [false = !true, false = !true] (by kernel_rfl) (by kernel_rfl) (by kernel_rfl) ⟨rfl, rfl, trivial⟩ ?_
  clear hE hR; intro a u hE hR
  refine opsNil ?_; refine thenN ?_
  refine condF hE (b := false) (by kernel_rfl) rfl ?_
  refine wp_seq ?_; refine wp_seq ?_
  refine enterR (idx := [0, 1, 2, 3, 4, 5, 6]) (by kernel_rfl) ?_
  refine segV hE hR [(0, .op []), (1, .op []), (2, .op []), (3, .skip), (4, .skip), (5, .op []), (6, .op [])] [] [(226, .bool false)] [false = !true, false = !true] (by kernel_rfl) (by kernel_rfl) (by kernel_rfl) ⟨rfl, rfl, trivial⟩ ?_
  clear hE hR; intro a u hE hR
  refine opsNil ?_; refine thenN ?_
  refine condF hE (b := false) (by kernel_rfl) rfl ?_
  refine wp_seq ?_
  refine enterR (idx := [0, 1, 2, 3, 4, 5, 6, 7, 8, 9, 10, 11, 12, 13]) (by kernel_rfl) ?_
  refine segV hE hR [(0, .op []), (1, .op []), (2, .op []), (3, .op []), (4, .as [] (.bool true)), (5, .op []), (6, .op []), (7, .op []), (8, .op []), (9, .op []), (10, .op [.k 1 2])] [11, 12, 13] [(239, .bool true), (240, .int .u32 v.a), (243, .int .u32 cv.a)] [true = true, true = true, true = true, true = true, (.bool ((o.kind : Int) == 4) : Value) = (.bool true : Value), true = true, true = true] (by kernel_rfl) (by kernel_rfl) (by kernel_rfl) ⟨rfl, rfl, rfl, rfl, congrArg Value.bool (beq_iff_eq.2 (by omega)), rfl, rfl, trivial⟩ ?_
  clear hE hR; intro a u hE hR
  refine opsCons ?_
  refine call hE hR [] 55 #[.int .i64 4, .int .u32 v.a, .int .u32 cv.a] (some 244) [true = true] (by kernel_rfl) (by kernel_rfl) ⟨rfl, trivial⟩ (hold _) (fun _ _ h => by cases h.1) (fun _ h => by cases h.1) ?_
  clear hE
  rintro v u ⟨hv, hb⟩ a hE
  cases hv
  obtain ⟨H3, hH3, hR⟩ := hR.callE hb
  refine segV hE hR [(12, .op []), (13, .op [])] [] [(226, .bool true)] [] (by kernel_rfl) (by kernel_rfl) (by kernel_rfl) trivial ?_
  clear hE hR; intro a u hE hR
  refine opsNil ?_; refine thenN ?_
  refine condT hE (b := true) (by kernel_rfl) rfl ?_
  refine wp_skip ?_; refine thenN ?_
  refine condT hE (b := true) (by kernel_rfl) rfl ?_
  refine wp_seq ?_
  refine enterR (idx := [0, 1, 2, 3, 4, 5]) (by kernel_rfl) ?_
  let kc6 : List Value := [.int .i64 0, .int .u32 v.a, .int .u32 0, .int .u32 0, .int .u32 0]
  refine segU hE hR [(0, .op []), (1, .op []), (2, .op []), (3, .op []), (4, .op []), (5, .op (hks 0 0 5))] [] [(4, .slice (some ⟨g, off, none⟩) L.length c)] (⟨H0 + 1, 0, kc6, 63, true⟩ :: ⟨H0, 0, kc3, 60, true⟩ :: ⟨g2, 0 + i * 15, kc4, 118, false⟩ :: ⟨g2, 0, pr, 118, false⟩ :: ⟨g2, 0 + i * 15 + 15, po, 118, false⟩ :: (rs ++ ob)) (H3) [] (by kernel_rfl) (by kernel_rfl) (by kernel_rfl) trivial ?_
  clear hE hR; intro a u hE hR
  refine opsNil ?_; refine thenN ?_; refine wp_ret ?_; refine blkR ?_; refine thenR ?_
  refine retF hE hR (hks 0 0 5) (.tuple #[.slice (some ⟨g, off, none⟩) L.length c, .agg #[.int .i64 0, .int .u32 v.a, .int .u32 0, .int .u32 0, .int .u32 0]]) (by kernel_rfl) (by kernel_rfl) (by kernel_rfl) ?_
  exact ⟨rfl, hR.below (by simp)⟩
set_option maxRecDepth 100000 in
theorem ref_any_no (g off c : Nat) (L : List IV) (o : Ob) (row : List Vl) (v : Vl) (ck : Int) (i : Nat) (cv : Vl) (cn : Int) (w : World) (hck : -9223372036854775808 ≤ ck ∧ ck ≤ 9223372036854775807) (hK : plainP ck = 16) (hi : i < L.length) (_ : L.length ≤ 8) (HC : ∀ W, Below w.heap.size w W → Calls Try.prog 52 #[.slice (some ⟨g, off, none⟩) L.length c] W (CopyAt L i ⟨o, row, v⟩ W)) (hrt : rightP o = true) (hkk : o.kind = 4) (hva : 0 ≤ v.a ∧ v.a < 4294967296) (hcv : 0 ≤ cv.a ∧ cv.a < 4294967296) (hbit : (((v.a.toNat &&& cv.a.toNat : Nat) : Int) != 0) = false) :
    Calls Try.prog 26 #[.slice (some ⟨g, off, none⟩) L.length c, .agg #[.int .i64 ck, .int .i64 ((i : Nat) : Int), .int .u32 cv.a, .int .u32 cv.b, .int .u32 cv.c, .int .u32 cv.d, .int .u32 cn]] w fun e W' => e = .returned (.tuple #[.slice (some ⟨g, off, none⟩) L.length c, resA 7 Vl.z]) ∧ Below w.heap.size w W' := by
  have hpl := fun W => plain2B_calls ck W hck
  rw [hK] at hpl
  have HRt := fun W => right2_calls o W
  rw [hrt] at HRt
  have hold := fun W => holdsR4_calls v.a.toNat cv.a.toNat (by omega) (by omega) W
  simp only [Int.toNat_of_nonneg hva.1, Int.toNat_of_nonneg hcv.1] at hold
  rw [hbit] at hold
  let kv1 : Value := .agg #[.int .i64 ck, .int .i64 ((i : Nat) : Int), .int .u32 cv.a, .int .u32 cv.b, .int .u32 cv.c, .int .u32 cv.d, .int .u32 cn]
  refine enterF Try.func26 rfl Try.ntmps26 [(0, .slice (some ⟨g, off, none⟩) L.length c), (1, kv1)] (by kernel_rfl) (by kernel_rfl) ?_
  have hR := Rep.start w
  obtain ⟨H0, hH0⟩ : ∃ x, x = w.heap.size := ⟨_, rfl⟩
  rw [← hH0] at hR
  intro a hE
  refine wp_seq ?_
  refine enterR (idx := [0, 1, 2]) (by kernel_rfl) ?_
  let kc2 : List Value := [.int .i64 0, .int .u32 0, .int .u32 0, .int .u32 0, .int .u32 0]
  let kc3 : List Value := [.int .i64 ck, .int .i64 ((i : Nat) : Int), .int .u32 cv.a, .int .u32 cv.b, .int .u32 cv.c, .int .u32 cv.d, .int .u32 cn]
  refine segU hE hR [(0, .op []), (1, .op []), (2, .op [])] [] [(3, .pointer (some ⟨H0, 0, none⟩)), (4, .slice none 0 0), (5, .pointer (some ⟨H0 + 1, 0, none⟩))] [⟨H0 + 1, 0, kc2, 63, true⟩, ⟨H0, 0, kc3, 60, true⟩] (H0 + 2) [] (by kernel_rfl) (by kernel_rfl) (by kernel_rfl) trivial ?_
  clear hE hR; intro a u hE hR
  refine opsNil ?_; refine thenN ?_; refine wp_seq ?_
  refine enterR (idx := [0, 1, 2, 3]) (by kernel_rfl) ?_
  refine segV hE hR [(0, .op []), (1, .op [.k 1 0])] [2, 3] [(13, .int .i64 ck)] [] (by kernel_rfl) (by kernel_rfl) (by kernel_rfl) trivial ?_
  clear hE hR; intro a u hE hR
  refine opsCons ?_
  refine call hE hR [] 51 #[.int .i64 ck] (some 14) [] (by kernel_rfl) (by kernel_rfl) trivial (hpl _) (fun _ _ h => by cases h.1) (fun _ h => by cases h.1) ?_
  clear hE
  rintro v u ⟨hv, hb⟩ a hE
  cases hv
  obtain ⟨H1, hH1, hR⟩ := hR.callE hb
  refine segV hE hR [(3, .op [])] [] [(6, .int .i64 16)] [] (by kernel_rfl) (by kernel_rfl) (by kernel_rfl) trivial ?_
  clear hE hR; intro a u hE hR
  refine opsNil ?_; refine thenN ?_; refine wp_seq ?_; refine wp_seq ?_
  refine enterR (idx := [0, 1, 2, 3, 4, 5, 6, 7, 8, 9, 10, 11, 12, 13, 14]) (by kernel_rfl) ?_
  refine segV hE hR [(0, .op []), (1, .op []), (2, .op []), (3, .op []), (4, .op []), (5, .op []), (6, .op []), (7, .op []), (8, .op []), (9, .op []), (10, .op []), (11, .skip), (12, .skip), (13, .op []), (14, .op [])] [] [(29, .bool false)] [true = !false, true = !false, false = false, false = false, true = true, true = true] (by kernel_rfl) (by kernel_rfl) (by kernel_rfl) ⟨rfl, rfl, rfl, rfl, rfl, rfl, trivial⟩ ?_
  clear hE hR; intro a u hE hR
  refine opsNil ?_; refine thenN ?_
  refine condF hE (b := false) (by kernel_rfl) rfl ?_
  refine wp_skip ?_; refine thenN ?_; refine wp_seq ?_; refine wp_seq ?_
  refine enterR (idx := [0, 1, 2, 3, 4, 5, 6, 7, 8, 9]) (by kernel_rfl) ?_
  refine segV hE hR [(0, .op []), (1, .op [.k 1 1]), (2, .as [] (.bool false)), (3, .op []), (4, .op []), (5, .op [.k 1 1]), (6, .op []), (7, .op []), (8, .as [] (.bool false)), (9, .op [])] [] [(41, .bool false)] [(.bool (decide (((i : Nat) : Int) ≥ ((L.length : Nat) : Int))) : Value) = (.bool false : Value), false = false, false = false, false = false, false = false, false = false, (.bool (decide (((i : Nat) : Int) < 0)) : Value) = (.bool false : Value)] (by kernel_rfl) (by kernel_rfl) (by kernel_rfl) ⟨congrArg Value.bool (decide_eq_false (by omega)), rfl, rfl, rfl, rfl, rfl, congrArg Value.bool (decide_eq_false (by omega)), trivial⟩ ?_
  clear hE hR; intro a u hE hR
  refine opsNil ?_; refine thenN ?_
  refine condF hE (b := false) (by kernel_rfl) rfl ?_
  refine wp_skip ?_; refine thenN ?_; refine wp_seq ?_
  refine enterR (idx := [0, 1, 2]) (by kernel_rfl) ?_
  refine segV hE hR [(0, .op [])] [1, 2] [(44, .slice (some ⟨g, off, none⟩) L.length c)] [] (by kernel_rfl) (by kernel_rfl) (by kernel_rfl) trivial ?_
  clear hE hR; intro a u hE hR
  refine opsCons ?_
  refine call hE hR [] 52 #[.slice (some ⟨g, off, none⟩) L.length c] (some 45) [] (by kernel_rfl) (by kernel_rfl) trivial (HC _ (hR.below (by simp))) (by rintro _ _ ⟨_, _, _, _, _, _, _, _, _, _, h, _⟩; cases h) (by rintro _ ⟨_, _, _, _, _, _, _, _, _, _, h, _⟩; cases h) ?_
  clear hE
  rintro v u ⟨g2, cap2, pr, po, gr, cr, rest, rs, ob, L2, hv, hcf, Hc, hRc⟩ a hE
  cases hv
  let kc4 : List Value := [.int .i64 o.kind, .int .i64 o.cap, .int .i64 o.width, .int .i64 o.retry, .int .i64 o.src, .int .i64 o.dst, .int .u32 o.i0, .int .u32 o.i1, .int .u32 o.i2, .int .u32 o.i3, .slice (some ⟨gr, 0, none⟩) row.length cr, .int .u32 v.a, .int .u32 v.b, .int .u32 v.c, .int .u32 v.d]
  replace hR : Rep [(w, fun _ => True)] u Hc (⟨H0 + 1, 0, kc2, 63, true⟩ :: ⟨H0, 0, kc3, 60, true⟩ :: ⟨g2, 0 + i * 15, kc4, 118, false⟩ :: ⟨g2, 0, pr, 118, false⟩ :: ⟨g2, 0 + i * 15 + 15, po, 118, false⟩ :: (rs ++ ob)) [] := hR.join hRc
  refine segV hE hR [(2, .op [])] [] [(7, .slice (some ⟨g2, 0, none⟩) L.length cap2)] [] (by kernel_rfl) (by kernel_rfl) (by kernel_rfl) trivial ?_
  clear hE hR; intro a u hE hR
  refine opsNil ?_; refine thenN ?_; refine wp_seq ?_
  refine enterR (idx := [0, 1, 2, 3, 4]) (by kernel_rfl) ?_
  refine seg0 hE hR [(0, .op []), (1, .op []), (2, .op [.k 1 1]), (3, .alt (.pointer (some ⟨g2, 0 + i * 15, none⟩))), (4, .op [])] [] [(0, .slice (some ⟨g, off, none⟩) L.length c), (3, .pointer (some ⟨H0, 0, none⟩)), (4, .slice none 0 0), (5, .pointer (some ⟨H0 + 1, 0, none⟩)), (6, .int .i64 16), (29, .bool false), (41, .bool false), (7, .slice (some ⟨g2, 0, none⟩) L.length cap2), (8, .pointer (some ⟨g2, 0 + i * 15, none⟩))] [(0 ≤ (((i : Nat) : Int) : Int) ∧ (((i : Nat) : Int) : Int) < ((L.length : Nat) : Int)) ∧ (Try.prog.info? 118).isSome = true, (.pointer (some ⟨g2, 0 + (((i : Nat) : Int)).toNat * Try.prog.cellsOf 118, none⟩) : Value) = (.pointer (some ⟨g2, 0 + i * 15, none⟩) : Value)] (by kernel_rfl) (by kernel_rfl) (by kernel_rfl) ⟨⟨⟨by omega, by omega⟩, by kernel_rfl⟩, by kernel_rfl, trivial⟩ ?_
  clear hE hR; intro a u hE hR
  refine opsNil ?_; refine thenN ?_; refine wp_seq ?_
  refine enterR (idx := [0]) (by kernel_rfl) ?_
  refine segV hE hR [(0, .op [])] [] [(9, .int .i64 0)] [] (by kernel_rfl) (by kernel_rfl) (by kernel_rfl) trivial ?_
  clear hE hR; intro a u hE hR
  refine opsNil ?_; refine thenN ?_; refine wp_seq ?_; refine wp_seq ?_
  refine enterR (idx := [0, 1, 2, 3, 4]) (by kernel_rfl) ?_
  let kv5 : Value := .agg #[.int .i64 o.kind, .int .i64 o.cap, .int .i64 o.width, .int .i64 o.retry, .int .i64 o.src, .int .i64 o.dst, .int .u32 o.i0, .int .u32 o.i1, .int .u32 o.i2, .int .u32 o.i3]
  refine segV hE hR [(0, .op []), (1, .op []), (2, .op []), (3, .op (hks 2 0 10))] [4] [(53, kv5)] [] (by kernel_rfl) (by kernel_rfl) (by kernel_rfl) trivial ?_
  clear hE hR; intro a u hE hR
  refine opsCons ?_
  refine call hE hR [] 47 #[kv5] (some 54) [] (by kernel_rfl) (by kernel_rfl) trivial (HRt _) (fun _ _ h => by cases h.1) (fun _ h => by cases h.1) ?_
  clear hE
  rintro v u ⟨hv, hb⟩ a hE
  cases hv
  obtain ⟨H2, hH2, hR⟩ := hR.callE hb
  refine opsNil ?_; refine thenN ?_
  refine condT hE (b := true) (by kernel_rfl) rfl ?_
  refine enterR (idx := [0, 1, 2, 3, 4, 5]) (by kernel_rfl) ?_
  refine segV hE hR [(0, .op []), (1, .op []), (2, .op []), (3, .op []), (4, .op [.k 2 0]), (5, .op [])] [] [(9, .int .i64 o.kind)] [] (by kernel_rfl) (by kernel_rfl) (by kernel_rfl) trivial ?_
  clear hE hR; intro a u hE hR
  refine opsNil ?_; refine thenN ?_; refine wp_seq ?_
  refine enterR (idx := [0, 1, 2, 3, 4, 5]) (by kernel_rfl) ?_
  refine segV hE hR [(0, .op []), (1, .op []), (2, .op []), (3, .op []), (4, .op [.k 2 11]), (5, .op [])] [] [(10, .int .u32 v.a)] [] (by kernel_rfl) (by kernel_rfl) (by kernel_rfl) trivial ?_
  clear hE hR; intro a u hE hR
  refine opsNil ?_; refine thenN ?_; refine wp_seq ?_; refine wp_block ?_; refine wp_seq ?_
  refine enterR (idx := [0, 1, 2, 3, 4, 5, 6]) (by kernel_rfl) ?_
  refine segV hE hR [(0, .op []), (1, .op []), (2, .op []), (3, .skip), (4, .skip), (5, .op []), (6, .op [])] [] [(65, .bool false)] [false = !true, false = !true] (by kernel_rfl) (by kernel_rfl) (by kernel_rfl) ⟨rfl, rfl, trivial⟩ ?_
  clear hE hR; intro a u hE hR
  refine opsNil ?_; refine thenN ?_
  refine condF hE (b := false) (by kernel_rfl) rfl ?_
  refine wp_seq ?_
  refine enterR (idx := [0, 1, 2, 3, 4, 5, 6]) (by kernel_rfl) ?_
  refine segV hE hR [(0, .op []), (1, .op []), (2, .op []), (3, .skip), (4, .skip), (5, .op []), (6, .op [])] [] [(104, .bool false)] [false = !true, false = !true] (by kernel_rfl) (by kernel_rfl) (by kernel_rfl) ⟨rfl, rfl, trivial⟩ ?_
  clear hE hR; intro a u hE hR
  refine opsNil ?_; refine thenN ?_
  refine condF hE (b := false) (by kernel_rfl) rfl ?_
  refine wp_seq ?_
  refine enterR (idx := [0, 1, 2, 3, 4, 5, 6, 7, 8, 9, 10]) (by kernel_rfl) ?_
  refine segV hE hR [(0, .op []), (1, .op []), (2, .op []), (3, .skip), (4, .skip), (5, .skip), (6, .skip), (7, .skip), (8, .skip), (9, .op []), (10, .op [])] [] [(136, .bool false)] [false = !true, false = !true, false = !true, false = !true] (by kernel_rfl) (by kernel_rfl) (by kernel_rfl) ⟨rfl, rfl, rfl, rfl, trivial⟩ ?_
  clear hE hR; intro a u hE hR
  refine opsNil ?_; refine thenN ?_
  refine condF hE (b := false) (by kernel_rfl) rfl ?_
  refine wp_seq ?_
  refine enterR (idx := [0, 1, 2, 3, 4, 5, 6, 7, 8, 9, 10, 11, 12, 13, 14, 15, 16, 17, 18]) (by kernel_rfl) ?_
  refine seg0 hE hR [(0, .op []), (1, .op []), (2, .op []), (3, .skip), (4, .skip), (5, .op []), (6, .op []), (7, .op []), (8, .op []), (9, .op []), (10, .op []), (11, .op []), (12, .op []), (13, .op []), (14, .skip), (15, .skip), (16, .op []), (17, .op []), (18, .op [])] [] [(0, .slice (some ⟨g, off, none⟩) L.length c), (3, .pointer (some ⟨H0, 0, none⟩)), (4, .slice none 0 0), (5, .pointer (some ⟨H0 + 1, 0, none⟩)), (6, .int .i64 16), (29, .bool false), (41, .bool false), (7, .slice (some ⟨g2, 0, none⟩) L.length cap2), (8, .pointer (some ⟨g2, 0 + i * 15, none⟩)), (9, .int .i64 o.kind), (53, kv5), (54, .bool true), (10, .int .u32 v.a), (65, .bool false), (104, .bool false), (136, .bool false), (160, .bool false)] [false = false, false = !true, false = !true, false = false, false = false, false = false, false = false, false = false, false = false, false = false, false = !true, false = !true] (by kernel_rfl) (by kernel_rfl) (by kernel_rfl) ⟨rfl, rfl, rfl, rfl, rfl, rfl, rfl, rfl, rfl, rfl, rfl, rfl, trivial⟩ ?_
  clear hE hR; intro a u hE hR
  refine opsNil ?_; refine thenN ?_
  refine condF hE (b := false) (by kernel_rfl) rfl ?_
  refine wp_seq ?_
  refine enterR (idx := [0, 1, 2, 3, 4, 5, 6]) (by kernel_rfl) ?_
  refine segV hE hR [(0, .op []), (1, .op []), (2, .op []), (3, .skip), (4, .skip), (5, .op []), (6, .op [])] [] [(185, .bool false)] [false = !true, false = !true] (by kernel_rfl) (by kernel_rfl) (by kernel_rfl) ⟨rfl, rfl, trivial⟩ ?_
  clear hE hR; intro a u hE hR
  refine opsNil ?_; refine thenN ?_
  refine condF hE (b := false) (by kernel_rfl) rfl ?_
  refine wp_seq ?_
  refine enterR (idx := [0, 1, 2, 3, 4, 5, 6]) (by kernel_rfl) ?_
  refine segV hE hR [(0, .op []), (1, .op []), (2, .op []), (3, .skip), (4, .skip), (5, .op []), (6, .op [])] [] [(205, .bool false)] [false = !true, false = !true] (by kernel_rfl) (by kernel_rfl) (by kernel_rfl) ⟨rfl, rfl, trivial⟩ ?_
  clear hE hR; intro a u hE hR
  refine opsNil ?_; refine thenN ?_
  refine condF hE (b := false) (by kernel_rfl) rfl ?_
  refine wp_seq ?_; refine wp_seq ?_
  refine enterR (idx := [0, 1, 2, 3, 4, 5, 6]) (by kernel_rfl) ?_
  refine segV hE hR [(0, .op []), (1, .op []), (2, .op []), (3, .skip), (4, .skip), (5, .op []), (6, .op [])] [] [(226, .bool false)] [false = !true, false = !true] (by kernel_rfl) (by kernel_rfl) (by kernel_rfl) ⟨rfl, rfl, trivial⟩ ?_
  clear hE hR; intro a u hE hR
  refine opsNil ?_; refine thenN ?_
  refine condF hE (b := false) (by kernel_rfl) rfl ?_
  refine wp_seq ?_
  refine enterR (idx := [0, 1, 2, 3, 4, 5, 6, 7, 8, 9, 10, 11, 12, 13]) (by kernel_rfl) ?_
  refine segV hE hR [(0, .op []), (1, .op []), (2, .op []), (3, .op []), (4, .as [] (.bool true)), (5, .op []), (6, .op []), (7, .op []), (8, .op []), (9, .op []), (10, .op [.k 1 2])] [11, 12, 13] [(239, .bool true), (240, .int .u32 v.a), (243, .int .u32 cv.a)] [true = true, true = true, true = true, true = true, (.bool ((o.kind : Int) == 4) : Value) = (.bool true : Value), true = true, true = true] (by kernel_rfl) (by kernel_rfl) (by kernel_rfl) ⟨rfl, rfl, rfl, rfl, congrArg Value.bool (beq_iff_eq.2 (by omega)), rfl, rfl, trivial⟩ ?_
  clear hE hR; intro a u hE hR
  refine opsCons ?_
  refine call hE hR [] 55 #[.int .i64 4, .int .u32 v.a, .int .u32 cv.a] (some 244) [true = true] (by kernel_rfl) (by kernel_rfl) ⟨rfl, trivial⟩ (hold _) (fun _ _ h => by cases h.1) (fun _ h => by cases h.1) ?_
  clear hE
  rintro v u ⟨hv, hb⟩ a hE
  cases hv
  obtain ⟨H3, hH3, hR⟩ := hR.callE hb
  refine segV hE hR [(12, .op []), (13, .op [])] [] [] [] (by kernel_rfl) (by kernel_rfl) (by kernel_rfl) trivial ?_
  clear hE hR; intro a u hE hR
  refine opsNil ?_; refine thenN ?_
  refine condF hE (b := false) (by kernel_rfl) rfl ?_
  refine enterR (idx := [0, 1, 2, 3, 4, 5, 6, 7, 8, 9, 10, 11, 12, 13]) (by kernel_rfl) ?_
  refine segV hE hR [(0, .op []), (1, .op []), (2, .op []), (3, .skip), (4, .skip), (5, .op []), (6, .op []), (7, .skip), (8, .skip), (9, .skip), (10, .skip), (11, .skip), (12, .op []), (13, .op [])] [] [] [false = !true, false = !true, false = !true, false = !true, false = !true, false = !true, false = !true] (by kernel_rfl) (by kernel_rfl) (by kernel_rfl) ⟨rfl, rfl, rfl, rfl, rfl, rfl, rfl, trivial⟩ ?_
  clear hE hR; intro a u hE hR
  refine opsNil ?_; refine thenN ?_
  refine condF hE (b := false) (by kernel_rfl) rfl ?_
  refine wp_seq ?_
  refine enterR (idx := [0, 1, 2, 3, 4, 5, 6]) (by kernel_rfl) ?_
  refine segV hE hR [(0, .op []), (1, .op []), (2, .op []), (3, .op []), (4, .as [] (.bool true)), (5, .op []), (6, .op [])] [] [(263, .bool true)] [(.bool ((o.kind : Int) == 4) : Value) = (.bool true : Value), true = true, true = true] (by kernel_rfl) (by kernel_rfl) (by kernel_rfl) ⟨congrArg Value.bool (beq_iff_eq.2 (by omega)), rfl, rfl, trivial⟩ ?_
  clear hE hR; intro a u hE hR
  refine opsNil ?_; refine thenN ?_
  refine condT hE (b := true) (by kernel_rfl) rfl ?_
  refine wp_seq ?_
  refine enterR (idx := [0, 1, 2, 3]) (by kernel_rfl) ?_
  let kc6 : List Value := [.int .i64 7, .int .u32 0, .int .u32 0, .int .u32 0, .int .u32 0]
  refine seg hE hR [(0, .op []), (1, .op []), (2, .op []), (3, .op (hks 0 0 5))] [] [(0, .slice (some ⟨g, off, none⟩) L.length c), (3, .pointer (some ⟨H0, 0, none⟩)), (4, .slice (some ⟨g, off, none⟩) L.length c), (5, .pointer (some ⟨H0 + 1, 0, none⟩)), (6, .int .i64 16), (29, .bool false), (41, .bool false), (7, .slice (some ⟨g2, 0, none⟩) L.length cap2), (8, .pointer (some ⟨g2, 0 + i * 15, none⟩)), (9, .int .i64 o.kind), (53, kv5), (54, .bool true), (10, .int .u32 v.a), (65, .bool false), (104, .bool false), (136, .bool false), (160, .bool false), (185, .bool false), (205, .bool false), (226, .bool false), (263, .bool true)] (⟨H0 + 1, 0, kc6, 63, true⟩ :: ⟨H0, 0, kc3, 60, true⟩ :: ⟨g2, 0 + i * 15, kc4, 118, false⟩ :: ⟨g2, 0, pr, 118, false⟩ :: ⟨g2, 0 + i * 15 + 15, po, 118, false⟩ :: (rs ++ ob)) (H3) [] (by kernel_rfl) (by kernel_rfl) (by kernel_rfl) trivial ?_
  clear hE hR; intro a u hE hR
  refine opsNil ?_; refine thenN ?_; refine wp_ret ?_; refine blkR ?_; refine thenR ?_
  refine retF hE hR (hks 0 0 5) (.tuple #[.slice (some ⟨g, off, none⟩) L.length c, .agg #[.int .i64 7, .int .u32 0, .int .u32 0, .int .u32 0, .int .u32 0]]) (by kernel_rfl) (by kernel_rfl) (by kernel_rfl) ?_
  exact ⟨rfl, hR.below (by simp)⟩
set_option maxRecDepth 100000 in
theorem ref_all_yes (g off c : Nat) (L : List IV) (o : Ob) (row : List Vl) (v : Vl) (ck : Int) (i : Nat) (cv : Vl) (cn : Int) (w : World) (hck : -9223372036854775808 ≤ ck ∧ ck ≤ 9223372036854775807) (hK : plainP ck = 17) (hi : i < L.length) (_ : L.length ≤ 8) (HC : ∀ W, Below w.heap.size w W → Calls Try.prog 52 #[.slice (some ⟨g, off, none⟩) L.length c] W (CopyAt L i ⟨o, row, v⟩ W)) (hrt : rightP o = true) (hkk : o.kind = 4) (hva : 0 ≤ v.a ∧ v.a < 4294967296) (hcv : 0 ≤ cv.a ∧ cv.a < 4294967296) (hbit : (((v.a.toNat &&& cv.a.toNat : Nat) : Int) == cv.a) = true) :
    Calls Try.prog 26 #[.slice (some ⟨g, off, none⟩) L.length c, .agg #[.int .i64 ck, .int .i64 ((i : Nat) : Int), .int .u32 cv.a, .int .u32 cv.b, .int .u32 cv.c, .int .u32 cv.d, .int .u32 cn]] w fun e W' => e = .returned (.tuple #[.slice (some ⟨g, off, none⟩) L.length c, resA 0 ⟨v.a, 0, 0, 0⟩]) ∧ Below w.heap.size w W' := by
  have hpl := fun W => plain2B_calls ck W hck
  rw [hK] at hpl
  have HRt := fun W => right2_calls o W
  rw [hrt] at HRt
  have hold := fun W => holdsR5_calls v.a.toNat cv.a.toNat (by omega) (by omega) W
  simp only [Int.toNat_of_nonneg hva.1, Int.toNat_of_nonneg hcv.1] at hold
  rw [hbit] at hold
  let kv1 : Value := .agg #[.int .i64 ck, .int .i64 ((i : Nat) : Int), .int .u32 cv.a, .int .u32 cv.b, .int .u32 cv.c, .int .u32 cv.d, .int .u32 cn]
  refine enterF Try.func26 rfl Try.ntmps26 [(0, .slice (some ⟨g, off, none⟩) L.length c), (1, kv1)] (by kernel_rfl) (by kernel_rfl) ?_
  have hR := Rep.start w
  obtain ⟨H0, hH0⟩ : ∃ x, x = w.heap.size := ⟨_, rfl⟩
  rw [← hH0] at hR
  intro a hE
  refine wp_seq ?_
  refine enterR (idx := [0, 1, 2]) (by kernel_rfl) ?_
  let kc2 : List Value := [.int .i64 0, .int .u32 0, .int .u32 0, .int .u32 0, .int .u32 0]
  let kc3 : List Value := [.int .i64 ck, .int .i64 ((i : Nat) : Int), .int .u32 cv.a, .int .u32 cv.b, .int .u32 cv.c, .int .u32 cv.d, .int .u32 cn]
  refine segU hE hR [(0, .op []), (1, .op []), (2, .op [])] [] [(3, .pointer (some ⟨H0, 0, none⟩)), (4, .slice none 0 0), (5, .pointer (some ⟨H0 + 1, 0, none⟩))] [⟨H0 + 1, 0, kc2, 63, true⟩, ⟨H0, 0, kc3, 60, true⟩] (H0 + 2) [] (by kernel_rfl) (by kernel_rfl) (by kernel_rfl) trivial ?_
  clear hE hR; intro a u hE hR
  refine opsNil ?_; refine thenN ?_; refine wp_seq ?_
  refine enterR (idx := [0, 1, 2, 3]) (by kernel_rfl) ?_
  refine segV hE hR [(0, .op []), (1, .op [.k 1 0])] [2, 3] [(13, .int .i64 ck)] [] (by kernel_rfl) (by kernel_rfl) (by kernel_rfl) trivial ?_
  clear hE hR; intro a u hE hR
  refine opsCons ?_
  refine call hE hR [] 51 #[.int .i64 ck] (some 14) [] (by kernel_rfl) (by kernel_rfl) trivial (hpl _) (fun _ _ h => by cases h.1) (fun _ h => by cases h.1) ?_
  clear hE
  rintro v u ⟨hv, hb⟩ a hE
  cases hv
  obtain ⟨H1, hH1, hR⟩ := hR.callE hb
  refine segV hE hR [(3, .op [])] [] [(6, .int .i64 17)] [] (by kernel_rfl) (by kernel_rfl) (by kernel_rfl) trivial ?_
  clear hE hR; intro a u hE hR
  refine opsNil ?_; refine thenN ?_; refine wp_seq ?_; refine wp_seq ?_
  refine enterR (idx := [0, 1, 2, 3, 4, 5, 6, 7, 8, 9, 10, 11, 12, 13, 14]) (by kernel_rfl) ?_
  refine segV hE hR [(0, .op []), (1, .op []), (2, .op []), (3, .op []), (4, .op []), (5, .op []), (6, .op []), (7, .op []), (8, .op []), (9, .op []), (10, .op []), (11, .op []), (12, .op []), (13, .op []), (14, .op [])] [] [(29, .bool false)] [false = false, false = false, false = false, false = false, true = true, true = true] (by kernel_rfl) (by kernel_rfl) (by kernel_rfl) ⟨rfl, rfl, rfl, rfl, rfl, rfl, trivial⟩ ?_
  clear hE hR; intro a u hE hR
  refine opsNil ?_; refine thenN ?_
  refine condF hE (b := false) (by kernel_rfl) rfl ?_
  refine wp_skip ?_; refine thenN ?_; refine wp_seq ?_; refine wp_seq ?_
  refine enterR (idx := [0, 1, 2, 3, 4, 5, 6, 7, 8, 9]) (by kernel_rfl) ?_
  refine segV hE hR [(0, .op []), (1, .op [.k 1 1]), (2, .as [] (.bool false)), (3, .op []), (4, .op []), (5, .op [.k 1 1]), (6, .op []), (7, .op []), (8, .as [] (.bool false)), (9, .op [])] [] [(41, .bool false)] [(.bool (decide (((i : Nat) : Int) ≥ ((L.length : Nat) : Int))) : Value) = (.bool false : Value), false = false, false = false, false = false, false = false, false = false, (.bool (decide (((i : Nat) : Int) < 0)) : Value) = (.bool false : Value)] (by kernel_rfl) (by kernel_rfl) (by kernel_rfl) ⟨congrArg Value.bool (decide_eq_false (by omega)), rfl, rfl, rfl, rfl, rfl, congrArg Value.bool (decide_eq_false (by omega)), trivial⟩ ?_
  clear hE hR; intro a u hE hR
  refine opsNil ?_; refine thenN ?_
  refine condF hE (b := false) (by kernel_rfl) rfl ?_
  refine wp_skip ?_; refine thenN ?_; refine wp_seq ?_
  refine enterR (idx := [0, 1, 2]) (by kernel_rfl) ?_
  refine segV hE hR [(0, .op [])] [1, 2] [(44, .slice (some ⟨g, off, none⟩) L.length c)] [] (by kernel_rfl) (by kernel_rfl) (by kernel_rfl) trivial ?_
  clear hE hR; intro a u hE hR
  refine opsCons ?_
  refine call hE hR [] 52 #[.slice (some ⟨g, off, none⟩) L.length c] (some 45) [] (by kernel_rfl) (by kernel_rfl) trivial (HC _ (hR.below (by simp))) (by rintro _ _ ⟨_, _, _, _, _, _, _, _, _, _, h, _⟩; cases h) (by rintro _ ⟨_, _, _, _, _, _, _, _, _, _, h, _⟩; cases h) ?_
  clear hE
  rintro v u ⟨g2, cap2, pr, po, gr, cr, rest, rs, ob, L2, hv, hcf, Hc, hRc⟩ a hE
  cases hv
  let kc4 : List Value := [.int .i64 o.kind, .int .i64 o.cap, .int .i64 o.width, .int .i64 o.retry, .int .i64 o.src, .int .i64 o.dst, .int .u32 o.i0, .int .u32 o.i1, .int .u32 o.i2, .int .u32 o.i3, .slice (some ⟨gr, 0, none⟩) row.length cr, .int .u32 v.a, .int .u32 v.b, .int .u32 v.c, .int .u32 v.d]
  replace hR : Rep [(w, fun _ => True)] u Hc (⟨H0 + 1, 0, kc2, 63, true⟩ :: ⟨H0, 0, kc3, 60, true⟩ :: ⟨g2, 0 + i * 15, kc4, 118, false⟩ :: ⟨g2, 0, pr, 118, false⟩ :: ⟨g2, 0 + i * 15 + 15, po, 118, false⟩ :: (rs ++ ob)) [] := hR.join hRc
  refine segV hE hR [(2, .op [])] [] [(7, .slice (some ⟨g2, 0, none⟩) L.length cap2)] [] (by kernel_rfl) (by kernel_rfl) (by kernel_rfl) trivial ?_
  clear hE hR; intro a u hE hR
  refine opsNil ?_; refine thenN ?_; refine wp_seq ?_
  refine enterR (idx := [0, 1, 2, 3, 4]) (by kernel_rfl) ?_
  refine seg0 hE hR [(0, .op []), (1, .op []), (2, .op [.k 1 1]), (3, .alt (.pointer (some ⟨g2, 0 + i * 15, none⟩))), (4, .op [])] [] [(0, .slice (some ⟨g, off, none⟩) L.length c), (3, .pointer (some ⟨H0, 0, none⟩)), (4, .slice none 0 0), (5, .pointer (some ⟨H0 + 1, 0, none⟩)), (6, .int .i64 17), (29, .bool false), (41, .bool false), (7, .slice (some ⟨g2, 0, none⟩) L.length cap2), (8, .pointer (some ⟨g2, 0 + i * 15, none⟩))] [(0 ≤ (((i : Nat) : Int) : Int) ∧ (((i : Nat) : Int) : Int) < ((L.length : Nat) : Int)) ∧ (Try.prog.info? 118).isSome = true, (.pointer (some ⟨g2, 0 + (((i : Nat) : Int)).toNat * Try.prog.cellsOf 118, none⟩) : Value) = (.pointer (some ⟨g2, 0 + i * 15, none⟩) : Value)] (by kernel_rfl) (by kernel_rfl) (by kernel_rfl) ⟨⟨⟨by omega, by omega⟩, by kernel_rfl⟩, by kernel_rfl, trivial⟩ ?_
  clear hE hR; intro a u hE hR
  refine opsNil ?_; refine thenN ?_; refine wp_seq ?_
  refine enterR (idx := [0]) (by kernel_rfl) ?_
  refine segV hE hR [(0, .op [])] [] [(9, .int .i64 0)] [] (by kernel_rfl) (by kernel_rfl) (by kernel_rfl) trivial ?_
  clear hE hR; intro a u hE hR
  refine opsNil ?_; refine thenN ?_; refine wp_seq ?_; refine wp_seq ?_
  refine enterR (idx := [0, 1, 2, 3, 4]) (by kernel_rfl) ?_
  let kv5 : Value := .agg #[.int .i64 o.kind, .int .i64 o.cap, .int .i64 o.width, .int .i64 o.retry, .int .i64 o.src, .int .i64 o.dst, .int .u32 o.i0, .int .u32 o.i1, .int .u32 o.i2, .int .u32 o.i3]
  refine segV hE hR [(0, .op []), (1, .op []), (2, .op []), (3, .op (hks 2 0 10))] [4] [(53, kv5)] [] (by kernel_rfl) (by kernel_rfl) (by kernel_rfl) trivial ?_
  clear hE hR; intro a u hE hR
  refine opsCons ?_
  refine call hE hR [] 47 #[kv5] (some 54) [] (by kernel_rfl) (by kernel_rfl) trivial (HRt _) (fun _ _ h => by cases h.1) (fun _ h => by cases h.1) ?_
  clear hE
  rintro v u ⟨hv, hb⟩ a hE
  cases hv
  obtain ⟨H2, hH2, hR⟩ := hR.callE hb
  refine opsNil ?_; refine thenN ?_
  refine condT hE (b := true) (by kernel_rfl) rfl ?_
  refine enterR (idx := [0, 1, 2, 3, 4, 5]) (by kernel_rfl) ?_
  refine segV hE hR [(0, .op []), (1, .op []), (2, .op []), (3, .op []), (4, .op [.k 2 0]), (5, .op [])] [] [(9, .int .i64 o.kind)] [] (by kernel_rfl) (by kernel_rfl) (by kernel_rfl) trivial ?_
  clear hE hR; intro a u hE hR
  refine opsNil ?_; refine thenN ?_; refine wp_seq ?_
  refine enterR (idx := [0, 1, 2, 3, 4, 5]) (by kernel_rfl) ?_
  refine segV hE hR [(0, .op []), (1, .op []), (2, .op []), (3, .op []), (4, .op [.k 2 11]), (5, .op [])] [] [(10, .int .u32 v.a)] [] (by kernel_rfl) (by kernel_rfl) (by kernel_rfl) trivial ?_
  clear hE hR; intro a u hE hR
  refine opsNil ?_; refine thenN ?_; refine wp_seq ?_; refine wp_block ?_; refine wp_seq ?_
  refine enterR (idx := [0, 1, 2, 3, 4, 5, 6]) (by kernel_rfl) ?_
  refine segV hE hR [(0, .op []), (1, .op []), (2, .op []), (3, .skip), (4, .skip), (5, .op []), (6, .op [])] [] [(65, .bool false)] [false = !true, false = !true] (by kernel_rfl) (by kernel_rfl) (by kernel_rfl) ⟨rfl, rfl, trivial⟩ ?_
  clear hE hR; intro a u hE hR
  refine opsNil ?_; refine thenN ?_
  refine condF hE (b := false) (by kernel_rfl) rfl ?_
  refine wp_seq ?_
  refine enterR (idx := [0, 1, 2, 3, 4, 5, 6]) (by kernel_rfl) ?_
  refine segV hE hR [(0, .op []), (1, .op []), (2, .op []), (3, .skip), (4, .skip), (5, .op []), (6, .op [])] [] [(104, .bool false)] [false = !true, false = !true] (by kernel_rfl) (by kernel_rfl) (by kernel_rfl) ⟨rfl, rfl, trivial⟩ ?_
  clear hE hR; intro a u hE hR
  refine opsNil ?_; refine thenN ?_
  refine condF hE (b := false) (by kernel_rfl) rfl ?_
  refine wp_seq ?_
  refine enterR (idx := [0, 1, 2, 3, 4, 5, 6, 7, 8, 9, 10]) (by kernel_rfl) ?_
  refine segV hE hR [(0, .op []), (1, .op []), (2, .op []), (3, .skip), (4, .skip), (5, .skip), (6, .skip), (7, .skip), (8, .skip), (9, .op []), (10, .op [])] [] [(136, .bool false)] [false = !true, false = !true, false = !true, false = !true] (by kernel_rfl) (by kernel_rfl) (by kernel_rfl) ⟨rfl, rfl, rfl, rfl, trivial⟩ ?_
  clear hE hR; intro a u hE hR
  refine opsNil ?_; refine thenN ?_
  refine condF hE (b := false) (by kernel_rfl) rfl ?_
  refine wp_seq ?_
  refine enterR (idx := [0, 1, 2, 3, 4, 5, 6, 7, 8, 9, 10, 11, 12, 13, 14, 15, 16, 17, 18]) (by kernel_rfl) ?_
  refine seg0 hE hR [(0, .op []), (1, .op []), (2, .op []), (3, .skip), (4, .skip), (5, .op []), (6, .op []), (7, .op []), (8, .op []), (9, .op []), (10, .op []), (11, .op []), (12, .op []), (13, .op []), (14, .skip), (15, .skip), (16, .op []), (17, .op []), (18, .op [])] [] [(0, .slice (some ⟨g, off, none⟩) L.length c), (3, .pointer (some ⟨H0, 0, none⟩)), (4, .slice none 0 0), (5, .pointer (some ⟨H0 + 1, 0, none⟩)), (6, .int .i64 17), (29, .bool false), (41, .bool false), (7, .slice (some ⟨g2, 0, none⟩) L.length cap2), (8, .pointer (some ⟨g2, 0 + i * 15, none⟩)), (9, .int .i64 o.kind), (53, kv5), (54, .bool true), (10, .int .u32 v.a), (65, .bool false), (104, .bool false), (136, .bool false), (160, .bool false)] [false = false, false = !true, false = !true, false = false, false = false, false = false, false = false, false = false, false = false, false = false, false = !true, false = !true] (by kernel_rfl) (by kernel_rfl) (by kernel_rfl) ⟨rfl, rfl, rfl, rfl, rfl, rfl, rfl, rfl, rfl, rfl, rfl, rfl, trivial⟩ ?_
  clear hE hR; intro a u hE hR
  refine opsNil ?_; refine thenN ?_
  refine condF hE (b := false) (by kernel_rfl) rfl ?_
  refine wp_seq ?_
  refine enterR (idx := [0, 1, 2, 3, 4, 5, 6]) (by kernel_rfl) ?_
  refine segV hE hR [(0, .op []), (1, .op []), (2, .op []), (3, .skip), (4, .skip), (5, .op []), (6, .op [])] [] [(185, .bool false)] [false = !true, false = !true] (by kernel_rfl) (by kernel_rfl) (by kernel_rfl) ⟨rfl, rfl, trivial⟩ ?_
  clear hE hR; intro a u hE hR
  refine opsNil ?_; refine thenN ?_
  refine condF hE (b := false) (by kernel_rfl) rfl ?_
  refine wp_seq ?_
  refine enterR (idx := [0, 1, 2, 3, 4, 5, 6]) (by kernel_rfl) ?_
  refine segV hE hR [(0, .op []), (1, .op []), (2, .op []), (3, .skip), (4, .skip), (5, .op []), (6, .op [])] [] [(205, .bool false)] [false = !true, false = !true] (by kernel_rfl) (by kernel_rfl) (by kernel_rfl) ⟨rfl, rfl, trivial⟩ ?_
  clear hE hR; intro a u hE hR
  refine opsNil ?_; refine thenN ?_
  refine condF hE (b := false) (by kernel_rfl) rfl ?_
  refine wp_seq ?_; refine wp_seq ?_
  refine enterR (idx := [0, 1, 2, 3, 4, 5, 6]) (by kernel_rfl) ?_
  refine segV hE hR [(0, .op []), (1, .op []), (2, .op []), (3, .skip), (4, .skip), (5, .op []), (6, .op [])] [] [(226, .bool false)] [false = !true, false = !true] (by kernel_rfl) (by kernel_rfl) (by kernel_rfl) ⟨rfl, rfl, trivial⟩ ?_
  clear hE hR; intro a u hE hR
  refine opsNil ?_; refine thenN ?_
  refine condF hE (b := false) (by kernel_rfl) rfl ?_
  refine wp_seq ?_
  refine enterR (idx := [0, 1, 2, 3, 4, 5, 6, 7, 8, 9, 10, 11, 12, 13]) (by kernel_rfl) ?_
  refine segV hE hR [(0, .op []), (1, .op []), (2, .op []), (3, .skip), (4, .skip), (5, .op []), (6, .op []), (7, .skip), (8, .skip), (9, .skip), (10, .skip), (11, .skip), (12, .op []), (13, .op [])] [] [] [false = !true, false = !true, false = !true, false = !true, false = !true, false = !true, false = !true] (by kernel_rfl) (by kernel_rfl) (by kernel_rfl) ⟨rfl, rfl, rfl, rfl, rfl, rfl, rfl, trivial⟩ ?_
  clear hE hR; intro a u hE hR
  refine opsNil ?_; refine thenN ?_
  refine condF hE (b := false) (by kernel_rfl) rfl ?_
  refine enterR (idx := [0, 1, 2, 3, 4, 5, 6, 7, 8, 9, 10, 11, 12, 13]) (by kernel_rfl) ?_
  refine segV hE hR [(0, .op []), (1, .op []), (2, .op []), (3, .op []), (4, .as [] (.bool true)), (5, .op []), (6, .op []), (7, .op []), (8, .op []), (9, .op []), (10, .op [.k 1 2])] [11, 12, 13] [(252, .bool true), (253, .int .u32 v.a), (256, .int .u32 cv.a)] [true = true, true = true, true = true, true = true, (.bool ((o.kind : Int) == 4) : Value) = (.bool true : Value), true = true, true = true] (by kernel_rfl) (by kernel_rfl) (by kernel_rfl) ⟨rfl, rfl, rfl, rfl, congrArg Value.bool (beq_iff_eq.2 (by omega)), rfl, rfl, trivial⟩ ?_
  clear hE hR; intro a u hE hR
  refine opsCons ?_
  refine call hE hR [] 55 #[.int .i64 5, .int .u32 v.a, .int .u32 cv.a] (some 257) [true = true] (by kernel_rfl) (by kernel_rfl) ⟨rfl, trivial⟩ (hold _) (fun _ _ h => by cases h.1) (fun _ h => by cases h.1) ?_
  clear hE
  rintro v u ⟨hv, hb⟩ a hE
  cases hv
  obtain ⟨H3, hH3, hR⟩ := hR.callE hb
  refine segV hE hR [(12, .op []), (13, .op [])] [] [(226, .bool true)] [] (by kernel_rfl) (by kernel_rfl) (by kernel_rfl) trivial ?_
  clear hE hR; intro a u hE hR
  refine opsNil ?_; refine thenN ?_
  refine condT hE (b := true) (by kernel_rfl) rfl ?_
  refine wp_seq ?_
  refine enterR (idx := [0, 1, 2, 3, 4, 5]) (by kernel_rfl) ?_
  let kc6 : List Value := [.int .i64 0, .int .u32 v.a, .int .u32 0, .int .u32 0, .int .u32 0]
  refine segU hE hR [(0, .op []), (1, .op []), (2, .op []), (3, .op []), (4, .op []), (5, .op (hks 0 0 5))] [] [(4, .slice (some ⟨g, off, none⟩) L.length c)] (⟨H0 + 1, 0, kc6, 63, true⟩ :: ⟨H0, 0, kc3, 60, true⟩ :: ⟨g2, 0 + i * 15, kc4, 118, false⟩ :: ⟨g2, 0, pr, 118, false⟩ :: ⟨g2, 0 + i * 15 + 15, po, 118, false⟩ :: (rs ++ ob)) (H3) [] (by kernel_rfl) (by kernel_rfl) (by kernel_rfl) trivial ?_
  clear hE hR; intro a u hE hR
  refine opsNil ?_; refine thenN ?_; refine wp_ret ?_; refine blkR ?_; refine thenR ?_
  refine retF hE hR (hks 0 0 5) (.tuple #[.slice (some ⟨g, off, none⟩) L.length c, .agg #[.int .i64 0, .int .u32 v.a, .int .u32 0, .int .u32 0, .int .u32 0]]) (by kernel_rfl) (by kernel_rfl) (by kernel_rfl) ?_
  exact ⟨rfl, hR.below (by simp)⟩
set_option maxRecDepth 100000 in
theorem ref_all_no (g off c : Nat) (L : List IV) (o : Ob) (row : List Vl) (v : Vl) (ck : Int) (i : Nat) (cv : Vl) (cn : Int) (w : World) (hck : -9223372036854775808 ≤ ck ∧ ck ≤ 9223372036854775807) (hK : plainP ck = 17) (hi : i < L.length) (_ : L.length ≤ 8) (HC : ∀ W, Below w.heap.size w W → Calls Try.prog 52 #[.slice (some ⟨g, off, none⟩) L.length c] W (CopyAt L i ⟨o, row, v⟩ W)) (hrt : rightP o = true) (hkk : o.kind = 4) (hva : 0 ≤ v.a ∧ v.a < 4294967296) (hcv : 0 ≤ cv.a ∧ cv.a < 4294967296) (hbit : (((v.a.toNat &&& cv.a.toNat : Nat) : Int) == cv.a) = false) :
    Calls Try.prog 26 #[.slice (some ⟨g, off, none⟩) L.length c, .agg #[.int .i64 ck, .int .i64 ((i : Nat) : Int), .int .u32 cv.a, .int .u32 cv.b, .int .u32 cv.c, .int .u32 cv.d, .int .u32 cn]] w fun e W' => e = .returned (.tuple #[.slice (some ⟨g, off, none⟩) L.length c, resA 7 Vl.z]) ∧ Below w.heap.size w W' := by
  have hpl := fun W => plain2B_calls ck W hck
  rw [hK] at hpl
  have HRt := fun W => right2_calls o W
  rw [hrt] at HRt
  have hold := fun W => holdsR5_calls v.a.toNat cv.a.toNat (by omega) (by omega) W
  simp only [Int.toNat_of_nonneg hva.1, Int.toNat_of_nonneg hcv.1] at hold
  rw [hbit] at hold
  let kv1 : Value := .agg #[.int .i64 ck, .int .i64 ((i : Nat) : Int), .int .u32 cv.a, .int .u32 cv.b, .int .u32 cv.c, .int .u32 cv.d, .int .u32 cn]
  refine enterF Try.func26 rfl Try.ntmps26 [(0, .slice (some ⟨g, off, none⟩) L.length c), (1, kv1)] (by kernel_rfl) (by kernel_rfl) ?_
  have hR := Rep.start w
  obtain ⟨H0, hH0⟩ : ∃ x, x = w.heap.size := ⟨_, rfl⟩
  rw [← hH0] at hR
  intro a hE
  refine wp_seq ?_
  refine enterR (idx := [0, 1, 2]) (by kernel_rfl) ?_
  let kc2 : List Value := [.int .i64 0, .int .u32 0, .int .u32 0, .int .u32 0, .int .u32 0]
  let kc3 : List Value := [.int .i64 ck, .int .i64 ((i : Nat) : Int), .int .u32 cv.a, .int .u32 cv.b, .int .u32 cv.c, .int .u32 cv.d, .int .u32 cn]
  refine segU hE hR [(0, .op []), (1, .op []), (2, .op [])] [] [(3, .pointer (some ⟨H0, 0, none⟩)), (4, .slice none 0 0), (5, .pointer (some ⟨H0 + 1, 0, none⟩))] [⟨H0 + 1, 0, kc2, 63, true⟩, ⟨H0, 0, kc3, 60, true⟩] (H0 + 2) [] (by kernel_rfl) (by kernel_rfl) (by kernel_rfl) trivial ?_
  clear hE hR; intro a u hE hR
  refine opsNil ?_; refine thenN ?_; refine wp_seq ?_
  refine enterR (idx := [0, 1, 2, 3]) (by kernel_rfl) ?_
  refine segV hE hR [(0, .op []), (1, .op [.k 1 0])] [2, 3] [(13, .int .i64 ck)] [] (by kernel_rfl) (by kernel_rfl) (by kernel_rfl) trivial ?_
  clear hE hR; intro a u hE hR
  refine opsCons ?_
  refine call hE hR [] 51 #[.int .i64 ck] (some 14) [] (by kernel_rfl) (by kernel_rfl) trivial (hpl _) (fun _ _ h => by cases h.1) (fun _ h => by cases h.1) ?_
  clear hE
  rintro v u ⟨hv, hb⟩ a hE
  cases hv
  obtain ⟨H1, hH1, hR⟩ := hR.callE hb
  refine segV hE hR [(3, .op [])] [] [(6, .int .i64 17)] [] (by kernel_rfl) (by kernel_rfl) (by kernel_rfl) trivial ?_
  clear hE hR; intro a u hE hR
  refine opsNil ?_; refine thenN ?_; refine wp_seq ?_; refine wp_seq ?_
  refine enterR (idx := [0, 1, 2, 3, 4, 5, 6, 7, 8, 9, 10, 11, 12, 13, 14]) (by kernel_rfl) ?_
  refine segV hE hR [(0, .op []), (1, .op []), (2, .op []), (3, .op []), (4, .op []), (5, .op []), (6, .op []), (7, .op []), (8, .op []), (9, .op []), (10, .op []), (11, .op []), (12, .op []), (13, .op []), (14, .op [])] [] [(29, .bool false)] [false = false, false = false, false = false, false = false, true = true, true = true] (by kernel_rfl) (by kernel_rfl) (by kernel_rfl) ⟨rfl, rfl, rfl, rfl, rfl, rfl, trivial⟩ ?_
  clear hE hR; intro a u hE hR
  refine opsNil ?_; refine thenN ?_
  refine condF hE (b := false) (by kernel_rfl) rfl ?_
  refine wp_skip ?_; refine thenN ?_; refine wp_seq ?_; refine wp_seq ?_
  refine enterR (idx := [0, 1, 2, 3, 4, 5, 6, 7, 8, 9]) (by kernel_rfl) ?_
  refine segV hE hR [(0, .op []), (1, .op [.k 1 1]), (2, .as [] (.bool false)), (3, .op []), (4, .op []), (5, .op [.k 1 1]), (6, .op []), (7, .op []), (8, .as [] (.bool false)), (9, .op [])] [] [(41, .bool false)] [(.bool (decide (((i : Nat) : Int) ≥ ((L.length : Nat) : Int))) : Value) = (.bool false : Value), false = false, false = false, false = false, false = false, false = false, (.bool (decide (((i : Nat) : Int) < 0)) : Value) = (.bool false : Value)] (by kernel_rfl) (by kernel_rfl) (by kernel_rfl) ⟨congrArg Value.bool (decide_eq_false (by omega)), rfl, rfl, rfl, rfl, rfl, congrArg Value.bool (decide_eq_false (by omega)), trivial⟩ ?_
  clear hE hR; intro a u hE hR
  refine opsNil ?_; refine thenN ?_
  refine condF hE (b := false) (by kernel_rfl) rfl ?_
  refine wp_skip ?_; refine thenN ?_; refine wp_seq ?_
  refine enterR (idx := [0, 1, 2]) (by kernel_rfl) ?_
  refine segV hE hR [(0, .op [])] [1, 2] [(44, .slice (some ⟨g, off, none⟩) L.length c)] [] (by kernel_rfl) (by kernel_rfl) (by kernel_rfl) trivial ?_
  clear hE hR; intro a u hE hR
  refine opsCons ?_
  refine call hE hR [] 52 #[.slice (some ⟨g, off, none⟩) L.length c] (some 45) [] (by kernel_rfl) (by kernel_rfl) trivial (HC _ (hR.below (by simp))) (by rintro _ _ ⟨_, _, _, _, _, _, _, _, _, _, h, _⟩; cases h) (by rintro _ ⟨_, _, _, _, _, _, _, _, _, _, h, _⟩; cases h) ?_
  clear hE
  rintro v u ⟨g2, cap2, pr, po, gr, cr, rest, rs, ob, L2, hv, hcf, Hc, hRc⟩ a hE
  cases hv
  let kc4 : List Value := [.int .i64 o.kind, .int .i64 o.cap, .int .i64 o.width, .int .i64 o.retry, .int .i64 o.src, .int .i64 o.dst, .int .u32 o.i0, .int .u32 o.i1, .int .u32 o.i2, .int .u32 o.i3, .slice (some ⟨gr, 0, none⟩) row.length cr, .int .u32 v.a, .int .u32 v.b, .int .u32 v.c, .int .u32 v.d]
  replace hR : Rep [(w, fun _ => True)] u Hc (⟨H0 + 1, 0, kc2, 63, true⟩ :: ⟨H0, 0, kc3, 60, true⟩ :: ⟨g2, 0 + i * 15, kc4, 118, false⟩ :: ⟨g2, 0, pr, 118, false⟩ :: ⟨g2, 0 + i * 15 + 15, po, 118, false⟩ :: (rs ++ ob)) [] := hR.join hRc
  refine segV hE hR [(2, .op [])] [] [(7, .slice (some ⟨g2, 0, none⟩) L.length cap2)] [] (by kernel_rfl) (by kernel_rfl) (by kernel_rfl) trivial ?_
  clear hE hR; intro a u hE hR
  refine opsNil ?_; refine thenN ?_; refine wp_seq ?_
  refine enterR (idx := [0, 1, 2, 3, 4]) (by kernel_rfl) ?_
  refine seg0 hE hR [(0, .op []), (1, .op []), (2, .op [.k 1 1]), (3, .alt (.pointer (some ⟨g2, 0 + i * 15, none⟩))), (4, .op [])] [] [(0, .slice (some ⟨g, off, none⟩) L.length c), (3, .pointer (some ⟨H0, 0, none⟩)), (4, .slice none 0 0), (5, .pointer (some ⟨H0 + 1, 0, none⟩)), (6, .int .i64 17), (29, .bool false), (41, .bool false), (7, .slice (some ⟨g2, 0, none⟩) L.length cap2), (8, .pointer (some ⟨g2, 0 + i * 15, none⟩))] [(0 ≤ (((i : Nat) : Int) : Int) ∧ (((i : Nat) : Int) : Int) < ((L.length : Nat) : Int)) ∧ (Try.prog.info? 118).isSome = true, (.pointer (some ⟨g2, 0 + (((i : Nat) : Int)).toNat * Try.prog.cellsOf 118, none⟩) : Value) = (.pointer (some ⟨g2, 0 + i * 15, none⟩) : Value)] (by kernel_rfl) (by kernel_rfl) (by kernel_rfl) ⟨⟨⟨by omega, by omega⟩, by kernel_rfl⟩, by kernel_rfl, trivial⟩ ?_
  clear hE hR; intro a u hE hR
  refine opsNil ?_; refine thenN ?_; refine wp_seq ?_
  refine enterR (idx := [0]) (by kernel_rfl) ?_
  refine segV hE hR [(0, .op [])] [] [(9, .int .i64 0)] [] (by kernel_rfl) (by kernel_rfl) (by kernel_rfl) trivial ?_
  clear hE hR; intro a u hE hR
  refine opsNil ?_; refine thenN ?_; refine wp_seq ?_; refine wp_seq ?_
  refine enterR (idx := [0, 1, 2, 3, 4]) (by kernel_rfl) ?_
  let kv5 : Value := .agg #[.int .i64 o.kind, .int .i64 o.cap, .int .i64 o.width, .int .i64 o.retry, .int .i64 o.src, .int .i64 o.dst, .int .u32 o.i0, .int .u32 o.i1, .int .u32 o.i2, .int .u32 o.i3]
  refine segV hE hR [(0, .op []), (1, .op []), (2, .op []), (3, .op (hks 2 0 10))] [4] [(53, kv5)] [] (by kernel_rfl) (by kernel_rfl) (by kernel_rfl) trivial ?_
  clear hE hR; intro a u hE hR
  refine opsCons ?_
  refine call hE hR [] 47 #[kv5] (some 54) [] (by kernel_rfl) (by kernel_rfl) trivial (HRt _) (fun _ _ h => by cases h.1) (fun _ h => by cases h.1) ?_
  clear hE
  rintro v u ⟨hv, hb⟩ a hE
  cases hv
  obtain ⟨H2, hH2, hR⟩ := hR.callE hb
  refine opsNil ?_; refine thenN ?_
  refine condT hE (b := true) (by kernel_rfl) rfl ?_
  refine enterR (idx := [0, 1, 2, 3, 4, 5]) (by kernel_rfl) ?_
  refine segV hE hR [(0, .op []), (1, .op []), (2, .op []), (3, .op []), (4, .op [.k 2 0]), (5, .op [])] [] [(9, .int .i64 o.kind)] [] (by kernel_rfl) (by kernel_rfl) (by kernel_rfl) trivial ?_
  clear hE hR; intro a u hE hR
  refine opsNil ?_; refine thenN ?_; refine wp_seq ?_
  refine enterR (idx := [0, 1, 2, 3, 4, 5]) (by kernel_rfl) ?_
  refine segV hE hR [(0, .op []), (1, .op []), (2, .op []), (3, .op []), (4, .op [.k 2 11]), (5, .op [])] [] [(10, .int .u32 v.a)] [] (by kernel_rfl) (by kernel_rfl) (by kernel_rfl) trivial ?_
  clear hE hR; intro a u hE hR
  refine opsNil ?_; refine thenN ?_; refine wp_seq ?_; refine wp_block ?_; refine wp_seq ?_
  refine enterR (idx := [0, 1, 2, 3, 4, 5, 6]) (by kernel_rfl) ?_
  refine segV hE hR [(0, .op []), (1, .op []), (2, .op []), (3, .skip), (4, .skip), (5, .op []), (6, .op [])] [] [(65, .bool false)] [false = !true, false = !true] (by kernel_rfl) (by kernel_rfl) (by kernel_rfl) ⟨rfl, rfl, trivial⟩ ?_
  clear hE hR; intro a u hE hR
  refine opsNil ?_; refine thenN ?_
  refine condF hE (b := false) (by kernel_rfl) rfl ?_
  refine wp_seq ?_
  refine enterR (idx := [0, 1, 2, 3, 4, 5, 6]) (by kernel_rfl) ?_
  refine segV hE hR [(0, .op []), (1, .op []), (2, .op []), (3, .skip), (4, .skip), (5, .op []), (6, .op [])] [] [(104, .bool false)] [false = !true, false = !true] (by kernel_rfl) (by kernel_rfl) (by kernel_rfl) ⟨rfl, rfl, trivial⟩ ?_
  clear hE hR; intro a u hE hR
  refine opsNil ?_; refine thenN ?_
  refine condF hE (b := false) (by kernel_rfl) rfl ?_
  refine wp_seq ?_
  refine enterR (idx := [0, 1, 2, 3, 4, 5, 6, 7, 8, 9, 10]) (by kernel_rfl) ?_
  refine segV hE hR [(0, .op []), (1, .op []), (2, .op []), (3, .skip), (4, .skip), (5, .skip), (6, .skip), (7, .skip), (8, .skip), (9, .op []), (10, .op [])] [] [(136, .bool false)] [false = !true, false = !true, false = !true, false = !true] (by kernel_rfl) (by kernel_rfl) (by kernel_rfl) ⟨rfl, rfl, rfl, rfl, trivial⟩ ?_
  clear hE hR; intro a u hE hR
  refine opsNil ?_; refine thenN ?_
  refine condF hE (b := false) (by kernel_rfl) rfl ?_
  refine wp_seq ?_
  refine enterR (idx := [0, 1, 2, 3, 4, 5, 6, 7, 8, 9, 10, 11, 12, 13, 14, 15, 16, 17, 18]) (by kernel_rfl) ?_
  refine seg0 hE hR [(0, .op []), (1, .op []), (2, .op []), (3, .skip), (4, .skip), (5, .op []), (6, .op []), (7, .op []), (8, .op []), (9, .op []), (10, .op []), (11, .op []), (12, .op []), (13, .op []), (14, .skip), (15, .skip), (16, .op []), (17, .op []), (18, .op [])] [] [(0, .slice (some ⟨g, off, none⟩) L.length c), (3, .pointer (some ⟨H0, 0, none⟩)), (4, .slice none 0 0), (5, .pointer (some ⟨H0 + 1, 0, none⟩)), (6, .int .i64 17), (29, .bool false), (41, .bool false), (7, .slice (some ⟨g2, 0, none⟩) L.length cap2), (8, .pointer (some ⟨g2, 0 + i * 15, none⟩)), (9, .int .i64 o.kind), (53, kv5), (54, .bool true), (10, .int .u32 v.a), (65, .bool false), (104, .bool false), (136, .bool false), (160, .bool false)] [false = false, false = !true, false = !true, false = false, false = false, false = false, false = false, false = false, false = false, false = false, false = !true, false = !true] (by kernel_rfl) (by kernel_rfl) (by kernel_rfl) ⟨rfl, rfl, rfl, rfl, rfl, rfl, rfl, rfl, rfl, rfl, rfl, rfl, trivial⟩ ?_
  clear hE hR; intro a u hE hR
  refine opsNil ?_; refine thenN ?_
  refine condF hE (b := false) (by kernel_rfl) rfl ?_
  refine wp_seq ?_
  refine enterR (idx := [0, 1, 2, 3, 4, 5, 6]) (by kernel_rfl) ?_
  refine segV hE hR [(0, .op []), (1, .op []), (2, .op []), (3, .skip), (4, .skip), (5, .op []), (6, .op [])] [] [(185, .bool false)] [false = !true, false = !true] (by kernel_rfl) (by kernel_rfl) (by kernel_rfl) ⟨rfl, rfl, trivial⟩ ?_
  clear hE hR; intro a u hE hR
  refine opsNil ?_; refine thenN ?_
  refine condF hE (b := false) (by kernel_rfl) rfl ?_
  refine wp_seq ?_
  refine enterR (idx := [0, 1, 2, 3, 4, 5, 6]) (by kernel_rfl) ?_
  refine segV hE hR [(0, .op []), (1, .op []), (2, .op []), (3, .skip), (4, .skip), (5, .op []), (6, .op [])] [] [(205, .bool false)] [false = !true, false = !true] (by kernel_rfl) (by kernel_rfl) (by kernel_rfl) ⟨rfl, rfl, trivial⟩ ?_
  clear hE hR; intro a u hE hR
  refine opsNil ?_; refine thenN ?_
  refine condF hE (b := false) (by kernel_rfl) rfl ?_
  refine wp_seq ?_; refine wp_seq ?_
  refine enterR (idx := [0, 1, 2, 3, 4, 5, 6]) (by kernel_rfl) ?_
  refine segV hE hR [(0, .op []), (1, .op []), (2, .op []), (3, .skip), (4, .skip), (5, .op []), (6, .op [])] [] [(226, .bool false)] [false = !true, false = !true] (by kernel_rfl) (by kernel_rfl) (by kernel_rfl) ⟨rfl, rfl, trivial⟩ ?_
  clear hE hR; intro a u hE hR
  refine opsNil ?_; refine thenN ?_
  refine condF hE (b := false) (by kernel_rfl) rfl ?_
  refine wp_seq ?_
  refine enterR (idx := [0, 1, 2, 3, 4, 5, 6, 7, 8, 9, 10, 11, 12, 13]) (by kernel_rfl) ?_
  refine segV hE hR [(0, .op []), (1, .op []), (2, .op []), (3, .skip), (4, .skip), (5, .op []), (6, .op []), (7, .skip), (8, .skip), (9, .skip), (10, .skip), (11, .skip), (12, .op []), (13, .op [])] [] [] [false = !true, false = !true, false = !true, false = !true, false = !true, false = !true, false = !true] (by kernel_rfl) (by kernel_rfl) (by kernel_rfl) ⟨rfl, rfl, rfl, rfl, rfl, rfl, rfl, trivial⟩ ?_
  clear hE hR; intro a u hE hR
  refine opsNil ?_; refine thenN ?_
  refine condF hE (b := false) (by kernel_rfl) rfl ?_
  refine enterR (idx := [0, 1, 2, 3, 4, 5, 6, 7, 8, 9, 10, 11, 12, 13]) (by kernel_rfl) ?_
  refine segV hE hR [(0, .op []), (1, .op []), (2, .op []), (3, .op []), (4, .as [] (.bool true)), (5, .op []), (6, .op []), (7, .op []), (8, .op []), (9, .op []), (10, .op [.k 1 2])] [11, 12, 13] [(252, .bool true), (253, .int .u32 v.a), (256, .int .u32 cv.a)] [true = true, true = true, true = true, true = true, (.bool ((o.kind : Int) == 4) : Value) = (.bool true : Value), true = true, true = true] (by kernel_rfl) (by kernel_rfl) (by kernel_rfl) ⟨rfl, rfl, rfl, rfl, congrArg Value.bool (beq_iff_eq.2 (by omega)), rfl, rfl, trivial⟩ ?_
  clear hE hR; intro a u hE hR
  refine opsCons ?_
  refine call hE hR [] 55 #[.int .i64 5, .int .u32 v.a, .int .u32 cv.a] (some 257) [true = true] (by kernel_rfl) (by kernel_rfl) ⟨rfl, trivial⟩ (hold _) (fun _ _ h => by cases h.1) (fun _ h => by cases h.1) ?_
  clear hE
  rintro v u ⟨hv, hb⟩ a hE
  cases hv
  obtain ⟨H3, hH3, hR⟩ := hR.callE hb
  refine segV hE hR [(12, .op []), (13, .op [])] [] [] [] (by kernel_rfl) (by kernel_rfl) (by kernel_rfl) trivial ?_
  clear hE hR; intro a u hE hR
  refine opsNil ?_; refine thenN ?_
  refine condF hE (b := false) (by kernel_rfl) rfl ?_
  refine wp_seq ?_
  refine enterR (idx := [0, 1, 2, 3, 4, 5, 6]) (by kernel_rfl) ?_
  refine segV hE hR [(0, .op []), (1, .op []), (2, .op []), (3, .op []), (4, .as [] (.bool true)), (5, .op []), (6, .op [])] [] [(263, .bool true)] [(.bool ((o.kind : Int) == 4) : Value) = (.bool true : Value), true = true, true = true] (by kernel_rfl) (by kernel_rfl) (by kernel_rfl) ⟨congrArg Value.bool (beq_iff_eq.2 (by omega)), rfl, rfl, trivial⟩ ?_
  clear hE hR; intro a u hE hR
  refine opsNil ?_; refine thenN ?_
  refine condT hE (b := true) (by kernel_rfl) rfl ?_
  refine wp_seq ?_
  refine enterR (idx := [0, 1, 2, 3]) (by kernel_rfl) ?_
  let kc6 : List Value := [.int .i64 7, .int .u32 0, .int .u32 0, .int .u32 0, .int .u32 0]
  refine seg hE hR [(0, .op []), (1, .op []), (2, .op []), (3, .op (hks 0 0 5))] [] [(0, .slice (some ⟨g, off, none⟩) L.length c), (3, .pointer (some ⟨H0, 0, none⟩)), (4, .slice (some ⟨g, off, none⟩) L.length c), (5, .pointer (some ⟨H0 + 1, 0, none⟩)), (6, .int .i64 17), (29, .bool false), (41, .bool false), (7, .slice (some ⟨g2, 0, none⟩) L.length cap2), (8, .pointer (some ⟨g2, 0 + i * 15, none⟩)), (9, .int .i64 o.kind), (53, kv5), (54, .bool true), (10, .int .u32 v.a), (65, .bool false), (104, .bool false), (136, .bool false), (160, .bool false), (185, .bool false), (205, .bool false), (226, .bool false), (263, .bool true)] (⟨H0 + 1, 0, kc6, 63, true⟩ :: ⟨H0, 0, kc3, 60, true⟩ :: ⟨g2, 0 + i * 15, kc4, 118, false⟩ :: ⟨g2, 0, pr, 118, false⟩ :: ⟨g2, 0 + i * 15 + 15, po, 118, false⟩ :: (rs ++ ob)) (H3) [] (by kernel_rfl) (by kernel_rfl) (by kernel_rfl) trivial ?_
  clear hE hR; intro a u hE hR
  refine opsNil ?_; refine thenN ?_; refine wp_ret ?_; refine blkR ?_; refine thenR ?_
  refine retF hE hR (hks 0 0 5) (.tuple #[.slice (some ⟨g, off, none⟩) L.length c, .agg #[.int .i64 7, .int .u32 0, .int .u32 0, .int .u32 0, .int .u32 0]]) (by kernel_rfl) (by kernel_rfl) (by kernel_rfl) ?_
  exact ⟨rfl, hR.below (by simp)⟩
end Go.Proofs.Ytkfaaeklkplhnaa
