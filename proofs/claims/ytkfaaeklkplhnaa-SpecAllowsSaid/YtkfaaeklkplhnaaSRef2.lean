/- The document's Do: calls that are none. Printed by gen_ref.py. -/
import Derived.Test.YtkfaaeklkplhnaaSRefP
namespace Go.Proofs.Ytkfaaeklkplhnaa
open Go.RowKit

set_option maxRecDepth 100000 in
set_option maxHeartbeats 2000000 in
theorem ref_bad (A : Option Addr) (n c : Nat) (co : Int) (ck : Int) (cv : Vl) (cn : Int) (w : World) (hck : -9223372036854775808 ≤ ck ∧ ck ≤ 9223372036854775807) (hok : kindOk (plainP ck) = false) :
    Calls Try.prog 26 #[.slice A n c, .agg #[.int .i64 ck, .int .i64 co, .int .u32 cv.a, .int .u32 cv.b, .int .u32 cv.c, .int .u32 cv.d, .int .u32 cn]] w fun e W' => e = .returned (.tuple #[.slice A n c, resA 1 Vl.z]) ∧ Below w.heap.size w W' := by
  obtain ⟨K, hK⟩ : ∃ K, K = plainP ck := ⟨_, rfl⟩
  have hpl := fun W => plain2B_calls ck W hck
  rw [← hK] at hok hpl
  simp only [kindOk, decide_eq_false_iff_not] at hok
  let kv1 : Value := .agg #[.int .i64 ck, .int .i64 co, .int .u32 cv.a, .int .u32 cv.b, .int .u32 cv.c, .int .u32 cv.d, .int .u32 cn]
  refine enterF Try.func26 rfl Try.ntmps26 [(0, .slice A n c), (1, kv1)] (by kernel_rfl) (by kernel_rfl) ?_
  have hR := Rep.start w
  obtain ⟨H0, hH0⟩ : ∃ x, x = w.heap.size := ⟨_, rfl⟩
  rw [← hH0] at hR
  intro a hE
  refine wp_seq ?_
  refine enterR (idx := [0, 1, 2]) (by kernel_rfl) ?_
  let kc2 : List Value := [.int .i64 0, .int .u32 0, .int .u32 0, .int .u32 0, .int .u32 0]
  let kc3 : List Value := [.int .i64 ck, .int .i64 co, .int .u32 cv.a, .int .u32 cv.b, .int .u32 cv.c, .int .u32 cv.d, .int .u32 cn]
  refine segU hE hR [(0, .op []), (1, .op []), (2, .op [])] [] [(3, .pointer (some ⟨H0, 0, none⟩)), (4, .slice none 0 0), (5, .pointer (some ⟨H0 + 1, 0, none⟩))] [⟨H0 + 1, 0, kc2, 63, true⟩, ⟨H0, 0, kc3, 60, true⟩] (H0 + 2) [] (by kernel_rfl) (by kernel_rfl) (by kernel_rfl) trivial ?_
  clear hE hR; intro a u hE hR
  refine opsNil ?_; refine thenN ?_; refine wp_seq ?_
  refine enterR (idx := [0, 1, 2, 3]) (by kernel_rfl) ?_
  refine segV hE hR [(0, .op []), (1, .op [.k 1 0])] [2, 3] [(13, .int .i64 ck)] [] (by kernel_rfl) (by kernel_rfl) (by kernel_rfl) trivial ?_
  clear hE hR; intro a u hE hR
  refine opsCons ?_
  refine call hE hR [] 51 #[.int .i64 ck] (some 14) [] (by kernel_rfl) (by kernel_rfl) trivial (hpl _) (fun _ _ h => by cases h.1) (fun _ h => by cases h.1) ?_
  clear hE
  rintro v u ⟨hv, hb⟩ a hE
  cases hv
  obtain ⟨H1, hH1, hR⟩ := hR.callE hb
  refine segV hE hR [(3, .op [])] [] [(6, .int .i64 K)] [] (by kernel_rfl) (by kernel_rfl) (by kernel_rfl) trivial ?_
  clear hE hR; intro a u hE hR
  refine opsNil ?_; refine thenN ?_; refine wp_seq ?_; refine wp_seq ?_
  rcases Bool.eq_false_or_eq_true (decide ((K : Int) ≥ 1)) with hc2 | hc2
  · show Code.wp _ _ _ _ _
    have ehc2 := of_decide_eq_true hc2
    refine enterR (idx := [0, 1, 2, 3, 4, 5, 6, 7, 8, 9, 10, 11, 12, 13, 14]) (by kernel_rfl) ?_
    refine segV hE hR [(0, .op []), (1, .op []), (2, .op []), (3, .op []), (4, .as [] (.bool false)), (5, .as [] (.bool false)), (6, .op []), (7, .op []), (8, .as [] (.bool false)), (9, .op []), (10, .op []), (11, .op []), (12, .as [] (.bool false)), (13, .op []), (14, .op [])] [] [(29, .bool true)] [(.bool ((K : Int) == 17) : Value) = (.bool false : Value), false = false, false = false, (.bool ((K : Int) == 16) : Value) = (.bool false : Value), false = false, false = false, ((if (decide ((K : Int) ≥ 1)) = true then (.bool false : Value) else (.bool false : Value)) : Value) = (.bool false : Value), (.bool (decide ((K : Int) ≤ 9)) : Value) = (.bool false : Value), (decide ((K : Int) ≥ 1)) = true, (decide ((K : Int) ≥ 1)) = true] (by kernel_rfl) (by kernel_rfl) (by kernel_rfl) ⟨congrArg Value.bool (beq_eq_false_iff_ne.2 (by omega)), rfl, rfl, congrArg Value.bool (beq_eq_false_iff_ne.2 (by omega)), rfl, rfl, if_pos (hc2), congrArg Value.bool (decide_eq_false (by omega)), hc2, hc2, trivial⟩ ?_
    clear hE hR; intro a u hE hR
    refine opsNil ?_; refine thenN ?_
    refine condT hE (b := true) (by kernel_rfl) rfl ?_
    refine wp_seq ?_
    refine enterR (idx := [0, 1, 2, 3]) (by kernel_rfl) ?_
    let kc4 : List Value := [.int .i64 1, .int .u32 0, .int .u32 0, .int .u32 0, .int .u32 0]
    refine segU hE hR [(0, .op []), (1, .op []), (2, .op []), (3, .op (hks 0 0 5))] [] [(4, .slice A n c)] [⟨H0 + 1, 0, kc4, 63, true⟩, ⟨H0, 0, kc3, 60, true⟩] (H1) [] (by kernel_rfl) (by kernel_rfl) (by kernel_rfl) trivial ?_
    clear hE hR; intro a u hE hR
    refine opsNil ?_; refine thenN ?_; refine wp_ret ?_; refine thenR ?_
    refine retF hE hR (hks 0 0 5) (.tuple #[.slice A n c, .agg #[.int .i64 1, .int .u32 0, .int .u32 0, .int .u32 0, .int .u32 0]]) (by kernel_rfl) (by kernel_rfl) (by kernel_rfl) ?_
    exact ⟨rfl, hR.below (by simp)⟩
  · show Code.wp _ _ _ _ _
    have ehc2 := of_decide_eq_false hc2
    refine enterR (idx := [0, 1, 2, 3, 4, 5, 6, 7, 8, 9, 10, 11, 12, 13, 14]) (by kernel_rfl) ?_
    refine segV hE hR [(0, .op []), (1, .op []), (2, .op []), (3, .skip), (4, .skip), (5, .as [] (.bool false)), (6, .op []), (7, .op []), (8, .as [] (.bool false)), (9, .op []), (10, .op []), (11, .op []), (12, .as [] (.bool false)), (13, .op []), (14, .op [])] [] [(29, .bool true)] [(.bool ((K : Int) == 17) : Value) = (.bool false : Value), false = false, false = false, (.bool ((K : Int) == 16) : Value) = (.bool false : Value), false = false, false = false, ((if (decide ((K : Int) ≥ 1)) = true then (.tuple #[] : Value) else (.bool false : Value)) : Value) = (.bool false : Value), (decide ((K : Int) ≥ 1)) = !true, (decide ((K : Int) ≥ 1)) = !true] (by kernel_rfl) (by kernel_rfl) (by kernel_rfl) ⟨congrArg Value.bool (beq_eq_false_iff_ne.2 (by omega)), rfl, rfl, congrArg Value.bool (beq_eq_false_iff_ne.2 (by omega)), rfl, rfl, if_neg (by rw [hc2]; decide), hc2, hc2, trivial⟩ ?_
    clear hE hR; intro a u hE hR
    refine opsNil ?_; refine thenN ?_
    refine condT hE (b := true) (by kernel_rfl) rfl ?_
    refine wp_seq ?_
    refine enterR (idx := [0, 1, 2, 3]) (by kernel_rfl) ?_
    let kc5 : List Value := [.int .i64 1, .int .u32 0, .int .u32 0, .int .u32 0, .int .u32 0]
    refine segU hE hR [(0, .op []), (1, .op []), (2, .op []), (3, .op (hks 0 0 5))] [] [(4, .slice A n c)] [⟨H0 + 1, 0, kc5, 63, true⟩, ⟨H0, 0, kc3, 60, true⟩] (H1) [] (by kernel_rfl) (by kernel_rfl) (by kernel_rfl) trivial ?_
    clear hE hR; intro a u hE hR
    refine opsNil ?_; refine thenN ?_; refine wp_ret ?_; refine thenR ?_
    refine retF hE hR (hks 0 0 5) (.tuple #[.slice A n c, .agg #[.int .i64 1, .int .u32 0, .int .u32 0, .int .u32 0, .int .u32 0]]) (by kernel_rfl) (by kernel_rfl) (by kernel_rfl) ?_
    exact ⟨rfl, hR.below (by simp)⟩
set_option maxRecDepth 100000 in
set_option maxHeartbeats 2000000 in
theorem ref_missing (A : Option Addr) (n c : Nat) (co : Int) (ck : Int) (cv : Vl) (cn : Int) (w : World) (hck : -9223372036854775808 ≤ ck ∧ ck ≤ 9223372036854775807) (hok : kindOk (plainP ck) = true) (hmis : co < 0 ∨ (n : Int) ≤ co) :
    Calls Try.prog 26 #[.slice A n c, .agg #[.int .i64 ck, .int .i64 co, .int .u32 cv.a, .int .u32 cv.b, .int .u32 cv.c, .int .u32 cv.d, .int .u32 cn]] w fun e W' => e = .returned (.tuple #[.slice A n c, resA 4 Vl.z]) ∧ Below w.heap.size w W' := by
  obtain ⟨K, hK⟩ : ∃ K, K = plainP ck := ⟨_, rfl⟩
  have hpl := fun W => plain2B_calls ck W hck
  rw [← hK] at hok hpl
  simp only [kindOk, decide_eq_true_eq] at hok
  let kv1 : Value := .agg #[.int .i64 ck, .int .i64 co, .int .u32 cv.a, .int .u32 cv.b, .int .u32 cv.c, .int .u32 cv.d, .int .u32 cn]
  refine enterF Try.func26 rfl Try.ntmps26 [(0, .slice A n c), (1, kv1)] (by kernel_rfl) (by kernel_rfl) ?_
  have hR := Rep.start w
  obtain ⟨H0, hH0⟩ : ∃ x, x = w.heap.size := ⟨_, rfl⟩
  rw [← hH0] at hR
  intro a hE
  refine wp_seq ?_
  refine enterR (idx := [0, 1, 2]) (by kernel_rfl) ?_
  let kc2 : List Value := [.int .i64 0, .int .u32 0, .int .u32 0, .int .u32 0, .int .u32 0]
  let kc3 : List Value := [.int .i64 ck, .int .i64 co, .int .u32 cv.a, .int .u32 cv.b, .int .u32 cv.c, .int .u32 cv.d, .int .u32 cn]
  refine segU hE hR [(0, .op []), (1, .op []), (2, .op [])] [] [(3, .pointer (some ⟨H0, 0, none⟩)), (4, .slice none 0 0), (5, .pointer (some ⟨H0 + 1, 0, none⟩))] [⟨H0 + 1, 0, kc2, 63, true⟩, ⟨H0, 0, kc3, 60, true⟩] (H0 + 2) [] (by kernel_rfl) (by kernel_rfl) (by kernel_rfl) trivial ?_
  clear hE hR; intro a u hE hR
  refine opsNil ?_; refine thenN ?_; refine wp_seq ?_
  refine enterR (idx := [0, 1, 2, 3]) (by kernel_rfl) ?_
  refine segV hE hR [(0, .op []), (1, .op [.k 1 0])] [2, 3] [(13, .int .i64 ck)] [] (by kernel_rfl) (by kernel_rfl) (by kernel_rfl) trivial ?_
  clear hE hR; intro a u hE hR
  refine opsCons ?_
  refine call hE hR [] 51 #[.int .i64 ck] (some 14) [] (by kernel_rfl) (by kernel_rfl) trivial (hpl _) (fun _ _ h => by cases h.1) (fun _ h => by cases h.1) ?_
  clear hE
  rintro v u ⟨hv, hb⟩ a hE
  cases hv
  obtain ⟨H1, hH1, hR⟩ := hR.callE hb
  refine segV hE hR [(3, .op [])] [] [(6, .int .i64 K)] [] (by kernel_rfl) (by kernel_rfl) (by kernel_rfl) trivial ?_
  clear hE hR; intro a u hE hR
  refine opsNil ?_; refine thenN ?_; refine wp_seq ?_
  refine seqJ (fun a u => TE a 274 [(0, .slice A n c), (3, .pointer (some ⟨H0, 0, none⟩)), (4, .slice none 0 0), (5, .pointer (some ⟨H0 + 1, 0, none⟩)), (6, .int .i64 K), (29, .bool false)] ∧ ∃ H, Rep [(w, fun _ => True)] u H [⟨H0 + 1, 0, kc2, 63, true⟩, ⟨H0, 0, kc3, 60, true⟩] []) ?_ ?_
  · show Code.wp _ _ _ _ _
    rcases Bool.eq_false_or_eq_true (decide ((K : Int) ≤ 9)) with hc2 | hc2
    · show Code.wp _ _ _ _ _
      have ehc2 := of_decide_eq_true hc2
      refine enterR (idx := [0, 1, 2, 3, 4, 5, 6, 7, 8, 9, 10, 11, 12, 13, 14]) (by kernel_rfl) ?_
      refine segV hE hR [(0, .op []), (1, .as [] (.bool true)), (2, .op []), (3, .op []), (4, .op []), (5, .op []), (6, .op []), (7, .skip), (8, .skip), (9, .as [] (.bool true)), (10, .op []), (11, .skip), (12, .skip), (13, .op []), (14, .op [])] [] [(29, .bool false)] [true = !false, true = !false, ((if (decide ((K : Int) ≤ 9)) = true then (.bool true : Value) else (.tuple #[] : Value)) : Value) = (.bool true : Value), (decide ((K : Int) ≤ 9)) = !false, (decide ((K : Int) ≤ 9)) = !false, true = true, true = true, (.bool (decide ((K : Int) ≥ 1)) : Value) = (.bool true : Value)] (by kernel_rfl) (by kernel_rfl) (by kernel_rfl) ⟨rfl, rfl, if_pos (hc2), hc2, hc2, rfl, rfl, congrArg Value.bool (decide_eq_true (by omega)), trivial⟩ ?_
      clear hE hR; intro a u hE hR
      refine opsNil ?_; refine thenN ?_
      exact ⟨hE.sub (by kernel_rfl), _, hR⟩
    · show Code.wp _ _ _ _ _
      have ehc2 := of_decide_eq_false hc2
      rcases Bool.eq_false_or_eq_true ((K : Int) == 16) with hc3 | hc3
      · show Code.wp _ _ _ _ _
        have ehc3 := beq_iff_eq.1 hc3
        refine enterR (idx := [0, 1, 2, 3, 4, 5, 6, 7, 8, 9, 10, 11, 12, 13, 14]) (by kernel_rfl) ?_
        refine segV hE hR [(0, .op []), (1, .as [] (.bool true)), (2, .op []), (3, .op []), (4, .op []), (5, .op []), (6, .op []), (7, .op []), (8, .as [] (.bool true)), (9, .as [] (.bool true)), (10, .op []), (11, .skip), (12, .skip), (13, .op []), (14, .op [])] [] [(29, .bool false)] [true = !false, true = !false, ((if (decide ((K : Int) ≤ 9)) = true then (.bool true : Value) else (.bool true : Value)) : Value) = (.bool true : Value), (.bool ((K : Int) == 16) : Value) = (.bool true : Value), (decide ((K : Int) ≤ 9)) = false, (decide ((K : Int) ≤ 9)) = false, true = true, true = true, (.bool (decide ((K : Int) ≥ 1)) : Value) = (.bool true : Value)] (by kernel_rfl) (by kernel_rfl) (by kernel_rfl) ⟨rfl, rfl, if_neg (by rw [hc2]; decide), congrArg Value.bool (beq_iff_eq.2 (by omega)), hc2, hc2, rfl, rfl, congrArg Value.bool (decide_eq_true (by omega)), trivial⟩ ?_
        clear hE hR; intro a u hE hR
        refine opsNil ?_; refine thenN ?_
        exact ⟨hE.sub (by kernel_rfl), _, hR⟩
      · show Code.wp _ _ _ _ _
        have ehc3 := beq_eq_false_iff_ne.1 hc3
        refine enterR (idx := [0, 1, 2, 3, 4, 5, 6, 7, 8, 9, 10, 11, 12, 13, 14]) (by kernel_rfl) ?_
        refine segV hE hR [(0, .op []), (1, .as [] (.bool true)), (2, .op []), (3, .op []), (4, .op []), (5, .op []), (6, .op []), (7, .op []), (8, .as [] (.bool false)), (9, .as [] (.bool false)), (10, .op []), (11, .op []), (12, .as [] (.bool true)), (13, .op []), (14, .op [])] [] [(29, .bool false)] [(.bool ((K : Int) == 17) : Value) = (.bool true : Value), false = false, false = false, ((if (decide ((K : Int) ≤ 9)) = true then (.bool true : Value) else (.bool false : Value)) : Value) = (.bool false : Value), (.bool ((K : Int) == 16) : Value) = (.bool false : Value), (decide ((K : Int) ≤ 9)) = false, (decide ((K : Int) ≤ 9)) = false, true = true, true = true, (.bool (decide ((K : Int) ≥ 1)) : Value) = (.bool true : Value)] (by kernel_rfl) (by kernel_rfl) (by kernel_rfl) ⟨congrArg Value.bool (beq_iff_eq.2 (by omega)), rfl, rfl, if_neg (by rw [hc2]; decide), congrArg Value.bool (beq_eq_false_iff_ne.2 (ehc3)), hc2, hc2, rfl, rfl, congrArg Value.bool (decide_eq_true (by omega)), trivial⟩ ?_
        clear hE hR; intro a u hE hR
        refine opsNil ?_; refine thenN ?_
        exact ⟨hE.sub (by kernel_rfl), _, hR⟩
  clear hE hR
  rintro a u ⟨hE, J1, hR⟩
  refine condF hE (b := false) (by kernel_rfl) rfl ?_
  refine wp_skip ?_; refine thenN ?_; refine wp_seq ?_; refine wp_seq ?_
  rcases Bool.eq_false_or_eq_true (decide ((co : Int) < 0)) with hc4 | hc4
  · show Code.wp _ _ _ _ _
    have ehc4 := of_decide_eq_true hc4
    refine enterR (idx := [0, 1, 2, 3, 4, 5, 6, 7, 8, 9]) (by kernel_rfl) ?_
    refine segV hE hR [(0, .op []), (1, .op [.k 1 1]), (2, .op []), (3, .op []), (4, .skip), (5, .skip), (6, .skip), (7, .skip), (8, .skip), (9, .as [] (.bool true))] [] [(41, .bool true)] [((if (decide ((co : Int) < 0)) = true then (.bool true : Value) else (.tuple #[] : Value)) : Value) = (.bool true : Value), (decide ((co : Int) < 0)) = !false, (decide ((co : Int) < 0)) = !false, (decide ((co : Int) < 0)) = !false, (decide ((co : Int) < 0)) = !false, (decide ((co : Int) < 0)) = !false] (by kernel_rfl) (by kernel_rfl) (by kernel_rfl) ⟨if_pos (hc4), hc4, hc4, hc4, hc4, hc4, trivial⟩ ?_
    clear hE hR; intro a u hE hR
    refine opsNil ?_; refine thenN ?_
    refine condT hE (b := true) (by kernel_rfl) rfl ?_
    refine wp_seq ?_
    refine enterR (idx := [0, 1, 2, 3]) (by kernel_rfl) ?_
    let kc4 : List Value := [.int .i64 4, .int .u32 0, .int .u32 0, .int .u32 0, .int .u32 0]
    refine seg hE hR [(0, .op []), (1, .op []), (2, .op []), (3, .op (hks 0 0 5))] [] [(0, .slice A n c), (3, .pointer (some ⟨H0, 0, none⟩)), (4, .slice A n c), (5, .pointer (some ⟨H0 + 1, 0, none⟩)), (6, .int .i64 K), (29, .bool false), (41, .bool true)] [⟨H0 + 1, 0, kc4, 63, true⟩, ⟨H0, 0, kc3, 60, true⟩] (J1) [] (by kernel_rfl) (by kernel_rfl) (by kernel_rfl) trivial ?_
    clear hE hR; intro a u hE hR
    refine opsNil ?_; refine thenN ?_; refine wp_ret ?_; refine thenR ?_
    refine retF hE hR (hks 0 0 5) (.tuple #[.slice A n c, .agg #[.int .i64 4, .int .u32 0, .int .u32 0, .int .u32 0, .int .u32 0]]) (by kernel_rfl) (by kernel_rfl) (by kernel_rfl) ?_
    exact ⟨rfl, hR.below (by simp)⟩
  · show Code.wp _ _ _ _ _
    have ehc4 := of_decide_eq_false hc4
    refine enterR (idx := [0, 1, 2, 3, 4, 5, 6, 7, 8, 9]) (by kernel_rfl) ?_
    refine segV hE hR [(0, .op []), (1, .op [.k 1 1]), (2, .op []), (3, .op []), (4, .op []), (5, .op [.k 1 1]), (6, .op []), (7, .op []), (8, .as [] (.bool true)), (9, .as [] (.bool true))] [] [(41, .bool true)] [((if (decide ((co : Int) < 0)) = true then (.bool true : Value) else (.bool true : Value)) : Value) = (.bool true : Value), (.bool (decide ((co : Int) ≥ ((n : Nat) : Int))) : Value) = (.bool true : Value), (decide ((co : Int) < 0)) = false, (decide ((co : Int) < 0)) = false, (decide ((co : Int) < 0)) = false, (decide ((co : Int) < 0)) = false, (decide ((co : Int) < 0)) = false] (by kernel_rfl) (by kernel_rfl) (by kernel_rfl) ⟨if_neg (by rw [hc4]; decide), congrArg Value.bool (decide_eq_true (by omega)), hc4, hc4, hc4, hc4, hc4, trivial⟩ ?_
    clear hE hR; intro a u hE hR
    refine opsNil ?_; refine thenN ?_
    refine condT hE (b := true) (by kernel_rfl) rfl ?_
    refine wp_seq ?_
    refine enterR (idx := [0, 1, 2, 3]) (by kernel_rfl) ?_
    let kc5 : List Value := [.int .i64 4, .int .u32 0, .int .u32 0, .int .u32 0, .int .u32 0]
    refine segU hE hR [(0, .op []), (1, .op []), (2, .op []), (3, .op (hks 0 0 5))] [] [(4, .slice A n c)] [⟨H0 + 1, 0, kc5, 63, true⟩, ⟨H0, 0, kc3, 60, true⟩] (J1) [] (by kernel_rfl) (by kernel_rfl) (by kernel_rfl) trivial ?_
    clear hE hR; intro a u hE hR
    refine opsNil ?_; refine thenN ?_; refine wp_ret ?_; refine thenR ?_
    refine retF hE hR (hks 0 0 5) (.tuple #[.slice A n c, .agg #[.int .i64 4, .int .u32 0, .int .u32 0, .int .u32 0, .int .u32 0]]) (by kernel_rfl) (by kernel_rfl) (by kernel_rfl) ?_
    exact ⟨rfl, hR.below (by simp)⟩
set_option maxRecDepth 100000 in
set_option maxHeartbeats 2000000 in
theorem ref_kind0 (g off c : Nat) (L : List IV) (i : Nat) (o : Ob) (row : List Vl) (v : Vl) (ck : Int) (cv : Vl) (cn : Int) (w : World) (hck : -9223372036854775808 ≤ ck ∧ ck ≤ 9223372036854775807) (hok : kindOk (plainP ck) = true) (hi : i < L.length) (_ : L.length ≤ 8) (HC : ∀ W, Below w.heap.size w W → Calls Try.prog 52 #[.slice (some ⟨g, off, none⟩) L.length c] W (CopyAt L i ⟨o, row, v⟩ W)) (hrt : rightP o = false) :
    Calls Try.prog 26 #[.slice (some ⟨g, off, none⟩) L.length c, .agg #[.int .i64 ck, .int .i64 ((i : Nat) : Int), .int .u32 cv.a, .int .u32 cv.b, .int .u32 cv.c, .int .u32 cv.d, .int .u32 cn]] w fun e W' => e = .returned (.tuple #[.slice (some ⟨g, off, none⟩) L.length c, resA 12 Vl.z]) ∧ Below w.heap.size w W' := by
  obtain ⟨K, hK⟩ : ∃ K, K = plainP ck := ⟨_, rfl⟩
  have hpl := fun W => plain2B_calls ck W hck
  rw [← hK] at hok hpl
  simp only [kindOk, decide_eq_true_eq] at hok
  have HRt := fun W => right2_calls o W
  rw [hrt] at HRt
  let kv1 : Value := .agg #[.int .i64 ck, .int .i64 ((i : Nat) : Int), .int .u32 cv.a, .int .u32 cv.b, .int .u32 cv.c, .int .u32 cv.d, .int .u32 cn]
  refine enterF Try.func26 rfl Try.ntmps26 [(0, .slice (some ⟨g, off, none⟩) L.length c), (1, kv1)] (by kernel_rfl) (by kernel_rfl) ?_
  have hR := Rep.start w
  obtain ⟨H0, hH0⟩ : ∃ x, x = w.heap.size := ⟨_, rfl⟩
  rw [← hH0] at hR
  intro a hE
  refine wp_seq ?_
  refine enterR (idx := [0, 1, 2]) (by kernel_rfl) ?_
  let kc2 : List Value := [.int .i64 0, .int .u32 0, .int .u32 0, .int .u32 0, .int .u32 0]
  let kc3 : List Value := [.int .i64 ck, .int .i64 ((i : Nat) : Int), .int .u32 cv.a, .int .u32 cv.b, .int .u32 cv.c, .int .u32 cv.d, .int .u32 cn]
  refine segU hE hR [(0, .op []), (1, .op []), (2, .op [])] [] [(3, .pointer (some ⟨H0, 0, none⟩)), (4, .slice none 0 0), (5, .pointer (some ⟨H0 + 1, 0, none⟩))] [⟨H0 + 1, 0, kc2, 63, true⟩, ⟨H0, 0, kc3, 60, true⟩] (H0 + 2) [] (by kernel_rfl) (by kernel_rfl) (by kernel_rfl) trivial ?_
  clear hE hR; intro a u hE hR
  refine opsNil ?_; refine thenN ?_; refine wp_seq ?_
  refine enterR (idx := [0, 1, 2, 3]) (by kernel_rfl) ?_
  refine segV hE hR [(0, .op []), (1, .op [.k 1 0])] [2, 3] [(13, .int .i64 ck)] [] (by kernel_rfl) (by kernel_rfl) (by kernel_rfl) trivial ?_
  clear hE hR; intro a u hE hR
  refine opsCons ?_
  refine call hE hR [] 51 #[.int .i64 ck] (some 14) [] (by kernel_rfl) (by kernel_rfl) trivial (hpl _) (fun _ _ h => by cases h.1) (fun _ h => by cases h.1) ?_
  clear hE
  rintro v u ⟨hv, hb⟩ a hE
  cases hv
  obtain ⟨H1, hH1, hR⟩ := hR.callE hb
  refine segV hE hR [(3, .op [])] [] [(6, .int .i64 K)] [] (by kernel_rfl) (by kernel_rfl) (by kernel_rfl) trivial ?_
  clear hE hR; intro a u hE hR
  refine opsNil ?_; refine thenN ?_; refine wp_seq ?_
  refine seqJ (fun a u => TE a 274 [(0, .slice (some ⟨g, off, none⟩) L.length c), (3, .pointer (some ⟨H0, 0, none⟩)), (4, .slice none 0 0), (5, .pointer (some ⟨H0 + 1, 0, none⟩)), (6, .int .i64 K), (29, .bool false)] ∧ ∃ H, Rep [(w, fun _ => True)] u H [⟨H0 + 1, 0, kc2, 63, true⟩, ⟨H0, 0, kc3, 60, true⟩] []) ?_ ?_
  · show Code.wp _ _ _ _ _
    rcases Bool.eq_false_or_eq_true (decide ((K : Int) ≤ 9)) with hc2 | hc2
    · show Code.wp _ _ _ _ _
      have ehc2 := of_decide_eq_true hc2
      refine enterR (idx := [0, 1, 2, 3, 4, 5, 6, 7, 8, 9, 10, 11, 12, 13, 14]) (by kernel_rfl) ?_
      refine segV hE hR [(0, .op []), (1, .as [] (.bool true)), (2, .op []), (3, .op []), (4, .op []), (5, .op []), (6, .op []), (7, .skip), (8, .skip), (9, .as [] (.bool true)), (10, .op []), (11, .skip), (12, .skip), (13, .op []), (14, .op [])] [] [(29, .bool false)] [true = !false, true = !false, ((if (decide ((K : Int) ≤ 9)) = true then (.bool true : Value) else (.tuple #[] : Value)) : Value) = (.bool true : Value), (decide ((K : Int) ≤ 9)) = !false, (decide ((K : Int) ≤ 9)) = !false, true = true, true = true, (.bool (decide ((K : Int) ≥ 1)) : Value) = (.bool true : Value)] (by kernel_rfl) (by kernel_rfl) (by kernel_rfl) ⟨rfl, rfl, if_pos (hc2), hc2, hc2, rfl, rfl, congrArg Value.bool (decide_eq_true (by omega)), trivial⟩ ?_
      clear hE hR; intro a u hE hR
      refine opsNil ?_; refine thenN ?_
      exact ⟨hE.sub (by kernel_rfl), _, hR⟩
    · show Code.wp _ _ _ _ _
      have ehc2 := of_decide_eq_false hc2
      rcases Bool.eq_false_or_eq_true ((K : Int) == 16) with hc3 | hc3
      · show Code.wp _ _ _ _ _
        have ehc3 := beq_iff_eq.1 hc3
        refine enterR (idx := [0, 1, 2, 3, 4, 5, 6, 7, 8, 9, 10, 11, 12, 13, 14]) (by kernel_rfl) ?_
        refine segV hE hR [(0, .op []), (1, .as [] (.bool true)), (2, .op []), (3, .op []), (4, .op []), (5, .op []), (6, .op []), (7, .op []), (8, .as [] (.bool true)), (9, .as [] (.bool true)), (10, .op []), (11, .skip), (12, .skip), (13, .op []), (14, .op [])] [] [(29, .bool false)] [true = !false, true = !false, ((if (decide ((K : Int) ≤ 9)) = true then (.bool true : Value) else (.bool true : Value)) : Value) = (.bool true : Value), (.bool ((K : Int) == 16) : Value) = (.bool true : Value), (decide ((K : Int) ≤ 9)) = false, (decide ((K : Int) ≤ 9)) = false, true = true, true = true, (.bool (decide ((K : Int) ≥ 1)) : Value) = (.bool true : Value)] (by kernel_rfl) (by kernel_rfl) (by kernel_rfl) ⟨rfl, rfl, if_neg (by rw [hc2]; decide), congrArg Value.bool (beq_iff_eq.2 (by omega)), hc2, hc2, rfl, rfl, congrArg Value.bool (decide_eq_true (by omega)), trivial⟩ ?_
        clear hE hR; intro a u hE hR
        refine opsNil ?_; refine thenN ?_
        exact ⟨hE.sub (by kernel_rfl), _, hR⟩
      · show Code.wp _ _ _ _ _
        have ehc3 := beq_eq_false_iff_ne.1 hc3
        refine enterR (idx := [0, 1, 2, 3, 4, 5, 6, 7, 8, 9, 10, 11, 12, 13, 14]) (by kernel_rfl) ?_
        refine segV hE hR [(0, .op []), (1, .as [] (.bool true)), (2, .op []), (3, .op []), (4, .op []), (5, .op []), (6, .op []), (7, .op []), (8, .as [] (.bool false)), (9, .as [] (.bool false)), (10, .op []), (11, .op []), (12, .as [] (.bool true)), (13, .op []), (14, .op [])] [] [(29, .bool false)] [(.bool ((K : Int) == 17) : Value) = (.bool true : Value), false = false, false = false, ((if (decide ((K : Int) ≤ 9)) = true then (.bool true : Value) else (.bool false : Value)) : Value) = (.bool false : Value), (.bool ((K : Int) == 16) : Value) = (.bool false : Value), (decide ((K : Int) ≤ 9)) = false, (decide ((K : Int) ≤ 9)) = false, true = true, true = true, (.bool (decide ((K : Int) ≥ 1)) : Value) = (.bool true : Value)] (by kernel_rfl) (by kernel_rfl) (by kernel_rfl) ⟨congrArg Value.bool (beq_iff_eq.2 (by omega)), rfl, rfl, if_neg (by rw [hc2]; decide), congrArg Value.bool (beq_eq_false_iff_ne.2 (ehc3)), hc2, hc2, rfl, rfl, congrArg Value.bool (decide_eq_true (by omega)), trivial⟩ ?_
        clear hE hR; intro a u hE hR
        refine opsNil ?_; refine thenN ?_
        exact ⟨hE.sub (by kernel_rfl), _, hR⟩
  clear hE hR
  rintro a u ⟨hE, J1, hR⟩
  refine condF hE (b := false) (by kernel_rfl) rfl ?_
  refine wp_skip ?_; refine thenN ?_; refine wp_seq ?_; refine wp_seq ?_
  refine enterR (idx := [0, 1, 2, 3, 4, 5, 6, 7, 8, 9]) (by kernel_rfl) ?_
  refine segV hE hR [(0, .op []), (1, .op [.k 1 1]), (2, .as [] (.bool false)), (3, .op []), (4, .op []), (5, .op [.k 1 1]), (6, .op []), (7, .op []), (8, .as [] (.bool false)), (9, .op [])] [] [(41, .bool false)] [(.bool (decide (((i : Nat) : Int) ≥ ((L.length : Nat) : Int))) : Value) = (.bool false : Value), false = false, false = false, false = false, false = false, false = false, (.bool (decide (((i : Nat) : Int) < 0)) : Value) = (.bool false : Value)] (by kernel_rfl) (by kernel_rfl) (by kernel_rfl) ⟨congrArg Value.bool (decide_eq_false (by omega)), rfl, rfl, rfl, rfl, rfl, congrArg Value.bool (decide_eq_false (by omega)), trivial⟩ ?_
  clear hE hR; intro a u hE hR
  refine opsNil ?_; refine thenN ?_
  refine condF hE (b := false) (by kernel_rfl) rfl ?_
  refine wp_skip ?_; refine thenN ?_; refine wp_seq ?_
  refine enterR (idx := [0, 1, 2]) (by kernel_rfl) ?_
  refine seg0 hE hR [(0, .op [])] [1, 2] [(0, .slice (some ⟨g, off, none⟩) L.length c), (3, .pointer (some ⟨H0, 0, none⟩)), (4, .slice none 0 0), (5, .pointer (some ⟨H0 + 1, 0, none⟩)), (6, .int .i64 K), (29, .bool false), (41, .bool false), (44, .slice (some ⟨g, off, none⟩) L.length c)] [] (by kernel_rfl) (by kernel_rfl) (by kernel_rfl) trivial ?_
  clear hE hR; intro a u hE hR
  refine opsCons ?_
  refine call hE hR [] 52 #[.slice (some ⟨g, off, none⟩) L.length c] (some 45) [] (by kernel_rfl) (by kernel_rfl) trivial (HC _ (hR.below (by simp))) (by rintro _ _ ⟨_, _, _, _, _, _, _, _, _, _, h, _⟩; cases h) (by rintro _ ⟨_, _, _, _, _, _, _, _, _, _, h, _⟩; cases h) ?_
  clear hE
  rintro v u ⟨g2, cap2, pr, po, gr, cr, rest, rs, ob, L2, hv, hcf, Hc, hRc⟩ a hE
  cases hv
  let kc4 : List Value := [.int .i64 o.kind, .int .i64 o.cap, .int .i64 o.width, .int .i64 o.retry, .int .i64 o.src, .int .i64 o.dst, .int .u32 o.i0, .int .u32 o.i1, .int .u32 o.i2, .int .u32 o.i3, .slice (some ⟨gr, 0, none⟩) row.length cr, .int .u32 v.a, .int .u32 v.b, .int .u32 v.c, .int .u32 v.d]
  replace hR : Rep [(w, fun _ => True)] u Hc (⟨H0 + 1, 0, kc2, 63, true⟩ :: ⟨H0, 0, kc3, 60, true⟩ :: ⟨g2, 0 + i * 15, kc4, 118, false⟩ :: ⟨g2, 0, pr, 118, false⟩ :: ⟨g2, 0 + i * 15 + 15, po, 118, false⟩ :: (rs ++ ob)) [] := hR.join hRc
  refine segV hE hR [(2, .op [])] [] [(7, .slice (some ⟨g2, 0, none⟩) L.length cap2)] [] (by kernel_rfl) (by kernel_rfl) (by kernel_rfl) trivial ?_
  clear hE hR; intro a u hE hR
  refine opsNil ?_; refine thenN ?_; refine wp_seq ?_
  refine enterR (idx := [0, 1, 2, 3, 4]) (by kernel_rfl) ?_
  refine segV hE hR [(0, .op []), (1, .op []), (2, .op [.k 1 1]), (3, .alt (.pointer (some ⟨g2, 0 + i * 15, none⟩))), (4, .op [])] [] [(8, .pointer (some ⟨g2, 0 + i * 15, none⟩))] [(0 ≤ (((i : Nat) : Int) : Int) ∧ (((i : Nat) : Int) : Int) < ((L.length : Nat) : Int)) ∧ (Try.prog.info? 118).isSome = true, (.pointer (some ⟨g2, 0 + (((i : Nat) : Int)).toNat * Try.prog.cellsOf 118, none⟩) : Value) = (.pointer (some ⟨g2, 0 + i * 15, none⟩) : Value)] (by kernel_rfl) (by kernel_rfl) (by kernel_rfl) ⟨⟨⟨by omega, by omega⟩, by kernel_rfl⟩, by kernel_rfl, trivial⟩ ?_
  clear hE hR; intro a u hE hR
  refine opsNil ?_; refine thenN ?_; refine wp_seq ?_
  refine enterR (idx := [0]) (by kernel_rfl) ?_
  refine segV hE hR [(0, .op [])] [] [(9, .int .i64 0)] [] (by kernel_rfl) (by kernel_rfl) (by kernel_rfl) trivial ?_
  clear hE hR; intro a u hE hR
  refine opsNil ?_; refine thenN ?_; refine wp_seq ?_; refine wp_seq ?_
  refine enterR (idx := [0, 1, 2, 3, 4]) (by kernel_rfl) ?_
  let kv5 : Value := .agg #[.int .i64 o.kind, .int .i64 o.cap, .int .i64 o.width, .int .i64 o.retry, .int .i64 o.src, .int .i64 o.dst, .int .u32 o.i0, .int .u32 o.i1, .int .u32 o.i2, .int .u32 o.i3]
  refine segV hE hR [(0, .op []), (1, .op []), (2, .op []), (3, .op (hks 2 0 10))] [4] [(53, kv5)] [] (by kernel_rfl) (by kernel_rfl) (by kernel_rfl) trivial ?_
  clear hE hR; intro a u hE hR
  refine opsCons ?_
  refine call hE hR [] 47 #[kv5] (some 54) [] (by kernel_rfl) (by kernel_rfl) trivial (HRt _) (fun _ _ h => by cases h.1) (fun _ h => by cases h.1) ?_
  clear hE
  rintro v u ⟨hv, hb⟩ a hE
  cases hv
  obtain ⟨H4, hH4, hR⟩ := hR.callE hb
  refine opsNil ?_; refine thenN ?_
  refine condF hE (b := false) (by kernel_rfl) rfl ?_
  refine wp_skip ?_; refine thenN ?_; refine wp_seq ?_
  refine enterR (idx := [0, 1, 2, 3, 4, 5]) (by kernel_rfl) ?_
  refine segV hE hR [(0, .op []), (1, .op []), (2, .op []), (3, .op []), (4, .op [.k 2 11]), (5, .op [])] [] [(10, .int .u32 v.a)] [] (by kernel_rfl) (by kernel_rfl) (by kernel_rfl) trivial ?_
  clear hE hR; intro a u hE hR
  refine opsNil ?_; refine thenN ?_; refine wp_seq ?_; refine wp_block ?_
  refine seqJ (fun a u => TE a 274 [(0, .slice (some ⟨g, off, none⟩) L.length c), (3, .pointer (some ⟨H0, 0, none⟩)), (4, .slice none 0 0), (5, .pointer (some ⟨H0 + 1, 0, none⟩)), (6, .int .i64 K), (7, .slice (some ⟨g2, 0, none⟩) L.length cap2), (8, .pointer (some ⟨g2, 0 + i * 15, none⟩)), (9, .int .i64 0), (10, .int .u32 v.a), (29, .bool false), (41, .bool false), (53, kv5), (54, .bool false), (65, .bool false)] ∧ ∃ H, Rep [(w, fun _ => True)] u H (⟨H0 + 1, 0, kc2, 63, true⟩ :: ⟨H0, 0, kc3, 60, true⟩ :: ⟨g2, 0 + i * 15, kc4, 118, false⟩ :: ⟨g2, 0, pr, 118, false⟩ :: ⟨g2, 0 + i * 15 + 15, po, 118, false⟩ :: (rs ++ ob)) []) ?_ ?_
  · show Code.wp _ _ _ _ _
    rcases Bool.eq_false_or_eq_true ((K : Int) == 1) with hc5 | hc5
    · show Code.wp _ _ _ _ _
      have ehc5 := beq_iff_eq.1 hc5
      refine enterR (idx := [0, 1, 2, 3, 4, 5, 6]) (by kernel_rfl) ?_
      refine segV hE hR [(0, .op []), (1, .as [] (.bool true)), (2, .op []), (3, .op []), (4, .op []), (5, .op []), (6, .op [])] [] [(65, .bool false)] [true = true, true = true, (.bool ((K : Int) == 1) : Value) = (.bool true : Value)] (by kernel_rfl) (by kernel_rfl) (by kernel_rfl) ⟨rfl, rfl, congrArg Value.bool (beq_iff_eq.2 (by omega)), trivial⟩ ?_
      clear hE hR; intro a u hE hR
      refine opsNil ?_; refine thenN ?_
      exact ⟨hE.sub (by kernel_rfl), _, hR⟩
    · show Code.wp _ _ _ _ _
      have ehc5 := beq_eq_false_iff_ne.1 hc5
      refine enterR (idx := [0, 1, 2, 3, 4, 5, 6]) (by kernel_rfl) ?_
      refine segV hE hR [(0, .op []), (1, .as [] (.bool false)), (2, .op []), (3, .skip), (4, .skip), (5, .op []), (6, .op [])] [] [(65, .bool false)] [false = !true, false = !true, (.bool ((K : Int) == 1) : Value) = (.bool false : Value)] (by kernel_rfl) (by kernel_rfl) (by kernel_rfl) ⟨rfl, rfl, congrArg Value.bool (beq_eq_false_iff_ne.2 (ehc5)), trivial⟩ ?_
      clear hE hR; intro a u hE hR
      refine opsNil ?_; refine thenN ?_
      exact ⟨hE.sub (by kernel_rfl), _, hR⟩
  clear hE hR
  rintro a u ⟨hE, J2, hR⟩
  refine condF hE (b := false) (by kernel_rfl) rfl ?_
  refine seqJ (fun a u => TE a 274 [(0, .slice (some ⟨g, off, none⟩) L.length c), (3, .pointer (some ⟨H0, 0, none⟩)), (4, .slice none 0 0), (5, .pointer (some ⟨H0 + 1, 0, none⟩)), (6, .int .i64 K), (7, .slice (some ⟨g2, 0, none⟩) L.length cap2), (8, .pointer (some ⟨g2, 0 + i * 15, none⟩)), (9, .int .i64 0), (10, .int .u32 v.a), (29, .bool false), (41, .bool false), (53, kv5), (54, .bool false), (65, .bool false), (104, .bool false)] ∧ ∃ H, Rep [(w, fun _ => True)] u H (⟨H0 + 1, 0, kc2, 63, true⟩ :: ⟨H0, 0, kc3, 60, true⟩ :: ⟨g2, 0 + i * 15, kc4, 118, false⟩ :: ⟨g2, 0, pr, 118, false⟩ :: ⟨g2, 0 + i * 15 + 15, po, 118, false⟩ :: (rs ++ ob)) []) ?_ ?_
  · show Code.wp _ _ _ _ _
    rcases Bool.eq_false_or_eq_true ((K : Int) == 2) with hc6 | hc6
    · show Code.wp _ _ _ _ _
      have ehc6 := beq_iff_eq.1 hc6
      refine enterR (idx := [0, 1, 2, 3, 4, 5, 6]) (by kernel_rfl) ?_
      refine seg0 hE hR [(0, .op []), (1, .as [] (.bool true)), (2, .op []), (3, .op []), (4, .op []), (5, .op []), (6, .op [])] [] [(0, .slice (some ⟨g, off, none⟩) L.length c), (3, .pointer (some ⟨H0, 0, none⟩)), (4, .slice none 0 0), (5, .pointer (some ⟨H0 + 1, 0, none⟩)), (6, .int .i64 K), (7, .slice (some ⟨g2, 0, none⟩) L.length cap2), (8, .pointer (some ⟨g2, 0 + i * 15, none⟩)), (9, .int .i64 0), (10, .int .u32 v.a), (29, .bool false), (41, .bool false), (53, kv5), (54, .bool false), (65, .bool false), (104, .bool false)] [true = true, true = true, (.bool ((K : Int) == 2) : Value) = (.bool true : Value)] (by kernel_rfl) (by kernel_rfl) (by kernel_rfl) ⟨rfl, rfl, congrArg Value.bool (beq_iff_eq.2 (by omega)), trivial⟩ ?_
      clear hE hR; intro a u hE hR
      refine opsNil ?_; refine thenN ?_
      exact ⟨hE.sub (by kernel_rfl), _, hR⟩
    · show Code.wp _ _ _ _ _
      have ehc6 := beq_eq_false_iff_ne.1 hc6
      refine enterR (idx := [0, 1, 2, 3, 4, 5, 6]) (by kernel_rfl) ?_
      refine segV hE hR [(0, .op []), (1, .as [] (.bool false)), (2, .op []), (3, .skip), (4, .skip), (5, .op []), (6, .op [])] [] [(104, .bool false)] [false = !true, false = !true, (.bool ((K : Int) == 2) : Value) = (.bool false : Value)] (by kernel_rfl) (by kernel_rfl) (by kernel_rfl) ⟨rfl, rfl, congrArg Value.bool (beq_eq_false_iff_ne.2 (ehc6)), trivial⟩ ?_
      clear hE hR; intro a u hE hR
      refine opsNil ?_; refine thenN ?_
      exact ⟨hE.sub (by kernel_rfl), _, hR⟩
  clear hE hR
  rintro a u ⟨hE, J3, hR⟩
  refine condF hE (b := false) (by kernel_rfl) rfl ?_
  refine seqJ (fun a u => TE a 274 [(0, .slice (some ⟨g, off, none⟩) L.length c), (3, .pointer (some ⟨H0, 0, none⟩)), (4, .slice none 0 0), (5, .pointer (some ⟨H0 + 1, 0, none⟩)), (6, .int .i64 K), (7, .slice (some ⟨g2, 0, none⟩) L.length cap2), (8, .pointer (some ⟨g2, 0 + i * 15, none⟩)), (9, .int .i64 0), (10, .int .u32 v.a), (29, .bool false), (41, .bool false), (53, kv5), (54, .bool false), (65, .bool false), (104, .bool false), (136, .bool false)] ∧ ∃ H, Rep [(w, fun _ => True)] u H (⟨H0 + 1, 0, kc2, 63, true⟩ :: ⟨H0, 0, kc3, 60, true⟩ :: ⟨g2, 0 + i * 15, kc4, 118, false⟩ :: ⟨g2, 0, pr, 118, false⟩ :: ⟨g2, 0 + i * 15 + 15, po, 118, false⟩ :: (rs ++ ob)) []) ?_ ?_
  · show Code.wp _ _ _ _ _
    rcases Bool.eq_false_or_eq_true ((K : Int) == 3) with hc7 | hc7
    · show Code.wp _ _ _ _ _
      have ehc7 := beq_iff_eq.1 hc7
      refine enterR (idx := [0, 1, 2, 3, 4, 5, 6, 7, 8, 9, 10]) (by kernel_rfl) ?_
      refine segV hE hR [(0, .op []), (1, .as [] (.bool true)), (2, .op []), (3, .op []), (4, .op []), (5, .op []), (6, .op []), (7, .op []), (8, .op []), (9, .op []), (10, .op [])] [] [(136, .bool false)] [true = true, false = false, false = false, true = true, true = true, true = true, (.bool ((K : Int) == 3) : Value) = (.bool true : Value)] (by kernel_rfl) (by kernel_rfl) (by kernel_rfl) ⟨rfl, rfl, rfl, rfl, rfl, rfl, congrArg Value.bool (beq_iff_eq.2 (by omega)), trivial⟩ ?_
      clear hE hR; intro a u hE hR
      refine opsNil ?_; refine thenN ?_
      exact ⟨hE.sub (by kernel_rfl), _, hR⟩
    · show Code.wp _ _ _ _ _
      have ehc7 := beq_eq_false_iff_ne.1 hc7
      refine enterR (idx := [0, 1, 2, 3, 4, 5, 6, 7, 8, 9, 10]) (by kernel_rfl) ?_
      refine segV hE hR [(0, .op []), (1, .as [] (.bool false)), (2, .op []), (3, .skip), (4, .skip), (5, .skip), (6, .skip), (7, .skip), (8, .skip), (9, .op []), (10, .op [])] [] [(136, .bool false)] [false = !true, false = !true, false = !true, false = !true, (.bool ((K : Int) == 3) : Value) = (.bool false : Value)] (by kernel_rfl) (by kernel_rfl) (by kernel_rfl) ⟨rfl, rfl, rfl, rfl, congrArg Value.bool (beq_eq_false_iff_ne.2 (ehc7)), trivial⟩ ?_
      clear hE hR; intro a u hE hR
      refine opsNil ?_; refine thenN ?_
      exact ⟨hE.sub (by kernel_rfl), _, hR⟩
  clear hE hR
  rintro a u ⟨hE, J4, hR⟩
  refine condF hE (b := false) (by kernel_rfl) rfl ?_
  refine seqJ (fun a u => TE a 274 [(0, .slice (some ⟨g, off, none⟩) L.length c), (3, .pointer (some ⟨H0, 0, none⟩)), (4, .slice none 0 0), (5, .pointer (some ⟨H0 + 1, 0, none⟩)), (6, .int .i64 K), (7, .slice (some ⟨g2, 0, none⟩) L.length cap2), (8, .pointer (some ⟨g2, 0 + i * 15, none⟩)), (9, .int .i64 0), (10, .int .u32 v.a), (29, .bool false), (41, .bool false), (53, kv5), (54, .bool false), (65, .bool false), (104, .bool false), (136, .bool false), (160, .bool false)] ∧ ∃ H, Rep [(w, fun _ => True)] u H (⟨H0 + 1, 0, kc2, 63, true⟩ :: ⟨H0, 0, kc3, 60, true⟩ :: ⟨g2, 0 + i * 15, kc4, 118, false⟩ :: ⟨g2, 0, pr, 118, false⟩ :: ⟨g2, 0 + i * 15 + 15, po, 118, false⟩ :: (rs ++ ob)) []) ?_ ?_
  · show Code.wp _ _ _ _ _
    rcases Bool.eq_false_or_eq_true ((K : Int) == 4) with hc8 | hc8
    · show Code.wp _ _ _ _ _
      have ehc8 := beq_iff_eq.1 hc8
      refine enterR (idx := [0, 1, 2, 3, 4, 5, 6, 7, 8, 9, 10, 11, 12, 13, 14, 15, 16, 17, 18]) (by kernel_rfl) ?_
      refine segV hE hR [(0, .op []), (1, .as [] (.bool true)), (2, .op []), (3, .op []), (4, .op []), (5, .op []), (6, .op []), (7, .op []), (8, .as [] (.bool false)), (9, .op []), (10, .op []), (11, .as [] (.bool false)), (12, .op []), (13, .op []), (14, .skip), (15, .skip), (16, .op []), (17, .op []), (18, .op [])] [] [(160, .bool false)] [false = false, false = !true, false = !true, false = false, false = false, (.bool ((K : Int) == 6) : Value) = (.bool false : Value), false = false, false = false, false = false, (.bool ((K : Int) == 5) : Value) = (.bool false : Value), false = false, false = false, true = true, true = true, (.bool ((K : Int) == 4) : Value) = (.bool true : Value)] (by kernel_rfl) (by kernel_rfl) (by kernel_rfl) ⟨rfl, rfl, rfl, rfl, rfl, congrArg Value.bool (beq_eq_false_iff_ne.2 (by omega)), rfl, rfl, rfl, congrArg Value.bool (beq_eq_false_iff_ne.2 (by omega)), rfl, rfl, rfl, rfl, congrArg Value.bool (beq_iff_eq.2 (by omega)), trivial⟩ ?_
      clear hE hR; intro a u hE hR
      refine opsNil ?_; refine thenN ?_
      exact ⟨hE.sub (by kernel_rfl), _, hR⟩
    · show Code.wp _ _ _ _ _
      have ehc8 := beq_eq_false_iff_ne.1 hc8
      rcases Bool.eq_false_or_eq_true ((K : Int) == 5) with hc9 | hc9
      · show Code.wp _ _ _ _ _
        have ehc9 := beq_iff_eq.1 hc9
        refine enterR (idx := [0, 1, 2, 3, 4, 5, 6, 7, 8, 9, 10, 11, 12, 13, 14, 15, 16, 17, 18]) (by kernel_rfl) ?_
        refine segV hE hR [(0, .op []), (1, .as [] (.bool false)), (2, .op []), (3, .skip), (4, .skip), (5, .op []), (6, .op []), (7, .op []), (8, .as [] (.bool true)), (9, .op []), (10, .skip), (11, .skip), (12, .op []), (13, .op []), (14, .op []), (15, .op []), (16, .op []), (17, .op []), (18, .op [])] [] [(160, .bool false)] [false = false, true = true, true = true, false = false, false = false, true = !false, true = !false, false = false, (.bool ((K : Int) == 5) : Value) = (.bool true : Value), false = false, false = false, false = !true, false = !true, (.bool ((K : Int) == 4) : Value) = (.bool false : Value)] (by kernel_rfl) (by kernel_rfl) (by kernel_rfl) ⟨rfl, rfl, rfl, rfl, rfl, rfl, rfl, rfl, congrArg Value.bool (beq_iff_eq.2 (by omega)), rfl, rfl, rfl, rfl, congrArg Value.bool (beq_eq_false_iff_ne.2 (ehc8)), trivial⟩ ?_
        clear hE hR; intro a u hE hR
        refine opsNil ?_; refine thenN ?_
        exact ⟨hE.sub (by kernel_rfl), _, hR⟩
      · show Code.wp _ _ _ _ _
        have ehc9 := beq_eq_false_iff_ne.1 hc9
        rcases Bool.eq_false_or_eq_true ((K : Int) == 6) with hc10 | hc10
        · show Code.wp _ _ _ _ _
          have ehc10 := beq_iff_eq.1 hc10
          refine enterR (idx := [0, 1, 2, 3, 4, 5, 6, 7, 8, 9, 10, 11, 12, 13, 14, 15, 16, 17, 18]) (by kernel_rfl) ?_
          refine segV hE hR [(0, .op []), (1, .as [] (.bool false)), (2, .op []), (3, .skip), (4, .skip), (5, .op []), (6, .op []), (7, .op []), (8, .as [] (.bool false)), (9, .op []), (10, .op []), (11, .as [] (.bool true)), (12, .op []), (13, .op []), (14, .op []), (15, .op []), (16, .op []), (17, .op []), (18, .op [])] [] [(160, .bool false)] [false = false, true = true, true = true, false = false, false = false, (.bool ((K : Int) == 6) : Value) = (.bool true : Value), false = false, false = false, false = false, (.bool ((K : Int) == 5) : Value) = (.bool false : Value), false = false, false = false, false = !true, false = !true, (.bool ((K : Int) == 4) : Value) = (.bool false : Value)] (by kernel_rfl) (by kernel_rfl) (by kernel_rfl) ⟨rfl, rfl, rfl, rfl, rfl, congrArg Value.bool (beq_iff_eq.2 (by omega)), rfl, rfl, rfl, congrArg Value.bool (beq_eq_false_iff_ne.2 (ehc9)), rfl, rfl, rfl, rfl, congrArg Value.bool (beq_eq_false_iff_ne.2 (ehc8)), trivial⟩ ?_
          clear hE hR; intro a u hE hR
          refine opsNil ?_; refine thenN ?_
          exact ⟨hE.sub (by kernel_rfl), _, hR⟩
        · show Code.wp _ _ _ _ _
          have ehc10 := beq_eq_false_iff_ne.1 hc10
          refine enterR (idx := [0, 1, 2, 3, 4, 5, 6, 7, 8, 9, 10, 11, 12, 13, 14, 15, 16, 17, 18]) (by kernel_rfl) ?_
          refine segV hE hR [(0, .op []), (1, .as [] (.bool false)), (2, .op []), (3, .skip), (4, .skip), (5, .op []), (6, .op []), (7, .op []), (8, .as [] (.bool false)), (9, .op []), (10, .op []), (11, .as [] (.bool false)), (12, .op []), (13, .op []), (14, .skip), (15, .skip), (16, .op []), (17, .op []), (18, .op [])] [] [(160, .bool false)] [false = false, false = !true, false = !true, false = false, false = false, (.bool ((K : Int) == 6) : Value) = (.bool false : Value), false = false, false = false, false = false, (.bool ((K : Int) == 5) : Value) = (.bool false : Value), false = false, false = false, false = !true, false = !true, (.bool ((K : Int) == 4) : Value) = (.bool false : Value)] (by kernel_rfl) (by kernel_rfl) (by kernel_rfl) ⟨rfl, rfl, rfl, rfl, rfl, congrArg Value.bool (beq_eq_false_iff_ne.2 (ehc10)), rfl, rfl, rfl, congrArg Value.bool (beq_eq_false_iff_ne.2 (ehc9)), rfl, rfl, rfl, rfl, congrArg Value.bool (beq_eq_false_iff_ne.2 (ehc8)), trivial⟩ ?_
          clear hE hR; intro a u hE hR
          refine opsNil ?_; refine thenN ?_
          exact ⟨hE.sub (by kernel_rfl), _, hR⟩
  clear hE hR
  rintro a u ⟨hE, J5, hR⟩
  refine condF hE (b := false) (by kernel_rfl) rfl ?_
  refine seqJ (fun a u => TE a 274 [(0, .slice (some ⟨g, off, none⟩) L.length c), (3, .pointer (some ⟨H0, 0, none⟩)), (4, .slice none 0 0), (5, .pointer (some ⟨H0 + 1, 0, none⟩)), (6, .int .i64 K), (7, .slice (some ⟨g2, 0, none⟩) L.length cap2), (8, .pointer (some ⟨g2, 0 + i * 15, none⟩)), (9, .int .i64 0), (10, .int .u32 v.a), (29, .bool false), (41, .bool false), (53, kv5), (54, .bool false), (65, .bool false), (104, .bool false), (136, .bool false), (160, .bool false), (185, .bool false)] ∧ ∃ H, Rep [(w, fun _ => True)] u H (⟨H0 + 1, 0, kc2, 63, true⟩ :: ⟨H0, 0, kc3, 60, true⟩ :: ⟨g2, 0 + i * 15, kc4, 118, false⟩ :: ⟨g2, 0, pr, 118, false⟩ :: ⟨g2, 0 + i * 15 + 15, po, 118, false⟩ :: (rs ++ ob)) []) ?_ ?_
  · show Code.wp _ _ _ _ _
    rcases Bool.eq_false_or_eq_true ((K : Int) == 7) with hc11 | hc11
    · show Code.wp _ _ _ _ _
      have ehc11 := beq_iff_eq.1 hc11
      refine enterR (idx := [0, 1, 2, 3, 4, 5, 6]) (by kernel_rfl) ?_
      refine seg0 hE hR [(0, .op []), (1, .as [] (.bool true)), (2, .op []), (3, .op []), (4, .op []), (5, .op []), (6, .op [])] [] [(0, .slice (some ⟨g, off, none⟩) L.length c), (3, .pointer (some ⟨H0, 0, none⟩)), (4, .slice none 0 0), (5, .pointer (some ⟨H0 + 1, 0, none⟩)), (6, .int .i64 K), (7, .slice (some ⟨g2, 0, none⟩) L.length cap2), (8, .pointer (some ⟨g2, 0 + i * 15, none⟩)), (9, .int .i64 0), (10, .int .u32 v.a), (29, .bool false), (41, .bool false), (53, kv5), (54, .bool false), (65, .bool false), (104, .bool false), (136, .bool false), (160, .bool false), (185, .bool false)] [true = true, true = true, (.bool ((K : Int) == 7) : Value) = (.bool true : Value)] (by kernel_rfl) (by kernel_rfl) (by kernel_rfl) ⟨rfl, rfl, congrArg Value.bool (beq_iff_eq.2 (by omega)), trivial⟩ ?_
      clear hE hR; intro a u hE hR
      refine opsNil ?_; refine thenN ?_
      exact ⟨hE.sub (by kernel_rfl), _, hR⟩
    · show Code.wp _ _ _ _ _
      have ehc11 := beq_eq_false_iff_ne.1 hc11
      refine enterR (idx := [0, 1, 2, 3, 4, 5, 6]) (by kernel_rfl) ?_
      refine segV hE hR [(0, .op []), (1, .as [] (.bool false)), (2, .op []), (3, .skip), (4, .skip), (5, .op []), (6, .op [])] [] [(185, .bool false)] [false = !true, false = !true, (.bool ((K : Int) == 7) : Value) = (.bool false : Value)] (by kernel_rfl) (by kernel_rfl) (by kernel_rfl) ⟨rfl, rfl, congrArg Value.bool (beq_eq_false_iff_ne.2 (ehc11)), trivial⟩ ?_
      clear hE hR; intro a u hE hR
      refine opsNil ?_; refine thenN ?_
      exact ⟨hE.sub (by kernel_rfl), _, hR⟩
  clear hE hR
  rintro a u ⟨hE, J6, hR⟩
  refine condF hE (b := false) (by kernel_rfl) rfl ?_
  refine seqJ (fun a u => TE a 274 [(0, .slice (some ⟨g, off, none⟩) L.length c), (3, .pointer (some ⟨H0, 0, none⟩)), (4, .slice none 0 0), (5, .pointer (some ⟨H0 + 1, 0, none⟩)), (6, .int .i64 K), (7, .slice (some ⟨g2, 0, none⟩) L.length cap2), (8, .pointer (some ⟨g2, 0 + i * 15, none⟩)), (9, .int .i64 0), (10, .int .u32 v.a), (29, .bool false), (41, .bool false), (53, kv5), (54, .bool false), (65, .bool false), (104, .bool false), (136, .bool false), (160, .bool false), (185, .bool false), (205, .bool false)] ∧ ∃ H, Rep [(w, fun _ => True)] u H (⟨H0 + 1, 0, kc2, 63, true⟩ :: ⟨H0, 0, kc3, 60, true⟩ :: ⟨g2, 0 + i * 15, kc4, 118, false⟩ :: ⟨g2, 0, pr, 118, false⟩ :: ⟨g2, 0 + i * 15 + 15, po, 118, false⟩ :: (rs ++ ob)) []) ?_ ?_
  · show Code.wp _ _ _ _ _
    rcases Bool.eq_false_or_eq_true ((K : Int) == 8) with hc12 | hc12
    · show Code.wp _ _ _ _ _
      have ehc12 := beq_iff_eq.1 hc12
      refine enterR (idx := [0, 1, 2, 3, 4, 5, 6]) (by kernel_rfl) ?_
      refine segV hE hR [(0, .op []), (1, .as [] (.bool true)), (2, .op []), (3, .op []), (4, .op []), (5, .op []), (6, .op [])] [] [(205, .bool false)] [true = true, true = true, (.bool ((K : Int) == 8) : Value) = (.bool true : Value)] (by kernel_rfl) (by kernel_rfl) (by kernel_rfl) ⟨rfl, rfl, congrArg Value.bool (beq_iff_eq.2 (by omega)), trivial⟩ ?_
      clear hE hR; intro a u hE hR
      refine opsNil ?_; refine thenN ?_
      exact ⟨hE.sub (by kernel_rfl), _, hR⟩
    · show Code.wp _ _ _ _ _
      have ehc12 := beq_eq_false_iff_ne.1 hc12
      refine enterR (idx := [0, 1, 2, 3, 4, 5, 6]) (by kernel_rfl) ?_
      refine segV hE hR [(0, .op []), (1, .as [] (.bool false)), (2, .op []), (3, .skip), (4, .skip), (5, .op []), (6, .op [])] [] [(205, .bool false)] [false = !true, false = !true, (.bool ((K : Int) == 8) : Value) = (.bool false : Value)] (by kernel_rfl) (by kernel_rfl) (by kernel_rfl) ⟨rfl, rfl, congrArg Value.bool (beq_eq_false_iff_ne.2 (ehc12)), trivial⟩ ?_
      clear hE hR; intro a u hE hR
      refine opsNil ?_; refine thenN ?_
      exact ⟨hE.sub (by kernel_rfl), _, hR⟩
  clear hE hR
  rintro a u ⟨hE, J7, hR⟩
  refine condF hE (b := false) (by kernel_rfl) rfl ?_
  refine wp_seq ?_
  refine seqJ (fun a u => TE a 274 [(0, .slice (some ⟨g, off, none⟩) L.length c), (3, .pointer (some ⟨H0, 0, none⟩)), (4, .slice none 0 0), (5, .pointer (some ⟨H0 + 1, 0, none⟩)), (6, .int .i64 K), (7, .slice (some ⟨g2, 0, none⟩) L.length cap2), (8, .pointer (some ⟨g2, 0 + i * 15, none⟩)), (9, .int .i64 0), (10, .int .u32 v.a), (29, .bool false), (41, .bool false), (53, kv5), (54, .bool false), (65, .bool false), (104, .bool false), (136, .bool false), (160, .bool false), (185, .bool false), (205, .bool false), (226, .bool false)] ∧ ∃ H, Rep [(w, fun _ => True)] u H (⟨H0 + 1, 0, kc2, 63, true⟩ :: ⟨H0, 0, kc3, 60, true⟩ :: ⟨g2, 0 + i * 15, kc4, 118, false⟩ :: ⟨g2, 0, pr, 118, false⟩ :: ⟨g2, 0 + i * 15 + 15, po, 118, false⟩ :: (rs ++ ob)) []) ?_ ?_
  · show Code.wp _ _ _ _ _
    rcases Bool.eq_false_or_eq_true ((K : Int) == 9) with hc13 | hc13
    · show Code.wp _ _ _ _ _
      have ehc13 := beq_iff_eq.1 hc13
      refine enterR (idx := [0, 1, 2, 3, 4, 5, 6]) (by kernel_rfl) ?_
      refine segV hE hR [(0, .op []), (1, .as [] (.bool true)), (2, .op []), (3, .op []), (4, .op []), (5, .op []), (6, .op [])] [] [(226, .bool false)] [true = true, true = true, (.bool ((K : Int) == 9) : Value) = (.bool true : Value)] (by kernel_rfl) (by kernel_rfl) (by kernel_rfl) ⟨rfl, rfl, congrArg Value.bool (beq_iff_eq.2 (by omega)), trivial⟩ ?_
      clear hE hR; intro a u hE hR
      refine opsNil ?_; refine thenN ?_
      exact ⟨hE.sub (by kernel_rfl), _, hR⟩
    · show Code.wp _ _ _ _ _
      have ehc13 := beq_eq_false_iff_ne.1 hc13
      refine enterR (idx := [0, 1, 2, 3, 4, 5, 6]) (by kernel_rfl) ?_
      refine segV hE hR [(0, .op []), (1, .as [] (.bool false)), (2, .op []), (3, .skip), (4, .skip), (5, .op []), (6, .op [])] [] [(226, .bool false)] [false = !true, false = !true, (.bool ((K : Int) == 9) : Value) = (.bool false : Value)] (by kernel_rfl) (by kernel_rfl) (by kernel_rfl) ⟨rfl, rfl, congrArg Value.bool (beq_eq_false_iff_ne.2 (ehc13)), trivial⟩ ?_
      clear hE hR; intro a u hE hR
      refine opsNil ?_; refine thenN ?_
      exact ⟨hE.sub (by kernel_rfl), _, hR⟩
  clear hE hR
  rintro a u ⟨hE, J8, hR⟩
  refine condF hE (b := false) (by kernel_rfl) rfl ?_
  refine seqJ (fun a u => TE a 274 [(0, .slice (some ⟨g, off, none⟩) L.length c), (3, .pointer (some ⟨H0, 0, none⟩)), (4, .slice none 0 0), (5, .pointer (some ⟨H0 + 1, 0, none⟩)), (6, .int .i64 K), (7, .slice (some ⟨g2, 0, none⟩) L.length cap2), (8, .pointer (some ⟨g2, 0 + i * 15, none⟩)), (9, .int .i64 0), (10, .int .u32 v.a), (29, .bool false), (41, .bool false), (53, kv5), (54, .bool false), (65, .bool false), (104, .bool false), (136, .bool false), (160, .bool false), (185, .bool false), (205, .bool false), (226, .bool false)] ∧ ∃ H, Rep [(w, fun _ => True)] u H (⟨H0 + 1, 0, kc2, 63, true⟩ :: ⟨H0, 0, kc3, 60, true⟩ :: ⟨g2, 0 + i * 15, kc4, 118, false⟩ :: ⟨g2, 0, pr, 118, false⟩ :: ⟨g2, 0 + i * 15 + 15, po, 118, false⟩ :: (rs ++ ob)) []) ?_ ?_
  · show Code.wp _ _ _ _ _
    rcases Bool.eq_false_or_eq_true ((K : Int) == 16) with hc14 | hc14
    · show Code.wp _ _ _ _ _
      have ehc14 := beq_iff_eq.1 hc14
      refine enterR (idx := [0, 1, 2, 3, 4, 5, 6, 7, 8, 9, 10, 11, 12, 13]) (by kernel_rfl) ?_
      refine segV hE hR [(0, .op []), (1, .as [] (.bool true)), (2, .op []), (3, .op []), (4, .op []), (5, .op []), (6, .op []), (7, .skip), (8, .skip), (9, .skip), (10, .skip), (11, .skip), (12, .op []), (13, .op [])] [] [] [false = !true, false = !true, false = !true, false = !true, false = !true, true = true, true = true, (.bool ((K : Int) == 16) : Value) = (.bool true : Value)] (by kernel_rfl) (by kernel_rfl) (by kernel_rfl) ⟨rfl, rfl, rfl, rfl, rfl, rfl, rfl, congrArg Value.bool (beq_iff_eq.2 (by omega)), trivial⟩ ?_
      clear hE hR; intro a u hE hR
      refine opsNil ?_; refine thenN ?_
      exact ⟨hE.sub (by kernel_rfl), _, hR⟩
    · show Code.wp _ _ _ _ _
      have ehc14 := beq_eq_false_iff_ne.1 hc14
      refine enterR (idx := [0, 1, 2, 3, 4, 5, 6, 7, 8, 9, 10, 11, 12, 13]) (by kernel_rfl) ?_
      refine segV hE hR [(0, .op []), (1, .as [] (.bool false)), (2, .op []), (3, .skip), (4, .skip), (5, .op []), (6, .op []), (7, .skip), (8, .skip), (9, .skip), (10, .skip), (11, .skip), (12, .op []), (13, .op [])] [] [] [false = !true, false = !true, false = !true, false = !true, false = !true, false = !true, false = !true, (.bool ((K : Int) == 16) : Value) = (.bool false : Value)] (by kernel_rfl) (by kernel_rfl) (by kernel_rfl) ⟨rfl, rfl, rfl, rfl, rfl, rfl, rfl, congrArg Value.bool (beq_eq_false_iff_ne.2 (ehc14)), trivial⟩ ?_
      clear hE hR; intro a u hE hR
      refine opsNil ?_; refine thenN ?_
      exact ⟨hE.sub (by kernel_rfl), _, hR⟩
  clear hE hR
  rintro a u ⟨hE, J9, hR⟩
  refine condF hE (b := false) (by kernel_rfl) rfl ?_
  rcases Bool.eq_false_or_eq_true ((K : Int) == 17) with hc15 | hc15
  · show Code.wp _ _ _ _ _
    have ehc15 := beq_iff_eq.1 hc15
    refine enterR (idx := [0, 1, 2, 3, 4, 5, 6, 7, 8, 9, 10, 11, 12, 13]) (by kernel_rfl) ?_
    refine seg0 hE hR [(0, .op []), (1, .as [] (.bool true)), (2, .op []), (3, .op []), (4, .op []), (5, .op []), (6, .op []), (7, .skip), (8, .skip), (9, .skip), (10, .skip), (11, .skip), (12, .op []), (13, .op [])] [] [(0, .slice (some ⟨g, off, none⟩) L.length c), (3, .pointer (some ⟨H0, 0, none⟩)), (4, .slice none 0 0), (5, .pointer (some ⟨H0 + 1, 0, none⟩)), (6, .int .i64 K), (7, .slice (some ⟨g2, 0, none⟩) L.length cap2), (8, .pointer (some ⟨g2, 0 + i * 15, none⟩)), (9, .int .i64 0), (10, .int .u32 v.a), (29, .bool false), (41, .bool false), (53, kv5), (54, .bool false), (65, .bool false), (104, .bool false), (136, .bool false), (160, .bool false), (185, .bool false), (205, .bool false), (226, .bool false)] [false = !true, false = !true, false = !true, false = !true, false = !true, true = true, true = true, (.bool ((K : Int) == 17) : Value) = (.bool true : Value)] (by kernel_rfl) (by kernel_rfl) (by kernel_rfl) ⟨rfl, rfl, rfl, rfl, rfl, rfl, rfl, congrArg Value.bool (beq_iff_eq.2 (by omega)), trivial⟩ ?_
    clear hE hR; intro a u hE hR
    refine opsNil ?_; refine thenN ?_
    refine condF hE (b := false) (by kernel_rfl) rfl ?_
    refine seqJ (fun a u => TE a 274 [(0, .slice (some ⟨g, off, none⟩) L.length c), (3, .pointer (some ⟨H0, 0, none⟩)), (4, .slice none 0 0), (5, .pointer (some ⟨H0 + 1, 0, none⟩)), (6, .int .i64 K), (7, .slice (some ⟨g2, 0, none⟩) L.length cap2), (8, .pointer (some ⟨g2, 0 + i * 15, none⟩)), (9, .int .i64 0), (10, .int .u32 v.a), (29, .bool false), (41, .bool false), (53, kv5), (54, .bool false), (65, .bool false), (104, .bool false), (136, .bool false), (160, .bool false), (185, .bool false), (205, .bool false), (226, .bool false), (263, .bool false)] ∧ ∃ H, Rep [(w, fun _ => True)] u H (⟨H0 + 1, 0, kc2, 63, true⟩ :: ⟨H0, 0, kc3, 60, true⟩ :: ⟨g2, 0 + i * 15, kc4, 118, false⟩ :: ⟨g2, 0, pr, 118, false⟩ :: ⟨g2, 0 + i * 15 + 15, po, 118, false⟩ :: (rs ++ ob)) []) ?_ ?_
    · show Code.wp _ _ _ _ _
      rcases Bool.eq_false_or_eq_true (decide ((K : Int) ≥ 16)) with hc16 | hc16
      · show Code.wp _ _ _ _ _
        have ehc16 := of_decide_eq_true hc16
        refine enterR (idx := [0, 1, 2, 3, 4, 5, 6]) (by kernel_rfl) ?_
        refine segV hE hR [(0, .op []), (1, .op []), (2, .op []), (3, .op []), (4, .op []), (5, .as [] (.bool false)), (6, .op [])] [] [(263, .bool false)] [((if (decide ((K : Int) ≥ 16)) = true then (.bool false : Value) else (.bool false : Value)) : Value) = (.bool false : Value), (decide ((K : Int) ≥ 16)) = true, (decide ((K : Int) ≥ 16)) = true] (by kernel_rfl) (by kernel_rfl) (by kernel_rfl) ⟨if_pos (hc16), hc16, hc16, trivial⟩ ?_
        clear hE hR; intro a u hE hR
        refine opsNil ?_; refine thenN ?_
        exact ⟨hE.sub (by kernel_rfl), _, hR⟩
      · show Code.wp _ _ _ _ _
        have ehc16 := of_decide_eq_false hc16
        refine enterR (idx := [0, 1, 2, 3, 4, 5, 6]) (by kernel_rfl) ?_
        refine segV hE hR [(0, .op []), (1, .op []), (2, .op []), (3, .skip), (4, .skip), (5, .as [] (.bool false)), (6, .op [])] [] [(263, .bool false)] [((if (decide ((K : Int) ≥ 16)) = true then (.tuple #[] : Value) else (.bool false : Value)) : Value) = (.bool false : Value), (decide ((K : Int) ≥ 16)) = !true, (decide ((K : Int) ≥ 16)) = !true] (by kernel_rfl) (by kernel_rfl) (by kernel_rfl) ⟨if_neg (by rw [hc16]; decide), hc16, hc16, trivial⟩ ?_
        clear hE hR; intro a u hE hR
        refine opsNil ?_; refine thenN ?_
        exact ⟨hE.sub (by kernel_rfl), _, hR⟩
    clear hE hR
    rintro a u ⟨hE, J10, hR⟩
    refine condF hE (b := false) (by kernel_rfl) rfl ?_
    refine wp_skip ?_; refine blkN ?_; refine thenN ?_; refine wp_seq ?_
    refine enterR (idx := [0, 1, 2, 3]) (by kernel_rfl) ?_
    let kc6 : List Value := [.int .i64 12, .int .u32 0, .int .u32 0, .int .u32 0, .int .u32 0]
    refine segU hE hR [(0, .op []), (1, .op []), (2, .op []), (3, .op (hks 0 0 5))] [] [(4, .slice (some ⟨g, off, none⟩) L.length c)] (⟨H0 + 1, 0, kc6, 63, true⟩ :: ⟨H0, 0, kc3, 60, true⟩ :: ⟨g2, 0 + i * 15, kc4, 118, false⟩ :: ⟨g2, 0, pr, 118, false⟩ :: ⟨g2, 0 + i * 15 + 15, po, 118, false⟩ :: (rs ++ ob)) (J10) [] (by kernel_rfl) (by kernel_rfl) (by kernel_rfl) trivial ?_
    clear hE hR; intro a u hE hR
    refine opsNil ?_; refine thenN ?_; refine wp_ret ?_
    refine retF hE hR (hks 0 0 5) (.tuple #[.slice (some ⟨g, off, none⟩) L.length c, .agg #[.int .i64 12, .int .u32 0, .int .u32 0, .int .u32 0, .int .u32 0]]) (by kernel_rfl) (by kernel_rfl) (by kernel_rfl) ?_
    exact ⟨rfl, hR.below (by simp)⟩
  · show Code.wp _ _ _ _ _
    have ehc15 := beq_eq_false_iff_ne.1 hc15
    refine enterR (idx := [0, 1, 2, 3, 4, 5, 6, 7, 8, 9, 10, 11, 12, 13]) (by kernel_rfl) ?_
    refine segV hE hR [(0, .op []), (1, .as [] (.bool false)), (2, .op []), (3, .skip), (4, .skip), (5, .op []), (6, .op []), (7, .skip), (8, .skip), (9, .skip), (10, .skip), (11, .skip), (12, .op []), (13, .op [])] [] [] [false = !true, false = !true, false = !true, false = !true, false = !true, false = !true, false = !true, (.bool ((K : Int) == 17) : Value) = (.bool false : Value)] (by kernel_rfl) (by kernel_rfl) (by kernel_rfl) ⟨rfl, rfl, rfl, rfl, rfl, rfl, rfl, congrArg Value.bool (beq_eq_false_iff_ne.2 (ehc15)), trivial⟩ ?_
    clear hE hR; intro a u hE hR
    refine opsNil ?_; refine thenN ?_
    refine condF hE (b := false) (by kernel_rfl) rfl ?_
    refine seqJ (fun a u => TE a 274 [(0, .slice (some ⟨g, off, none⟩) L.length c), (3, .pointer (some ⟨H0, 0, none⟩)), (4, .slice none 0 0), (5, .pointer (some ⟨H0 + 1, 0, none⟩)), (6, .int .i64 K), (7, .slice (some ⟨g2, 0, none⟩) L.length cap2), (8, .pointer (some ⟨g2, 0 + i * 15, none⟩)), (9, .int .i64 0), (10, .int .u32 v.a), (29, .bool false), (41, .bool false), (53, kv5), (54, .bool false), (65, .bool false), (104, .bool false), (136, .bool false), (160, .bool false), (185, .bool false), (205, .bool false), (226, .bool false), (263, .bool false)] ∧ ∃ H, Rep [(w, fun _ => True)] u H (⟨H0 + 1, 0, kc2, 63, true⟩ :: ⟨H0, 0, kc3, 60, true⟩ :: ⟨g2, 0 + i * 15, kc4, 118, false⟩ :: ⟨g2, 0, pr, 118, false⟩ :: ⟨g2, 0 + i * 15 + 15, po, 118, false⟩ :: (rs ++ ob)) []) ?_ ?_
    · show Code.wp _ _ _ _ _
      rcases Bool.eq_false_or_eq_true (decide ((K : Int) ≥ 16)) with hc17 | hc17
      · show Code.wp _ _ _ _ _
        have ehc17 := of_decide_eq_true hc17
        refine enterR (idx := [0, 1, 2, 3, 4, 5, 6]) (by kernel_rfl) ?_
        refine segV hE hR [(0, .op []), (1, .op []), (2, .op []), (3, .op []), (4, .op []), (5, .as [] (.bool false)), (6, .op [])] [] [(263, .bool false)] [((if (decide ((K : Int) ≥ 16)) = true then (.bool false : Value) else (.bool false : Value)) : Value) = (.bool false : Value), (decide ((K : Int) ≥ 16)) = true, (decide ((K : Int) ≥ 16)) = true] (by kernel_rfl) (by kernel_rfl) (by kernel_rfl) ⟨if_pos (hc17), hc17, hc17, trivial⟩ ?_
        clear hE hR; intro a u hE hR
        refine opsNil ?_; refine thenN ?_
        exact ⟨hE.sub (by kernel_rfl), _, hR⟩
      · show Code.wp _ _ _ _ _
        have ehc17 := of_decide_eq_false hc17
        refine enterR (idx := [0, 1, 2, 3, 4, 5, 6]) (by kernel_rfl) ?_
        refine segV hE hR [(0, .op []), (1, .op []), (2, .op []), (3, .skip), (4, .skip), (5, .as [] (.bool false)), (6, .op [])] [] [(263, .bool false)] [((if (decide ((K : Int) ≥ 16)) = true then (.tuple #[] : Value) else (.bool false : Value)) : Value) = (.bool false : Value), (decide ((K : Int) ≥ 16)) = !true, (decide ((K : Int) ≥ 16)) = !true] (by kernel_rfl) (by kernel_rfl) (by kernel_rfl) ⟨if_neg (by rw [hc17]; decide), hc17, hc17, trivial⟩ ?_
        clear hE hR; intro a u hE hR
        refine opsNil ?_; refine thenN ?_
        exact ⟨hE.sub (by kernel_rfl), _, hR⟩
    clear hE hR
    rintro a u ⟨hE, J11, hR⟩
    refine condF hE (b := false) (by kernel_rfl) rfl ?_
    refine wp_skip ?_; refine blkN ?_; refine thenN ?_; refine wp_seq ?_
    refine enterR (idx := [0, 1, 2, 3]) (by kernel_rfl) ?_
    let kc7 : List Value := [.int .i64 12, .int .u32 0, .int .u32 0, .int .u32 0, .int .u32 0]
    refine segU hE hR [(0, .op []), (1, .op []), (2, .op []), (3, .op (hks 0 0 5))] [] [(4, .slice (some ⟨g, off, none⟩) L.length c)] (⟨H0 + 1, 0, kc7, 63, true⟩ :: ⟨H0, 0, kc3, 60, true⟩ :: ⟨g2, 0 + i * 15, kc4, 118, false⟩ :: ⟨g2, 0, pr, 118, false⟩ :: ⟨g2, 0 + i * 15 + 15, po, 118, false⟩ :: (rs ++ ob)) (J11) [] (by kernel_rfl) (by kernel_rfl) (by kernel_rfl) trivial ?_
    clear hE hR; intro a u hE hR
    refine opsNil ?_; refine thenN ?_; refine wp_ret ?_
    refine retF hE hR (hks 0 0 5) (.tuple #[.slice (some ⟨g, off, none⟩) L.length c, .agg #[.int .i64 12, .int .u32 0, .int .u32 0, .int .u32 0, .int .u32 0]]) (by kernel_rfl) (by kernel_rfl) (by kernel_rfl) ?_
    exact ⟨rfl, hR.below (by simp)⟩
set_option maxRecDepth 100000 in
set_option maxHeartbeats 2000000 in
theorem ref_kind (g off c : Nat) (L : List IV) (i : Nat) (o : Ob) (row : List Vl) (v : Vl) (ck : Int) (cv : Vl) (cn : Int) (w : World) (hck : -9223372036854775808 ≤ ck ∧ ck ≤ 9223372036854775807) (hok : kindOk (plainP ck) = true) (hi : i < L.length) (_ : L.length ≤ 8) (HC : ∀ W, Below w.heap.size w W → Calls Try.prog 52 #[.slice (some ⟨g, off, none⟩) L.length c] W (CopyAt L i ⟨o, row, v⟩ W)) (hrt : rightP o = true) (hno : ¬ (plainP ck = 1 ∧ o.kind = 1) ∧ ¬ (plainP ck = 2 ∧ o.kind = 1) ∧ ¬ (plainP ck = 3 ∧ o.kind = 2) ∧ ¬ (plainP ck = 3 ∧ o.kind = 3) ∧ ¬ (plainP ck = 4 ∧ o.kind = 2) ∧ ¬ (plainP ck = 5 ∧ o.kind = 3) ∧ ¬ (plainP ck = 6 ∧ o.kind = 3) ∧ ¬ (plainP ck = 7 ∧ o.kind = 4) ∧ ¬ (plainP ck = 8 ∧ o.kind = 4) ∧ ¬ (plainP ck = 16 ∧ o.kind = 4) ∧ ¬ (plainP ck = 17 ∧ o.kind = 4) ∧ ¬ (plainP ck = 9 ∧ o.kind = 4)) :
    Calls Try.prog 26 #[.slice (some ⟨g, off, none⟩) L.length c, .agg #[.int .i64 ck, .int .i64 ((i : Nat) : Int), .int .u32 cv.a, .int .u32 cv.b, .int .u32 cv.c, .int .u32 cv.d, .int .u32 cn]] w fun e W' => e = .returned (.tuple #[.slice (some ⟨g, off, none⟩) L.length c, resA 12 Vl.z]) ∧ Below w.heap.size w W' := by
  obtain ⟨K, hK⟩ : ∃ K, K = plainP ck := ⟨_, rfl⟩
  have hpl := fun W => plain2B_calls ck W hck
  rw [← hK] at hok hpl hno
  simp only [kindOk, decide_eq_true_eq] at hok
  have HRt := fun W => right2_calls o W
  rw [hrt] at HRt
  let kv1 : Value := .agg #[.int .i64 ck, .int .i64 ((i : Nat) : Int), .int .u32 cv.a, .int .u32 cv.b, .int .u32 cv.c, .int .u32 cv.d, .int .u32 cn]
  refine enterF Try.func26 rfl Try.ntmps26 [(0, .slice (some ⟨g, off, none⟩) L.length c), (1, kv1)] (by kernel_rfl) (by kernel_rfl) ?_
  have hR := Rep.start w
  obtain ⟨H0, hH0⟩ : ∃ x, x = w.heap.size := ⟨_, rfl⟩
  rw [← hH0] at hR
  intro a hE
  refine wp_seq ?_
  refine enterR (idx := [0, 1, 2]) (by kernel_rfl) ?_
  let kc2 : List Value := [.int .i64 0, .int .u32 0, .int .u32 0, .int .u32 0, .int .u32 0]
  let kc3 : List Value := [.int .i64 ck, .int .i64 ((i : Nat) : Int), .int .u32 cv.a, .int .u32 cv.b, .int .u32 cv.c, .int .u32 cv.d, .int .u32 cn]
  refine segU hE hR [(0, .op []), (1, .op []), (2, .op [])] [] [(3, .pointer (some ⟨H0, 0, none⟩)), (4, .slice none 0 0), (5, .pointer (some ⟨H0 + 1, 0, none⟩))] [⟨H0 + 1, 0, kc2, 63, true⟩, ⟨H0, 0, kc3, 60, true⟩] (H0 + 2) [] (by kernel_rfl) (by kernel_rfl) (by kernel_rfl) trivial ?_
  clear hE hR; intro a u hE hR
  refine opsNil ?_; refine thenN ?_; refine wp_seq ?_
  refine enterR (idx := [0, 1, 2, 3]) (by kernel_rfl) ?_
  refine segV hE hR [(0, .op []), (1, .op [.k 1 0])] [2, 3] [(13, .int .i64 ck)] [] (by kernel_rfl) (by kernel_rfl) (by kernel_rfl) trivial ?_
  clear hE hR; intro a u hE hR
  refine opsCons ?_
  refine call hE hR [] 51 #[.int .i64 ck] (some 14) [] (by kernel_rfl) (by kernel_rfl) trivial (hpl _) (fun _ _ h => by cases h.1) (fun _ h => by cases h.1) ?_
  clear hE
  rintro v u ⟨hv, hb⟩ a hE
  cases hv
  obtain ⟨H1, hH1, hR⟩ := hR.callE hb
  refine segV hE hR [(3, .op [])] [] [(6, .int .i64 K)] [] (by kernel_rfl) (by kernel_rfl) (by kernel_rfl) trivial ?_
  clear hE hR; intro a u hE hR
  refine opsNil ?_; refine thenN ?_; refine wp_seq ?_
  refine seqJ (fun a u => TE a 274 [(0, .slice (some ⟨g, off, none⟩) L.length c), (3, .pointer (some ⟨H0, 0, none⟩)), (4, .slice none 0 0), (5, .pointer (some ⟨H0 + 1, 0, none⟩)), (6, .int .i64 K), (29, .bool false)] ∧ ∃ H, Rep [(w, fun _ => True)] u H [⟨H0 + 1, 0, kc2, 63, true⟩, ⟨H0, 0, kc3, 60, true⟩] []) ?_ ?_
  · show Code.wp _ _ _ _ _
    rcases Bool.eq_false_or_eq_true (decide ((K : Int) ≤ 9)) with hc2 | hc2
    · show Code.wp _ _ _ _ _
      have ehc2 := of_decide_eq_true hc2
      refine enterR (idx := [0, 1, 2, 3, 4, 5, 6, 7, 8, 9, 10, 11, 12, 13, 14]) (by kernel_rfl) ?_
      refine segV hE hR [(0, .op []), (1, .as [] (.bool true)), (2, .op []), (3, .op []), (4, .op []), (5, .op []), (6, .op []), (7, .skip), (8, .skip), (9, .as [] (.bool true)), (10, .op []), (11, .skip), (12, .skip), (13, .op []), (14, .op [])] [] [(29, .bool false)] [true = !false, true = !false, ((if (decide ((K : Int) ≤ 9)) = true then (.bool true : Value) else (.tuple #[] : Value)) : Value) = (.bool true : Value), (decide ((K : Int) ≤ 9)) = !false, (decide ((K : Int) ≤ 9)) = !false, true = true, true = true, (.bool (decide ((K : Int) ≥ 1)) : Value) = (.bool true : Value)] (by kernel_rfl) (by kernel_rfl) (by kernel_rfl) ⟨rfl, rfl, if_pos (hc2), hc2, hc2, rfl, rfl, congrArg Value.bool (decide_eq_true (by omega)), trivial⟩ ?_
      clear hE hR; intro a u hE hR
      refine opsNil ?_; refine thenN ?_
      exact ⟨hE.sub (by kernel_rfl), _, hR⟩
    · show Code.wp _ _ _ _ _
      have ehc2 := of_decide_eq_false hc2
      rcases Bool.eq_false_or_eq_true ((K : Int) == 16) with hc3 | hc3
      · show Code.wp _ _ _ _ _
        have ehc3 := beq_iff_eq.1 hc3
        refine enterR (idx := [0, 1, 2, 3, 4, 5, 6, 7, 8, 9, 10, 11, 12, 13, 14]) (by kernel_rfl) ?_
        refine segV hE hR [(0, .op []), (1, .as [] (.bool true)), (2, .op []), (3, .op []), (4, .op []), (5, .op []), (6, .op []), (7, .op []), (8, .as [] (.bool true)), (9, .as [] (.bool true)), (10, .op []), (11, .skip), (12, .skip), (13, .op []), (14, .op [])] [] [(29, .bool false)] [true = !false, true = !false, ((if (decide ((K : Int) ≤ 9)) = true then (.bool true : Value) else (.bool true : Value)) : Value) = (.bool true : Value), (.bool ((K : Int) == 16) : Value) = (.bool true : Value), (decide ((K : Int) ≤ 9)) = false, (decide ((K : Int) ≤ 9)) = false, true = true, true = true, (.bool (decide ((K : Int) ≥ 1)) : Value) = (.bool true : Value)] (by kernel_rfl) (by kernel_rfl) (by kernel_rfl) ⟨rfl, rfl, if_neg (by rw [hc2]; decide), congrArg Value.bool (beq_iff_eq.2 (by omega)), hc2, hc2, rfl, rfl, congrArg Value.bool (decide_eq_true (by omega)), trivial⟩ ?_
        clear hE hR; intro a u hE hR
        refine opsNil ?_; refine thenN ?_
        exact ⟨hE.sub (by kernel_rfl), _, hR⟩
      · show Code.wp _ _ _ _ _
        have ehc3 := beq_eq_false_iff_ne.1 hc3
        refine enterR (idx := [0, 1, 2, 3, 4, 5, 6, 7, 8, 9, 10, 11, 12, 13, 14]) (by kernel_rfl) ?_
        refine segV hE hR [(0, .op []), (1, .as [] (.bool true)), (2, .op []), (3, .op []), (4, .op []), (5, .op []), (6, .op []), (7, .op []), (8, .as [] (.bool false)), (9, .as [] (.bool false)), (10, .op []), (11, .op []), (12, .as [] (.bool true)), (13, .op []), (14, .op [])] [] [(29, .bool false)] [(.bool ((K : Int) == 17) : Value) = (.bool true : Value), false = false, false = false, ((if (decide ((K : Int) ≤ 9)) = true then (.bool true : Value) else (.bool false : Value)) : Value) = (.bool false : Value), (.bool ((K : Int) == 16) : Value) = (.bool false : Value), (decide ((K : Int) ≤ 9)) = false, (decide ((K : Int) ≤ 9)) = false, true = true, true = true, (.bool (decide ((K : Int) ≥ 1)) : Value) = (.bool true : Value)] (by kernel_rfl) (by kernel_rfl) (by kernel_rfl) ⟨congrArg Value.bool (beq_iff_eq.2 (by omega)), rfl, rfl, if_neg (by rw [hc2]; decide), congrArg Value.bool (beq_eq_false_iff_ne.2 (ehc3)), hc2, hc2, rfl, rfl, congrArg Value.bool (decide_eq_true (by omega)), trivial⟩ ?_
        clear hE hR; intro a u hE hR
        refine opsNil ?_; refine thenN ?_
        exact ⟨hE.sub (by kernel_rfl), _, hR⟩
  clear hE hR
  rintro a u ⟨hE, J1, hR⟩
  refine condF hE (b := false) (by kernel_rfl) rfl ?_
  refine wp_skip ?_; refine thenN ?_; refine wp_seq ?_; refine wp_seq ?_
  refine enterR (idx := [0, 1, 2, 3, 4, 5, 6, 7, 8, 9]) (by kernel_rfl) ?_
  refine segV hE hR [(0, .op []), (1, .op [.k 1 1]), (2, .as [] (.bool false)), (3, .op []), (4, .op []), (5, .op [.k 1 1]), (6, .op []), (7, .op []), (8, .as [] (.bool false)), (9, .op [])] [] [(41, .bool false)] [(.bool (decide (((i : Nat) : Int) ≥ ((L.length : Nat) : Int))) : Value) = (.bool false : Value), false = false, false = false, false = false, false = false, false = false, (.bool (decide (((i : Nat) : Int) < 0)) : Value) = (.bool false : Value)] (by kernel_rfl) (by kernel_rfl) (by kernel_rfl) ⟨congrArg Value.bool (decide_eq_false (by omega)), rfl, rfl, rfl, rfl, rfl, congrArg Value.bool (decide_eq_false (by omega)), trivial⟩ ?_
  clear hE hR; intro a u hE hR
  refine opsNil ?_; refine thenN ?_
  refine condF hE (b := false) (by kernel_rfl) rfl ?_
  refine wp_skip ?_; refine thenN ?_; refine wp_seq ?_
  refine enterR (idx := [0, 1, 2]) (by kernel_rfl) ?_
  refine seg0 hE hR [(0, .op [])] [1, 2] [(0, .slice (some ⟨g, off, none⟩) L.length c), (3, .pointer (some ⟨H0, 0, none⟩)), (4, .slice none 0 0), (5, .pointer (some ⟨H0 + 1, 0, none⟩)), (6, .int .i64 K), (29, .bool false), (41, .bool false), (44, .slice (some ⟨g, off, none⟩) L.length c)] [] (by kernel_rfl) (by kernel_rfl) (by kernel_rfl) trivial ?_
  clear hE hR; intro a u hE hR
  refine opsCons ?_
  refine call hE hR [] 52 #[.slice (some ⟨g, off, none⟩) L.length c] (some 45) [] (by kernel_rfl) (by kernel_rfl) trivial (HC _ (hR.below (by simp))) (by rintro _ _ ⟨_, _, _, _, _, _, _, _, _, _, h, _⟩; cases h) (by rintro _ ⟨_, _, _, _, _, _, _, _, _, _, h, _⟩; cases h) ?_
  clear hE
  rintro v u ⟨g2, cap2, pr, po, gr, cr, rest, rs, ob, L2, hv, hcf, Hc, hRc⟩ a hE
  cases hv
  let kc4 : List Value := [.int .i64 o.kind, .int .i64 o.cap, .int .i64 o.width, .int .i64 o.retry, .int .i64 o.src, .int .i64 o.dst, .int .u32 o.i0, .int .u32 o.i1, .int .u32 o.i2, .int .u32 o.i3, .slice (some ⟨gr, 0, none⟩) row.length cr, .int .u32 v.a, .int .u32 v.b, .int .u32 v.c, .int .u32 v.d]
  replace hR : Rep [(w, fun _ => True)] u Hc (⟨H0 + 1, 0, kc2, 63, true⟩ :: ⟨H0, 0, kc3, 60, true⟩ :: ⟨g2, 0 + i * 15, kc4, 118, false⟩ :: ⟨g2, 0, pr, 118, false⟩ :: ⟨g2, 0 + i * 15 + 15, po, 118, false⟩ :: (rs ++ ob)) [] := hR.join hRc
  refine segV hE hR [(2, .op [])] [] [(7, .slice (some ⟨g2, 0, none⟩) L.length cap2)] [] (by kernel_rfl) (by kernel_rfl) (by kernel_rfl) trivial ?_
  clear hE hR; intro a u hE hR
  refine opsNil ?_; refine thenN ?_; refine wp_seq ?_
  refine enterR (idx := [0, 1, 2, 3, 4]) (by kernel_rfl) ?_
  refine segV hE hR [(0, .op []), (1, .op []), (2, .op [.k 1 1]), (3, .alt (.pointer (some ⟨g2, 0 + i * 15, none⟩))), (4, .op [])] [] [(8, .pointer (some ⟨g2, 0 + i * 15, none⟩))] [(0 ≤ (((i : Nat) : Int) : Int) ∧ (((i : Nat) : Int) : Int) < ((L.length : Nat) : Int)) ∧ (Try.prog.info? 118).isSome = true, (.pointer (some ⟨g2, 0 + (((i : Nat) : Int)).toNat * Try.prog.cellsOf 118, none⟩) : Value) = (.pointer (some ⟨g2, 0 + i * 15, none⟩) : Value)] (by kernel_rfl) (by kernel_rfl) (by kernel_rfl) ⟨⟨⟨by omega, by omega⟩, by kernel_rfl⟩, by kernel_rfl, trivial⟩ ?_
  clear hE hR; intro a u hE hR
  refine opsNil ?_; refine thenN ?_; refine wp_seq ?_
  refine enterR (idx := [0]) (by kernel_rfl) ?_
  refine segV hE hR [(0, .op [])] [] [(9, .int .i64 0)] [] (by kernel_rfl) (by kernel_rfl) (by kernel_rfl) trivial ?_
  clear hE hR; intro a u hE hR
  refine opsNil ?_; refine thenN ?_; refine wp_seq ?_; refine wp_seq ?_
  refine enterR (idx := [0, 1, 2, 3, 4]) (by kernel_rfl) ?_
  let kv5 : Value := .agg #[.int .i64 o.kind, .int .i64 o.cap, .int .i64 o.width, .int .i64 o.retry, .int .i64 o.src, .int .i64 o.dst, .int .u32 o.i0, .int .u32 o.i1, .int .u32 o.i2, .int .u32 o.i3]
  refine segV hE hR [(0, .op []), (1, .op []), (2, .op []), (3, .op (hks 2 0 10))] [4] [(53, kv5)] [] (by kernel_rfl) (by kernel_rfl) (by kernel_rfl) trivial ?_
  clear hE hR; intro a u hE hR
  refine opsCons ?_
  refine call hE hR [] 47 #[kv5] (some 54) [] (by kernel_rfl) (by kernel_rfl) trivial (HRt _) (fun _ _ h => by cases h.1) (fun _ h => by cases h.1) ?_
  clear hE
  rintro v u ⟨hv, hb⟩ a hE
  cases hv
  obtain ⟨H4, hH4, hR⟩ := hR.callE hb
  refine opsNil ?_; refine thenN ?_
  refine condT hE (b := true) (by kernel_rfl) rfl ?_
  refine enterR (idx := [0, 1, 2, 3, 4, 5]) (by kernel_rfl) ?_
  refine segV hE hR [(0, .op []), (1, .op []), (2, .op []), (3, .op []), (4, .op [.k 2 0]), (5, .op [])] [] [(9, .int .i64 o.kind)] [] (by kernel_rfl) (by kernel_rfl) (by kernel_rfl) trivial ?_
  clear hE hR; intro a u hE hR
  refine opsNil ?_; refine thenN ?_; refine wp_seq ?_
  refine enterR (idx := [0, 1, 2, 3, 4, 5]) (by kernel_rfl) ?_
  refine segV hE hR [(0, .op []), (1, .op []), (2, .op []), (3, .op []), (4, .op [.k 2 11]), (5, .op [])] [] [(10, .int .u32 v.a)] [] (by kernel_rfl) (by kernel_rfl) (by kernel_rfl) trivial ?_
  clear hE hR; intro a u hE hR
  refine opsNil ?_; refine thenN ?_; refine wp_seq ?_; refine wp_block ?_
  refine seqJ (fun a u => TE a 274 [(0, .slice (some ⟨g, off, none⟩) L.length c), (3, .pointer (some ⟨H0, 0, none⟩)), (4, .slice none 0 0), (5, .pointer (some ⟨H0 + 1, 0, none⟩)), (6, .int .i64 K), (7, .slice (some ⟨g2, 0, none⟩) L.length cap2), (8, .pointer (some ⟨g2, 0 + i * 15, none⟩)), (9, .int .i64 o.kind), (10, .int .u32 v.a), (29, .bool false), (41, .bool false), (53, kv5), (54, .bool true), (65, .bool false)] ∧ ∃ H, Rep [(w, fun _ => True)] u H (⟨H0 + 1, 0, kc2, 63, true⟩ :: ⟨H0, 0, kc3, 60, true⟩ :: ⟨g2, 0 + i * 15, kc4, 118, false⟩ :: ⟨g2, 0, pr, 118, false⟩ :: ⟨g2, 0 + i * 15 + 15, po, 118, false⟩ :: (rs ++ ob)) []) ?_ ?_
  · show Code.wp _ _ _ _ _
    rcases Bool.eq_false_or_eq_true ((K : Int) == 1) with hc5 | hc5
    · show Code.wp _ _ _ _ _
      have ehc5 := beq_iff_eq.1 hc5
      refine enterR (idx := [0, 1, 2, 3, 4, 5, 6]) (by kernel_rfl) ?_
      refine segV hE hR [(0, .op []), (1, .as [] (.bool true)), (2, .op []), (3, .op []), (4, .as [] (.bool false)), (5, .op []), (6, .op [])] [] [(65, .bool false)] [(.bool ((o.kind : Int) == 1) : Value) = (.bool false : Value), true = true, true = true, (.bool ((K : Int) == 1) : Value) = (.bool true : Value)] (by kernel_rfl) (by kernel_rfl) (by kernel_rfl) ⟨congrArg Value.bool (beq_eq_false_iff_ne.2 (by omega)), rfl, rfl, congrArg Value.bool (beq_iff_eq.2 (by omega)), trivial⟩ ?_
      clear hE hR; intro a u hE hR
      refine opsNil ?_; refine thenN ?_
      exact ⟨hE.sub (by kernel_rfl), _, hR⟩
    · show Code.wp _ _ _ _ _
      have ehc5 := beq_eq_false_iff_ne.1 hc5
      refine enterR (idx := [0, 1, 2, 3, 4, 5, 6]) (by kernel_rfl) ?_
      refine seg0 hE hR [(0, .op []), (1, .as [] (.bool false)), (2, .op []), (3, .skip), (4, .skip), (5, .op []), (6, .op [])] [] [(0, .slice (some ⟨g, off, none⟩) L.length c), (3, .pointer (some ⟨H0, 0, none⟩)), (4, .slice none 0 0), (5, .pointer (some ⟨H0 + 1, 0, none⟩)), (6, .int .i64 K), (29, .bool false), (41, .bool false), (7, .slice (some ⟨g2, 0, none⟩) L.length cap2), (8, .pointer (some ⟨g2, 0 + i * 15, none⟩)), (9, .int .i64 o.kind), (53, kv5), (54, .bool true), (10, .int .u32 v.a), (65, .bool false)] [false = !true, false = !true, (.bool ((K : Int) == 1) : Value) = (.bool false : Value)] (by kernel_rfl) (by kernel_rfl) (by kernel_rfl) ⟨rfl, rfl, congrArg Value.bool (beq_eq_false_iff_ne.2 (ehc5)), trivial⟩ ?_
      clear hE hR; intro a u hE hR
      refine opsNil ?_; refine thenN ?_
      exact ⟨hE.sub (by kernel_rfl), _, hR⟩
  clear hE hR
  rintro a u ⟨hE, J2, hR⟩
  refine condF hE (b := false) (by kernel_rfl) rfl ?_
  refine seqJ (fun a u => TE a 274 [(0, .slice (some ⟨g, off, none⟩) L.length c), (3, .pointer (some ⟨H0, 0, none⟩)), (4, .slice none 0 0), (5, .pointer (some ⟨H0 + 1, 0, none⟩)), (6, .int .i64 K), (7, .slice (some ⟨g2, 0, none⟩) L.length cap2), (8, .pointer (some ⟨g2, 0 + i * 15, none⟩)), (9, .int .i64 o.kind), (10, .int .u32 v.a), (29, .bool false), (41, .bool false), (53, kv5), (54, .bool true), (65, .bool false), (104, .bool false)] ∧ ∃ H, Rep [(w, fun _ => True)] u H (⟨H0 + 1, 0, kc2, 63, true⟩ :: ⟨H0, 0, kc3, 60, true⟩ :: ⟨g2, 0 + i * 15, kc4, 118, false⟩ :: ⟨g2, 0, pr, 118, false⟩ :: ⟨g2, 0 + i * 15 + 15, po, 118, false⟩ :: (rs ++ ob)) []) ?_ ?_
  · show Code.wp _ _ _ _ _
    rcases Bool.eq_false_or_eq_true ((K : Int) == 2) with hc6 | hc6
    · show Code.wp _ _ _ _ _
      have ehc6 := beq_iff_eq.1 hc6
      refine enterR (idx := [0, 1, 2, 3, 4, 5, 6]) (by kernel_rfl) ?_
      refine segV hE hR [(0, .op []), (1, .as [] (.bool true)), (2, .op []), (3, .op []), (4, .as [] (.bool false)), (5, .op []), (6, .op [])] [] [(104, .bool false)] [(.bool ((o.kind : Int) == 1) : Value) = (.bool false : Value), true = true, true = true, (.bool ((K : Int) == 2) : Value) = (.bool true : Value)] (by kernel_rfl) (by kernel_rfl) (by kernel_rfl) ⟨congrArg Value.bool (beq_eq_false_iff_ne.2 (by omega)), rfl, rfl, congrArg Value.bool (beq_iff_eq.2 (by omega)), trivial⟩ ?_
      clear hE hR; intro a u hE hR
      refine opsNil ?_; refine thenN ?_
      exact ⟨hE.sub (by kernel_rfl), _, hR⟩
    · show Code.wp _ _ _ _ _
      have ehc6 := beq_eq_false_iff_ne.1 hc6
      refine enterR (idx := [0, 1, 2, 3, 4, 5, 6]) (by kernel_rfl) ?_
      refine segV hE hR [(0, .op []), (1, .as [] (.bool false)), (2, .op []), (3, .skip), (4, .skip), (5, .op []), (6, .op [])] [] [(104, .bool false)] [false = !true, false = !true, (.bool ((K : Int) == 2) : Value) = (.bool false : Value)] (by kernel_rfl) (by kernel_rfl) (by kernel_rfl) ⟨rfl, rfl, congrArg Value.bool (beq_eq_false_iff_ne.2 (ehc6)), trivial⟩ ?_
      clear hE hR; intro a u hE hR
      refine opsNil ?_; refine thenN ?_
      exact ⟨hE.sub (by kernel_rfl), _, hR⟩
  clear hE hR
  rintro a u ⟨hE, J3, hR⟩
  refine condF hE (b := false) (by kernel_rfl) rfl ?_
  refine seqJ (fun a u => TE a 274 [(0, .slice (some ⟨g, off, none⟩) L.length c), (3, .pointer (some ⟨H0, 0, none⟩)), (4, .slice none 0 0), (5, .pointer (some ⟨H0 + 1, 0, none⟩)), (6, .int .i64 K), (7, .slice (some ⟨g2, 0, none⟩) L.length cap2), (8, .pointer (some ⟨g2, 0 + i * 15, none⟩)), (9, .int .i64 o.kind), (10, .int .u32 v.a), (29, .bool false), (41, .bool false), (53, kv5), (54, .bool true), (65, .bool false), (104, .bool false), (136, .bool false)] ∧ ∃ H, Rep [(w, fun _ => True)] u H (⟨H0 + 1, 0, kc2, 63, true⟩ :: ⟨H0, 0, kc3, 60, true⟩ :: ⟨g2, 0 + i * 15, kc4, 118, false⟩ :: ⟨g2, 0, pr, 118, false⟩ :: ⟨g2, 0 + i * 15 + 15, po, 118, false⟩ :: (rs ++ ob)) []) ?_ ?_
  · show Code.wp _ _ _ _ _
    rcases Bool.eq_false_or_eq_true ((K : Int) == 3) with hc7 | hc7
    · show Code.wp _ _ _ _ _
      have ehc7 := beq_iff_eq.1 hc7
      refine enterR (idx := [0, 1, 2, 3, 4, 5, 6, 7, 8, 9, 10]) (by kernel_rfl) ?_
      refine segV hE hR [(0, .op []), (1, .as [] (.bool true)), (2, .op []), (3, .op []), (4, .as [] (.bool false)), (5, .op []), (6, .op []), (7, .as [] (.bool false)), (8, .op []), (9, .op []), (10, .op [])] [] [(136, .bool false)] [true = true, (.bool ((o.kind : Int) == 3) : Value) = (.bool false : Value), false = false, false = false, true = true, (.bool ((o.kind : Int) == 2) : Value) = (.bool false : Value), true = true, true = true, (.bool ((K : Int) == 3) : Value) = (.bool true : Value)] (by kernel_rfl) (by kernel_rfl) (by kernel_rfl) ⟨rfl, congrArg Value.bool (beq_eq_false_iff_ne.2 (by omega)), rfl, rfl, rfl, congrArg Value.bool (beq_eq_false_iff_ne.2 (by omega)), rfl, rfl, congrArg Value.bool (beq_iff_eq.2 (by omega)), trivial⟩ ?_
      clear hE hR; intro a u hE hR
      refine opsNil ?_; refine thenN ?_
      exact ⟨hE.sub (by kernel_rfl), _, hR⟩
    · show Code.wp _ _ _ _ _
      have ehc7 := beq_eq_false_iff_ne.1 hc7
      refine enterR (idx := [0, 1, 2, 3, 4, 5, 6, 7, 8, 9, 10]) (by kernel_rfl) ?_
      refine segV hE hR [(0, .op []), (1, .as [] (.bool false)), (2, .op []), (3, .skip), (4, .skip), (5, .skip), (6, .skip), (7, .skip), (8, .skip), (9, .op []), (10, .op [])] [] [(136, .bool false)] [false = !true, false = !true, false = !true, false = !true, (.bool ((K : Int) == 3) : Value) = (.bool false : Value)] (by kernel_rfl) (by kernel_rfl) (by kernel_rfl) ⟨rfl, rfl, rfl, rfl, congrArg Value.bool (beq_eq_false_iff_ne.2 (ehc7)), trivial⟩ ?_
      clear hE hR; intro a u hE hR
      refine opsNil ?_; refine thenN ?_
      exact ⟨hE.sub (by kernel_rfl), _, hR⟩
  clear hE hR
  rintro a u ⟨hE, J4, hR⟩
  refine condF hE (b := false) (by kernel_rfl) rfl ?_
  refine seqJ (fun a u => TE a 274 [(0, .slice (some ⟨g, off, none⟩) L.length c), (3, .pointer (some ⟨H0, 0, none⟩)), (4, .slice none 0 0), (5, .pointer (some ⟨H0 + 1, 0, none⟩)), (6, .int .i64 K), (7, .slice (some ⟨g2, 0, none⟩) L.length cap2), (8, .pointer (some ⟨g2, 0 + i * 15, none⟩)), (9, .int .i64 o.kind), (10, .int .u32 v.a), (29, .bool false), (41, .bool false), (53, kv5), (54, .bool true), (65, .bool false), (104, .bool false), (136, .bool false), (160, .bool false)] ∧ ∃ H, Rep [(w, fun _ => True)] u H (⟨H0 + 1, 0, kc2, 63, true⟩ :: ⟨H0, 0, kc3, 60, true⟩ :: ⟨g2, 0 + i * 15, kc4, 118, false⟩ :: ⟨g2, 0, pr, 118, false⟩ :: ⟨g2, 0 + i * 15 + 15, po, 118, false⟩ :: (rs ++ ob)) []) ?_ ?_
  · show Code.wp _ _ _ _ _
    rcases Bool.eq_false_or_eq_true ((K : Int) == 4) with hc8 | hc8
    · show Code.wp _ _ _ _ _
      have ehc8 := beq_iff_eq.1 hc8
      refine enterR (idx := [0, 1, 2, 3, 4, 5, 6, 7, 8, 9, 10, 11, 12, 13, 14, 15, 16, 17, 18]) (by kernel_rfl) ?_
      refine segV hE hR [(0, .op []), (1, .as [] (.bool true)), (2, .op []), (3, .op []), (4, .as [] (.bool false)), (5, .op []), (6, .op []), (7, .op []), (8, .as [] (.bool false)), (9, .op []), (10, .op []), (11, .as [] (.bool false)), (12, .op []), (13, .op []), (14, .skip), (15, .skip), (16, .op []), (17, .op []), (18, .op [])] [] [(160, .bool false)] [false = false, false = !true, false = !true, false = false, false = false, (.bool ((K : Int) == 6) : Value) = (.bool false : Value), false = false, false = false, false = false, (.bool ((K : Int) == 5) : Value) = (.bool false : Value), false = false, false = false, (.bool ((o.kind : Int) == 2) : Value) = (.bool false : Value), true = true, true = true, (.bool ((K : Int) == 4) : Value) = (.bool true : Value)] (by kernel_rfl) (by kernel_rfl) (by kernel_rfl) ⟨rfl, rfl, rfl, rfl, rfl, congrArg Value.bool (beq_eq_false_iff_ne.2 (by omega)), rfl, rfl, rfl, congrArg Value.bool (beq_eq_false_iff_ne.2 (by omega)), rfl, rfl, congrArg Value.bool (beq_eq_false_iff_ne.2 (by omega)), rfl, rfl, congrArg Value.bool (beq_iff_eq.2 (by omega)), trivial⟩ ?_
      clear hE hR; intro a u hE hR
      refine opsNil ?_; refine thenN ?_
      exact ⟨hE.sub (by kernel_rfl), _, hR⟩
    · show Code.wp _ _ _ _ _
      have ehc8 := beq_eq_false_iff_ne.1 hc8
      rcases Bool.eq_false_or_eq_true ((K : Int) == 5) with hc9 | hc9
      · show Code.wp _ _ _ _ _
        have ehc9 := beq_iff_eq.1 hc9
        refine enterR (idx := [0, 1, 2, 3, 4, 5, 6, 7, 8, 9, 10, 11, 12, 13, 14, 15, 16, 17, 18]) (by kernel_rfl) ?_
        refine segV hE hR [(0, .op []), (1, .as [] (.bool false)), (2, .op []), (3, .skip), (4, .skip), (5, .op []), (6, .op []), (7, .op []), (8, .as [] (.bool true)), (9, .op []), (10, .skip), (11, .skip), (12, .op []), (13, .op []), (14, .op []), (15, .as [] (.bool false)), (16, .op []), (17, .op []), (18, .op [])] [] [(160, .bool false)] [false = false, (.bool ((o.kind : Int) == 3) : Value) = (.bool false : Value), true = true, true = true, false = false, false = false, true = !false, true = !false, false = false, (.bool ((K : Int) == 5) : Value) = (.bool true : Value), false = false, false = false, false = !true, false = !true, (.bool ((K : Int) == 4) : Value) = (.bool false : Value)] (by kernel_rfl) (by kernel_rfl) (by kernel_rfl) ⟨rfl, congrArg Value.bool (beq_eq_false_iff_ne.2 (by omega)), rfl, rfl, rfl, rfl, rfl, rfl, rfl, congrArg Value.bool (beq_iff_eq.2 (by omega)), rfl, rfl, rfl, rfl, congrArg Value.bool (beq_eq_false_iff_ne.2 (ehc8)), trivial⟩ ?_
        clear hE hR; intro a u hE hR
        refine opsNil ?_; refine thenN ?_
        exact ⟨hE.sub (by kernel_rfl), _, hR⟩
      · show Code.wp _ _ _ _ _
        have ehc9 := beq_eq_false_iff_ne.1 hc9
        rcases Bool.eq_false_or_eq_true ((K : Int) == 6) with hc10 | hc10
        · show Code.wp _ _ _ _ _
          have ehc10 := beq_iff_eq.1 hc10
          refine enterR (idx := [0, 1, 2, 3, 4, 5, 6, 7, 8, 9, 10, 11, 12, 13, 14, 15, 16, 17, 18]) (by kernel_rfl) ?_
          refine segV hE hR [(0, .op []), (1, .as [] (.bool false)), (2, .op []), (3, .skip), (4, .skip), (5, .op []), (6, .op []), (7, .op []), (8, .as [] (.bool false)), (9, .op []), (10, .op []), (11, .as [] (.bool true)), (12, .op []), (13, .op []), (14, .op []), (15, .as [] (.bool false)), (16, .op []), (17, .op []), (18, .op [])] [] [(160, .bool false)] [false = false, (.bool ((o.kind : Int) == 3) : Value) = (.bool false : Value), true = true, true = true, false = false, false = false, (.bool ((K : Int) == 6) : Value) = (.bool true : Value), false = false, false = false, false = false, (.bool ((K : Int) == 5) : Value) = (.bool false : Value), false = false, false = false, false = !true, false = !true, (.bool ((K : Int) == 4) : Value) = (.bool false : Value)] (by kernel_rfl) (by kernel_rfl) (by kernel_rfl) ⟨rfl, congrArg Value.bool (beq_eq_false_iff_ne.2 (by omega)), rfl, rfl, rfl, rfl, congrArg Value.bool (beq_iff_eq.2 (by omega)), rfl, rfl, rfl, congrArg Value.bool (beq_eq_false_iff_ne.2 (ehc9)), rfl, rfl, rfl, rfl, congrArg Value.bool (beq_eq_false_iff_ne.2 (ehc8)), trivial⟩ ?_
          clear hE hR; intro a u hE hR
          refine opsNil ?_; refine thenN ?_
          exact ⟨hE.sub (by kernel_rfl), _, hR⟩
        · show Code.wp _ _ _ _ _
          have ehc10 := beq_eq_false_iff_ne.1 hc10
          refine enterR (idx := [0, 1, 2, 3, 4, 5, 6, 7, 8, 9, 10, 11, 12, 13, 14, 15, 16, 17, 18]) (by kernel_rfl) ?_
          refine seg0 hE hR [(0, .op []), (1, .as [] (.bool false)), (2, .op []), (3, .skip), (4, .skip), (5, .op []), (6, .op []), (7, .op []), (8, .as [] (.bool false)), (9, .op []), (10, .op []), (11, .as [] (.bool false)), (12, .op []), (13, .op []), (14, .skip), (15, .skip), (16, .op []), (17, .op []), (18, .op [])] [] [(0, .slice (some ⟨g, off, none⟩) L.length c), (3, .pointer (some ⟨H0, 0, none⟩)), (4, .slice none 0 0), (5, .pointer (some ⟨H0 + 1, 0, none⟩)), (6, .int .i64 K), (7, .slice (some ⟨g2, 0, none⟩) L.length cap2), (8, .pointer (some ⟨g2, 0 + i * 15, none⟩)), (9, .int .i64 o.kind), (10, .int .u32 v.a), (29, .bool false), (41, .bool false), (53, kv5), (54, .bool true), (65, .bool false), (104, .bool false), (136, .bool false), (160, .bool false)] [false = false, false = !true, false = !true, false = false, false = false, (.bool ((K : Int) == 6) : Value) = (.bool false : Value), false = false, false = false, false = false, (.bool ((K : Int) == 5) : Value) = (.bool false : Value), false = false, false = false, false = !true, false = !true, (.bool ((K : Int) == 4) : Value) = (.bool false : Value)] (by kernel_rfl) (by kernel_rfl) (by kernel_rfl) ⟨rfl, rfl, rfl, rfl, rfl, congrArg Value.bool (beq_eq_false_iff_ne.2 (ehc10)), rfl, rfl, rfl, congrArg Value.bool (beq_eq_false_iff_ne.2 (ehc9)), rfl, rfl, rfl, rfl, congrArg Value.bool (beq_eq_false_iff_ne.2 (ehc8)), trivial⟩ ?_
          clear hE hR; intro a u hE hR
          refine opsNil ?_; refine thenN ?_
          exact ⟨hE.sub (by kernel_rfl), _, hR⟩
  clear hE hR
  rintro a u ⟨hE, J5, hR⟩
  refine condF hE (b := false) (by kernel_rfl) rfl ?_
  refine seqJ (fun a u => TE a 274 [(0, .slice (some ⟨g, off, none⟩) L.length c), (3, .pointer (some ⟨H0, 0, none⟩)), (4, .slice none 0 0), (5, .pointer (some ⟨H0 + 1, 0, none⟩)), (6, .int .i64 K), (7, .slice (some ⟨g2, 0, none⟩) L.length cap2), (8, .pointer (some ⟨g2, 0 + i * 15, none⟩)), (9, .int .i64 o.kind), (10, .int .u32 v.a), (29, .bool false), (41, .bool false), (53, kv5), (54, .bool true), (65, .bool false), (104, .bool false), (136, .bool false), (160, .bool false), (185, .bool false)] ∧ ∃ H, Rep [(w, fun _ => True)] u H (⟨H0 + 1, 0, kc2, 63, true⟩ :: ⟨H0, 0, kc3, 60, true⟩ :: ⟨g2, 0 + i * 15, kc4, 118, false⟩ :: ⟨g2, 0, pr, 118, false⟩ :: ⟨g2, 0 + i * 15 + 15, po, 118, false⟩ :: (rs ++ ob)) []) ?_ ?_
  · show Code.wp _ _ _ _ _
    rcases Bool.eq_false_or_eq_true ((K : Int) == 7) with hc11 | hc11
    · show Code.wp _ _ _ _ _
      have ehc11 := beq_iff_eq.1 hc11
      refine enterR (idx := [0, 1, 2, 3, 4, 5, 6]) (by kernel_rfl) ?_
      refine segV hE hR [(0, .op []), (1, .as [] (.bool true)), (2, .op []), (3, .op []), (4, .as [] (.bool false)), (5, .op []), (6, .op [])] [] [(185, .bool false)] [(.bool ((o.kind : Int) == 4) : Value) = (.bool false : Value), true = true, true = true, (.bool ((K : Int) == 7) : Value) = (.bool true : Value)] (by kernel_rfl) (by kernel_rfl) (by kernel_rfl) ⟨congrArg Value.bool (beq_eq_false_iff_ne.2 (by omega)), rfl, rfl, congrArg Value.bool (beq_iff_eq.2 (by omega)), trivial⟩ ?_
      clear hE hR; intro a u hE hR
      refine opsNil ?_; refine thenN ?_
      exact ⟨hE.sub (by kernel_rfl), _, hR⟩
    · show Code.wp _ _ _ _ _
      have ehc11 := beq_eq_false_iff_ne.1 hc11
      refine enterR (idx := [0, 1, 2, 3, 4, 5, 6]) (by kernel_rfl) ?_
      refine segV hE hR [(0, .op []), (1, .as [] (.bool false)), (2, .op []), (3, .skip), (4, .skip), (5, .op []), (6, .op [])] [] [(185, .bool false)] [false = !true, false = !true, (.bool ((K : Int) == 7) : Value) = (.bool false : Value)] (by kernel_rfl) (by kernel_rfl) (by kernel_rfl) ⟨rfl, rfl, congrArg Value.bool (beq_eq_false_iff_ne.2 (ehc11)), trivial⟩ ?_
      clear hE hR; intro a u hE hR
      refine opsNil ?_; refine thenN ?_
      exact ⟨hE.sub (by kernel_rfl), _, hR⟩
  clear hE hR
  rintro a u ⟨hE, J6, hR⟩
  refine condF hE (b := false) (by kernel_rfl) rfl ?_
  refine seqJ (fun a u => TE a 274 [(0, .slice (some ⟨g, off, none⟩) L.length c), (3, .pointer (some ⟨H0, 0, none⟩)), (4, .slice none 0 0), (5, .pointer (some ⟨H0 + 1, 0, none⟩)), (6, .int .i64 K), (7, .slice (some ⟨g2, 0, none⟩) L.length cap2), (8, .pointer (some ⟨g2, 0 + i * 15, none⟩)), (9, .int .i64 o.kind), (10, .int .u32 v.a), (29, .bool false), (41, .bool false), (53, kv5), (54, .bool true), (65, .bool false), (104, .bool false), (136, .bool false), (160, .bool false), (185, .bool false), (205, .bool false)] ∧ ∃ H, Rep [(w, fun _ => True)] u H (⟨H0 + 1, 0, kc2, 63, true⟩ :: ⟨H0, 0, kc3, 60, true⟩ :: ⟨g2, 0 + i * 15, kc4, 118, false⟩ :: ⟨g2, 0, pr, 118, false⟩ :: ⟨g2, 0 + i * 15 + 15, po, 118, false⟩ :: (rs ++ ob)) []) ?_ ?_
  · show Code.wp _ _ _ _ _
    rcases Bool.eq_false_or_eq_true ((K : Int) == 8) with hc12 | hc12
    · show Code.wp _ _ _ _ _
      have ehc12 := beq_iff_eq.1 hc12
      refine enterR (idx := [0, 1, 2, 3, 4, 5, 6]) (by kernel_rfl) ?_
      refine segV hE hR [(0, .op []), (1, .as [] (.bool true)), (2, .op []), (3, .op []), (4, .as [] (.bool false)), (5, .op []), (6, .op [])] [] [(205, .bool false)] [(.bool ((o.kind : Int) == 4) : Value) = (.bool false : Value), true = true, true = true, (.bool ((K : Int) == 8) : Value) = (.bool true : Value)] (by kernel_rfl) (by kernel_rfl) (by kernel_rfl) ⟨congrArg Value.bool (beq_eq_false_iff_ne.2 (by omega)), rfl, rfl, congrArg Value.bool (beq_iff_eq.2 (by omega)), trivial⟩ ?_
      clear hE hR; intro a u hE hR
      refine opsNil ?_; refine thenN ?_
      exact ⟨hE.sub (by kernel_rfl), _, hR⟩
    · show Code.wp _ _ _ _ _
      have ehc12 := beq_eq_false_iff_ne.1 hc12
      refine enterR (idx := [0, 1, 2, 3, 4, 5, 6]) (by kernel_rfl) ?_
      refine segV hE hR [(0, .op []), (1, .as [] (.bool false)), (2, .op []), (3, .skip), (4, .skip), (5, .op []), (6, .op [])] [] [(205, .bool false)] [false = !true, false = !true, (.bool ((K : Int) == 8) : Value) = (.bool false : Value)] (by kernel_rfl) (by kernel_rfl) (by kernel_rfl) ⟨rfl, rfl, congrArg Value.bool (beq_eq_false_iff_ne.2 (ehc12)), trivial⟩ ?_
      clear hE hR; intro a u hE hR
      refine opsNil ?_; refine thenN ?_
      exact ⟨hE.sub (by kernel_rfl), _, hR⟩
  clear hE hR
  rintro a u ⟨hE, J7, hR⟩
  refine condF hE (b := false) (by kernel_rfl) rfl ?_
  refine wp_seq ?_
  refine seqJ (fun a u => TE a 274 [(0, .slice (some ⟨g, off, none⟩) L.length c), (3, .pointer (some ⟨H0, 0, none⟩)), (4, .slice none 0 0), (5, .pointer (some ⟨H0 + 1, 0, none⟩)), (6, .int .i64 K), (7, .slice (some ⟨g2, 0, none⟩) L.length cap2), (8, .pointer (some ⟨g2, 0 + i * 15, none⟩)), (9, .int .i64 o.kind), (10, .int .u32 v.a), (29, .bool false), (41, .bool false), (53, kv5), (54, .bool true), (65, .bool false), (104, .bool false), (136, .bool false), (160, .bool false), (185, .bool false), (205, .bool false), (226, .bool false)] ∧ ∃ H, Rep [(w, fun _ => True)] u H (⟨H0 + 1, 0, kc2, 63, true⟩ :: ⟨H0, 0, kc3, 60, true⟩ :: ⟨g2, 0 + i * 15, kc4, 118, false⟩ :: ⟨g2, 0, pr, 118, false⟩ :: ⟨g2, 0 + i * 15 + 15, po, 118, false⟩ :: (rs ++ ob)) []) ?_ ?_
  · show Code.wp _ _ _ _ _
    rcases Bool.eq_false_or_eq_true ((K : Int) == 9) with hc13 | hc13
    · show Code.wp _ _ _ _ _
      have ehc13 := beq_iff_eq.1 hc13
      refine enterR (idx := [0, 1, 2, 3, 4, 5, 6]) (by kernel_rfl) ?_
      refine segV hE hR [(0, .op []), (1, .as [] (.bool true)), (2, .op []), (3, .op []), (4, .as [] (.bool false)), (5, .op []), (6, .op [])] [] [(226, .bool false)] [(.bool ((o.kind : Int) == 4) : Value) = (.bool false : Value), true = true, true = true, (.bool ((K : Int) == 9) : Value) = (.bool true : Value)] (by kernel_rfl) (by kernel_rfl) (by kernel_rfl) ⟨congrArg Value.bool (beq_eq_false_iff_ne.2 (by omega)), rfl, rfl, congrArg Value.bool (beq_iff_eq.2 (by omega)), trivial⟩ ?_
      clear hE hR; intro a u hE hR
      refine opsNil ?_; refine thenN ?_
      exact ⟨hE.sub (by kernel_rfl), _, hR⟩
    · show Code.wp _ _ _ _ _
      have ehc13 := beq_eq_false_iff_ne.1 hc13
      refine enterR (idx := [0, 1, 2, 3, 4, 5, 6]) (by kernel_rfl) ?_
      refine segV hE hR [(0, .op []), (1, .as [] (.bool false)), (2, .op []), (3, .skip), (4, .skip), (5, .op []), (6, .op [])] [] [(226, .bool false)] [false = !true, false = !true, (.bool ((K : Int) == 9) : Value) = (.bool false : Value)] (by kernel_rfl) (by kernel_rfl) (by kernel_rfl) ⟨rfl, rfl, congrArg Value.bool (beq_eq_false_iff_ne.2 (ehc13)), trivial⟩ ?_
      clear hE hR; intro a u hE hR
      refine opsNil ?_; refine thenN ?_
      exact ⟨hE.sub (by kernel_rfl), _, hR⟩
  clear hE hR
  rintro a u ⟨hE, J8, hR⟩
  refine condF hE (b := false) (by kernel_rfl) rfl ?_
  refine seqJ (fun a u => TE a 274 [(0, .slice (some ⟨g, off, none⟩) L.length c), (3, .pointer (some ⟨H0, 0, none⟩)), (4, .slice none 0 0), (5, .pointer (some ⟨H0 + 1, 0, none⟩)), (6, .int .i64 K), (7, .slice (some ⟨g2, 0, none⟩) L.length cap2), (8, .pointer (some ⟨g2, 0 + i * 15, none⟩)), (9, .int .i64 o.kind), (10, .int .u32 v.a), (29, .bool false), (41, .bool false), (53, kv5), (54, .bool true), (65, .bool false), (104, .bool false), (136, .bool false), (160, .bool false), (185, .bool false), (205, .bool false), (226, .bool false)] ∧ ∃ H, Rep [(w, fun _ => True)] u H (⟨H0 + 1, 0, kc2, 63, true⟩ :: ⟨H0, 0, kc3, 60, true⟩ :: ⟨g2, 0 + i * 15, kc4, 118, false⟩ :: ⟨g2, 0, pr, 118, false⟩ :: ⟨g2, 0 + i * 15 + 15, po, 118, false⟩ :: (rs ++ ob)) []) ?_ ?_
  · show Code.wp _ _ _ _ _
    rcases Bool.eq_false_or_eq_true ((K : Int) == 16) with hc14 | hc14
    · show Code.wp _ _ _ _ _
      have ehc14 := beq_iff_eq.1 hc14
      refine enterR (idx := [0, 1, 2, 3, 4, 5, 6, 7, 8, 9, 10, 11, 12, 13]) (by kernel_rfl) ?_
      refine segV hE hR [(0, .op []), (1, .as [] (.bool true)), (2, .op []), (3, .op []), (4, .as [] (.bool false)), (5, .op []), (6, .op []), (7, .skip), (8, .skip), (9, .skip), (10, .skip), (11, .skip), (12, .op []), (13, .op [])] [] [] [false = !true, false = !true, false = !true, false = !true, false = !true, (.bool ((o.kind : Int) == 4) : Value) = (.bool false : Value), true = true, true = true, (.bool ((K : Int) == 16) : Value) = (.bool true : Value)] (by kernel_rfl) (by kernel_rfl) (by kernel_rfl) ⟨rfl, rfl, rfl, rfl, rfl, congrArg Value.bool (beq_eq_false_iff_ne.2 (by omega)), rfl, rfl, congrArg Value.bool (beq_iff_eq.2 (by omega)), trivial⟩ ?_
      clear hE hR; intro a u hE hR
      refine opsNil ?_; refine thenN ?_
      exact ⟨hE.sub (by kernel_rfl), _, hR⟩
    · show Code.wp _ _ _ _ _
      have ehc14 := beq_eq_false_iff_ne.1 hc14
      refine enterR (idx := [0, 1, 2, 3, 4, 5, 6, 7, 8, 9, 10, 11, 12, 13]) (by kernel_rfl) ?_
      refine seg0 hE hR [(0, .op []), (1, .as [] (.bool false)), (2, .op []), (3, .skip), (4, .skip), (5, .op []), (6, .op []), (7, .skip), (8, .skip), (9, .skip), (10, .skip), (11, .skip), (12, .op []), (13, .op [])] [] [(0, .slice (some ⟨g, off, none⟩) L.length c), (3, .pointer (some ⟨H0, 0, none⟩)), (4, .slice none 0 0), (5, .pointer (some ⟨H0 + 1, 0, none⟩)), (6, .int .i64 K), (7, .slice (some ⟨g2, 0, none⟩) L.length cap2), (8, .pointer (some ⟨g2, 0 + i * 15, none⟩)), (9, .int .i64 o.kind), (10, .int .u32 v.a), (29, .bool false), (41, .bool false), (53, kv5), (54, .bool true), (65, .bool false), (104, .bool false), (136, .bool false), (160, .bool false), (185, .bool false), (205, .bool false), (226, .bool false)] [false = !true, false = !true, false = !true, false = !true, false = !true, false = !true, false = !true, (.bool ((K : Int) == 16) : Value) = (.bool false : Value)] (by kernel_rfl) (by kernel_rfl) (by kernel_rfl) ⟨rfl, rfl, rfl, rfl, rfl, rfl, rfl, congrArg Value.bool (beq_eq_false_iff_ne.2 (ehc14)), trivial⟩ ?_
      clear hE hR; intro a u hE hR
      refine opsNil ?_; refine thenN ?_
      exact ⟨hE.sub (by kernel_rfl), _, hR⟩
  clear hE hR
  rintro a u ⟨hE, J9, hR⟩
  refine condF hE (b := false) (by kernel_rfl) rfl ?_
  rcases Bool.eq_false_or_eq_true ((K : Int) == 17) with hc15 | hc15
  · show Code.wp _ _ _ _ _
    have ehc15 := beq_iff_eq.1 hc15
    refine enterR (idx := [0, 1, 2, 3, 4, 5, 6, 7, 8, 9, 10, 11, 12, 13]) (by kernel_rfl) ?_
    refine segV hE hR [(0, .op []), (1, .as [] (.bool true)), (2, .op []), (3, .op []), (4, .as [] (.bool false)), (5, .op []), (6, .op []), (7, .skip), (8, .skip), (9, .skip), (10, .skip), (11, .skip), (12, .op []), (13, .op [])] [] [] [false = !true, false = !true, false = !true, false = !true, false = !true, (.bool ((o.kind : Int) == 4) : Value) = (.bool false : Value), true = true, true = true, (.bool ((K : Int) == 17) : Value) = (.bool true : Value)] (by kernel_rfl) (by kernel_rfl) (by kernel_rfl) ⟨rfl, rfl, rfl, rfl, rfl, congrArg Value.bool (beq_eq_false_iff_ne.2 (by omega)), rfl, rfl, congrArg Value.bool (beq_iff_eq.2 (by omega)), trivial⟩ ?_
    clear hE hR; intro a u hE hR
    refine opsNil ?_; refine thenN ?_
    refine condF hE (b := false) (by kernel_rfl) rfl ?_
    refine seqJ (fun a u => TE a 274 [(0, .slice (some ⟨g, off, none⟩) L.length c), (3, .pointer (some ⟨H0, 0, none⟩)), (4, .slice none 0 0), (5, .pointer (some ⟨H0 + 1, 0, none⟩)), (6, .int .i64 K), (7, .slice (some ⟨g2, 0, none⟩) L.length cap2), (8, .pointer (some ⟨g2, 0 + i * 15, none⟩)), (9, .int .i64 o.kind), (10, .int .u32 v.a), (29, .bool false), (41, .bool false), (53, kv5), (54, .bool true), (65, .bool false), (104, .bool false), (136, .bool false), (160, .bool false), (185, .bool false), (205, .bool false), (226, .bool false), (263, .bool false)] ∧ ∃ H, Rep [(w, fun _ => True)] u H (⟨H0 + 1, 0, kc2, 63, true⟩ :: ⟨H0, 0, kc3, 60, true⟩ :: ⟨g2, 0 + i * 15, kc4, 118, false⟩ :: ⟨g2, 0, pr, 118, false⟩ :: ⟨g2, 0 + i * 15 + 15, po, 118, false⟩ :: (rs ++ ob)) []) ?_ ?_
    · show Code.wp _ _ _ _ _
      rcases Bool.eq_false_or_eq_true (decide ((K : Int) ≥ 16)) with hc16 | hc16
      · show Code.wp _ _ _ _ _
        have ehc16 := of_decide_eq_true hc16
        refine enterR (idx := [0, 1, 2, 3, 4, 5, 6]) (by kernel_rfl) ?_
        refine segV hE hR [(0, .op []), (1, .op []), (2, .op []), (3, .op []), (4, .as [] (.bool false)), (5, .as [] (.bool false)), (6, .op [])] [] [(263, .bool false)] [((if (decide ((K : Int) ≥ 16)) = true then (.bool false : Value) else (.bool false : Value)) : Value) = (.bool false : Value), (.bool ((o.kind : Int) == 4) : Value) = (.bool false : Value), (decide ((K : Int) ≥ 16)) = true, (decide ((K : Int) ≥ 16)) = true] (by kernel_rfl) (by kernel_rfl) (by kernel_rfl) ⟨if_pos (hc16), congrArg Value.bool (beq_eq_false_iff_ne.2 (by omega)), hc16, hc16, trivial⟩ ?_
        clear hE hR; intro a u hE hR
        refine opsNil ?_; refine thenN ?_
        exact ⟨hE.sub (by kernel_rfl), _, hR⟩
      · show Code.wp _ _ _ _ _
        have ehc16 := of_decide_eq_false hc16
        refine enterR (idx := [0, 1, 2, 3, 4, 5, 6]) (by kernel_rfl) ?_
        refine segV hE hR [(0, .op []), (1, .op []), (2, .op []), (3, .skip), (4, .skip), (5, .as [] (.bool false)), (6, .op [])] [] [(263, .bool false)] [((if (decide ((K : Int) ≥ 16)) = true then (.tuple #[] : Value) else (.bool false : Value)) : Value) = (.bool false : Value), (decide ((K : Int) ≥ 16)) = !true, (decide ((K : Int) ≥ 16)) = !true] (by kernel_rfl) (by kernel_rfl) (by kernel_rfl) ⟨if_neg (by rw [hc16]; decide), hc16, hc16, trivial⟩ ?_
        clear hE hR; intro a u hE hR
        refine opsNil ?_; refine thenN ?_
        exact ⟨hE.sub (by kernel_rfl), _, hR⟩
    clear hE hR
    rintro a u ⟨hE, J10, hR⟩
    refine condF hE (b := false) (by kernel_rfl) rfl ?_
    refine wp_skip ?_; refine blkN ?_; refine thenN ?_; refine wp_seq ?_
    refine enterR (idx := [0, 1, 2, 3]) (by kernel_rfl) ?_
    let kc6 : List Value := [.int .i64 12, .int .u32 0, .int .u32 0, .int .u32 0, .int .u32 0]
    refine segU hE hR [(0, .op []), (1, .op []), (2, .op []), (3, .op (hks 0 0 5))] [] [(4, .slice (some ⟨g, off, none⟩) L.length c)] (⟨H0 + 1, 0, kc6, 63, true⟩ :: ⟨H0, 0, kc3, 60, true⟩ :: ⟨g2, 0 + i * 15, kc4, 118, false⟩ :: ⟨g2, 0, pr, 118, false⟩ :: ⟨g2, 0 + i * 15 + 15, po, 118, false⟩ :: (rs ++ ob)) (J10) [] (by kernel_rfl) (by kernel_rfl) (by kernel_rfl) trivial ?_
    clear hE hR; intro a u hE hR
    refine opsNil ?_; refine thenN ?_; refine wp_ret ?_
    refine retF hE hR (hks 0 0 5) (.tuple #[.slice (some ⟨g, off, none⟩) L.length c, .agg #[.int .i64 12, .int .u32 0, .int .u32 0, .int .u32 0, .int .u32 0]]) (by kernel_rfl) (by kernel_rfl) (by kernel_rfl) ?_
    exact ⟨rfl, hR.below (by simp)⟩
  · show Code.wp _ _ _ _ _
    have ehc15 := beq_eq_false_iff_ne.1 hc15
    refine enterR (idx := [0, 1, 2, 3, 4, 5, 6, 7, 8, 9, 10, 11, 12, 13]) (by kernel_rfl) ?_
    refine segV hE hR [(0, .op []), (1, .as [] (.bool false)), (2, .op []), (3, .skip), (4, .skip), (5, .op []), (6, .op []), (7, .skip), (8, .skip), (9, .skip), (10, .skip), (11, .skip), (12, .op []), (13, .op [])] [] [] [false = !true, false = !true, false = !true, false = !true, false = !true, false = !true, false = !true, (.bool ((K : Int) == 17) : Value) = (.bool false : Value)] (by kernel_rfl) (by kernel_rfl) (by kernel_rfl) ⟨rfl, rfl, rfl, rfl, rfl, rfl, rfl, congrArg Value.bool (beq_eq_false_iff_ne.2 (ehc15)), trivial⟩ ?_
    clear hE hR; intro a u hE hR
    refine opsNil ?_; refine thenN ?_
    refine condF hE (b := false) (by kernel_rfl) rfl ?_
    refine seqJ (fun a u => TE a 274 [(0, .slice (some ⟨g, off, none⟩) L.length c), (3, .pointer (some ⟨H0, 0, none⟩)), (4, .slice none 0 0), (5, .pointer (some ⟨H0 + 1, 0, none⟩)), (6, .int .i64 K), (7, .slice (some ⟨g2, 0, none⟩) L.length cap2), (8, .pointer (some ⟨g2, 0 + i * 15, none⟩)), (9, .int .i64 o.kind), (10, .int .u32 v.a), (29, .bool false), (41, .bool false), (53, kv5), (54, .bool true), (65, .bool false), (104, .bool false), (136, .bool false), (160, .bool false), (185, .bool false), (205, .bool false), (226, .bool false), (263, .bool false)] ∧ ∃ H, Rep [(w, fun _ => True)] u H (⟨H0 + 1, 0, kc2, 63, true⟩ :: ⟨H0, 0, kc3, 60, true⟩ :: ⟨g2, 0 + i * 15, kc4, 118, false⟩ :: ⟨g2, 0, pr, 118, false⟩ :: ⟨g2, 0 + i * 15 + 15, po, 118, false⟩ :: (rs ++ ob)) []) ?_ ?_
    · show Code.wp _ _ _ _ _
      rcases Bool.eq_false_or_eq_true (decide ((K : Int) ≥ 16)) with hc17 | hc17
      · show Code.wp _ _ _ _ _
        have ehc17 := of_decide_eq_true hc17
        refine enterR (idx := [0, 1, 2, 3, 4, 5, 6]) (by kernel_rfl) ?_
        refine segV hE hR [(0, .op []), (1, .op []), (2, .op []), (3, .op []), (4, .as [] (.bool false)), (5, .as [] (.bool false)), (6, .op [])] [] [(263, .bool false)] [((if (decide ((K : Int) ≥ 16)) = true then (.bool false : Value) else (.bool false : Value)) : Value) = (.bool false : Value), (.bool ((o.kind : Int) == 4) : Value) = (.bool false : Value), (decide ((K : Int) ≥ 16)) = true, (decide ((K : Int) ≥ 16)) = true] (by kernel_rfl) (by kernel_rfl) (by kernel_rfl) ⟨if_pos (hc17), congrArg Value.bool (beq_eq_false_iff_ne.2 (by omega)), hc17, hc17, trivial⟩ ?_
        clear hE hR; intro a u hE hR
        refine opsNil ?_; refine thenN ?_
        exact ⟨hE.sub (by kernel_rfl), _, hR⟩
      · show Code.wp _ _ _ _ _
        have ehc17 := of_decide_eq_false hc17
        refine enterR (idx := [0, 1, 2, 3, 4, 5, 6]) (by kernel_rfl) ?_
        refine segV hE hR [(0, .op []), (1, .op []), (2, .op []), (3, .skip), (4, .skip), (5, .as [] (.bool false)), (6, .op [])] [] [(263, .bool false)] [((if (decide ((K : Int) ≥ 16)) = true then (.tuple #[] : Value) else (.bool false : Value)) : Value) = (.bool false : Value), (decide ((K : Int) ≥ 16)) = !true, (decide ((K : Int) ≥ 16)) = !true] (by kernel_rfl) (by kernel_rfl) (by kernel_rfl) ⟨if_neg (by rw [hc17]; decide), hc17, hc17, trivial⟩ ?_
        clear hE hR; intro a u hE hR
        refine opsNil ?_; refine thenN ?_
        exact ⟨hE.sub (by kernel_rfl), _, hR⟩
    clear hE hR
    rintro a u ⟨hE, J11, hR⟩
    refine condF hE (b := false) (by kernel_rfl) rfl ?_
    refine wp_skip ?_; refine blkN ?_; refine thenN ?_; refine wp_seq ?_
    refine enterR (idx := [0, 1, 2, 3]) (by kernel_rfl) ?_
    let kc7 : List Value := [.int .i64 12, .int .u32 0, .int .u32 0, .int .u32 0, .int .u32 0]
    refine seg hE hR [(0, .op []), (1, .op []), (2, .op []), (3, .op (hks 0 0 5))] [] [(0, .slice (some ⟨g, off, none⟩) L.length c), (3, .pointer (some ⟨H0, 0, none⟩)), (4, .slice (some ⟨g, off, none⟩) L.length c), (5, .pointer (some ⟨H0 + 1, 0, none⟩)), (6, .int .i64 K), (7, .slice (some ⟨g2, 0, none⟩) L.length cap2), (8, .pointer (some ⟨g2, 0 + i * 15, none⟩)), (9, .int .i64 o.kind), (10, .int .u32 v.a), (29, .bool false), (41, .bool false), (53, kv5), (54, .bool true), (65, .bool false), (104, .bool false), (136, .bool false), (160, .bool false), (185, .bool false), (205, .bool false), (226, .bool false), (263, .bool false)] (⟨H0 + 1, 0, kc7, 63, true⟩ :: ⟨H0, 0, kc3, 60, true⟩ :: ⟨g2, 0 + i * 15, kc4, 118, false⟩ :: ⟨g2, 0, pr, 118, false⟩ :: ⟨g2, 0 + i * 15 + 15, po, 118, false⟩ :: (rs ++ ob)) (J11) [] (by kernel_rfl) (by kernel_rfl) (by kernel_rfl) trivial ?_
    clear hE hR; intro a u hE hR
    refine opsNil ?_; refine thenN ?_; refine wp_ret ?_
    refine retF hE hR (hks 0 0 5) (.tuple #[.slice (some ⟨g, off, none⟩) L.length c, .agg #[.int .i64 12, .int .u32 0, .int .u32 0, .int .u32 0, .int .u32 0]]) (by kernel_rfl) (by kernel_rfl) (by kernel_rfl) ?_
    exact ⟨rfl, hR.below (by simp)⟩
end Go.Proofs.Ytkfaaeklkplhnaa
