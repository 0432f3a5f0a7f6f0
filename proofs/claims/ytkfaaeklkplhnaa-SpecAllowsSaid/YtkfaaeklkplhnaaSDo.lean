/- spec.Do, leaf by leaf. Printed by gen_do.py. -/
import Derived.Test.YtkfaaeklkplhnaaSItems
namespace Go.Proofs.Ytkfaaeklkplhnaa
open Go.RowKit

set_option maxRecDepth 100000 in
theorem do_bad (A : Option Addr) (n c : Nat) (ck co : Int) (cv : Vl) (cn : Int) (w : World) (hck : -9223372036854775808 ≤ ck ∧ ck ≤ 9223372036854775807) (hok : kindOk (plainP ck) = false) :
    Calls Try.prog 25 #[.slice A n c, .agg #[.int .i64 ck, .int .i64 co, .int .u32 cv.a, .int .u32 cv.b, .int .u32 cv.c, .int .u32 cv.d, .int .u32 cn]] w fun e W' => e = .returned (.tuple #[.slice A n c, resA 1 Vl.z]) ∧ Below w.heap.size w W' := by
  obtain ⟨K, hK⟩ : ∃ K, K = plainP ck := ⟨_, rfl⟩
  have hpl := fun W => plainB_calls ck W hck
  rw [← hK] at hok hpl
  simp only [kindOk, decide_eq_false_iff_not] at hok
  let kv1 : Value := .agg #[.int .i64 ck, .int .i64 co, .int .u32 cv.a, .int .u32 cv.b, .int .u32 cv.c, .int .u32 cv.d, .int .u32 cn]
  refine enterF Try.func25 rfl Try.ntmps25 [(0, .slice A n c), (1, kv1)] (by kernel_rfl) (by kernel_rfl) ?_
  have hR := Rep.start w
  obtain ⟨H0, hH0⟩ : ∃ x, x = w.heap.size := ⟨_, rfl⟩
  rw [← hH0] at hR
  intro a hE
  refine wp_seq ?_
  refine enterR (idx := [0, 1, 2]) (by kernel_rfl) ?_
  let kc2 : List Value := [.int .i64 0, .int .u32 0, .int .u32 0, .int .u32 0, .int .u32 0]
  let kc3 : List Value := [.int .i64 ck, .int .i64 co, .int .u32 cv.a, .int .u32 cv.b, .int .u32 cv.c, .int .u32 cv.d, .int .u32 cn]
  refine segU hE hR [(0, .op []), (1, .op []), (2, .op [])] [] [(3, .pointer (some ⟨H0, 0, none⟩)), (4, .slice none 0 0), (5, .pointer (some ⟨H0 + 1, 0, none⟩))] [⟨H0 + 1, 0, kc2, 63, true⟩, ⟨H0, 0, kc3, 60, true⟩] (H0 + 2) [] (by kernel_rfl) (by kernel_rfl) (by kernel_rfl) trivial ?_
  clear hE hR; intro a u hE hR
  refine opsNil ?_; refine thenN ?_; refine wp_seq ?_
  refine enterR (idx := [0, 1, 2, 3]) (by kernel_rfl) ?_
  refine segV hE hR [(0, .op []), (1, .op [.k 1 0])] [2, 3] [(13, .int .i64 ck)] [] (by kernel_rfl) (by kernel_rfl) (by kernel_rfl) trivial ?_
  clear hE hR; intro a u hE hR
  refine opsCons ?_
  refine call hE hR [] 49 #[.int .i64 ck] (some 14) [] (by kernel_rfl) (by kernel_rfl) trivial (hpl _) (fun _ _ h => by cases h.1) (fun _ h => by cases h.1) ?_
  clear hE
  rintro v u ⟨hv, hb⟩ a hE
  cases hv
  obtain ⟨H1, hH1, hR⟩ := hR.callE hb
  refine segV hE hR [(3, .op [])] [] [(6, .int .i64 K)] [] (by kernel_rfl) (by kernel_rfl) (by kernel_rfl) trivial ?_
  clear hE hR; intro a u hE hR
  refine opsNil ?_; refine thenN ?_; refine wp_seq ?_; refine wp_block ?_; refine wp_seq ?_; refine wp_seq ?_
  refine enterR (idx := [0, 1, 2]) (by kernel_rfl) ?_
  refine segV hE hR [(0, .op []), (1, .op []), (2, .op [])] [] [(15, .bool (decide ((K : Int) < 1)))] [] (by kernel_rfl) (by kernel_rfl) (by kernel_rfl) trivial ?_
  clear hE hR; intro a u hE hR
  refine opsNil ?_; refine thenN ?_
  rcases Bool.eq_false_or_eq_true (decide ((K : Int) < 1)) with hc2 | hc2
  · refine condT hE (b := decide ((K : Int) < 1)) (by kernel_rfl) hc2 ?_
    have ehc2 := of_decide_eq_true hc2
    refine wp_skip ?_; refine thenN ?_
    refine condT hE (b := decide ((K : Int) < 1)) (by kernel_rfl) (hc2) ?_
    refine wp_seq ?_
    refine enterR (idx := [0, 1, 2, 3]) (by kernel_rfl) ?_
    let kc4 : List Value := [.int .i64 1, .int .u32 0, .int .u32 0, .int .u32 0, .int .u32 0]
    refine segU hE hR [(0, .op []), (1, .op []), (2, .op []), (3, .op (hks 0 0 5))] [] [(4, .slice A n c)] [⟨H0 + 1, 0, kc4, 63, true⟩, ⟨H0, 0, kc3, 60, true⟩] (H1) [] (by kernel_rfl) (by kernel_rfl) (by kernel_rfl) trivial ?_
    clear hE hR; intro a u hE hR
    refine opsNil ?_; refine thenN ?_; refine wp_ret ?_; refine blkR ?_; refine thenR ?_
    refine retF hE hR (hks 0 0 5) (.tuple #[.slice A n c, .agg #[.int .i64 1, .int .u32 0, .int .u32 0, .int .u32 0, .int .u32 0]]) (by kernel_rfl) (by kernel_rfl) (by kernel_rfl) ?_
    exact ⟨rfl, hR.below (by simp)⟩
  · refine condF hE (b := decide ((K : Int) < 1)) (by kernel_rfl) hc2 ?_
    have ehc2 := of_decide_eq_false hc2
    refine enterR (idx := [0, 1, 2, 3, 4, 5, 6, 7, 8, 9, 10]) (by kernel_rfl) ?_
    refine segV hE hR [(0, .op []), (1, .op []), (2, .op []), (3, .op []), (4, .op []), (5, .as [] (.bool ((K : Int) != 16))), (6, .op []), (7, .op []), (8, .op []), (9, .as [] (.bool ((K : Int) != 17))), (10, .op [])] [] [(15, .bool ((K : Int) != 17))] [((if ((K : Int) != 16) = true then (.bool ((K : Int) != 17) : Value) else (.bool false : Value)) : Value) = (.bool ((K : Int) != 17) : Value), ((K : Int) != 16) = true, ((K : Int) != 16) = true, ((if (decide ((K : Int) > 9)) = true then (.bool ((K : Int) != 16) : Value) else (.bool false : Value)) : Value) = (.bool ((K : Int) != 16) : Value), (decide ((K : Int) > 9)) = true, (decide ((K : Int) > 9)) = true] (by kernel_rfl) (by kernel_rfl) (by kernel_rfl) ⟨if_pos (bne_iff_ne.2 (by omega)), bne_iff_ne.2 (by omega), bne_iff_ne.2 (by omega), if_pos (decide_eq_true (by omega)), decide_eq_true (by omega), decide_eq_true (by omega), trivial⟩ ?_
    clear hE hR; intro a u hE hR
    refine opsNil ?_; refine thenN ?_
    refine condT hE (b := (K : Int) != 17) (by kernel_rfl) (bne_iff_ne.2 (by omega)) ?_
    refine wp_seq ?_
    refine enterR (idx := [0, 1, 2, 3]) (by kernel_rfl) ?_
    let kc5 : List Value := [.int .i64 1, .int .u32 0, .int .u32 0, .int .u32 0, .int .u32 0]
    refine segU hE hR [(0, .op []), (1, .op []), (2, .op []), (3, .op (hks 0 0 5))] [] [(4, .slice A n c)] [⟨H0 + 1, 0, kc5, 63, true⟩, ⟨H0, 0, kc3, 60, true⟩] (H1) [] (by kernel_rfl) (by kernel_rfl) (by kernel_rfl) trivial ?_
    clear hE hR; intro a u hE hR
    refine opsNil ?_; refine thenN ?_; refine wp_ret ?_; refine blkR ?_; refine thenR ?_
    refine retF hE hR (hks 0 0 5) (.tuple #[.slice A n c, .agg #[.int .i64 1, .int .u32 0, .int .u32 0, .int .u32 0, .int .u32 0]]) (by kernel_rfl) (by kernel_rfl) (by kernel_rfl) ?_
    exact ⟨rfl, hR.below (by simp)⟩
set_option maxRecDepth 100000 in
theorem do_missing (A : Option Addr) (n c : Nat) (ck co : Int) (cv : Vl) (cn : Int) (w : World) (hck : -9223372036854775808 ≤ ck ∧ ck ≤ 9223372036854775807) (hok : kindOk (plainP ck) = true) (hmis : co < 0 ∨ (n : Int) ≤ co) :
    Calls Try.prog 25 #[.slice A n c, .agg #[.int .i64 ck, .int .i64 co, .int .u32 cv.a, .int .u32 cv.b, .int .u32 cv.c, .int .u32 cv.d, .int .u32 cn]] w fun e W' => e = .returned (.tuple #[.slice A n c, resA 4 Vl.z]) ∧ Below w.heap.size w W' := by
  obtain ⟨K, hK⟩ : ∃ K, K = plainP ck := ⟨_, rfl⟩
  have hpl := fun W => plainB_calls ck W hck
  rw [← hK] at hok hpl
  simp only [kindOk, decide_eq_true_eq] at hok
  let kv1 : Value := .agg #[.int .i64 ck, .int .i64 co, .int .u32 cv.a, .int .u32 cv.b, .int .u32 cv.c, .int .u32 cv.d, .int .u32 cn]
  refine enterF Try.func25 rfl Try.ntmps25 [(0, .slice A n c), (1, kv1)] (by kernel_rfl) (by kernel_rfl) ?_
  have hR := Rep.start w
  obtain ⟨H0, hH0⟩ : ∃ x, x = w.heap.size := ⟨_, rfl⟩
  rw [← hH0] at hR
  intro a hE
  refine wp_seq ?_
  refine enterR (idx := [0, 1, 2]) (by kernel_rfl) ?_
  let kc2 : List Value := [.int .i64 0, .int .u32 0, .int .u32 0, .int .u32 0, .int .u32 0]
  let kc3 : List Value := [.int .i64 ck, .int .i64 co, .int .u32 cv.a, .int .u32 cv.b, .int .u32 cv.c, .int .u32 cv.d, .int .u32 cn]
  refine segU hE hR [(0, .op []), (1, .op []), (2, .op [])] [] [(3, .pointer (some ⟨H0, 0, none⟩)), (4, .slice none 0 0), (5, .pointer (some ⟨H0 + 1, 0, none⟩))] [⟨H0 + 1, 0, kc2, 63, true⟩, ⟨H0, 0, kc3, 60, true⟩] (H0 + 2) [] (by kernel_rfl) (by kernel_rfl) (by kernel_rfl) trivial ?_
  clear hE hR; intro a u hE hR
  refine opsNil ?_; refine thenN ?_; refine wp_seq ?_
  refine enterR (idx := [0, 1, 2, 3]) (by kernel_rfl) ?_
  refine segV hE hR [(0, .op []), (1, .op [.k 1 0])] [2, 3] [(13, .int .i64 ck)] [] (by kernel_rfl) (by kernel_rfl) (by kernel_rfl) trivial ?_
  clear hE hR; intro a u hE hR
  refine opsCons ?_
  refine call hE hR [] 49 #[.int .i64 ck] (some 14) [] (by kernel_rfl) (by kernel_rfl) trivial (hpl _) (fun _ _ h => by cases h.1) (fun _ h => by cases h.1) ?_
  clear hE
  rintro v u ⟨hv, hb⟩ a hE
  cases hv
  obtain ⟨H1, hH1, hR⟩ := hR.callE hb
  refine segV hE hR [(3, .op [])] [] [(6, .int .i64 K)] [] (by kernel_rfl) (by kernel_rfl) (by kernel_rfl) trivial ?_
  clear hE hR; intro a u hE hR
  refine opsNil ?_; refine thenN ?_; refine wp_seq ?_; refine wp_block ?_; refine wp_seq ?_; refine wp_seq ?_
  refine enterR (idx := [0, 1, 2]) (by kernel_rfl) ?_
  refine segV hE hR [(0, .op []), (1, .op []), (2, .op [])] [] [(15, .bool (decide ((K : Int) < 1)))] [] (by kernel_rfl) (by kernel_rfl) (by kernel_rfl) trivial ?_
  clear hE hR; intro a u hE hR
  refine opsNil ?_; refine thenN ?_
  refine condF hE (b := decide ((K : Int) < 1)) (by kernel_rfl) (decide_eq_false (by omega)) ?_
  rcases Bool.eq_false_or_eq_true (decide ((K : Int) > 9)) with hc2 | hc2
  · show Code.wp _ _ _ _ _
    have ehc2 := of_decide_eq_true hc2
    rcases Bool.eq_false_or_eq_true ((K : Int) != 16) with hc3 | hc3
    · show Code.wp _ _ _ _ _
      have ehc3 := bne_iff_ne.1 hc3
      refine enterR (idx := [0, 1, 2, 3, 4, 5, 6, 7, 8, 9, 10]) (by kernel_rfl) ?_
      refine segV hE hR [(0, .op []), (1, .op []), (2, .op []), (3, .op []), (4, .op []), (5, .as [] (.bool ((K : Int) != 16))), (6, .op []), (7, .op []), (8, .op []), (9, .as [] (.bool ((K : Int) != 17))), (10, .op [])] [] [(15, .bool ((K : Int) != 17))] [((if ((K : Int) != 16) = true then (.bool ((K : Int) != 17) : Value) else (.bool false : Value)) : Value) = (.bool ((K : Int) != 17) : Value), ((K : Int) != 16) = true, ((K : Int) != 16) = true, ((if (decide ((K : Int) > 9)) = true then (.bool ((K : Int) != 16) : Value) else (.bool false : Value)) : Value) = (.bool ((K : Int) != 16) : Value), (decide ((K : Int) > 9)) = true, (decide ((K : Int) > 9)) = true] (by kernel_rfl) (by kernel_rfl) (by kernel_rfl) ⟨if_pos (hc3), hc3, hc3, if_pos (hc2), hc2, hc2, trivial⟩ ?_
      clear hE hR; intro a u hE hR
      refine opsNil ?_; refine thenN ?_
      refine condF hE (b := (K : Int) != 17) (by kernel_rfl) (bne_eq_false_iff_eq.2 (by omega)) ?_
      refine wp_seq ?_
      rcases Bool.eq_false_or_eq_true (decide ((co : Int) < 0)) with hc4 | hc4
      · show Code.wp _ _ _ _ _
        have ehc4 := of_decide_eq_true hc4
        refine enterR (idx := [0, 1, 2, 3, 4, 5, 6, 7, 8, 9, 10]) (by kernel_rfl) ?_
        refine segV hE hR [(0, .op []), (1, .op [.k 1 1]), (2, .op []), (3, .op []), (4, .skip), (5, .skip), (6, .skip), (7, .skip), (8, .skip), (9, .as [] (.bool true)), (10, .op [])] [] [(30, .bool true)] [((if (decide ((co : Int) < 0)) = true then (.bool true : Value) else (.tuple #[] : Value)) : Value) = (.bool true : Value), (decide ((co : Int) < 0)) = !false, (decide ((co : Int) < 0)) = !false, (decide ((co : Int) < 0)) = !false, (decide ((co : Int) < 0)) = !false, (decide ((co : Int) < 0)) = !false] (by kernel_rfl) (by kernel_rfl) (by kernel_rfl) ⟨if_pos (hc4), hc4, hc4, hc4, hc4, hc4, trivial⟩ ?_
        clear hE hR; intro a u hE hR
        refine opsNil ?_; refine thenN ?_
        refine condT hE (b := true) (by kernel_rfl) rfl ?_
        refine wp_seq ?_
        refine enterR (idx := [0, 1, 2, 3]) (by kernel_rfl) ?_
        let kc4 : List Value := [.int .i64 4, .int .u32 0, .int .u32 0, .int .u32 0, .int .u32 0]
        refine segU hE hR [(0, .op []), (1, .op []), (2, .op []), (3, .op (hks 0 0 5))] [] [(4, .slice A n c)] [⟨H0 + 1, 0, kc4, 63, true⟩, ⟨H0, 0, kc3, 60, true⟩] (H1) [] (by kernel_rfl) (by kernel_rfl) (by kernel_rfl) trivial ?_
        clear hE hR; intro a u hE hR
        refine opsNil ?_; refine thenN ?_; refine wp_ret ?_; refine blkR ?_; refine thenR ?_
        refine retF hE hR (hks 0 0 5) (.tuple #[.slice A n c, .agg #[.int .i64 4, .int .u32 0, .int .u32 0, .int .u32 0, .int .u32 0]]) (by kernel_rfl) (by kernel_rfl) (by kernel_rfl) ?_
        exact ⟨rfl, hR.below (by simp)⟩
      · show Code.wp _ _ _ _ _
        have ehc4 := of_decide_eq_false hc4
        refine enterR (idx := [0, 1, 2, 3, 4, 5, 6, 7, 8, 9, 10]) (by kernel_rfl) ?_
        refine seg0 hE hR [(0, .op []), (1, .op [.k 1 1]), (2, .op []), (3, .op []), (4, .op []), (5, .op [.k 1 1]), (6, .op []), (7, .op []), (8, .op []), (9, .as [] (.bool (decide ((co : Int) ≥ ((n : Nat) : Int))))), (10, .op [])] [] [(0, .slice A n c), (3, .pointer (some ⟨H0, 0, none⟩)), (4, .slice none 0 0), (5, .pointer (some ⟨H0 + 1, 0, none⟩)), (6, .int .i64 K), (15, .bool ((K : Int) != 17)), (30, .bool (decide ((co : Int) ≥ ((n : Nat) : Int))))] [((if (decide ((co : Int) < 0)) = true then (.bool true : Value) else (.bool (decide ((co : Int) ≥ ((n : Nat) : Int))) : Value)) : Value) = (.bool (decide ((co : Int) ≥ ((n : Nat) : Int))) : Value), (decide ((co : Int) < 0)) = false, (decide ((co : Int) < 0)) = false, (decide ((co : Int) < 0)) = false, (decide ((co : Int) < 0)) = false, (decide ((co : Int) < 0)) = false] (by kernel_rfl) (by kernel_rfl) (by kernel_rfl) ⟨if_neg (by rw [hc4]; decide), hc4, hc4, hc4, hc4, hc4, trivial⟩ ?_
        clear hE hR; intro a u hE hR
        refine opsNil ?_; refine thenN ?_
        refine condT hE (b := decide ((co : Int) ≥ ((n : Nat) : Int))) (by kernel_rfl) (decide_eq_true (by omega)) ?_
        refine wp_seq ?_
        refine enterR (idx := [0, 1, 2, 3]) (by kernel_rfl) ?_
        let kc5 : List Value := [.int .i64 4, .int .u32 0, .int .u32 0, .int .u32 0, .int .u32 0]
        refine segU hE hR [(0, .op []), (1, .op []), (2, .op []), (3, .op (hks 0 0 5))] [] [(4, .slice A n c)] [⟨H0 + 1, 0, kc5, 63, true⟩, ⟨H0, 0, kc3, 60, true⟩] (H1) [] (by kernel_rfl) (by kernel_rfl) (by kernel_rfl) trivial ?_
        clear hE hR; intro a u hE hR
        refine opsNil ?_; refine thenN ?_; refine wp_ret ?_; refine blkR ?_; refine thenR ?_
        refine retF hE hR (hks 0 0 5) (.tuple #[.slice A n c, .agg #[.int .i64 4, .int .u32 0, .int .u32 0, .int .u32 0, .int .u32 0]]) (by kernel_rfl) (by kernel_rfl) (by kernel_rfl) ?_
        exact ⟨rfl, hR.below (by simp)⟩
    · show Code.wp _ _ _ _ _
      have ehc3 := bne_eq_false_iff_eq.1 hc3
      refine enterR (idx := [0, 1, 2, 3, 4, 5, 6, 7, 8, 9, 10]) (by kernel_rfl) ?_
      refine segV hE hR [(0, .op []), (1, .op []), (2, .op []), (3, .op []), (4, .op []), (5, .as [] (.bool ((K : Int) != 16))), (6, .op []), (7, .skip), (8, .skip), (9, .as [] (.bool false)), (10, .op [])] [] [(15, .bool false)] [((if ((K : Int) != 16) = true then (.tuple #[] : Value) else (.bool false : Value)) : Value) = (.bool false : Value), ((K : Int) != 16) = !true, ((K : Int) != 16) = !true, ((if (decide ((K : Int) > 9)) = true then (.bool ((K : Int) != 16) : Value) else (.bool false : Value)) : Value) = (.bool ((K : Int) != 16) : Value), (decide ((K : Int) > 9)) = true, (decide ((K : Int) > 9)) = true] (by kernel_rfl) (by kernel_rfl) (by kernel_rfl) ⟨if_neg (by rw [hc3]; decide), hc3, hc3, if_pos (hc2), hc2, hc2, trivial⟩ ?_
      clear hE hR; intro a u hE hR
      refine opsNil ?_; refine thenN ?_
      refine condF hE (b := false) (by kernel_rfl) rfl ?_
      refine wp_seq ?_
      rcases Bool.eq_false_or_eq_true (decide ((co : Int) < 0)) with hc5 | hc5
      · show Code.wp _ _ _ _ _
        have ehc5 := of_decide_eq_true hc5
        refine enterR (idx := [0, 1, 2, 3, 4, 5, 6, 7, 8, 9, 10]) (by kernel_rfl) ?_
        refine segV hE hR [(0, .op []), (1, .op [.k 1 1]), (2, .op []), (3, .op []), (4, .skip), (5, .skip), (6, .skip), (7, .skip), (8, .skip), (9, .as [] (.bool true)), (10, .op [])] [] [(30, .bool true)] [((if (decide ((co : Int) < 0)) = true then (.bool true : Value) else (.tuple #[] : Value)) : Value) = (.bool true : Value), (decide ((co : Int) < 0)) = !false, (decide ((co : Int) < 0)) = !false, (decide ((co : Int) < 0)) = !false, (decide ((co : Int) < 0)) = !false, (decide ((co : Int) < 0)) = !false] (by kernel_rfl) (by kernel_rfl) (by kernel_rfl) ⟨if_pos (hc5), hc5, hc5, hc5, hc5, hc5, trivial⟩ ?_
        clear hE hR; intro a u hE hR
        refine opsNil ?_; refine thenN ?_
        refine condT hE (b := true) (by kernel_rfl) rfl ?_
        refine wp_seq ?_
        refine enterR (idx := [0, 1, 2, 3]) (by kernel_rfl) ?_
        let kc6 : List Value := [.int .i64 4, .int .u32 0, .int .u32 0, .int .u32 0, .int .u32 0]
        refine segU hE hR [(0, .op []), (1, .op []), (2, .op []), (3, .op (hks 0 0 5))] [] [(4, .slice A n c)] [⟨H0 + 1, 0, kc6, 63, true⟩, ⟨H0, 0, kc3, 60, true⟩] (H1) [] (by kernel_rfl) (by kernel_rfl) (by kernel_rfl) trivial ?_
        clear hE hR; intro a u hE hR
        refine opsNil ?_; refine thenN ?_; refine wp_ret ?_; refine blkR ?_; refine thenR ?_
        refine retF hE hR (hks 0 0 5) (.tuple #[.slice A n c, .agg #[.int .i64 4, .int .u32 0, .int .u32 0, .int .u32 0, .int .u32 0]]) (by kernel_rfl) (by kernel_rfl) (by kernel_rfl) ?_
        exact ⟨rfl, hR.below (by simp)⟩
      · show Code.wp _ _ _ _ _
        have ehc5 := of_decide_eq_false hc5
        refine enterR (idx := [0, 1, 2, 3, 4, 5, 6, 7, 8, 9, 10]) (by kernel_rfl) ?_
        refine segV hE hR [(0, .op []), (1, .op [.k 1 1]), (2, .op []), (3, .op []), (4, .op []), (5, .op [.k 1 1]), (6, .op []), (7, .op []), (8, .op []), (9, .as [] (.bool (decide ((co : Int) ≥ ((n : Nat) : Int))))), (10, .op [])] [] [(30, .bool (decide ((co : Int) ≥ ((n : Nat) : Int))))] [((if (decide ((co : Int) < 0)) = true then (.bool true : Value) else (.bool (decide ((co : Int) ≥ ((n : Nat) : Int))) : Value)) : Value) = (.bool (decide ((co : Int) ≥ ((n : Nat) : Int))) : Value), (decide ((co : Int) < 0)) = false, (decide ((co : Int) < 0)) = false, (decide ((co : Int) < 0)) = false, (decide ((co : Int) < 0)) = false, (decide ((co : Int) < 0)) = false] (by kernel_rfl) (by kernel_rfl) (by kernel_rfl) ⟨if_neg (by rw [hc5]; decide), hc5, hc5, hc5, hc5, hc5, trivial⟩ ?_
        clear hE hR; intro a u hE hR
        refine opsNil ?_; refine thenN ?_
        refine condT hE (b := decide ((co : Int) ≥ ((n : Nat) : Int))) (by kernel_rfl) (decide_eq_true (by omega)) ?_
        refine wp_seq ?_
        refine enterR (idx := [0, 1, 2, 3]) (by kernel_rfl) ?_
        let kc7 : List Value := [.int .i64 4, .int .u32 0, .int .u32 0, .int .u32 0, .int .u32 0]
        refine segU hE hR [(0, .op []), (1, .op []), (2, .op []), (3, .op (hks 0 0 5))] [] [(4, .slice A n c)] [⟨H0 + 1, 0, kc7, 63, true⟩, ⟨H0, 0, kc3, 60, true⟩] (H1) [] (by kernel_rfl) (by kernel_rfl) (by kernel_rfl) trivial ?_
        clear hE hR; intro a u hE hR
        refine opsNil ?_; refine thenN ?_; refine wp_ret ?_; refine blkR ?_; refine thenR ?_
        refine retF hE hR (hks 0 0 5) (.tuple #[.slice A n c, .agg #[.int .i64 4, .int .u32 0, .int .u32 0, .int .u32 0, .int .u32 0]]) (by kernel_rfl) (by kernel_rfl) (by kernel_rfl) ?_
        exact ⟨rfl, hR.below (by simp)⟩
  · show Code.wp _ _ _ _ _
    have ehc2 := of_decide_eq_false hc2
    refine enterR (idx := [0, 1, 2, 3, 4, 5, 6, 7, 8, 9, 10]) (by kernel_rfl) ?_
    refine segV hE hR [(0, .op []), (1, .op []), (2, .op []), (3, .skip), (4, .skip), (5, .as [] (.bool false)), (6, .op []), (7, .skip), (8, .skip), (9, .op []), (10, .op [])] [] [(15, .bool false)] [false = !true, false = !true, ((if (decide ((K : Int) > 9)) = true then (.tuple #[] : Value) else (.bool false : Value)) : Value) = (.bool false : Value), (decide ((K : Int) > 9)) = !true, (decide ((K : Int) > 9)) = !true] (by kernel_rfl) (by kernel_rfl) (by kernel_rfl) ⟨rfl, rfl, if_neg (by rw [hc2]; decide), hc2, hc2, trivial⟩ ?_
    clear hE hR; intro a u hE hR
    refine opsNil ?_; refine thenN ?_
    refine condF hE (b := false) (by kernel_rfl) rfl ?_
    refine wp_seq ?_
    rcases Bool.eq_false_or_eq_true (decide ((co : Int) < 0)) with hc6 | hc6
    · show Code.wp _ _ _ _ _
      have ehc6 := of_decide_eq_true hc6
      refine enterR (idx := [0, 1, 2, 3, 4, 5, 6, 7, 8, 9, 10]) (by kernel_rfl) ?_
      refine seg0 hE hR [(0, .op []), (1, .op [.k 1 1]), (2, .op []), (3, .op []), (4, .skip), (5, .skip), (6, .skip), (7, .skip), (8, .skip), (9, .as [] (.bool true)), (10, .op [])] [] [(0, .slice A n c), (3, .pointer (some ⟨H0, 0, none⟩)), (4, .slice none 0 0), (5, .pointer (some ⟨H0 + 1, 0, none⟩)), (6, .int .i64 K), (15, .bool false), (30, .bool true)] [((if (decide ((co : Int) < 0)) = true then (.bool true : Value) else (.tuple #[] : Value)) : Value) = (.bool true : Value), (decide ((co : Int) < 0)) = !false, (decide ((co : Int) < 0)) = !false, (decide ((co : Int) < 0)) = !false, (decide ((co : Int) < 0)) = !false, (decide ((co : Int) < 0)) = !false] (by kernel_rfl) (by kernel_rfl) (by kernel_rfl) ⟨if_pos (hc6), hc6, hc6, hc6, hc6, hc6, trivial⟩ ?_
      clear hE hR; intro a u hE hR
      refine opsNil ?_; refine thenN ?_
      refine condT hE (b := true) (by kernel_rfl) rfl ?_
      refine wp_seq ?_
      refine enterR (idx := [0, 1, 2, 3]) (by kernel_rfl) ?_
      let kc8 : List Value := [.int .i64 4, .int .u32 0, .int .u32 0, .int .u32 0, .int .u32 0]
      refine segU hE hR [(0, .op []), (1, .op []), (2, .op []), (3, .op (hks 0 0 5))] [] [(4, .slice A n c)] [⟨H0 + 1, 0, kc8, 63, true⟩, ⟨H0, 0, kc3, 60, true⟩] (H1) [] (by kernel_rfl) (by kernel_rfl) (by kernel_rfl) trivial ?_
      clear hE hR; intro a u hE hR
      refine opsNil ?_; refine thenN ?_; refine wp_ret ?_; refine blkR ?_; refine thenR ?_
      refine retF hE hR (hks 0 0 5) (.tuple #[.slice A n c, .agg #[.int .i64 4, .int .u32 0, .int .u32 0, .int .u32 0, .int .u32 0]]) (by kernel_rfl) (by kernel_rfl) (by kernel_rfl) ?_
      exact ⟨rfl, hR.below (by simp)⟩
    · show Code.wp _ _ _ _ _
      have ehc6 := of_decide_eq_false hc6
      refine enterR (idx := [0, 1, 2, 3, 4, 5, 6, 7, 8, 9, 10]) (by kernel_rfl) ?_
      refine segV hE hR [(0, .op []), (1, .op [.k 1 1]), (2, .op []), (3, .op []), (4, .op []), (5, .op [.k 1 1]), (6, .op []), (7, .op []), (8, .op []), (9, .as [] (.bool (decide ((co : Int) ≥ ((n : Nat) : Int))))), (10, .op [])] [] [(30, .bool (decide ((co : Int) ≥ ((n : Nat) : Int))))] [((if (decide ((co : Int) < 0)) = true then (.bool true : Value) else (.bool (decide ((co : Int) ≥ ((n : Nat) : Int))) : Value)) : Value) = (.bool (decide ((co : Int) ≥ ((n : Nat) : Int))) : Value), (decide ((co : Int) < 0)) = false, (decide ((co : Int) < 0)) = false, (decide ((co : Int) < 0)) = false, (decide ((co : Int) < 0)) = false, (decide ((co : Int) < 0)) = false] (by kernel_rfl) (by kernel_rfl) (by kernel_rfl) ⟨if_neg (by rw [hc6]; decide), hc6, hc6, hc6, hc6, hc6, trivial⟩ ?_
      clear hE hR; intro a u hE hR
      refine opsNil ?_; refine thenN ?_
      refine condT hE (b := decide ((co : Int) ≥ ((n : Nat) : Int))) (by kernel_rfl) (decide_eq_true (by omega)) ?_
      refine wp_seq ?_
      refine enterR (idx := [0, 1, 2, 3]) (by kernel_rfl) ?_
      let kc9 : List Value := [.int .i64 4, .int .u32 0, .int .u32 0, .int .u32 0, .int .u32 0]
      refine segU hE hR [(0, .op []), (1, .op []), (2, .op []), (3, .op (hks 0 0 5))] [] [(4, .slice A n c)] [⟨H0 + 1, 0, kc9, 63, true⟩, ⟨H0, 0, kc3, 60, true⟩] (H1) [] (by kernel_rfl) (by kernel_rfl) (by kernel_rfl) trivial ?_
      clear hE hR; intro a u hE hR
      refine opsNil ?_; refine thenN ?_; refine wp_ret ?_; refine blkR ?_; refine thenR ?_
      refine retF hE hR (hks 0 0 5) (.tuple #[.slice A n c, .agg #[.int .i64 4, .int .u32 0, .int .u32 0, .int .u32 0, .int .u32 0]]) (by kernel_rfl) (by kernel_rfl) (by kernel_rfl) ?_
      exact ⟨rfl, hR.below (by simp)⟩
set_option maxRecDepth 100000 in
theorem do_same (g off c : Nat) (L : List IV) (x : Itm) (rv : Value) (d : Dn) (ck : Int) (i : Nat) (cv : Vl) (cn : Int) (w : World) (hck : -9223372036854775808 ≤ ck ∧ ck ≤ 9223372036854775807) (hok : kindOk (plainP ck) = true) (hi : i < L.length) (_ : L.length ≤ 8) (hx : w.rangeAt g (off + i * 15) (itC x rv)) (hrow : RowV w rv x.row) (HD : ∀ W, RowV W rv x.row → Calls Try.prog 50 #[itA x.o rv x.v, .int .i64 (plainP ck), callA ck (i : Int) cv cn] W (DoneS d rv x.row W)) (hch : d.ch = false) :
    Calls Try.prog 25 #[.slice (some ⟨g, off, none⟩) L.length c, .agg #[.int .i64 ck, .int .i64 ((i : Nat) : Int), .int .u32 cv.a, .int .u32 cv.b, .int .u32 cv.c, .int .u32 cv.d, .int .u32 cn]] w fun e W' => e = .returned (.tuple #[.slice (some ⟨g, off, none⟩) L.length c, resA d.f d.r]) ∧ Below w.heap.size w W' := by
  obtain ⟨K, hK⟩ : ∃ K, K = plainP ck := ⟨_, rfl⟩
  have hpl := fun W => plainB_calls ck W hck
  rw [← hK] at hok hpl HD
  simp only [kindOk, decide_eq_true_eq] at hok
  rw [itC_eq] at hx
  let kv1 : Value := .agg #[.int .i64 ck, .int .i64 ((i : Nat) : Int), .int .u32 cv.a, .int .u32 cv.b, .int .u32 cv.c, .int .u32 cv.d, .int .u32 cn]
  refine enterF Try.func25 rfl Try.ntmps25 [(0, .slice (some ⟨g, off, none⟩) L.length c), (1, kv1)] (by kernel_rfl) (by kernel_rfl) ?_
  have hR := Rep.startR w g (off + i * 15) hx
  obtain ⟨H0, hH0⟩ : ∃ x, x = w.heap.size := ⟨_, rfl⟩
  rw [← hH0] at hR
  intro a hE
  refine wp_seq ?_
  refine enterR (idx := [0, 1, 2]) (by kernel_rfl) ?_
  let kc2 : List Value := [.int .i64 0, .int .u32 0, .int .u32 0, .int .u32 0, .int .u32 0]
  let kc3 : List Value := [.int .i64 ck, .int .i64 ((i : Nat) : Int), .int .u32 cv.a, .int .u32 cv.b, .int .u32 cv.c, .int .u32 cv.d, .int .u32 cn]
  refine segU hE hR [(0, .op []), (1, .op []), (2, .op [])] [] [(3, .pointer (some ⟨H0, 0, none⟩)), (4, .slice none 0 0), (5, .pointer (some ⟨H0 + 1, 0, none⟩))] [⟨H0 + 1, 0, kc2, 63, true⟩, ⟨H0, 0, kc3, 60, true⟩] (H0 + 2) [] (by kernel_rfl) (by kernel_rfl) (by kernel_rfl) trivial ?_
  clear hE hR; intro a u hE hR
  refine opsNil ?_; refine thenN ?_; refine wp_seq ?_
  refine enterR (idx := [0, 1, 2, 3]) (by kernel_rfl) ?_
  refine segV hE hR [(0, .op []), (1, .op [.k 1 0])] [2, 3] [(13, .int .i64 ck)] [] (by kernel_rfl) (by kernel_rfl) (by kernel_rfl) trivial ?_
  clear hE hR; intro a u hE hR
  refine opsCons ?_
  refine call hE hR [] 49 #[.int .i64 ck] (some 14) [] (by kernel_rfl) (by kernel_rfl) trivial (hpl _) (fun _ _ h => by cases h.1) (fun _ h => by cases h.1) ?_
  clear hE
  rintro v u ⟨hv, hb⟩ a hE
  cases hv
  obtain ⟨H1, hH1, hR⟩ := hR.callE hb
  refine segV hE hR [(3, .op [])] [] [(6, .int .i64 K)] [] (by kernel_rfl) (by kernel_rfl) (by kernel_rfl) trivial ?_
  clear hE hR; intro a u hE hR
  refine opsNil ?_; refine thenN ?_
  let kv4 : Value := .bool (decide (((i : Nat) : Int) ≥ ((L.length : Nat) : Int)))
  let kc5 : List Value := [.int .i64 x.o.kind, .int .i64 x.o.cap, .int .i64 x.o.width, .int .i64 x.o.retry, .int .i64 x.o.src, .int .i64 x.o.dst, .int .u32 x.o.i0, .int .u32 x.o.i1, .int .u32 x.o.i2, .int .u32 x.o.i3, rv, .int .u32 x.v.a, .int .u32 x.v.b, .int .u32 x.v.c, .int .u32 x.v.d]
  refine seqJ (fun a u => TE a 73 [(0, .slice (some ⟨g, off, none⟩) L.length c), (3, .pointer (some ⟨H0, 0, none⟩)), (4, .slice none 0 0), (5, .pointer (some ⟨H0 + 1, 0, none⟩)), (6, .int .i64 K), (30, kv4)] ∧ ∃ H, Rep [(w, fun _ => True)] u H [⟨H0 + 1, 0, kc2, 63, true⟩, ⟨H0, 0, kc3, 60, true⟩] [⟨g, off + i * 15, kc5⟩]) ?_ ?_
  · show Code.wp _ _ _ _ _
    refine wp_block ?_; refine wp_seq ?_; refine wp_seq ?_
    refine enterR (idx := [0, 1, 2]) (by kernel_rfl) ?_
    refine segV hE hR [(0, .op []), (1, .op []), (2, .op [])] [] [(15, .bool (decide ((K : Int) < 1)))] [] (by kernel_rfl) (by kernel_rfl) (by kernel_rfl) trivial ?_
    clear hE hR; intro a u hE hR
    refine opsNil ?_; refine thenN ?_
    refine condF hE (b := decide ((K : Int) < 1)) (by kernel_rfl) (decide_eq_false (by omega)) ?_
    rcases Bool.eq_false_or_eq_true (decide ((K : Int) > 9)) with hc2 | hc2
    · show Code.wp _ _ _ _ _
      have ehc2 := of_decide_eq_true hc2
      rcases Bool.eq_false_or_eq_true ((K : Int) != 16) with hc3 | hc3
      · show Code.wp _ _ _ _ _
        have ehc3 := bne_iff_ne.1 hc3
        refine enterR (idx := [0, 1, 2, 3, 4, 5, 6, 7, 8, 9, 10]) (by kernel_rfl) ?_
        refine segV hE hR [(0, .op []), (1, .op []), (2, .op []), (3, .op []), (4, .op []), (5, .as [] (.bool ((K : Int) != 16))), (6, .op []), (7, .op []), (8, .op []), (9, .as [] (.bool ((K : Int) != 17))), (10, .op [])] [] [(15, .bool ((K : Int) != 17))] [((if ((K : Int) != 16) = true then (.bool ((K : Int) != 17) : Value) else (.bool false : Value)) : Value) = (.bool ((K : Int) != 17) : Value), ((K : Int) != 16) = true, ((K : Int) != 16) = true, ((if (decide ((K : Int) > 9)) = true then (.bool ((K : Int) != 16) : Value) else (.bool false : Value)) : Value) = (.bool ((K : Int) != 16) : Value), (decide ((K : Int) > 9)) = true, (decide ((K : Int) > 9)) = true] (by kernel_rfl) (by kernel_rfl) (by kernel_rfl) ⟨if_pos (hc3), hc3, hc3, if_pos (hc2), hc2, hc2, trivial⟩ ?_
        clear hE hR; intro a u hE hR
        refine opsNil ?_; refine thenN ?_
        refine condF hE (b := (K : Int) != 17) (by kernel_rfl) (bne_eq_false_iff_eq.2 (by omega)) ?_
        refine wp_seq ?_
        refine enterR (idx := [0, 1, 2, 3, 4, 5, 6, 7, 8, 9, 10]) (by kernel_rfl) ?_
        refine segV hE hR [(0, .op []), (1, .op [.k 1 1]), (2, .op []), (3, .op []), (4, .op []), (5, .op [.k 1 1]), (6, .op []), (7, .op []), (8, .op []), (9, .as [] (.bool (decide (((i : Nat) : Int) ≥ ((L.length : Nat) : Int))))), (10, .op [])] [] [(30, kv4)] [((if (decide (((i : Nat) : Int) < 0)) = true then (.bool true : Value) else (.bool (decide (((i : Nat) : Int) ≥ ((L.length : Nat) : Int))) : Value)) : Value) = (.bool (decide (((i : Nat) : Int) ≥ ((L.length : Nat) : Int))) : Value), (decide (((i : Nat) : Int) < 0)) = false, (decide (((i : Nat) : Int) < 0)) = false, (decide (((i : Nat) : Int) < 0)) = false, (decide (((i : Nat) : Int) < 0)) = false, (decide (((i : Nat) : Int) < 0)) = false] (by kernel_rfl) (by kernel_rfl) (by kernel_rfl) ⟨if_neg (by rw [decide_eq_false (by omega)]; decide), decide_eq_false (by omega), decide_eq_false (by omega), decide_eq_false (by omega), decide_eq_false (by omega), decide_eq_false (by omega), trivial⟩ ?_
        clear hE hR; intro a u hE hR
        refine opsNil ?_; refine thenN ?_
        refine condF hE (b := decide (((i : Nat) : Int) ≥ ((L.length : Nat) : Int))) (by kernel_rfl) (decide_eq_false (by omega)) ?_
        refine wp_skip ?_; refine blkN ?_; refine thenN ?_
        exact ⟨hE.sub (by kernel_rfl), _, hR⟩
      · show Code.wp _ _ _ _ _
        have ehc3 := bne_eq_false_iff_eq.1 hc3
        refine enterR (idx := [0, 1, 2, 3, 4, 5, 6, 7, 8, 9, 10]) (by kernel_rfl) ?_
        refine segV hE hR [(0, .op []), (1, .op []), (2, .op []), (3, .op []), (4, .op []), (5, .as [] (.bool ((K : Int) != 16))), (6, .op []), (7, .skip), (8, .skip), (9, .as [] (.bool false)), (10, .op [])] [] [(15, .bool false)] [((if ((K : Int) != 16) = true then (.tuple #[] : Value) else (.bool false : Value)) : Value) = (.bool false : Value), ((K : Int) != 16) = !true, ((K : Int) != 16) = !true, ((if (decide ((K : Int) > 9)) = true then (.bool ((K : Int) != 16) : Value) else (.bool false : Value)) : Value) = (.bool ((K : Int) != 16) : Value), (decide ((K : Int) > 9)) = true, (decide ((K : Int) > 9)) = true] (by kernel_rfl) (by kernel_rfl) (by kernel_rfl) ⟨if_neg (by rw [hc3]; decide), hc3, hc3, if_pos (hc2), hc2, hc2, trivial⟩ ?_
        clear hE hR; intro a u hE hR
        refine opsNil ?_; refine thenN ?_
        refine condF hE (b := false) (by kernel_rfl) rfl ?_
        refine wp_seq ?_
        refine enterR (idx := [0, 1, 2, 3, 4, 5, 6, 7, 8, 9, 10]) (by kernel_rfl) ?_
        refine seg0 hE hR [(0, .op []), (1, .op [.k 1 1]), (2, .op []), (3, .op []), (4, .op []), (5, .op [.k 1 1]), (6, .op []), (7, .op []), (8, .op []), (9, .as [] (.bool (decide (((i : Nat) : Int) ≥ ((L.length : Nat) : Int))))), (10, .op [])] [] [(0, .slice (some ⟨g, off, none⟩) L.length c), (3, .pointer (some ⟨H0, 0, none⟩)), (4, .slice none 0 0), (5, .pointer (some ⟨H0 + 1, 0, none⟩)), (6, .int .i64 K), (15, .bool false), (30, kv4)] [((if (decide (((i : Nat) : Int) < 0)) = true then (.bool true : Value) else (.bool (decide (((i : Nat) : Int) ≥ ((L.length : Nat) : Int))) : Value)) : Value) = (.bool (decide (((i : Nat) : Int) ≥ ((L.length : Nat) : Int))) : Value), (decide (((i : Nat) : Int) < 0)) = false, (decide (((i : Nat) : Int) < 0)) = false, (decide (((i : Nat) : Int) < 0)) = false, (decide (((i : Nat) : Int) < 0)) = false, (decide (((i : Nat) : Int) < 0)) = false] (by kernel_rfl) (by kernel_rfl) (by kernel_rfl) ⟨if_neg (by rw [decide_eq_false (by omega)]; decide), decide_eq_false (by omega), decide_eq_false (by omega), decide_eq_false (by omega), decide_eq_false (by omega), decide_eq_false (by omega), trivial⟩ ?_
        clear hE hR; intro a u hE hR
        refine opsNil ?_; refine thenN ?_
        refine condF hE (b := decide (((i : Nat) : Int) ≥ ((L.length : Nat) : Int))) (by kernel_rfl) (decide_eq_false (by omega)) ?_
        refine wp_skip ?_; refine blkN ?_; refine thenN ?_
        exact ⟨hE.sub (by kernel_rfl), _, hR⟩
    · show Code.wp _ _ _ _ _
      have ehc2 := of_decide_eq_false hc2
      refine enterR (idx := [0, 1, 2, 3, 4, 5, 6, 7, 8, 9, 10]) (by kernel_rfl) ?_
      refine segV hE hR [(0, .op []), (1, .op []), (2, .op []), (3, .skip), (4, .skip), (5, .as [] (.bool false)), (6, .op []), (7, .skip), (8, .skip), (9, .op []), (10, .op [])] [] [(15, .bool false)] [false = !true, false = !true, ((if (decide ((K : Int) > 9)) = true then (.tuple #[] : Value) else (.bool false : Value)) : Value) = (.bool false : Value), (decide ((K : Int) > 9)) = !true, (decide ((K : Int) > 9)) = !true] (by kernel_rfl) (by kernel_rfl) (by kernel_rfl) ⟨rfl, rfl, if_neg (by rw [hc2]; decide), hc2, hc2, trivial⟩ ?_
      clear hE hR; intro a u hE hR
      refine opsNil ?_; refine thenN ?_
      refine condF hE (b := false) (by kernel_rfl) rfl ?_
      refine wp_seq ?_
      refine enterR (idx := [0, 1, 2, 3, 4, 5, 6, 7, 8, 9, 10]) (by kernel_rfl) ?_
      refine segV hE hR [(0, .op []), (1, .op [.k 1 1]), (2, .op []), (3, .op []), (4, .op []), (5, .op [.k 1 1]), (6, .op []), (7, .op []), (8, .op []), (9, .as [] (.bool (decide (((i : Nat) : Int) ≥ ((L.length : Nat) : Int))))), (10, .op [])] [] [(30, kv4)] [((if (decide (((i : Nat) : Int) < 0)) = true then (.bool true : Value) else (.bool (decide (((i : Nat) : Int) ≥ ((L.length : Nat) : Int))) : Value)) : Value) = (.bool (decide (((i : Nat) : Int) ≥ ((L.length : Nat) : Int))) : Value), (decide (((i : Nat) : Int) < 0)) = false, (decide (((i : Nat) : Int) < 0)) = false, (decide (((i : Nat) : Int) < 0)) = false, (decide (((i : Nat) : Int) < 0)) = false, (decide (((i : Nat) : Int) < 0)) = false] (by kernel_rfl) (by kernel_rfl) (by kernel_rfl) ⟨if_neg (by rw [decide_eq_false (by omega)]; decide), decide_eq_false (by omega), decide_eq_false (by omega), decide_eq_false (by omega), decide_eq_false (by omega), decide_eq_false (by omega), trivial⟩ ?_
      clear hE hR; intro a u hE hR
      refine opsNil ?_; refine thenN ?_
      refine condF hE (b := decide (((i : Nat) : Int) ≥ ((L.length : Nat) : Int))) (by kernel_rfl) (decide_eq_false (by omega)) ?_
      refine wp_skip ?_; refine blkN ?_; refine thenN ?_
      exact ⟨hE.sub (by kernel_rfl), _, hR⟩
  clear hE hR
  rintro a u ⟨hE, J1, hR⟩
  let kc6 : List Value := [.int .i64 d.f, .int .u32 d.r.a, .int .u32 d.r.b, .int .u32 d.r.c, .int .u32 d.r.d]
  refine seqJ (fun a u => ∃ (y2a : World) (y2b : Nat) (y2c : Option Addr) (y2d : Nat) (n2a : Nat) (n2b : Nat), (Apart rv x.row (y2b) (.slice y2c d.y.row.length y2d) d.y.row) ∧ (RowV y2a (.slice y2c d.y.row.length y2d) d.y.row) ∧ TE a 73 [(0, .slice (some ⟨g, off, none⟩) L.length c), (3, .pointer (some ⟨H0, 0, none⟩)), (4, .slice none 0 0), (5, .pointer (some ⟨H0 + 1, 0, none⟩)), (6, .int .i64 K), (7, .pointer (some ⟨n2a, 0, none⟩)), (8, .pointer (some ⟨n2b, 0, none⟩)), (9, .bool (d.ch)), (30, kv4)] ∧ ∃ H, Rep ((y2a, fun k => k < w.heap.size ∨ y2b ≤ k) :: [(w, fun _ => True)]) u H [⟨n2a, 0, [.int .i64 d.y.o.kind, .int .i64 d.y.o.cap, .int .i64 d.y.o.width, .int .i64 d.y.o.retry, .int .i64 d.y.o.src, .int .i64 d.y.o.dst, .int .u32 d.y.o.i0, .int .u32 d.y.o.i1, .int .u32 d.y.o.i2, .int .u32 d.y.o.i3, .slice y2c d.y.row.length y2d, .int .u32 d.y.v.a, .int .u32 d.y.v.b, .int .u32 d.y.v.c, .int .u32 d.y.v.d], 116, true⟩, ⟨n2b, 0, kc6, 63, true⟩, ⟨H0 + 1, 0, kc2, 63, true⟩, ⟨H0, 0, kc3, 60, true⟩] [⟨g, off + i * 15, kc5⟩]) ?_ ?_
  · show Code.wp _ _ _ _ _
    refine enterD (kl := [⟨H0 + 1, 0, kc2, 63, true⟩, ⟨H0, 0, kc3, 60, true⟩]) (by kernel_rfl) hR (F := 19) (listed := #[false, false, false, false, false, false, false, false, false, false, false, false, false, false, false, false, false, false, false]) (by kernel_rfl) (by kernel_rfl) ?_
    clear hR
    intro u hR
    let kv7 : Value := .agg #[.int .i64 x.o.kind, .int .i64 x.o.cap, .int .i64 x.o.width, .int .i64 x.o.retry, .int .i64 x.o.src, .int .i64 x.o.dst, .int .u32 x.o.i0, .int .u32 x.o.i1, .int .u32 x.o.i2, .int .u32 x.o.i3, rv, .int .u32 x.v.a, .int .u32 x.v.b, .int .u32 x.v.c, .int .u32 x.v.d]
    refine takesU (by kernel_rfl) (pqT pqF) hE (hR.ss [0, 1] (by kernel_rfl)) [(0, .op []), (1, .op []), (2, .op [.k 1 1]), (3, .alt (.pointer (some ⟨g, off + i * 15, none⟩))), (4, .op [.r 0 0, .r 0 1, .r 0 2, .r 0 3, .r 0 4, .r 0 5, .r 0 6, .r 0 7, .r 0 8, .r 0 9, .r 0 10, .r 0 11, .r 0 12, .r 0 13, .r 0 14]), (5, .op []), (6, .op (hks 1 0 7))] 12 [(48, kv7), (49, .int .i64 K), (50, kv1)] #[true, true, true, true, true, true, true, false, false, false, false, false, false, false, false, false, false, false, false] [(0 ≤ (((i : Nat) : Int) : Int) ∧ (((i : Nat) : Int) : Int) < ((L.length : Nat) : Int)) ∧ (Try.prog.info? 116).isSome = true, (.pointer (some ⟨g, off + (((i : Nat) : Int)).toNat * Try.prog.cellsOf 116, none⟩) : Value) = (.pointer (some ⟨g, off + i * 15, none⟩) : Value)] (by kernel_rfl) (by kernel_rfl) (by kernel_rfl) ⟨⟨⟨by omega, by omega⟩, by kernel_rfl⟩, by kernel_rfl, trivial⟩ ?_
    clear hE; intro a hE
    refine wpAnyH_all (rs := [7, 13, 14]) (by kernel_rfl) (by simp) (allCons ?_ (allCons ?_ (allCons ?_ allNil)))
    · show wpOp _ _ _ _ _ _ _
      refine call hE hR [] 50 #[kv7, .int .i64 K, kv1] (some 51) [] (by kernel_rfl) (by kernel_rfl) trivial (HD _ (hrow.below (hR.below (by simp)))) (by rintro _ _ ⟨_, _, h, _⟩; cases h) (by rintro _ ⟨_, _, h, _⟩; cases h) ?_
      clear hE
      rintro v uD ⟨A2, c2, hv, hap2, hrow2, hb⟩ a hE
      cases hv
      obtain ⟨HcD, hHcD, H4, hH4, hR⟩ := hR.callF hb (w0 := w) (by simp)
      rw [← hHcD] at hap2
      refine ⟨(hR.ss [0, 1] (by kernel_rfl)), ?_⟩
      show wpAnyH _ _ _ _ _ _ #[true, true, true, true, true, true, true, true, false, false, false, false, false, false, false, false, false, false, false] _ _
      let kv8 : Value := .agg #[.int .i64 d.y.o.kind, .int .i64 d.y.o.cap, .int .i64 d.y.o.width, .int .i64 d.y.o.retry, .int .i64 d.y.o.src, .int .i64 d.y.o.dst, .int .u32 d.y.o.i0, .int .u32 d.y.o.i1, .int .u32 d.y.o.i2, .int .u32 d.y.o.i3, .slice A2 d.y.row.length c2, .int .u32 d.y.v.a, .int .u32 d.y.v.b, .int .u32 d.y.v.c, .int .u32 d.y.v.d]
      let kv9 : Value := .agg #[.int .i64 d.f, .int .u32 d.r.a, .int .u32 d.r.b, .int .u32 d.r.c, .int .u32 d.r.d]
      refine takesU (by kernel_rfl) (pqT pqF) hE (hR.ss [0, 1] (by kernel_rfl)) [(8, .op []), (9, .op []), (10, .op []), (11, .op []), (12, .op [])] 6 [(52, kv8), (53, kv9), (54, .bool (d.ch)), (55, .bool (d.is))] #[true, true, true, true, true, true, true, true, true, true, true, true, true, false, false, false, false, false, false] [] (by kernel_rfl) (by kernel_rfl) (by kernel_rfl) trivial ?_
      clear hE; intro a hE
      refine wpAnyH_all (rs := [13, 14]) (by kernel_rfl) (by simp) (allCons ?_ (allCons ?_ allNil))
      · show wpOp _ _ _ _ _ _ _
        let kc10 : List Value := [.int .i64 0, .int .i64 0, .int .i64 0, .int .i64 0, .int .i64 0, .int .i64 0, .int .u32 0, .int .u32 0, .int .u32 0, .int .u32 0, .slice none 0 0, .int .u32 0, .int .u32 0, .int .u32 0, .int .u32 0]
        refine oneU hE hR (.op []) [(7, .pointer (some ⟨H4, 0, none⟩))] [⟨H4, 0, kc10, 116, true⟩, ⟨H0 + 1, 0, kc2, 63, true⟩, ⟨H0, 0, kc3, 60, true⟩] (H4 + 1) [] (by kernel_rfl) (by kernel_rfl) trivial ?_
        clear hE hR; intro a u hE hR
        refine ⟨(hR.ss [1, 2] (by kernel_rfl)), ?_⟩
        show wpAnyH _ _ _ _ _ _ #[true, true, true, true, true, true, true, true, true, true, true, true, true, true, false, false, false, false, false] _ _
        refine wpAnyH_all (rs := [14]) (by kernel_rfl) (by simp) (allCons ?_ allNil)
        refine oneU hE hR (.op []) [(8, .pointer (some ⟨H4 + 1, 0, none⟩))] [⟨H4 + 1, 0, kc2, 63, true⟩, ⟨H4, 0, kc10, 116, true⟩, ⟨H0 + 1, 0, kc2, 63, true⟩, ⟨H0, 0, kc3, 60, true⟩] (H4 + 2) [] (by kernel_rfl) (by kernel_rfl) trivial ?_
        clear hE hR; intro a u hE hR
        refine ⟨(hR.ss [2, 3] (by kernel_rfl)), ?_⟩
        show wpAnyH _ _ _ _ _ _ #[true, true, true, true, true, true, true, true, true, true, true, true, true, true, true, false, false, false, false] _ _
        refine wpAnyH_all (rs := [15]) (by kernel_rfl) (by simp) (allCons ?_ allNil)
        let kc11 : List Value := [.int .i64 d.y.o.kind, .int .i64 d.y.o.cap, .int .i64 d.y.o.width, .int .i64 d.y.o.retry, .int .i64 d.y.o.src, .int .i64 d.y.o.dst, .int .u32 d.y.o.i0, .int .u32 d.y.o.i1, .int .u32 d.y.o.i2, .int .u32 d.y.o.i3, .slice A2 d.y.row.length c2, .int .u32 d.y.v.a, .int .u32 d.y.v.b, .int .u32 d.y.v.c, .int .u32 d.y.v.d]
        refine oneU hE hR (.op (hks 1 0 15)) [] [⟨H4 + 1, 0, kc2, 63, true⟩, ⟨H4, 0, kc11, 116, true⟩, ⟨H0 + 1, 0, kc2, 63, true⟩, ⟨H0, 0, kc3, 60, true⟩] (H4 + 2) [] (by kernel_rfl) (by kernel_rfl) trivial ?_
        clear hE hR; intro a u hE hR
        refine ⟨(hR.ss [2, 3] (by kernel_rfl)), ?_⟩
        show wpAnyH _ _ _ _ _ _ #[true, true, true, true, true, true, true, true, true, true, true, true, true, true, true, true, false, false, false] _ _
        refine wpAnyH_all (rs := [16]) (by kernel_rfl) (by simp) (allCons ?_ allNil)
        refine one hE hR (.op (hks 0 0 5)) [(0, .slice (some ⟨g, off, none⟩) L.length c), (3, .pointer (some ⟨H0, 0, none⟩)), (4, .slice none 0 0), (5, .pointer (some ⟨H0 + 1, 0, none⟩)), (6, .int .i64 K), (30, kv4), (54, .bool (d.ch)), (55, .bool (d.is)), (7, .pointer (some ⟨H4, 0, none⟩)), (8, .pointer (some ⟨H4 + 1, 0, none⟩))] [⟨H4 + 1, 0, kc6, 63, true⟩, ⟨H4, 0, kc11, 116, true⟩, ⟨H0 + 1, 0, kc2, 63, true⟩, ⟨H0, 0, kc3, 60, true⟩] (H4 + 2) [] (by kernel_rfl) (by kernel_rfl) trivial ?_
        clear hE hR; intro a u hE hR
        refine ⟨(hR.ss [2, 3] (by kernel_rfl)), ?_⟩
        show wpAnyH _ _ _ _ _ _ #[true, true, true, true, true, true, true, true, true, true, true, true, true, true, true, true, true, false, false] _ _
        refine takesU (by kernel_rfl) (pqT pqF) hE (hR.ss [2, 3] (by kernel_rfl)) [(17, .op []), (18, .op [])] 0 [(9, .bool (d.ch))] #[true, true, true, true, true, true, true, true, true, true, true, true, true, true, true, true, true, true, true] [] (by kernel_rfl) (by kernel_rfl) (by kernel_rfl) trivial ?_
        clear hE; intro a hE
        refine wpAnyH_done (by kernel_rfl) ?_ _
        refine thenN ?_
        exact ⟨uD, HcD, A2, c2, H4, H4 + 1, hap2, hrow2, hE.sub (by kernel_rfl), _, (hR.pick [1, 0, 2, 3] (by decide) (by kernel_rfl))⟩
      · show wpOp _ _ _ _ _ _ _
        refine oneU hE hR (.op []) [(8, .pointer (some ⟨H4, 0, none⟩))] [⟨H4, 0, kc2, 63, true⟩, ⟨H0 + 1, 0, kc2, 63, true⟩, ⟨H0, 0, kc3, 60, true⟩] (H4 + 1) [] (by kernel_rfl) (by kernel_rfl) trivial ?_
        clear hE hR; intro a u hE hR
        refine ⟨(hR.ss [1, 2] (by kernel_rfl)), ?_⟩
        show wpAnyH _ _ _ _ _ _ #[true, true, true, true, true, true, true, true, true, true, true, true, true, false, true, false, false, false, false] _ _
        refine wpAnyH_all (rs := [13]) (by kernel_rfl) (by simp) (allCons ?_ allNil)
        let kc12 : List Value := [.int .i64 0, .int .i64 0, .int .i64 0, .int .i64 0, .int .i64 0, .int .i64 0, .int .u32 0, .int .u32 0, .int .u32 0, .int .u32 0, .slice none 0 0, .int .u32 0, .int .u32 0, .int .u32 0, .int .u32 0]
        refine oneU hE hR (.op []) [(7, .pointer (some ⟨H4 + 1, 0, none⟩))] [⟨H4 + 1, 0, kc12, 116, true⟩, ⟨H4, 0, kc2, 63, true⟩, ⟨H0 + 1, 0, kc2, 63, true⟩, ⟨H0, 0, kc3, 60, true⟩] (H4 + 2) [] (by kernel_rfl) (by kernel_rfl) trivial ?_
        clear hE hR; intro a u hE hR
        refine ⟨(hR.ss [2, 3] (by kernel_rfl)), ?_⟩
        show wpAnyH _ _ _ _ _ _ #[true, true, true, true, true, true, true, true, true, true, true, true, true, true, true, false, false, false, false] _ _
        refine wpAnyH_all (rs := [15]) (by kernel_rfl) (by simp) (allCons ?_ allNil)
        let kc13 : List Value := [.int .i64 d.y.o.kind, .int .i64 d.y.o.cap, .int .i64 d.y.o.width, .int .i64 d.y.o.retry, .int .i64 d.y.o.src, .int .i64 d.y.o.dst, .int .u32 d.y.o.i0, .int .u32 d.y.o.i1, .int .u32 d.y.o.i2, .int .u32 d.y.o.i3, .slice A2 d.y.row.length c2, .int .u32 d.y.v.a, .int .u32 d.y.v.b, .int .u32 d.y.v.c, .int .u32 d.y.v.d]
        refine oneU hE hR (.op (hks 0 0 15)) [] [⟨H4 + 1, 0, kc13, 116, true⟩, ⟨H4, 0, kc2, 63, true⟩, ⟨H0 + 1, 0, kc2, 63, true⟩, ⟨H0, 0, kc3, 60, true⟩] (H4 + 2) [] (by kernel_rfl) (by kernel_rfl) trivial ?_
        clear hE hR; intro a u hE hR
        refine ⟨(hR.ss [2, 3] (by kernel_rfl)), ?_⟩
        show wpAnyH _ _ _ _ _ _ #[true, true, true, true, true, true, true, true, true, true, true, true, true, true, true, true, false, false, false] _ _
        refine wpAnyH_all (rs := [16]) (by kernel_rfl) (by simp) (allCons ?_ allNil)
        refine oneU hE hR (.op (hks 1 0 5)) [] [⟨H4 + 1, 0, kc13, 116, true⟩, ⟨H4, 0, kc6, 63, true⟩, ⟨H0 + 1, 0, kc2, 63, true⟩, ⟨H0, 0, kc3, 60, true⟩] (H4 + 2) [] (by kernel_rfl) (by kernel_rfl) trivial ?_
        clear hE hR; intro a u hE hR
        refine ⟨(hR.ss [2, 3] (by kernel_rfl)), ?_⟩
        show wpAnyH _ _ _ _ _ _ #[true, true, true, true, true, true, true, true, true, true, true, true, true, true, true, true, true, false, false] _ _
        refine takesU (by kernel_rfl) (pqT pqF) hE (hR.ss [2, 3] (by kernel_rfl)) [(17, .op []), (18, .op [])] 0 [(9, .bool (d.ch))] #[true, true, true, true, true, true, true, true, true, true, true, true, true, true, true, true, true, true, true] [] (by kernel_rfl) (by kernel_rfl) (by kernel_rfl) trivial ?_
        clear hE; intro a hE
        refine wpAnyH_done (by kernel_rfl) ?_ _
        refine thenN ?_
        exact ⟨uD, HcD, A2, c2, H4 + 1, H4, hap2, hrow2, hE.sub (by kernel_rfl), _, hR⟩
    · show wpOp _ _ _ _ _ _ _
      let kc14 : List Value := [.int .i64 0, .int .i64 0, .int .i64 0, .int .i64 0, .int .i64 0, .int .i64 0, .int .u32 0, .int .u32 0, .int .u32 0, .int .u32 0, .slice none 0 0, .int .u32 0, .int .u32 0, .int .u32 0, .int .u32 0]
      refine oneU hE hR (.op []) [(7, .pointer (some ⟨J1, 0, none⟩))] [⟨J1, 0, kc14, 116, true⟩, ⟨H0 + 1, 0, kc2, 63, true⟩, ⟨H0, 0, kc3, 60, true⟩] (J1 + 1) [] (by kernel_rfl) (by kernel_rfl) trivial ?_
      clear hE hR; intro a u hE hR
      refine ⟨(hR.ss [1, 2] (by kernel_rfl)), ?_⟩
      show wpAnyH _ _ _ _ _ _ #[true, true, true, true, true, true, true, false, false, false, false, false, false, true, false, false, false, false, false] _ _
      refine wpAnyH_all (rs := [7, 14]) (by kernel_rfl) (by simp) (allCons ?_ (allCons ?_ allNil))
      · show wpOp _ _ _ _ _ _ _
        refine call hE hR [] 50 #[kv7, .int .i64 K, kv1] (some 51) [] (by kernel_rfl) (by kernel_rfl) trivial (HD _ (hrow.below (hR.below (by simp)))) (by rintro _ _ ⟨_, _, h, _⟩; cases h) (by rintro _ ⟨_, _, h, _⟩; cases h) ?_
        clear hE
        rintro v uD ⟨A2, c2, hv, hap2, hrow2, hb⟩ a hE
        cases hv
        obtain ⟨HcD, hHcD, H5, hH5, hR⟩ := hR.callF hb (w0 := w) (by simp)
        rw [← hHcD] at hap2
        refine ⟨(hR.ss [1, 2] (by kernel_rfl)), ?_⟩
        show wpAnyH _ _ _ _ _ _ #[true, true, true, true, true, true, true, true, false, false, false, false, false, true, false, false, false, false, false] _ _
        let kv15 : Value := .agg #[.int .i64 d.y.o.kind, .int .i64 d.y.o.cap, .int .i64 d.y.o.width, .int .i64 d.y.o.retry, .int .i64 d.y.o.src, .int .i64 d.y.o.dst, .int .u32 d.y.o.i0, .int .u32 d.y.o.i1, .int .u32 d.y.o.i2, .int .u32 d.y.o.i3, .slice A2 d.y.row.length c2, .int .u32 d.y.v.a, .int .u32 d.y.v.b, .int .u32 d.y.v.c, .int .u32 d.y.v.d]
        let kv16 : Value := .agg #[.int .i64 d.f, .int .u32 d.r.a, .int .u32 d.r.b, .int .u32 d.r.c, .int .u32 d.r.d]
        refine takes (by kernel_rfl) (pqT pqF) hE (hR.ss [1, 2] (by kernel_rfl)) [(8, .op []), (9, .op []), (10, .op []), (11, .op []), (12, .op [])] 5 [(0, .slice (some ⟨g, off, none⟩) L.length c), (3, .pointer (some ⟨H0, 0, none⟩)), (4, .slice none 0 0), (5, .pointer (some ⟨H0 + 1, 0, none⟩)), (6, .int .i64 K), (30, kv4), (7, .pointer (some ⟨J1, 0, none⟩)), (52, kv15), (53, kv16), (54, .bool (d.ch)), (55, .bool (d.is))] #[true, true, true, true, true, true, true, true, true, true, true, true, true, true, false, false, false, false, false] [] (by kernel_rfl) (by kernel_rfl) (by kernel_rfl) trivial ?_
        clear hE; intro a hE
        refine wpAnyH_all (rs := [14]) (by kernel_rfl) (by simp) (allCons ?_ allNil)
        refine oneU hE hR (.op []) [(8, .pointer (some ⟨H5, 0, none⟩))] [⟨H5, 0, kc2, 63, true⟩, ⟨J1, 0, kc14, 116, true⟩, ⟨H0 + 1, 0, kc2, 63, true⟩, ⟨H0, 0, kc3, 60, true⟩] (H5 + 1) [] (by kernel_rfl) (by kernel_rfl) trivial ?_
        clear hE hR; intro a u hE hR
        refine ⟨(hR.ss [2, 3] (by kernel_rfl)), ?_⟩
        show wpAnyH _ _ _ _ _ _ #[true, true, true, true, true, true, true, true, true, true, true, true, true, true, true, false, false, false, false] _ _
        refine wpAnyH_all (rs := [15]) (by kernel_rfl) (by simp) (allCons ?_ allNil)
        let kc17 : List Value := [.int .i64 d.y.o.kind, .int .i64 d.y.o.cap, .int .i64 d.y.o.width, .int .i64 d.y.o.retry, .int .i64 d.y.o.src, .int .i64 d.y.o.dst, .int .u32 d.y.o.i0, .int .u32 d.y.o.i1, .int .u32 d.y.o.i2, .int .u32 d.y.o.i3, .slice A2 d.y.row.length c2, .int .u32 d.y.v.a, .int .u32 d.y.v.b, .int .u32 d.y.v.c, .int .u32 d.y.v.d]
        refine oneU hE hR (.op (hks 1 0 15)) [] [⟨H5, 0, kc2, 63, true⟩, ⟨J1, 0, kc17, 116, true⟩, ⟨H0 + 1, 0, kc2, 63, true⟩, ⟨H0, 0, kc3, 60, true⟩] (H5 + 1) [] (by kernel_rfl) (by kernel_rfl) trivial ?_
        clear hE hR; intro a u hE hR
        refine ⟨(hR.ss [2, 3] (by kernel_rfl)), ?_⟩
        show wpAnyH _ _ _ _ _ _ #[true, true, true, true, true, true, true, true, true, true, true, true, true, true, true, true, false, false, false] _ _
        refine wpAnyH_all (rs := [16]) (by kernel_rfl) (by simp) (allCons ?_ allNil)
        refine oneU hE hR (.op (hks 0 0 5)) [] [⟨H5, 0, kc6, 63, true⟩, ⟨J1, 0, kc17, 116, true⟩, ⟨H0 + 1, 0, kc2, 63, true⟩, ⟨H0, 0, kc3, 60, true⟩] (H5 + 1) [] (by kernel_rfl) (by kernel_rfl) trivial ?_
        clear hE hR; intro a u hE hR
        refine ⟨(hR.ss [2, 3] (by kernel_rfl)), ?_⟩
        show wpAnyH _ _ _ _ _ _ #[true, true, true, true, true, true, true, true, true, true, true, true, true, true, true, true, true, false, false] _ _
        refine takesU (by kernel_rfl) (pqT pqF) hE (hR.ss [2, 3] (by kernel_rfl)) [(17, .op []), (18, .op [])] 0 [(9, .bool (d.ch))] #[true, true, true, true, true, true, true, true, true, true, true, true, true, true, true, true, true, true, true] [] (by kernel_rfl) (by kernel_rfl) (by kernel_rfl) trivial ?_
        clear hE; intro a hE
        refine wpAnyH_done (by kernel_rfl) ?_ _
        refine thenN ?_
        exact ⟨uD, HcD, A2, c2, J1, H5, hap2, hrow2, hE.sub (by kernel_rfl), _, (hR.pick [1, 0, 2, 3] (by decide) (by kernel_rfl))⟩
      · show wpOp _ _ _ _ _ _ _
        refine oneU hE hR (.op []) [(8, .pointer (some ⟨J1 + 1, 0, none⟩))] [⟨J1 + 1, 0, kc2, 63, true⟩, ⟨J1, 0, kc14, 116, true⟩, ⟨H0 + 1, 0, kc2, 63, true⟩, ⟨H0, 0, kc3, 60, true⟩] (J1 + 2) [] (by kernel_rfl) (by kernel_rfl) trivial ?_
        clear hE hR; intro a u hE hR
        refine ⟨(hR.ss [2, 3] (by kernel_rfl)), ?_⟩
        show wpAnyH _ _ _ _ _ _ #[true, true, true, true, true, true, true, false, false, false, false, false, false, true, true, false, false, false, false] _ _
        refine wpAnyH_all (rs := [7]) (by kernel_rfl) (by simp) (allCons ?_ allNil)
        refine call hE hR [] 50 #[kv7, .int .i64 K, kv1] (some 51) [] (by kernel_rfl) (by kernel_rfl) trivial (HD _ (hrow.below (hR.below (by simp)))) (by rintro _ _ ⟨_, _, h, _⟩; cases h) (by rintro _ ⟨_, _, h, _⟩; cases h) ?_
        clear hE
        rintro v uD ⟨A2, c2, hv, hap2, hrow2, hb⟩ a hE
        cases hv
        obtain ⟨HcD, hHcD, H6, hH6, hR⟩ := hR.callF hb (w0 := w) (by simp)
        rw [← hHcD] at hap2
        refine ⟨(hR.ss [2, 3] (by kernel_rfl)), ?_⟩
        show wpAnyH _ _ _ _ _ _ #[true, true, true, true, true, true, true, true, false, false, false, false, false, true, true, false, false, false, false] _ _
        let kv18 : Value := .agg #[.int .i64 d.y.o.kind, .int .i64 d.y.o.cap, .int .i64 d.y.o.width, .int .i64 d.y.o.retry, .int .i64 d.y.o.src, .int .i64 d.y.o.dst, .int .u32 d.y.o.i0, .int .u32 d.y.o.i1, .int .u32 d.y.o.i2, .int .u32 d.y.o.i3, .slice A2 d.y.row.length c2, .int .u32 d.y.v.a, .int .u32 d.y.v.b, .int .u32 d.y.v.c, .int .u32 d.y.v.d]
        let kv19 : Value := .agg #[.int .i64 d.f, .int .u32 d.r.a, .int .u32 d.r.b, .int .u32 d.r.c, .int .u32 d.r.d]
        refine takesU (by kernel_rfl) (pqT pqF) hE (hR.ss [2, 3] (by kernel_rfl)) [(8, .op []), (9, .op []), (10, .op []), (11, .op []), (12, .op [])] 4 [(52, kv18), (53, kv19), (54, .bool (d.ch)), (55, .bool (d.is))] #[true, true, true, true, true, true, true, true, true, true, true, true, true, true, true, false, false, false, false] [] (by kernel_rfl) (by kernel_rfl) (by kernel_rfl) trivial ?_
        clear hE; intro a hE
        refine wpAnyH_all (rs := [15]) (by kernel_rfl) (by simp) (allCons ?_ allNil)
        let kc20 : List Value := [.int .i64 d.y.o.kind, .int .i64 d.y.o.cap, .int .i64 d.y.o.width, .int .i64 d.y.o.retry, .int .i64 d.y.o.src, .int .i64 d.y.o.dst, .int .u32 d.y.o.i0, .int .u32 d.y.o.i1, .int .u32 d.y.o.i2, .int .u32 d.y.o.i3, .slice A2 d.y.row.length c2, .int .u32 d.y.v.a, .int .u32 d.y.v.b, .int .u32 d.y.v.c, .int .u32 d.y.v.d]
        refine oneU hE hR (.op (hks 1 0 15)) [] [⟨J1 + 1, 0, kc2, 63, true⟩, ⟨J1, 0, kc20, 116, true⟩, ⟨H0 + 1, 0, kc2, 63, true⟩, ⟨H0, 0, kc3, 60, true⟩] (H6) [] (by kernel_rfl) (by kernel_rfl) trivial ?_
        clear hE hR; intro a u hE hR
        refine ⟨(hR.ss [2, 3] (by kernel_rfl)), ?_⟩
        show wpAnyH _ _ _ _ _ _ #[true, true, true, true, true, true, true, true, true, true, true, true, true, true, true, true, false, false, false] _ _
        refine wpAnyH_all (rs := [16]) (by kernel_rfl) (by simp) (allCons ?_ allNil)
        refine one hE hR (.op (hks 0 0 5)) [(0, .slice (some ⟨g, off, none⟩) L.length c), (3, .pointer (some ⟨H0, 0, none⟩)), (4, .slice none 0 0), (5, .pointer (some ⟨H0 + 1, 0, none⟩)), (6, .int .i64 K), (30, kv4), (7, .pointer (some ⟨J1, 0, none⟩)), (8, .pointer (some ⟨J1 + 1, 0, none⟩)), (54, .bool (d.ch)), (55, .bool (d.is))] [⟨J1 + 1, 0, kc6, 63, true⟩, ⟨J1, 0, kc20, 116, true⟩, ⟨H0 + 1, 0, kc2, 63, true⟩, ⟨H0, 0, kc3, 60, true⟩] (H6) [] (by kernel_rfl) (by kernel_rfl) trivial ?_
        clear hE hR; intro a u hE hR
        refine ⟨(hR.ss [2, 3] (by kernel_rfl)), ?_⟩
        show wpAnyH _ _ _ _ _ _ #[true, true, true, true, true, true, true, true, true, true, true, true, true, true, true, true, true, false, false] _ _
        refine takesU (by kernel_rfl) (pqT pqF) hE (hR.ss [2, 3] (by kernel_rfl)) [(17, .op []), (18, .op [])] 0 [(9, .bool (d.ch))] #[true, true, true, true, true, true, true, true, true, true, true, true, true, true, true, true, true, true, true] [] (by kernel_rfl) (by kernel_rfl) (by kernel_rfl) trivial ?_
        clear hE; intro a hE
        refine wpAnyH_done (by kernel_rfl) ?_ _
        refine thenN ?_
        exact ⟨uD, HcD, A2, c2, J1, J1 + 1, hap2, hrow2, hE.sub (by kernel_rfl), _, (hR.pick [1, 0, 2, 3] (by decide) (by kernel_rfl))⟩
    · show wpOp _ _ _ _ _ _ _
      refine oneU hE hR (.op []) [(8, .pointer (some ⟨J1, 0, none⟩))] [⟨J1, 0, kc2, 63, true⟩, ⟨H0 + 1, 0, kc2, 63, true⟩, ⟨H0, 0, kc3, 60, true⟩] (J1 + 1) [] (by kernel_rfl) (by kernel_rfl) trivial ?_
      clear hE hR; intro a u hE hR
      refine ⟨(hR.ss [1, 2] (by kernel_rfl)), ?_⟩
      show wpAnyH _ _ _ _ _ _ #[true, true, true, true, true, true, true, false, false, false, false, false, false, false, true, false, false, false, false] _ _
      refine wpAnyH_all (rs := [7, 13]) (by kernel_rfl) (by simp) (allCons ?_ (allCons ?_ allNil))
      · show wpOp _ _ _ _ _ _ _
        refine call hE hR [] 50 #[kv7, .int .i64 K, kv1] (some 51) [] (by kernel_rfl) (by kernel_rfl) trivial (HD _ (hrow.below (hR.below (by simp)))) (by rintro _ _ ⟨_, _, h, _⟩; cases h) (by rintro _ ⟨_, _, h, _⟩; cases h) ?_
        clear hE
        rintro v uD ⟨A2, c2, hv, hap2, hrow2, hb⟩ a hE
        cases hv
        obtain ⟨HcD, hHcD, H7, hH7, hR⟩ := hR.callF hb (w0 := w) (by simp)
        rw [← hHcD] at hap2
        refine ⟨(hR.ss [1, 2] (by kernel_rfl)), ?_⟩
        show wpAnyH _ _ _ _ _ _ #[true, true, true, true, true, true, true, true, false, false, false, false, false, false, true, false, false, false, false] _ _
        let kv21 : Value := .agg #[.int .i64 d.y.o.kind, .int .i64 d.y.o.cap, .int .i64 d.y.o.width, .int .i64 d.y.o.retry, .int .i64 d.y.o.src, .int .i64 d.y.o.dst, .int .u32 d.y.o.i0, .int .u32 d.y.o.i1, .int .u32 d.y.o.i2, .int .u32 d.y.o.i3, .slice A2 d.y.row.length c2, .int .u32 d.y.v.a, .int .u32 d.y.v.b, .int .u32 d.y.v.c, .int .u32 d.y.v.d]
        let kv22 : Value := .agg #[.int .i64 d.f, .int .u32 d.r.a, .int .u32 d.r.b, .int .u32 d.r.c, .int .u32 d.r.d]
        refine takesU (by kernel_rfl) (pqT pqF) hE (hR.ss [1, 2] (by kernel_rfl)) [(8, .op []), (9, .op []), (10, .op []), (11, .op []), (12, .op [])] 5 [(52, kv21), (53, kv22), (54, .bool (d.ch)), (55, .bool (d.is))] #[true, true, true, true, true, true, true, true, true, true, true, true, true, false, true, false, false, false, false] [] (by kernel_rfl) (by kernel_rfl) (by kernel_rfl) trivial ?_
        clear hE; intro a hE
        refine wpAnyH_all (rs := [13]) (by kernel_rfl) (by simp) (allCons ?_ allNil)
        let kc23 : List Value := [.int .i64 0, .int .i64 0, .int .i64 0, .int .i64 0, .int .i64 0, .int .i64 0, .int .u32 0, .int .u32 0, .int .u32 0, .int .u32 0, .slice none 0 0, .int .u32 0, .int .u32 0, .int .u32 0, .int .u32 0]
        refine oneU hE hR (.op []) [(7, .pointer (some ⟨H7, 0, none⟩))] [⟨H7, 0, kc23, 116, true⟩, ⟨J1, 0, kc2, 63, true⟩, ⟨H0 + 1, 0, kc2, 63, true⟩, ⟨H0, 0, kc3, 60, true⟩] (H7 + 1) [] (by kernel_rfl) (by kernel_rfl) trivial ?_
        clear hE hR; intro a u hE hR
        refine ⟨(hR.ss [2, 3] (by kernel_rfl)), ?_⟩
        show wpAnyH _ _ _ _ _ _ #[true, true, true, true, true, true, true, true, true, true, true, true, true, true, true, false, false, false, false] _ _
        refine wpAnyH_all (rs := [15]) (by kernel_rfl) (by simp) (allCons ?_ allNil)
        let kc24 : List Value := [.int .i64 d.y.o.kind, .int .i64 d.y.o.cap, .int .i64 d.y.o.width, .int .i64 d.y.o.retry, .int .i64 d.y.o.src, .int .i64 d.y.o.dst, .int .u32 d.y.o.i0, .int .u32 d.y.o.i1, .int .u32 d.y.o.i2, .int .u32 d.y.o.i3, .slice A2 d.y.row.length c2, .int .u32 d.y.v.a, .int .u32 d.y.v.b, .int .u32 d.y.v.c, .int .u32 d.y.v.d]
        refine oneU hE hR (.op (hks 0 0 15)) [] [⟨H7, 0, kc24, 116, true⟩, ⟨J1, 0, kc2, 63, true⟩, ⟨H0 + 1, 0, kc2, 63, true⟩, ⟨H0, 0, kc3, 60, true⟩] (H7 + 1) [] (by kernel_rfl) (by kernel_rfl) trivial ?_
        clear hE hR; intro a u hE hR
        refine ⟨(hR.ss [2, 3] (by kernel_rfl)), ?_⟩
        show wpAnyH _ _ _ _ _ _ #[true, true, true, true, true, true, true, true, true, true, true, true, true, true, true, true, false, false, false] _ _
        refine wpAnyH_all (rs := [16]) (by kernel_rfl) (by simp) (allCons ?_ allNil)
        refine oneU hE hR (.op (hks 1 0 5)) [] [⟨H7, 0, kc24, 116, true⟩, ⟨J1, 0, kc6, 63, true⟩, ⟨H0 + 1, 0, kc2, 63, true⟩, ⟨H0, 0, kc3, 60, true⟩] (H7 + 1) [] (by kernel_rfl) (by kernel_rfl) trivial ?_
        clear hE hR; intro a u hE hR
        refine ⟨(hR.ss [2, 3] (by kernel_rfl)), ?_⟩
        show wpAnyH _ _ _ _ _ _ #[true, true, true, true, true, true, true, true, true, true, true, true, true, true, true, true, true, false, false] _ _
        refine takesU (by kernel_rfl) (pqT pqF) hE (hR.ss [2, 3] (by kernel_rfl)) [(17, .op []), (18, .op [])] 0 [(9, .bool (d.ch))] #[true, true, true, true, true, true, true, true, true, true, true, true, true, true, true, true, true, true, true] [] (by kernel_rfl) (by kernel_rfl) (by kernel_rfl) trivial ?_
        clear hE; intro a hE
        refine wpAnyH_done (by kernel_rfl) ?_ _
        refine thenN ?_
        exact ⟨uD, HcD, A2, c2, H7, J1, hap2, hrow2, hE.sub (by kernel_rfl), _, hR⟩
      · show wpOp _ _ _ _ _ _ _
        let kc25 : List Value := [.int .i64 0, .int .i64 0, .int .i64 0, .int .i64 0, .int .i64 0, .int .i64 0, .int .u32 0, .int .u32 0, .int .u32 0, .int .u32 0, .slice none 0 0, .int .u32 0, .int .u32 0, .int .u32 0, .int .u32 0]
        refine one hE hR (.op []) [(0, .slice (some ⟨g, off, none⟩) L.length c), (3, .pointer (some ⟨H0, 0, none⟩)), (4, .slice none 0 0), (5, .pointer (some ⟨H0 + 1, 0, none⟩)), (6, .int .i64 K), (30, kv4), (48, kv7), (49, .int .i64 K), (50, kv1), (8, .pointer (some ⟨J1, 0, none⟩)), (7, .pointer (some ⟨J1 + 1, 0, none⟩))] [⟨J1 + 1, 0, kc25, 116, true⟩, ⟨J1, 0, kc2, 63, true⟩, ⟨H0 + 1, 0, kc2, 63, true⟩, ⟨H0, 0, kc3, 60, true⟩] (J1 + 2) [] (by kernel_rfl) (by kernel_rfl) trivial ?_
        clear hE hR; intro a u hE hR
        refine ⟨(hR.ss [2, 3] (by kernel_rfl)), ?_⟩
        show wpAnyH _ _ _ _ _ _ #[true, true, true, true, true, true, true, false, false, false, false, false, false, true, true, false, false, false, false] _ _
        refine wpAnyH_all (rs := [7]) (by kernel_rfl) (by simp) (allCons ?_ allNil)
        refine call hE hR [] 50 #[kv7, .int .i64 K, kv1] (some 51) [] (by kernel_rfl) (by kernel_rfl) trivial (HD _ (hrow.below (hR.below (by simp)))) (by rintro _ _ ⟨_, _, h, _⟩; cases h) (by rintro _ ⟨_, _, h, _⟩; cases h) ?_
        clear hE
        rintro v uD ⟨A2, c2, hv, hap2, hrow2, hb⟩ a hE
        cases hv
        obtain ⟨HcD, hHcD, H8, hH8, hR⟩ := hR.callF hb (w0 := w) (by simp)
        rw [← hHcD] at hap2
        refine ⟨(hR.ss [2, 3] (by kernel_rfl)), ?_⟩
        show wpAnyH _ _ _ _ _ _ #[true, true, true, true, true, true, true, true, false, false, false, false, false, true, true, false, false, false, false] _ _
        let kv26 : Value := .agg #[.int .i64 d.y.o.kind, .int .i64 d.y.o.cap, .int .i64 d.y.o.width, .int .i64 d.y.o.retry, .int .i64 d.y.o.src, .int .i64 d.y.o.dst, .int .u32 d.y.o.i0, .int .u32 d.y.o.i1, .int .u32 d.y.o.i2, .int .u32 d.y.o.i3, .slice A2 d.y.row.length c2, .int .u32 d.y.v.a, .int .u32 d.y.v.b, .int .u32 d.y.v.c, .int .u32 d.y.v.d]
        let kv27 : Value := .agg #[.int .i64 d.f, .int .u32 d.r.a, .int .u32 d.r.b, .int .u32 d.r.c, .int .u32 d.r.d]
        refine takesU (by kernel_rfl) (pqT pqF) hE (hR.ss [2, 3] (by kernel_rfl)) [(8, .op []), (9, .op []), (10, .op []), (11, .op []), (12, .op [])] 4 [(52, kv26), (53, kv27), (54, .bool (d.ch)), (55, .bool (d.is))] #[true, true, true, true, true, true, true, true, true, true, true, true, true, true, true, false, false, false, false] [] (by kernel_rfl) (by kernel_rfl) (by kernel_rfl) trivial ?_
        clear hE; intro a hE
        refine wpAnyH_all (rs := [15]) (by kernel_rfl) (by simp) (allCons ?_ allNil)
        let kc28 : List Value := [.int .i64 d.y.o.kind, .int .i64 d.y.o.cap, .int .i64 d.y.o.width, .int .i64 d.y.o.retry, .int .i64 d.y.o.src, .int .i64 d.y.o.dst, .int .u32 d.y.o.i0, .int .u32 d.y.o.i1, .int .u32 d.y.o.i2, .int .u32 d.y.o.i3, .slice A2 d.y.row.length c2, .int .u32 d.y.v.a, .int .u32 d.y.v.b, .int .u32 d.y.v.c, .int .u32 d.y.v.d]
        refine oneU hE hR (.op (hks 0 0 15)) [] [⟨J1 + 1, 0, kc28, 116, true⟩, ⟨J1, 0, kc2, 63, true⟩, ⟨H0 + 1, 0, kc2, 63, true⟩, ⟨H0, 0, kc3, 60, true⟩] (H8) [] (by kernel_rfl) (by kernel_rfl) trivial ?_
        clear hE hR; intro a u hE hR
        refine ⟨(hR.ss [2, 3] (by kernel_rfl)), ?_⟩
        show wpAnyH _ _ _ _ _ _ #[true, true, true, true, true, true, true, true, true, true, true, true, true, true, true, true, false, false, false] _ _
        refine wpAnyH_all (rs := [16]) (by kernel_rfl) (by simp) (allCons ?_ allNil)
        refine oneU hE hR (.op (hks 1 0 5)) [] [⟨J1 + 1, 0, kc28, 116, true⟩, ⟨J1, 0, kc6, 63, true⟩, ⟨H0 + 1, 0, kc2, 63, true⟩, ⟨H0, 0, kc3, 60, true⟩] (H8) [] (by kernel_rfl) (by kernel_rfl) trivial ?_
        clear hE hR; intro a u hE hR
        refine ⟨(hR.ss [2, 3] (by kernel_rfl)), ?_⟩
        show wpAnyH _ _ _ _ _ _ #[true, true, true, true, true, true, true, true, true, true, true, true, true, true, true, true, true, false, false] _ _
        refine takesU (by kernel_rfl) (pqT pqF) hE (hR.ss [2, 3] (by kernel_rfl)) [(17, .op []), (18, .op [])] 0 [(9, .bool (d.ch))] #[true, true, true, true, true, true, true, true, true, true, true, true, true, true, true, true, true, true, true] [] (by kernel_rfl) (by kernel_rfl) (by kernel_rfl) trivial ?_
        clear hE; intro a hE
        refine wpAnyH_done (by kernel_rfl) ?_ _
        refine thenN ?_
        exact ⟨uD, HcD, A2, c2, J1 + 1, J1, hap2, hrow2, hE.sub (by kernel_rfl), _, hR⟩
  clear hE hR
  rintro a u ⟨y2a, y2b, y2c, y2d, n2a, n2b, hap2q2, hrow2q2, hE, J2, hR⟩
  refine wp_seq ?_; refine wp_seq ?_
  refine enterR (idx := [0, 1]) (by kernel_rfl) ?_
  refine segV hE hR [(0, .op []), (1, .op [])] [] [(57, .bool (!(d.ch)))] [] (by kernel_rfl) (by kernel_rfl) (by kernel_rfl) trivial ?_
  clear hE hR; intro a u hE hR
  refine opsNil ?_; refine thenN ?_
  refine condT hE (b := !(d.ch)) (by kernel_rfl) (by rw [hch]; rfl) ?_
  refine wp_seq ?_
  let kc29 : List Value := [.int .i64 d.y.o.kind, .int .i64 d.y.o.cap, .int .i64 d.y.o.width, .int .i64 d.y.o.retry, .int .i64 d.y.o.src, .int .i64 d.y.o.dst, .int .u32 d.y.o.i0, .int .u32 d.y.o.i1, .int .u32 d.y.o.i2, .int .u32 d.y.o.i3, .slice y2c d.y.row.length y2d, .int .u32 d.y.v.a, .int .u32 d.y.v.b, .int .u32 d.y.v.c, .int .u32 d.y.v.d]
  refine enterD (kl := [⟨n2a, 0, kc29, 116, true⟩, ⟨n2b, 0, kc6, 63, true⟩, ⟨H0, 0, kc3, 60, true⟩]) (by kernel_rfl) hR (F := 4) (listed := #[false, false, false, false]) (by kernel_rfl) (by kernel_rfl) ?_
  clear hR
  intro u hR
  let kv30 : Value := .agg #[.int .i64 d.f, .int .u32 d.r.a, .int .u32 d.r.b, .int .u32 d.r.c, .int .u32 d.r.d]
  refine takesU (by kernel_rfl) (pqT (pqT pqF)) hE (hR.ss [0, 1, 3] (by kernel_rfl)) [(0, .op []), (1, .op (hks 1 0 5)), (2, .op [])] 1 [(4, .slice (some ⟨g, off, none⟩) L.length c), (59, kv30)] #[true, true, true, false] [] (by kernel_rfl) (by kernel_rfl) (by kernel_rfl) trivial ?_
  clear hE; intro a hE
  refine wpAnyH_all (rs := [3]) (by kernel_rfl) (by simp) (allCons ?_ allNil)
  refine oneU hE hR (.op (hks 2 0 5)) [] [⟨n2a, 0, kc29, 116, true⟩, ⟨n2b, 0, kc6, 63, true⟩, ⟨H0 + 1, 0, kc6, 63, true⟩, ⟨H0, 0, kc3, 60, true⟩] (J2) [] (by kernel_rfl) (by kernel_rfl) trivial ?_
  clear hE hR; intro a u hE hR
  refine ⟨(hR.ss [0, 1, 3] (by kernel_rfl)), ?_⟩
  show wpAnyH _ _ _ _ _ _ #[true, true, true, true] _ _
  refine wpAnyH_done (by kernel_rfl) ?_ _
  refine thenN ?_; refine wp_ret ?_; refine thenR ?_
  refine retF hE hR (hks 2 0 5) (.tuple #[.slice (some ⟨g, off, none⟩) L.length c, .agg #[.int .i64 d.f, .int .u32 d.r.a, .int .u32 d.r.b, .int .u32 d.r.c, .int .u32 d.r.d]]) (by kernel_rfl) (by kernel_rfl) (by kernel_rfl) ?_
  exact ⟨rfl, hR.below (by simp)⟩
set_option maxRecDepth 100000 in
theorem do_changed (g off c : Nat) (L : List IV) (x : Itm) (rv : Value) (d : Dn) (ck : Int) (i : Nat) (cv : Vl) (cn : Int) (w : World) (hck : -9223372036854775808 ≤ ck ∧ ck ≤ 9223372036854775807) (hok : kindOk (plainP ck) = true) (hi : i < L.length) (hlen : L.length ≤ 8) (hx : w.rangeAt g (off + i * 15) (itC x rv)) (hrow : RowV w rv x.row) (HD : ∀ W, RowV W rv x.row → Calls Try.prog 50 #[itA x.o rv x.v, .int .i64 (plainP ck), callA ck (i : Int) cv cn] W (DoneS d rv x.row W)) (hch : d.ch = true) (hrg : w.rangeAt g off (L.flatMap itF)) (hrows : ∀ p ∈ L, RowV w p.2 p.1.row) :
    Calls Try.prog 25 #[.slice (some ⟨g, off, none⟩) L.length c, .agg #[.int .i64 ck, .int .i64 ((i : Nat) : Int), .int .u32 cv.a, .int .u32 cv.b, .int .u32 cv.c, .int .u32 cv.d, .int .u32 cn]] w fun e W' => ∃ g2 rv2, e = .returned (.tuple #[.slice (some ⟨g2, 0, none⟩) L.length L.length, resA d.f d.r]) ∧ W'.rangeAt g2 0 ((L.set i (d.y, rv2)).flatMap itF) ∧ RowV W' rv2 d.y.row ∧ Below w.heap.size w W' := by
  obtain ⟨K, hK⟩ : ∃ K, K = plainP ck := ⟨_, rfl⟩
  have hpl := fun W => plainB_calls ck W hck
  rw [← hK] at hok hpl HD
  simp only [kindOk, decide_eq_true_eq] at hok
  rw [itC_eq] at hx
  let kv1 : Value := .agg #[.int .i64 ck, .int .i64 ((i : Nat) : Int), .int .u32 cv.a, .int .u32 cv.b, .int .u32 cv.c, .int .u32 cv.d, .int .u32 cn]
  refine enterF Try.func25 rfl Try.ntmps25 [(0, .slice (some ⟨g, off, none⟩) L.length c), (1, kv1)] (by kernel_rfl) (by kernel_rfl) ?_
  have hR := Rep.startR w g (off + i * 15) hx
  obtain ⟨H0, hH0⟩ : ∃ x, x = w.heap.size := ⟨_, rfl⟩
  rw [← hH0] at hR
  intro a hE
  refine wp_seq ?_
  refine enterR (idx := [0, 1, 2]) (by kernel_rfl) ?_
  let kc2 : List Value := [.int .i64 0, .int .u32 0, .int .u32 0, .int .u32 0, .int .u32 0]
  let kc3 : List Value := [.int .i64 ck, .int .i64 ((i : Nat) : Int), .int .u32 cv.a, .int .u32 cv.b, .int .u32 cv.c, .int .u32 cv.d, .int .u32 cn]
  refine segU hE hR [(0, .op []), (1, .op []), (2, .op [])] [] [(3, .pointer (some ⟨H0, 0, none⟩)), (4, .slice none 0 0), (5, .pointer (some ⟨H0 + 1, 0, none⟩))] [⟨H0 + 1, 0, kc2, 63, true⟩, ⟨H0, 0, kc3, 60, true⟩] (H0 + 2) [] (by kernel_rfl) (by kernel_rfl) (by kernel_rfl) trivial ?_
  clear hE hR; intro a u hE hR
  refine opsNil ?_; refine thenN ?_; refine wp_seq ?_
  refine enterR (idx := [0, 1, 2, 3]) (by kernel_rfl) ?_
  refine segV hE hR [(0, .op []), (1, .op [.k 1 0])] [2, 3] [(13, .int .i64 ck)] [] (by kernel_rfl) (by kernel_rfl) (by kernel_rfl) trivial ?_
  clear hE hR; intro a u hE hR
  refine opsCons ?_
  refine call hE hR [] 49 #[.int .i64 ck] (some 14) [] (by kernel_rfl) (by kernel_rfl) trivial (hpl _) (fun _ _ h => by cases h.1) (fun _ h => by cases h.1) ?_
  clear hE
  rintro v u ⟨hv, hb⟩ a hE
  cases hv
  obtain ⟨H1, hH1, hR⟩ := hR.callE hb
  refine segV hE hR [(3, .op [])] [] [(6, .int .i64 K)] [] (by kernel_rfl) (by kernel_rfl) (by kernel_rfl) trivial ?_
  clear hE hR; intro a u hE hR
  refine opsNil ?_; refine thenN ?_
  let kv4 : Value := .bool (decide (((i : Nat) : Int) ≥ ((L.length : Nat) : Int)))
  let kc5 : List Value := [.int .i64 x.o.kind, .int .i64 x.o.cap, .int .i64 x.o.width, .int .i64 x.o.retry, .int .i64 x.o.src, .int .i64 x.o.dst, .int .u32 x.o.i0, .int .u32 x.o.i1, .int .u32 x.o.i2, .int .u32 x.o.i3, rv, .int .u32 x.v.a, .int .u32 x.v.b, .int .u32 x.v.c, .int .u32 x.v.d]
  refine seqJ (fun a u => TE a 73 [(0, .slice (some ⟨g, off, none⟩) L.length c), (3, .pointer (some ⟨H0, 0, none⟩)), (4, .slice none 0 0), (5, .pointer (some ⟨H0 + 1, 0, none⟩)), (6, .int .i64 K), (30, kv4)] ∧ ∃ H, Rep [(w, fun _ => True)] u H [⟨H0 + 1, 0, kc2, 63, true⟩, ⟨H0, 0, kc3, 60, true⟩] [⟨g, off + i * 15, kc5⟩]) ?_ ?_
  · show Code.wp _ _ _ _ _
    refine wp_block ?_; refine wp_seq ?_; refine wp_seq ?_
    refine enterR (idx := [0, 1, 2]) (by kernel_rfl) ?_
    refine segV hE hR [(0, .op []), (1, .op []), (2, .op [])] [] [(15, .bool (decide ((K : Int) < 1)))] [] (by kernel_rfl) (by kernel_rfl) (by kernel_rfl) trivial ?_
    clear hE hR; intro a u hE hR
    refine opsNil ?_; refine thenN ?_
    refine condF hE (b := decide ((K : Int) < 1)) (by kernel_rfl) (decide_eq_false (by omega)) ?_
    rcases Bool.eq_false_or_eq_true (decide ((K : Int) > 9)) with hc2 | hc2
    · show Code.wp _ _ _ _ _
      have ehc2 := of_decide_eq_true hc2
      rcases Bool.eq_false_or_eq_true ((K : Int) != 16) with hc3 | hc3
      · show Code.wp _ _ _ _ _
        have ehc3 := bne_iff_ne.1 hc3
        refine enterR (idx := [0, 1, 2, 3, 4, 5, 6, 7, 8, 9, 10]) (by kernel_rfl) ?_
        refine segV hE hR [(0, .op []), (1, .op []), (2, .op []), (3, .op []), (4, .op []), (5, .as [] (.bool ((K : Int) != 16))), (6, .op []), (7, .op []), (8, .op []), (9, .as [] (.bool ((K : Int) != 17))), (10, .op [])] [] [(15, .bool ((K : Int) != 17))] [((if ((K : Int) != 16) = true then (.bool ((K : Int) != 17) : Value) else (.bool false : Value)) : Value) = (.bool ((K : Int) != 17) : Value), ((K : Int) != 16) = true, ((K : Int) != 16) = true, ((if (decide ((K : Int) > 9)) = true then (.bool ((K : Int) != 16) : Value) else (.bool false : Value)) : Value) = (.bool ((K : Int) != 16) : Value), (decide ((K : Int) > 9)) = true, (decide ((K : Int) > 9)) = true] (by kernel_rfl) (by kernel_rfl) (by kernel_rfl) ⟨if_pos (hc3), hc3, hc3, if_pos (hc2), hc2, hc2, trivial⟩ ?_
        clear hE hR; intro a u hE hR
        refine opsNil ?_; refine thenN ?_
        refine condF hE (b := (K : Int) != 17) (by kernel_rfl) (bne_eq_false_iff_eq.2 (by omega)) ?_
        refine wp_seq ?_
        refine enterR (idx := [0, 1, 2, 3, 4, 5, 6, 7, 8, 9, 10]) (by kernel_rfl) ?_
        refine segV hE hR [(0, .op []), (1, .op [.k 1 1]), (2, .op []), (3, .op []), (4, .op []), (5, .op [.k 1 1]), (6, .op []), (7, .op []), (8, .op []), (9, .as [] (.bool (decide (((i : Nat) : Int) ≥ ((L.length : Nat) : Int))))), (10, .op [])] [] [(30, kv4)] [((if (decide (((i : Nat) : Int) < 0)) = true then (.bool true : Value) else (.bool (decide (((i : Nat) : Int) ≥ ((L.length : Nat) : Int))) : Value)) : Value) = (.bool (decide (((i : Nat) : Int) ≥ ((L.length : Nat) : Int))) : Value), (decide (((i : Nat) : Int) < 0)) = false, (decide (((i : Nat) : Int) < 0)) = false, (decide (((i : Nat) : Int) < 0)) = false, (decide (((i : Nat) : Int) < 0)) = false, (decide (((i : Nat) : Int) < 0)) = false] (by kernel_rfl) (by kernel_rfl) (by kernel_rfl) ⟨if_neg (by rw [decide_eq_false (by omega)]; decide), decide_eq_false (by omega), decide_eq_false (by omega), decide_eq_false (by omega), decide_eq_false (by omega), decide_eq_false (by omega), trivial⟩ ?_
        clear hE hR; intro a u hE hR
        refine opsNil ?_; refine thenN ?_
        refine condF hE (b := decide (((i : Nat) : Int) ≥ ((L.length : Nat) : Int))) (by kernel_rfl) (decide_eq_false (by omega)) ?_
        refine wp_skip ?_; refine blkN ?_; refine thenN ?_
        exact ⟨hE.sub (by kernel_rfl), _, hR⟩
      · show Code.wp _ _ _ _ _
        have ehc3 := bne_eq_false_iff_eq.1 hc3
        refine enterR (idx := [0, 1, 2, 3, 4, 5, 6, 7, 8, 9, 10]) (by kernel_rfl) ?_
        refine segV hE hR [(0, .op []), (1, .op []), (2, .op []), (3, .op []), (4, .op []), (5, .as [] (.bool ((K : Int) != 16))), (6, .op []), (7, .skip), (8, .skip), (9, .as [] (.bool false)), (10, .op [])] [] [(15, .bool false)] [((if ((K : Int) != 16) = true then (.tuple #[] : Value) else (.bool false : Value)) : Value) = (.bool false : Value), ((K : Int) != 16) = !true, ((K : Int) != 16) = !true, ((if (decide ((K : Int) > 9)) = true then (.bool ((K : Int) != 16) : Value) else (.bool false : Value)) : Value) = (.bool ((K : Int) != 16) : Value), (decide ((K : Int) > 9)) = true, (decide ((K : Int) > 9)) = true] (by kernel_rfl) (by kernel_rfl) (by kernel_rfl) ⟨if_neg (by rw [hc3]; decide), hc3, hc3, if_pos (hc2), hc2, hc2, trivial⟩ ?_
        clear hE hR; intro a u hE hR
        refine opsNil ?_; refine thenN ?_
        refine condF hE (b := false) (by kernel_rfl) rfl ?_
        refine wp_seq ?_
        refine enterR (idx := [0, 1, 2, 3, 4, 5, 6, 7, 8, 9, 10]) (by kernel_rfl) ?_
        refine seg0 hE hR [(0, .op []), (1, .op [.k 1 1]), (2, .op []), (3, .op []), (4, .op []), (5, .op [.k 1 1]), (6, .op []), (7, .op []), (8, .op []), (9, .as [] (.bool (decide (((i : Nat) : Int) ≥ ((L.length : Nat) : Int))))), (10, .op [])] [] [(0, .slice (some ⟨g, off, none⟩) L.length c), (3, .pointer (some ⟨H0, 0, none⟩)), (4, .slice none 0 0), (5, .pointer (some ⟨H0 + 1, 0, none⟩)), (6, .int .i64 K), (15, .bool false), (30, kv4)] [((if (decide (((i : Nat) : Int) < 0)) = true then (.bool true : Value) else (.bool (decide (((i : Nat) : Int) ≥ ((L.length : Nat) : Int))) : Value)) : Value) = (.bool (decide (((i : Nat) : Int) ≥ ((L.length : Nat) : Int))) : Value), (decide (((i : Nat) : Int) < 0)) = false, (decide (((i : Nat) : Int) < 0)) = false, (decide (((i : Nat) : Int) < 0)) = false, (decide (((i : Nat) : Int) < 0)) = false, (decide (((i : Nat) : Int) < 0)) = false] (by kernel_rfl) (by kernel_rfl) (by kernel_rfl) ⟨if_neg (by rw [decide_eq_false (by omega)]; decide), decide_eq_false (by omega), decide_eq_false (by omega), decide_eq_false (by omega), decide_eq_false (by omega), decide_eq_false (by omega), trivial⟩ ?_
        clear hE hR; intro a u hE hR
        refine opsNil ?_; refine thenN ?_
        refine condF hE (b := decide (((i : Nat) : Int) ≥ ((L.length : Nat) : Int))) (by kernel_rfl) (decide_eq_false (by omega)) ?_
        refine wp_skip ?_; refine blkN ?_; refine thenN ?_
        exact ⟨hE.sub (by kernel_rfl), _, hR⟩
    · show Code.wp _ _ _ _ _
      have ehc2 := of_decide_eq_false hc2
      refine enterR (idx := [0, 1, 2, 3, 4, 5, 6, 7, 8, 9, 10]) (by kernel_rfl) ?_
      refine segV hE hR [(0, .op []), (1, .op []), (2, .op []), (3, .skip), (4, .skip), (5, .as [] (.bool false)), (6, .op []), (7, .skip), (8, .skip), (9, .op []), (10, .op [])] [] [(15, .bool false)] [false = !true, false = !true, ((if (decide ((K : Int) > 9)) = true then (.tuple #[] : Value) else (.bool false : Value)) : Value) = (.bool false : Value), (decide ((K : Int) > 9)) = !true, (decide ((K : Int) > 9)) = !true] (by kernel_rfl) (by kernel_rfl) (by kernel_rfl) ⟨rfl, rfl, if_neg (by rw [hc2]; decide), hc2, hc2, trivial⟩ ?_
      clear hE hR; intro a u hE hR
      refine opsNil ?_; refine thenN ?_
      refine condF hE (b := false) (by kernel_rfl) rfl ?_
      refine wp_seq ?_
      refine enterR (idx := [0, 1, 2, 3, 4, 5, 6, 7, 8, 9, 10]) (by kernel_rfl) ?_
      refine segV hE hR [(0, .op []), (1, .op [.k 1 1]), (2, .op []), (3, .op []), (4, .op []), (5, .op [.k 1 1]), (6, .op []), (7, .op []), (8, .op []), (9, .as [] (.bool (decide (((i : Nat) : Int) ≥ ((L.length : Nat) : Int))))), (10, .op [])] [] [(30, kv4)] [((if (decide (((i : Nat) : Int) < 0)) = true then (.bool true : Value) else (.bool (decide (((i : Nat) : Int) ≥ ((L.length : Nat) : Int))) : Value)) : Value) = (.bool (decide (((i : Nat) : Int) ≥ ((L.length : Nat) : Int))) : Value), (decide (((i : Nat) : Int) < 0)) = false, (decide (((i : Nat) : Int) < 0)) = false, (decide (((i : Nat) : Int) < 0)) = false, (decide (((i : Nat) : Int) < 0)) = false, (decide (((i : Nat) : Int) < 0)) = false] (by kernel_rfl) (by kernel_rfl) (by kernel_rfl) ⟨if_neg (by rw [decide_eq_false (by omega)]; decide), decide_eq_false (by omega), decide_eq_false (by omega), decide_eq_false (by omega), decide_eq_false (by omega), decide_eq_false (by omega), trivial⟩ ?_
      clear hE hR; intro a u hE hR
      refine opsNil ?_; refine thenN ?_
      refine condF hE (b := decide (((i : Nat) : Int) ≥ ((L.length : Nat) : Int))) (by kernel_rfl) (decide_eq_false (by omega)) ?_
      refine wp_skip ?_; refine blkN ?_; refine thenN ?_
      exact ⟨hE.sub (by kernel_rfl), _, hR⟩
  clear hE hR
  rintro a u ⟨hE, J1, hR⟩
  let kc6 : List Value := [.int .i64 d.f, .int .u32 d.r.a, .int .u32 d.r.b, .int .u32 d.r.c, .int .u32 d.r.d]
  refine seqJ (fun a u => ∃ (y2a : World) (y2b : Nat) (y2c : Option Addr) (y2d : Nat) (n2a : Nat) (n2b : Nat), (Apart rv x.row (y2b) (.slice y2c d.y.row.length y2d) d.y.row) ∧ (RowV y2a (.slice y2c d.y.row.length y2d) d.y.row) ∧ TE a 73 [(0, .slice (some ⟨g, off, none⟩) L.length c), (3, .pointer (some ⟨H0, 0, none⟩)), (4, .slice none 0 0), (5, .pointer (some ⟨H0 + 1, 0, none⟩)), (6, .int .i64 K), (7, .pointer (some ⟨n2a, 0, none⟩)), (8, .pointer (some ⟨n2b, 0, none⟩)), (9, .bool (d.ch)), (30, kv4)] ∧ ∃ H, Rep ((y2a, fun k => k < w.heap.size ∨ y2b ≤ k) :: [(w, fun _ => True)]) u H [⟨n2a, 0, [.int .i64 d.y.o.kind, .int .i64 d.y.o.cap, .int .i64 d.y.o.width, .int .i64 d.y.o.retry, .int .i64 d.y.o.src, .int .i64 d.y.o.dst, .int .u32 d.y.o.i0, .int .u32 d.y.o.i1, .int .u32 d.y.o.i2, .int .u32 d.y.o.i3, .slice y2c d.y.row.length y2d, .int .u32 d.y.v.a, .int .u32 d.y.v.b, .int .u32 d.y.v.c, .int .u32 d.y.v.d], 116, true⟩, ⟨n2b, 0, kc6, 63, true⟩, ⟨H0 + 1, 0, kc2, 63, true⟩, ⟨H0, 0, kc3, 60, true⟩] [⟨g, off + i * 15, kc5⟩]) ?_ ?_
  · show Code.wp _ _ _ _ _
    refine enterD (kl := [⟨H0 + 1, 0, kc2, 63, true⟩, ⟨H0, 0, kc3, 60, true⟩]) (by kernel_rfl) hR (F := 19) (listed := #[false, false, false, false, false, false, false, false, false, false, false, false, false, false, false, false, false, false, false]) (by kernel_rfl) (by kernel_rfl) ?_
    clear hR
    intro u hR
    let kv7 : Value := .agg #[.int .i64 x.o.kind, .int .i64 x.o.cap, .int .i64 x.o.width, .int .i64 x.o.retry, .int .i64 x.o.src, .int .i64 x.o.dst, .int .u32 x.o.i0, .int .u32 x.o.i1, .int .u32 x.o.i2, .int .u32 x.o.i3, rv, .int .u32 x.v.a, .int .u32 x.v.b, .int .u32 x.v.c, .int .u32 x.v.d]
    refine takesU (by kernel_rfl) (pqT pqF) hE (hR.ss [0, 1] (by kernel_rfl)) [(0, .op []), (1, .op []), (2, .op [.k 1 1]), (3, .alt (.pointer (some ⟨g, off + i * 15, none⟩))), (4, .op [.r 0 0, .r 0 1, .r 0 2, .r 0 3, .r 0 4, .r 0 5, .r 0 6, .r 0 7, .r 0 8, .r 0 9, .r 0 10, .r 0 11, .r 0 12, .r 0 13, .r 0 14]), (5, .op []), (6, .op (hks 1 0 7))] 12 [(48, kv7), (49, .int .i64 K), (50, kv1)] #[true, true, true, true, true, true, true, false, false, false, false, false, false, false, false, false, false, false, false] [(0 ≤ (((i : Nat) : Int) : Int) ∧ (((i : Nat) : Int) : Int) < ((L.length : Nat) : Int)) ∧ (Try.prog.info? 116).isSome = true, (.pointer (some ⟨g, off + (((i : Nat) : Int)).toNat * Try.prog.cellsOf 116, none⟩) : Value) = (.pointer (some ⟨g, off + i * 15, none⟩) : Value)] (by kernel_rfl) (by kernel_rfl) (by kernel_rfl) ⟨⟨⟨by omega, by omega⟩, by kernel_rfl⟩, by kernel_rfl, trivial⟩ ?_
    clear hE; intro a hE
    refine wpAnyH_all (rs := [7, 13, 14]) (by kernel_rfl) (by simp) (allCons ?_ (allCons ?_ (allCons ?_ allNil)))
    · show wpOp _ _ _ _ _ _ _
      refine call hE hR [] 50 #[kv7, .int .i64 K, kv1] (some 51) [] (by kernel_rfl) (by kernel_rfl) trivial (HD _ (hrow.below (hR.below (by simp)))) (by rintro _ _ ⟨_, _, h, _⟩; cases h) (by rintro _ ⟨_, _, h, _⟩; cases h) ?_
      clear hE
      rintro v uD ⟨A2, c2, hv, hap2, hrow2, hb⟩ a hE
      cases hv
      obtain ⟨HcD, hHcD, H4, hH4, hR⟩ := hR.callF hb (w0 := w) (by simp)
      rw [← hHcD] at hap2
      refine ⟨(hR.ss [0, 1] (by kernel_rfl)), ?_⟩
      show wpAnyH _ _ _ _ _ _ #[true, true, true, true, true, true, true, true, false, false, false, false, false, false, false, false, false, false, false] _ _
      let kv8 : Value := .agg #[.int .i64 d.y.o.kind, .int .i64 d.y.o.cap, .int .i64 d.y.o.width, .int .i64 d.y.o.retry, .int .i64 d.y.o.src, .int .i64 d.y.o.dst, .int .u32 d.y.o.i0, .int .u32 d.y.o.i1, .int .u32 d.y.o.i2, .int .u32 d.y.o.i3, .slice A2 d.y.row.length c2, .int .u32 d.y.v.a, .int .u32 d.y.v.b, .int .u32 d.y.v.c, .int .u32 d.y.v.d]
      let kv9 : Value := .agg #[.int .i64 d.f, .int .u32 d.r.a, .int .u32 d.r.b, .int .u32 d.r.c, .int .u32 d.r.d]
      refine takesU (by kernel_rfl) (pqT pqF) hE (hR.ss [0, 1] (by kernel_rfl)) [(8, .op []), (9, .op []), (10, .op []), (11, .op []), (12, .op [])] 6 [(52, kv8), (53, kv9), (54, .bool (d.ch)), (55, .bool (d.is))] #[true, true, true, true, true, true, true, true, true, true, true, true, true, false, false, false, false, false, false] [] (by kernel_rfl) (by kernel_rfl) (by kernel_rfl) trivial ?_
      clear hE; intro a hE
      refine wpAnyH_all (rs := [13, 14]) (by kernel_rfl) (by simp) (allCons ?_ (allCons ?_ allNil))
      · show wpOp _ _ _ _ _ _ _
        let kc10 : List Value := [.int .i64 0, .int .i64 0, .int .i64 0, .int .i64 0, .int .i64 0, .int .i64 0, .int .u32 0, .int .u32 0, .int .u32 0, .int .u32 0, .slice none 0 0, .int .u32 0, .int .u32 0, .int .u32 0, .int .u32 0]
        refine oneU hE hR (.op []) [(7, .pointer (some ⟨H4, 0, none⟩))] [⟨H4, 0, kc10, 116, true⟩, ⟨H0 + 1, 0, kc2, 63, true⟩, ⟨H0, 0, kc3, 60, true⟩] (H4 + 1) [] (by kernel_rfl) (by kernel_rfl) trivial ?_
        clear hE hR; intro a u hE hR
        refine ⟨(hR.ss [1, 2] (by kernel_rfl)), ?_⟩
        show wpAnyH _ _ _ _ _ _ #[true, true, true, true, true, true, true, true, true, true, true, true, true, true, false, false, false, false, false] _ _
        refine wpAnyH_all (rs := [14]) (by kernel_rfl) (by simp) (allCons ?_ allNil)
        refine oneU hE hR (.op []) [(8, .pointer (some ⟨H4 + 1, 0, none⟩))] [⟨H4 + 1, 0, kc2, 63, true⟩, ⟨H4, 0, kc10, 116, true⟩, ⟨H0 + 1, 0, kc2, 63, true⟩, ⟨H0, 0, kc3, 60, true⟩] (H4 + 2) [] (by kernel_rfl) (by kernel_rfl) trivial ?_
        clear hE hR; intro a u hE hR
        refine ⟨(hR.ss [2, 3] (by kernel_rfl)), ?_⟩
        show wpAnyH _ _ _ _ _ _ #[true, true, true, true, true, true, true, true, true, true, true, true, true, true, true, false, false, false, false] _ _
        refine wpAnyH_all (rs := [15]) (by kernel_rfl) (by simp) (allCons ?_ allNil)
        let kc11 : List Value := [.int .i64 d.y.o.kind, .int .i64 d.y.o.cap, .int .i64 d.y.o.width, .int .i64 d.y.o.retry, .int .i64 d.y.o.src, .int .i64 d.y.o.dst, .int .u32 d.y.o.i0, .int .u32 d.y.o.i1, .int .u32 d.y.o.i2, .int .u32 d.y.o.i3, .slice A2 d.y.row.length c2, .int .u32 d.y.v.a, .int .u32 d.y.v.b, .int .u32 d.y.v.c, .int .u32 d.y.v.d]
        refine oneU hE hR (.op (hks 1 0 15)) [] [⟨H4 + 1, 0, kc2, 63, true⟩, ⟨H4, 0, kc11, 116, true⟩, ⟨H0 + 1, 0, kc2, 63, true⟩, ⟨H0, 0, kc3, 60, true⟩] (H4 + 2) [] (by kernel_rfl) (by kernel_rfl) trivial ?_
        clear hE hR; intro a u hE hR
        refine ⟨(hR.ss [2, 3] (by kernel_rfl)), ?_⟩
        show wpAnyH _ _ _ _ _ _ #[true, true, true, true, true, true, true, true, true, true, true, true, true, true, true, true, false, false, false] _ _
        refine wpAnyH_all (rs := [16]) (by kernel_rfl) (by simp) (allCons ?_ allNil)
        refine one hE hR (.op (hks 0 0 5)) [(0, .slice (some ⟨g, off, none⟩) L.length c), (3, .pointer (some ⟨H0, 0, none⟩)), (4, .slice none 0 0), (5, .pointer (some ⟨H0 + 1, 0, none⟩)), (6, .int .i64 K), (30, kv4), (54, .bool (d.ch)), (55, .bool (d.is)), (7, .pointer (some ⟨H4, 0, none⟩)), (8, .pointer (some ⟨H4 + 1, 0, none⟩))] [⟨H4 + 1, 0, kc6, 63, true⟩, ⟨H4, 0, kc11, 116, true⟩, ⟨H0 + 1, 0, kc2, 63, true⟩, ⟨H0, 0, kc3, 60, true⟩] (H4 + 2) [] (by kernel_rfl) (by kernel_rfl) trivial ?_
        clear hE hR; intro a u hE hR
        refine ⟨(hR.ss [2, 3] (by kernel_rfl)), ?_⟩
        show wpAnyH _ _ _ _ _ _ #[true, true, true, true, true, true, true, true, true, true, true, true, true, true, true, true, true, false, false] _ _
        refine takesU (by kernel_rfl) (pqT pqF) hE (hR.ss [2, 3] (by kernel_rfl)) [(17, .op []), (18, .op [])] 0 [(9, .bool (d.ch))] #[true, true, true, true, true, true, true, true, true, true, true, true, true, true, true, true, true, true, true] [] (by kernel_rfl) (by kernel_rfl) (by kernel_rfl) trivial ?_
        clear hE; intro a hE
        refine wpAnyH_done (by kernel_rfl) ?_ _
        refine thenN ?_
        exact ⟨uD, HcD, A2, c2, H4, H4 + 1, hap2, hrow2, hE.sub (by kernel_rfl), _, (hR.pick [1, 0, 2, 3] (by decide) (by kernel_rfl))⟩
      · show wpOp _ _ _ _ _ _ _
        refine oneU hE hR (.op []) [(8, .pointer (some ⟨H4, 0, none⟩))] [⟨H4, 0, kc2, 63, true⟩, ⟨H0 + 1, 0, kc2, 63, true⟩, ⟨H0, 0, kc3, 60, true⟩] (H4 + 1) [] (by kernel_rfl) (by kernel_rfl) trivial ?_
        clear hE hR; intro a u hE hR
        refine ⟨(hR.ss [1, 2] (by kernel_rfl)), ?_⟩
        show wpAnyH _ _ _ _ _ _ #[true, true, true, true, true, true, true, true, true, true, true, true, true, false, true, false, false, false, false] _ _
        refine wpAnyH_all (rs := [13]) (by kernel_rfl) (by simp) (allCons ?_ allNil)
        let kc12 : List Value := [.int .i64 0, .int .i64 0, .int .i64 0, .int .i64 0, .int .i64 0, .int .i64 0, .int .u32 0, .int .u32 0, .int .u32 0, .int .u32 0, .slice none 0 0, .int .u32 0, .int .u32 0, .int .u32 0, .int .u32 0]
        refine oneU hE hR (.op []) [(7, .pointer (some ⟨H4 + 1, 0, none⟩))] [⟨H4 + 1, 0, kc12, 116, true⟩, ⟨H4, 0, kc2, 63, true⟩, ⟨H0 + 1, 0, kc2, 63, true⟩, ⟨H0, 0, kc3, 60, true⟩] (H4 + 2) [] (by kernel_rfl) (by kernel_rfl) trivial ?_
        clear hE hR; intro a u hE hR
        refine ⟨(hR.ss [2, 3] (by kernel_rfl)), ?_⟩
        show wpAnyH _ _ _ _ _ _ #[true, true, true, true, true, true, true, true, true, true, true, true, true, true, true, false, false, false, false] _ _
        refine wpAnyH_all (rs := [15]) (by kernel_rfl) (by simp) (allCons ?_ allNil)
        let kc13 : List Value := [.int .i64 d.y.o.kind, .int .i64 d.y.o.cap, .int .i64 d.y.o.width, .int .i64 d.y.o.retry, .int .i64 d.y.o.src, .int .i64 d.y.o.dst, .int .u32 d.y.o.i0, .int .u32 d.y.o.i1, .int .u32 d.y.o.i2, .int .u32 d.y.o.i3, .slice A2 d.y.row.length c2, .int .u32 d.y.v.a, .int .u32 d.y.v.b, .int .u32 d.y.v.c, .int .u32 d.y.v.d]
        refine oneU hE hR (.op (hks 0 0 15)) [] [⟨H4 + 1, 0, kc13, 116, true⟩, ⟨H4, 0, kc2, 63, true⟩, ⟨H0 + 1, 0, kc2, 63, true⟩, ⟨H0, 0, kc3, 60, true⟩] (H4 + 2) [] (by kernel_rfl) (by kernel_rfl) trivial ?_
        clear hE hR; intro a u hE hR
        refine ⟨(hR.ss [2, 3] (by kernel_rfl)), ?_⟩
        show wpAnyH _ _ _ _ _ _ #[true, true, true, true, true, true, true, true, true, true, true, true, true, true, true, true, false, false, false] _ _
        refine wpAnyH_all (rs := [16]) (by kernel_rfl) (by simp) (allCons ?_ allNil)
        refine oneU hE hR (.op (hks 1 0 5)) [] [⟨H4 + 1, 0, kc13, 116, true⟩, ⟨H4, 0, kc6, 63, true⟩, ⟨H0 + 1, 0, kc2, 63, true⟩, ⟨H0, 0, kc3, 60, true⟩] (H4 + 2) [] (by kernel_rfl) (by kernel_rfl) trivial ?_
        clear hE hR; intro a u hE hR
        refine ⟨(hR.ss [2, 3] (by kernel_rfl)), ?_⟩
        show wpAnyH _ _ _ _ _ _ #[true, true, true, true, true, true, true, true, true, true, true, true, true, true, true, true, true, false, false] _ _
        refine takesU (by kernel_rfl) (pqT pqF) hE (hR.ss [2, 3] (by kernel_rfl)) [(17, .op []), (18, .op [])] 0 [(9, .bool (d.ch))] #[true, true, true, true, true, true, true, true, true, true, true, true, true, true, true, true, true, true, true] [] (by kernel_rfl) (by kernel_rfl) (by kernel_rfl) trivial ?_
        clear hE; intro a hE
        refine wpAnyH_done (by kernel_rfl) ?_ _
        refine thenN ?_
        exact ⟨uD, HcD, A2, c2, H4 + 1, H4, hap2, hrow2, hE.sub (by kernel_rfl), _, hR⟩
    · show wpOp _ _ _ _ _ _ _
      let kc14 : List Value := [.int .i64 0, .int .i64 0, .int .i64 0, .int .i64 0, .int .i64 0, .int .i64 0, .int .u32 0, .int .u32 0, .int .u32 0, .int .u32 0, .slice none 0 0, .int .u32 0, .int .u32 0, .int .u32 0, .int .u32 0]
      refine oneU hE hR (.op []) [(7, .pointer (some ⟨J1, 0, none⟩))] [⟨J1, 0, kc14, 116, true⟩, ⟨H0 + 1, 0, kc2, 63, true⟩, ⟨H0, 0, kc3, 60, true⟩] (J1 + 1) [] (by kernel_rfl) (by kernel_rfl) trivial ?_
      clear hE hR; intro a u hE hR
      refine ⟨(hR.ss [1, 2] (by kernel_rfl)), ?_⟩
      show wpAnyH _ _ _ _ _ _ #[true, true, true, true, true, true, true, false, false, false, false, false, false, true, false, false, false, false, false] _ _
      refine wpAnyH_all (rs := [7, 14]) (by kernel_rfl) (by simp) (allCons ?_ (allCons ?_ allNil))
      · show wpOp _ _ _ _ _ _ _
        refine call hE hR [] 50 #[kv7, .int .i64 K, kv1] (some 51) [] (by kernel_rfl) (by kernel_rfl) trivial (HD _ (hrow.below (hR.below (by simp)))) (by rintro _ _ ⟨_, _, h, _⟩; cases h) (by rintro _ ⟨_, _, h, _⟩; cases h) ?_
        clear hE
        rintro v uD ⟨A2, c2, hv, hap2, hrow2, hb⟩ a hE
        cases hv
        obtain ⟨HcD, hHcD, H5, hH5, hR⟩ := hR.callF hb (w0 := w) (by simp)
        rw [← hHcD] at hap2
        refine ⟨(hR.ss [1, 2] (by kernel_rfl)), ?_⟩
        show wpAnyH _ _ _ _ _ _ #[true, true, true, true, true, true, true, true, false, false, false, false, false, true, false, false, false, false, false] _ _
        let kv15 : Value := .agg #[.int .i64 d.y.o.kind, .int .i64 d.y.o.cap, .int .i64 d.y.o.width, .int .i64 d.y.o.retry, .int .i64 d.y.o.src, .int .i64 d.y.o.dst, .int .u32 d.y.o.i0, .int .u32 d.y.o.i1, .int .u32 d.y.o.i2, .int .u32 d.y.o.i3, .slice A2 d.y.row.length c2, .int .u32 d.y.v.a, .int .u32 d.y.v.b, .int .u32 d.y.v.c, .int .u32 d.y.v.d]
        let kv16 : Value := .agg #[.int .i64 d.f, .int .u32 d.r.a, .int .u32 d.r.b, .int .u32 d.r.c, .int .u32 d.r.d]
        refine takes (by kernel_rfl) (pqT pqF) hE (hR.ss [1, 2] (by kernel_rfl)) [(8, .op []), (9, .op []), (10, .op []), (11, .op []), (12, .op [])] 5 [(0, .slice (some ⟨g, off, none⟩) L.length c), (3, .pointer (some ⟨H0, 0, none⟩)), (4, .slice none 0 0), (5, .pointer (some ⟨H0 + 1, 0, none⟩)), (6, .int .i64 K), (30, kv4), (7, .pointer (some ⟨J1, 0, none⟩)), (52, kv15), (53, kv16), (54, .bool (d.ch)), (55, .bool (d.is))] #[true, true, true, true, true, true, true, true, true, true, true, true, true, true, false, false, false, false, false] [] (by kernel_rfl) (by kernel_rfl) (by kernel_rfl) trivial ?_
        clear hE; intro a hE
        refine wpAnyH_all (rs := [14]) (by kernel_rfl) (by simp) (allCons ?_ allNil)
        refine oneU hE hR (.op []) [(8, .pointer (some ⟨H5, 0, none⟩))] [⟨H5, 0, kc2, 63, true⟩, ⟨J1, 0, kc14, 116, true⟩, ⟨H0 + 1, 0, kc2, 63, true⟩, ⟨H0, 0, kc3, 60, true⟩] (H5 + 1) [] (by kernel_rfl) (by kernel_rfl) trivial ?_
        clear hE hR; intro a u hE hR
        refine ⟨(hR.ss [2, 3] (by kernel_rfl)), ?_⟩
        show wpAnyH _ _ _ _ _ _ #[true, true, true, true, true, true, true, true, true, true, true, true, true, true, true, false, false, false, false] _ _
        refine wpAnyH_all (rs := [15]) (by kernel_rfl) (by simp) (allCons ?_ allNil)
        let kc17 : List Value := [.int .i64 d.y.o.kind, .int .i64 d.y.o.cap, .int .i64 d.y.o.width, .int .i64 d.y.o.retry, .int .i64 d.y.o.src, .int .i64 d.y.o.dst, .int .u32 d.y.o.i0, .int .u32 d.y.o.i1, .int .u32 d.y.o.i2, .int .u32 d.y.o.i3, .slice A2 d.y.row.length c2, .int .u32 d.y.v.a, .int .u32 d.y.v.b, .int .u32 d.y.v.c, .int .u32 d.y.v.d]
        refine oneU hE hR (.op (hks 1 0 15)) [] [⟨H5, 0, kc2, 63, true⟩, ⟨J1, 0, kc17, 116, true⟩, ⟨H0 + 1, 0, kc2, 63, true⟩, ⟨H0, 0, kc3, 60, true⟩] (H5 + 1) [] (by kernel_rfl) (by kernel_rfl) trivial ?_
        clear hE hR; intro a u hE hR
        refine ⟨(hR.ss [2, 3] (by kernel_rfl)), ?_⟩
        show wpAnyH _ _ _ _ _ _ #[true, true, true, true, true, true, true, true, true, true, true, true, true, true, true, true, false, false, false] _ _
        refine wpAnyH_all (rs := [16]) (by kernel_rfl) (by simp) (allCons ?_ allNil)
        refine oneU hE hR (.op (hks 0 0 5)) [] [⟨H5, 0, kc6, 63, true⟩, ⟨J1, 0, kc17, 116, true⟩, ⟨H0 + 1, 0, kc2, 63, true⟩, ⟨H0, 0, kc3, 60, true⟩] (H5 + 1) [] (by kernel_rfl) (by kernel_rfl) trivial ?_
        clear hE hR; intro a u hE hR
        refine ⟨(hR.ss [2, 3] (by kernel_rfl)), ?_⟩
        show wpAnyH _ _ _ _ _ _ #[true, true, true, true, true, true, true, true, true, true, true, true, true, true, true, true, true, false, false] _ _
        refine takesU (by kernel_rfl) (pqT pqF) hE (hR.ss [2, 3] (by kernel_rfl)) [(17, .op []), (18, .op [])] 0 [(9, .bool (d.ch))] #[true, true, true, true, true, true, true, true, true, true, true, true, true, true, true, true, true, true, true] [] (by kernel_rfl) (by kernel_rfl) (by kernel_rfl) trivial ?_
        clear hE; intro a hE
        refine wpAnyH_done (by kernel_rfl) ?_ _
        refine thenN ?_
        exact ⟨uD, HcD, A2, c2, J1, H5, hap2, hrow2, hE.sub (by kernel_rfl), _, (hR.pick [1, 0, 2, 3] (by decide) (by kernel_rfl))⟩
      · show wpOp _ _ _ _ _ _ _
        refine oneU hE hR (.op []) [(8, .pointer (some ⟨J1 + 1, 0, none⟩))] [⟨J1 + 1, 0, kc2, 63, true⟩, ⟨J1, 0, kc14, 116, true⟩, ⟨H0 + 1, 0, kc2, 63, true⟩, ⟨H0, 0, kc3, 60, true⟩] (J1 + 2) [] (by kernel_rfl) (by kernel_rfl) trivial ?_
        clear hE hR; intro a u hE hR
        refine ⟨(hR.ss [2, 3] (by kernel_rfl)), ?_⟩
        show wpAnyH _ _ _ _ _ _ #[true, true, true, true, true, true, true, false, false, false, false, false, false, true, true, false, false, false, false] _ _
        refine wpAnyH_all (rs := [7]) (by kernel_rfl) (by simp) (allCons ?_ allNil)
        refine call hE hR [] 50 #[kv7, .int .i64 K, kv1] (some 51) [] (by kernel_rfl) (by kernel_rfl) trivial (HD _ (hrow.below (hR.below (by simp)))) (by rintro _ _ ⟨_, _, h, _⟩; cases h) (by rintro _ ⟨_, _, h, _⟩; cases h) ?_
        clear hE
        rintro v uD ⟨A2, c2, hv, hap2, hrow2, hb⟩ a hE
        cases hv
        obtain ⟨HcD, hHcD, H6, hH6, hR⟩ := hR.callF hb (w0 := w) (by simp)
        rw [← hHcD] at hap2
        refine ⟨(hR.ss [2, 3] (by kernel_rfl)), ?_⟩
        show wpAnyH _ _ _ _ _ _ #[true, true, true, true, true, true, true, true, false, false, false, false, false, true, true, false, false, false, false] _ _
        let kv18 : Value := .agg #[.int .i64 d.y.o.kind, .int .i64 d.y.o.cap, .int .i64 d.y.o.width, .int .i64 d.y.o.retry, .int .i64 d.y.o.src, .int .i64 d.y.o.dst, .int .u32 d.y.o.i0, .int .u32 d.y.o.i1, .int .u32 d.y.o.i2, .int .u32 d.y.o.i3, .slice A2 d.y.row.length c2, .int .u32 d.y.v.a, .int .u32 d.y.v.b, .int .u32 d.y.v.c, .int .u32 d.y.v.d]
        let kv19 : Value := .agg #[.int .i64 d.f, .int .u32 d.r.a, .int .u32 d.r.b, .int .u32 d.r.c, .int .u32 d.r.d]
        refine takesU (by kernel_rfl) (pqT pqF) hE (hR.ss [2, 3] (by kernel_rfl)) [(8, .op []), (9, .op []), (10, .op []), (11, .op []), (12, .op [])] 4 [(52, kv18), (53, kv19), (54, .bool (d.ch)), (55, .bool (d.is))] #[true, true, true, true, true, true, true, true, true, true, true, true, true, true, true, false, false, false, false] [] (by kernel_rfl) (by kernel_rfl) (by kernel_rfl) trivial ?_
        clear hE; intro a hE
        refine wpAnyH_all (rs := [15]) (by kernel_rfl) (by simp) (allCons ?_ allNil)
        let kc20 : List Value := [.int .i64 d.y.o.kind, .int .i64 d.y.o.cap, .int .i64 d.y.o.width, .int .i64 d.y.o.retry, .int .i64 d.y.o.src, .int .i64 d.y.o.dst, .int .u32 d.y.o.i0, .int .u32 d.y.o.i1, .int .u32 d.y.o.i2, .int .u32 d.y.o.i3, .slice A2 d.y.row.length c2, .int .u32 d.y.v.a, .int .u32 d.y.v.b, .int .u32 d.y.v.c, .int .u32 d.y.v.d]
        refine oneU hE hR (.op (hks 1 0 15)) [] [⟨J1 + 1, 0, kc2, 63, true⟩, ⟨J1, 0, kc20, 116, true⟩, ⟨H0 + 1, 0, kc2, 63, true⟩, ⟨H0, 0, kc3, 60, true⟩] (H6) [] (by kernel_rfl) (by kernel_rfl) trivial ?_
        clear hE hR; intro a u hE hR
        refine ⟨(hR.ss [2, 3] (by kernel_rfl)), ?_⟩
        show wpAnyH _ _ _ _ _ _ #[true, true, true, true, true, true, true, true, true, true, true, true, true, true, true, true, false, false, false] _ _
        refine wpAnyH_all (rs := [16]) (by kernel_rfl) (by simp) (allCons ?_ allNil)
        refine one hE hR (.op (hks 0 0 5)) [(0, .slice (some ⟨g, off, none⟩) L.length c), (3, .pointer (some ⟨H0, 0, none⟩)), (4, .slice none 0 0), (5, .pointer (some ⟨H0 + 1, 0, none⟩)), (6, .int .i64 K), (30, kv4), (7, .pointer (some ⟨J1, 0, none⟩)), (8, .pointer (some ⟨J1 + 1, 0, none⟩)), (54, .bool (d.ch)), (55, .bool (d.is))] [⟨J1 + 1, 0, kc6, 63, true⟩, ⟨J1, 0, kc20, 116, true⟩, ⟨H0 + 1, 0, kc2, 63, true⟩, ⟨H0, 0, kc3, 60, true⟩] (H6) [] (by kernel_rfl) (by kernel_rfl) trivial ?_
        clear hE hR; intro a u hE hR
        refine ⟨(hR.ss [2, 3] (by kernel_rfl)), ?_⟩
        show wpAnyH _ _ _ _ _ _ #[true, true, true, true, true, true, true, true, true, true, true, true, true, true, true, true, true, false, false] _ _
        refine takesU (by kernel_rfl) (pqT pqF) hE (hR.ss [2, 3] (by kernel_rfl)) [(17, .op []), (18, .op [])] 0 [(9, .bool (d.ch))] #[true, true, true, true, true, true, true, true, true, true, true, true, true, true, true, true, true, true, true] [] (by kernel_rfl) (by kernel_rfl) (by kernel_rfl) trivial ?_
        clear hE; intro a hE
        refine wpAnyH_done (by kernel_rfl) ?_ _
        refine thenN ?_
        exact ⟨uD, HcD, A2, c2, J1, J1 + 1, hap2, hrow2, hE.sub (by kernel_rfl), _, (hR.pick [1, 0, 2, 3] (by decide) (by kernel_rfl))⟩
    · show wpOp _ _ _ _ _ _ _
      refine oneU hE hR (.op []) [(8, .pointer (some ⟨J1, 0, none⟩))] [⟨J1, 0, kc2, 63, true⟩, ⟨H0 + 1, 0, kc2, 63, true⟩, ⟨H0, 0, kc3, 60, true⟩] (J1 + 1) [] (by kernel_rfl) (by kernel_rfl) trivial ?_
      clear hE hR; intro a u hE hR
      refine ⟨(hR.ss [1, 2] (by kernel_rfl)), ?_⟩
      show wpAnyH _ _ _ _ _ _ #[true, true, true, true, true, true, true, false, false, false, false, false, false, false, true, false, false, false, false] _ _
      refine wpAnyH_all (rs := [7, 13]) (by kernel_rfl) (by simp) (allCons ?_ (allCons ?_ allNil))
      · show wpOp _ _ _ _ _ _ _
        refine call hE hR [] 50 #[kv7, .int .i64 K, kv1] (some 51) [] (by kernel_rfl) (by kernel_rfl) trivial (HD _ (hrow.below (hR.below (by simp)))) (by rintro _ _ ⟨_, _, h, _⟩; cases h) (by rintro _ ⟨_, _, h, _⟩; cases h) ?_
        clear hE
        rintro v uD ⟨A2, c2, hv, hap2, hrow2, hb⟩ a hE
        cases hv
        obtain ⟨HcD, hHcD, H7, hH7, hR⟩ := hR.callF hb (w0 := w) (by simp)
        rw [← hHcD] at hap2
        refine ⟨(hR.ss [1, 2] (by kernel_rfl)), ?_⟩
        show wpAnyH _ _ _ _ _ _ #[true, true, true, true, true, true, true, true, false, false, false, false, false, false, true, false, false, false, false] _ _
        let kv21 : Value := .agg #[.int .i64 d.y.o.kind, .int .i64 d.y.o.cap, .int .i64 d.y.o.width, .int .i64 d.y.o.retry, .int .i64 d.y.o.src, .int .i64 d.y.o.dst, .int .u32 d.y.o.i0, .int .u32 d.y.o.i1, .int .u32 d.y.o.i2, .int .u32 d.y.o.i3, .slice A2 d.y.row.length c2, .int .u32 d.y.v.a, .int .u32 d.y.v.b, .int .u32 d.y.v.c, .int .u32 d.y.v.d]
        let kv22 : Value := .agg #[.int .i64 d.f, .int .u32 d.r.a, .int .u32 d.r.b, .int .u32 d.r.c, .int .u32 d.r.d]
        refine takesU (by kernel_rfl) (pqT pqF) hE (hR.ss [1, 2] (by kernel_rfl)) [(8, .op []), (9, .op []), (10, .op []), (11, .op []), (12, .op [])] 5 [(52, kv21), (53, kv22), (54, .bool (d.ch)), (55, .bool (d.is))] #[true, true, true, true, true, true, true, true, true, true, true, true, true, false, true, false, false, false, false] [] (by kernel_rfl) (by kernel_rfl) (by kernel_rfl) trivial ?_
        clear hE; intro a hE
        refine wpAnyH_all (rs := [13]) (by kernel_rfl) (by simp) (allCons ?_ allNil)
        let kc23 : List Value := [.int .i64 0, .int .i64 0, .int .i64 0, .int .i64 0, .int .i64 0, .int .i64 0, .int .u32 0, .int .u32 0, .int .u32 0, .int .u32 0, .slice none 0 0, .int .u32 0, .int .u32 0, .int .u32 0, .int .u32 0]
        refine oneU hE hR (.op []) [(7, .pointer (some ⟨H7, 0, none⟩))] [⟨H7, 0, kc23, 116, true⟩, ⟨J1, 0, kc2, 63, true⟩, ⟨H0 + 1, 0, kc2, 63, true⟩, ⟨H0, 0, kc3, 60, true⟩] (H7 + 1) [] (by kernel_rfl) (by kernel_rfl) trivial ?_
        clear hE hR; intro a u hE hR
        refine ⟨(hR.ss [2, 3] (by kernel_rfl)), ?_⟩
        show wpAnyH _ _ _ _ _ _ #[true, true, true, true, true, true, true, true, true, true, true, true, true, true, true, false, false, false, false] _ _
        refine wpAnyH_all (rs := [15]) (by kernel_rfl) (by simp) (allCons ?_ allNil)
        let kc24 : List Value := [.int .i64 d.y.o.kind, .int .i64 d.y.o.cap, .int .i64 d.y.o.width, .int .i64 d.y.o.retry, .int .i64 d.y.o.src, .int .i64 d.y.o.dst, .int .u32 d.y.o.i0, .int .u32 d.y.o.i1, .int .u32 d.y.o.i2, .int .u32 d.y.o.i3, .slice A2 d.y.row.length c2, .int .u32 d.y.v.a, .int .u32 d.y.v.b, .int .u32 d.y.v.c, .int .u32 d.y.v.d]
        refine oneU hE hR (.op (hks 0 0 15)) [] [⟨H7, 0, kc24, 116, true⟩, ⟨J1, 0, kc2, 63, true⟩, ⟨H0 + 1, 0, kc2, 63, true⟩, ⟨H0, 0, kc3, 60, true⟩] (H7 + 1) [] (by kernel_rfl) (by kernel_rfl) trivial ?_
        clear hE hR; intro a u hE hR
        refine ⟨(hR.ss [2, 3] (by kernel_rfl)), ?_⟩
        show wpAnyH _ _ _ _ _ _ #[true, true, true, true, true, true, true, true, true, true, true, true, true, true, true, true, false, false, false] _ _
        refine wpAnyH_all (rs := [16]) (by kernel_rfl) (by simp) (allCons ?_ allNil)
        refine oneU hE hR (.op (hks 1 0 5)) [] [⟨H7, 0, kc24, 116, true⟩, ⟨J1, 0, kc6, 63, true⟩, ⟨H0 + 1, 0, kc2, 63, true⟩, ⟨H0, 0, kc3, 60, true⟩] (H7 + 1) [] (by kernel_rfl) (by kernel_rfl) trivial ?_
        clear hE hR; intro a u hE hR
        refine ⟨(hR.ss [2, 3] (by kernel_rfl)), ?_⟩
        show wpAnyH _ _ _ _ _ _ #[true, true, true, true, true, true, true, true, true, true, true, true, true, true, true, true, true, false, false] _ _
        refine takesU (by kernel_rfl) (pqT pqF) hE (hR.ss [2, 3] (by kernel_rfl)) [(17, .op []), (18, .op [])] 0 [(9, .bool (d.ch))] #[true, true, true, true, true, true, true, true, true, true, true, true, true, true, true, true, true, true, true] [] (by kernel_rfl) (by kernel_rfl) (by kernel_rfl) trivial ?_
        clear hE; intro a hE
        refine wpAnyH_done (by kernel_rfl) ?_ _
        refine thenN ?_
        exact ⟨uD, HcD, A2, c2, H7, J1, hap2, hrow2, hE.sub (by kernel_rfl), _, hR⟩
      · show wpOp _ _ _ _ _ _ _
        let kc25 : List Value := [.int .i64 0, .int .i64 0, .int .i64 0, .int .i64 0, .int .i64 0, .int .i64 0, .int .u32 0, .int .u32 0, .int .u32 0, .int .u32 0, .slice none 0 0, .int .u32 0, .int .u32 0, .int .u32 0, .int .u32 0]
        refine one hE hR (.op []) [(0, .slice (some ⟨g, off, none⟩) L.length c), (3, .pointer (some ⟨H0, 0, none⟩)), (4, .slice none 0 0), (5, .pointer (some ⟨H0 + 1, 0, none⟩)), (6, .int .i64 K), (30, kv4), (48, kv7), (49, .int .i64 K), (50, kv1), (8, .pointer (some ⟨J1, 0, none⟩)), (7, .pointer (some ⟨J1 + 1, 0, none⟩))] [⟨J1 + 1, 0, kc25, 116, true⟩, ⟨J1, 0, kc2, 63, true⟩, ⟨H0 + 1, 0, kc2, 63, true⟩, ⟨H0, 0, kc3, 60, true⟩] (J1 + 2) [] (by kernel_rfl) (by kernel_rfl) trivial ?_
        clear hE hR; intro a u hE hR
        refine ⟨(hR.ss [2, 3] (by kernel_rfl)), ?_⟩
        show wpAnyH _ _ _ _ _ _ #[true, true, true, true, true, true, true, false, false, false, false, false, false, true, true, false, false, false, false] _ _
        refine wpAnyH_all (rs := [7]) (by kernel_rfl) (by simp) (allCons ?_ allNil)
        refine call hE hR [] 50 #[kv7, .int .i64 K, kv1] (some 51) [] (by kernel_rfl) (by kernel_rfl) trivial (HD _ (hrow.below (hR.below (by simp)))) (by rintro _ _ ⟨_, _, h, _⟩; cases h) (by rintro _ ⟨_, _, h, _⟩; cases h) ?_
        clear hE
        rintro v uD ⟨A2, c2, hv, hap2, hrow2, hb⟩ a hE
        cases hv
        obtain ⟨HcD, hHcD, H8, hH8, hR⟩ := hR.callF hb (w0 := w) (by simp)
        rw [← hHcD] at hap2
        refine ⟨(hR.ss [2, 3] (by kernel_rfl)), ?_⟩
        show wpAnyH _ _ _ _ _ _ #[true, true, true, true, true, true, true, true, false, false, false, false, false, true, true, false, false, false, false] _ _
        let kv26 : Value := .agg #[.int .i64 d.y.o.kind, .int .i64 d.y.o.cap, .int .i64 d.y.o.width, .int .i64 d.y.o.retry, .int .i64 d.y.o.src, .int .i64 d.y.o.dst, .int .u32 d.y.o.i0, .int .u32 d.y.o.i1, .int .u32 d.y.o.i2, .int .u32 d.y.o.i3, .slice A2 d.y.row.length c2, .int .u32 d.y.v.a, .int .u32 d.y.v.b, .int .u32 d.y.v.c, .int .u32 d.y.v.d]
        let kv27 : Value := .agg #[.int .i64 d.f, .int .u32 d.r.a, .int .u32 d.r.b, .int .u32 d.r.c, .int .u32 d.r.d]
        refine takesU (by kernel_rfl) (pqT pqF) hE (hR.ss [2, 3] (by kernel_rfl)) [(8, .op []), (9, .op []), (10, .op []), (11, .op []), (12, .op [])] 4 [(52, kv26), (53, kv27), (54, .bool (d.ch)), (55, .bool (d.is))] #[true, true, true, true, true, true, true, true, true, true, true, true, true, true, true, false, false, false, false] [] (by kernel_rfl) (by kernel_rfl) (by kernel_rfl) trivial ?_
        clear hE; intro a hE
        refine wpAnyH_all (rs := [15]) (by kernel_rfl) (by simp) (allCons ?_ allNil)
        let kc28 : List Value := [.int .i64 d.y.o.kind, .int .i64 d.y.o.cap, .int .i64 d.y.o.width, .int .i64 d.y.o.retry, .int .i64 d.y.o.src, .int .i64 d.y.o.dst, .int .u32 d.y.o.i0, .int .u32 d.y.o.i1, .int .u32 d.y.o.i2, .int .u32 d.y.o.i3, .slice A2 d.y.row.length c2, .int .u32 d.y.v.a, .int .u32 d.y.v.b, .int .u32 d.y.v.c, .int .u32 d.y.v.d]
        refine oneU hE hR (.op (hks 0 0 15)) [] [⟨J1 + 1, 0, kc28, 116, true⟩, ⟨J1, 0, kc2, 63, true⟩, ⟨H0 + 1, 0, kc2, 63, true⟩, ⟨H0, 0, kc3, 60, true⟩] (H8) [] (by kernel_rfl) (by kernel_rfl) trivial ?_
        clear hE hR; intro a u hE hR
        refine ⟨(hR.ss [2, 3] (by kernel_rfl)), ?_⟩
        show wpAnyH _ _ _ _ _ _ #[true, true, true, true, true, true, true, true, true, true, true, true, true, true, true, true, false, false, false] _ _
        refine wpAnyH_all (rs := [16]) (by kernel_rfl) (by simp) (allCons ?_ allNil)
        refine oneU hE hR (.op (hks 1 0 5)) [] [⟨J1 + 1, 0, kc28, 116, true⟩, ⟨J1, 0, kc6, 63, true⟩, ⟨H0 + 1, 0, kc2, 63, true⟩, ⟨H0, 0, kc3, 60, true⟩] (H8) [] (by kernel_rfl) (by kernel_rfl) trivial ?_
        clear hE hR; intro a u hE hR
        refine ⟨(hR.ss [2, 3] (by kernel_rfl)), ?_⟩
        show wpAnyH _ _ _ _ _ _ #[true, true, true, true, true, true, true, true, true, true, true, true, true, true, true, true, true, false, false] _ _
        refine takesU (by kernel_rfl) (pqT pqF) hE (hR.ss [2, 3] (by kernel_rfl)) [(17, .op []), (18, .op [])] 0 [(9, .bool (d.ch))] #[true, true, true, true, true, true, true, true, true, true, true, true, true, true, true, true, true, true, true] [] (by kernel_rfl) (by kernel_rfl) (by kernel_rfl) trivial ?_
        clear hE; intro a hE
        refine wpAnyH_done (by kernel_rfl) ?_ _
        refine thenN ?_
        exact ⟨uD, HcD, A2, c2, J1 + 1, J1, hap2, hrow2, hE.sub (by kernel_rfl), _, hR⟩
  clear hE hR
  rintro a u ⟨y2a, y2b, y2c, y2d, n2a, n2b, hap2q2, hrow2q2, hE, J2, hR⟩
  refine wp_seq ?_; refine wp_seq ?_
  refine enterR (idx := [0, 1]) (by kernel_rfl) ?_
  refine segV hE hR [(0, .op []), (1, .op [])] [] [(57, .bool (!(d.ch)))] [] (by kernel_rfl) (by kernel_rfl) (by kernel_rfl) trivial ?_
  clear hE hR; intro a u hE hR
  refine opsNil ?_; refine thenN ?_
  refine condF hE (b := !(d.ch)) (by kernel_rfl) (by rw [hch]; rfl) ?_
  refine wp_skip ?_; refine thenN ?_; refine wp_seq ?_
  refine enterR (idx := [0, 1, 2, 3]) (by kernel_rfl) ?_
  refine segV hE hR [(0, .op []), (1, .op [])] [2, 3] [(61, .int .i64 ((L.length : Nat) : Int))] [] (by kernel_rfl) (by kernel_rfl) (by kernel_rfl) trivial ?_
  clear hE hR; intro a u hE hR
  refine opsCons ?_
  refine mkS hE 15 116 104 hR L.length [] rfl rfl trivial Try.underlying64 (by kernel_rfl) (by kernel_rfl) (by kernel_rfl) (by kernel_rfl) (by omega) (by omega) ?_
  clear hE hR; intro a u zs hzs hE hR
  refine segV hE hR [(3, .op [])] [] [(11, .slice (some ⟨J2, 0, none⟩) L.length L.length)] [] (by kernel_rfl) (by kernel_rfl) (by kernel_rfl) trivial ?_
  clear hE hR; intro a u hE hR
  refine opsNil ?_; refine thenN ?_; refine wp_seq ?_
  refine enterR (idx := [0, 1, 2]) (by kernel_rfl) ?_
  refine seg0 hE hR [(0, .op []), (1, .op [])] [2] [(0, .slice (some ⟨g, off, none⟩) L.length c), (3, .pointer (some ⟨H0, 0, none⟩)), (4, .slice none 0 0), (5, .pointer (some ⟨H0 + 1, 0, none⟩)), (6, .int .i64 K), (7, .pointer (some ⟨n2a, 0, none⟩)), (8, .pointer (some ⟨n2b, 0, none⟩)), (30, kv4), (57, .bool (!(d.ch))), (11, .slice (some ⟨J2, 0, none⟩) L.length L.length), (63, .slice (some ⟨J2, 0, none⟩) L.length L.length), (64, .slice (some ⟨g, off, none⟩) L.length c)] [] (by kernel_rfl) (by kernel_rfl) (by kernel_rfl) trivial ?_
  clear hE hR; intro a u hE hR
  refine opsCons ?_
  let kc29 : List Value := [.int .i64 d.y.o.kind, .int .i64 d.y.o.cap, .int .i64 d.y.o.width, .int .i64 d.y.o.retry, .int .i64 d.y.o.src, .int .i64 d.y.o.dst, .int .u32 d.y.o.i0, .int .u32 d.y.o.i1, .int .u32 d.y.o.i2, .int .u32 d.y.o.i3, .slice y2c d.y.row.length y2d, .int .u32 d.y.v.a, .int .u32 d.y.v.b, .int .u32 d.y.v.c, .int .u32 d.y.v.d]
  refine cpS hE 15 116 104 hR 0 ⟨J2, 0, zs, 116, true⟩ rfl 0 L.length L.length (some ⟨g, off, none⟩) L.length c (L.flatMap itF) [] (fun ad h => by cases h; intro j x hx; rw [add_flat _ rfl]; exact hR.old (f := (w, fun _ => True)) (by simp) trivial (hrg j x hx)) (fun h => by cases h) (by rw [flat_length itF_len]; show _ = (min L.length L.length) * 15; rw [Nat.min_self]) (by rw [flat_length itF_len]; simp only; omega) (items_one L hrows) rfl rfl trivial Try.underlying64 (by kernel_rfl) (by kernel_rfl) (by kernel_rfl) (by kernel_rfl) (L.flatMap itF) (spl_all _ _ (by rw [flat_length itF_len, hzs])) [⟨J2, 0, (L.flatMap itF), 116, true⟩, ⟨n2a, 0, kc29, 116, true⟩, ⟨n2b, 0, kc6, 63, true⟩, ⟨H0 + 1, 0, kc2, 63, true⟩, ⟨H0, 0, kc3, 60, true⟩] rfl ?_
  clear hE hR; intro a u hE hR
  refine opsNil ?_; refine thenN ?_; refine wp_seq ?_
  refine enterR (idx := [0, 1, 2, 3, 4, 5]) (by kernel_rfl) ?_
  let kv30 : Value := .agg #[.int .i64 d.y.o.kind, .int .i64 d.y.o.cap, .int .i64 d.y.o.width, .int .i64 d.y.o.retry, .int .i64 d.y.o.src, .int .i64 d.y.o.dst, .int .u32 d.y.o.i0, .int .u32 d.y.o.i1, .int .u32 d.y.o.i2, .int .u32 d.y.o.i3, .slice y2c d.y.row.length y2d, .int .u32 d.y.v.a, .int .u32 d.y.v.b, .int .u32 d.y.v.c, .int .u32 d.y.v.d]
  refine segV hE hR [(0, .op []), (1, .op []), (2, .op [.k 4 1]), (3, .op (hks 1 0 15)), (4, .alt (.pointer (some ⟨J2, 0 + i * 15, none⟩)))] [5] [(69, kv30), (70, .pointer (some ⟨J2, 0 + i * 15, none⟩))] [(0 ≤ (((i : Nat) : Int) : Int) ∧ (((i : Nat) : Int) : Int) < ((L.length : Nat) : Int)) ∧ (Try.prog.info? 116).isSome = true, (.pointer (some ⟨J2, 0 + (((i : Nat) : Int)).toNat * Try.prog.cellsOf 116, none⟩) : Value) = (.pointer (some ⟨J2, 0 + i * 15, none⟩) : Value)] (by kernel_rfl) (by kernel_rfl) (by kernel_rfl) ⟨⟨⟨by omega, by omega⟩, by kernel_rfl⟩, by kernel_rfl, trivial⟩ ?_
  clear hE hR; intro a u hE hR
  refine opsCons ?_
  refine stS hE hR 0 ⟨J2, 0, (L.flatMap itF), 116, true⟩ rfl (i * 15) (kv30) [] rfl rfl trivial (by kernel_rfl) (by kernel_rfl) (by kernel_rfl) (rowVal_one (x := d.y) hrow2q2) (by rw [flat_length itF_len]; show i * 15 + 15 ≤ _; omega) ((L.set i (d.y, .slice y2c d.y.row.length y2d)).flatMap itF) ((congrArg (spl _ _) (itC_eq d.y (.slice y2c d.y.row.length y2d)).symm).trans (flat_set itF_len hi (d.y, .slice y2c d.y.row.length y2d))) [⟨J2, 0, ((L.set i (d.y, .slice y2c d.y.row.length y2d)).flatMap itF), 116, true⟩, ⟨n2a, 0, kc29, 116, true⟩, ⟨n2b, 0, kc6, 63, true⟩, ⟨H0 + 1, 0, kc2, 63, true⟩, ⟨H0, 0, kc3, 60, true⟩] rfl ?_
  clear hE hR; intro a u hE hR
  refine opsNil ?_; refine thenN ?_; refine wp_seq ?_
  refine enterD (kl := [⟨J2, 0, ((L.set i (d.y, .slice y2c d.y.row.length y2d)).flatMap itF), 116, true⟩, ⟨n2a, 0, kc29, 116, true⟩, ⟨n2b, 0, kc6, 63, true⟩, ⟨H0, 0, kc3, 60, true⟩]) (by kernel_rfl) hR (F := 4) (listed := #[false, false, false, false]) (by kernel_rfl) (by kernel_rfl) ?_
  clear hR
  intro u hR
  let kv31 : Value := .agg #[.int .i64 d.f, .int .u32 d.r.a, .int .u32 d.r.b, .int .u32 d.r.c, .int .u32 d.r.d]
  refine takesU (by kernel_rfl) (pqT pqF) hE (hR.ss [0, 1, 2, 4] (by kernel_rfl)) [(0, .op []), (1, .op (hks 2 0 5)), (2, .op [])] 1 [(4, .slice (some ⟨J2, 0, none⟩) L.length L.length), (72, kv31)] #[true, true, true, false] [] (by kernel_rfl) (by kernel_rfl) (by kernel_rfl) trivial ?_
  clear hE; intro a hE
  refine wpAnyH_all (rs := [3]) (by kernel_rfl) (by simp) (allCons ?_ allNil)
  refine oneU hE hR (.op (hks 3 0 5)) [] [⟨J2, 0, ((L.set i (d.y, .slice y2c d.y.row.length y2d)).flatMap itF), 116, true⟩, ⟨n2a, 0, kc29, 116, true⟩, ⟨n2b, 0, kc6, 63, true⟩, ⟨H0 + 1, 0, kc6, 63, true⟩, ⟨H0, 0, kc3, 60, true⟩] (J2 + 1) [] (by kernel_rfl) (by kernel_rfl) trivial ?_
  clear hE hR; intro a u hE hR
  refine ⟨(hR.ss [0, 1, 2, 4] (by kernel_rfl)), ?_⟩
  show wpAnyH _ _ _ _ _ _ #[true, true, true, true] _ _
  refine wpAnyH_done (by kernel_rfl) ?_ _
  refine thenN ?_; refine wp_ret ?_
  refine retF hE hR (hks 3 0 5) (.tuple #[.slice (some ⟨J2, 0, none⟩) L.length L.length, .agg #[.int .i64 d.f, .int .u32 d.r.a, .int .u32 d.r.b, .int .u32 d.r.c, .int .u32 d.r.d]]) (by kernel_rfl) (by kernel_rfl) (by kernel_rfl) ?_
  exact ⟨_, _, rfl, hR.rangeK 0 rfl, rowR hR (by simp) hrow hrow2q2 hap2q2, hR.below (by simp)⟩
end Go.Proofs.Ytkfaaeklkplhnaa
