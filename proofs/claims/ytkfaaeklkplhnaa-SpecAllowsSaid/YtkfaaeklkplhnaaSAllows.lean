/- spec.Allows, leaf by leaf. Printed by gen_allows.py. -/
import Derived.Test.YtkfaaeklkplhnaaSDoAll
namespace Go.Proofs.Ytkfaaeklkplhnaa
open Go.RowKit

theorem retB {s : Value} {b' b : Bool} (h : b' = b) : Ending.returned (.tuple #[s, .bool b']) = .returned (.tuple #[s, .bool b]) := by rw [h]
set_option maxRecDepth 100000 in
theorem allows_yes (A : Option Addr) (n c : Nat) (L : List IV) (d : DoX) (ck co : Int) (cv : Vl) (cn f : Int) (r : Vl) (w : World) (hs : ItemsR w (.slice A n c) L) (HDO : ∀ W, ItemsR W (.slice A n c) L → Calls Try.prog 25 #[.slice A n c, callA ck co cv cn] W (DoR d W)) (h1 : (((f : Int) == d.f) && ((((r.a : Int) == d.r.a) && (((r.b : Int) == d.r.b) && (((r.c : Int) == d.r.c) && (((r.d : Int) == d.r.d) && (true))))) && (true))) = true) :
    Calls Try.prog 27 #[.slice A n c, .agg #[.int .i64 ck, .int .i64 co, .int .u32 cv.a, .int .u32 cv.b, .int .u32 cv.c, .int .u32 cv.d, .int .u32 cn], .agg #[.int .i64 f, .int .u32 r.a, .int .u32 r.b, .int .u32 r.c, .int .u32 r.d]] w fun e W' => ∃ s2 L2, e = .returned (.tuple #[s2, .bool true]) ∧ ItemsR W' s2 L2 ∧ itms L2 = d.l ∧ Below w.heap.size w W' := by
  let kv1 : Value := .agg #[.int .i64 ck, .int .i64 co, .int .u32 cv.a, .int .u32 cv.b, .int .u32 cv.c, .int .u32 cv.d, .int .u32 cn]
  let kv2 : Value := .agg #[.int .i64 f, .int .u32 r.a, .int .u32 r.b, .int .u32 r.c, .int .u32 r.d]
  refine enterF Try.func27 rfl Try.ntmps27 [(0, .slice A n c), (1, kv1), (2, kv2)] (by kernel_rfl) (by kernel_rfl) ?_
  have hR := Rep.start w
  obtain ⟨H0, hH0⟩ : ∃ x, x = w.heap.size := ⟨_, rfl⟩
  rw [← hH0] at hR
  intro a hE
  refine wp_seq ?_
  refine enterR (idx := [0, 1, 2, 3]) (by kernel_rfl) ?_
  let kc3 : List Value := [.int .i64 f, .int .u32 r.a, .int .u32 r.b, .int .u32 r.c, .int .u32 r.d]
  let kc4 : List Value := [.int .i64 ck, .int .i64 co, .int .u32 cv.a, .int .u32 cv.b, .int .u32 cv.c, .int .u32 cv.d, .int .u32 cn]
  refine segU hE hR [(0, .op []), (1, .op []), (2, .op []), (3, .op [])] [] [(4, .pointer (some ⟨H0, 0, none⟩)), (5, .pointer (some ⟨H0 + 1, 0, none⟩)), (6, .slice none 0 0), (7, .bool false)] [⟨H0 + 1, 0, kc3, 63, true⟩, ⟨H0, 0, kc4, 60, true⟩] (H0 + 2) [] (by kernel_rfl) (by kernel_rfl) (by kernel_rfl) trivial ?_
  clear hE hR; intro a u hE hR
  refine opsNil ?_; refine thenN ?_; refine wp_seq ?_
  refine enterR (idx := [0, 1, 2, 3, 4, 5, 6, 7, 8]) (by kernel_rfl) ?_
  refine segV hE hR [(0, .op []), (1, .op (hks 1 0 7))] [2, 3, 4, 5, 6, 7, 8] [(12, .slice A n c), (13, kv1)] [] (by kernel_rfl) (by kernel_rfl) (by kernel_rfl) trivial ?_
  clear hE hR; intro a u hE hR
  refine opsCons ?_
  refine call hE hR [] 25 #[.slice A n c, kv1] (some 14) [] (by kernel_rfl) (by kernel_rfl) trivial (HDO _ (hs.below (hR.below (by simp)))) (by rintro _ _ ⟨_, _, h, _⟩; cases h) (by rintro _ ⟨_, _, h, _⟩; cases h) ?_
  clear hE
  rintro v uD ⟨s2, L2, hv, hit2, hl2, hb⟩ a hE
  cases hv
  obtain ⟨H1, hH1, hR⟩ := hR.callE hb
  replace hR : Rep ((uD, fun _ => True) :: [(w, fun _ => True)]) uD H1 [] [⟨H0 + 1, 0, kc3⟩, ⟨H0, 0, kc4⟩] := hR.freeze
  let kc5 : List Value := [.int .i64 d.f, .int .u32 d.r.a, .int .u32 d.r.b, .int .u32 d.r.c, .int .u32 d.r.d]
  refine segU hE hR [(3, .op []), (4, .op []), (5, .op []), (6, .op []), (7, .op []), (8, .op (hks 0 0 5))] [] [(9, .pointer (some ⟨H1, 0, none⟩)), (8, s2)] [⟨H1, 0, kc5, 63, true⟩] (H1 + 1) [] (by kernel_rfl) (by kernel_rfl) (by kernel_rfl) trivial ?_
  clear hE hR; intro a u hE hR
  refine opsNil ?_; refine thenN ?_; refine wp_seq ?_
  rcases Bool.eq_false_or_eq_true ((d.f : Int) == 6) with hc2 | hc2
  · show Code.wp _ _ _ _ _
    have ehc2 := beq_iff_eq.1 hc2
    refine enterR (idx := [0, 1, 2, 3, 4, 5, 6, 7, 8]) (by kernel_rfl) ?_
    refine segV hE hR [(0, .op []), (1, .op [.k 0 0]), (2, .op []), (3, .op []), (4, .skip), (5, .skip), (6, .skip), (7, .as [] (.bool true)), (8, .op [])] [] [(10, .bool true)] [((if ((d.f : Int) == 6) = true then (.bool true : Value) else (.tuple #[] : Value)) : Value) = (.bool true : Value), ((d.f : Int) == 6) = !false, ((d.f : Int) == 6) = !false, ((d.f : Int) == 6) = !false] (by kernel_rfl) (by kernel_rfl) (by kernel_rfl) ⟨if_pos (hc2), hc2, hc2, hc2, trivial⟩ ?_
    clear hE hR; intro a u hE hR
    refine opsNil ?_; refine thenN ?_; refine wp_seq ?_; refine wp_seq ?_
    refine enterR (idx := [0]) (by kernel_rfl) ?_
    refine segV hE hR [(0, .op [.r 0 0, .r 0 1, .r 0 2, .r 0 3, .r 0 4])] [] [(25, kv2)] [] (by kernel_rfl) (by kernel_rfl) (by kernel_rfl) trivial ?_
    clear hE hR; intro a u hE hR
    refine opsNil ?_; refine thenN ?_; refine wp_block ?_; refine wp_seq ?_
    refine enterR (idx := [0, 1, 2]) (by kernel_rfl) ?_
    let kv6 : Value := .bool (((f : Int) == d.f) && ((((r.a : Int) == d.r.a) && (((r.b : Int) == d.r.b) && (((r.c : Int) == d.r.c) && (((r.d : Int) == d.r.d) && (true))))) && (true)))
    refine segV hE hR [(0, .op (hks 0 0 5)), (1, .alt (.bool (((f : Int) == d.f) && ((((r.a : Int) == d.r.a) && (((r.b : Int) == d.r.b) && (((r.c : Int) == d.r.c) && (((r.d : Int) == d.r.d) && (true))))) && (true))))), (2, .op [])] [] [(26, kv6)] [True, (.bool (((f : Int) == d.f) && ((((r.a : Int) == d.r.a) && (((r.b : Int) == d.r.b) && (((r.c : Int) == d.r.c) && (((r.d : Int) == d.r.d) && (true))))) && (true))) : Value) = (.bool (((f : Int) == d.f) && ((((r.a : Int) == d.r.a) && (((r.b : Int) == d.r.b) && (((r.c : Int) == d.r.c) && (((r.d : Int) == d.r.d) && (true))))) && (true))) : Value)] (by kernel_rfl) (by kernel_rfl) (by kernel_rfl) ⟨trivial, rfl, trivial⟩ ?_
    clear hE hR; intro a u hE hR
    refine opsNil ?_; refine thenN ?_
    refine condT hE (b := ((f : Int) == d.f) && ((((r.a : Int) == d.r.a) && (((r.b : Int) == d.r.b) && (((r.c : Int) == d.r.c) && (((r.d : Int) == d.r.d) && (true))))) && (true))) (by kernel_rfl) (h1) ?_
    refine wp_seq ?_
    refine enterR (idx := [0, 1, 2]) (by kernel_rfl) ?_
    refine segV hE hR [(0, .op []), (1, .op []), (2, .op [])] [] [(6, s2), (7, .bool true)] [] (by kernel_rfl) (by kernel_rfl) (by kernel_rfl) trivial ?_
    clear hE hR; intro a u hE hR
    refine opsNil ?_; refine thenN ?_; refine wp_ret ?_; refine blkR ?_; refine thenR ?_
    refine retF hE hR [] (.tuple #[s2, .bool true]) (by kernel_rfl) (by kernel_rfl) (by kernel_rfl) ?_
    exact ⟨_, L2, rfl, hit2.below (hR.below (by simp)), hl2, hR.below (by simp)⟩
  · show Code.wp _ _ _ _ _
    have ehc2 := beq_eq_false_iff_ne.1 hc2
    refine enterR (idx := [0, 1, 2, 3, 4, 5, 6, 7, 8]) (by kernel_rfl) ?_
    refine seg0 hE hR [(0, .op []), (1, .op [.k 0 0]), (2, .op []), (3, .op []), (4, .op []), (5, .op [.k 0 0]), (6, .op []), (7, .as [] (.bool ((d.f : Int) == 7))), (8, .op [])] [] [(0, .slice A n c), (4, .pointer (some ⟨H0, 0, none⟩)), (5, .pointer (some ⟨H0 + 1, 0, none⟩)), (6, .slice none 0 0), (7, .bool false), (9, .pointer (some ⟨H1, 0, none⟩)), (8, s2), (10, .bool ((d.f : Int) == 7))] [((if ((d.f : Int) == 6) = true then (.bool true : Value) else (.bool ((d.f : Int) == 7) : Value)) : Value) = (.bool ((d.f : Int) == 7) : Value), ((d.f : Int) == 6) = false, ((d.f : Int) == 6) = false, ((d.f : Int) == 6) = false] (by kernel_rfl) (by kernel_rfl) (by kernel_rfl) ⟨if_neg (by rw [hc2]; decide), hc2, hc2, hc2, trivial⟩ ?_
    clear hE hR; intro a u hE hR
    refine opsNil ?_; refine thenN ?_; refine wp_seq ?_; refine wp_seq ?_
    refine enterR (idx := [0]) (by kernel_rfl) ?_
    refine segV hE hR [(0, .op [.r 0 0, .r 0 1, .r 0 2, .r 0 3, .r 0 4])] [] [(25, kv2)] [] (by kernel_rfl) (by kernel_rfl) (by kernel_rfl) trivial ?_
    clear hE hR; intro a u hE hR
    refine opsNil ?_; refine thenN ?_; refine wp_block ?_; refine wp_seq ?_
    refine enterR (idx := [0, 1, 2]) (by kernel_rfl) ?_
    let kv7 : Value := .bool (((f : Int) == d.f) && ((((r.a : Int) == d.r.a) && (((r.b : Int) == d.r.b) && (((r.c : Int) == d.r.c) && (((r.d : Int) == d.r.d) && (true))))) && (true)))
    refine segV hE hR [(0, .op (hks 0 0 5)), (1, .alt (.bool (((f : Int) == d.f) && ((((r.a : Int) == d.r.a) && (((r.b : Int) == d.r.b) && (((r.c : Int) == d.r.c) && (((r.d : Int) == d.r.d) && (true))))) && (true))))), (2, .op [])] [] [(26, kv7)] [True, (.bool (((f : Int) == d.f) && ((((r.a : Int) == d.r.a) && (((r.b : Int) == d.r.b) && (((r.c : Int) == d.r.c) && (((r.d : Int) == d.r.d) && (true))))) && (true))) : Value) = (.bool (((f : Int) == d.f) && ((((r.a : Int) == d.r.a) && (((r.b : Int) == d.r.b) && (((r.c : Int) == d.r.c) && (((r.d : Int) == d.r.d) && (true))))) && (true))) : Value)] (by kernel_rfl) (by kernel_rfl) (by kernel_rfl) ⟨trivial, rfl, trivial⟩ ?_
    clear hE hR; intro a u hE hR
    refine opsNil ?_; refine thenN ?_
    refine condT hE (b := ((f : Int) == d.f) && ((((r.a : Int) == d.r.a) && (((r.b : Int) == d.r.b) && (((r.c : Int) == d.r.c) && (((r.d : Int) == d.r.d) && (true))))) && (true))) (by kernel_rfl) (h1) ?_
    refine wp_seq ?_
    refine enterR (idx := [0, 1, 2]) (by kernel_rfl) ?_
    refine segV hE hR [(0, .op []), (1, .op []), (2, .op [])] [] [(6, s2), (7, .bool true)] [] (by kernel_rfl) (by kernel_rfl) (by kernel_rfl) trivial ?_
    clear hE hR; intro a u hE hR
    refine opsNil ?_; refine thenN ?_; refine wp_ret ?_; refine blkR ?_; refine thenR ?_
    refine retF hE hR [] (.tuple #[s2, .bool true]) (by kernel_rfl) (by kernel_rfl) (by kernel_rfl) ?_
    exact ⟨_, L2, rfl, hit2.below (hR.below (by simp)), hl2, hR.below (by simp)⟩
set_option maxRecDepth 100000 in
theorem allows_busy (A : Option Addr) (n c : Nat) (L : List IV) (d : DoX) (ck co : Int) (cv : Vl) (cn f : Int) (r : Vl) (w : World) (hs : ItemsR w (.slice A n c) L) (HDO : ∀ W, ItemsR W (.slice A n c) L → Calls Try.prog 25 #[.slice A n c, callA ck co cv cn] W (DoR d W)) (h1 : (((f : Int) == d.f) && ((((r.a : Int) == d.r.a) && (((r.b : Int) == d.r.b) && (((r.c : Int) == d.r.c) && (((r.d : Int) == d.r.d) && (true))))) && (true))) = false) (h8 : (((f : Int) == 8) && ((((r.a : Int) == 0) && (((r.b : Int) == 0) && (((r.c : Int) == 0) && (((r.d : Int) == 0) && (true))))) && (true))) = true) :
    Calls Try.prog 27 #[.slice A n c, .agg #[.int .i64 ck, .int .i64 co, .int .u32 cv.a, .int .u32 cv.b, .int .u32 cv.c, .int .u32 cv.d, .int .u32 cn], .agg #[.int .i64 f, .int .u32 r.a, .int .u32 r.b, .int .u32 r.c, .int .u32 r.d]] w fun e W' => e = .returned (.tuple #[.slice A n c, .bool (decide (d.f = 0) && (decide (ck = 5) || decide (ck = 6)))]) ∧ Below w.heap.size w W' := by
  let kv1 : Value := .agg #[.int .i64 ck, .int .i64 co, .int .u32 cv.a, .int .u32 cv.b, .int .u32 cv.c, .int .u32 cv.d, .int .u32 cn]
  let kv2 : Value := .agg #[.int .i64 f, .int .u32 r.a, .int .u32 r.b, .int .u32 r.c, .int .u32 r.d]
  refine enterF Try.func27 rfl Try.ntmps27 [(0, .slice A n c), (1, kv1), (2, kv2)] (by kernel_rfl) (by kernel_rfl) ?_
  have hR := Rep.start w
  obtain ⟨H0, hH0⟩ : ∃ x, x = w.heap.size := ⟨_, rfl⟩
  rw [← hH0] at hR
  intro a hE
  refine wp_seq ?_
  refine enterR (idx := [0, 1, 2, 3]) (by kernel_rfl) ?_
  let kc3 : List Value := [.int .i64 f, .int .u32 r.a, .int .u32 r.b, .int .u32 r.c, .int .u32 r.d]
  let kc4 : List Value := [.int .i64 ck, .int .i64 co, .int .u32 cv.a, .int .u32 cv.b, .int .u32 cv.c, .int .u32 cv.d, .int .u32 cn]
  refine segU hE hR [(0, .op []), (1, .op []), (2, .op []), (3, .op [])] [] [(4, .pointer (some ⟨H0, 0, none⟩)), (5, .pointer (some ⟨H0 + 1, 0, none⟩)), (6, .slice none 0 0), (7, .bool false)] [⟨H0 + 1, 0, kc3, 63, true⟩, ⟨H0, 0, kc4, 60, true⟩] (H0 + 2) [] (by kernel_rfl) (by kernel_rfl) (by kernel_rfl) trivial ?_
  clear hE hR; intro a u hE hR
  refine opsNil ?_; refine thenN ?_; refine wp_seq ?_
  refine enterR (idx := [0, 1, 2, 3, 4, 5, 6, 7, 8]) (by kernel_rfl) ?_
  refine segV hE hR [(0, .op []), (1, .op (hks 1 0 7))] [2, 3, 4, 5, 6, 7, 8] [(12, .slice A n c), (13, kv1)] [] (by kernel_rfl) (by kernel_rfl) (by kernel_rfl) trivial ?_
  clear hE hR; intro a u hE hR
  refine opsCons ?_
  refine call hE hR [] 25 #[.slice A n c, kv1] (some 14) [] (by kernel_rfl) (by kernel_rfl) trivial (HDO _ (hs.below (hR.below (by simp)))) (by rintro _ _ ⟨_, _, h, _⟩; cases h) (by rintro _ ⟨_, _, h, _⟩; cases h) ?_
  clear hE
  rintro v uD ⟨s2, L2, hv, hit2, hl2, hb⟩ a hE
  cases hv
  obtain ⟨H1, hH1, hR⟩ := hR.callE hb
  replace hR : Rep ((uD, fun _ => True) :: [(w, fun _ => True)]) uD H1 [] [⟨H0 + 1, 0, kc3⟩, ⟨H0, 0, kc4⟩] := hR.freeze
  let kc5 : List Value := [.int .i64 d.f, .int .u32 d.r.a, .int .u32 d.r.b, .int .u32 d.r.c, .int .u32 d.r.d]
  refine segU hE hR [(3, .op []), (4, .op []), (5, .op []), (6, .op []), (7, .op []), (8, .op (hks 0 0 5))] [] [(9, .pointer (some ⟨H1, 0, none⟩)), (8, s2)] [⟨H1, 0, kc5, 63, true⟩] (H1 + 1) [] (by kernel_rfl) (by kernel_rfl) (by kernel_rfl) trivial ?_
  clear hE hR; intro a u hE hR
  refine opsNil ?_; refine thenN ?_; refine wp_seq ?_
  rcases Bool.eq_false_or_eq_true ((d.f : Int) == 6) with hc2 | hc2
  · show Code.wp _ _ _ _ _
    have ehc2 := beq_iff_eq.1 hc2
    refine enterR (idx := [0, 1, 2, 3, 4, 5, 6, 7, 8]) (by kernel_rfl) ?_
    refine segV hE hR [(0, .op []), (1, .op [.k 0 0]), (2, .op []), (3, .op []), (4, .skip), (5, .skip), (6, .skip), (7, .as [] (.bool true)), (8, .op [])] [] [(10, .bool true)] [((if ((d.f : Int) == 6) = true then (.bool true : Value) else (.tuple #[] : Value)) : Value) = (.bool true : Value), ((d.f : Int) == 6) = !false, ((d.f : Int) == 6) = !false, ((d.f : Int) == 6) = !false] (by kernel_rfl) (by kernel_rfl) (by kernel_rfl) ⟨if_pos (hc2), hc2, hc2, hc2, trivial⟩ ?_
    clear hE hR; intro a u hE hR
    refine opsNil ?_; refine thenN ?_; refine wp_seq ?_; refine wp_seq ?_
    refine enterR (idx := [0]) (by kernel_rfl) ?_
    refine segV hE hR [(0, .op [.r 0 0, .r 0 1, .r 0 2, .r 0 3, .r 0 4])] [] [(25, kv2)] [] (by kernel_rfl) (by kernel_rfl) (by kernel_rfl) trivial ?_
    clear hE hR; intro a u hE hR
    refine opsNil ?_; refine thenN ?_; refine wp_block ?_; refine wp_seq ?_
    refine enterR (idx := [0, 1, 2]) (by kernel_rfl) ?_
    let kv6 : Value := .bool (((f : Int) == d.f) && ((((r.a : Int) == d.r.a) && (((r.b : Int) == d.r.b) && (((r.c : Int) == d.r.c) && (((r.d : Int) == d.r.d) && (true))))) && (true)))
    refine segV hE hR [(0, .op (hks 0 0 5)), (1, .alt (.bool (((f : Int) == d.f) && ((((r.a : Int) == d.r.a) && (((r.b : Int) == d.r.b) && (((r.c : Int) == d.r.c) && (((r.d : Int) == d.r.d) && (true))))) && (true))))), (2, .op [])] [] [(26, kv6)] [True, (.bool (((f : Int) == d.f) && ((((r.a : Int) == d.r.a) && (((r.b : Int) == d.r.b) && (((r.c : Int) == d.r.c) && (((r.d : Int) == d.r.d) && (true))))) && (true))) : Value) = (.bool (((f : Int) == d.f) && ((((r.a : Int) == d.r.a) && (((r.b : Int) == d.r.b) && (((r.c : Int) == d.r.c) && (((r.d : Int) == d.r.d) && (true))))) && (true))) : Value)] (by kernel_rfl) (by kernel_rfl) (by kernel_rfl) ⟨trivial, rfl, trivial⟩ ?_
    clear hE hR; intro a u hE hR
    refine opsNil ?_; refine thenN ?_
    refine condF hE (b := ((f : Int) == d.f) && ((((r.a : Int) == d.r.a) && (((r.b : Int) == d.r.b) && (((r.c : Int) == d.r.c) && (((r.d : Int) == d.r.d) && (true))))) && (true))) (by kernel_rfl) (h1) ?_
    refine wp_seq ?_
    refine enterR (idx := [0, 1, 2]) (by kernel_rfl) ?_
    let kv7 : Value := .bool (((f : Int) == 8) && ((((r.a : Int) == 0) && (((r.b : Int) == 0) && (((r.c : Int) == 0) && (((r.d : Int) == 0) && (true))))) && (true)))
    refine segV hE hR [(0, .op []), (1, .alt (.bool (((f : Int) == 8) && ((((r.a : Int) == 0) && (((r.b : Int) == 0) && (((r.c : Int) == 0) && (((r.d : Int) == 0) && (true))))) && (true))))), (2, .op [])] [] [(30, kv7)] [True, (.bool (((f : Int) == 8) && ((((r.a : Int) == 0) && (((r.b : Int) == 0) && (((r.c : Int) == 0) && (((r.d : Int) == 0) && (true))))) && (true))) : Value) = (.bool (((f : Int) == 8) && ((((r.a : Int) == 0) && (((r.b : Int) == 0) && (((r.c : Int) == 0) && (((r.d : Int) == 0) && (true))))) && (true))) : Value)] (by kernel_rfl) (by kernel_rfl) (by kernel_rfl) ⟨trivial, rfl, trivial⟩ ?_
    clear hE hR; intro a u hE hR
    refine opsNil ?_; refine thenN ?_
    refine condT hE (b := ((f : Int) == 8) && ((((r.a : Int) == 0) && (((r.b : Int) == 0) && (((r.c : Int) == 0) && (((r.d : Int) == 0) && (true))))) && (true))) (by kernel_rfl) (h8) ?_
    refine wp_seq ?_
    rcases Bool.eq_false_or_eq_true ((d.f : Int) == 0) with hc3 | hc3
    · show Code.wp _ _ _ _ _
      have ehc3 := beq_iff_eq.1 hc3
      rcases Bool.eq_false_or_eq_true ((ck : Int) == 5) with hc4 | hc4
      · show Code.wp _ _ _ _ _
        have ehc4 := beq_iff_eq.1 hc4
        refine enterD (kl := [⟨H1, 0, kc5, 63, true⟩]) (by kernel_rfl) hR (F := 16) (listed := #[false, false, false, false, false, false, false, false, false, false, false, false, false, false, false, false]) (by kernel_rfl) (by kernel_rfl) ?_
        clear hR
        intro u hR
        refine takes (by kernel_rfl) (pqT (pqB (pqT pqF))) hE (hR.ss [0] (by kernel_rfl)) [(0, .op []), (1, .op []), (2, .op [.k 0 0]), (3, .op []), (4, .op []), (5, .op []), (6, .op [.r 1 0]), (7, .op []), (8, .op []), (9, .skip), (10, .skip), (11, .skip), (12, .as [] (.bool true)), (13, .as [] (.bool true)), (14, .op []), (15, .op [])] 0 [(0, .slice A n c), (4, .pointer (some ⟨H0, 0, none⟩)), (6, .slice A n c), (7, .bool true), (9, .pointer (some ⟨H1, 0, none⟩)), (8, s2), (10, .bool true), (25, kv2), (26, kv6), (30, kv7)] #[true, true, true, true, true, true, true, true, true, true, true, true, true, true, true, true] [((if ((d.f : Int) == 0) = true then (.bool true : Value) else (.bool false : Value)) : Value) = (.bool true : Value), ((if ((ck : Int) == 5) = true then (.bool true : Value) else (.tuple #[] : Value)) : Value) = (.bool true : Value), ((d.f : Int) == 0) = true, ((ck : Int) == 5) = !false, ((ck : Int) == 5) = !false, ((ck : Int) == 5) = !false, ((d.f : Int) == 0) = true, ((d.f : Int) == 0) = true, ((d.f : Int) == 0) = true, ((d.f : Int) == 0) = true] (by kernel_rfl) (by kernel_rfl) (by kernel_rfl) ⟨if_pos (hc3), if_pos (hc4), hc3, hc4, hc4, hc4, hc3, hc3, hc3, hc3, trivial⟩ ?_
        clear hE; intro a hE
        refine wpAnyH_done (by kernel_rfl) ?_ _
        refine thenN ?_; refine wp_ret ?_; refine blkR ?_; refine thenR ?_
        refine retF hE hR [] (.tuple #[.slice A n c, .bool true]) (by kernel_rfl) (by kernel_rfl) (by kernel_rfl) ?_
        exact ⟨retB (b := decide (d.f = 0) && (decide (ck = 5) || decide (ck = 6))) (by rw [Bool.eq_iff_iff]; first | (simp; done) | (simp; omega)), hR.below (by simp)⟩
      · show Code.wp _ _ _ _ _
        have ehc4 := beq_eq_false_iff_ne.1 hc4
        refine enterD (kl := [⟨H1, 0, kc5, 63, true⟩]) (by kernel_rfl) hR (F := 16) (listed := #[false, false, false, false, false, false, false, false, false, false, false, false, false, false, false, false]) (by kernel_rfl) (by kernel_rfl) ?_
        clear hR
        intro u hR
        refine takesU (by kernel_rfl) (pqT (pqB (pqT pqF))) hE (hR.ss [0] (by kernel_rfl)) [(0, .op []), (1, .op []), (2, .op [.k 0 0]), (3, .op []), (4, .op []), (5, .op []), (6, .op [.r 1 0]), (7, .op []), (8, .op []), (9, .op []), (10, .op [.r 1 0]), (11, .op []), (12, .as [] (.bool ((ck : Int) == 6))), (13, .as [] (.bool ((ck : Int) == 6))), (14, .op []), (15, .op [])] 0 [(6, .slice A n c), (7, .bool ((ck : Int) == 6))] #[true, true, true, true, true, true, true, true, true, true, true, true, true, true, true, true] [((if ((d.f : Int) == 0) = true then (.bool ((ck : Int) == 6) : Value) else (.bool false : Value)) : Value) = (.bool ((ck : Int) == 6) : Value), ((if ((ck : Int) == 5) = true then (.bool true : Value) else (.bool ((ck : Int) == 6) : Value)) : Value) = (.bool ((ck : Int) == 6) : Value), ((d.f : Int) == 0) = true, ((ck : Int) == 5) = false, ((ck : Int) == 5) = false, ((ck : Int) == 5) = false, ((d.f : Int) == 0) = true, ((d.f : Int) == 0) = true, ((d.f : Int) == 0) = true, ((d.f : Int) == 0) = true] (by kernel_rfl) (by kernel_rfl) (by kernel_rfl) ⟨if_pos (hc3), if_neg (by rw [hc4]; decide), hc3, hc4, hc4, hc4, hc3, hc3, hc3, hc3, trivial⟩ ?_
        clear hE; intro a hE
        refine wpAnyH_done (by kernel_rfl) ?_ _
        refine thenN ?_; refine wp_ret ?_; refine blkR ?_; refine thenR ?_
        refine retF hE hR [] (.tuple #[.slice A n c, .bool ((ck : Int) == 6)]) (by kernel_rfl) (by kernel_rfl) (by kernel_rfl) ?_
        exact ⟨retB (b := decide (d.f = 0) && (decide (ck = 5) || decide (ck = 6))) (by rw [Bool.eq_iff_iff]; first | (simp; done) | (simp; omega)), hR.below (by simp)⟩
    · show Code.wp _ _ _ _ _
      have ehc3 := beq_eq_false_iff_ne.1 hc3
      refine enterD (kl := [⟨H1, 0, kc5, 63, true⟩]) (by kernel_rfl) hR (F := 16) (listed := #[false, false, false, false, false, false, false, false, false, false, false, false, false, false, false, false]) (by kernel_rfl) (by kernel_rfl) ?_
      clear hR
      intro u hR
      refine takesU (by kernel_rfl) (pqT (pqB (pqT pqF))) hE (hR.ss [0] (by kernel_rfl)) [(0, .op []), (1, .op []), (2, .op [.k 0 0]), (3, .op []), (4, .op []), (5, .skip), (6, .skip), (7, .skip), (8, .skip), (9, .skip), (10, .skip), (11, .skip), (12, .skip), (13, .as [] (.bool false)), (14, .op []), (15, .op [])] 0 [(6, .slice A n c)] #[true, true, true, true, true, true, true, true, true, true, true, true, true, true, true, true] [((if ((d.f : Int) == 0) = true then (.tuple #[] : Value) else (.bool false : Value)) : Value) = (.bool false : Value), ((d.f : Int) == 0) = !true, ((d.f : Int) == 0) = !true, ((d.f : Int) == 0) = !true, ((d.f : Int) == 0) = !true, ((d.f : Int) == 0) = !true] (by kernel_rfl) (by kernel_rfl) (by kernel_rfl) ⟨if_neg (by rw [hc3]; decide), hc3, hc3, hc3, hc3, hc3, trivial⟩ ?_
      clear hE; intro a hE
      refine wpAnyH_done (by kernel_rfl) ?_ _
      refine thenN ?_; refine wp_ret ?_; refine blkR ?_; refine thenR ?_
      refine retF hE hR [] (.tuple #[.slice A n c, .bool false]) (by kernel_rfl) (by kernel_rfl) (by kernel_rfl) ?_
      exact ⟨retB (b := decide (d.f = 0) && (decide (ck = 5) || decide (ck = 6))) (by rw [Bool.eq_iff_iff]; first | (simp; done) | (simp; omega)), hR.below (by simp)⟩
  · show Code.wp _ _ _ _ _
    have ehc2 := beq_eq_false_iff_ne.1 hc2
    refine enterR (idx := [0, 1, 2, 3, 4, 5, 6, 7, 8]) (by kernel_rfl) ?_
    refine segV hE hR [(0, .op []), (1, .op [.k 0 0]), (2, .op []), (3, .op []), (4, .op []), (5, .op [.k 0 0]), (6, .op []), (7, .as [] (.bool ((d.f : Int) == 7))), (8, .op [])] [] [(10, .bool ((d.f : Int) == 7))] [((if ((d.f : Int) == 6) = true then (.bool true : Value) else (.bool ((d.f : Int) == 7) : Value)) : Value) = (.bool ((d.f : Int) == 7) : Value), ((d.f : Int) == 6) = false, ((d.f : Int) == 6) = false, ((d.f : Int) == 6) = false] (by kernel_rfl) (by kernel_rfl) (by kernel_rfl) ⟨if_neg (by rw [hc2]; decide), hc2, hc2, hc2, trivial⟩ ?_
    clear hE hR; intro a u hE hR
    refine opsNil ?_; refine thenN ?_; refine wp_seq ?_; refine wp_seq ?_
    refine enterR (idx := [0]) (by kernel_rfl) ?_
    refine segV hE hR [(0, .op [.r 0 0, .r 0 1, .r 0 2, .r 0 3, .r 0 4])] [] [(25, kv2)] [] (by kernel_rfl) (by kernel_rfl) (by kernel_rfl) trivial ?_
    clear hE hR; intro a u hE hR
    refine opsNil ?_; refine thenN ?_; refine wp_block ?_; refine wp_seq ?_
    refine enterR (idx := [0, 1, 2]) (by kernel_rfl) ?_
    let kv8 : Value := .bool (((f : Int) == d.f) && ((((r.a : Int) == d.r.a) && (((r.b : Int) == d.r.b) && (((r.c : Int) == d.r.c) && (((r.d : Int) == d.r.d) && (true))))) && (true)))
    refine segV hE hR [(0, .op (hks 0 0 5)), (1, .alt (.bool (((f : Int) == d.f) && ((((r.a : Int) == d.r.a) && (((r.b : Int) == d.r.b) && (((r.c : Int) == d.r.c) && (((r.d : Int) == d.r.d) && (true))))) && (true))))), (2, .op [])] [] [(26, kv8)] [True, (.bool (((f : Int) == d.f) && ((((r.a : Int) == d.r.a) && (((r.b : Int) == d.r.b) && (((r.c : Int) == d.r.c) && (((r.d : Int) == d.r.d) && (true))))) && (true))) : Value) = (.bool (((f : Int) == d.f) && ((((r.a : Int) == d.r.a) && (((r.b : Int) == d.r.b) && (((r.c : Int) == d.r.c) && (((r.d : Int) == d.r.d) && (true))))) && (true))) : Value)] (by kernel_rfl) (by kernel_rfl) (by kernel_rfl) ⟨trivial, rfl, trivial⟩ ?_
    clear hE hR; intro a u hE hR
    refine opsNil ?_; refine thenN ?_
    refine condF hE (b := ((f : Int) == d.f) && ((((r.a : Int) == d.r.a) && (((r.b : Int) == d.r.b) && (((r.c : Int) == d.r.c) && (((r.d : Int) == d.r.d) && (true))))) && (true))) (by kernel_rfl) (h1) ?_
    refine wp_seq ?_
    refine enterR (idx := [0, 1, 2]) (by kernel_rfl) ?_
    let kv9 : Value := .bool (((f : Int) == 8) && ((((r.a : Int) == 0) && (((r.b : Int) == 0) && (((r.c : Int) == 0) && (((r.d : Int) == 0) && (true))))) && (true)))
    refine segV hE hR [(0, .op []), (1, .alt (.bool (((f : Int) == 8) && ((((r.a : Int) == 0) && (((r.b : Int) == 0) && (((r.c : Int) == 0) && (((r.d : Int) == 0) && (true))))) && (true))))), (2, .op [])] [] [(30, kv9)] [True, (.bool (((f : Int) == 8) && ((((r.a : Int) == 0) && (((r.b : Int) == 0) && (((r.c : Int) == 0) && (((r.d : Int) == 0) && (true))))) && (true))) : Value) = (.bool (((f : Int) == 8) && ((((r.a : Int) == 0) && (((r.b : Int) == 0) && (((r.c : Int) == 0) && (((r.d : Int) == 0) && (true))))) && (true))) : Value)] (by kernel_rfl) (by kernel_rfl) (by kernel_rfl) ⟨trivial, rfl, trivial⟩ ?_
    clear hE hR; intro a u hE hR
    refine opsNil ?_; refine thenN ?_
    refine condT hE (b := ((f : Int) == 8) && ((((r.a : Int) == 0) && (((r.b : Int) == 0) && (((r.c : Int) == 0) && (((r.d : Int) == 0) && (true))))) && (true))) (by kernel_rfl) (h8) ?_
    refine wp_seq ?_
    rcases Bool.eq_false_or_eq_true ((d.f : Int) == 0) with hc5 | hc5
    · show Code.wp _ _ _ _ _
      have ehc5 := beq_iff_eq.1 hc5
      rcases Bool.eq_false_or_eq_true ((ck : Int) == 5) with hc6 | hc6
      · show Code.wp _ _ _ _ _
        have ehc6 := beq_iff_eq.1 hc6
        refine enterD (kl := [⟨H1, 0, kc5, 63, true⟩]) (by kernel_rfl) hR (F := 16) (listed := #[false, false, false, false, false, false, false, false, false, false, false, false, false, false, false, false]) (by kernel_rfl) (by kernel_rfl) ?_
        clear hR
        intro u hR
        refine takesU (by kernel_rfl) (pqT (pqB (pqT pqF))) hE (hR.ss [0] (by kernel_rfl)) [(0, .op []), (1, .op []), (2, .op [.k 0 0]), (3, .op []), (4, .op []), (5, .op []), (6, .op [.r 1 0]), (7, .op []), (8, .op []), (9, .skip), (10, .skip), (11, .skip), (12, .as [] (.bool true)), (13, .as [] (.bool true)), (14, .op []), (15, .op [])] 0 [(6, .slice A n c), (7, .bool true)] #[true, true, true, true, true, true, true, true, true, true, true, true, true, true, true, true] [((if ((d.f : Int) == 0) = true then (.bool true : Value) else (.bool false : Value)) : Value) = (.bool true : Value), ((if ((ck : Int) == 5) = true then (.bool true : Value) else (.tuple #[] : Value)) : Value) = (.bool true : Value), ((d.f : Int) == 0) = true, ((ck : Int) == 5) = !false, ((ck : Int) == 5) = !false, ((ck : Int) == 5) = !false, ((d.f : Int) == 0) = true, ((d.f : Int) == 0) = true, ((d.f : Int) == 0) = true, ((d.f : Int) == 0) = true] (by kernel_rfl) (by kernel_rfl) (by kernel_rfl) ⟨if_pos (hc5), if_pos (hc6), hc5, hc6, hc6, hc6, hc5, hc5, hc5, hc5, trivial⟩ ?_
        clear hE; intro a hE
        refine wpAnyH_done (by kernel_rfl) ?_ _
        refine thenN ?_; refine wp_ret ?_; refine blkR ?_; refine thenR ?_
        refine retF hE hR [] (.tuple #[.slice A n c, .bool true]) (by kernel_rfl) (by kernel_rfl) (by kernel_rfl) ?_
        exact ⟨retB (b := decide (d.f = 0) && (decide (ck = 5) || decide (ck = 6))) (by rw [Bool.eq_iff_iff]; first | (simp; done) | (simp; omega)), hR.below (by simp)⟩
      · show Code.wp _ _ _ _ _
        have ehc6 := beq_eq_false_iff_ne.1 hc6
        refine enterD (kl := [⟨H1, 0, kc5, 63, true⟩]) (by kernel_rfl) hR (F := 16) (listed := #[false, false, false, false, false, false, false, false, false, false, false, false, false, false, false, false]) (by kernel_rfl) (by kernel_rfl) ?_
        clear hR
        intro u hR
        refine takes (by kernel_rfl) (pqT (pqB (pqT pqF))) hE (hR.ss [0] (by kernel_rfl)) [(0, .op []), (1, .op []), (2, .op [.k 0 0]), (3, .op []), (4, .op []), (5, .op []), (6, .op [.r 1 0]), (7, .op []), (8, .op []), (9, .op []), (10, .op [.r 1 0]), (11, .op []), (12, .as [] (.bool ((ck : Int) == 6))), (13, .as [] (.bool ((ck : Int) == 6))), (14, .op []), (15, .op [])] 0 [(0, .slice A n c), (4, .pointer (some ⟨H0, 0, none⟩)), (6, .slice A n c), (7, .bool ((ck : Int) == 6)), (9, .pointer (some ⟨H1, 0, none⟩)), (8, s2), (10, .bool ((d.f : Int) == 7)), (25, kv2), (26, kv8), (30, kv9)] #[true, true, true, true, true, true, true, true, true, true, true, true, true, true, true, true] [((if ((d.f : Int) == 0) = true then (.bool ((ck : Int) == 6) : Value) else (.bool false : Value)) : Value) = (.bool ((ck : Int) == 6) : Value), ((if ((ck : Int) == 5) = true then (.bool true : Value) else (.bool ((ck : Int) == 6) : Value)) : Value) = (.bool ((ck : Int) == 6) : Value), ((d.f : Int) == 0) = true, ((ck : Int) == 5) = false, ((ck : Int) == 5) = false, ((ck : Int) == 5) = false, ((d.f : Int) == 0) = true, ((d.f : Int) == 0) = true, ((d.f : Int) == 0) = true, ((d.f : Int) == 0) = true] (by kernel_rfl) (by kernel_rfl) (by kernel_rfl) ⟨if_pos (hc5), if_neg (by rw [hc6]; decide), hc5, hc6, hc6, hc6, hc5, hc5, hc5, hc5, trivial⟩ ?_
        clear hE; intro a hE
        refine wpAnyH_done (by kernel_rfl) ?_ _
        refine thenN ?_; refine wp_ret ?_; refine blkR ?_; refine thenR ?_
        refine retF hE hR [] (.tuple #[.slice A n c, .bool ((ck : Int) == 6)]) (by kernel_rfl) (by kernel_rfl) (by kernel_rfl) ?_
        exact ⟨retB (b := decide (d.f = 0) && (decide (ck = 5) || decide (ck = 6))) (by rw [Bool.eq_iff_iff]; first | (simp; done) | (simp; omega)), hR.below (by simp)⟩
    · show Code.wp _ _ _ _ _
      have ehc5 := beq_eq_false_iff_ne.1 hc5
      refine enterD (kl := [⟨H1, 0, kc5, 63, true⟩]) (by kernel_rfl) hR (F := 16) (listed := #[false, false, false, false, false, false, false, false, false, false, false, false, false, false, false, false]) (by kernel_rfl) (by kernel_rfl) ?_
      clear hR
      intro u hR
      refine takesU (by kernel_rfl) (pqT (pqB (pqT pqF))) hE (hR.ss [0] (by kernel_rfl)) [(0, .op []), (1, .op []), (2, .op [.k 0 0]), (3, .op []), (4, .op []), (5, .skip), (6, .skip), (7, .skip), (8, .skip), (9, .skip), (10, .skip), (11, .skip), (12, .skip), (13, .as [] (.bool false)), (14, .op []), (15, .op [])] 0 [(6, .slice A n c)] #[true, true, true, true, true, true, true, true, true, true, true, true, true, true, true, true] [((if ((d.f : Int) == 0) = true then (.tuple #[] : Value) else (.bool false : Value)) : Value) = (.bool false : Value), ((d.f : Int) == 0) = !true, ((d.f : Int) == 0) = !true, ((d.f : Int) == 0) = !true, ((d.f : Int) == 0) = !true, ((d.f : Int) == 0) = !true] (by kernel_rfl) (by kernel_rfl) (by kernel_rfl) ⟨if_neg (by rw [hc5]; decide), hc5, hc5, hc5, hc5, hc5, trivial⟩ ?_
      clear hE; intro a hE
      refine wpAnyH_done (by kernel_rfl) ?_ _
      refine thenN ?_; refine wp_ret ?_; refine blkR ?_; refine thenR ?_
      refine retF hE hR [] (.tuple #[.slice A n c, .bool false]) (by kernel_rfl) (by kernel_rfl) (by kernel_rfl) ?_
      exact ⟨retB (b := decide (d.f = 0) && (decide (ck = 5) || decide (ck = 6))) (by rw [Bool.eq_iff_iff]; first | (simp; done) | (simp; omega)), hR.below (by simp)⟩
set_option maxRecDepth 100000 in
theorem allows_time (A : Option Addr) (n c : Nat) (L : List IV) (d : DoX) (ck co : Int) (cv : Vl) (cn f : Int) (r : Vl) (w : World) (hs : ItemsR w (.slice A n c) L) (HDO : ∀ W, ItemsR W (.slice A n c) L → Calls Try.prog 25 #[.slice A n c, callA ck co cv cn] W (DoR d W)) (h1 : (((f : Int) == d.f) && ((((r.a : Int) == d.r.a) && (((r.b : Int) == d.r.b) && (((r.c : Int) == d.r.c) && (((r.d : Int) == d.r.d) && (true))))) && (true))) = false) (h8 : (((f : Int) == 8) && ((((r.a : Int) == 0) && (((r.b : Int) == 0) && (((r.c : Int) == 0) && (((r.d : Int) == 0) && (true))))) && (true))) = false) (h9 : (((f : Int) == 9) && ((((r.a : Int) == 0) && (((r.b : Int) == 0) && (((r.c : Int) == 0) && (((r.d : Int) == 0) && (true))))) && (true))) = true) :
    Calls Try.prog 27 #[.slice A n c, .agg #[.int .i64 ck, .int .i64 co, .int .u32 cv.a, .int .u32 cv.b, .int .u32 cv.c, .int .u32 cv.d, .int .u32 cn], .agg #[.int .i64 f, .int .u32 r.a, .int .u32 r.b, .int .u32 r.c, .int .u32 r.d]] w fun e W' => e = .returned (.tuple #[.slice A n c, .bool ((decide (d.f = 6) || decide (d.f = 7)) && (decide (14 ≤ ck) && decide (ck ≤ 17)))]) ∧ Below w.heap.size w W' := by
  let kv1 : Value := .agg #[.int .i64 ck, .int .i64 co, .int .u32 cv.a, .int .u32 cv.b, .int .u32 cv.c, .int .u32 cv.d, .int .u32 cn]
  let kv2 : Value := .agg #[.int .i64 f, .int .u32 r.a, .int .u32 r.b, .int .u32 r.c, .int .u32 r.d]
  refine enterF Try.func27 rfl Try.ntmps27 [(0, .slice A n c), (1, kv1), (2, kv2)] (by kernel_rfl) (by kernel_rfl) ?_
  have hR := Rep.start w
  obtain ⟨H0, hH0⟩ : ∃ x, x = w.heap.size := ⟨_, rfl⟩
  rw [← hH0] at hR
  intro a hE
  refine wp_seq ?_
  refine enterR (idx := [0, 1, 2, 3]) (by kernel_rfl) ?_
  let kc3 : List Value := [.int .i64 f, .int .u32 r.a, .int .u32 r.b, .int .u32 r.c, .int .u32 r.d]
  let kc4 : List Value := [.int .i64 ck, .int .i64 co, .int .u32 cv.a, .int .u32 cv.b, .int .u32 cv.c, .int .u32 cv.d, .int .u32 cn]
  refine segU hE hR [(0, .op []), (1, .op []), (2, .op []), (3, .op [])] [] [(4, .pointer (some ⟨H0, 0, none⟩)), (5, .pointer (some ⟨H0 + 1, 0, none⟩)), (6, .slice none 0 0), (7, .bool false)] [⟨H0 + 1, 0, kc3, 63, true⟩, ⟨H0, 0, kc4, 60, true⟩] (H0 + 2) [] (by kernel_rfl) (by kernel_rfl) (by kernel_rfl) trivial ?_
  clear hE hR; intro a u hE hR
  refine opsNil ?_; refine thenN ?_; refine wp_seq ?_
  refine enterR (idx := [0, 1, 2, 3, 4, 5, 6, 7, 8]) (by kernel_rfl) ?_
  refine segV hE hR [(0, .op []), (1, .op (hks 1 0 7))] [2, 3, 4, 5, 6, 7, 8] [(12, .slice A n c), (13, kv1)] [] (by kernel_rfl) (by kernel_rfl) (by kernel_rfl) trivial ?_
  clear hE hR; intro a u hE hR
  refine opsCons ?_
  refine call hE hR [] 25 #[.slice A n c, kv1] (some 14) [] (by kernel_rfl) (by kernel_rfl) trivial (HDO _ (hs.below (hR.below (by simp)))) (by rintro _ _ ⟨_, _, h, _⟩; cases h) (by rintro _ ⟨_, _, h, _⟩; cases h) ?_
  clear hE
  rintro v uD ⟨s2, L2, hv, hit2, hl2, hb⟩ a hE
  cases hv
  obtain ⟨H1, hH1, hR⟩ := hR.callE hb
  replace hR : Rep ((uD, fun _ => True) :: [(w, fun _ => True)]) uD H1 [] [⟨H0 + 1, 0, kc3⟩, ⟨H0, 0, kc4⟩] := hR.freeze
  let kc5 : List Value := [.int .i64 d.f, .int .u32 d.r.a, .int .u32 d.r.b, .int .u32 d.r.c, .int .u32 d.r.d]
  refine segU hE hR [(3, .op []), (4, .op []), (5, .op []), (6, .op []), (7, .op []), (8, .op (hks 0 0 5))] [] [(9, .pointer (some ⟨H1, 0, none⟩)), (8, s2)] [⟨H1, 0, kc5, 63, true⟩] (H1 + 1) [] (by kernel_rfl) (by kernel_rfl) (by kernel_rfl) trivial ?_
  clear hE hR; intro a u hE hR
  refine opsNil ?_; refine thenN ?_; refine wp_seq ?_
  rcases Bool.eq_false_or_eq_true ((d.f : Int) == 6) with hc2 | hc2
  · show Code.wp _ _ _ _ _
    have ehc2 := beq_iff_eq.1 hc2
    refine enterR (idx := [0, 1, 2, 3, 4, 5, 6, 7, 8]) (by kernel_rfl) ?_
    refine segV hE hR [(0, .op []), (1, .op [.k 0 0]), (2, .op []), (3, .op []), (4, .skip), (5, .skip), (6, .skip), (7, .as [] (.bool true)), (8, .op [])] [] [(10, .bool true)] [((if ((d.f : Int) == 6) = true then (.bool true : Value) else (.tuple #[] : Value)) : Value) = (.bool true : Value), ((d.f : Int) == 6) = !false, ((d.f : Int) == 6) = !false, ((d.f : Int) == 6) = !false] (by kernel_rfl) (by kernel_rfl) (by kernel_rfl) ⟨if_pos (hc2), hc2, hc2, hc2, trivial⟩ ?_
    clear hE hR; intro a u hE hR
    refine opsNil ?_; refine thenN ?_; refine wp_seq ?_; refine wp_seq ?_
    refine enterR (idx := [0]) (by kernel_rfl) ?_
    refine segV hE hR [(0, .op [.r 0 0, .r 0 1, .r 0 2, .r 0 3, .r 0 4])] [] [(25, kv2)] [] (by kernel_rfl) (by kernel_rfl) (by kernel_rfl) trivial ?_
    clear hE hR; intro a u hE hR
    refine opsNil ?_; refine thenN ?_; refine wp_block ?_; refine wp_seq ?_
    refine enterR (idx := [0, 1, 2]) (by kernel_rfl) ?_
    let kv6 : Value := .bool (((f : Int) == d.f) && ((((r.a : Int) == d.r.a) && (((r.b : Int) == d.r.b) && (((r.c : Int) == d.r.c) && (((r.d : Int) == d.r.d) && (true))))) && (true)))
    refine segV hE hR [(0, .op (hks 0 0 5)), (1, .alt (.bool (((f : Int) == d.f) && ((((r.a : Int) == d.r.a) && (((r.b : Int) == d.r.b) && (((r.c : Int) == d.r.c) && (((r.d : Int) == d.r.d) && (true))))) && (true))))), (2, .op [])] [] [(26, kv6)] [True, (.bool (((f : Int) == d.f) && ((((r.a : Int) == d.r.a) && (((r.b : Int) == d.r.b) && (((r.c : Int) == d.r.c) && (((r.d : Int) == d.r.d) && (true))))) && (true))) : Value) = (.bool (((f : Int) == d.f) && ((((r.a : Int) == d.r.a) && (((r.b : Int) == d.r.b) && (((r.c : Int) == d.r.c) && (((r.d : Int) == d.r.d) && (true))))) && (true))) : Value)] (by kernel_rfl) (by kernel_rfl) (by kernel_rfl) ⟨trivial, rfl, trivial⟩ ?_
    clear hE hR; intro a u hE hR
    refine opsNil ?_; refine thenN ?_
    refine condF hE (b := ((f : Int) == d.f) && ((((r.a : Int) == d.r.a) && (((r.b : Int) == d.r.b) && (((r.c : Int) == d.r.c) && (((r.d : Int) == d.r.d) && (true))))) && (true))) (by kernel_rfl) (h1) ?_
    refine wp_seq ?_
    refine enterR (idx := [0, 1, 2]) (by kernel_rfl) ?_
    let kv7 : Value := .bool (((f : Int) == 8) && ((((r.a : Int) == 0) && (((r.b : Int) == 0) && (((r.c : Int) == 0) && (((r.d : Int) == 0) && (true))))) && (true)))
    refine segV hE hR [(0, .op []), (1, .alt (.bool (((f : Int) == 8) && ((((r.a : Int) == 0) && (((r.b : Int) == 0) && (((r.c : Int) == 0) && (((r.d : Int) == 0) && (true))))) && (true))))), (2, .op [])] [] [(30, kv7)] [True, (.bool (((f : Int) == 8) && ((((r.a : Int) == 0) && (((r.b : Int) == 0) && (((r.c : Int) == 0) && (((r.d : Int) == 0) && (true))))) && (true))) : Value) = (.bool (((f : Int) == 8) && ((((r.a : Int) == 0) && (((r.b : Int) == 0) && (((r.c : Int) == 0) && (((r.d : Int) == 0) && (true))))) && (true))) : Value)] (by kernel_rfl) (by kernel_rfl) (by kernel_rfl) ⟨trivial, rfl, trivial⟩ ?_
    clear hE hR; intro a u hE hR
    refine opsNil ?_; refine thenN ?_
    refine condF hE (b := ((f : Int) == 8) && ((((r.a : Int) == 0) && (((r.b : Int) == 0) && (((r.c : Int) == 0) && (((r.d : Int) == 0) && (true))))) && (true))) (by kernel_rfl) (h8) ?_
    refine wp_seq ?_
    refine enterR (idx := [0, 1, 2]) (by kernel_rfl) ?_
    let kv8 : Value := .bool (((f : Int) == 9) && ((((r.a : Int) == 0) && (((r.b : Int) == 0) && (((r.c : Int) == 0) && (((r.d : Int) == 0) && (true))))) && (true)))
    refine seg0 hE hR [(0, .op []), (1, .alt (.bool (((f : Int) == 9) && ((((r.a : Int) == 0) && (((r.b : Int) == 0) && (((r.c : Int) == 0) && (((r.d : Int) == 0) && (true))))) && (true))))), (2, .op [])] [] [(0, .slice A n c), (4, .pointer (some ⟨H0, 0, none⟩)), (6, .slice none 0 0), (7, .bool false), (9, .pointer (some ⟨H1, 0, none⟩)), (8, s2), (10, .bool true), (25, kv2), (26, kv6), (30, kv7), (47, kv8)] [True, (.bool (((f : Int) == 9) && ((((r.a : Int) == 0) && (((r.b : Int) == 0) && (((r.c : Int) == 0) && (((r.d : Int) == 0) && (true))))) && (true))) : Value) = (.bool (((f : Int) == 9) && ((((r.a : Int) == 0) && (((r.b : Int) == 0) && (((r.c : Int) == 0) && (((r.d : Int) == 0) && (true))))) && (true))) : Value)] (by kernel_rfl) (by kernel_rfl) (by kernel_rfl) ⟨trivial, rfl, trivial⟩ ?_
    clear hE hR; intro a u hE hR
    refine opsNil ?_; refine thenN ?_
    refine condT hE (b := ((f : Int) == 9) && ((((r.a : Int) == 0) && (((r.b : Int) == 0) && (((r.c : Int) == 0) && (((r.d : Int) == 0) && (true))))) && (true))) (by kernel_rfl) (h9) ?_
    refine wp_seq ?_
    rcases Bool.eq_false_or_eq_true (decide ((ck : Int) ≥ 14)) with hc3 | hc3
    · show Code.wp _ _ _ _ _
      have ehc3 := of_decide_eq_true hc3
      refine enterD (kl := [⟨H1, 0, kc5, 63, true⟩]) (by kernel_rfl) hR (F := 14) (listed := #[false, false, false, false, false, false, false, false, false, false, false, false, false, false]) (by kernel_rfl) (by kernel_rfl) ?_
      clear hR
      intro u hR
      refine takesU (by kernel_rfl) (pqT (pqB (pqT pqF))) hE (hR.ss [0] (by kernel_rfl)) [(0, .op []), (1, .op []), (2, .op []), (3, .op []), (4, .op [.r 1 0]), (5, .op []), (6, .op []), (7, .op []), (8, .op []), (9, .op [.r 1 0]), (10, .op []), (11, .as [] (.bool (decide ((ck : Int) ≤ 17)))), (12, .op []), (13, .op [])] 0 [(6, .slice A n c), (7, .bool (decide ((ck : Int) ≤ 17)))] #[true, true, true, true, true, true, true, true, true, true, true, true, true, true] [((if (decide ((ck : Int) ≥ 14)) = true then (.bool (decide ((ck : Int) ≤ 17)) : Value) else (.bool false : Value)) : Value) = (.bool (decide ((ck : Int) ≤ 17)) : Value), (decide ((ck : Int) ≥ 14)) = true, (decide ((ck : Int) ≥ 14)) = true, (decide ((ck : Int) ≥ 14)) = true, true = true, true = true, true = true] (by kernel_rfl) (by kernel_rfl) (by kernel_rfl) ⟨if_pos (hc3), hc3, hc3, hc3, rfl, rfl, rfl, trivial⟩ ?_
      clear hE; intro a hE
      refine wpAnyH_done (by kernel_rfl) ?_ _
      refine thenN ?_; refine wp_ret ?_; refine blkR ?_; refine thenR ?_
      refine retF hE hR [] (.tuple #[.slice A n c, .bool (decide ((ck : Int) ≤ 17))]) (by kernel_rfl) (by kernel_rfl) (by kernel_rfl) ?_
      exact ⟨retB (b := (decide (d.f = 6) || decide (d.f = 7)) && (decide (14 ≤ ck) && decide (ck ≤ 17))) (by rw [Bool.eq_iff_iff]; first | (simp; done) | (simp; omega)), hR.below (by simp)⟩
    · show Code.wp _ _ _ _ _
      have ehc3 := of_decide_eq_false hc3
      refine enterD (kl := [⟨H1, 0, kc5, 63, true⟩]) (by kernel_rfl) hR (F := 14) (listed := #[false, false, false, false, false, false, false, false, false, false, false, false, false, false]) (by kernel_rfl) (by kernel_rfl) ?_
      clear hR
      intro u hR
      refine takesU (by kernel_rfl) (pqT (pqB (pqT pqF))) hE (hR.ss [0] (by kernel_rfl)) [(0, .op []), (1, .op []), (2, .op []), (3, .op []), (4, .op [.r 1 0]), (5, .op []), (6, .op []), (7, .op []), (8, .skip), (9, .skip), (10, .skip), (11, .as [] (.bool false)), (12, .op []), (13, .op [])] 0 [(6, .slice A n c)] #[true, true, true, true, true, true, true, true, true, true, true, true, true, true] [((if (decide ((ck : Int) ≥ 14)) = true then (.tuple #[] : Value) else (.bool false : Value)) : Value) = (.bool false : Value), (decide ((ck : Int) ≥ 14)) = !true, (decide ((ck : Int) ≥ 14)) = !true, (decide ((ck : Int) ≥ 14)) = !true, true = true, true = true, true = true] (by kernel_rfl) (by kernel_rfl) (by kernel_rfl) ⟨if_neg (by rw [hc3]; decide), hc3, hc3, hc3, rfl, rfl, rfl, trivial⟩ ?_
      clear hE; intro a hE
      refine wpAnyH_done (by kernel_rfl) ?_ _
      refine thenN ?_; refine wp_ret ?_; refine blkR ?_; refine thenR ?_
      refine retF hE hR [] (.tuple #[.slice A n c, .bool false]) (by kernel_rfl) (by kernel_rfl) (by kernel_rfl) ?_
      exact ⟨retB (b := (decide (d.f = 6) || decide (d.f = 7)) && (decide (14 ≤ ck) && decide (ck ≤ 17))) (by rw [Bool.eq_iff_iff]; first | (simp; done) | (simp; omega)), hR.below (by simp)⟩
  · show Code.wp _ _ _ _ _
    have ehc2 := beq_eq_false_iff_ne.1 hc2
    refine enterR (idx := [0, 1, 2, 3, 4, 5, 6, 7, 8]) (by kernel_rfl) ?_
    refine segV hE hR [(0, .op []), (1, .op [.k 0 0]), (2, .op []), (3, .op []), (4, .op []), (5, .op [.k 0 0]), (6, .op []), (7, .as [] (.bool ((d.f : Int) == 7))), (8, .op [])] [] [(10, .bool ((d.f : Int) == 7))] [((if ((d.f : Int) == 6) = true then (.bool true : Value) else (.bool ((d.f : Int) == 7) : Value)) : Value) = (.bool ((d.f : Int) == 7) : Value), ((d.f : Int) == 6) = false, ((d.f : Int) == 6) = false, ((d.f : Int) == 6) = false] (by kernel_rfl) (by kernel_rfl) (by kernel_rfl) ⟨if_neg (by rw [hc2]; decide), hc2, hc2, hc2, trivial⟩ ?_
    clear hE hR; intro a u hE hR
    refine opsNil ?_; refine thenN ?_; refine wp_seq ?_; refine wp_seq ?_
    refine enterR (idx := [0]) (by kernel_rfl) ?_
    refine segV hE hR [(0, .op [.r 0 0, .r 0 1, .r 0 2, .r 0 3, .r 0 4])] [] [(25, kv2)] [] (by kernel_rfl) (by kernel_rfl) (by kernel_rfl) trivial ?_
    clear hE hR; intro a u hE hR
    refine opsNil ?_; refine thenN ?_; refine wp_block ?_; refine wp_seq ?_
    refine enterR (idx := [0, 1, 2]) (by kernel_rfl) ?_
    let kv9 : Value := .bool (((f : Int) == d.f) && ((((r.a : Int) == d.r.a) && (((r.b : Int) == d.r.b) && (((r.c : Int) == d.r.c) && (((r.d : Int) == d.r.d) && (true))))) && (true)))
    refine segV hE hR [(0, .op (hks 0 0 5)), (1, .alt (.bool (((f : Int) == d.f) && ((((r.a : Int) == d.r.a) && (((r.b : Int) == d.r.b) && (((r.c : Int) == d.r.c) && (((r.d : Int) == d.r.d) && (true))))) && (true))))), (2, .op [])] [] [(26, kv9)] [True, (.bool (((f : Int) == d.f) && ((((r.a : Int) == d.r.a) && (((r.b : Int) == d.r.b) && (((r.c : Int) == d.r.c) && (((r.d : Int) == d.r.d) && (true))))) && (true))) : Value) = (.bool (((f : Int) == d.f) && ((((r.a : Int) == d.r.a) && (((r.b : Int) == d.r.b) && (((r.c : Int) == d.r.c) && (((r.d : Int) == d.r.d) && (true))))) && (true))) : Value)] (by kernel_rfl) (by kernel_rfl) (by kernel_rfl) ⟨trivial, rfl, trivial⟩ ?_
    clear hE hR; intro a u hE hR
    refine opsNil ?_; refine thenN ?_
    refine condF hE (b := ((f : Int) == d.f) && ((((r.a : Int) == d.r.a) && (((r.b : Int) == d.r.b) && (((r.c : Int) == d.r.c) && (((r.d : Int) == d.r.d) && (true))))) && (true))) (by kernel_rfl) (h1) ?_
    refine wp_seq ?_
    refine enterR (idx := [0, 1, 2]) (by kernel_rfl) ?_
    let kv10 : Value := .bool (((f : Int) == 8) && ((((r.a : Int) == 0) && (((r.b : Int) == 0) && (((r.c : Int) == 0) && (((r.d : Int) == 0) && (true))))) && (true)))
    refine segV hE hR [(0, .op []), (1, .alt (.bool (((f : Int) == 8) && ((((r.a : Int) == 0) && (((r.b : Int) == 0) && (((r.c : Int) == 0) && (((r.d : Int) == 0) && (true))))) && (true))))), (2, .op [])] [] [(30, kv10)] [True, (.bool (((f : Int) == 8) && ((((r.a : Int) == 0) && (((r.b : Int) == 0) && (((r.c : Int) == 0) && (((r.d : Int) == 0) && (true))))) && (true))) : Value) = (.bool (((f : Int) == 8) && ((((r.a : Int) == 0) && (((r.b : Int) == 0) && (((r.c : Int) == 0) && (((r.d : Int) == 0) && (true))))) && (true))) : Value)] (by kernel_rfl) (by kernel_rfl) (by kernel_rfl) ⟨trivial, rfl, trivial⟩ ?_
    clear hE hR; intro a u hE hR
    refine opsNil ?_; refine thenN ?_
    refine condF hE (b := ((f : Int) == 8) && ((((r.a : Int) == 0) && (((r.b : Int) == 0) && (((r.c : Int) == 0) && (((r.d : Int) == 0) && (true))))) && (true))) (by kernel_rfl) (h8) ?_
    refine wp_seq ?_
    refine enterR (idx := [0, 1, 2]) (by kernel_rfl) ?_
    let kv11 : Value := .bool (((f : Int) == 9) && ((((r.a : Int) == 0) && (((r.b : Int) == 0) && (((r.c : Int) == 0) && (((r.d : Int) == 0) && (true))))) && (true)))
    refine segV hE hR [(0, .op []), (1, .alt (.bool (((f : Int) == 9) && ((((r.a : Int) == 0) && (((r.b : Int) == 0) && (((r.c : Int) == 0) && (((r.d : Int) == 0) && (true))))) && (true))))), (2, .op [])] [] [(47, kv11)] [True, (.bool (((f : Int) == 9) && ((((r.a : Int) == 0) && (((r.b : Int) == 0) && (((r.c : Int) == 0) && (((r.d : Int) == 0) && (true))))) && (true))) : Value) = (.bool (((f : Int) == 9) && ((((r.a : Int) == 0) && (((r.b : Int) == 0) && (((r.c : Int) == 0) && (((r.d : Int) == 0) && (true))))) && (true))) : Value)] (by kernel_rfl) (by kernel_rfl) (by kernel_rfl) ⟨trivial, rfl, trivial⟩ ?_
    clear hE hR; intro a u hE hR
    refine opsNil ?_; refine thenN ?_
    refine condT hE (b := ((f : Int) == 9) && ((((r.a : Int) == 0) && (((r.b : Int) == 0) && (((r.c : Int) == 0) && (((r.d : Int) == 0) && (true))))) && (true))) (by kernel_rfl) (h9) ?_
    refine wp_seq ?_
    rcases Bool.eq_false_or_eq_true ((d.f : Int) == 7) with hc4 | hc4
    · show Code.wp _ _ _ _ _
      have ehc4 := beq_iff_eq.1 hc4
      rcases Bool.eq_false_or_eq_true (decide ((ck : Int) ≥ 14)) with hc5 | hc5
      · show Code.wp _ _ _ _ _
        have ehc5 := of_decide_eq_true hc5
        refine enterD (kl := [⟨H1, 0, kc5, 63, true⟩]) (by kernel_rfl) hR (F := 14) (listed := #[false, false, false, false, false, false, false, false, false, false, false, false, false, false]) (by kernel_rfl) (by kernel_rfl) ?_
        clear hR
        intro u hR
        refine takes (by kernel_rfl) (pqT (pqB (pqT pqF))) hE (hR.ss [0] (by kernel_rfl)) [(0, .op []), (1, .op []), (2, .op []), (3, .op []), (4, .op [.r 1 0]), (5, .op []), (6, .as [] (.bool (decide ((ck : Int) ≥ 14)))), (7, .op []), (8, .op []), (9, .op [.r 1 0]), (10, .op []), (11, .as [] (.bool (decide ((ck : Int) ≤ 17)))), (12, .op []), (13, .op [])] 0 [(0, .slice A n c), (4, .pointer (some ⟨H0, 0, none⟩)), (6, .slice A n c), (7, .bool (decide ((ck : Int) ≤ 17))), (9, .pointer (some ⟨H1, 0, none⟩)), (8, s2), (25, kv2), (26, kv9), (30, kv10), (47, kv11)] #[true, true, true, true, true, true, true, true, true, true, true, true, true, true] [((if (decide ((ck : Int) ≥ 14)) = true then (.bool (decide ((ck : Int) ≤ 17)) : Value) else (.bool false : Value)) : Value) = (.bool (decide ((ck : Int) ≤ 17)) : Value), (decide ((ck : Int) ≥ 14)) = true, (decide ((ck : Int) ≥ 14)) = true, (decide ((ck : Int) ≥ 14)) = true, ((if ((d.f : Int) == 7) = true then (.bool (decide ((ck : Int) ≥ 14)) : Value) else (.bool false : Value)) : Value) = (.bool (decide ((ck : Int) ≥ 14)) : Value), ((d.f : Int) == 7) = true, ((d.f : Int) == 7) = true, ((d.f : Int) == 7) = true] (by kernel_rfl) (by kernel_rfl) (by kernel_rfl) ⟨if_pos (hc5), hc5, hc5, hc5, if_pos (hc4), hc4, hc4, hc4, trivial⟩ ?_
        clear hE; intro a hE
        refine wpAnyH_done (by kernel_rfl) ?_ _
        refine thenN ?_; refine wp_ret ?_; refine blkR ?_; refine thenR ?_
        refine retF hE hR [] (.tuple #[.slice A n c, .bool (decide ((ck : Int) ≤ 17))]) (by kernel_rfl) (by kernel_rfl) (by kernel_rfl) ?_
        exact ⟨retB (b := (decide (d.f = 6) || decide (d.f = 7)) && (decide (14 ≤ ck) && decide (ck ≤ 17))) (by rw [Bool.eq_iff_iff]; first | (simp; done) | (simp; omega)), hR.below (by simp)⟩
      · show Code.wp _ _ _ _ _
        have ehc5 := of_decide_eq_false hc5
        refine enterD (kl := [⟨H1, 0, kc5, 63, true⟩]) (by kernel_rfl) hR (F := 14) (listed := #[false, false, false, false, false, false, false, false, false, false, false, false, false, false]) (by kernel_rfl) (by kernel_rfl) ?_
        clear hR
        intro u hR
        refine takesU (by kernel_rfl) (pqT (pqB (pqT pqF))) hE (hR.ss [0] (by kernel_rfl)) [(0, .op []), (1, .op []), (2, .op []), (3, .op []), (4, .op [.r 1 0]), (5, .op []), (6, .as [] (.bool (decide ((ck : Int) ≥ 14)))), (7, .op []), (8, .skip), (9, .skip), (10, .skip), (11, .as [] (.bool false)), (12, .op []), (13, .op [])] 0 [(6, .slice A n c)] #[true, true, true, true, true, true, true, true, true, true, true, true, true, true] [((if (decide ((ck : Int) ≥ 14)) = true then (.tuple #[] : Value) else (.bool false : Value)) : Value) = (.bool false : Value), (decide ((ck : Int) ≥ 14)) = !true, (decide ((ck : Int) ≥ 14)) = !true, (decide ((ck : Int) ≥ 14)) = !true, ((if ((d.f : Int) == 7) = true then (.bool (decide ((ck : Int) ≥ 14)) : Value) else (.bool false : Value)) : Value) = (.bool (decide ((ck : Int) ≥ 14)) : Value), ((d.f : Int) == 7) = true, ((d.f : Int) == 7) = true, ((d.f : Int) == 7) = true] (by kernel_rfl) (by kernel_rfl) (by kernel_rfl) ⟨if_neg (by rw [hc5]; decide), hc5, hc5, hc5, if_pos (hc4), hc4, hc4, hc4, trivial⟩ ?_
        clear hE; intro a hE
        refine wpAnyH_done (by kernel_rfl) ?_ _
        refine thenN ?_; refine wp_ret ?_; refine blkR ?_; refine thenR ?_
        refine retF hE hR [] (.tuple #[.slice A n c, .bool false]) (by kernel_rfl) (by kernel_rfl) (by kernel_rfl) ?_
        exact ⟨retB (b := (decide (d.f = 6) || decide (d.f = 7)) && (decide (14 ≤ ck) && decide (ck ≤ 17))) (by rw [Bool.eq_iff_iff]; first | (simp; done) | (simp; omega)), hR.below (by simp)⟩
    · show Code.wp _ _ _ _ _
      have ehc4 := beq_eq_false_iff_ne.1 hc4
      refine enterD (kl := [⟨H1, 0, kc5, 63, true⟩]) (by kernel_rfl) hR (F := 14) (listed := #[false, false, false, false, false, false, false, false, false, false, false, false, false, false]) (by kernel_rfl) (by kernel_rfl) ?_
      clear hR
      intro u hR
      refine takesU (by kernel_rfl) (pqT (pqB (pqT pqF))) hE (hR.ss [0] (by kernel_rfl)) [(0, .op []), (1, .op []), (2, .op []), (3, .skip), (4, .skip), (5, .skip), (6, .as [] (.bool false)), (7, .op []), (8, .skip), (9, .skip), (10, .skip), (11, .op []), (12, .op []), (13, .op [])] 0 [(6, .slice A n c)] #[true, true, true, true, true, true, true, true, true, true, true, true, true, true] [false = !true, false = !true, false = !true, ((if ((d.f : Int) == 7) = true then (.tuple #[] : Value) else (.bool false : Value)) : Value) = (.bool false : Value), ((d.f : Int) == 7) = !true, ((d.f : Int) == 7) = !true, ((d.f : Int) == 7) = !true] (by kernel_rfl) (by kernel_rfl) (by kernel_rfl) ⟨rfl, rfl, rfl, if_neg (by rw [hc4]; decide), hc4, hc4, hc4, trivial⟩ ?_
      clear hE; intro a hE
      refine wpAnyH_done (by kernel_rfl) ?_ _
      refine thenN ?_; refine wp_ret ?_; refine blkR ?_; refine thenR ?_
      refine retF hE hR [] (.tuple #[.slice A n c, .bool false]) (by kernel_rfl) (by kernel_rfl) (by kernel_rfl) ?_
      exact ⟨retB (b := (decide (d.f = 6) || decide (d.f = 7)) && (decide (14 ≤ ck) && decide (ck ≤ 17))) (by rw [Bool.eq_iff_iff]; first | (simp; done) | (simp; omega)), hR.below (by simp)⟩
set_option maxRecDepth 100000 in
theorem allows_no (A : Option Addr) (n c : Nat) (L : List IV) (d : DoX) (ck co : Int) (cv : Vl) (cn f : Int) (r : Vl) (w : World) (hs : ItemsR w (.slice A n c) L) (HDO : ∀ W, ItemsR W (.slice A n c) L → Calls Try.prog 25 #[.slice A n c, callA ck co cv cn] W (DoR d W)) (h1 : (((f : Int) == d.f) && ((((r.a : Int) == d.r.a) && (((r.b : Int) == d.r.b) && (((r.c : Int) == d.r.c) && (((r.d : Int) == d.r.d) && (true))))) && (true))) = false) (h8 : (((f : Int) == 8) && ((((r.a : Int) == 0) && (((r.b : Int) == 0) && (((r.c : Int) == 0) && (((r.d : Int) == 0) && (true))))) && (true))) = false) (h9 : (((f : Int) == 9) && ((((r.a : Int) == 0) && (((r.b : Int) == 0) && (((r.c : Int) == 0) && (((r.d : Int) == 0) && (true))))) && (true))) = false) :
    Calls Try.prog 27 #[.slice A n c, .agg #[.int .i64 ck, .int .i64 co, .int .u32 cv.a, .int .u32 cv.b, .int .u32 cv.c, .int .u32 cv.d, .int .u32 cn], .agg #[.int .i64 f, .int .u32 r.a, .int .u32 r.b, .int .u32 r.c, .int .u32 r.d]] w fun e W' => e = .returned (.tuple #[.slice A n c, .bool (false)]) ∧ Below w.heap.size w W' := by
  let kv1 : Value := .agg #[.int .i64 ck, .int .i64 co, .int .u32 cv.a, .int .u32 cv.b, .int .u32 cv.c, .int .u32 cv.d, .int .u32 cn]
  let kv2 : Value := .agg #[.int .i64 f, .int .u32 r.a, .int .u32 r.b, .int .u32 r.c, .int .u32 r.d]
  refine enterF Try.func27 rfl Try.ntmps27 [(0, .slice A n c), (1, kv1), (2, kv2)] (by kernel_rfl) (by kernel_rfl) ?_
  have hR := Rep.start w
  obtain ⟨H0, hH0⟩ : ∃ x, x = w.heap.size := ⟨_, rfl⟩
  rw [← hH0] at hR
  intro a hE
  refine wp_seq ?_
  refine enterR (idx := [0, 1, 2, 3]) (by kernel_rfl) ?_
  let kc3 : List Value := [.int .i64 f, .int .u32 r.a, .int .u32 r.b, .int .u32 r.c, .int .u32 r.d]
  let kc4 : List Value := [.int .i64 ck, .int .i64 co, .int .u32 cv.a, .int .u32 cv.b, .int .u32 cv.c, .int .u32 cv.d, .int .u32 cn]
  refine segU hE hR [(0, .op []), (1, .op []), (2, .op []), (3, .op [])] [] [(4, .pointer (some ⟨H0, 0, none⟩)), (5, .pointer (some ⟨H0 + 1, 0, none⟩)), (6, .slice none 0 0), (7, .bool false)] [⟨H0 + 1, 0, kc3, 63, true⟩, ⟨H0, 0, kc4, 60, true⟩] (H0 + 2) [] (by kernel_rfl) (by kernel_rfl) (by kernel_rfl) trivial ?_
  clear hE hR; intro a u hE hR
  refine opsNil ?_; refine thenN ?_; refine wp_seq ?_
  refine enterR (idx := [0, 1, 2, 3, 4, 5, 6, 7, 8]) (by kernel_rfl) ?_
  refine segV hE hR [(0, .op []), (1, .op (hks 1 0 7))] [2, 3, 4, 5, 6, 7, 8] [(12, .slice A n c), (13, kv1)] [] (by kernel_rfl) (by kernel_rfl) (by kernel_rfl) trivial ?_
  clear hE hR; intro a u hE hR
  refine opsCons ?_
  refine call hE hR [] 25 #[.slice A n c, kv1] (some 14) [] (by kernel_rfl) (by kernel_rfl) trivial (HDO _ (hs.below (hR.below (by simp)))) (by rintro _ _ ⟨_, _, h, _⟩; cases h) (by rintro _ ⟨_, _, h, _⟩; cases h) ?_
  clear hE
  rintro v uD ⟨s2, L2, hv, hit2, hl2, hb⟩ a hE
  cases hv
  obtain ⟨H1, hH1, hR⟩ := hR.callE hb
  replace hR : Rep ((uD, fun _ => True) :: [(w, fun _ => True)]) uD H1 [] [⟨H0 + 1, 0, kc3⟩, ⟨H0, 0, kc4⟩] := hR.freeze
  let kc5 : List Value := [.int .i64 d.f, .int .u32 d.r.a, .int .u32 d.r.b, .int .u32 d.r.c, .int .u32 d.r.d]
  refine segU hE hR [(3, .op []), (4, .op []), (5, .op []), (6, .op []), (7, .op []), (8, .op (hks 0 0 5))] [] [(9, .pointer (some ⟨H1, 0, none⟩)), (8, s2)] [⟨H1, 0, kc5, 63, true⟩] (H1 + 1) [] (by kernel_rfl) (by kernel_rfl) (by kernel_rfl) trivial ?_
  clear hE hR; intro a u hE hR
  refine opsNil ?_; refine thenN ?_; refine wp_seq ?_
  rcases Bool.eq_false_or_eq_true ((d.f : Int) == 6) with hc2 | hc2
  · show Code.wp _ _ _ _ _
    have ehc2 := beq_iff_eq.1 hc2
    refine enterR (idx := [0, 1, 2, 3, 4, 5, 6, 7, 8]) (by kernel_rfl) ?_
    refine segV hE hR [(0, .op []), (1, .op [.k 0 0]), (2, .op []), (3, .op []), (4, .skip), (5, .skip), (6, .skip), (7, .as [] (.bool true)), (8, .op [])] [] [(10, .bool true)] [((if ((d.f : Int) == 6) = true then (.bool true : Value) else (.tuple #[] : Value)) : Value) = (.bool true : Value), ((d.f : Int) == 6) = !false, ((d.f : Int) == 6) = !false, ((d.f : Int) == 6) = !false] (by kernel_rfl) (by kernel_rfl) (by kernel_rfl) ⟨if_pos (hc2), hc2, hc2, hc2, trivial⟩ ?_
    clear hE hR; intro a u hE hR
    refine opsNil ?_; refine thenN ?_; refine wp_seq ?_; refine wp_seq ?_
    refine enterR (idx := [0]) (by kernel_rfl) ?_
    refine segV hE hR [(0, .op [.r 0 0, .r 0 1, .r 0 2, .r 0 3, .r 0 4])] [] [(25, kv2)] [] (by kernel_rfl) (by kernel_rfl) (by kernel_rfl) trivial ?_
    clear hE hR; intro a u hE hR
    refine opsNil ?_; refine thenN ?_; refine wp_block ?_; refine wp_seq ?_
    refine enterR (idx := [0, 1, 2]) (by kernel_rfl) ?_
    let kv6 : Value := .bool (((f : Int) == d.f) && ((((r.a : Int) == d.r.a) && (((r.b : Int) == d.r.b) && (((r.c : Int) == d.r.c) && (((r.d : Int) == d.r.d) && (true))))) && (true)))
    refine segV hE hR [(0, .op (hks 0 0 5)), (1, .alt (.bool (((f : Int) == d.f) && ((((r.a : Int) == d.r.a) && (((r.b : Int) == d.r.b) && (((r.c : Int) == d.r.c) && (((r.d : Int) == d.r.d) && (true))))) && (true))))), (2, .op [])] [] [(26, kv6)] [True, (.bool (((f : Int) == d.f) && ((((r.a : Int) == d.r.a) && (((r.b : Int) == d.r.b) && (((r.c : Int) == d.r.c) && (((r.d : Int) == d.r.d) && (true))))) && (true))) : Value) = (.bool (((f : Int) == d.f) && ((((r.a : Int) == d.r.a) && (((r.b : Int) == d.r.b) && (((r.c : Int) == d.r.c) && (((r.d : Int) == d.r.d) && (true))))) && (true))) : Value)] (by kernel_rfl) (by kernel_rfl) (by kernel_rfl) ⟨trivial, rfl, trivial⟩ ?_
    clear hE hR; intro a u hE hR
    refine opsNil ?_; refine thenN ?_
    refine condF hE (b := ((f : Int) == d.f) && ((((r.a : Int) == d.r.a) && (((r.b : Int) == d.r.b) && (((r.c : Int) == d.r.c) && (((r.d : Int) == d.r.d) && (true))))) && (true))) (by kernel_rfl) (h1) ?_
    refine wp_seq ?_
    refine enterR (idx := [0, 1, 2]) (by kernel_rfl) ?_
    let kv7 : Value := .bool (((f : Int) == 8) && ((((r.a : Int) == 0) && (((r.b : Int) == 0) && (((r.c : Int) == 0) && (((r.d : Int) == 0) && (true))))) && (true)))
    refine segV hE hR [(0, .op []), (1, .alt (.bool (((f : Int) == 8) && ((((r.a : Int) == 0) && (((r.b : Int) == 0) && (((r.c : Int) == 0) && (((r.d : Int) == 0) && (true))))) && (true))))), (2, .op [])] [] [(30, kv7)] [True, (.bool (((f : Int) == 8) && ((((r.a : Int) == 0) && (((r.b : Int) == 0) && (((r.c : Int) == 0) && (((r.d : Int) == 0) && (true))))) && (true))) : Value) = (.bool (((f : Int) == 8) && ((((r.a : Int) == 0) && (((r.b : Int) == 0) && (((r.c : Int) == 0) && (((r.d : Int) == 0) && (true))))) && (true))) : Value)] (by kernel_rfl) (by kernel_rfl) (by kernel_rfl) ⟨trivial, rfl, trivial⟩ ?_
    clear hE hR; intro a u hE hR
    refine opsNil ?_; refine thenN ?_
    refine condF hE (b := ((f : Int) == 8) && ((((r.a : Int) == 0) && (((r.b : Int) == 0) && (((r.c : Int) == 0) && (((r.d : Int) == 0) && (true))))) && (true))) (by kernel_rfl) (h8) ?_
    refine wp_seq ?_
    refine enterR (idx := [0, 1, 2]) (by kernel_rfl) ?_
    let kv8 : Value := .bool (((f : Int) == 9) && ((((r.a : Int) == 0) && (((r.b : Int) == 0) && (((r.c : Int) == 0) && (((r.d : Int) == 0) && (true))))) && (true)))
    refine seg0 hE hR [(0, .op []), (1, .alt (.bool (((f : Int) == 9) && ((((r.a : Int) == 0) && (((r.b : Int) == 0) && (((r.c : Int) == 0) && (((r.d : Int) == 0) && (true))))) && (true))))), (2, .op [])] [] [(0, .slice A n c), (4, .pointer (some ⟨H0, 0, none⟩)), (6, .slice none 0 0), (7, .bool false), (9, .pointer (some ⟨H1, 0, none⟩)), (8, s2), (10, .bool true), (25, kv2), (26, kv6), (30, kv7), (47, kv8)] [True, (.bool (((f : Int) == 9) && ((((r.a : Int) == 0) && (((r.b : Int) == 0) && (((r.c : Int) == 0) && (((r.d : Int) == 0) && (true))))) && (true))) : Value) = (.bool (((f : Int) == 9) && ((((r.a : Int) == 0) && (((r.b : Int) == 0) && (((r.c : Int) == 0) && (((r.d : Int) == 0) && (true))))) && (true))) : Value)] (by kernel_rfl) (by kernel_rfl) (by kernel_rfl) ⟨trivial, rfl, trivial⟩ ?_
    clear hE hR; intro a u hE hR
    refine opsNil ?_; refine thenN ?_
    refine condF hE (b := ((f : Int) == 9) && ((((r.a : Int) == 0) && (((r.b : Int) == 0) && (((r.c : Int) == 0) && (((r.d : Int) == 0) && (true))))) && (true))) (by kernel_rfl) (h9) ?_
    refine wp_skip ?_; refine blkN ?_; refine thenN ?_; refine wp_seq ?_
    refine enterR (idx := [0, 1, 2]) (by kernel_rfl) ?_
    refine segV hE hR [(0, .op []), (1, .op []), (2, .op [])] [] [(6, .slice A n c)] [] (by kernel_rfl) (by kernel_rfl) (by kernel_rfl) trivial ?_
    clear hE hR; intro a u hE hR
    refine opsNil ?_; refine thenN ?_; refine wp_ret ?_
    refine retF hE hR [] (.tuple #[.slice A n c, .bool false]) (by kernel_rfl) (by kernel_rfl) (by kernel_rfl) ?_
    exact ⟨rfl, hR.below (by simp)⟩
  · show Code.wp _ _ _ _ _
    have ehc2 := beq_eq_false_iff_ne.1 hc2
    refine enterR (idx := [0, 1, 2, 3, 4, 5, 6, 7, 8]) (by kernel_rfl) ?_
    refine segV hE hR [(0, .op []), (1, .op [.k 0 0]), (2, .op []), (3, .op []), (4, .op []), (5, .op [.k 0 0]), (6, .op []), (7, .as [] (.bool ((d.f : Int) == 7))), (8, .op [])] [] [(10, .bool ((d.f : Int) == 7))] [((if ((d.f : Int) == 6) = true then (.bool true : Value) else (.bool ((d.f : Int) == 7) : Value)) : Value) = (.bool ((d.f : Int) == 7) : Value), ((d.f : Int) == 6) = false, ((d.f : Int) == 6) = false, ((d.f : Int) == 6) = false] (by kernel_rfl) (by kernel_rfl) (by kernel_rfl) ⟨if_neg (by rw [hc2]; decide), hc2, hc2, hc2, trivial⟩ ?_
    clear hE hR; intro a u hE hR
    refine opsNil ?_; refine thenN ?_; refine wp_seq ?_; refine wp_seq ?_
    refine enterR (idx := [0]) (by kernel_rfl) ?_
    refine segV hE hR [(0, .op [.r 0 0, .r 0 1, .r 0 2, .r 0 3, .r 0 4])] [] [(25, kv2)] [] (by kernel_rfl) (by kernel_rfl) (by kernel_rfl) trivial ?_
    clear hE hR; intro a u hE hR
    refine opsNil ?_; refine thenN ?_; refine wp_block ?_; refine wp_seq ?_
    refine enterR (idx := [0, 1, 2]) (by kernel_rfl) ?_
    let kv9 : Value := .bool (((f : Int) == d.f) && ((((r.a : Int) == d.r.a) && (((r.b : Int) == d.r.b) && (((r.c : Int) == d.r.c) && (((r.d : Int) == d.r.d) && (true))))) && (true)))
    refine segV hE hR [(0, .op (hks 0 0 5)), (1, .alt (.bool (((f : Int) == d.f) && ((((r.a : Int) == d.r.a) && (((r.b : Int) == d.r.b) && (((r.c : Int) == d.r.c) && (((r.d : Int) == d.r.d) && (true))))) && (true))))), (2, .op [])] [] [(26, kv9)] [True, (.bool (((f : Int) == d.f) && ((((r.a : Int) == d.r.a) && (((r.b : Int) == d.r.b) && (((r.c : Int) == d.r.c) && (((r.d : Int) == d.r.d) && (true))))) && (true))) : Value) = (.bool (((f : Int) == d.f) && ((((r.a : Int) == d.r.a) && (((r.b : Int) == d.r.b) && (((r.c : Int) == d.r.c) && (((r.d : Int) == d.r.d) && (true))))) && (true))) : Value)] (by kernel_rfl) (by kernel_rfl) (by kernel_rfl) ⟨trivial, rfl, trivial⟩ ?_
    clear hE hR; intro a u hE hR
    refine opsNil ?_; refine thenN ?_
    refine condF hE (b := ((f : Int) == d.f) && ((((r.a : Int) == d.r.a) && (((r.b : Int) == d.r.b) && (((r.c : Int) == d.r.c) && (((r.d : Int) == d.r.d) && (true))))) && (true))) (by kernel_rfl) (h1) ?_
    refine wp_seq ?_
    refine enterR (idx := [0, 1, 2]) (by kernel_rfl) ?_
    let kv10 : Value := .bool (((f : Int) == 8) && ((((r.a : Int) == 0) && (((r.b : Int) == 0) && (((r.c : Int) == 0) && (((r.d : Int) == 0) && (true))))) && (true)))
    refine segV hE hR [(0, .op []), (1, .alt (.bool (((f : Int) == 8) && ((((r.a : Int) == 0) && (((r.b : Int) == 0) && (((r.c : Int) == 0) && (((r.d : Int) == 0) && (true))))) && (true))))), (2, .op [])] [] [(30, kv10)] [True, (.bool (((f : Int) == 8) && ((((r.a : Int) == 0) && (((r.b : Int) == 0) && (((r.c : Int) == 0) && (((r.d : Int) == 0) && (true))))) && (true))) : Value) = (.bool (((f : Int) == 8) && ((((r.a : Int) == 0) && (((r.b : Int) == 0) && (((r.c : Int) == 0) && (((r.d : Int) == 0) && (true))))) && (true))) : Value)] (by kernel_rfl) (by kernel_rfl) (by kernel_rfl) ⟨trivial, rfl, trivial⟩ ?_
    clear hE hR; intro a u hE hR
    refine opsNil ?_; refine thenN ?_
    refine condF hE (b := ((f : Int) == 8) && ((((r.a : Int) == 0) && (((r.b : Int) == 0) && (((r.c : Int) == 0) && (((r.d : Int) == 0) && (true))))) && (true))) (by kernel_rfl) (h8) ?_
    refine wp_seq ?_
    refine enterR (idx := [0, 1, 2]) (by kernel_rfl) ?_
    let kv11 : Value := .bool (((f : Int) == 9) && ((((r.a : Int) == 0) && (((r.b : Int) == 0) && (((r.c : Int) == 0) && (((r.d : Int) == 0) && (true))))) && (true)))
    refine segV hE hR [(0, .op []), (1, .alt (.bool (((f : Int) == 9) && ((((r.a : Int) == 0) && (((r.b : Int) == 0) && (((r.c : Int) == 0) && (((r.d : Int) == 0) && (true))))) && (true))))), (2, .op [])] [] [(47, kv11)] [True, (.bool (((f : Int) == 9) && ((((r.a : Int) == 0) && (((r.b : Int) == 0) && (((r.c : Int) == 0) && (((r.d : Int) == 0) && (true))))) && (true))) : Value) = (.bool (((f : Int) == 9) && ((((r.a : Int) == 0) && (((r.b : Int) == 0) && (((r.c : Int) == 0) && (((r.d : Int) == 0) && (true))))) && (true))) : Value)] (by kernel_rfl) (by kernel_rfl) (by kernel_rfl) ⟨trivial, rfl, trivial⟩ ?_
    clear hE hR; intro a u hE hR
    refine opsNil ?_; refine thenN ?_
    refine condF hE (b := ((f : Int) == 9) && ((((r.a : Int) == 0) && (((r.b : Int) == 0) && (((r.c : Int) == 0) && (((r.d : Int) == 0) && (true))))) && (true))) (by kernel_rfl) (h9) ?_
    refine wp_skip ?_; refine blkN ?_; refine thenN ?_; refine wp_seq ?_
    refine enterR (idx := [0, 1, 2]) (by kernel_rfl) ?_
    refine segV hE hR [(0, .op []), (1, .op []), (2, .op [])] [] [(6, .slice A n c)] [] (by kernel_rfl) (by kernel_rfl) (by kernel_rfl) trivial ?_
    clear hE hR; intro a u hE hR
    refine opsNil ?_; refine thenN ?_; refine wp_ret ?_
    refine retF hE hR [] (.tuple #[.slice A n c, .bool false]) (by kernel_rfl) (by kernel_rfl) (by kernel_rfl) ?_
    exact ⟨rfl, hR.below (by simp)⟩
end Go.Proofs.Ytkfaaeklkplhnaa
