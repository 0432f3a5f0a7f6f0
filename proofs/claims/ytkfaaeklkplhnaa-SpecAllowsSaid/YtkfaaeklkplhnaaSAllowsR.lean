/- The document's Allows, leaf by leaf. Printed by gen_allows.py. -/
import Derived.Test.YtkfaaeklkplhnaaSRefAll
import Derived.Test.YtkfaaeklkplhnaaSAllowsAll
namespace Go.Proofs.Ytkfaaeklkplhnaa
open Go.RowKit

set_option maxRecDepth 100000 in
theorem allowsR_yes (A : Option Addr) (n c : Nat) (L : List IV) (d : DoX) (ck co : Int) (cv : Vl) (cn f : Int) (r : Vl) (w : World) (hs : ItemsR w (.slice A n c) L) (HDO : ∀ W, ItemsR W (.slice A n c) L → Calls Try.prog 26 #[.slice A n c, callA ck co cv cn] W (DoR d W)) (h1 : (((d.f : Int) == f) && ((((d.r.a : Int) == r.a) && (((d.r.b : Int) == r.b) && (((d.r.c : Int) == r.c) && (((d.r.d : Int) == r.d) && (true))))) && (true))) = true) :
    Calls Try.prog 28 #[.slice A n c, .agg #[.int .i64 ck, .int .i64 co, .int .u32 cv.a, .int .u32 cv.b, .int .u32 cv.c, .int .u32 cv.d, .int .u32 cn], .agg #[.int .i64 f, .int .u32 r.a, .int .u32 r.b, .int .u32 r.c, .int .u32 r.d]] w fun e W' => ∃ s2 L2, e = .returned (.tuple #[s2, .bool true]) ∧ ItemsR W' s2 L2 ∧ itms L2 = d.l ∧ Below w.heap.size w W' := by
  let kv1 : Value := .agg #[.int .i64 ck, .int .i64 co, .int .u32 cv.a, .int .u32 cv.b, .int .u32 cv.c, .int .u32 cv.d, .int .u32 cn]
  let kv2 : Value := .agg #[.int .i64 f, .int .u32 r.a, .int .u32 r.b, .int .u32 r.c, .int .u32 r.d]
  refine enterF Try.func28 rfl Try.ntmps28 [(0, .slice A n c), (1, kv1), (2, kv2)] (by kernel_rfl) (by kernel_rfl) ?_
  have hR := Rep.start w
  obtain ⟨H0, hH0⟩ : ∃ x, x = w.heap.size := ⟨_, rfl⟩
  rw [← hH0] at hR
  intro a hE
  refine wp_seq ?_
  refine enterR (idx := [0, 1, 2, 3]) (by kernel_rfl) ?_
  let kc3 : List Value := [.int .i64 f, .int .u32 r.a, .int .u32 r.b, .int .u32 r.c, .int .u32 r.d]
  let kc4 : List Value := [.int .i64 ck, .int .i64 co, .int .u32 cv.a, .int .u32 cv.b, .int .u32 cv.c, .int .u32 cv.d, .int .u32 cn]
  refine segU hE hR [(0, .op []), (1, .op []), (2, .op []), (3, .op [])] [] [(4, .pointer (some ⟨H0, 0, none⟩)), (5, .pointer (some ⟨H0 + 1, 0, none⟩)), (6, .slice none 0 0), (7, .bool false)] [⟨H0 + 1, 0, kc3, 63, true⟩, ⟨H0, 0, kc4, 60, true⟩] (H0 + 2) [] (by kernel_rfl) (by kernel_rfl) (by kernel_rfl) trivial ?_
  clear hE hR; intro a u hE hR
  refine opsNil ?_; refine thenN ?_; refine wp_seq ?_
  refine enterR (idx := [0, 1, 2, 3, 4, 5, 6, 7, 8]) (by kernel_rfl) ?_
  refine segV hE hR [(0, .op []), (1, .op (hks 1 0 7))] [2, 3, 4, 5, 6, 7, 8] [(11, .slice A n c), (12, kv1)] [] (by kernel_rfl) (by kernel_rfl) (by kernel_rfl) trivial ?_
  clear hE hR; intro a u hE hR
  refine opsCons ?_
  refine call hE hR [] 26 #[.slice A n c, kv1] (some 13) [] (by kernel_rfl) (by kernel_rfl) trivial (HDO _ (hs.below (hR.below (by simp)))) (by rintro _ _ ⟨_, _, h, _⟩; cases h) (by rintro _ ⟨_, _, h, _⟩; cases h) ?_
  clear hE
  rintro v uD ⟨s2, L2, hv, hit2, hl2, hb⟩ a hE
  cases hv
  obtain ⟨H1, hH1, hR⟩ := hR.callE hb
  replace hR : Rep ((uD, fun _ => True) :: [(w, fun _ => True)]) uD H1 [] [⟨H0 + 1, 0, kc3⟩, ⟨H0, 0, kc4⟩] := hR.freeze
  let kc5 : List Value := [.int .i64 d.f, .int .u32 d.r.a, .int .u32 d.r.b, .int .u32 d.r.c, .int .u32 d.r.d]
  refine segU hE hR [(3, .op []), (4, .op []), (5, .op []), (6, .op []), (7, .op []), (8, .op (hks 0 0 5))] [] [(9, .pointer (some ⟨H1, 0, none⟩)), (8, s2)] [⟨H1, 0, kc5, 63, true⟩] (H1 + 1) [] (by kernel_rfl) (by kernel_rfl) (by kernel_rfl) trivial ?_
  clear hE hR; intro a u hE hR
  refine opsNil ?_; refine thenN ?_; refine wp_seq ?_; refine wp_seq ?_
  refine enterR (idx := [0, 1, 2]) (by kernel_rfl) ?_
  let kv6 : Value := .bool (((d.f : Int) == f) && ((((d.r.a : Int) == r.a) && (((d.r.b : Int) == r.b) && (((d.r.c : Int) == r.c) && (((d.r.d : Int) == r.d) && (true))))) && (true)))
  refine segV hE hR [(0, .op (hks 0 0 5)), (1, .op [.r 0 0, .r 0 1, .r 0 2, .r 0 3, .r 0 4]), (2, .alt (.bool (((d.f : Int) == f) && ((((d.r.a : Int) == r.a) && (((d.r.b : Int) == r.b) && (((d.r.c : Int) == r.c) && (((d.r.d : Int) == r.d) && (true))))) && (true)))))] [] [(18, kv6)] [True, (.bool (((d.f : Int) == f) && ((((d.r.a : Int) == r.a) && (((d.r.b : Int) == r.b) && (((d.r.c : Int) == r.c) && (((d.r.d : Int) == r.d) && (true))))) && (true))) : Value) = (.bool (((d.f : Int) == f) && ((((d.r.a : Int) == r.a) && (((d.r.b : Int) == r.b) && (((d.r.c : Int) == r.c) && (((d.r.d : Int) == r.d) && (true))))) && (true))) : Value)] (by kernel_rfl) (by kernel_rfl) (by kernel_rfl) ⟨trivial, rfl, trivial⟩ ?_
  clear hE hR; intro a u hE hR
  refine opsNil ?_; refine thenN ?_
  refine condT hE (b := ((d.f : Int) == f) && ((((d.r.a : Int) == r.a) && (((d.r.b : Int) == r.b) && (((d.r.c : Int) == r.c) && (((d.r.d : Int) == r.d) && (true))))) && (true))) (by kernel_rfl) (h1) ?_
  refine wp_seq ?_
  refine enterR (idx := [0, 1, 2]) (by kernel_rfl) ?_
  refine segV hE hR [(0, .op []), (1, .op []), (2, .op [])] [] [(6, s2), (7, .bool true)] [] (by kernel_rfl) (by kernel_rfl) (by kernel_rfl) trivial ?_
  clear hE hR; intro a u hE hR
  refine opsNil ?_; refine thenN ?_; refine wp_ret ?_; refine thenR ?_
  refine retF hE hR [] (.tuple #[s2, .bool true]) (by kernel_rfl) (by kernel_rfl) (by kernel_rfl) ?_
  exact ⟨_, L2, rfl, hit2.below (hR.below (by simp)), hl2, hR.below (by simp)⟩
set_option maxRecDepth 100000 in
theorem allowsR_busy (A : Option Addr) (n c : Nat) (L : List IV) (d : DoX) (ck co : Int) (cv : Vl) (cn f : Int) (r : Vl) (w : World) (hs : ItemsR w (.slice A n c) L) (HDO : ∀ W, ItemsR W (.slice A n c) L → Calls Try.prog 26 #[.slice A n c, callA ck co cv cn] W (DoR d W)) (h1 : (((d.f : Int) == f) && ((((d.r.a : Int) == r.a) && (((d.r.b : Int) == r.b) && (((d.r.c : Int) == r.c) && (((d.r.d : Int) == r.d) && (true))))) && (true))) = false) (h8 : (((f : Int) == 8) && ((((r.a : Int) == 0) && (((r.b : Int) == 0) && (((r.c : Int) == 0) && (((r.d : Int) == 0) && (true))))) && (true))) = true) (h9 : (((f : Int) == 9) && ((((r.a : Int) == 0) && (((r.b : Int) == 0) && (((r.c : Int) == 0) && (((r.d : Int) == 0) && (true))))) && (true))) = false) :
    Calls Try.prog 28 #[.slice A n c, .agg #[.int .i64 ck, .int .i64 co, .int .u32 cv.a, .int .u32 cv.b, .int .u32 cv.c, .int .u32 cv.d, .int .u32 cn], .agg #[.int .i64 f, .int .u32 r.a, .int .u32 r.b, .int .u32 r.c, .int .u32 r.d]] w fun e W' => e = .returned (.tuple #[.slice A n c, .bool (decide (d.f = 0) && (decide (ck = 5) || decide (ck = 6)))]) ∧ Below w.heap.size w W' := by
  let kv1 : Value := .agg #[.int .i64 ck, .int .i64 co, .int .u32 cv.a, .int .u32 cv.b, .int .u32 cv.c, .int .u32 cv.d, .int .u32 cn]
  let kv2 : Value := .agg #[.int .i64 f, .int .u32 r.a, .int .u32 r.b, .int .u32 r.c, .int .u32 r.d]
  refine enterF Try.func28 rfl Try.ntmps28 [(0, .slice A n c), (1, kv1), (2, kv2)] (by kernel_rfl) (by kernel_rfl) ?_
  have hR := Rep.start w
  obtain ⟨H0, hH0⟩ : ∃ x, x = w.heap.size := ⟨_, rfl⟩
  rw [← hH0] at hR
  intro a hE
  refine wp_seq ?_
  refine enterR (idx := [0, 1, 2, 3]) (by kernel_rfl) ?_
  let kc3 : List Value := [.int .i64 f, .int .u32 r.a, .int .u32 r.b, .int .u32 r.c, .int .u32 r.d]
  let kc4 : List Value := [.int .i64 ck, .int .i64 co, .int .u32 cv.a, .int .u32 cv.b, .int .u32 cv.c, .int .u32 cv.d, .int .u32 cn]
  refine segU hE hR [(0, .op []), (1, .op []), (2, .op []), (3, .op [])] [] [(4, .pointer (some ⟨H0, 0, none⟩)), (5, .pointer (some ⟨H0 + 1, 0, none⟩)), (6, .slice none 0 0), (7, .bool false)] [⟨H0 + 1, 0, kc3, 63, true⟩, ⟨H0, 0, kc4, 60, true⟩] (H0 + 2) [] (by kernel_rfl) (by kernel_rfl) (by kernel_rfl) trivial ?_
  clear hE hR; intro a u hE hR
  refine opsNil ?_; refine thenN ?_; refine wp_seq ?_
  refine enterR (idx := [0, 1, 2, 3, 4, 5, 6, 7, 8]) (by kernel_rfl) ?_
  refine segV hE hR [(0, .op []), (1, .op (hks 1 0 7))] [2, 3, 4, 5, 6, 7, 8] [(11, .slice A n c), (12, kv1)] [] (by kernel_rfl) (by kernel_rfl) (by kernel_rfl) trivial ?_
  clear hE hR; intro a u hE hR
  refine opsCons ?_
  refine call hE hR [] 26 #[.slice A n c, kv1] (some 13) [] (by kernel_rfl) (by kernel_rfl) trivial (HDO _ (hs.below (hR.below (by simp)))) (by rintro _ _ ⟨_, _, h, _⟩; cases h) (by rintro _ ⟨_, _, h, _⟩; cases h) ?_
  clear hE
  rintro v uD ⟨s2, L2, hv, hit2, hl2, hb⟩ a hE
  cases hv
  obtain ⟨H1, hH1, hR⟩ := hR.callE hb
  replace hR : Rep ((uD, fun _ => True) :: [(w, fun _ => True)]) uD H1 [] [⟨H0 + 1, 0, kc3⟩, ⟨H0, 0, kc4⟩] := hR.freeze
  let kc5 : List Value := [.int .i64 d.f, .int .u32 d.r.a, .int .u32 d.r.b, .int .u32 d.r.c, .int .u32 d.r.d]
  refine segU hE hR [(3, .op []), (4, .op []), (5, .op []), (6, .op []), (7, .op []), (8, .op (hks 0 0 5))] [] [(9, .pointer (some ⟨H1, 0, none⟩)), (8, s2)] [⟨H1, 0, kc5, 63, true⟩] (H1 + 1) [] (by kernel_rfl) (by kernel_rfl) (by kernel_rfl) trivial ?_
  clear hE hR; intro a u hE hR
  refine opsNil ?_; refine thenN ?_; refine wp_seq ?_; refine wp_seq ?_
  refine enterR (idx := [0, 1, 2]) (by kernel_rfl) ?_
  let kv6 : Value := .bool (((d.f : Int) == f) && ((((d.r.a : Int) == r.a) && (((d.r.b : Int) == r.b) && (((d.r.c : Int) == r.c) && (((d.r.d : Int) == r.d) && (true))))) && (true)))
  refine segV hE hR [(0, .op (hks 0 0 5)), (1, .op [.r 0 0, .r 0 1, .r 0 2, .r 0 3, .r 0 4]), (2, .alt (.bool (((d.f : Int) == f) && ((((d.r.a : Int) == r.a) && (((d.r.b : Int) == r.b) && (((d.r.c : Int) == r.c) && (((d.r.d : Int) == r.d) && (true))))) && (true)))))] [] [(18, kv6)] [True, (.bool (((d.f : Int) == f) && ((((d.r.a : Int) == r.a) && (((d.r.b : Int) == r.b) && (((d.r.c : Int) == r.c) && (((d.r.d : Int) == r.d) && (true))))) && (true))) : Value) = (.bool (((d.f : Int) == f) && ((((d.r.a : Int) == r.a) && (((d.r.b : Int) == r.b) && (((d.r.c : Int) == r.c) && (((d.r.d : Int) == r.d) && (true))))) && (true))) : Value)] (by kernel_rfl) (by kernel_rfl) (by kernel_rfl) ⟨trivial, rfl, trivial⟩ ?_
  clear hE hR; intro a u hE hR
  refine opsNil ?_; refine thenN ?_
  refine condF hE (b := ((d.f : Int) == f) && ((((d.r.a : Int) == r.a) && (((d.r.b : Int) == r.b) && (((d.r.c : Int) == r.c) && (((d.r.d : Int) == r.d) && (true))))) && (true))) (by kernel_rfl) (h1) ?_
  refine wp_skip ?_; refine thenN ?_; refine wp_seq ?_; refine wp_seq ?_
  rcases Bool.eq_false_or_eq_true ((ck : Int) == 5) with hc2 | hc2
  · show Code.wp _ _ _ _ _
    have ehc2 := beq_iff_eq.1 hc2
    refine enterR (idx := [0, 1, 2, 3, 4, 5, 6, 7, 8, 9, 10, 11, 12, 13, 14, 15, 16, 17]) (by kernel_rfl) ?_
    refine segV hE hR [(0, .op [.r 0 0, .r 0 1, .r 0 2, .r 0 3, .r 0 4]), (1, .op []), (2, .alt (.bool (((f : Int) == 8) && ((((r.a : Int) == 0) && (((r.b : Int) == 0) && (((r.c : Int) == 0) && (((r.d : Int) == 0) && (true))))) && (true))))), (3, .op []), (4, .op []), (5, .op [.r 1 0]), (6, .op []), (7, .op []), (8, .skip), (9, .skip), (10, .skip), (11, .as [] (.bool true)), (12, .as [] (.bool true)), (13, .op []), (14, .op []), (15, .op [.k 0 0]), (16, .op []), (17, .op [])] [] [(37, .bool ((d.f : Int) == 0))] [true = true, true = true, true = true, ((if (((f : Int) == 8) && ((((r.a : Int) == 0) && (((r.b : Int) == 0) && (((r.c : Int) == 0) && (((r.d : Int) == 0) && (true))))) && (true))) = true then (.bool true : Value) else (.bool false : Value)) : Value) = (.bool true : Value), ((if ((ck : Int) == 5) = true then (.bool true : Value) else (.tuple #[] : Value)) : Value) = (.bool true : Value), (((f : Int) == 8) && ((((r.a : Int) == 0) && (((r.b : Int) == 0) && (((r.c : Int) == 0) && (((r.d : Int) == 0) && (true))))) && (true))) = true, ((ck : Int) == 5) = !false, ((ck : Int) == 5) = !false, ((ck : Int) == 5) = !false, (((f : Int) == 8) && ((((r.a : Int) == 0) && (((r.b : Int) == 0) && (((r.c : Int) == 0) && (((r.d : Int) == 0) && (true))))) && (true))) = true, (((f : Int) == 8) && ((((r.a : Int) == 0) && (((r.b : Int) == 0) && (((r.c : Int) == 0) && (((r.d : Int) == 0) && (true))))) && (true))) = true, (((f : Int) == 8) && ((((r.a : Int) == 0) && (((r.b : Int) == 0) && (((r.c : Int) == 0) && (((r.d : Int) == 0) && (true))))) && (true))) = true, (((f : Int) == 8) && ((((r.a : Int) == 0) && (((r.b : Int) == 0) && (((r.c : Int) == 0) && (((r.d : Int) == 0) && (true))))) && (true))) = true, True, (.bool (((f : Int) == 8) && ((((r.a : Int) == 0) && (((r.b : Int) == 0) && (((r.c : Int) == 0) && (((r.d : Int) == 0) && (true))))) && (true))) : Value) = (.bool (((f : Int) == 8) && ((((r.a : Int) == 0) && (((r.b : Int) == 0) && (((r.c : Int) == 0) && (((r.d : Int) == 0) && (true))))) && (true))) : Value)] (by kernel_rfl) (by kernel_rfl) (by kernel_rfl) ⟨rfl, rfl, rfl, if_pos (h8), if_pos (hc2), h8, hc2, hc2, hc2, h8, h8, h8, h8, trivial, rfl, trivial⟩ ?_
    clear hE hR; intro a u hE hR
    refine opsNil ?_; refine thenN ?_
    rcases Bool.eq_false_or_eq_true ((d.f : Int) == 0) with hc3 | hc3
    · refine condT hE (b := (d.f : Int) == 0) (by kernel_rfl) hc3 ?_
      have ehc3 := beq_iff_eq.1 hc3
      refine wp_seq ?_
      refine enterR (idx := [0, 1, 2]) (by kernel_rfl) ?_
      refine segV hE hR [(0, .op []), (1, .op []), (2, .op [])] [] [(6, .slice A n c), (7, .bool true)] [] (by kernel_rfl) (by kernel_rfl) (by kernel_rfl) trivial ?_
      clear hE hR; intro a u hE hR
      refine opsNil ?_; refine thenN ?_; refine wp_ret ?_; refine thenR ?_
      refine retF hE hR [] (.tuple #[.slice A n c, .bool true]) (by kernel_rfl) (by kernel_rfl) (by kernel_rfl) ?_
      exact ⟨retB (b := decide (d.f = 0) && (decide (ck = 5) || decide (ck = 6))) (by rw [Bool.eq_iff_iff]; first | (simp; done) | (simp; omega)), hR.below (by simp)⟩
    · refine condF hE (b := (d.f : Int) == 0) (by kernel_rfl) hc3 ?_
      have ehc3 := beq_eq_false_iff_ne.1 hc3
      refine wp_skip ?_; refine thenN ?_; refine wp_seq ?_; refine wp_seq ?_
      refine enterR (idx := [0, 1, 2, 3, 4, 5, 6, 7, 8, 9, 10, 11, 12, 13, 14, 15, 16, 17, 18, 19, 20, 21, 22]) (by kernel_rfl) ?_
      refine segV hE hR [(0, .op [.r 0 0, .r 0 1, .r 0 2, .r 0 3, .r 0 4]), (1, .op []), (2, .alt (.bool (((f : Int) == 9) && ((((r.a : Int) == 0) && (((r.b : Int) == 0) && (((r.c : Int) == 0) && (((r.d : Int) == 0) && (true))))) && (true))))), (3, .op []), (4, .skip), (5, .skip), (6, .skip), (7, .as [] (.bool false)), (8, .op []), (9, .skip), (10, .skip), (11, .skip), (12, .op []), (13, .op []), (14, .skip), (15, .skip), (16, .skip), (17, .skip), (18, .skip), (19, .skip), (20, .skip), (21, .skip), (22, .op [])] [] [(61, .bool false)] [false = !true, false = !true, false = !true, false = !true, false = !true, false = !true, false = !true, false = !true, ((if (((f : Int) == 9) && ((((r.a : Int) == 0) && (((r.b : Int) == 0) && (((r.c : Int) == 0) && (((r.d : Int) == 0) && (true))))) && (true))) = true then (.tuple #[] : Value) else (.bool false : Value)) : Value) = (.bool false : Value), (((f : Int) == 9) && ((((r.a : Int) == 0) && (((r.b : Int) == 0) && (((r.c : Int) == 0) && (((r.d : Int) == 0) && (true))))) && (true))) = !true, (((f : Int) == 9) && ((((r.a : Int) == 0) && (((r.b : Int) == 0) && (((r.c : Int) == 0) && (((r.d : Int) == 0) && (true))))) && (true))) = !true, (((f : Int) == 9) && ((((r.a : Int) == 0) && (((r.b : Int) == 0) && (((r.c : Int) == 0) && (((r.d : Int) == 0) && (true))))) && (true))) = !true, True, (.bool (((f : Int) == 9) && ((((r.a : Int) == 0) && (((r.b : Int) == 0) && (((r.c : Int) == 0) && (((r.d : Int) == 0) && (true))))) && (true))) : Value) = (.bool (((f : Int) == 9) && ((((r.a : Int) == 0) && (((r.b : Int) == 0) && (((r.c : Int) == 0) && (((r.d : Int) == 0) && (true))))) && (true))) : Value)] (by kernel_rfl) (by kernel_rfl) (by kernel_rfl) ⟨rfl, rfl, rfl, rfl, rfl, rfl, rfl, rfl, if_neg (by rw [h9]; decide), h9, h9, h9, trivial, rfl, trivial⟩ ?_
      clear hE hR; intro a u hE hR
      refine opsNil ?_; refine thenN ?_
      refine condF hE (b := false) (by kernel_rfl) rfl ?_
      refine wp_skip ?_; refine thenN ?_; refine wp_seq ?_
      refine enterR (idx := [0, 1, 2]) (by kernel_rfl) ?_
      refine seg0 hE hR [(0, .op []), (1, .op []), (2, .op [])] [] [(0, .slice A n c), (4, .pointer (some ⟨H0, 0, none⟩)), (5, .pointer (some ⟨H0 + 1, 0, none⟩)), (6, .slice A n c), (7, .bool false), (9, .pointer (some ⟨H1, 0, none⟩)), (8, s2), (18, kv6), (37, .bool ((d.f : Int) == 0)), (61, .bool false)] [] (by kernel_rfl) (by kernel_rfl) (by kernel_rfl) trivial ?_
      clear hE hR; intro a u hE hR
      refine opsNil ?_; refine thenN ?_; refine wp_ret ?_
      refine retF hE hR [] (.tuple #[.slice A n c, .bool false]) (by kernel_rfl) (by kernel_rfl) (by kernel_rfl) ?_
      exact ⟨retB (b := decide (d.f = 0) && (decide (ck = 5) || decide (ck = 6))) (by rw [Bool.eq_iff_iff]; first | (simp; done) | (simp; omega)), hR.below (by simp)⟩
  · show Code.wp _ _ _ _ _
    have ehc2 := beq_eq_false_iff_ne.1 hc2
    rcases Bool.eq_false_or_eq_true ((ck : Int) == 6) with hc4 | hc4
    · show Code.wp _ _ _ _ _
      have ehc4 := beq_iff_eq.1 hc4
      refine enterR (idx := [0, 1, 2, 3, 4, 5, 6, 7, 8, 9, 10, 11, 12, 13, 14, 15, 16, 17]) (by kernel_rfl) ?_
      refine segV hE hR [(0, .op [.r 0 0, .r 0 1, .r 0 2, .r 0 3, .r 0 4]), (1, .op []), (2, .alt (.bool (((f : Int) == 8) && ((((r.a : Int) == 0) && (((r.b : Int) == 0) && (((r.c : Int) == 0) && (((r.d : Int) == 0) && (true))))) && (true))))), (3, .op []), (4, .op []), (5, .op [.r 1 0]), (6, .op []), (7, .op []), (8, .op []), (9, .op [.r 1 0]), (10, .op []), (11, .as [] (.bool ((ck : Int) == 6))), (12, .as [] (.bool ((ck : Int) == 6))), (13, .op []), (14, .op []), (15, .op [.k 0 0]), (16, .op []), (17, .as [] (.bool ((d.f : Int) == 0)))] [] [(37, .bool ((d.f : Int) == 0))] [((if ((ck : Int) == 6) = true then (.bool ((d.f : Int) == 0) : Value) else (.bool false : Value)) : Value) = (.bool ((d.f : Int) == 0) : Value), ((ck : Int) == 6) = true, ((ck : Int) == 6) = true, ((ck : Int) == 6) = true, ((if (((f : Int) == 8) && ((((r.a : Int) == 0) && (((r.b : Int) == 0) && (((r.c : Int) == 0) && (((r.d : Int) == 0) && (true))))) && (true))) = true then (.bool ((ck : Int) == 6) : Value) else (.bool false : Value)) : Value) = (.bool ((ck : Int) == 6) : Value), ((if ((ck : Int) == 5) = true then (.bool true : Value) else (.bool ((ck : Int) == 6) : Value)) : Value) = (.bool ((ck : Int) == 6) : Value), (((f : Int) == 8) && ((((r.a : Int) == 0) && (((r.b : Int) == 0) && (((r.c : Int) == 0) && (((r.d : Int) == 0) && (true))))) && (true))) = true, ((ck : Int) == 5) = false, ((ck : Int) == 5) = false, ((ck : Int) == 5) = false, (((f : Int) == 8) && ((((r.a : Int) == 0) && (((r.b : Int) == 0) && (((r.c : Int) == 0) && (((r.d : Int) == 0) && (true))))) && (true))) = true, (((f : Int) == 8) && ((((r.a : Int) == 0) && (((r.b : Int) == 0) && (((r.c : Int) == 0) && (((r.d : Int) == 0) && (true))))) && (true))) = true, (((f : Int) == 8) && ((((r.a : Int) == 0) && (((r.b : Int) == 0) && (((r.c : Int) == 0) && (((r.d : Int) == 0) && (true))))) && (true))) = true, (((f : Int) == 8) && ((((r.a : Int) == 0) && (((r.b : Int) == 0) && (((r.c : Int) == 0) && (((r.d : Int) == 0) && (true))))) && (true))) = true, True, (.bool (((f : Int) == 8) && ((((r.a : Int) == 0) && (((r.b : Int) == 0) && (((r.c : Int) == 0) && (((r.d : Int) == 0) && (true))))) && (true))) : Value) = (.bool (((f : Int) == 8) && ((((r.a : Int) == 0) && (((r.b : Int) == 0) && (((r.c : Int) == 0) && (((r.d : Int) == 0) && (true))))) && (true))) : Value)] (by kernel_rfl) (by kernel_rfl) (by kernel_rfl) ⟨if_pos (hc4), hc4, hc4, hc4, if_pos (h8), if_neg (by rw [hc2]; decide), h8, hc2, hc2, hc2, h8, h8, h8, h8, trivial, rfl, trivial⟩ ?_
      clear hE hR; intro a u hE hR
      refine opsNil ?_; refine thenN ?_
      rcases Bool.eq_false_or_eq_true ((d.f : Int) == 0) with hc5 | hc5
      · refine condT hE (b := (d.f : Int) == 0) (by kernel_rfl) hc5 ?_
        have ehc5 := beq_iff_eq.1 hc5
        refine wp_seq ?_
        refine enterR (idx := [0, 1, 2]) (by kernel_rfl) ?_
        refine segV hE hR [(0, .op []), (1, .op []), (2, .op [])] [] [(6, .slice A n c), (7, .bool true)] [] (by kernel_rfl) (by kernel_rfl) (by kernel_rfl) trivial ?_
        clear hE hR; intro a u hE hR
        refine opsNil ?_; refine thenN ?_; refine wp_ret ?_; refine thenR ?_
        refine retF hE hR [] (.tuple #[.slice A n c, .bool true]) (by kernel_rfl) (by kernel_rfl) (by kernel_rfl) ?_
        exact ⟨retB (b := decide (d.f = 0) && (decide (ck = 5) || decide (ck = 6))) (by rw [Bool.eq_iff_iff]; first | (simp; done) | (simp; omega)), hR.below (by simp)⟩
      · refine condF hE (b := (d.f : Int) == 0) (by kernel_rfl) hc5 ?_
        have ehc5 := beq_eq_false_iff_ne.1 hc5
        refine wp_skip ?_; refine thenN ?_; refine wp_seq ?_; refine wp_seq ?_
        refine enterR (idx := [0, 1, 2, 3, 4, 5, 6, 7, 8, 9, 10, 11, 12, 13, 14, 15, 16, 17, 18, 19, 20, 21, 22]) (by kernel_rfl) ?_
        refine segV hE hR [(0, .op [.r 0 0, .r 0 1, .r 0 2, .r 0 3, .r 0 4]), (1, .op []), (2, .alt (.bool (((f : Int) == 9) && ((((r.a : Int) == 0) && (((r.b : Int) == 0) && (((r.c : Int) == 0) && (((r.d : Int) == 0) && (true))))) && (true))))), (3, .op []), (4, .skip), (5, .skip), (6, .skip), (7, .as [] (.bool false)), (8, .op []), (9, .skip), (10, .skip), (11, .skip), (12, .op []), (13, .op []), (14, .skip), (15, .skip), (16, .skip), (17, .skip), (18, .skip), (19, .skip), (20, .skip), (21, .skip), (22, .op [])] [] [(61, .bool false)] [false = !true, false = !true, false = !true, false = !true, false = !true, false = !true, false = !true, false = !true, ((if (((f : Int) == 9) && ((((r.a : Int) == 0) && (((r.b : Int) == 0) && (((r.c : Int) == 0) && (((r.d : Int) == 0) && (true))))) && (true))) = true then (.tuple #[] : Value) else (.bool false : Value)) : Value) = (.bool false : Value), (((f : Int) == 9) && ((((r.a : Int) == 0) && (((r.b : Int) == 0) && (((r.c : Int) == 0) && (((r.d : Int) == 0) && (true))))) && (true))) = !true, (((f : Int) == 9) && ((((r.a : Int) == 0) && (((r.b : Int) == 0) && (((r.c : Int) == 0) && (((r.d : Int) == 0) && (true))))) && (true))) = !true, (((f : Int) == 9) && ((((r.a : Int) == 0) && (((r.b : Int) == 0) && (((r.c : Int) == 0) && (((r.d : Int) == 0) && (true))))) && (true))) = !true, True, (.bool (((f : Int) == 9) && ((((r.a : Int) == 0) && (((r.b : Int) == 0) && (((r.c : Int) == 0) && (((r.d : Int) == 0) && (true))))) && (true))) : Value) = (.bool (((f : Int) == 9) && ((((r.a : Int) == 0) && (((r.b : Int) == 0) && (((r.c : Int) == 0) && (((r.d : Int) == 0) && (true))))) && (true))) : Value)] (by kernel_rfl) (by kernel_rfl) (by kernel_rfl) ⟨rfl, rfl, rfl, rfl, rfl, rfl, rfl, rfl, if_neg (by rw [h9]; decide), h9, h9, h9, trivial, rfl, trivial⟩ ?_
        clear hE hR; intro a u hE hR
        refine opsNil ?_; refine thenN ?_
        refine condF hE (b := false) (by kernel_rfl) rfl ?_
        refine wp_skip ?_; refine thenN ?_; refine wp_seq ?_
        refine enterR (idx := [0, 1, 2]) (by kernel_rfl) ?_
        refine segV hE hR [(0, .op []), (1, .op []), (2, .op [])] [] [(6, .slice A n c)] [] (by kernel_rfl) (by kernel_rfl) (by kernel_rfl) trivial ?_
        clear hE hR; intro a u hE hR
        refine opsNil ?_; refine thenN ?_; refine wp_ret ?_
        refine retF hE hR [] (.tuple #[.slice A n c, .bool false]) (by kernel_rfl) (by kernel_rfl) (by kernel_rfl) ?_
        exact ⟨retB (b := decide (d.f = 0) && (decide (ck = 5) || decide (ck = 6))) (by rw [Bool.eq_iff_iff]; first | (simp; done) | (simp; omega)), hR.below (by simp)⟩
    · show Code.wp _ _ _ _ _
      have ehc4 := beq_eq_false_iff_ne.1 hc4
      refine enterR (idx := [0, 1, 2, 3, 4, 5, 6, 7, 8, 9, 10, 11, 12, 13, 14, 15, 16, 17]) (by kernel_rfl) ?_
      refine segV hE hR [(0, .op [.r 0 0, .r 0 1, .r 0 2, .r 0 3, .r 0 4]), (1, .op []), (2, .alt (.bool (((f : Int) == 8) && ((((r.a : Int) == 0) && (((r.b : Int) == 0) && (((r.c : Int) == 0) && (((r.d : Int) == 0) && (true))))) && (true))))), (3, .op []), (4, .op []), (5, .op [.r 1 0]), (6, .op []), (7, .op []), (8, .op []), (9, .op [.r 1 0]), (10, .op []), (11, .as [] (.bool ((ck : Int) == 6))), (12, .as [] (.bool ((ck : Int) == 6))), (13, .op []), (14, .skip), (15, .skip), (16, .skip), (17, .as [] (.bool false))] [] [(37, .bool false)] [((if ((ck : Int) == 6) = true then (.tuple #[] : Value) else (.bool false : Value)) : Value) = (.bool false : Value), ((ck : Int) == 6) = !true, ((ck : Int) == 6) = !true, ((ck : Int) == 6) = !true, ((if (((f : Int) == 8) && ((((r.a : Int) == 0) && (((r.b : Int) == 0) && (((r.c : Int) == 0) && (((r.d : Int) == 0) && (true))))) && (true))) = true then (.bool ((ck : Int) == 6) : Value) else (.bool false : Value)) : Value) = (.bool ((ck : Int) == 6) : Value), ((if ((ck : Int) == 5) = true then (.bool true : Value) else (.bool ((ck : Int) == 6) : Value)) : Value) = (.bool ((ck : Int) == 6) : Value), (((f : Int) == 8) && ((((r.a : Int) == 0) && (((r.b : Int) == 0) && (((r.c : Int) == 0) && (((r.d : Int) == 0) && (true))))) && (true))) = true, ((ck : Int) == 5) = false, ((ck : Int) == 5) = false, ((ck : Int) == 5) = false, (((f : Int) == 8) && ((((r.a : Int) == 0) && (((r.b : Int) == 0) && (((r.c : Int) == 0) && (((r.d : Int) == 0) && (true))))) && (true))) = true, (((f : Int) == 8) && ((((r.a : Int) == 0) && (((r.b : Int) == 0) && (((r.c : Int) == 0) && (((r.d : Int) == 0) && (true))))) && (true))) = true, (((f : Int) == 8) && ((((r.a : Int) == 0) && (((r.b : Int) == 0) && (((r.c : Int) == 0) && (((r.d : Int) == 0) && (true))))) && (true))) = true, (((f : Int) == 8) && ((((r.a : Int) == 0) && (((r.b : Int) == 0) && (((r.c : Int) == 0) && (((r.d : Int) == 0) && (true))))) && (true))) = true, True, (.bool (((f : Int) == 8) && ((((r.a : Int) == 0) && (((r.b : Int) == 0) && (((r.c : Int) == 0) && (((r.d : Int) == 0) && (true))))) && (true))) : Value) = (.bool (((f : Int) == 8) && ((((r.a : Int) == 0) && (((r.b : Int) == 0) && (((r.c : Int) == 0) && (((r.d : Int) == 0) && (true))))) && (true))) : Value)] (by kernel_rfl) (by kernel_rfl) (by kernel_rfl) ⟨if_neg (by rw [hc4]; decide), hc4, hc4, hc4, if_pos (h8), if_neg (by rw [hc2]; decide), h8, hc2, hc2, hc2, h8, h8, h8, h8, trivial, rfl, trivial⟩ ?_
      clear hE hR; intro a u hE hR
      refine opsNil ?_; refine thenN ?_
      refine condF hE (b := false) (by kernel_rfl) rfl ?_
      refine wp_skip ?_; refine thenN ?_; refine wp_seq ?_; refine wp_seq ?_
      refine enterR (idx := [0, 1, 2, 3, 4, 5, 6, 7, 8, 9, 10, 11, 12, 13, 14, 15, 16, 17, 18, 19, 20, 21, 22]) (by kernel_rfl) ?_
      refine segV hE hR [(0, .op [.r 0 0, .r 0 1, .r 0 2, .r 0 3, .r 0 4]), (1, .op []), (2, .alt (.bool (((f : Int) == 9) && ((((r.a : Int) == 0) && (((r.b : Int) == 0) && (((r.c : Int) == 0) && (((r.d : Int) == 0) && (true))))) && (true))))), (3, .op []), (4, .skip), (5, .skip), (6, .skip), (7, .as [] (.bool false)), (8, .op []), (9, .skip), (10, .skip), (11, .skip), (12, .op []), (13, .op []), (14, .skip), (15, .skip), (16, .skip), (17, .skip), (18, .skip), (19, .skip), (20, .skip), (21, .skip), (22, .op [])] [] [(61, .bool false)] [false = !true, false = !true, false = !true, false = !true, false = !true, false = !true, false = !true, false = !true, ((if (((f : Int) == 9) && ((((r.a : Int) == 0) && (((r.b : Int) == 0) && (((r.c : Int) == 0) && (((r.d : Int) == 0) && (true))))) && (true))) = true then (.tuple #[] : Value) else (.bool false : Value)) : Value) = (.bool false : Value), (((f : Int) == 9) && ((((r.a : Int) == 0) && (((r.b : Int) == 0) && (((r.c : Int) == 0) && (((r.d : Int) == 0) && (true))))) && (true))) = !true, (((f : Int) == 9) && ((((r.a : Int) == 0) && (((r.b : Int) == 0) && (((r.c : Int) == 0) && (((r.d : Int) == 0) && (true))))) && (true))) = !true, (((f : Int) == 9) && ((((r.a : Int) == 0) && (((r.b : Int) == 0) && (((r.c : Int) == 0) && (((r.d : Int) == 0) && (true))))) && (true))) = !true, True, (.bool (((f : Int) == 9) && ((((r.a : Int) == 0) && (((r.b : Int) == 0) && (((r.c : Int) == 0) && (((r.d : Int) == 0) && (true))))) && (true))) : Value) = (.bool (((f : Int) == 9) && ((((r.a : Int) == 0) && (((r.b : Int) == 0) && (((r.c : Int) == 0) && (((r.d : Int) == 0) && (true))))) && (true))) : Value)] (by kernel_rfl) (by kernel_rfl) (by kernel_rfl) ⟨rfl, rfl, rfl, rfl, rfl, rfl, rfl, rfl, if_neg (by rw [h9]; decide), h9, h9, h9, trivial, rfl, trivial⟩ ?_
      clear hE hR; intro a u hE hR
      refine opsNil ?_; refine thenN ?_
      refine condF hE (b := false) (by kernel_rfl) rfl ?_
      refine wp_skip ?_; refine thenN ?_; refine wp_seq ?_
      refine enterR (idx := [0, 1, 2]) (by kernel_rfl) ?_
      refine segV hE hR [(0, .op []), (1, .op []), (2, .op [])] [] [(6, .slice A n c)] [] (by kernel_rfl) (by kernel_rfl) (by kernel_rfl) trivial ?_
      clear hE hR; intro a u hE hR
      refine opsNil ?_; refine thenN ?_; refine wp_ret ?_
      refine retF hE hR [] (.tuple #[.slice A n c, .bool false]) (by kernel_rfl) (by kernel_rfl) (by kernel_rfl) ?_
      exact ⟨retB (b := decide (d.f = 0) && (decide (ck = 5) || decide (ck = 6))) (by rw [Bool.eq_iff_iff]; first | (simp; done) | (simp; omega)), hR.below (by simp)⟩
set_option maxRecDepth 100000 in
theorem allowsR_time (A : Option Addr) (n c : Nat) (L : List IV) (d : DoX) (ck co : Int) (cv : Vl) (cn f : Int) (r : Vl) (w : World) (hs : ItemsR w (.slice A n c) L) (HDO : ∀ W, ItemsR W (.slice A n c) L → Calls Try.prog 26 #[.slice A n c, callA ck co cv cn] W (DoR d W)) (h1 : (((d.f : Int) == f) && ((((d.r.a : Int) == r.a) && (((d.r.b : Int) == r.b) && (((d.r.c : Int) == r.c) && (((d.r.d : Int) == r.d) && (true))))) && (true))) = false) (h8 : (((f : Int) == 8) && ((((r.a : Int) == 0) && (((r.b : Int) == 0) && (((r.c : Int) == 0) && (((r.d : Int) == 0) && (true))))) && (true))) = false) (h9 : (((f : Int) == 9) && ((((r.a : Int) == 0) && (((r.b : Int) == 0) && (((r.c : Int) == 0) && (((r.d : Int) == 0) && (true))))) && (true))) = true) :
    Calls Try.prog 28 #[.slice A n c, .agg #[.int .i64 ck, .int .i64 co, .int .u32 cv.a, .int .u32 cv.b, .int .u32 cv.c, .int .u32 cv.d, .int .u32 cn], .agg #[.int .i64 f, .int .u32 r.a, .int .u32 r.b, .int .u32 r.c, .int .u32 r.d]] w fun e W' => e = .returned (.tuple #[.slice A n c, .bool ((decide (d.f = 6) || decide (d.f = 7)) && (decide (14 ≤ ck) && decide (ck ≤ 17)))]) ∧ Below w.heap.size w W' := by
  let kv1 : Value := .agg #[.int .i64 ck, .int .i64 co, .int .u32 cv.a, .int .u32 cv.b, .int .u32 cv.c, .int .u32 cv.d, .int .u32 cn]
  let kv2 : Value := .agg #[.int .i64 f, .int .u32 r.a, .int .u32 r.b, .int .u32 r.c, .int .u32 r.d]
  refine enterF Try.func28 rfl Try.ntmps28 [(0, .slice A n c), (1, kv1), (2, kv2)] (by kernel_rfl) (by kernel_rfl) ?_
  have hR := Rep.start w
  obtain ⟨H0, hH0⟩ : ∃ x, x = w.heap.size := ⟨_, rfl⟩
  rw [← hH0] at hR
  intro a hE
  refine wp_seq ?_
  refine enterR (idx := [0, 1, 2, 3]) (by kernel_rfl) ?_
  let kc3 : List Value := [.int .i64 f, .int .u32 r.a, .int .u32 r.b, .int .u32 r.c, .int .u32 r.d]
  let kc4 : List Value := [.int .i64 ck, .int .i64 co, .int .u32 cv.a, .int .u32 cv.b, .int .u32 cv.c, .int .u32 cv.d, .int .u32 cn]
  refine segU hE hR [(0, .op []), (1, .op []), (2, .op []), (3, .op [])] [] [(4, .pointer (some ⟨H0, 0, none⟩)), (5, .pointer (some ⟨H0 + 1, 0, none⟩)), (6, .slice none 0 0), (7, .bool false)] [⟨H0 + 1, 0, kc3, 63, true⟩, ⟨H0, 0, kc4, 60, true⟩] (H0 + 2) [] (by kernel_rfl) (by kernel_rfl) (by kernel_rfl) trivial ?_
  clear hE hR; intro a u hE hR
  refine opsNil ?_; refine thenN ?_; refine wp_seq ?_
  refine enterR (idx := [0, 1, 2, 3, 4, 5, 6, 7, 8]) (by kernel_rfl) ?_
  refine segV hE hR [(0, .op []), (1, .op (hks 1 0 7))] [2, 3, 4, 5, 6, 7, 8] [(11, .slice A n c), (12, kv1)] [] (by kernel_rfl) (by kernel_rfl) (by kernel_rfl) trivial ?_
  clear hE hR; intro a u hE hR
  refine opsCons ?_
  refine call hE hR [] 26 #[.slice A n c, kv1] (some 13) [] (by kernel_rfl) (by kernel_rfl) trivial (HDO _ (hs.below (hR.below (by simp)))) (by rintro _ _ ⟨_, _, h, _⟩; cases h) (by rintro _ ⟨_, _, h, _⟩; cases h) ?_
  clear hE
  rintro v uD ⟨s2, L2, hv, hit2, hl2, hb⟩ a hE
  cases hv
  obtain ⟨H1, hH1, hR⟩ := hR.callE hb
  replace hR : Rep ((uD, fun _ => True) :: [(w, fun _ => True)]) uD H1 [] [⟨H0 + 1, 0, kc3⟩, ⟨H0, 0, kc4⟩] := hR.freeze
  let kc5 : List Value := [.int .i64 d.f, .int .u32 d.r.a, .int .u32 d.r.b, .int .u32 d.r.c, .int .u32 d.r.d]
  refine segU hE hR [(3, .op []), (4, .op []), (5, .op []), (6, .op []), (7, .op []), (8, .op (hks 0 0 5))] [] [(9, .pointer (some ⟨H1, 0, none⟩)), (8, s2)] [⟨H1, 0, kc5, 63, true⟩] (H1 + 1) [] (by kernel_rfl) (by kernel_rfl) (by kernel_rfl) trivial ?_
  clear hE hR; intro a u hE hR
  refine opsNil ?_; refine thenN ?_; refine wp_seq ?_; refine wp_seq ?_
  refine enterR (idx := [0, 1, 2]) (by kernel_rfl) ?_
  let kv6 : Value := .bool (((d.f : Int) == f) && ((((d.r.a : Int) == r.a) && (((d.r.b : Int) == r.b) && (((d.r.c : Int) == r.c) && (((d.r.d : Int) == r.d) && (true))))) && (true)))
  refine segV hE hR [(0, .op (hks 0 0 5)), (1, .op [.r 0 0, .r 0 1, .r 0 2, .r 0 3, .r 0 4]), (2, .alt (.bool (((d.f : Int) == f) && ((((d.r.a : Int) == r.a) && (((d.r.b : Int) == r.b) && (((d.r.c : Int) == r.c) && (((d.r.d : Int) == r.d) && (true))))) && (true)))))] [] [(18, kv6)] [True, (.bool (((d.f : Int) == f) && ((((d.r.a : Int) == r.a) && (((d.r.b : Int) == r.b) && (((d.r.c : Int) == r.c) && (((d.r.d : Int) == r.d) && (true))))) && (true))) : Value) = (.bool (((d.f : Int) == f) && ((((d.r.a : Int) == r.a) && (((d.r.b : Int) == r.b) && (((d.r.c : Int) == r.c) && (((d.r.d : Int) == r.d) && (true))))) && (true))) : Value)] (by kernel_rfl) (by kernel_rfl) (by kernel_rfl) ⟨trivial, rfl, trivial⟩ ?_
  clear hE hR; intro a u hE hR
  refine opsNil ?_; refine thenN ?_
  refine condF hE (b := ((d.f : Int) == f) && ((((d.r.a : Int) == r.a) && (((d.r.b : Int) == r.b) && (((d.r.c : Int) == r.c) && (((d.r.d : Int) == r.d) && (true))))) && (true))) (by kernel_rfl) (h1) ?_
  refine wp_skip ?_; refine thenN ?_; refine wp_seq ?_; refine wp_seq ?_
  refine enterR (idx := [0, 1, 2, 3, 4, 5, 6, 7, 8, 9, 10, 11, 12, 13, 14, 15, 16, 17]) (by kernel_rfl) ?_
  refine segV hE hR [(0, .op [.r 0 0, .r 0 1, .r 0 2, .r 0 3, .r 0 4]), (1, .op []), (2, .alt (.bool (((f : Int) == 8) && ((((r.a : Int) == 0) && (((r.b : Int) == 0) && (((r.c : Int) == 0) && (((r.d : Int) == 0) && (true))))) && (true))))), (3, .op []), (4, .skip), (5, .skip), (6, .skip), (7, .skip), (8, .skip), (9, .skip), (10, .skip), (11, .skip), (12, .as [] (.bool false)), (13, .op []), (14, .skip), (15, .skip), (16, .skip), (17, .op [])] [] [(37, .bool false)] [false = !true, false = !true, false = !true, ((if (((f : Int) == 8) && ((((r.a : Int) == 0) && (((r.b : Int) == 0) && (((r.c : Int) == 0) && (((r.d : Int) == 0) && (true))))) && (true))) = true then (.tuple #[] : Value) else (.bool false : Value)) : Value) = (.bool false : Value), (((f : Int) == 8) && ((((r.a : Int) == 0) && (((r.b : Int) == 0) && (((r.c : Int) == 0) && (((r.d : Int) == 0) && (true))))) && (true))) = !true, (((f : Int) == 8) && ((((r.a : Int) == 0) && (((r.b : Int) == 0) && (((r.c : Int) == 0) && (((r.d : Int) == 0) && (true))))) && (true))) = !true, (((f : Int) == 8) && ((((r.a : Int) == 0) && (((r.b : Int) == 0) && (((r.c : Int) == 0) && (((r.d : Int) == 0) && (true))))) && (true))) = !true, (((f : Int) == 8) && ((((r.a : Int) == 0) && (((r.b : Int) == 0) && (((r.c : Int) == 0) && (((r.d : Int) == 0) && (true))))) && (true))) = !true, (((f : Int) == 8) && ((((r.a : Int) == 0) && (((r.b : Int) == 0) && (((r.c : Int) == 0) && (((r.d : Int) == 0) && (true))))) && (true))) = !true, True, (.bool (((f : Int) == 8) && ((((r.a : Int) == 0) && (((r.b : Int) == 0) && (((r.c : Int) == 0) && (((r.d : Int) == 0) && (true))))) && (true))) : Value) = (.bool (((f : Int) == 8) && ((((r.a : Int) == 0) && (((r.b : Int) == 0) && (((r.c : Int) == 0) && (((r.d : Int) == 0) && (true))))) && (true))) : Value)] (by kernel_rfl) (by kernel_rfl) (by kernel_rfl) ⟨rfl, rfl, rfl, if_neg (by rw [h8]; decide), h8, h8, h8, h8, h8, trivial, rfl, trivial⟩ ?_
  clear hE hR; intro a u hE hR
  refine opsNil ?_; refine thenN ?_
  refine condF hE (b := false) (by kernel_rfl) rfl ?_
  refine wp_skip ?_; refine thenN ?_; refine wp_seq ?_; refine wp_seq ?_
  rcases Bool.eq_false_or_eq_true (decide ((ck : Int) ≥ 14)) with hc2 | hc2
  · show Code.wp _ _ _ _ _
    have ehc2 := of_decide_eq_true hc2
    rcases Bool.eq_false_or_eq_true (decide ((ck : Int) ≤ 17)) with hc3 | hc3
    · show Code.wp _ _ _ _ _
      have ehc3 := of_decide_eq_true hc3
      rcases Bool.eq_false_or_eq_true ((d.f : Int) == 6) with hc4 | hc4
      · show Code.wp _ _ _ _ _
        have ehc4 := beq_iff_eq.1 hc4
        refine enterR (idx := [0, 1, 2, 3, 4, 5, 6, 7, 8, 9, 10, 11, 12, 13, 14, 15, 16, 17, 18, 19, 20, 21, 22]) (by kernel_rfl) ?_
        refine segV hE hR [(0, .op [.r 0 0, .r 0 1, .r 0 2, .r 0 3, .r 0 4]), (1, .op []), (2, .alt (.bool (((f : Int) == 9) && ((((r.a : Int) == 0) && (((r.b : Int) == 0) && (((r.c : Int) == 0) && (((r.d : Int) == 0) && (true))))) && (true))))), (3, .op []), (4, .op []), (5, .op [.r 1 0]), (6, .op []), (7, .as [] (.bool (decide ((ck : Int) ≥ 14)))), (8, .op []), (9, .op []), (10, .op [.r 1 0]), (11, .op []), (12, .as [] (.bool (decide ((ck : Int) ≤ 17)))), (13, .op []), (14, .op []), (15, .op [.k 0 0]), (16, .op []), (17, .op []), (18, .skip), (19, .skip), (20, .skip), (21, .as [] (.bool true)), (22, .as [] (.bool true))] [] [(61, .bool true)] [((if (decide ((ck : Int) ≤ 17)) = true then (.bool true : Value) else (.bool false : Value)) : Value) = (.bool true : Value), ((if ((d.f : Int) == 6) = true then (.bool true : Value) else (.tuple #[] : Value)) : Value) = (.bool true : Value), (decide ((ck : Int) ≤ 17)) = true, ((d.f : Int) == 6) = !false, ((d.f : Int) == 6) = !false, ((d.f : Int) == 6) = !false, (decide ((ck : Int) ≤ 17)) = true, (decide ((ck : Int) ≤ 17)) = true, (decide ((ck : Int) ≤ 17)) = true, (decide ((ck : Int) ≤ 17)) = true, ((if (decide ((ck : Int) ≥ 14)) = true then (.bool (decide ((ck : Int) ≤ 17)) : Value) else (.bool false : Value)) : Value) = (.bool (decide ((ck : Int) ≤ 17)) : Value), (decide ((ck : Int) ≥ 14)) = true, (decide ((ck : Int) ≥ 14)) = true, (decide ((ck : Int) ≥ 14)) = true, ((if (((f : Int) == 9) && ((((r.a : Int) == 0) && (((r.b : Int) == 0) && (((r.c : Int) == 0) && (((r.d : Int) == 0) && (true))))) && (true))) = true then (.bool (decide ((ck : Int) ≥ 14)) : Value) else (.bool false : Value)) : Value) = (.bool (decide ((ck : Int) ≥ 14)) : Value), (((f : Int) == 9) && ((((r.a : Int) == 0) && (((r.b : Int) == 0) && (((r.c : Int) == 0) && (((r.d : Int) == 0) && (true))))) && (true))) = true, (((f : Int) == 9) && ((((r.a : Int) == 0) && (((r.b : Int) == 0) && (((r.c : Int) == 0) && (((r.d : Int) == 0) && (true))))) && (true))) = true, (((f : Int) == 9) && ((((r.a : Int) == 0) && (((r.b : Int) == 0) && (((r.c : Int) == 0) && (((r.d : Int) == 0) && (true))))) && (true))) = true, True, (.bool (((f : Int) == 9) && ((((r.a : Int) == 0) && (((r.b : Int) == 0) && (((r.c : Int) == 0) && (((r.d : Int) == 0) && (true))))) && (true))) : Value) = (.bool (((f : Int) == 9) && ((((r.a : Int) == 0) && (((r.b : Int) == 0) && (((r.c : Int) == 0) && (((r.d : Int) == 0) && (true))))) && (true))) : Value)] (by kernel_rfl) (by kernel_rfl) (by kernel_rfl) ⟨if_pos (hc3), if_pos (hc4), hc3, hc4, hc4, hc4, hc3, hc3, hc3, hc3, if_pos (hc2), hc2, hc2, hc2, if_pos (h9), h9, h9, h9, trivial, rfl, trivial⟩ ?_
        clear hE hR; intro a u hE hR
        refine opsNil ?_; refine thenN ?_
        refine condT hE (b := true) (by kernel_rfl) rfl ?_
        refine wp_seq ?_
        refine enterR (idx := [0, 1, 2]) (by kernel_rfl) ?_
        refine segV hE hR [(0, .op []), (1, .op []), (2, .op [])] [] [(6, .slice A n c), (7, .bool true)] [] (by kernel_rfl) (by kernel_rfl) (by kernel_rfl) trivial ?_
        clear hE hR; intro a u hE hR
        refine opsNil ?_; refine thenN ?_; refine wp_ret ?_; refine thenR ?_
        refine retF hE hR [] (.tuple #[.slice A n c, .bool true]) (by kernel_rfl) (by kernel_rfl) (by kernel_rfl) ?_
        exact ⟨retB (b := (decide (d.f = 6) || decide (d.f = 7)) && (decide (14 ≤ ck) && decide (ck ≤ 17))) (by rw [Bool.eq_iff_iff]; first | (simp; done) | (simp; omega)), hR.below (by simp)⟩
      · show Code.wp _ _ _ _ _
        have ehc4 := beq_eq_false_iff_ne.1 hc4
        refine enterR (idx := [0, 1, 2, 3, 4, 5, 6, 7, 8, 9, 10, 11, 12, 13, 14, 15, 16, 17, 18, 19, 20, 21, 22]) (by kernel_rfl) ?_
        refine seg0 hE hR [(0, .op [.r 0 0, .r 0 1, .r 0 2, .r 0 3, .r 0 4]), (1, .op []), (2, .alt (.bool (((f : Int) == 9) && ((((r.a : Int) == 0) && (((r.b : Int) == 0) && (((r.c : Int) == 0) && (((r.d : Int) == 0) && (true))))) && (true))))), (3, .op []), (4, .op []), (5, .op [.r 1 0]), (6, .op []), (7, .as [] (.bool (decide ((ck : Int) ≥ 14)))), (8, .op []), (9, .op []), (10, .op [.r 1 0]), (11, .op []), (12, .as [] (.bool (decide ((ck : Int) ≤ 17)))), (13, .op []), (14, .op []), (15, .op [.k 0 0]), (16, .op []), (17, .op []), (18, .op []), (19, .op [.k 0 0]), (20, .op []), (21, .as [] (.bool ((d.f : Int) == 7))), (22, .as [] (.bool ((d.f : Int) == 7)))] [] [(0, .slice A n c), (4, .pointer (some ⟨H0, 0, none⟩)), (5, .pointer (some ⟨H0 + 1, 0, none⟩)), (6, .slice none 0 0), (7, .bool false), (9, .pointer (some ⟨H1, 0, none⟩)), (8, s2), (18, kv6), (37, .bool false), (61, .bool ((d.f : Int) == 7))] [((if (decide ((ck : Int) ≤ 17)) = true then (.bool ((d.f : Int) == 7) : Value) else (.bool false : Value)) : Value) = (.bool ((d.f : Int) == 7) : Value), ((if ((d.f : Int) == 6) = true then (.bool true : Value) else (.bool ((d.f : Int) == 7) : Value)) : Value) = (.bool ((d.f : Int) == 7) : Value), (decide ((ck : Int) ≤ 17)) = true, ((d.f : Int) == 6) = false, ((d.f : Int) == 6) = false, ((d.f : Int) == 6) = false, (decide ((ck : Int) ≤ 17)) = true, (decide ((ck : Int) ≤ 17)) = true, (decide ((ck : Int) ≤ 17)) = true, (decide ((ck : Int) ≤ 17)) = true, ((if (decide ((ck : Int) ≥ 14)) = true then (.bool (decide ((ck : Int) ≤ 17)) : Value) else (.bool false : Value)) : Value) = (.bool (decide ((ck : Int) ≤ 17)) : Value), (decide ((ck : Int) ≥ 14)) = true, (decide ((ck : Int) ≥ 14)) = true, (decide ((ck : Int) ≥ 14)) = true, ((if (((f : Int) == 9) && ((((r.a : Int) == 0) && (((r.b : Int) == 0) && (((r.c : Int) == 0) && (((r.d : Int) == 0) && (true))))) && (true))) = true then (.bool (decide ((ck : Int) ≥ 14)) : Value) else (.bool false : Value)) : Value) = (.bool (decide ((ck : Int) ≥ 14)) : Value), (((f : Int) == 9) && ((((r.a : Int) == 0) && (((r.b : Int) == 0) && (((r.c : Int) == 0) && (((r.d : Int) == 0) && (true))))) && (true))) = true, (((f : Int) == 9) && ((((r.a : Int) == 0) && (((r.b : Int) == 0) && (((r.c : Int) == 0) && (((r.d : Int) == 0) && (true))))) && (true))) = true, (((f : Int) == 9) && ((((r.a : Int) == 0) && (((r.b : Int) == 0) && (((r.c : Int) == 0) && (((r.d : Int) == 0) && (true))))) && (true))) = true, True, (.bool (((f : Int) == 9) && ((((r.a : Int) == 0) && (((r.b : Int) == 0) && (((r.c : Int) == 0) && (((r.d : Int) == 0) && (true))))) && (true))) : Value) = (.bool (((f : Int) == 9) && ((((r.a : Int) == 0) && (((r.b : Int) == 0) && (((r.c : Int) == 0) && (((r.d : Int) == 0) && (true))))) && (true))) : Value)] (by kernel_rfl) (by kernel_rfl) (by kernel_rfl) ⟨if_pos (hc3), if_neg (by rw [hc4]; decide), hc3, hc4, hc4, hc4, hc3, hc3, hc3, hc3, if_pos (hc2), hc2, hc2, hc2, if_pos (h9), h9, h9, h9, trivial, rfl, trivial⟩ ?_
        clear hE hR; intro a u hE hR
        refine opsNil ?_; refine thenN ?_
        rcases Bool.eq_false_or_eq_true ((d.f : Int) == 7) with hc5 | hc5
        · refine condT hE (b := (d.f : Int) == 7) (by kernel_rfl) hc5 ?_
          have ehc5 := beq_iff_eq.1 hc5
          refine wp_seq ?_
          refine enterR (idx := [0, 1, 2]) (by kernel_rfl) ?_
          refine segV hE hR [(0, .op []), (1, .op []), (2, .op [])] [] [(6, .slice A n c), (7, .bool true)] [] (by kernel_rfl) (by kernel_rfl) (by kernel_rfl) trivial ?_
          clear hE hR; intro a u hE hR
          refine opsNil ?_; refine thenN ?_; refine wp_ret ?_; refine thenR ?_
          refine retF hE hR [] (.tuple #[.slice A n c, .bool true]) (by kernel_rfl) (by kernel_rfl) (by kernel_rfl) ?_
          exact ⟨retB (b := (decide (d.f = 6) || decide (d.f = 7)) && (decide (14 ≤ ck) && decide (ck ≤ 17))) (by rw [Bool.eq_iff_iff]; first | (simp; done) | (simp; omega)), hR.below (by simp)⟩
        · refine condF hE (b := (d.f : Int) == 7) (by kernel_rfl) hc5 ?_
          have ehc5 := beq_eq_false_iff_ne.1 hc5
          refine wp_skip ?_; refine thenN ?_; refine wp_seq ?_
          refine enterR (idx := [0, 1, 2]) (by kernel_rfl) ?_
          refine segV hE hR [(0, .op []), (1, .op []), (2, .op [])] [] [(6, .slice A n c)] [] (by kernel_rfl) (by kernel_rfl) (by kernel_rfl) trivial ?_
          clear hE hR; intro a u hE hR
          refine opsNil ?_; refine thenN ?_; refine wp_ret ?_
          refine retF hE hR [] (.tuple #[.slice A n c, .bool false]) (by kernel_rfl) (by kernel_rfl) (by kernel_rfl) ?_
          exact ⟨retB (b := (decide (d.f = 6) || decide (d.f = 7)) && (decide (14 ≤ ck) && decide (ck ≤ 17))) (by rw [Bool.eq_iff_iff]; first | (simp; done) | (simp; omega)), hR.below (by simp)⟩
    · show Code.wp _ _ _ _ _
      have ehc3 := of_decide_eq_false hc3
      refine enterR (idx := [0, 1, 2, 3, 4, 5, 6, 7, 8, 9, 10, 11, 12, 13, 14, 15, 16, 17, 18, 19, 20, 21, 22]) (by kernel_rfl) ?_
      refine segV hE hR [(0, .op [.r 0 0, .r 0 1, .r 0 2, .r 0 3, .r 0 4]), (1, .op []), (2, .alt (.bool (((f : Int) == 9) && ((((r.a : Int) == 0) && (((r.b : Int) == 0) && (((r.c : Int) == 0) && (((r.d : Int) == 0) && (true))))) && (true))))), (3, .op []), (4, .op []), (5, .op [.r 1 0]), (6, .op []), (7, .as [] (.bool (decide ((ck : Int) ≥ 14)))), (8, .op []), (9, .op []), (10, .op [.r 1 0]), (11, .op []), (12, .as [] (.bool (decide ((ck : Int) ≤ 17)))), (13, .op []), (14, .skip), (15, .skip), (16, .skip), (17, .skip), (18, .skip), (19, .skip), (20, .skip), (21, .skip), (22, .as [] (.bool false))] [] [(61, .bool false)] [((if (decide ((ck : Int) ≤ 17)) = true then (.tuple #[] : Value) else (.bool false : Value)) : Value) = (.bool false : Value), (decide ((ck : Int) ≤ 17)) = !true, (decide ((ck : Int) ≤ 17)) = !true, (decide ((ck : Int) ≤ 17)) = !true, (decide ((ck : Int) ≤ 17)) = !true, (decide ((ck : Int) ≤ 17)) = !true, ((if (decide ((ck : Int) ≥ 14)) = true then (.bool (decide ((ck : Int) ≤ 17)) : Value) else (.bool false : Value)) : Value) = (.bool (decide ((ck : Int) ≤ 17)) : Value), (decide ((ck : Int) ≥ 14)) = true, (decide ((ck : Int) ≥ 14)) = true, (decide ((ck : Int) ≥ 14)) = true, ((if (((f : Int) == 9) && ((((r.a : Int) == 0) && (((r.b : Int) == 0) && (((r.c : Int) == 0) && (((r.d : Int) == 0) && (true))))) && (true))) = true then (.bool (decide ((ck : Int) ≥ 14)) : Value) else (.bool false : Value)) : Value) = (.bool (decide ((ck : Int) ≥ 14)) : Value), (((f : Int) == 9) && ((((r.a : Int) == 0) && (((r.b : Int) == 0) && (((r.c : Int) == 0) && (((r.d : Int) == 0) && (true))))) && (true))) = true, (((f : Int) == 9) && ((((r.a : Int) == 0) && (((r.b : Int) == 0) && (((r.c : Int) == 0) && (((r.d : Int) == 0) && (true))))) && (true))) = true, (((f : Int) == 9) && ((((r.a : Int) == 0) && (((r.b : Int) == 0) && (((r.c : Int) == 0) && (((r.d : Int) == 0) && (true))))) && (true))) = true, True, (.bool (((f : Int) == 9) && ((((r.a : Int) == 0) && (((r.b : Int) == 0) && (((r.c : Int) == 0) && (((r.d : Int) == 0) && (true))))) && (true))) : Value) = (.bool (((f : Int) == 9) && ((((r.a : Int) == 0) && (((r.b : Int) == 0) && (((r.c : Int) == 0) && (((r.d : Int) == 0) && (true))))) && (true))) : Value)] (by kernel_rfl) (by kernel_rfl) (by kernel_rfl) ⟨if_neg (by rw [hc3]; decide), hc3, hc3, hc3, hc3, hc3, if_pos (hc2), hc2, hc2, hc2, if_pos (h9), h9, h9, h9, trivial, rfl, trivial⟩ ?_
      clear hE hR; intro a u hE hR
      refine opsNil ?_; refine thenN ?_
      refine condF hE (b := false) (by kernel_rfl) rfl ?_
      refine wp_skip ?_; refine thenN ?_; refine wp_seq ?_
      refine enterR (idx := [0, 1, 2]) (by kernel_rfl) ?_
      refine segV hE hR [(0, .op []), (1, .op []), (2, .op [])] [] [(6, .slice A n c)] [] (by kernel_rfl) (by kernel_rfl) (by kernel_rfl) trivial ?_
      clear hE hR; intro a u hE hR
      refine opsNil ?_; refine thenN ?_; refine wp_ret ?_
      refine retF hE hR [] (.tuple #[.slice A n c, .bool false]) (by kernel_rfl) (by kernel_rfl) (by kernel_rfl) ?_
      exact ⟨retB (b := (decide (d.f = 6) || decide (d.f = 7)) && (decide (14 ≤ ck) && decide (ck ≤ 17))) (by rw [Bool.eq_iff_iff]; first | (simp; done) | (simp; omega)), hR.below (by simp)⟩
  · show Code.wp _ _ _ _ _
    have ehc2 := of_decide_eq_false hc2
    refine enterR (idx := [0, 1, 2, 3, 4, 5, 6, 7, 8, 9, 10, 11, 12, 13, 14, 15, 16, 17, 18, 19, 20, 21, 22]) (by kernel_rfl) ?_
    refine segV hE hR [(0, .op [.r 0 0, .r 0 1, .r 0 2, .r 0 3, .r 0 4]), (1, .op []), (2, .alt (.bool (((f : Int) == 9) && ((((r.a : Int) == 0) && (((r.b : Int) == 0) && (((r.c : Int) == 0) && (((r.d : Int) == 0) && (true))))) && (true))))), (3, .op []), (4, .op []), (5, .op [.r 1 0]), (6, .op []), (7, .as [] (.bool (decide ((ck : Int) ≥ 14)))), (8, .op []), (9, .skip), (10, .skip), (11, .skip), (12, .as [] (.bool false)), (13, .op []), (14, .skip), (15, .skip), (16, .skip), (17, .skip), (18, .skip), (19, .skip), (20, .skip), (21, .skip), (22, .op [])] [] [(61, .bool false)] [false = !true, false = !true, false = !true, false = !true, false = !true, ((if (decide ((ck : Int) ≥ 14)) = true then (.tuple #[] : Value) else (.bool false : Value)) : Value) = (.bool false : Value), (decide ((ck : Int) ≥ 14)) = !true, (decide ((ck : Int) ≥ 14)) = !true, (decide ((ck : Int) ≥ 14)) = !true, ((if (((f : Int) == 9) && ((((r.a : Int) == 0) && (((r.b : Int) == 0) && (((r.c : Int) == 0) && (((r.d : Int) == 0) && (true))))) && (true))) = true then (.bool (decide ((ck : Int) ≥ 14)) : Value) else (.bool false : Value)) : Value) = (.bool (decide ((ck : Int) ≥ 14)) : Value), (((f : Int) == 9) && ((((r.a : Int) == 0) && (((r.b : Int) == 0) && (((r.c : Int) == 0) && (((r.d : Int) == 0) && (true))))) && (true))) = true, (((f : Int) == 9) && ((((r.a : Int) == 0) && (((r.b : Int) == 0) && (((r.c : Int) == 0) && (((r.d : Int) == 0) && (true))))) && (true))) = true, (((f : Int) == 9) && ((((r.a : Int) == 0) && (((r.b : Int) == 0) && (((r.c : Int) == 0) && (((r.d : Int) == 0) && (true))))) && (true))) = true, True, (.bool (((f : Int) == 9) && ((((r.a : Int) == 0) && (((r.b : Int) == 0) && (((r.c : Int) == 0) && (((r.d : Int) == 0) && (true))))) && (true))) : Value) = (.bool (((f : Int) == 9) && ((((r.a : Int) == 0) && (((r.b : Int) == 0) && (((r.c : Int) == 0) && (((r.d : Int) == 0) && (true))))) && (true))) : Value)] (by kernel_rfl) (by kernel_rfl) (by kernel_rfl) ⟨rfl, rfl, rfl, rfl, rfl, if_neg (by rw [hc2]; decide), hc2, hc2, hc2, if_pos (h9), h9, h9, h9, trivial, rfl, trivial⟩ ?_
    clear hE hR; intro a u hE hR
    refine opsNil ?_; refine thenN ?_
    refine condF hE (b := false) (by kernel_rfl) rfl ?_
    refine wp_skip ?_; refine thenN ?_; refine wp_seq ?_
    refine enterR (idx := [0, 1, 2]) (by kernel_rfl) ?_
    refine segV hE hR [(0, .op []), (1, .op []), (2, .op [])] [] [(6, .slice A n c)] [] (by kernel_rfl) (by kernel_rfl) (by kernel_rfl) trivial ?_
    clear hE hR; intro a u hE hR
    refine opsNil ?_; refine thenN ?_; refine wp_ret ?_
    refine retF hE hR [] (.tuple #[.slice A n c, .bool false]) (by kernel_rfl) (by kernel_rfl) (by kernel_rfl) ?_
    exact ⟨retB (b := (decide (d.f = 6) || decide (d.f = 7)) && (decide (14 ≤ ck) && decide (ck ≤ 17))) (by rw [Bool.eq_iff_iff]; first | (simp; done) | (simp; omega)), hR.below (by simp)⟩
set_option maxRecDepth 100000 in
theorem allowsR_no (A : Option Addr) (n c : Nat) (L : List IV) (d : DoX) (ck co : Int) (cv : Vl) (cn f : Int) (r : Vl) (w : World) (hs : ItemsR w (.slice A n c) L) (HDO : ∀ W, ItemsR W (.slice A n c) L → Calls Try.prog 26 #[.slice A n c, callA ck co cv cn] W (DoR d W)) (h1 : (((d.f : Int) == f) && ((((d.r.a : Int) == r.a) && (((d.r.b : Int) == r.b) && (((d.r.c : Int) == r.c) && (((d.r.d : Int) == r.d) && (true))))) && (true))) = false) (h8 : (((f : Int) == 8) && ((((r.a : Int) == 0) && (((r.b : Int) == 0) && (((r.c : Int) == 0) && (((r.d : Int) == 0) && (true))))) && (true))) = false) (h9 : (((f : Int) == 9) && ((((r.a : Int) == 0) && (((r.b : Int) == 0) && (((r.c : Int) == 0) && (((r.d : Int) == 0) && (true))))) && (true))) = false) :
    Calls Try.prog 28 #[.slice A n c, .agg #[.int .i64 ck, .int .i64 co, .int .u32 cv.a, .int .u32 cv.b, .int .u32 cv.c, .int .u32 cv.d, .int .u32 cn], .agg #[.int .i64 f, .int .u32 r.a, .int .u32 r.b, .int .u32 r.c, .int .u32 r.d]] w fun e W' => e = .returned (.tuple #[.slice A n c, .bool (false)]) ∧ Below w.heap.size w W' := by
  let kv1 : Value := .agg #[.int .i64 ck, .int .i64 co, .int .u32 cv.a, .int .u32 cv.b, .int .u32 cv.c, .int .u32 cv.d, .int .u32 cn]
  let kv2 : Value := .agg #[.int .i64 f, .int .u32 r.a, .int .u32 r.b, .int .u32 r.c, .int .u32 r.d]
  refine enterF Try.func28 rfl Try.ntmps28 [(0, .slice A n c), (1, kv1), (2, kv2)] (by kernel_rfl) (by kernel_rfl) ?_
  have hR := Rep.start w
  obtain ⟨H0, hH0⟩ : ∃ x, x = w.heap.size := ⟨_, rfl⟩
  rw [← hH0] at hR
  intro a hE
  refine wp_seq ?_
  refine enterR (idx := [0, 1, 2, 3]) (by kernel_rfl) ?_
  let kc3 : List Value := [.int .i64 f, .int .u32 r.a, .int .u32 r.b, .int .u32 r.c, .int .u32 r.d]
  let kc4 : List Value := [.int .i64 ck, .int .i64 co, .int .u32 cv.a, .int .u32 cv.b, .int .u32 cv.c, .int .u32 cv.d, .int .u32 cn]
  refine segU hE hR [(0, .op []), (1, .op []), (2, .op []), (3, .op [])] [] [(4, .pointer (some ⟨H0, 0, none⟩)), (5, .pointer (some ⟨H0 + 1, 0, none⟩)), (6, .slice none 0 0), (7, .bool false)] [⟨H0 + 1, 0, kc3, 63, true⟩, ⟨H0, 0, kc4, 60, true⟩] (H0 + 2) [] (by kernel_rfl) (by kernel_rfl) (by kernel_rfl) trivial ?_
  clear hE hR; intro a u hE hR
  refine opsNil ?_; refine thenN ?_; refine wp_seq ?_
  refine enterR (idx := [0, 1, 2, 3, 4, 5, 6, 7, 8]) (by kernel_rfl) ?_
  refine segV hE hR [(0, .op []), (1, .op (hks 1 0 7))] [2, 3, 4, 5, 6, 7, 8] [(11, .slice A n c), (12, kv1)] [] (by kernel_rfl) (by kernel_rfl) (by kernel_rfl) trivial ?_
  clear hE hR; intro a u hE hR
  refine opsCons ?_
  refine call hE hR [] 26 #[.slice A n c, kv1] (some 13) [] (by kernel_rfl) (by kernel_rfl) trivial (HDO _ (hs.below (hR.below (by simp)))) (by rintro _ _ ⟨_, _, h, _⟩; cases h) (by rintro _ ⟨_, _, h, _⟩; cases h) ?_
  clear hE
  rintro v uD ⟨s2, L2, hv, hit2, hl2, hb⟩ a hE
  cases hv
  obtain ⟨H1, hH1, hR⟩ := hR.callE hb
  replace hR : Rep ((uD, fun _ => True) :: [(w, fun _ => True)]) uD H1 [] [⟨H0 + 1, 0, kc3⟩, ⟨H0, 0, kc4⟩] := hR.freeze
  let kc5 : List Value := [.int .i64 d.f, .int .u32 d.r.a, .int .u32 d.r.b, .int .u32 d.r.c, .int .u32 d.r.d]
  refine segU hE hR [(3, .op []), (4, .op []), (5, .op []), (6, .op []), (7, .op []), (8, .op (hks 0 0 5))] [] [(9, .pointer (some ⟨H1, 0, none⟩)), (8, s2)] [⟨H1, 0, kc5, 63, true⟩] (H1 + 1) [] (by kernel_rfl) (by kernel_rfl) (by kernel_rfl) trivial ?_
  clear hE hR; intro a u hE hR
  refine opsNil ?_; refine thenN ?_; refine wp_seq ?_; refine wp_seq ?_
  refine enterR (idx := [0, 1, 2]) (by kernel_rfl) ?_
  let kv6 : Value := .bool (((d.f : Int) == f) && ((((d.r.a : Int) == r.a) && (((d.r.b : Int) == r.b) && (((d.r.c : Int) == r.c) && (((d.r.d : Int) == r.d) && (true))))) && (true)))
  refine segV hE hR [(0, .op (hks 0 0 5)), (1, .op [.r 0 0, .r 0 1, .r 0 2, .r 0 3, .r 0 4]), (2, .alt (.bool (((d.f : Int) == f) && ((((d.r.a : Int) == r.a) && (((d.r.b : Int) == r.b) && (((d.r.c : Int) == r.c) && (((d.r.d : Int) == r.d) && (true))))) && (true)))))] [] [(18, kv6)] [True, (.bool (((d.f : Int) == f) && ((((d.r.a : Int) == r.a) && (((d.r.b : Int) == r.b) && (((d.r.c : Int) == r.c) && (((d.r.d : Int) == r.d) && (true))))) && (true))) : Value) = (.bool (((d.f : Int) == f) && ((((d.r.a : Int) == r.a) && (((d.r.b : Int) == r.b) && (((d.r.c : Int) == r.c) && (((d.r.d : Int) == r.d) && (true))))) && (true))) : Value)] (by kernel_rfl) (by kernel_rfl) (by kernel_rfl) ⟨trivial, rfl, trivial⟩ ?_
  clear hE hR; intro a u hE hR
  refine opsNil ?_; refine thenN ?_
  refine condF hE (b := ((d.f : Int) == f) && ((((d.r.a : Int) == r.a) && (((d.r.b : Int) == r.b) && (((d.r.c : Int) == r.c) && (((d.r.d : Int) == r.d) && (true))))) && (true))) (by kernel_rfl) (h1) ?_
  refine wp_skip ?_; refine thenN ?_; refine wp_seq ?_; refine wp_seq ?_
  refine enterR (idx := [0, 1, 2, 3, 4, 5, 6, 7, 8, 9, 10, 11, 12, 13, 14, 15, 16, 17]) (by kernel_rfl) ?_
  refine segV hE hR [(0, .op [.r 0 0, .r 0 1, .r 0 2, .r 0 3, .r 0 4]), (1, .op []), (2, .alt (.bool (((f : Int) == 8) && ((((r.a : Int) == 0) && (((r.b : Int) == 0) && (((r.c : Int) == 0) && (((r.d : Int) == 0) && (true))))) && (true))))), (3, .op []), (4, .skip), (5, .skip), (6, .skip), (7, .skip), (8, .skip), (9, .skip), (10, .skip), (11, .skip), (12, .as [] (.bool false)), (13, .op []), (14, .skip), (15, .skip), (16, .skip), (17, .op [])] [] [(37, .bool false)] [false = !true, false = !true, false = !true, ((if (((f : Int) == 8) && ((((r.a : Int) == 0) && (((r.b : Int) == 0) && (((r.c : Int) == 0) && (((r.d : Int) == 0) && (true))))) && (true))) = true then (.tuple #[] : Value) else (.bool false : Value)) : Value) = (.bool false : Value), (((f : Int) == 8) && ((((r.a : Int) == 0) && (((r.b : Int) == 0) && (((r.c : Int) == 0) && (((r.d : Int) == 0) && (true))))) && (true))) = !true, (((f : Int) == 8) && ((((r.a : Int) == 0) && (((r.b : Int) == 0) && (((r.c : Int) == 0) && (((r.d : Int) == 0) && (true))))) && (true))) = !true, (((f : Int) == 8) && ((((r.a : Int) == 0) && (((r.b : Int) == 0) && (((r.c : Int) == 0) && (((r.d : Int) == 0) && (true))))) && (true))) = !true, (((f : Int) == 8) && ((((r.a : Int) == 0) && (((r.b : Int) == 0) && (((r.c : Int) == 0) && (((r.d : Int) == 0) && (true))))) && (true))) = !true, (((f : Int) == 8) && ((((r.a : Int) == 0) && (((r.b : Int) == 0) && (((r.c : Int) == 0) && (((r.d : Int) == 0) && (true))))) && (true))) = !true, True, (.bool (((f : Int) == 8) && ((((r.a : Int) == 0) && (((r.b : Int) == 0) && (((r.c : Int) == 0) && (((r.d : Int) == 0) && (true))))) && (true))) : Value) = (.bool (((f : Int) == 8) && ((((r.a : Int) == 0) && (((r.b : Int) == 0) && (((r.c : Int) == 0) && (((r.d : Int) == 0) && (true))))) && (true))) : Value)] (by kernel_rfl) (by kernel_rfl) (by kernel_rfl) ⟨rfl, rfl, rfl, if_neg (by rw [h8]; decide), h8, h8, h8, h8, h8, trivial, rfl, trivial⟩ ?_
  clear hE hR; intro a u hE hR
  refine opsNil ?_; refine thenN ?_
  refine condF hE (b := false) (by kernel_rfl) rfl ?_
  refine wp_skip ?_; refine thenN ?_; refine wp_seq ?_; refine wp_seq ?_
  refine enterR (idx := [0, 1, 2, 3, 4, 5, 6, 7, 8, 9, 10, 11, 12, 13, 14, 15, 16, 17, 18, 19, 20, 21, 22]) (by kernel_rfl) ?_
  refine segV hE hR [(0, .op [.r 0 0, .r 0 1, .r 0 2, .r 0 3, .r 0 4]), (1, .op []), (2, .alt (.bool (((f : Int) == 9) && ((((r.a : Int) == 0) && (((r.b : Int) == 0) && (((r.c : Int) == 0) && (((r.d : Int) == 0) && (true))))) && (true))))), (3, .op []), (4, .skip), (5, .skip), (6, .skip), (7, .as [] (.bool false)), (8, .op []), (9, .skip), (10, .skip), (11, .skip), (12, .op []), (13, .op []), (14, .skip), (15, .skip), (16, .skip), (17, .skip), (18, .skip), (19, .skip), (20, .skip), (21, .skip), (22, .op [])] [] [(61, .bool false)] [false = !true, false = !true, false = !true, false = !true, false = !true, false = !true, false = !true, false = !true, ((if (((f : Int) == 9) && ((((r.a : Int) == 0) && (((r.b : Int) == 0) && (((r.c : Int) == 0) && (((r.d : Int) == 0) && (true))))) && (true))) = true then (.tuple #[] : Value) else (.bool false : Value)) : Value) = (.bool false : Value), (((f : Int) == 9) && ((((r.a : Int) == 0) && (((r.b : Int) == 0) && (((r.c : Int) == 0) && (((r.d : Int) == 0) && (true))))) && (true))) = !true, (((f : Int) == 9) && ((((r.a : Int) == 0) && (((r.b : Int) == 0) && (((r.c : Int) == 0) && (((r.d : Int) == 0) && (true))))) && (true))) = !true, (((f : Int) == 9) && ((((r.a : Int) == 0) && (((r.b : Int) == 0) && (((r.c : Int) == 0) && (((r.d : Int) == 0) && (true))))) && (true))) = !true, True, (.bool (((f : Int) == 9) && ((((r.a : Int) == 0) && (((r.b : Int) == 0) && (((r.c : Int) == 0) && (((r.d : Int) == 0) && (true))))) && (true))) : Value) = (.bool (((f : Int) == 9) && ((((r.a : Int) == 0) && (((r.b : Int) == 0) && (((r.c : Int) == 0) && (((r.d : Int) == 0) && (true))))) && (true))) : Value)] (by kernel_rfl) (by kernel_rfl) (by kernel_rfl) ⟨rfl, rfl, rfl, rfl, rfl, rfl, rfl, rfl, if_neg (by rw [h9]; decide), h9, h9, h9, trivial, rfl, trivial⟩ ?_
  clear hE hR; intro a u hE hR
  refine opsNil ?_; refine thenN ?_
  refine condF hE (b := false) (by kernel_rfl) rfl ?_
  refine wp_skip ?_; refine thenN ?_; refine wp_seq ?_
  refine enterR (idx := [0, 1, 2]) (by kernel_rfl) ?_
  refine segV hE hR [(0, .op []), (1, .op []), (2, .op [])] [] [(6, .slice A n c)] [] (by kernel_rfl) (by kernel_rfl) (by kernel_rfl) trivial ?_
  clear hE hR; intro a u hE hR
  refine opsNil ?_; refine thenN ?_; refine wp_ret ?_
  refine retF hE hR [] (.tuple #[.slice A n c, .bool false]) (by kernel_rfl) (by kernel_rfl) (by kernel_rfl) ?_
  exact ⟨rfl, hR.below (by simp)⟩
end Go.Proofs.Ytkfaaeklkplhnaa
