/- The law SpecAllows, leaf by leaf. Printed by gen_law.py. -/
import Derived.Test.YtkfaaeklkplhnaaSLawQ
namespace Go.Proofs.Ytkfaaeklkplhnaa
open Go.RowKit

set_option maxRecDepth 100000 in
set_option maxHeartbeats 2000000 in
theorem law_big (w : World) (Al : Option Addr) (cl : Nat) (l : List Ob) (Ac : Option Addr) (cc : Nat) (lc : List Cal) (ck co : Int) (cv : Vl) (cn f : Int) (r : Vl) (hbig : 8 < l.length ∨ 60 < lc.length) :
    Calls Try.prog 4 #[.slice Al l.length cl, .slice Ac lc.length cc, .agg #[.int .i64 ck, .int .i64 co, .int .u32 cv.a, .int .u32 cv.b, .int .u32 cv.c, .int .u32 cv.d, .int .u32 cn], .agg #[.int .i64 f, .int .u32 r.a, .int .u32 r.b, .int .u32 r.c, .int .u32 r.d]] w fun e W' => e = .returned (.bool true) ∧ Below w.heap.size w W' := by
  let kv1 : Value := .agg #[.int .i64 ck, .int .i64 co, .int .u32 cv.a, .int .u32 cv.b, .int .u32 cv.c, .int .u32 cv.d, .int .u32 cn]
  let kv2 : Value := .agg #[.int .i64 f, .int .u32 r.a, .int .u32 r.b, .int .u32 r.c, .int .u32 r.d]
  refine enterF Try.func4 rfl Try.ntmps4 [(0, .slice Al l.length cl), (1, .slice Ac lc.length cc), (2, kv1), (3, kv2)] (by kernel_rfl) (by kernel_rfl) ?_
  have hR := Rep.start w
  obtain ⟨H0, hH0⟩ : ∃ x, x = w.heap.size := ⟨_, rfl⟩
  rw [← hH0] at hR
  intro a hE
  refine wp_seq ?_
  refine enterR (idx := [0, 1, 2]) (by kernel_rfl) ?_
  let kc3 : List Value := [.int .i64 f, .int .u32 r.a, .int .u32 r.b, .int .u32 r.c, .int .u32 r.d]
  let kc4 : List Value := [.int .i64 ck, .int .i64 co, .int .u32 cv.a, .int .u32 cv.b, .int .u32 cv.c, .int .u32 cv.d, .int .u32 cn]
  refine segU hE hR [(0, .op []), (1, .op []), (2, .op [])] [] [(6, .pointer (some ⟨H0, 0, none⟩)), (7, .pointer (some ⟨H0 + 1, 0, none⟩)), (8, .bool false)] [⟨H0 + 1, 0, kc3, 63, true⟩, ⟨H0, 0, kc4, 60, true⟩] (H0 + 2) [] (by kernel_rfl) (by kernel_rfl) (by kernel_rfl) trivial ?_
  clear hE hR; intro a u hE hR
  refine opsNil ?_; refine thenN ?_; refine wp_seq ?_; refine wp_seq ?_
  rcases Bool.eq_false_or_eq_true (decide (((l.length : Nat) : Int) > 8)) with hc1 | hc1
  · show Code.wp _ _ _ _ _
    have ehc1 := of_decide_eq_true hc1
    refine enterR (idx := [0, 1, 2, 3, 4, 5, 6, 7]) (by kernel_rfl) ?_
    refine segV hE hR [(0, .op []), (1, .op []), (2, .op []), (3, .op []), (4, .skip), (5, .skip), (6, .skip), (7, .as [] (.bool true))] [] [(27, .bool true)] [((if (decide (((l.length : Nat) : Int) > 8)) = true then (.bool true : Value) else (.tuple #[] : Value)) : Value) = (.bool true : Value), (decide (((l.length : Nat) : Int) > 8)) = !false, (decide (((l.length : Nat) : Int) > 8)) = !false, (decide (((l.length : Nat) : Int) > 8)) = !false] (by kernel_rfl) (by kernel_rfl) (by kernel_rfl) ⟨if_pos (hc1), hc1, hc1, hc1, trivial⟩ ?_
    clear hE hR; intro a u hE hR
    refine opsNil ?_; refine thenN ?_
    refine condT hE (b := true) (by kernel_rfl) rfl ?_
    refine wp_seq ?_
    refine enterR (idx := [0, 1]) (by kernel_rfl) ?_
    refine opsCons ?_
    refine call hE hR [] 22 #[] (some 28) [] (by kernel_rfl) (by kernel_rfl) trivial (alive_calls _) (fun _ _ h => by cases h.1) (fun _ h => by cases h.1) ?_
    clear hE
    rintro v u ⟨hv, hb⟩ a hE
    cases hv
    obtain ⟨H2, hH2, hR⟩ := hR.callE hb
    refine segV hE hR [(1, .op [])] [] [(8, .bool true)] [] (by kernel_rfl) (by kernel_rfl) (by kernel_rfl) trivial ?_
    clear hE hR; intro a u hE hR
    refine opsNil ?_; refine thenN ?_; refine wp_ret ?_; refine thenR ?_
    refine retF hE hR [] (.bool true) (by kernel_rfl) (by kernel_rfl) (by kernel_rfl) ?_
    exact ⟨rfl, hR.below (by simp)⟩
  · show Code.wp _ _ _ _ _
    have ehc1 := of_decide_eq_false hc1
    refine enterR (idx := [0, 1, 2, 3, 4, 5, 6, 7]) (by kernel_rfl) ?_
    refine segV hE hR [(0, .op []), (1, .op []), (2, .op []), (3, .op []), (4, .op []), (5, .op []), (6, .as [] (.bool true)), (7, .as [] (.bool true))] [] [(27, .bool true)] [((if (decide (((l.length : Nat) : Int) > 8)) = true then (.bool true : Value) else (.bool true : Value)) : Value) = (.bool true : Value), (.bool (decide (((lc.length : Nat) : Int) > 60)) : Value) = (.bool true : Value), (decide (((l.length : Nat) : Int) > 8)) = false, (decide (((l.length : Nat) : Int) > 8)) = false, (decide (((l.length : Nat) : Int) > 8)) = false] (by kernel_rfl) (by kernel_rfl) (by kernel_rfl) ⟨if_neg (by rw [hc1]; decide), congrArg Value.bool (decide_eq_true (by omega)), hc1, hc1, hc1, trivial⟩ ?_
    clear hE hR; intro a u hE hR
    refine opsNil ?_; refine thenN ?_
    refine condT hE (b := true) (by kernel_rfl) rfl ?_
    refine wp_seq ?_
    refine enterR (idx := [0, 1]) (by kernel_rfl) ?_
    refine opsCons ?_
    refine call hE hR [] 22 #[] (some 28) [] (by kernel_rfl) (by kernel_rfl) trivial (alive_calls _) (fun _ _ h => by cases h.1) (fun _ h => by cases h.1) ?_
    clear hE
    rintro v u ⟨hv, hb⟩ a hE
    cases hv
    obtain ⟨H3, hH3, hR⟩ := hR.callE hb
    refine segV hE hR [(1, .op [])] [] [(8, .bool true)] [] (by kernel_rfl) (by kernel_rfl) (by kernel_rfl) trivial ?_
    clear hE hR; intro a u hE hR
    refine opsNil ?_; refine thenN ?_; refine wp_ret ?_; refine thenR ?_
    refine retF hE hR [] (.bool true) (by kernel_rfl) (by kernel_rfl) (by kernel_rfl) ?_
    exact ⟨rfl, hR.below (by simp)⟩
set_option maxRecDepth 100000 in
set_option maxHeartbeats 2000000 in
theorem law_some (w : World) (Al : Option Addr) (cl : Nat) (l : List Ob) (gc oc cc : Nat) (lc : List Cal) (ck co : Int) (cv : Vl) (cn f : Int) (r : Vl) (hl8 : l.length ≤ 8) (hl60 : lc.length ≤ 60) (hob : ObsW w (.slice Al l.length cl) l) (hi0 : ∀ o ∈ l, 0 ≤ o.i0 ∧ o.i0 < 4294967296) (hcc : cv.ok ∧ (-9223372036854775808 ≤ ck ∧ ck ≤ 9223372036854775807)) (hrc : w.rangeAt gc oc (lc.flatMap calF)) (hcs : ∀ c ∈ lc, c.ok) :
    Calls Try.prog 4 #[.slice Al l.length cl, .slice (some ⟨gc, oc, none⟩) lc.length cc, .agg #[.int .i64 ck, .int .i64 co, .int .u32 cv.a, .int .u32 cv.b, .int .u32 cv.c, .int .u32 cv.d, .int .u32 cn], .agg #[.int .i64 f, .int .u32 r.a, .int .u32 r.b, .int .u32 r.c, .int .u32 r.d]] w fun e W' => e = .returned (.bool true) ∧ Below w.heap.size w W' := by
  let kv1 : Value := .agg #[.int .i64 ck, .int .i64 co, .int .u32 cv.a, .int .u32 cv.b, .int .u32 cv.c, .int .u32 cv.d, .int .u32 cn]
  let kv2 : Value := .agg #[.int .i64 f, .int .u32 r.a, .int .u32 r.b, .int .u32 r.c, .int .u32 r.d]
  refine enterF Try.func4 rfl Try.ntmps4 [(0, .slice Al l.length cl), (1, .slice (some ⟨gc, oc, none⟩) lc.length cc), (2, kv1), (3, kv2)] (by kernel_rfl) (by kernel_rfl) ?_
  have hR := Rep.start w
  obtain ⟨H0, hH0⟩ : ∃ x, x = w.heap.size := ⟨_, rfl⟩
  rw [← hH0] at hR
  intro a hE
  refine wp_seq ?_
  refine enterR (idx := [0, 1, 2]) (by kernel_rfl) ?_
  let kc3 : List Value := [.int .i64 f, .int .u32 r.a, .int .u32 r.b, .int .u32 r.c, .int .u32 r.d]
  let kc4 : List Value := [.int .i64 ck, .int .i64 co, .int .u32 cv.a, .int .u32 cv.b, .int .u32 cv.c, .int .u32 cv.d, .int .u32 cn]
  refine segU hE hR [(0, .op []), (1, .op []), (2, .op [])] [] [(6, .pointer (some ⟨H0, 0, none⟩)), (7, .pointer (some ⟨H0 + 1, 0, none⟩)), (8, .bool false)] [⟨H0 + 1, 0, kc3, 63, true⟩, ⟨H0, 0, kc4, 60, true⟩] (H0 + 2) [] (by kernel_rfl) (by kernel_rfl) (by kernel_rfl) trivial ?_
  clear hE hR; intro a u hE hR
  refine opsNil ?_; refine thenN ?_; refine wp_seq ?_; refine wp_seq ?_
  refine enterR (idx := [0, 1, 2, 3, 4, 5, 6, 7]) (by kernel_rfl) ?_
  refine segV hE hR [(0, .op []), (1, .op []), (2, .as [] (.bool false)), (3, .op []), (4, .op []), (5, .op []), (6, .as [] (.bool false)), (7, .op [])] [] [(27, .bool false)] [(.bool (decide (((lc.length : Nat) : Int) > 60)) : Value) = (.bool false : Value), false = false, false = false, false = false, (.bool (decide (((l.length : Nat) : Int) > 8)) : Value) = (.bool false : Value)] (by kernel_rfl) (by kernel_rfl) (by kernel_rfl) ⟨congrArg Value.bool (decide_eq_false (by omega)), rfl, rfl, rfl, congrArg Value.bool (decide_eq_false (by omega)), trivial⟩ ?_
  clear hE hR; intro a u hE hR
  refine opsNil ?_; refine thenN ?_
  refine condF hE (b := false) (by kernel_rfl) rfl ?_
  refine wp_skip ?_; refine thenN ?_; refine wp_seq ?_
  refine enterR (idx := [0, 1, 2, 3, 4, 5]) (by kernel_rfl) ?_
  refine segV hE hR [(0, .op [])] [1, 2, 3, 4, 5] [(29, .slice Al l.length cl)] [] (by kernel_rfl) (by kernel_rfl) (by kernel_rfl) trivial ?_
  clear hE hR; intro a u hE hR
  refine opsCons ?_
  refine call hE hR [] 23 #[.slice Al l.length cl] (some 30) [] (by kernel_rfl) (by kernel_rfl) trivial (startB_calls _ l _ (hob.below (hR.below (by simp))) hl8) (by rintro _ _ ⟨_, _, h, _⟩; cases h) (by rintro _ ⟨_, _, h, _⟩; cases h) ?_
  clear hE
  rintro s u1 ⟨s1x, L, hv, hi1, hl1, hb⟩ a hE
  cases hv
  obtain ⟨H1, hH1, hR⟩ := hR.callE hb
  replace hR : Rep ((u1, fun _ => True) :: [(w, fun _ => True)]) u1 H1 [] [⟨H0 + 1, 0, kc3⟩, ⟨H0, 0, kc4⟩] := hR.freeze
  refine segV hE hR [(2, .op [])] [3, 4, 5] [(31, .slice Al l.length cl)] [] (by kernel_rfl) (by kernel_rfl) (by kernel_rfl) trivial ?_
  clear hE hR; intro a u hE hR
  refine opsCons ?_
  refine call hE hR [] 24 #[.slice Al l.length cl] (some 32) [] (by kernel_rfl) (by kernel_rfl) trivial (startRB_calls _ l _ (hob.below (hR.below (by simp))) hl8) (by rintro _ _ ⟨_, _, h, _⟩; cases h) (by rintro _ ⟨_, _, h, _⟩; cases h) ?_
  clear hE
  rintro x u2 ⟨x1x, M, hv, hi2, hl2, hb⟩ a hE
  cases hv
  obtain ⟨H2, hH2, hR⟩ := hR.callE hb
  replace hR : Rep ((u2, fun _ => True) :: ((u1, fun _ => True) :: [(w, fun _ => True)])) u2 H2 [] [⟨H0 + 1, 0, kc3⟩, ⟨H0, 0, kc4⟩] := hR.freeze
  have h8 : St8 u2 s x L M := ⟨hi1.below (hR.below (by simp)), hi2, hl2.trans hl1.symm, by rw [hl1]; exact startG hi0, by rw [itms_len hl1, List.length_map]; exact hl8, by rw [itms_len hl2, List.length_map]; exact hl8⟩
  refine segV hE hR [(4, .op []), (5, .op [])] [] [(9, s), (10, x)] [] (by kernel_rfl) (by kernel_rfl) (by kernel_rfl) trivial ?_
  clear hE hR; intro a u hE hR
  refine opsNil ?_; refine thenN ?_; refine wp_seq ?_; refine wp_seq ?_
  refine enterR (idx := [0]) (by kernel_rfl) ?_
  refine segV hE hR [(0, .op [])] [] [(11, .int .i64 0)] [] (by kernel_rfl) (by kernel_rfl) (by kernel_rfl) trivial ?_
  clear hE hR; intro a u hE hR
  refine opsNil ?_; refine thenN ?_; refine wp_block ?_
  refine wp_loop (fun a u => ∃ (fr : List (World × (Nat → Prop))) (s : Value) (x : Value) (L : List IV) (M : List IV) (k : Nat), k ≤ lc.length ∧ (w, fun _ => True) ∈ fr ∧ St8 u s x L M ∧ TE a 99 [(0, .slice Al l.length cl), (1, .slice (some ⟨gc, oc, none⟩) lc.length cc), (6, .pointer (some ⟨H0, 0, none⟩)), (7, .pointer (some ⟨H0 + 1, 0, none⟩)), (8, .bool false), (27, .bool false), (9, s), (10, x), (11, .int .i64 ((k : Nat) : Int))] ∧ ∃ H, Rep fr u H [] [⟨H0 + 1, 0, kc3⟩, ⟨H0, 0, kc4⟩]) (fun a _ => lc.length - (intOf (a.tmps.getD 11 undef)).toNat) ?_ ?_
  · exact ⟨_, s, x, L, M, 0, Nat.zero_le _, by simp, h8.below (hR.below (by simp)), hE.sub (by kernel_rfl), _, hR⟩
  clear hE hR
  rintro a uh ⟨fr, s, x, L, M, k, hkl, hfr, h8, hE, H3, hR⟩
  have hm3 : lc.length - (intOf (a.tmps.getD 11 undef)).toNat = lc.length - k := by rw [hE.get 11 _ rfl]; rfl
  replace hR : Rep ((uh, fun _ => True) :: fr) uh H3 [] [⟨H0 + 1, 0, kc3⟩, ⟨H0, 0, kc4⟩] := hR.freeze
  refine wp_seq ?_; refine wp_seq ?_
  refine enterR (idx := [0, 1, 2, 3]) (by kernel_rfl) ?_
  let kv5 : Value := .bool (decide (((k : Nat) : Int) < ((lc.length : Nat) : Int)))
  refine segV hE hR [(0, .op []), (1, .op []), (2, .op []), (3, .op [])] [] [(33, .int .i64 ((k : Nat) : Int)), (34, .slice (some ⟨gc, oc, none⟩) lc.length cc), (35, .int .i64 ((lc.length : Nat) : Int)), (36, kv5)] [] (by kernel_rfl) (by kernel_rfl) (by kernel_rfl) trivial ?_
  clear hE hR; intro a u hE hR
  refine opsNil ?_; refine thenN ?_
  rcases Bool.eq_false_or_eq_true (decide (((k : Nat) : Int) < ((lc.length : Nat) : Int))) with hc4 | hc4
  · refine condT hE (b := decide (((k : Nat) : Int) < ((lc.length : Nat) : Int))) (by kernel_rfl) hc4 ?_
    have hk : k < lc.length := by have := of_decide_eq_true hc4; omega
    obtain ⟨c1, hc1⟩ : ∃ y, y = lc[k] := ⟨_, rfl⟩
    have hca := calAt hrc hk hc1
    have hcok : c1.ok := hc1 ▸ hcs _ (List.getElem_mem hk)
    let kc6 : List Value := [.int .i64 c1.k, .int .i64 c1.o, .int .u32 c1.v.a, .int .u32 c1.v.b, .int .u32 c1.v.c, .int .u32 c1.v.d, .int .u32 c1.n]
    replace hR : Rep ((uh, fun _ => True) :: fr) u H3 [] [⟨gc, oc + k * 7, kc6⟩, ⟨H0 + 1, 0, kc3⟩, ⟨H0, 0, kc4⟩] := hR.addR (f := (w, fun _ => True)) (List.mem_cons_of_mem _ hfr) ⟨gc, oc + k * 7, _⟩ (range_lt hca) trivial hca
    refine wp_skip ?_; refine thenN ?_; refine wp_seq ?_; refine wp_block ?_; refine wp_seq ?_
    refine enterR (idx := [0, 1, 2, 3, 4, 5, 6, 7, 8, 9]) (by kernel_rfl) ?_
    let kv7 : Value := .agg #[.int .i64 c1.k, .int .i64 c1.o, .int .u32 c1.v.a, .int .u32 c1.v.b, .int .u32 c1.v.c, .int .u32 c1.v.d, .int .u32 c1.n]
    refine seg0 hE hR [(0, .op []), (1, .op []), (2, .op []), (3, .alt (.pointer (some ⟨gc, oc + k * 7, none⟩))), (4, .op [.r 0 0, .r 0 1, .r 0 2, .r 0 3, .r 0 4, .r 0 5, .r 0 6])] [5, 6, 7, 8, 9] [(0, .slice Al l.length cl), (1, .slice (some ⟨gc, oc, none⟩) lc.length cc), (6, .pointer (some ⟨H0, 0, none⟩)), (7, .pointer (some ⟨H0 + 1, 0, none⟩)), (8, .bool false), (27, .bool false), (9, s), (10, x), (11, .int .i64 ((k : Nat) : Int)), (33, .int .i64 ((k : Nat) : Int)), (34, .slice (some ⟨gc, oc, none⟩) lc.length cc), (35, .int .i64 ((lc.length : Nat) : Int)), (36, kv5), (40, s), (41, .slice (some ⟨gc, oc, none⟩) lc.length cc), (42, .int .i64 ((k : Nat) : Int)), (43, .pointer (some ⟨gc, oc + k * 7, none⟩)), (44, kv7)] [(0 ≤ (((k : Nat) : Int) : Int) ∧ (((k : Nat) : Int) : Int) < ((lc.length : Nat) : Int)) ∧ (Try.prog.info? 60).isSome = true, (.pointer (some ⟨gc, oc + (((k : Nat) : Int)).toNat * Try.prog.cellsOf 60, none⟩) : Value) = (.pointer (some ⟨gc, oc + k * 7, none⟩) : Value)] (by kernel_rfl) (by kernel_rfl) (by kernel_rfl) ⟨⟨⟨by omega, by omega⟩, by kernel_rfl⟩, by kernel_rfl, trivial⟩ ?_
    clear hE hR; intro a u hE hR
    refine opsCons ?_
    obtain ⟨d1, hd1⟩ : ∃ d, doP (itms L) c1.k c1.o c1.v = d := ⟨_, rfl⟩
    refine call hE hR [] 25 #[s, kv7] (some 45) [] (by kernel_rfl) (by kernel_rfl) trivial (do_at hd1 (h8.a.below (hR.below (by simp))) h8.g h8.len hcok) (by rintro _ _ ⟨_, _, h, _⟩; cases h) (by rintro _ ⟨_, _, h, _⟩; cases h) ?_
    clear hE
    rintro v v1 ⟨s2, L2, hv, hj1, hk1, hb⟩ a hE
    cases hv
    obtain ⟨H5, hH5, hR⟩ := hR.callE hb
    replace hR : Rep ((v1, fun _ => True) :: ((uh, fun _ => True) :: fr)) v1 H5 [] [⟨gc, oc + k * 7, kc6⟩, ⟨H0 + 1, 0, kc3⟩, ⟨H0, 0, kc4⟩] := hR.freeze
    let kv8 : Value := .tuple #[s2, .agg #[.int .i64 d1.f, .int .u32 d1.r.a, .int .u32 d1.r.b, .int .u32 d1.r.c, .int .u32 d1.r.d]]
    refine segV hE hR [(6, .op []), (7, .op []), (8, .op []), (9, .op [])] [] [(9, s2), (39, kv8), (46, s2)] [] (by kernel_rfl) (by kernel_rfl) (by kernel_rfl) trivial ?_
    clear hE hR; intro a u hE hR
    refine opsNil ?_; refine thenN ?_
    refine enterR (idx := [0, 1, 2, 3, 4, 5, 6, 7, 8, 9]) (by kernel_rfl) ?_
    refine segV hE hR [(0, .op []), (1, .op []), (2, .op []), (3, .alt (.pointer (some ⟨gc, oc + k * 7, none⟩))), (4, .op [.r 0 0, .r 0 1, .r 0 2, .r 0 3, .r 0 4, .r 0 5, .r 0 6])] [5, 6, 7, 8, 9] [(49, x), (50, .slice (some ⟨gc, oc, none⟩) lc.length cc), (51, .int .i64 ((k : Nat) : Int)), (52, .pointer (some ⟨gc, oc + k * 7, none⟩)), (53, kv7)] [(0 ≤ (((k : Nat) : Int) : Int) ∧ (((k : Nat) : Int) : Int) < ((lc.length : Nat) : Int)) ∧ (Try.prog.info? 60).isSome = true, (.pointer (some ⟨gc, oc + (((k : Nat) : Int)).toNat * Try.prog.cellsOf 60, none⟩) : Value) = (.pointer (some ⟨gc, oc + k * 7, none⟩) : Value)] (by kernel_rfl) (by kernel_rfl) (by kernel_rfl) ⟨⟨⟨by omega, by omega⟩, by kernel_rfl⟩, by kernel_rfl, trivial⟩ ?_
    clear hE hR; intro a u hE hR
    refine opsCons ?_
    refine call hE hR [] 26 #[x, kv7] (some 54) [] (by kernel_rfl) (by kernel_rfl) trivial (refdo_at hd1 h8 (h8.b.below (hR.below (by simp))) hcok) (by rintro _ _ ⟨_, _, h, _⟩; cases h) (by rintro _ ⟨_, _, h, _⟩; cases h) ?_
    clear hE
    rintro v v2 ⟨x2, M2, hv, hj2, hk2, hb⟩ a hE
    cases hv
    obtain ⟨H6, hH6, hR⟩ := hR.callE hb
    replace hR : Rep ((v2, fun _ => True) :: ((v1, fun _ => True) :: ((uh, fun _ => True) :: fr))) v2 H6 [] [⟨gc, oc + k * 7, kc6⟩, ⟨H0 + 1, 0, kc3⟩, ⟨H0, 0, kc4⟩] := hR.freeze
    let kv9 : Value := .tuple #[x2, .agg #[.int .i64 d1.f, .int .u32 d1.r.a, .int .u32 d1.r.b, .int .u32 d1.r.c, .int .u32 d1.r.d]]
    refine segV hE hR [(6, .op []), (7, .op []), (8, .op []), (9, .op [])] [] [(10, x2), (48, kv9), (55, x2)] [] (by kernel_rfl) (by kernel_rfl) (by kernel_rfl) trivial ?_
    clear hE hR; intro a u hE hR
    refine opsNil ?_; refine blkN ?_; refine thenN ?_
    refine enterR (idx := [0, 1, 2]) (by kernel_rfl) ?_
    refine segV hE hR [(0, .op []), (1, .as [] (.int .i64 ((k + 1 : Nat) : Int))), (2, .op [])] [] [(11, .int .i64 ((k + 1 : Nat) : Int)), (37, .int .i64 ((k : Nat) : Int)), (38, .int .i64 ((k + 1 : Nat) : Int))] [(.int .i64 (IntKind.i64.wrap (((k : Nat) : Int) + 1)) : Value) = (.int .i64 ((k + 1 : Nat) : Int) : Value)] (by kernel_rfl) (by kernel_rfl) (by kernel_rfl) ⟨congrArg (Value.int IntKind.i64) ((wrap_i64 ⟨by omega, by omega⟩).trans (by omega)), trivial⟩ ?_
    clear hE hR; intro a u hE hR
    refine opsNil ?_; refine thenN ?_
    exact ⟨⟨_, s2, x2, L2, M2, k + 1, by omega, by simp [hfr], ⟨hj1.below (hR.below (by simp)), hj2.below (hR.below (by simp)), hk2.trans hk1.symm, by rw [hk1, ← hd1]; exact doP_good h8.g hcok.1, by rw [itms_len hk1, ← hd1, doP_length, List.length_map]; exact h8.len, by rw [itms_len hk2, ← hd1, doP_length, List.length_map]; exact h8.len⟩, hE.sub (by kernel_rfl), _, (hR.dropR (List.Sublist.cons _ (List.Sublist.refl _)))⟩, meas (k' := k + 1) (hE.get 11 _ (by kernel_rfl)) hm3 (by omega)⟩
  · refine condF hE (b := decide (((k : Nat) : Int) < ((lc.length : Nat) : Int))) (by kernel_rfl) hc4 ?_
    refine wp_exit ?_; refine thenE ?_; refine thenE ?_; refine blkE ?_; refine thenN ?_; refine wp_seq ?_
    refine enterR (idx := [0, 1, 2, 3, 4, 5, 6, 7, 8]) (by kernel_rfl) ?_
    refine segV hE hR [(0, .op []), (1, .op [.r 1 0, .r 1 1, .r 1 2, .r 1 3, .r 1 4, .r 1 5, .r 1 6]), (2, .op [.r 0 0, .r 0 1, .r 0 2, .r 0 3, .r 0 4])] [3, 4, 5, 6, 7, 8] [(58, s), (59, kv1), (60, kv2)] [] (by kernel_rfl) (by kernel_rfl) (by kernel_rfl) trivial ?_
    clear hE hR; intro a u hE hR
    refine opsCons ?_
    obtain ⟨a1, ha1⟩ : ∃ d, allowsP (itms L) ck co cv f r = d := ⟨_, rfl⟩
    refine call hE hR [] 27 #[s, kv1, kv2] (some 61) [] (by kernel_rfl) (by kernel_rfl) trivial (al_at ha1 (h8.a.below (hR.below (by simp))) h8.g h8.len hcc) (by rintro _ _ ⟨_, _, h, _⟩; cases h) (by rintro _ ⟨_, _, h, _⟩; cases h) ?_
    clear hE
    rintro v z1 ⟨s5, L5, hv, hm1, hn1, hb⟩ a hE
    cases hv
    obtain ⟨H7, hH7, hR⟩ := hR.callE hb
    replace hR : Rep ((z1, fun _ => True) :: ((uh, fun _ => True) :: fr)) z1 H7 [] [⟨H0 + 1, 0, kc3⟩, ⟨H0, 0, kc4⟩] := hR.freeze
    refine segV hE hR [(4, .op []), (5, .op []), (6, .op []), (7, .op []), (8, .op [])] [] [(12, s5), (13, .bool (a1.is))] [] (by kernel_rfl) (by kernel_rfl) (by kernel_rfl) trivial ?_
    clear hE hR; intro a u hE hR
    refine opsNil ?_; refine thenN ?_; refine wp_seq ?_
    refine enterR (idx := [0, 1, 2, 3, 4, 5, 6, 7, 8]) (by kernel_rfl) ?_
    refine segV hE hR [(0, .op []), (1, .op [.r 1 0, .r 1 1, .r 1 2, .r 1 3, .r 1 4, .r 1 5, .r 1 6]), (2, .op [.r 0 0, .r 0 1, .r 0 2, .r 0 3, .r 0 4])] [3, 4, 5, 6, 7, 8] [(65, x), (66, kv1), (67, kv2)] [] (by kernel_rfl) (by kernel_rfl) (by kernel_rfl) trivial ?_
    clear hE hR; intro a u hE hR
    refine opsCons ?_
    refine call hE hR [] 28 #[x, kv1, kv2] (some 68) [] (by kernel_rfl) (by kernel_rfl) trivial (refal_at ha1 h8 (h8.b.below (hR.below (by simp))) hcc) (by rintro _ _ ⟨_, _, h, _⟩; cases h) (by rintro _ ⟨_, _, h, _⟩; cases h) ?_
    clear hE
    rintro v z2 ⟨x5, M5, hv, hm2, hn2, hb⟩ a hE
    cases hv
    obtain ⟨H8, hH8, hR⟩ := hR.callE hb
    replace hR : Rep ((z2, fun _ => True) :: ((z1, fun _ => True) :: ((uh, fun _ => True) :: fr))) z2 H8 [] [⟨H0 + 1, 0, kc3⟩, ⟨H0, 0, kc4⟩] := hR.freeze
    refine seg0 hE hR [(4, .op []), (5, .op []), (6, .op []), (7, .op []), (8, .op [])] [] [(0, .slice Al l.length cl), (1, .slice (some ⟨gc, oc, none⟩) lc.length cc), (6, .pointer (some ⟨H0, 0, none⟩)), (7, .pointer (some ⟨H0 + 1, 0, none⟩)), (8, .bool false), (27, .bool false), (9, s), (10, x), (11, .int .i64 ((k : Nat) : Int)), (33, .int .i64 ((k : Nat) : Int)), (34, .slice (some ⟨gc, oc, none⟩) lc.length cc), (35, .int .i64 ((lc.length : Nat) : Int)), (36, kv5), (12, s5), (13, .bool (a1.is)), (14, x5), (15, .bool (a1.is))] [] (by kernel_rfl) (by kernel_rfl) (by kernel_rfl) trivial ?_
    clear hE hR; intro a u hE hR
    refine opsNil ?_; refine thenN ?_; refine wp_seq ?_
    refine enterR (idx := [0, 1, 2, 3, 4, 5, 6, 7, 8]) (by kernel_rfl) ?_
    refine segV hE hR [(0, .op []), (1, .op [.r 1 0, .r 1 1, .r 1 2, .r 1 3, .r 1 4, .r 1 5, .r 1 6])] [2, 3, 4, 5, 6, 7, 8] [(72, s), (73, kv1)] [] (by kernel_rfl) (by kernel_rfl) (by kernel_rfl) trivial ?_
    clear hE hR; intro a u hE hR
    refine opsCons ?_
    obtain ⟨d9, hd9⟩ : ∃ d, doP (itms L) ck co cv = d := ⟨_, rfl⟩
    refine call hE hR [] 25 #[s, kv1] (some 74) [] (by kernel_rfl) (by kernel_rfl) trivial (do_at hd9 (h8.a.below (hR.below (by simp))) h8.g h8.len hcc) (by rintro _ _ ⟨_, _, h, _⟩; cases h) (by rintro _ ⟨_, _, h, _⟩; cases h) ?_
    clear hE
    rintro v u ⟨s6, L6, hv, hp1, hp2, hb⟩ a hE
    cases hv
    obtain ⟨H9, hH9, hR⟩ := hR.callE hb
    let kc10 : List Value := [.int .i64 d9.f, .int .u32 d9.r.a, .int .u32 d9.r.b, .int .u32 d9.r.c, .int .u32 d9.r.d]
    refine segU hE hR [(3, .op []), (4, .op []), (5, .op []), (6, .op []), (7, .op []), (8, .op (hks 0 0 5))] [] [(17, .pointer (some ⟨H9, 0, none⟩))] [⟨H9, 0, kc10, 63, true⟩] (H9 + 1) [] (by kernel_rfl) (by kernel_rfl) (by kernel_rfl) trivial ?_
    clear hE hR; intro a u hE hR
    refine opsNil ?_; refine thenN ?_; refine wp_seq ?_
    refine enterR (idx := [0, 1, 2, 3, 4, 5, 6, 7, 8]) (by kernel_rfl) ?_
    let kv11 : Value := .agg #[.int .i64 d9.f, .int .u32 d9.r.a, .int .u32 d9.r.b, .int .u32 d9.r.c, .int .u32 d9.r.d]
    refine segV hE hR [(0, .op []), (1, .op [.r 1 0, .r 1 1, .r 1 2, .r 1 3, .r 1 4, .r 1 5, .r 1 6]), (2, .op (hks 0 0 5))] [3, 4, 5, 6, 7, 8] [(78, s), (79, kv1), (80, kv11)] [] (by kernel_rfl) (by kernel_rfl) (by kernel_rfl) trivial ?_
    clear hE hR; intro a u hE hR
    refine opsCons ?_
    refine call hE hR [] 27 #[s, kv1, kv11] (some 81) [] (by kernel_rfl) (by kernel_rfl) trivial (al_at (d := ⟨d9.l, true⟩) (by rw [← hd9]; exact allowsP_own _ _ _ _) (h8.a.below (hR.below (by simp))) h8.g h8.len hcc) (by rintro _ _ ⟨_, _, h, _⟩; cases h) (by rintro _ ⟨_, _, h, _⟩; cases h) ?_
    clear hE
    rintro v u ⟨s8, L8, hv, hq1, hq2, hb⟩ a hE
    cases hv
    obtain ⟨H10, hH10, hR⟩ := hR.callE hb
    refine segV hE hR [(4, .op []), (5, .op []), (6, .op []), (7, .op []), (8, .op [])] [] [(19, .bool true)] [] (by kernel_rfl) (by kernel_rfl) (by kernel_rfl) trivial ?_
    clear hE hR; intro a u hE hR
    refine opsNil ?_; refine thenN ?_; refine wp_seq ?_
    refine enterR (idx := [0, 1, 2, 3, 4, 5, 6, 7, 8, 9, 10, 11, 12, 13, 14, 15]) (by kernel_rfl) ?_
    refine segV hE hR [(0, .op []), (1, .op []), (2, .as [] (.bool true)), (3, .op []), (4, .op [])] [5, 6, 7, 8, 9, 10, 11, 12, 13, 14, 15] [(87, .bool true), (88, s5)] [true = true, (.bool ((a1.is) == (a1.is)) : Value) = (.bool true : Value)] (by kernel_rfl) (by kernel_rfl) (by kernel_rfl) ⟨rfl, congrArg Value.bool (beq_self_eq_true _), trivial⟩ ?_
    clear hE hR; intro a u hE hR
    refine opsCons ?_
    have hlen5 : L5.length ≤ 8 := by rw [itms_len hn1, ← ha1, allowsP_length, List.length_map]; exact h8.len
    refine call hE hR [] 30 #[s5] (some 89) [true = true] (by kernel_rfl) (by kernel_rfl) ⟨rfl, trivial⟩ (back_calls _ L5 _ (hm1.below (hR.below (by simp))) hlen5) (by rintro _ _ ⟨_, _, h, _⟩; cases h) (by rintro _ ⟨_, _, h, _⟩; cases h) ?_
    clear hE
    rintro s7 z7 ⟨s7x, L7, hv, ho7, hl7, hb⟩ a hE
    cases hv
    obtain ⟨H11, hH11, hR⟩ := hR.callE hb
    replace hR : Rep ((z7, fun _ => True) :: ((z2, fun _ => True) :: ((z1, fun _ => True) :: ((uh, fun _ => True) :: fr)))) z7 H11 [] [⟨H9, 0, kc10⟩, ⟨H0 + 1, 0, kc3⟩, ⟨H0, 0, kc4⟩] := hR.freeze
    refine segV hE hR [(6, .op [])] [7, 8, 9, 10, 11, 12, 13, 14, 15] [(90, x5)] [true = true] (by kernel_rfl) (by kernel_rfl) (by kernel_rfl) ⟨rfl, trivial⟩ ?_
    clear hE hR; intro a u hE hR
    refine opsCons ?_
    have hlen7 : L7.length ≤ 8 := by rw [itms_len hl7, List.length_map]; exact hlen5
    have hfew : ∀ x ∈ itms L7, x.row.length ≤ 64 := by rw [hl7, hn1, ← ha1]; exact fun x hx => (allowsP_good h8.g hcc.1 x hx).2.2
    refine call hE hR [] 29 #[s7, x5] (some 91) [true = true] (by kernel_rfl) (by kernel_rfl) ⟨rfl, trivial⟩ (same_calls _ _ L7 M5 _ (ho7.below (hR.below (by simp))) (hm2.below (hR.below (by simp))) (hl7.trans (hn1.trans hn2.symm)) hlen7 hfew) (fun _ _ h => by cases h.1) (fun _ h => by cases h.1) ?_
    clear hE
    rintro v u ⟨hv, hb⟩ a hE
    cases hv
    obtain ⟨H12, hH12, hR⟩ := hR.callE hb
    refine segV hE hR [(8, .op []), (9, .op []), (10, .op []), (11, .op []), (12, .op [])] [13, 14, 15] [(96, .bool true)] [true = true] (by kernel_rfl) (by kernel_rfl) (by kernel_rfl) ⟨rfl, trivial⟩ ?_
    clear hE hR; intro a u hE hR
    refine opsCons ?_
    refine call hE hR [] 22 #[] (some 97) [true = true] (by kernel_rfl) (by kernel_rfl) ⟨rfl, trivial⟩ (alive_calls _) (fun _ _ h => by cases h.1) (fun _ h => by cases h.1) ?_
    clear hE
    rintro v u ⟨hv, hb⟩ a hE
    cases hv
    obtain ⟨H13, hH13, hR⟩ := hR.callE hb
    refine seg0 hE hR [(14, .op []), (15, .op [])] [] [(0, .slice Al l.length cl), (1, .slice (some ⟨gc, oc, none⟩) lc.length cc), (6, .pointer (some ⟨H0, 0, none⟩)), (7, .pointer (some ⟨H0 + 1, 0, none⟩)), (8, .bool true), (27, .bool false), (9, s), (10, x), (11, .int .i64 ((k : Nat) : Int)), (33, .int .i64 ((k : Nat) : Int)), (34, .slice (some ⟨gc, oc, none⟩) lc.length cc), (35, .int .i64 ((lc.length : Nat) : Int)), (36, kv5), (17, .pointer (some ⟨H9, 0, none⟩))] [] (by kernel_rfl) (by kernel_rfl) (by kernel_rfl) trivial ?_
    clear hE hR; intro a u hE hR
    refine opsNil ?_; refine thenN ?_; refine wp_ret ?_
    refine retF hE hR [] (.bool true) (by kernel_rfl) (by kernel_rfl) (by kernel_rfl) ?_
    exact ⟨rfl, hR.below (by simp [hfr])⟩
set_option maxRecDepth 100000 in
set_option maxHeartbeats 2000000 in
theorem law_none (w : World) (Al : Option Addr) (cl : Nat) (l : List Ob) (Ac : Option Addr) (cc : Nat) (ck co : Int) (cv : Vl) (cn f : Int) (r : Vl) (hl8 : l.length ≤ 8) (hob : ObsW w (.slice Al l.length cl) l) (hi0 : ∀ o ∈ l, 0 ≤ o.i0 ∧ o.i0 < 4294967296) (hcc : cv.ok ∧ (-9223372036854775808 ≤ ck ∧ ck ≤ 9223372036854775807)) :
    Calls Try.prog 4 #[.slice Al l.length cl, .slice Ac 0 cc, .agg #[.int .i64 ck, .int .i64 co, .int .u32 cv.a, .int .u32 cv.b, .int .u32 cv.c, .int .u32 cv.d, .int .u32 cn], .agg #[.int .i64 f, .int .u32 r.a, .int .u32 r.b, .int .u32 r.c, .int .u32 r.d]] w fun e W' => e = .returned (.bool true) ∧ Below w.heap.size w W' := by
  let kv1 : Value := .agg #[.int .i64 ck, .int .i64 co, .int .u32 cv.a, .int .u32 cv.b, .int .u32 cv.c, .int .u32 cv.d, .int .u32 cn]
  let kv2 : Value := .agg #[.int .i64 f, .int .u32 r.a, .int .u32 r.b, .int .u32 r.c, .int .u32 r.d]
  refine enterF Try.func4 rfl Try.ntmps4 [(0, .slice Al l.length cl), (1, .slice Ac 0 cc), (2, kv1), (3, kv2)] (by kernel_rfl) (by kernel_rfl) ?_
  have hR := Rep.start w
  obtain ⟨H0, hH0⟩ : ∃ x, x = w.heap.size := ⟨_, rfl⟩
  rw [← hH0] at hR
  intro a hE
  refine wp_seq ?_
  refine enterR (idx := [0, 1, 2]) (by kernel_rfl) ?_
  let kc3 : List Value := [.int .i64 f, .int .u32 r.a, .int .u32 r.b, .int .u32 r.c, .int .u32 r.d]
  let kc4 : List Value := [.int .i64 ck, .int .i64 co, .int .u32 cv.a, .int .u32 cv.b, .int .u32 cv.c, .int .u32 cv.d, .int .u32 cn]
  refine segU hE hR [(0, .op []), (1, .op []), (2, .op [])] [] [(6, .pointer (some ⟨H0, 0, none⟩)), (7, .pointer (some ⟨H0 + 1, 0, none⟩)), (8, .bool false)] [⟨H0 + 1, 0, kc3, 63, true⟩, ⟨H0, 0, kc4, 60, true⟩] (H0 + 2) [] (by kernel_rfl) (by kernel_rfl) (by kernel_rfl) trivial ?_
  clear hE hR; intro a u hE hR
  refine opsNil ?_; refine thenN ?_; refine wp_seq ?_; refine wp_seq ?_
  refine enterR (idx := [0, 1, 2, 3, 4, 5, 6, 7]) (by kernel_rfl) ?_
  refine segV hE hR [(0, .op []), (1, .op []), (2, .as [] (.bool false)), (3, .op []), (4, .op []), (5, .op []), (6, .op []), (7, .op [])] [] [(27, .bool false)] [false = false, false = false, false = false, (.bool (decide (((l.length : Nat) : Int) > 8)) : Value) = (.bool false : Value)] (by kernel_rfl) (by kernel_rfl) (by kernel_rfl) ⟨rfl, rfl, rfl, congrArg Value.bool (decide_eq_false (by omega)), trivial⟩ ?_
  clear hE hR; intro a u hE hR
  refine opsNil ?_; refine thenN ?_
  refine condF hE (b := false) (by kernel_rfl) rfl ?_
  refine wp_skip ?_; refine thenN ?_; refine wp_seq ?_
  refine enterR (idx := [0, 1, 2, 3, 4, 5]) (by kernel_rfl) ?_
  refine segV hE hR [(0, .op [])] [1, 2, 3, 4, 5] [(29, .slice Al l.length cl)] [] (by kernel_rfl) (by kernel_rfl) (by kernel_rfl) trivial ?_
  clear hE hR; intro a u hE hR
  refine opsCons ?_
  refine call hE hR [] 23 #[.slice Al l.length cl] (some 30) [] (by kernel_rfl) (by kernel_rfl) trivial (startB_calls _ l _ (hob.below (hR.below (by simp))) hl8) (by rintro _ _ ⟨_, _, h, _⟩; cases h) (by rintro _ ⟨_, _, h, _⟩; cases h) ?_
  clear hE
  rintro s u1 ⟨s1x, L, hv, hi1, hl1, hb⟩ a hE
  cases hv
  obtain ⟨H1, hH1, hR⟩ := hR.callE hb
  replace hR : Rep ((u1, fun _ => True) :: [(w, fun _ => True)]) u1 H1 [] [⟨H0 + 1, 0, kc3⟩, ⟨H0, 0, kc4⟩] := hR.freeze
  refine segV hE hR [(2, .op [])] [3, 4, 5] [(31, .slice Al l.length cl)] [] (by kernel_rfl) (by kernel_rfl) (by kernel_rfl) trivial ?_
  clear hE hR; intro a u hE hR
  refine opsCons ?_
  refine call hE hR [] 24 #[.slice Al l.length cl] (some 32) [] (by kernel_rfl) (by kernel_rfl) trivial (startRB_calls _ l _ (hob.below (hR.below (by simp))) hl8) (by rintro _ _ ⟨_, _, h, _⟩; cases h) (by rintro _ ⟨_, _, h, _⟩; cases h) ?_
  clear hE
  rintro x u2 ⟨x1x, M, hv, hi2, hl2, hb⟩ a hE
  cases hv
  obtain ⟨H2, hH2, hR⟩ := hR.callE hb
  replace hR : Rep ((u2, fun _ => True) :: ((u1, fun _ => True) :: [(w, fun _ => True)])) u2 H2 [] [⟨H0 + 1, 0, kc3⟩, ⟨H0, 0, kc4⟩] := hR.freeze
  have h8 : St8 u2 s x L M := ⟨hi1.below (hR.below (by simp)), hi2, hl2.trans hl1.symm, by rw [hl1]; exact startG hi0, by rw [itms_len hl1, List.length_map]; exact hl8, by rw [itms_len hl2, List.length_map]; exact hl8⟩
  refine segV hE hR [(4, .op []), (5, .op [])] [] [(9, s), (10, x)] [] (by kernel_rfl) (by kernel_rfl) (by kernel_rfl) trivial ?_
  clear hE hR; intro a u hE hR
  refine opsNil ?_; refine thenN ?_; refine wp_seq ?_; refine wp_seq ?_
  refine enterR (idx := [0]) (by kernel_rfl) ?_
  refine segV hE hR [(0, .op [])] [] [(11, .int .i64 0)] [] (by kernel_rfl) (by kernel_rfl) (by kernel_rfl) trivial ?_
  clear hE hR; intro a u hE hR
  refine opsNil ?_; refine thenN ?_; refine wp_block ?_
  refine wp_loop_rounds 1 ?_
  rw [rounds_succ]
  refine wp_seq ?_; refine wp_seq ?_
  refine enterR (idx := [0, 1, 2, 3]) (by kernel_rfl) ?_
  refine segV hE hR [(0, .op []), (1, .op []), (2, .op []), (3, .op [])] [] [(33, .int .i64 0), (34, .slice Ac 0 cc), (35, .int .i64 0), (36, .bool false)] [] (by kernel_rfl) (by kernel_rfl) (by kernel_rfl) trivial ?_
  clear hE hR; intro a u hE hR
  refine opsNil ?_; refine thenN ?_
  refine condF hE (b := false) (by kernel_rfl) rfl ?_
  refine wp_exit ?_; refine thenE ?_; refine thenE ?_; refine blkE ?_; refine thenN ?_; refine wp_seq ?_
  refine enterR (idx := [0, 1, 2, 3, 4, 5, 6, 7, 8]) (by kernel_rfl) ?_
  refine seg0 hE hR [(0, .op []), (1, .op [.r 1 0, .r 1 1, .r 1 2, .r 1 3, .r 1 4, .r 1 5, .r 1 6]), (2, .op [.r 0 0, .r 0 1, .r 0 2, .r 0 3, .r 0 4])] [3, 4, 5, 6, 7, 8] [(0, .slice Al l.length cl), (1, .slice Ac 0 cc), (6, .pointer (some ⟨H0, 0, none⟩)), (7, .pointer (some ⟨H0 + 1, 0, none⟩)), (8, .bool false), (27, .bool false), (9, s), (10, x), (11, .int .i64 0), (33, .int .i64 0), (34, .slice Ac 0 cc), (35, .int .i64 0), (36, .bool false), (58, s), (59, kv1), (60, kv2)] [] (by kernel_rfl) (by kernel_rfl) (by kernel_rfl) trivial ?_
  clear hE hR; intro a u hE hR
  refine opsCons ?_
  obtain ⟨a1, ha1⟩ : ∃ d, allowsP (itms L) ck co cv f r = d := ⟨_, rfl⟩
  refine call hE hR [] 27 #[s, kv1, kv2] (some 61) [] (by kernel_rfl) (by kernel_rfl) trivial (al_at ha1 (h8.a.below (hR.below (by simp))) h8.g h8.len hcc) (by rintro _ _ ⟨_, _, h, _⟩; cases h) (by rintro _ ⟨_, _, h, _⟩; cases h) ?_
  clear hE
  rintro v z1 ⟨s5, L5, hv, hm1, hn1, hb⟩ a hE
  cases hv
  obtain ⟨H3, hH3, hR⟩ := hR.callE hb
  replace hR : Rep ((z1, fun _ => True) :: ((u2, fun _ => True) :: ((u1, fun _ => True) :: [(w, fun _ => True)]))) z1 H3 [] [⟨H0 + 1, 0, kc3⟩, ⟨H0, 0, kc4⟩] := hR.freeze
  refine segV hE hR [(4, .op []), (5, .op []), (6, .op []), (7, .op []), (8, .op [])] [] [(12, s5), (13, .bool (a1.is))] [] (by kernel_rfl) (by kernel_rfl) (by kernel_rfl) trivial ?_
  clear hE hR; intro a u hE hR
  refine opsNil ?_; refine thenN ?_; refine wp_seq ?_
  refine enterR (idx := [0, 1, 2, 3, 4, 5, 6, 7, 8]) (by kernel_rfl) ?_
  refine segV hE hR [(0, .op []), (1, .op [.r 1 0, .r 1 1, .r 1 2, .r 1 3, .r 1 4, .r 1 5, .r 1 6]), (2, .op [.r 0 0, .r 0 1, .r 0 2, .r 0 3, .r 0 4])] [3, 4, 5, 6, 7, 8] [(65, x), (66, kv1), (67, kv2)] [] (by kernel_rfl) (by kernel_rfl) (by kernel_rfl) trivial ?_
  clear hE hR; intro a u hE hR
  refine opsCons ?_
  refine call hE hR [] 28 #[x, kv1, kv2] (some 68) [] (by kernel_rfl) (by kernel_rfl) trivial (refal_at ha1 h8 (h8.b.below (hR.below (by simp))) hcc) (by rintro _ _ ⟨_, _, h, _⟩; cases h) (by rintro _ ⟨_, _, h, _⟩; cases h) ?_
  clear hE
  rintro v z2 ⟨x5, M5, hv, hm2, hn2, hb⟩ a hE
  cases hv
  obtain ⟨H4, hH4, hR⟩ := hR.callE hb
  replace hR : Rep ((z2, fun _ => True) :: ((z1, fun _ => True) :: ((u2, fun _ => True) :: ((u1, fun _ => True) :: [(w, fun _ => True)])))) z2 H4 [] [⟨H0 + 1, 0, kc3⟩, ⟨H0, 0, kc4⟩] := hR.freeze
  refine segV hE hR [(4, .op []), (5, .op []), (6, .op []), (7, .op []), (8, .op [])] [] [(14, x5), (15, .bool (a1.is))] [] (by kernel_rfl) (by kernel_rfl) (by kernel_rfl) trivial ?_
  clear hE hR; intro a u hE hR
  refine opsNil ?_; refine thenN ?_; refine wp_seq ?_
  refine enterR (idx := [0, 1, 2, 3, 4, 5, 6, 7, 8]) (by kernel_rfl) ?_
  refine segV hE hR [(0, .op []), (1, .op [.r 1 0, .r 1 1, .r 1 2, .r 1 3, .r 1 4, .r 1 5, .r 1 6])] [2, 3, 4, 5, 6, 7, 8] [(72, s), (73, kv1)] [] (by kernel_rfl) (by kernel_rfl) (by kernel_rfl) trivial ?_
  clear hE hR; intro a u hE hR
  refine opsCons ?_
  obtain ⟨d9, hd9⟩ : ∃ d, doP (itms L) ck co cv = d := ⟨_, rfl⟩
  refine call hE hR [] 25 #[s, kv1] (some 74) [] (by kernel_rfl) (by kernel_rfl) trivial (do_at hd9 (h8.a.below (hR.below (by simp))) h8.g h8.len hcc) (by rintro _ _ ⟨_, _, h, _⟩; cases h) (by rintro _ ⟨_, _, h, _⟩; cases h) ?_
  clear hE
  rintro v u ⟨s6, L6, hv, hp1, hp2, hb⟩ a hE
  cases hv
  obtain ⟨H5, hH5, hR⟩ := hR.callE hb
  let kc5 : List Value := [.int .i64 d9.f, .int .u32 d9.r.a, .int .u32 d9.r.b, .int .u32 d9.r.c, .int .u32 d9.r.d]
  refine segU hE hR [(3, .op []), (4, .op []), (5, .op []), (6, .op []), (7, .op []), (8, .op (hks 0 0 5))] [] [(17, .pointer (some ⟨H5, 0, none⟩))] [⟨H5, 0, kc5, 63, true⟩] (H5 + 1) [] (by kernel_rfl) (by kernel_rfl) (by kernel_rfl) trivial ?_
  clear hE hR; intro a u hE hR
  refine opsNil ?_; refine thenN ?_; refine wp_seq ?_
  refine enterR (idx := [0, 1, 2, 3, 4, 5, 6, 7, 8]) (by kernel_rfl) ?_
  let kv6 : Value := .agg #[.int .i64 d9.f, .int .u32 d9.r.a, .int .u32 d9.r.b, .int .u32 d9.r.c, .int .u32 d9.r.d]
  refine segV hE hR [(0, .op []), (1, .op [.r 1 0, .r 1 1, .r 1 2, .r 1 3, .r 1 4, .r 1 5, .r 1 6]), (2, .op (hks 0 0 5))] [3, 4, 5, 6, 7, 8] [(78, s), (79, kv1), (80, kv6)] [] (by kernel_rfl) (by kernel_rfl) (by kernel_rfl) trivial ?_
  clear hE hR; intro a u hE hR
  refine opsCons ?_
  refine call hE hR [] 27 #[s, kv1, kv6] (some 81) [] (by kernel_rfl) (by kernel_rfl) trivial (al_at (d := ⟨d9.l, true⟩) (by rw [← hd9]; exact allowsP_own _ _ _ _) (h8.a.below (hR.below (by simp))) h8.g h8.len hcc) (by rintro _ _ ⟨_, _, h, _⟩; cases h) (by rintro _ ⟨_, _, h, _⟩; cases h) ?_
  clear hE
  rintro v u ⟨s8, L8, hv, hq1, hq2, hb⟩ a hE
  cases hv
  obtain ⟨H6, hH6, hR⟩ := hR.callE hb
  refine segV hE hR [(4, .op []), (5, .op []), (6, .op []), (7, .op []), (8, .op [])] [] [(19, .bool true)] [] (by kernel_rfl) (by kernel_rfl) (by kernel_rfl) trivial ?_
  clear hE hR; intro a u hE hR
  refine opsNil ?_; refine thenN ?_; refine wp_seq ?_
  refine enterR (idx := [0, 1, 2, 3, 4, 5, 6, 7, 8, 9, 10, 11, 12, 13, 14, 15]) (by kernel_rfl) ?_
  refine seg0 hE hR [(0, .op []), (1, .op []), (2, .as [] (.bool true)), (3, .op []), (4, .op [])] [5, 6, 7, 8, 9, 10, 11, 12, 13, 14, 15] [(0, .slice Al l.length cl), (1, .slice Ac 0 cc), (6, .pointer (some ⟨H0, 0, none⟩)), (7, .pointer (some ⟨H0 + 1, 0, none⟩)), (8, .bool false), (27, .bool false), (9, s), (10, x), (11, .int .i64 0), (33, .int .i64 0), (34, .slice Ac 0 cc), (35, .int .i64 0), (36, .bool false), (14, x5), (17, .pointer (some ⟨H5, 0, none⟩)), (19, .bool true), (87, .bool true), (88, s5)] [true = true, (.bool ((a1.is) == (a1.is)) : Value) = (.bool true : Value)] (by kernel_rfl) (by kernel_rfl) (by kernel_rfl) ⟨rfl, congrArg Value.bool (beq_self_eq_true _), trivial⟩ ?_
  clear hE hR; intro a u hE hR
  refine opsCons ?_
  have hlen5 : L5.length ≤ 8 := by rw [itms_len hn1, ← ha1, allowsP_length, List.length_map]; exact h8.len
  refine call hE hR [] 30 #[s5] (some 89) [true = true] (by kernel_rfl) (by kernel_rfl) ⟨rfl, trivial⟩ (back_calls _ L5 _ (hm1.below (hR.below (by simp))) hlen5) (by rintro _ _ ⟨_, _, h, _⟩; cases h) (by rintro _ ⟨_, _, h, _⟩; cases h) ?_
  clear hE
  rintro s7 z7 ⟨s7x, L7, hv, ho7, hl7, hb⟩ a hE
  cases hv
  obtain ⟨H7, hH7, hR⟩ := hR.callE hb
  replace hR : Rep ((z7, fun _ => True) :: ((z2, fun _ => True) :: ((z1, fun _ => True) :: ((u2, fun _ => True) :: ((u1, fun _ => True) :: [(w, fun _ => True)]))))) z7 H7 [] [⟨H5, 0, kc5⟩, ⟨H0 + 1, 0, kc3⟩, ⟨H0, 0, kc4⟩] := hR.freeze
  refine segV hE hR [(6, .op [])] [7, 8, 9, 10, 11, 12, 13, 14, 15] [(90, x5)] [true = true] (by kernel_rfl) (by kernel_rfl) (by kernel_rfl) ⟨rfl, trivial⟩ ?_
  clear hE hR; intro a u hE hR
  refine opsCons ?_
  have hlen7 : L7.length ≤ 8 := by rw [itms_len hl7, List.length_map]; exact hlen5
  have hfew : ∀ x ∈ itms L7, x.row.length ≤ 64 := by rw [hl7, hn1, ← ha1]; exact fun x hx => (allowsP_good h8.g hcc.1 x hx).2.2
  refine call hE hR [] 29 #[s7, x5] (some 91) [true = true] (by kernel_rfl) (by kernel_rfl) ⟨rfl, trivial⟩ (same_calls _ _ L7 M5 _ (ho7.below (hR.below (by simp))) (hm2.below (hR.below (by simp))) (hl7.trans (hn1.trans hn2.symm)) hlen7 hfew) (fun _ _ h => by cases h.1) (fun _ h => by cases h.1) ?_
  clear hE
  rintro v u ⟨hv, hb⟩ a hE
  cases hv
  obtain ⟨H8, hH8, hR⟩ := hR.callE hb
  refine segV hE hR [(8, .op []), (9, .op []), (10, .op []), (11, .op []), (12, .op [])] [13, 14, 15] [(96, .bool true)] [true = true] (by kernel_rfl) (by kernel_rfl) (by kernel_rfl) ⟨rfl, trivial⟩ ?_
  clear hE hR; intro a u hE hR
  refine opsCons ?_
  refine call hE hR [] 22 #[] (some 97) [true = true] (by kernel_rfl) (by kernel_rfl) ⟨rfl, trivial⟩ (alive_calls _) (fun _ _ h => by cases h.1) (fun _ h => by cases h.1) ?_
  clear hE
  rintro v u ⟨hv, hb⟩ a hE
  cases hv
  obtain ⟨H9, hH9, hR⟩ := hR.callE hb
  refine segV hE hR [(14, .op []), (15, .op [])] [] [(8, .bool true)] [] (by kernel_rfl) (by kernel_rfl) (by kernel_rfl) trivial ?_
  clear hE hR; intro a u hE hR
  refine opsNil ?_; refine thenN ?_; refine wp_ret ?_
  refine retF hE hR [] (.bool true) (by kernel_rfl) (by kernel_rfl) (by kernel_rfl) ?_
  exact ⟨rfl, hR.below (by simp)⟩
end Go.Proofs.Ytkfaaeklkplhnaa
