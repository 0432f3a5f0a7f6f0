/- (spec.Item).done: what a call of a plain kind does to an item, leaf by leaf. Printed by gen_done.py. -/
import Derived.Test.YtkfaaeklkplhnaaSState
namespace Go.Proofs.Ytkfaaeklkplhnaa
open Go.RowKit

set_option maxRecDepth 100000 in
theorem done_read (o : Ob) (v : Vl) (ck co : Int) (cv : Vl) (cn : Int) (A : Option Addr) (n c : Nat) (w : World) (hkk : kindP o = 2)  :
    Calls Try.prog 50 #[itA o (.slice A n c) v, .int .i64 4, callA ck co cv cn] w fun e W' => e = .returned (.tuple #[itA o (.slice A n c) v, resA 0 v, .bool false, .bool true]) ∧ Below w.heap.size w W' := by
  have HK := fun W => kind_calls o A (n) (c) v W
  rw [hkk] at HK
  let kv1 : Value := .agg #[.int .i64 o.kind, .int .i64 o.cap, .int .i64 o.width, .int .i64 o.retry, .int .i64 o.src, .int .i64 o.dst, .int .u32 o.i0, .int .u32 o.i1, .int .u32 o.i2, .int .u32 o.i3, .slice A n c, .int .u32 v.a, .int .u32 v.b, .int .u32 v.c, .int .u32 v.d]
  let kv2 : Value := .agg #[.int .i64 ck, .int .i64 co, .int .u32 cv.a, .int .u32 cv.b, .int .u32 cv.c, .int .u32 cv.d, .int .u32 cn]
  refine enterF Try.func50 rfl Try.ntmps50 [(0, kv1), (1, .int .i64 4), (2, kv2)] (by kernel_rfl) (by kernel_rfl) ?_
  have hR := Rep.start w
  obtain ⟨H0, hH0⟩ : ∃ x, x = w.heap.size := ⟨_, rfl⟩
  rw [← hH0] at hR
  intro a hE
  refine wp_seq ?_
  refine enterR (idx := [0, 1, 2, 3, 4, 5]) (by kernel_rfl) ?_
  let kc3 : List Value := [.int .i64 0, .int .u32 0, .int .u32 0, .int .u32 0, .int .u32 0]
  let kc4 : List Value := [.int .i64 0, .int .i64 0, .int .i64 0, .int .i64 0, .int .i64 0, .int .i64 0, .int .u32 0, .int .u32 0, .int .u32 0, .int .u32 0, .slice none 0 0, .int .u32 0, .int .u32 0, .int .u32 0, .int .u32 0]
  let kc5 : List Value := [.int .i64 ck, .int .i64 co, .int .u32 cv.a, .int .u32 cv.b, .int .u32 cv.c, .int .u32 cv.d, .int .u32 cn]
  let kc6 : List Value := [.int .i64 o.kind, .int .i64 o.cap, .int .i64 o.width, .int .i64 o.retry, .int .i64 o.src, .int .i64 o.dst, .int .u32 o.i0, .int .u32 o.i1, .int .u32 o.i2, .int .u32 o.i3, .slice A n c, .int .u32 v.a, .int .u32 v.b, .int .u32 v.c, .int .u32 v.d]
  refine segU hE hR [(0, .op []), (1, .op []), (2, .op []), (3, .op []), (4, .op []), (5, .op [])] [] [(3, .pointer (some ⟨H0, 0, none⟩)), (5, .pointer (some ⟨H0 + 1, 0, none⟩)), (6, .pointer (some ⟨H0 + 2, 0, none⟩)), (7, .pointer (some ⟨H0 + 3, 0, none⟩)), (8, .bool false), (9, .bool false)] [⟨H0 + 3, 0, kc3, 63, true⟩, ⟨H0 + 2, 0, kc4, 116, true⟩, ⟨H0 + 1, 0, kc5, 60, true⟩, ⟨H0, 0, kc6, 116, true⟩] (H0 + 4) [] (by kernel_rfl) (by kernel_rfl) (by kernel_rfl) trivial ?_
  clear hE hR; intro a u hE hR
  refine opsNil ?_; refine thenN ?_; refine wp_seq ?_
  refine enterR (idx := [0, 1]) (by kernel_rfl) ?_
  refine segV hE hR [(0, .op []), (1, .op [])] [] [(10, .func (.func 74) #[] #[.pointer (some ⟨H0, 0, none⟩)])] [] (by kernel_rfl) (by kernel_rfl) (by kernel_rfl) trivial ?_
  clear hE hR; intro a u hE hR
  refine opsNil ?_; refine thenN ?_; refine wp_seq ?_; refine wp_seq ?_
  refine enterR (idx := [0, 1, 2, 3]) (by kernel_rfl) ?_
  refine segV hE hR [(0, .op []), (1, .op (hks 3 0 15))] [2, 3] [(12, .int .i64 4), (13, kv1)] [] (by kernel_rfl) (by kernel_rfl) (by kernel_rfl) trivial ?_
  clear hE hR; intro a u hE hR
  refine opsCons ?_
  refine call hE hR [] 45 #[kv1] (some 14) [] (by kernel_rfl) (by kernel_rfl) trivial (HK _) (fun _ _ h => by cases h.1) (fun _ h => by cases h.1) ?_
  clear hE
  rintro v u ⟨hv, hb⟩ a hE
  cases hv
  obtain ⟨H1, hH1, hR⟩ := hR.callE hb
  refine segV hE hR [(3, .op [])] [] [(15, .agg #[.int .i64 4, .int .i64 2])] [] (by kernel_rfl) (by kernel_rfl) (by kernel_rfl) trivial ?_
  clear hE hR; intro a u hE hR
  refine opsNil ?_; refine thenN ?_; refine wp_block ?_; refine wp_seq ?_; refine wp_block ?_; refine wp_seq ?_; refine wp_block ?_; refine wp_seq ?_; refine wp_block ?_; refine wp_seq ?_
  refine wp_block ?_; refine wp_seq ?_; refine wp_block ?_; refine wp_seq ?_; refine wp_block ?_; refine wp_seq ?_; refine wp_block ?_; refine wp_seq ?_; refine wp_block ?_; refine wp_seq ?_
  refine wp_block ?_; refine wp_seq ?_; refine wp_seq ?_; refine wp_seq ?_
  refine enterR (idx := [0, 1, 2]) (by kernel_rfl) ?_
  refine segV hE hR [(0, .op []), (1, .op []), (2, .op [])] [] [(16, .bool false)] [] (by kernel_rfl) (by kernel_rfl) (by kernel_rfl) trivial ?_
  clear hE hR; intro a u hE hR
  refine opsNil ?_; refine thenN ?_
  refine condF hE (b := false) (by kernel_rfl) rfl ?_
  refine wp_skip ?_; refine thenN ?_; refine wp_seq ?_; refine wp_seq ?_
  refine enterR (idx := [0, 1, 2]) (by kernel_rfl) ?_
  refine segV hE hR [(0, .op []), (1, .op []), (2, .op [])] [] [(19, .bool false)] [] (by kernel_rfl) (by kernel_rfl) (by kernel_rfl) trivial ?_
  clear hE hR; intro a u hE hR
  refine opsNil ?_; refine thenN ?_
  refine condF hE (b := false) (by kernel_rfl) rfl ?_
  refine wp_skip ?_; refine thenN ?_; refine wp_seq ?_; refine wp_seq ?_; refine wp_seq ?_
  refine enterR (idx := [0, 1, 2]) (by kernel_rfl) ?_
  refine segV hE hR [(0, .op []), (1, .op []), (2, .op [])] [] [(22, .bool false)] [] (by kernel_rfl) (by kernel_rfl) (by kernel_rfl) trivial ?_
  clear hE hR; intro a u hE hR
  refine opsNil ?_; refine thenN ?_
  refine condF hE (b := false) (by kernel_rfl) rfl ?_
  refine enterR (idx := [0, 1, 2]) (by kernel_rfl) ?_
  refine seg0 hE hR [(0, .op []), (1, .op []), (2, .op [])] [] [(3, .pointer (some ⟨H0, 0, none⟩)), (5, .pointer (some ⟨H0 + 1, 0, none⟩)), (6, .pointer (some ⟨H0 + 2, 0, none⟩)), (7, .pointer (some ⟨H0 + 3, 0, none⟩)), (8, .bool false), (9, .bool false), (10, .func (.func 74) #[] #[.pointer (some ⟨H0, 0, none⟩)]), (15, .agg #[.int .i64 4, .int .i64 2]), (16, .bool false), (19, .bool false), (22, .bool false)] [] (by kernel_rfl) (by kernel_rfl) (by kernel_rfl) trivial ?_
  clear hE hR; intro a u hE hR
  refine opsNil ?_; refine thenN ?_
  refine condF hE (b := false) (by kernel_rfl) rfl ?_
  refine wp_skip ?_; refine thenN ?_; refine wp_seq ?_; refine wp_seq ?_; refine wp_seq ?_
  refine enterR (idx := [0, 1, 2]) (by kernel_rfl) ?_
  refine segV hE hR [(0, .op []), (1, .op []), (2, .op [])] [] [(27, .bool true)] [] (by kernel_rfl) (by kernel_rfl) (by kernel_rfl) trivial ?_
  clear hE hR; intro a u hE hR
  refine opsNil ?_; refine thenN ?_
  refine condT hE (b := true) (by kernel_rfl) rfl ?_
  refine wp_skip ?_; refine thenN ?_
  refine condT hE (b := true) (by kernel_rfl) rfl ?_
  refine wp_exit ?_; refine thenE ?_; refine thenE ?_; refine blkX (by kernel_rfl) ?_; refine thenE ?_; refine blkX (by kernel_rfl) ?_; refine thenE ?_; refine blkX (by kernel_rfl) ?_
  refine thenE ?_; refine blkE ?_; refine thenN ?_; refine wp_seq ?_
  let kc7 : List Value := [.int .i64 0, .int .u32 v.a, .int .u32 v.b, .int .u32 v.c, .int .u32 v.d]
  refine seqJ (fun a u => TE a 179 [(3, .pointer (some ⟨H0, 0, none⟩)), (5, .pointer (some ⟨H0 + 1, 0, none⟩)), (6, .pointer (some ⟨H0 + 2, 0, none⟩)), (7, .pointer (some ⟨H0 + 3, 0, none⟩)), (8, .bool false), (9, .bool true), (10, .func (.func 74) #[] #[.pointer (some ⟨H0, 0, none⟩)]), (15, .agg #[.int .i64 4, .int .i64 2]), (16, .bool false), (19, .bool false), (22, .bool false), (27, .bool true)] ∧ ∃ H, Rep [(w, fun _ => True)] u H [⟨H0 + 3, 0, kc7, 63, true⟩, ⟨H0 + 2, 0, kc6, 116, true⟩, ⟨H0 + 1, 0, kc5, 60, true⟩, ⟨H0, 0, kc6, 116, true⟩] []) ?_ ?_
  · show Code.wp _ _ _ _ _
    refine enterD (kl := [⟨H0 + 1, 0, kc5, 60, true⟩, ⟨H0, 0, kc6, 116, true⟩]) (by kernel_rfl) hR (F := 8) (listed := #[false, false, false, false, false, false, false, false]) (by kernel_rfl) (by kernel_rfl) ?_
    clear hR
    intro u hR
    let kv8 : Value := .agg #[.int .i64 0, .int .u32 v.a, .int .u32 v.b, .int .u32 v.c, .int .u32 v.d]
    refine takesU (by kernel_rfl) (pqT (pqT (pqB (pqT (pqB (pqT (pqB (pqT (pqB (pqT (pqB (pqT (pqB (pqT pqF)))))))))))))) hE (hR.ss [2, 3] (by kernel_rfl)) [(0, .op (hks 1 0 15)), (1, .op []), (2, .op (hks 1 11 4)), (3, .op [])] 4 [(113, kv1), (116, kv8)] #[true, true, true, true, false, false, false, false] [] (by kernel_rfl) (by kernel_rfl) (by kernel_rfl) trivial ?_
    clear hE; intro a hE
    refine wpAnyH_all (rs := [4]) (by kernel_rfl) (by simp) (allCons ?_ allNil)
    refine oneU hE hR (.op (hks 1 0 15)) [] [⟨H0 + 3, 0, kc3, 63, true⟩, ⟨H0 + 2, 0, kc6, 116, true⟩, ⟨H0 + 1, 0, kc5, 60, true⟩, ⟨H0, 0, kc6, 116, true⟩] (H1) [] (by kernel_rfl) (by kernel_rfl) trivial ?_
    clear hE hR; intro a u hE hR
    refine ⟨(hR.ss [2, 3] (by kernel_rfl)), ?_⟩
    show wpAnyH _ _ _ _ _ _ #[true, true, true, true, true, false, false, false] _ _
    refine wpAnyH_all (rs := [5]) (by kernel_rfl) (by simp) (allCons ?_ allNil)
    refine oneU hE hR (.op (hks 0 0 5)) [] [⟨H0 + 3, 0, kc7, 63, true⟩, ⟨H0 + 2, 0, kc6, 116, true⟩, ⟨H0 + 1, 0, kc5, 60, true⟩, ⟨H0, 0, kc6, 116, true⟩] (H1) [] (by kernel_rfl) (by kernel_rfl) trivial ?_
    clear hE hR; intro a u hE hR
    refine ⟨(hR.ss [2, 3] (by kernel_rfl)), ?_⟩
    show wpAnyH _ _ _ _ _ _ #[true, true, true, true, true, true, false, false] _ _
    refine takesU (by kernel_rfl) (pqT (pqT (pqB (pqT (pqB (pqT (pqB (pqT (pqB (pqT (pqB (pqT (pqB (pqT pqF)))))))))))))) hE (hR.ss [2, 3] (by kernel_rfl)) [(6, .op []), (7, .op [])] 0 [(9, .bool true)] #[true, true, true, true, true, true, true, true] [] (by kernel_rfl) (by kernel_rfl) (by kernel_rfl) trivial ?_
    clear hE; intro a hE
    refine wpAnyH_done (by kernel_rfl) ?_ _
    refine thenN ?_
    exact ⟨hE.sub (by kernel_rfl), _, hR⟩
  clear hE hR
  rintro a u ⟨hE, J1, hR⟩
  refine wp_ret ?_; refine thenR ?_; refine blkR ?_; refine thenR ?_; refine blkR ?_; refine thenR ?_; refine blkR ?_; refine thenR ?_; refine blkR ?_; refine thenR ?_; refine blkR ?_
  refine thenR ?_; refine blkR ?_; refine thenR ?_
  refine retF hE hR (hks 1 0 15 ++ hks 0 0 5) (.tuple #[.agg #[.int .i64 o.kind, .int .i64 o.cap, .int .i64 o.width, .int .i64 o.retry, .int .i64 o.src, .int .i64 o.dst, .int .u32 o.i0, .int .u32 o.i1, .int .u32 o.i2, .int .u32 o.i3, .slice A n c, .int .u32 v.a, .int .u32 v.b, .int .u32 v.c, .int .u32 v.d], .agg #[.int .i64 0, .int .u32 v.a, .int .u32 v.b, .int .u32 v.c, .int .u32 v.d], .bool false, .bool true]) (by kernel_rfl) (by kernel_rfl) (by kernel_rfl) ?_
  exact ⟨rfl, hR.below (by simp)⟩
set_option maxRecDepth 100000 in
theorem done_try (o : Ob) (v : Vl) (ck co : Int) (cv : Vl) (cn : Int) (A : Option Addr) (n c : Nat) (w : World) (hkk : kindP o = 3)  :
    Calls Try.prog 50 #[itA o (.slice A n c) v, .int .i64 5, callA ck co cv cn] w fun e W' => e = .returned (.tuple #[itA o (.slice A n c) v, resA 0 v, .bool false, .bool true]) ∧ Below w.heap.size w W' := by
  have HK := fun W => kind_calls o A (n) (c) v W
  rw [hkk] at HK
  let kv1 : Value := .agg #[.int .i64 o.kind, .int .i64 o.cap, .int .i64 o.width, .int .i64 o.retry, .int .i64 o.src, .int .i64 o.dst, .int .u32 o.i0, .int .u32 o.i1, .int .u32 o.i2, .int .u32 o.i3, .slice A n c, .int .u32 v.a, .int .u32 v.b, .int .u32 v.c, .int .u32 v.d]
  let kv2 : Value := .agg #[.int .i64 ck, .int .i64 co, .int .u32 cv.a, .int .u32 cv.b, .int .u32 cv.c, .int .u32 cv.d, .int .u32 cn]
  refine enterF Try.func50 rfl Try.ntmps50 [(0, kv1), (1, .int .i64 5), (2, kv2)] (by kernel_rfl) (by kernel_rfl) ?_
  have hR := Rep.start w
  obtain ⟨H0, hH0⟩ : ∃ x, x = w.heap.size := ⟨_, rfl⟩
  rw [← hH0] at hR
  intro a hE
  refine wp_seq ?_
  refine enterR (idx := [0, 1, 2, 3, 4, 5]) (by kernel_rfl) ?_
  let kc3 : List Value := [.int .i64 0, .int .u32 0, .int .u32 0, .int .u32 0, .int .u32 0]
  let kc4 : List Value := [.int .i64 0, .int .i64 0, .int .i64 0, .int .i64 0, .int .i64 0, .int .i64 0, .int .u32 0, .int .u32 0, .int .u32 0, .int .u32 0, .slice none 0 0, .int .u32 0, .int .u32 0, .int .u32 0, .int .u32 0]
  let kc5 : List Value := [.int .i64 ck, .int .i64 co, .int .u32 cv.a, .int .u32 cv.b, .int .u32 cv.c, .int .u32 cv.d, .int .u32 cn]
  let kc6 : List Value := [.int .i64 o.kind, .int .i64 o.cap, .int .i64 o.width, .int .i64 o.retry, .int .i64 o.src, .int .i64 o.dst, .int .u32 o.i0, .int .u32 o.i1, .int .u32 o.i2, .int .u32 o.i3, .slice A n c, .int .u32 v.a, .int .u32 v.b, .int .u32 v.c, .int .u32 v.d]
  refine segU hE hR [(0, .op []), (1, .op []), (2, .op []), (3, .op []), (4, .op []), (5, .op [])] [] [(3, .pointer (some ⟨H0, 0, none⟩)), (5, .pointer (some ⟨H0 + 1, 0, none⟩)), (6, .pointer (some ⟨H0 + 2, 0, none⟩)), (7, .pointer (some ⟨H0 + 3, 0, none⟩)), (8, .bool false), (9, .bool false)] [⟨H0 + 3, 0, kc3, 63, true⟩, ⟨H0 + 2, 0, kc4, 116, true⟩, ⟨H0 + 1, 0, kc5, 60, true⟩, ⟨H0, 0, kc6, 116, true⟩] (H0 + 4) [] (by kernel_rfl) (by kernel_rfl) (by kernel_rfl) trivial ?_
  clear hE hR; intro a u hE hR
  refine opsNil ?_; refine thenN ?_; refine wp_seq ?_
  refine enterR (idx := [0, 1]) (by kernel_rfl) ?_
  refine segV hE hR [(0, .op []), (1, .op [])] [] [(10, .func (.func 74) #[] #[.pointer (some ⟨H0, 0, none⟩)])] [] (by kernel_rfl) (by kernel_rfl) (by kernel_rfl) trivial ?_
  clear hE hR; intro a u hE hR
  refine opsNil ?_; refine thenN ?_; refine wp_seq ?_; refine wp_seq ?_
  refine enterR (idx := [0, 1, 2, 3]) (by kernel_rfl) ?_
  refine segV hE hR [(0, .op []), (1, .op (hks 3 0 15))] [2, 3] [(12, .int .i64 5), (13, kv1)] [] (by kernel_rfl) (by kernel_rfl) (by kernel_rfl) trivial ?_
  clear hE hR; intro a u hE hR
  refine opsCons ?_
  refine call hE hR [] 45 #[kv1] (some 14) [] (by kernel_rfl) (by kernel_rfl) trivial (HK _) (fun _ _ h => by cases h.1) (fun _ h => by cases h.1) ?_
  clear hE
  rintro v u ⟨hv, hb⟩ a hE
  cases hv
  obtain ⟨H1, hH1, hR⟩ := hR.callE hb
  refine segV hE hR [(3, .op [])] [] [(15, .agg #[.int .i64 5, .int .i64 3])] [] (by kernel_rfl) (by kernel_rfl) (by kernel_rfl) trivial ?_
  clear hE hR; intro a u hE hR
  refine opsNil ?_; refine thenN ?_; refine wp_block ?_; refine wp_seq ?_; refine wp_block ?_; refine wp_seq ?_; refine wp_block ?_; refine wp_seq ?_; refine wp_block ?_; refine wp_seq ?_
  refine wp_block ?_; refine wp_seq ?_; refine wp_block ?_; refine wp_seq ?_; refine wp_block ?_; refine wp_seq ?_; refine wp_block ?_; refine wp_seq ?_; refine wp_block ?_; refine wp_seq ?_
  refine wp_block ?_; refine wp_seq ?_; refine wp_seq ?_; refine wp_seq ?_
  refine enterR (idx := [0, 1, 2]) (by kernel_rfl) ?_
  refine segV hE hR [(0, .op []), (1, .op []), (2, .op [])] [] [(16, .bool false)] [] (by kernel_rfl) (by kernel_rfl) (by kernel_rfl) trivial ?_
  clear hE hR; intro a u hE hR
  refine opsNil ?_; refine thenN ?_
  refine condF hE (b := false) (by kernel_rfl) rfl ?_
  refine wp_skip ?_; refine thenN ?_; refine wp_seq ?_; refine wp_seq ?_
  refine enterR (idx := [0, 1, 2]) (by kernel_rfl) ?_
  refine segV hE hR [(0, .op []), (1, .op []), (2, .op [])] [] [(19, .bool false)] [] (by kernel_rfl) (by kernel_rfl) (by kernel_rfl) trivial ?_
  clear hE hR; intro a u hE hR
  refine opsNil ?_; refine thenN ?_
  refine condF hE (b := false) (by kernel_rfl) rfl ?_
  refine wp_skip ?_; refine thenN ?_; refine wp_seq ?_; refine wp_seq ?_; refine wp_seq ?_
  refine enterR (idx := [0, 1, 2]) (by kernel_rfl) ?_
  refine segV hE hR [(0, .op []), (1, .op []), (2, .op [])] [] [(22, .bool false)] [] (by kernel_rfl) (by kernel_rfl) (by kernel_rfl) trivial ?_
  clear hE hR; intro a u hE hR
  refine opsNil ?_; refine thenN ?_
  refine condF hE (b := false) (by kernel_rfl) rfl ?_
  refine enterR (idx := [0, 1, 2]) (by kernel_rfl) ?_
  refine seg0 hE hR [(0, .op []), (1, .op []), (2, .op [])] [] [(3, .pointer (some ⟨H0, 0, none⟩)), (5, .pointer (some ⟨H0 + 1, 0, none⟩)), (6, .pointer (some ⟨H0 + 2, 0, none⟩)), (7, .pointer (some ⟨H0 + 3, 0, none⟩)), (8, .bool false), (9, .bool false), (10, .func (.func 74) #[] #[.pointer (some ⟨H0, 0, none⟩)]), (15, .agg #[.int .i64 5, .int .i64 3]), (16, .bool false), (19, .bool false), (22, .bool false)] [] (by kernel_rfl) (by kernel_rfl) (by kernel_rfl) trivial ?_
  clear hE hR; intro a u hE hR
  refine opsNil ?_; refine thenN ?_
  refine condF hE (b := false) (by kernel_rfl) rfl ?_
  refine wp_skip ?_; refine thenN ?_; refine wp_seq ?_; refine wp_seq ?_; refine wp_seq ?_
  refine enterR (idx := [0, 1, 2]) (by kernel_rfl) ?_
  refine segV hE hR [(0, .op []), (1, .op []), (2, .op [])] [] [(27, .bool false)] [] (by kernel_rfl) (by kernel_rfl) (by kernel_rfl) trivial ?_
  clear hE hR; intro a u hE hR
  refine opsNil ?_; refine thenN ?_
  refine condF hE (b := false) (by kernel_rfl) rfl ?_
  refine wp_seq ?_
  refine enterR (idx := [0, 1, 2]) (by kernel_rfl) ?_
  refine segV hE hR [(0, .op []), (1, .op []), (2, .op [])] [] [(27, .bool true)] [] (by kernel_rfl) (by kernel_rfl) (by kernel_rfl) trivial ?_
  clear hE hR; intro a u hE hR
  refine opsNil ?_; refine thenN ?_
  refine condT hE (b := true) (by kernel_rfl) rfl ?_
  refine wp_skip ?_; refine thenN ?_
  refine condT hE (b := true) (by kernel_rfl) rfl ?_
  refine wp_exit ?_; refine thenE ?_; refine thenE ?_; refine blkX (by kernel_rfl) ?_; refine thenE ?_; refine blkX (by kernel_rfl) ?_; refine thenE ?_; refine blkX (by kernel_rfl) ?_
  refine thenE ?_; refine blkE ?_; refine thenN ?_; refine wp_seq ?_
  let kc7 : List Value := [.int .i64 0, .int .u32 v.a, .int .u32 v.b, .int .u32 v.c, .int .u32 v.d]
  refine seqJ (fun a u => TE a 179 [(3, .pointer (some ⟨H0, 0, none⟩)), (5, .pointer (some ⟨H0 + 1, 0, none⟩)), (6, .pointer (some ⟨H0 + 2, 0, none⟩)), (7, .pointer (some ⟨H0 + 3, 0, none⟩)), (8, .bool false), (9, .bool true), (10, .func (.func 74) #[] #[.pointer (some ⟨H0, 0, none⟩)]), (15, .agg #[.int .i64 5, .int .i64 3]), (16, .bool false), (19, .bool false), (22, .bool false), (27, .bool true)] ∧ ∃ H, Rep [(w, fun _ => True)] u H [⟨H0 + 3, 0, kc7, 63, true⟩, ⟨H0 + 2, 0, kc6, 116, true⟩, ⟨H0 + 1, 0, kc5, 60, true⟩, ⟨H0, 0, kc6, 116, true⟩] []) ?_ ?_
  · show Code.wp _ _ _ _ _
    refine enterD (kl := [⟨H0 + 1, 0, kc5, 60, true⟩, ⟨H0, 0, kc6, 116, true⟩]) (by kernel_rfl) hR (F := 8) (listed := #[false, false, false, false, false, false, false, false]) (by kernel_rfl) (by kernel_rfl) ?_
    clear hR
    intro u hR
    let kv8 : Value := .agg #[.int .i64 0, .int .u32 v.a, .int .u32 v.b, .int .u32 v.c, .int .u32 v.d]
    refine takesU (by kernel_rfl) (pqT (pqT (pqB (pqT (pqB (pqT (pqB (pqT (pqB (pqT (pqB (pqT (pqB (pqT pqF)))))))))))))) hE (hR.ss [2, 3] (by kernel_rfl)) [(0, .op (hks 1 0 15)), (1, .op []), (2, .op (hks 1 11 4)), (3, .op [])] 4 [(113, kv1), (116, kv8)] #[true, true, true, true, false, false, false, false] [] (by kernel_rfl) (by kernel_rfl) (by kernel_rfl) trivial ?_
    clear hE; intro a hE
    refine wpAnyH_all (rs := [4]) (by kernel_rfl) (by simp) (allCons ?_ allNil)
    refine oneU hE hR (.op (hks 1 0 15)) [] [⟨H0 + 3, 0, kc3, 63, true⟩, ⟨H0 + 2, 0, kc6, 116, true⟩, ⟨H0 + 1, 0, kc5, 60, true⟩, ⟨H0, 0, kc6, 116, true⟩] (H1) [] (by kernel_rfl) (by kernel_rfl) trivial ?_
    clear hE hR; intro a u hE hR
    refine ⟨(hR.ss [2, 3] (by kernel_rfl)), ?_⟩
    show wpAnyH _ _ _ _ _ _ #[true, true, true, true, true, false, false, false] _ _
    refine wpAnyH_all (rs := [5]) (by kernel_rfl) (by simp) (allCons ?_ allNil)
    refine oneU hE hR (.op (hks 0 0 5)) [] [⟨H0 + 3, 0, kc7, 63, true⟩, ⟨H0 + 2, 0, kc6, 116, true⟩, ⟨H0 + 1, 0, kc5, 60, true⟩, ⟨H0, 0, kc6, 116, true⟩] (H1) [] (by kernel_rfl) (by kernel_rfl) trivial ?_
    clear hE hR; intro a u hE hR
    refine ⟨(hR.ss [2, 3] (by kernel_rfl)), ?_⟩
    show wpAnyH _ _ _ _ _ _ #[true, true, true, true, true, true, false, false] _ _
    refine takesU (by kernel_rfl) (pqT (pqT (pqB (pqT (pqB (pqT (pqB (pqT (pqB (pqT (pqB (pqT (pqB (pqT pqF)))))))))))))) hE (hR.ss [2, 3] (by kernel_rfl)) [(6, .op []), (7, .op [])] 0 [(9, .bool true)] #[true, true, true, true, true, true, true, true] [] (by kernel_rfl) (by kernel_rfl) (by kernel_rfl) trivial ?_
    clear hE; intro a hE
    refine wpAnyH_done (by kernel_rfl) ?_ _
    refine thenN ?_
    exact ⟨hE.sub (by kernel_rfl), _, hR⟩
  clear hE hR
  rintro a u ⟨hE, J1, hR⟩
  refine wp_ret ?_; refine thenR ?_; refine blkR ?_; refine thenR ?_; refine blkR ?_; refine thenR ?_; refine blkR ?_; refine thenR ?_; refine blkR ?_; refine thenR ?_; refine blkR ?_
  refine thenR ?_; refine blkR ?_; refine thenR ?_
  refine retF hE hR (hks 1 0 15 ++ hks 0 0 5) (.tuple #[.agg #[.int .i64 o.kind, .int .i64 o.cap, .int .i64 o.width, .int .i64 o.retry, .int .i64 o.src, .int .i64 o.dst, .int .u32 o.i0, .int .u32 o.i1, .int .u32 o.i2, .int .u32 o.i3, .slice A n c, .int .u32 v.a, .int .u32 v.b, .int .u32 v.c, .int .u32 v.d], .agg #[.int .i64 0, .int .u32 v.a, .int .u32 v.b, .int .u32 v.c, .int .u32 v.d], .bool false, .bool true]) (by kernel_rfl) (by kernel_rfl) (by kernel_rfl) ?_
  exact ⟨rfl, hR.below (by simp)⟩
set_option maxRecDepth 100000 in
theorem done_again (o : Ob) (v : Vl) (ck co : Int) (cv : Vl) (cn : Int) (A : Option Addr) (n c : Nat) (w : World) (hkk : kindP o = 3)  :
    Calls Try.prog 50 #[itA o (.slice A n c) v, .int .i64 6, callA ck co cv cn] w fun e W' => e = .returned (.tuple #[itA o (.slice A n c) v, resA 0 v, .bool false, .bool true]) ∧ Below w.heap.size w W' := by
  have HK := fun W => kind_calls o A (n) (c) v W
  rw [hkk] at HK
  let kv1 : Value := .agg #[.int .i64 o.kind, .int .i64 o.cap, .int .i64 o.width, .int .i64 o.retry, .int .i64 o.src, .int .i64 o.dst, .int .u32 o.i0, .int .u32 o.i1, .int .u32 o.i2, .int .u32 o.i3, .slice A n c, .int .u32 v.a, .int .u32 v.b, .int .u32 v.c, .int .u32 v.d]
  let kv2 : Value := .agg #[.int .i64 ck, .int .i64 co, .int .u32 cv.a, .int .u32 cv.b, .int .u32 cv.c, .int .u32 cv.d, .int .u32 cn]
  refine enterF Try.func50 rfl Try.ntmps50 [(0, kv1), (1, .int .i64 6), (2, kv2)] (by kernel_rfl) (by kernel_rfl) ?_
  have hR := Rep.start w
  obtain ⟨H0, hH0⟩ : ∃ x, x = w.heap.size := ⟨_, rfl⟩
  rw [← hH0] at hR
  intro a hE
  refine wp_seq ?_
  refine enterR (idx := [0, 1, 2, 3, 4, 5]) (by kernel_rfl) ?_
  let kc3 : List Value := [.int .i64 0, .int .u32 0, .int .u32 0, .int .u32 0, .int .u32 0]
  let kc4 : List Value := [.int .i64 0, .int .i64 0, .int .i64 0, .int .i64 0, .int .i64 0, .int .i64 0, .int .u32 0, .int .u32 0, .int .u32 0, .int .u32 0, .slice none 0 0, .int .u32 0, .int .u32 0, .int .u32 0, .int .u32 0]
  let kc5 : List Value := [.int .i64 ck, .int .i64 co, .int .u32 cv.a, .int .u32 cv.b, .int .u32 cv.c, .int .u32 cv.d, .int .u32 cn]
  let kc6 : List Value := [.int .i64 o.kind, .int .i64 o.cap, .int .i64 o.width, .int .i64 o.retry, .int .i64 o.src, .int .i64 o.dst, .int .u32 o.i0, .int .u32 o.i1, .int .u32 o.i2, .int .u32 o.i3, .slice A n c, .int .u32 v.a, .int .u32 v.b, .int .u32 v.c, .int .u32 v.d]
  refine segU hE hR [(0, .op []), (1, .op []), (2, .op []), (3, .op []), (4, .op []), (5, .op [])] [] [(3, .pointer (some ⟨H0, 0, none⟩)), (5, .pointer (some ⟨H0 + 1, 0, none⟩)), (6, .pointer (some ⟨H0 + 2, 0, none⟩)), (7, .pointer (some ⟨H0 + 3, 0, none⟩)), (8, .bool false), (9, .bool false)] [⟨H0 + 3, 0, kc3, 63, true⟩, ⟨H0 + 2, 0, kc4, 116, true⟩, ⟨H0 + 1, 0, kc5, 60, true⟩, ⟨H0, 0, kc6, 116, true⟩] (H0 + 4) [] (by kernel_rfl) (by kernel_rfl) (by kernel_rfl) trivial ?_
  clear hE hR; intro a u hE hR
  refine opsNil ?_; refine thenN ?_; refine wp_seq ?_
  refine enterR (idx := [0, 1]) (by kernel_rfl) ?_
  refine segV hE hR [(0, .op []), (1, .op [])] [] [(10, .func (.func 74) #[] #[.pointer (some ⟨H0, 0, none⟩)])] [] (by kernel_rfl) (by kernel_rfl) (by kernel_rfl) trivial ?_
  clear hE hR; intro a u hE hR
  refine opsNil ?_; refine thenN ?_; refine wp_seq ?_; refine wp_seq ?_
  refine enterR (idx := [0, 1, 2, 3]) (by kernel_rfl) ?_
  refine segV hE hR [(0, .op []), (1, .op (hks 3 0 15))] [2, 3] [(12, .int .i64 6), (13, kv1)] [] (by kernel_rfl) (by kernel_rfl) (by kernel_rfl) trivial ?_
  clear hE hR; intro a u hE hR
  refine opsCons ?_
  refine call hE hR [] 45 #[kv1] (some 14) [] (by kernel_rfl) (by kernel_rfl) trivial (HK _) (fun _ _ h => by cases h.1) (fun _ h => by cases h.1) ?_
  clear hE
  rintro v u ⟨hv, hb⟩ a hE
  cases hv
  obtain ⟨H1, hH1, hR⟩ := hR.callE hb
  refine segV hE hR [(3, .op [])] [] [(15, .agg #[.int .i64 6, .int .i64 3])] [] (by kernel_rfl) (by kernel_rfl) (by kernel_rfl) trivial ?_
  clear hE hR; intro a u hE hR
  refine opsNil ?_; refine thenN ?_; refine wp_block ?_; refine wp_seq ?_; refine wp_block ?_; refine wp_seq ?_; refine wp_block ?_; refine wp_seq ?_; refine wp_block ?_; refine wp_seq ?_
  refine wp_block ?_; refine wp_seq ?_; refine wp_block ?_; refine wp_seq ?_; refine wp_block ?_; refine wp_seq ?_; refine wp_block ?_; refine wp_seq ?_; refine wp_block ?_; refine wp_seq ?_
  refine wp_block ?_; refine wp_seq ?_; refine wp_seq ?_; refine wp_seq ?_
  refine enterR (idx := [0, 1, 2]) (by kernel_rfl) ?_
  refine segV hE hR [(0, .op []), (1, .op []), (2, .op [])] [] [(16, .bool false)] [] (by kernel_rfl) (by kernel_rfl) (by kernel_rfl) trivial ?_
  clear hE hR; intro a u hE hR
  refine opsNil ?_; refine thenN ?_
  refine condF hE (b := false) (by kernel_rfl) rfl ?_
  refine wp_skip ?_; refine thenN ?_; refine wp_seq ?_; refine wp_seq ?_
  refine enterR (idx := [0, 1, 2]) (by kernel_rfl) ?_
  refine segV hE hR [(0, .op []), (1, .op []), (2, .op [])] [] [(19, .bool false)] [] (by kernel_rfl) (by kernel_rfl) (by kernel_rfl) trivial ?_
  clear hE hR; intro a u hE hR
  refine opsNil ?_; refine thenN ?_
  refine condF hE (b := false) (by kernel_rfl) rfl ?_
  refine wp_skip ?_; refine thenN ?_; refine wp_seq ?_; refine wp_seq ?_; refine wp_seq ?_
  refine enterR (idx := [0, 1, 2]) (by kernel_rfl) ?_
  refine segV hE hR [(0, .op []), (1, .op []), (2, .op [])] [] [(22, .bool false)] [] (by kernel_rfl) (by kernel_rfl) (by kernel_rfl) trivial ?_
  clear hE hR; intro a u hE hR
  refine opsNil ?_; refine thenN ?_
  refine condF hE (b := false) (by kernel_rfl) rfl ?_
  refine enterR (idx := [0, 1, 2]) (by kernel_rfl) ?_
  refine seg0 hE hR [(0, .op []), (1, .op []), (2, .op [])] [] [(3, .pointer (some ⟨H0, 0, none⟩)), (5, .pointer (some ⟨H0 + 1, 0, none⟩)), (6, .pointer (some ⟨H0 + 2, 0, none⟩)), (7, .pointer (some ⟨H0 + 3, 0, none⟩)), (8, .bool false), (9, .bool false), (10, .func (.func 74) #[] #[.pointer (some ⟨H0, 0, none⟩)]), (15, .agg #[.int .i64 6, .int .i64 3]), (16, .bool false), (19, .bool false), (22, .bool false)] [] (by kernel_rfl) (by kernel_rfl) (by kernel_rfl) trivial ?_
  clear hE hR; intro a u hE hR
  refine opsNil ?_; refine thenN ?_
  refine condF hE (b := false) (by kernel_rfl) rfl ?_
  refine wp_skip ?_; refine thenN ?_; refine wp_seq ?_; refine wp_seq ?_; refine wp_seq ?_
  refine enterR (idx := [0, 1, 2]) (by kernel_rfl) ?_
  refine segV hE hR [(0, .op []), (1, .op []), (2, .op [])] [] [(27, .bool false)] [] (by kernel_rfl) (by kernel_rfl) (by kernel_rfl) trivial ?_
  clear hE hR; intro a u hE hR
  refine opsNil ?_; refine thenN ?_
  refine condF hE (b := false) (by kernel_rfl) rfl ?_
  refine wp_seq ?_
  refine enterR (idx := [0, 1, 2]) (by kernel_rfl) ?_
  refine segV hE hR [(0, .op []), (1, .op []), (2, .op [])] [] [] [] (by kernel_rfl) (by kernel_rfl) (by kernel_rfl) trivial ?_
  clear hE hR; intro a u hE hR
  refine opsNil ?_; refine thenN ?_
  refine condF hE (b := false) (by kernel_rfl) rfl ?_
  refine enterR (idx := [0, 1, 2]) (by kernel_rfl) ?_
  refine segV hE hR [(0, .op []), (1, .op []), (2, .op [])] [] [(27, .bool true)] [] (by kernel_rfl) (by kernel_rfl) (by kernel_rfl) trivial ?_
  clear hE hR; intro a u hE hR
  refine opsNil ?_; refine thenN ?_
  refine condT hE (b := true) (by kernel_rfl) rfl ?_
  refine wp_exit ?_; refine thenE ?_; refine thenE ?_; refine blkX (by kernel_rfl) ?_; refine thenE ?_; refine blkX (by kernel_rfl) ?_; refine thenE ?_; refine blkX (by kernel_rfl) ?_
  refine thenE ?_; refine blkE ?_; refine thenN ?_; refine wp_seq ?_
  let kc7 : List Value := [.int .i64 0, .int .u32 v.a, .int .u32 v.b, .int .u32 v.c, .int .u32 v.d]
  refine seqJ (fun a u => TE a 179 [(3, .pointer (some ⟨H0, 0, none⟩)), (5, .pointer (some ⟨H0 + 1, 0, none⟩)), (6, .pointer (some ⟨H0 + 2, 0, none⟩)), (7, .pointer (some ⟨H0 + 3, 0, none⟩)), (8, .bool false), (9, .bool true), (10, .func (.func 74) #[] #[.pointer (some ⟨H0, 0, none⟩)]), (15, .agg #[.int .i64 6, .int .i64 3]), (16, .bool false), (19, .bool false), (22, .bool false), (27, .bool true)] ∧ ∃ H, Rep [(w, fun _ => True)] u H [⟨H0 + 3, 0, kc7, 63, true⟩, ⟨H0 + 2, 0, kc6, 116, true⟩, ⟨H0 + 1, 0, kc5, 60, true⟩, ⟨H0, 0, kc6, 116, true⟩] []) ?_ ?_
  · show Code.wp _ _ _ _ _
    refine enterD (kl := [⟨H0 + 1, 0, kc5, 60, true⟩, ⟨H0, 0, kc6, 116, true⟩]) (by kernel_rfl) hR (F := 8) (listed := #[false, false, false, false, false, false, false, false]) (by kernel_rfl) (by kernel_rfl) ?_
    clear hR
    intro u hR
    let kv8 : Value := .agg #[.int .i64 0, .int .u32 v.a, .int .u32 v.b, .int .u32 v.c, .int .u32 v.d]
    refine takesU (by kernel_rfl) (pqT (pqT (pqB (pqT (pqB (pqT (pqB (pqT (pqB (pqT (pqB (pqT (pqB (pqT pqF)))))))))))))) hE (hR.ss [2, 3] (by kernel_rfl)) [(0, .op (hks 1 0 15)), (1, .op []), (2, .op (hks 1 11 4)), (3, .op [])] 4 [(113, kv1), (116, kv8)] #[true, true, true, true, false, false, false, false] [] (by kernel_rfl) (by kernel_rfl) (by kernel_rfl) trivial ?_
    clear hE; intro a hE
    refine wpAnyH_all (rs := [4]) (by kernel_rfl) (by simp) (allCons ?_ allNil)
    refine oneU hE hR (.op (hks 1 0 15)) [] [⟨H0 + 3, 0, kc3, 63, true⟩, ⟨H0 + 2, 0, kc6, 116, true⟩, ⟨H0 + 1, 0, kc5, 60, true⟩, ⟨H0, 0, kc6, 116, true⟩] (H1) [] (by kernel_rfl) (by kernel_rfl) trivial ?_
    clear hE hR; intro a u hE hR
    refine ⟨(hR.ss [2, 3] (by kernel_rfl)), ?_⟩
    show wpAnyH _ _ _ _ _ _ #[true, true, true, true, true, false, false, false] _ _
    refine wpAnyH_all (rs := [5]) (by kernel_rfl) (by simp) (allCons ?_ allNil)
    refine oneU hE hR (.op (hks 0 0 5)) [] [⟨H0 + 3, 0, kc7, 63, true⟩, ⟨H0 + 2, 0, kc6, 116, true⟩, ⟨H0 + 1, 0, kc5, 60, true⟩, ⟨H0, 0, kc6, 116, true⟩] (H1) [] (by kernel_rfl) (by kernel_rfl) trivial ?_
    clear hE hR; intro a u hE hR
    refine ⟨(hR.ss [2, 3] (by kernel_rfl)), ?_⟩
    show wpAnyH _ _ _ _ _ _ #[true, true, true, true, true, true, false, false] _ _
    refine takesU (by kernel_rfl) (pqT (pqT (pqB (pqT (pqB (pqT (pqB (pqT (pqB (pqT (pqB (pqT (pqB (pqT pqF)))))))))))))) hE (hR.ss [2, 3] (by kernel_rfl)) [(6, .op []), (7, .op [])] 0 [(9, .bool true)] #[true, true, true, true, true, true, true, true] [] (by kernel_rfl) (by kernel_rfl) (by kernel_rfl) trivial ?_
    clear hE; intro a hE
    refine wpAnyH_done (by kernel_rfl) ?_ _
    refine thenN ?_
    exact ⟨hE.sub (by kernel_rfl), _, hR⟩
  clear hE hR
  rintro a u ⟨hE, J1, hR⟩
  refine wp_ret ?_; refine thenR ?_; refine blkR ?_; refine thenR ?_; refine blkR ?_; refine thenR ?_; refine blkR ?_; refine thenR ?_; refine blkR ?_; refine thenR ?_; refine blkR ?_
  refine thenR ?_; refine blkR ?_; refine thenR ?_
  refine retF hE hR (hks 1 0 15 ++ hks 0 0 5) (.tuple #[.agg #[.int .i64 o.kind, .int .i64 o.cap, .int .i64 o.width, .int .i64 o.retry, .int .i64 o.src, .int .i64 o.dst, .int .u32 o.i0, .int .u32 o.i1, .int .u32 o.i2, .int .u32 o.i3, .slice A n c, .int .u32 v.a, .int .u32 v.b, .int .u32 v.c, .int .u32 v.d], .agg #[.int .i64 0, .int .u32 v.a, .int .u32 v.b, .int .u32 v.c, .int .u32 v.d], .bool false, .bool true]) (by kernel_rfl) (by kernel_rfl) (by kernel_rfl) ?_
  exact ⟨rfl, hR.below (by simp)⟩
set_option maxRecDepth 100000 in
theorem done_write_four (o : Ob) (v : Vl) (ck co : Int) (cv : Vl) (cn : Int) (A : Option Addr) (n c : Nat) (w : World) (hkk : kindP o = 2) (h0w : 0 ≤ o.width) (h4w : o.width ≤ 4) :
    Calls Try.prog 50 #[itA o (.slice A n c) v, .int .i64 3, callA ck co cv cn] w fun e W' => e = .returned (.tuple #[itA o (.slice A n c) (clipP cv o.width), resA 0 Vl.z, .bool true, .bool true]) ∧ Below w.heap.size w W' := by
  have HK := fun W => kind_calls o A (n) (c) v W
  rw [hkk] at HK
  let kv1 : Value := .agg #[.int .i64 o.kind, .int .i64 o.cap, .int .i64 o.width, .int .i64 o.retry, .int .i64 o.src, .int .i64 o.dst, .int .u32 o.i0, .int .u32 o.i1, .int .u32 o.i2, .int .u32 o.i3, .slice A n c, .int .u32 v.a, .int .u32 v.b, .int .u32 v.c, .int .u32 v.d]
  let kv2 : Value := .agg #[.int .i64 ck, .int .i64 co, .int .u32 cv.a, .int .u32 cv.b, .int .u32 cv.c, .int .u32 cv.d, .int .u32 cn]
  refine enterF Try.func50 rfl Try.ntmps50 [(0, kv1), (1, .int .i64 3), (2, kv2)] (by kernel_rfl) (by kernel_rfl) ?_
  have hR := Rep.start w
  obtain ⟨H0, hH0⟩ : ∃ x, x = w.heap.size := ⟨_, rfl⟩
  rw [← hH0] at hR
  intro a hE
  refine wp_seq ?_
  refine enterR (idx := [0, 1, 2, 3, 4, 5]) (by kernel_rfl) ?_
  let kc3 : List Value := [.int .i64 0, .int .u32 0, .int .u32 0, .int .u32 0, .int .u32 0]
  let kc4 : List Value := [.int .i64 0, .int .i64 0, .int .i64 0, .int .i64 0, .int .i64 0, .int .i64 0, .int .u32 0, .int .u32 0, .int .u32 0, .int .u32 0, .slice none 0 0, .int .u32 0, .int .u32 0, .int .u32 0, .int .u32 0]
  let kc5 : List Value := [.int .i64 ck, .int .i64 co, .int .u32 cv.a, .int .u32 cv.b, .int .u32 cv.c, .int .u32 cv.d, .int .u32 cn]
  let kc6 : List Value := [.int .i64 o.kind, .int .i64 o.cap, .int .i64 o.width, .int .i64 o.retry, .int .i64 o.src, .int .i64 o.dst, .int .u32 o.i0, .int .u32 o.i1, .int .u32 o.i2, .int .u32 o.i3, .slice A n c, .int .u32 v.a, .int .u32 v.b, .int .u32 v.c, .int .u32 v.d]
  refine segU hE hR [(0, .op []), (1, .op []), (2, .op []), (3, .op []), (4, .op []), (5, .op [])] [] [(3, .pointer (some ⟨H0, 0, none⟩)), (5, .pointer (some ⟨H0 + 1, 0, none⟩)), (6, .pointer (some ⟨H0 + 2, 0, none⟩)), (7, .pointer (some ⟨H0 + 3, 0, none⟩)), (8, .bool false), (9, .bool false)] [⟨H0 + 3, 0, kc3, 63, true⟩, ⟨H0 + 2, 0, kc4, 116, true⟩, ⟨H0 + 1, 0, kc5, 60, true⟩, ⟨H0, 0, kc6, 116, true⟩] (H0 + 4) [] (by kernel_rfl) (by kernel_rfl) (by kernel_rfl) trivial ?_
  clear hE hR; intro a u hE hR
  refine opsNil ?_; refine thenN ?_; refine wp_seq ?_
  refine enterR (idx := [0, 1]) (by kernel_rfl) ?_
  refine segV hE hR [(0, .op []), (1, .op [])] [] [(10, .func (.func 74) #[] #[.pointer (some ⟨H0, 0, none⟩)])] [] (by kernel_rfl) (by kernel_rfl) (by kernel_rfl) trivial ?_
  clear hE hR; intro a u hE hR
  refine opsNil ?_; refine thenN ?_; refine wp_seq ?_; refine wp_seq ?_
  refine enterR (idx := [0, 1, 2, 3]) (by kernel_rfl) ?_
  refine segV hE hR [(0, .op []), (1, .op (hks 3 0 15))] [2, 3] [(12, .int .i64 3), (13, kv1)] [] (by kernel_rfl) (by kernel_rfl) (by kernel_rfl) trivial ?_
  clear hE hR; intro a u hE hR
  refine opsCons ?_
  refine call hE hR [] 45 #[kv1] (some 14) [] (by kernel_rfl) (by kernel_rfl) trivial (HK _) (fun _ _ h => by cases h.1) (fun _ h => by cases h.1) ?_
  clear hE
  rintro v u ⟨hv, hb⟩ a hE
  cases hv
  obtain ⟨H1, hH1, hR⟩ := hR.callE hb
  refine segV hE hR [(3, .op [])] [] [(15, .agg #[.int .i64 3, .int .i64 2])] [] (by kernel_rfl) (by kernel_rfl) (by kernel_rfl) trivial ?_
  clear hE hR; intro a u hE hR
  refine opsNil ?_; refine thenN ?_; refine wp_block ?_; refine wp_seq ?_; refine wp_block ?_; refine wp_seq ?_; refine wp_block ?_; refine wp_seq ?_; refine wp_block ?_; refine wp_seq ?_
  refine wp_block ?_; refine wp_seq ?_; refine wp_block ?_; refine wp_seq ?_; refine wp_block ?_; refine wp_seq ?_; refine wp_block ?_; refine wp_seq ?_; refine wp_block ?_; refine wp_seq ?_
  refine wp_block ?_; refine wp_seq ?_; refine wp_seq ?_; refine wp_seq ?_
  refine enterR (idx := [0, 1, 2]) (by kernel_rfl) ?_
  refine segV hE hR [(0, .op []), (1, .op []), (2, .op [])] [] [(16, .bool false)] [] (by kernel_rfl) (by kernel_rfl) (by kernel_rfl) trivial ?_
  clear hE hR; intro a u hE hR
  refine opsNil ?_; refine thenN ?_
  refine condF hE (b := false) (by kernel_rfl) rfl ?_
  refine wp_skip ?_; refine thenN ?_; refine wp_seq ?_; refine wp_seq ?_
  refine enterR (idx := [0, 1, 2]) (by kernel_rfl) ?_
  refine segV hE hR [(0, .op []), (1, .op []), (2, .op [])] [] [(19, .bool false)] [] (by kernel_rfl) (by kernel_rfl) (by kernel_rfl) trivial ?_
  clear hE hR; intro a u hE hR
  refine opsNil ?_; refine thenN ?_
  refine condF hE (b := false) (by kernel_rfl) rfl ?_
  refine wp_skip ?_; refine thenN ?_; refine wp_seq ?_; refine wp_seq ?_; refine wp_seq ?_
  refine enterR (idx := [0, 1, 2]) (by kernel_rfl) ?_
  refine segV hE hR [(0, .op []), (1, .op []), (2, .op [])] [] [(22, .bool true)] [] (by kernel_rfl) (by kernel_rfl) (by kernel_rfl) trivial ?_
  clear hE hR; intro a u hE hR
  refine opsNil ?_; refine thenN ?_
  refine condT hE (b := true) (by kernel_rfl) rfl ?_
  refine wp_skip ?_; refine thenN ?_
  refine condT hE (b := true) (by kernel_rfl) rfl ?_
  refine wp_exit ?_; refine thenE ?_; refine thenE ?_; refine blkX (by kernel_rfl) ?_; refine thenE ?_; refine blkX (by kernel_rfl) ?_; refine thenE ?_; refine blkE ?_; refine thenN ?_
  refine wp_seq ?_
  let kc7 : List Value := [.int .i64 o.kind, .int .i64 o.cap, .int .i64 o.width, .int .i64 o.retry, .int .i64 o.src, .int .i64 o.dst, .int .u32 o.i0, .int .u32 o.i1, .int .u32 o.i2, .int .u32 o.i3, .slice A n c, .int .u32 ((clipP cv o.width).a), .int .u32 ((clipP cv o.width).b), .int .u32 ((clipP cv o.width).c), .int .u32 ((clipP cv o.width).d)]
  refine seqJ (fun a u => TE a 179 [(3, .pointer (some ⟨H0, 0, none⟩)), (5, .pointer (some ⟨H0 + 1, 0, none⟩)), (6, .pointer (some ⟨H0 + 2, 0, none⟩)), (7, .pointer (some ⟨H0 + 3, 0, none⟩)), (8, .bool true), (9, .bool true), (10, .func (.func 74) #[] #[.pointer (some ⟨H0, 0, none⟩)]), (15, .agg #[.int .i64 3, .int .i64 2]), (16, .bool false), (19, .bool false), (22, .bool true)] ∧ ∃ H, Rep [(w, fun _ => True)] u H [⟨H0 + 3, 0, kc3, 63, true⟩, ⟨H0 + 2, 0, kc7, 116, true⟩, ⟨H0 + 1, 0, kc5, 60, true⟩, ⟨H0, 0, kc6, 116, true⟩] []) ?_ ?_
  · show Code.wp _ _ _ _ _
    refine enterD (kl := [⟨H0 + 3, 0, kc3, 63, true⟩, ⟨H0 + 1, 0, kc5, 60, true⟩, ⟨H0, 0, kc6, 116, true⟩]) (by kernel_rfl) hR (F := 16) (listed := #[false, false, false, false, false, false, false, false, false, false, false, false, false, false, false, false]) (by kernel_rfl) (by kernel_rfl) ?_
    clear hR
    intro u hR
    let kv8 : Value := .agg #[.int .i64 o.kind, .int .i64 o.cap, .int .i64 o.width, .int .i64 o.retry, .int .i64 o.src, .int .i64 o.dst, .int .u32 o.i0, .int .u32 o.i1, .int .u32 o.i2, .int .u32 o.i3]
    let kv9 : Value := .agg #[.int .u32 cv.a, .int .u32 cv.b, .int .u32 cv.c, .int .u32 cv.d]
    let kv10 : Value := .agg #[.int .i64 0, .int .u32 0, .int .u32 0, .int .u32 0, .int .u32 0]
    refine takes (by kernel_rfl) (pqT (pqT (pqB (pqT (pqB (pqT (pqB (pqT (pqB (pqT (pqB (pqT (pqB (pqT (pqB (pqT pqF)))))))))))))))) hE (hR.ss [0, 2, 3] (by kernel_rfl)) [(0, .op []), (1, .op (hks 2 0 10)), (2, .op []), (3, .op [.k 2 10]), (4, .op []), (5, .op (hks 1 2 4)), (6, .op []), (7, .op []), (8, .op [.k 2 2]), (11, .op (hks 0 0 5))] 6 [(3, .pointer (some ⟨H0, 0, none⟩)), (5, .pointer (some ⟨H0 + 1, 0, none⟩)), (6, .pointer (some ⟨H0 + 2, 0, none⟩)), (7, .pointer (some ⟨H0 + 3, 0, none⟩)), (8, .bool false), (9, .bool false), (10, .func (.func 74) #[] #[.pointer (some ⟨H0, 0, none⟩)]), (15, .agg #[.int .i64 3, .int .i64 2]), (16, .bool false), (19, .bool false), (22, .bool true), (102, kv8), (104, .slice A n c), (106, kv9), (109, .int .i64 o.width), (112, kv10)] #[true, true, true, true, true, true, true, true, true, false, false, true, false, false, false, false] [] (by kernel_rfl) (by kernel_rfl) (by kernel_rfl) trivial ?_
    clear hE; intro a hE
    refine wpAnyH_all (rs := [9]) (by kernel_rfl) (by simp) (allCons ?_ allNil)
    refine call hE hR [] 46 #[kv9, .int .i64 o.width] (some 110) [] (by kernel_rfl) (by kernel_rfl) trivial (clip_calls cv o.width h0w h4w _) (fun _ _ h => by cases h.1) (fun _ h => by cases h.1) ?_
    clear hE
    rintro v u ⟨hv, hb⟩ a hE
    cases hv
    obtain ⟨H2, hH2, hR⟩ := hR.callE hb
    refine ⟨(hR.ss [0, 2, 3] (by kernel_rfl)), ?_⟩
    show wpAnyH _ _ _ _ _ _ #[true, true, true, true, true, true, true, true, true, true, false, true, false, false, false, false] _ _
    let kv11 : Value := .agg #[.int .i64 o.kind, .int .i64 o.cap, .int .i64 o.width, .int .i64 o.retry, .int .i64 o.src, .int .i64 o.dst, .int .u32 o.i0, .int .u32 o.i1, .int .u32 o.i2, .int .u32 o.i3, .slice A n c, .int .u32 ((clipP cv o.width).a), .int .u32 ((clipP cv o.width).b), .int .u32 ((clipP cv o.width).c), .int .u32 ((clipP cv o.width).d)]
    refine takesU (by kernel_rfl) (pqT (pqT (pqB (pqT (pqB (pqT (pqB (pqT (pqB (pqT (pqB (pqT (pqB (pqT (pqB (pqT pqF)))))))))))))))) hE (hR.ss [0, 2, 3] (by kernel_rfl)) [(10, .op [])] 4 [(111, kv11)] #[true, true, true, true, true, true, true, true, true, true, true, true, false, false, false, false] [] (by kernel_rfl) (by kernel_rfl) (by kernel_rfl) trivial ?_
    clear hE; intro a hE
    refine wpAnyH_all (rs := [12]) (by kernel_rfl) (by simp) (allCons ?_ allNil)
    refine oneU hE hR (.op (hks 1 0 15)) [] [⟨H0 + 3, 0, kc3, 63, true⟩, ⟨H0 + 2, 0, kc7, 116, true⟩, ⟨H0 + 1, 0, kc5, 60, true⟩, ⟨H0, 0, kc6, 116, true⟩] (H2) [] (by kernel_rfl) (by kernel_rfl) trivial ?_
    clear hE hR; intro a u hE hR
    refine ⟨(hR.ss [0, 2, 3] (by kernel_rfl)), ?_⟩
    show wpAnyH _ _ _ _ _ _ #[true, true, true, true, true, true, true, true, true, true, true, true, true, false, false, false] _ _
    refine wpAnyH_all (rs := [13]) (by kernel_rfl) (by simp) (allCons ?_ allNil)
    refine oneU hE hR (.op (hks 0 0 5)) [] [⟨H0 + 3, 0, kc3, 63, true⟩, ⟨H0 + 2, 0, kc7, 116, true⟩, ⟨H0 + 1, 0, kc5, 60, true⟩, ⟨H0, 0, kc6, 116, true⟩] (H2) [] (by kernel_rfl) (by kernel_rfl) trivial ?_
    clear hE hR; intro a u hE hR
    refine ⟨(hR.ss [0, 2, 3] (by kernel_rfl)), ?_⟩
    show wpAnyH _ _ _ _ _ _ #[true, true, true, true, true, true, true, true, true, true, true, true, true, true, false, false] _ _
    refine takesU (by kernel_rfl) (pqT (pqT (pqB (pqT (pqB (pqT (pqB (pqT (pqB (pqT (pqB (pqT (pqB (pqT (pqB (pqT pqF)))))))))))))))) hE (hR.ss [0, 2, 3] (by kernel_rfl)) [(14, .op []), (15, .op [])] 0 [(8, .bool true), (9, .bool true)] #[true, true, true, true, true, true, true, true, true, true, true, true, true, true, true, true] [] (by kernel_rfl) (by kernel_rfl) (by kernel_rfl) trivial ?_
    clear hE; intro a hE
    refine wpAnyH_done (by kernel_rfl) ?_ _
    refine thenN ?_
    exact ⟨hE.sub (by kernel_rfl), _, hR⟩
  clear hE hR
  rintro a u ⟨hE, J1, hR⟩
  refine wp_ret ?_; refine thenR ?_; refine blkR ?_; refine thenR ?_; refine blkR ?_; refine thenR ?_; refine blkR ?_; refine thenR ?_; refine blkR ?_; refine thenR ?_; refine blkR ?_
  refine thenR ?_; refine blkR ?_; refine thenR ?_; refine blkR ?_; refine thenR ?_
  refine retF hE hR (hks 1 0 15 ++ hks 0 0 5) (.tuple #[.agg #[.int .i64 o.kind, .int .i64 o.cap, .int .i64 o.width, .int .i64 o.retry, .int .i64 o.src, .int .i64 o.dst, .int .u32 o.i0, .int .u32 o.i1, .int .u32 o.i2, .int .u32 o.i3, .slice A n c, .int .u32 ((clipP cv o.width).a), .int .u32 ((clipP cv o.width).b), .int .u32 ((clipP cv o.width).c), .int .u32 ((clipP cv o.width).d)], .agg #[.int .i64 0, .int .u32 0, .int .u32 0, .int .u32 0, .int .u32 0], .bool true, .bool true]) (by kernel_rfl) (by kernel_rfl) (by kernel_rfl) ?_
  exact ⟨rfl, hR.below (by simp)⟩
set_option maxRecDepth 100000 in
theorem done_write_lock (o : Ob) (v : Vl) (ck co : Int) (cv : Vl) (cn : Int) (A : Option Addr) (n c : Nat) (w : World) (hkk : kindP o = 3) (h0w : 0 ≤ o.width) (h4w : o.width ≤ 4) :
    Calls Try.prog 50 #[itA o (.slice A n c) v, .int .i64 3, callA ck co cv cn] w fun e W' => e = .returned (.tuple #[itA o (.slice A n c) (clipP cv o.width), resA 0 Vl.z, .bool true, .bool true]) ∧ Below w.heap.size w W' := by
  have HK := fun W => kind_calls o A (n) (c) v W
  rw [hkk] at HK
  let kv1 : Value := .agg #[.int .i64 o.kind, .int .i64 o.cap, .int .i64 o.width, .int .i64 o.retry, .int .i64 o.src, .int .i64 o.dst, .int .u32 o.i0, .int .u32 o.i1, .int .u32 o.i2, .int .u32 o.i3, .slice A n c, .int .u32 v.a, .int .u32 v.b, .int .u32 v.c, .int .u32 v.d]
  let kv2 : Value := .agg #[.int .i64 ck, .int .i64 co, .int .u32 cv.a, .int .u32 cv.b, .int .u32 cv.c, .int .u32 cv.d, .int .u32 cn]
  refine enterF Try.func50 rfl Try.ntmps50 [(0, kv1), (1, .int .i64 3), (2, kv2)] (by kernel_rfl) (by kernel_rfl) ?_
  have hR := Rep.start w
  obtain ⟨H0, hH0⟩ : ∃ x, x = w.heap.size := ⟨_, rfl⟩
  rw [← hH0] at hR
  intro a hE
  refine wp_seq ?_
  refine enterR (idx := [0, 1, 2, 3, 4, 5]) (by kernel_rfl) ?_
  let kc3 : List Value := [.int .i64 0, .int .u32 0, .int .u32 0, .int .u32 0, .int .u32 0]
  let kc4 : List Value := [.int .i64 0, .int .i64 0, .int .i64 0, .int .i64 0, .int .i64 0, .int .i64 0, .int .u32 0, .int .u32 0, .int .u32 0, .int .u32 0, .slice none 0 0, .int .u32 0, .int .u32 0, .int .u32 0, .int .u32 0]
  let kc5 : List Value := [.int .i64 ck, .int .i64 co, .int .u32 cv.a, .int .u32 cv.b, .int .u32 cv.c, .int .u32 cv.d, .int .u32 cn]
  let kc6 : List Value := [.int .i64 o.kind, .int .i64 o.cap, .int .i64 o.width, .int .i64 o.retry, .int .i64 o.src, .int .i64 o.dst, .int .u32 o.i0, .int .u32 o.i1, .int .u32 o.i2, .int .u32 o.i3, .slice A n c, .int .u32 v.a, .int .u32 v.b, .int .u32 v.c, .int .u32 v.d]
  refine segU hE hR [(0, .op []), (1, .op []), (2, .op []), (3, .op []), (4, .op []), (5, .op [])] [] [(3, .pointer (some ⟨H0, 0, none⟩)), (5, .pointer (some ⟨H0 + 1, 0, none⟩)), (6, .pointer (some ⟨H0 + 2, 0, none⟩)), (7, .pointer (some ⟨H0 + 3, 0, none⟩)), (8, .bool false), (9, .bool false)] [⟨H0 + 3, 0, kc3, 63, true⟩, ⟨H0 + 2, 0, kc4, 116, true⟩, ⟨H0 + 1, 0, kc5, 60, true⟩, ⟨H0, 0, kc6, 116, true⟩] (H0 + 4) [] (by kernel_rfl) (by kernel_rfl) (by kernel_rfl) trivial ?_
  clear hE hR; intro a u hE hR
  refine opsNil ?_; refine thenN ?_; refine wp_seq ?_
  refine enterR (idx := [0, 1]) (by kernel_rfl) ?_
  refine segV hE hR [(0, .op []), (1, .op [])] [] [(10, .func (.func 74) #[] #[.pointer (some ⟨H0, 0, none⟩)])] [] (by kernel_rfl) (by kernel_rfl) (by kernel_rfl) trivial ?_
  clear hE hR; intro a u hE hR
  refine opsNil ?_; refine thenN ?_; refine wp_seq ?_; refine wp_seq ?_
  refine enterR (idx := [0, 1, 2, 3]) (by kernel_rfl) ?_
  refine segV hE hR [(0, .op []), (1, .op (hks 3 0 15))] [2, 3] [(12, .int .i64 3), (13, kv1)] [] (by kernel_rfl) (by kernel_rfl) (by kernel_rfl) trivial ?_
  clear hE hR; intro a u hE hR
  refine opsCons ?_
  refine call hE hR [] 45 #[kv1] (some 14) [] (by kernel_rfl) (by kernel_rfl) trivial (HK _) (fun _ _ h => by cases h.1) (fun _ h => by cases h.1) ?_
  clear hE
  rintro v u ⟨hv, hb⟩ a hE
  cases hv
  obtain ⟨H1, hH1, hR⟩ := hR.callE hb
  refine segV hE hR [(3, .op [])] [] [(15, .agg #[.int .i64 3, .int .i64 3])] [] (by kernel_rfl) (by kernel_rfl) (by kernel_rfl) trivial ?_
  clear hE hR; intro a u hE hR
  refine opsNil ?_; refine thenN ?_; refine wp_block ?_; refine wp_seq ?_; refine wp_block ?_; refine wp_seq ?_; refine wp_block ?_; refine wp_seq ?_; refine wp_block ?_; refine wp_seq ?_
  refine wp_block ?_; refine wp_seq ?_; refine wp_block ?_; refine wp_seq ?_; refine wp_block ?_; refine wp_seq ?_; refine wp_block ?_; refine wp_seq ?_; refine wp_block ?_; refine wp_seq ?_
  refine wp_block ?_; refine wp_seq ?_; refine wp_seq ?_; refine wp_seq ?_
  refine enterR (idx := [0, 1, 2]) (by kernel_rfl) ?_
  refine segV hE hR [(0, .op []), (1, .op []), (2, .op [])] [] [(16, .bool false)] [] (by kernel_rfl) (by kernel_rfl) (by kernel_rfl) trivial ?_
  clear hE hR; intro a u hE hR
  refine opsNil ?_; refine thenN ?_
  refine condF hE (b := false) (by kernel_rfl) rfl ?_
  refine wp_skip ?_; refine thenN ?_; refine wp_seq ?_; refine wp_seq ?_
  refine enterR (idx := [0, 1, 2]) (by kernel_rfl) ?_
  refine segV hE hR [(0, .op []), (1, .op []), (2, .op [])] [] [(19, .bool false)] [] (by kernel_rfl) (by kernel_rfl) (by kernel_rfl) trivial ?_
  clear hE hR; intro a u hE hR
  refine opsNil ?_; refine thenN ?_
  refine condF hE (b := false) (by kernel_rfl) rfl ?_
  refine wp_skip ?_; refine thenN ?_; refine wp_seq ?_; refine wp_seq ?_; refine wp_seq ?_
  refine enterR (idx := [0, 1, 2]) (by kernel_rfl) ?_
  refine segV hE hR [(0, .op []), (1, .op []), (2, .op [])] [] [(22, .bool false)] [] (by kernel_rfl) (by kernel_rfl) (by kernel_rfl) trivial ?_
  clear hE hR; intro a u hE hR
  refine opsNil ?_; refine thenN ?_
  refine condF hE (b := false) (by kernel_rfl) rfl ?_
  refine enterR (idx := [0, 1, 2]) (by kernel_rfl) ?_
  refine seg0 hE hR [(0, .op []), (1, .op []), (2, .op [])] [] [(3, .pointer (some ⟨H0, 0, none⟩)), (5, .pointer (some ⟨H0 + 1, 0, none⟩)), (6, .pointer (some ⟨H0 + 2, 0, none⟩)), (7, .pointer (some ⟨H0 + 3, 0, none⟩)), (8, .bool false), (9, .bool false), (10, .func (.func 74) #[] #[.pointer (some ⟨H0, 0, none⟩)]), (15, .agg #[.int .i64 3, .int .i64 3]), (16, .bool false), (19, .bool false), (22, .bool true)] [] (by kernel_rfl) (by kernel_rfl) (by kernel_rfl) trivial ?_
  clear hE hR; intro a u hE hR
  refine opsNil ?_; refine thenN ?_
  refine condT hE (b := true) (by kernel_rfl) rfl ?_
  refine wp_exit ?_; refine thenE ?_; refine thenE ?_; refine blkX (by kernel_rfl) ?_; refine thenE ?_; refine blkX (by kernel_rfl) ?_; refine thenE ?_; refine blkE ?_; refine thenN ?_
  refine wp_seq ?_
  let kc7 : List Value := [.int .i64 o.kind, .int .i64 o.cap, .int .i64 o.width, .int .i64 o.retry, .int .i64 o.src, .int .i64 o.dst, .int .u32 o.i0, .int .u32 o.i1, .int .u32 o.i2, .int .u32 o.i3, .slice A n c, .int .u32 ((clipP cv o.width).a), .int .u32 ((clipP cv o.width).b), .int .u32 ((clipP cv o.width).c), .int .u32 ((clipP cv o.width).d)]
  refine seqJ (fun a u => TE a 179 [(3, .pointer (some ⟨H0, 0, none⟩)), (5, .pointer (some ⟨H0 + 1, 0, none⟩)), (6, .pointer (some ⟨H0 + 2, 0, none⟩)), (7, .pointer (some ⟨H0 + 3, 0, none⟩)), (8, .bool true), (9, .bool true), (10, .func (.func 74) #[] #[.pointer (some ⟨H0, 0, none⟩)]), (15, .agg #[.int .i64 3, .int .i64 3]), (16, .bool false), (19, .bool false), (22, .bool true)] ∧ ∃ H, Rep [(w, fun _ => True)] u H [⟨H0 + 3, 0, kc3, 63, true⟩, ⟨H0 + 2, 0, kc7, 116, true⟩, ⟨H0 + 1, 0, kc5, 60, true⟩, ⟨H0, 0, kc6, 116, true⟩] []) ?_ ?_
  · show Code.wp _ _ _ _ _
    refine enterD (kl := [⟨H0 + 3, 0, kc3, 63, true⟩, ⟨H0 + 1, 0, kc5, 60, true⟩, ⟨H0, 0, kc6, 116, true⟩]) (by kernel_rfl) hR (F := 16) (listed := #[false, false, false, false, false, false, false, false, false, false, false, false, false, false, false, false]) (by kernel_rfl) (by kernel_rfl) ?_
    clear hR
    intro u hR
    let kv8 : Value := .agg #[.int .i64 o.kind, .int .i64 o.cap, .int .i64 o.width, .int .i64 o.retry, .int .i64 o.src, .int .i64 o.dst, .int .u32 o.i0, .int .u32 o.i1, .int .u32 o.i2, .int .u32 o.i3]
    let kv9 : Value := .agg #[.int .u32 cv.a, .int .u32 cv.b, .int .u32 cv.c, .int .u32 cv.d]
    let kv10 : Value := .agg #[.int .i64 0, .int .u32 0, .int .u32 0, .int .u32 0, .int .u32 0]
    refine takesU (by kernel_rfl) (pqT (pqT (pqB (pqT (pqB (pqT (pqB (pqT (pqB (pqT (pqB (pqT (pqB (pqT (pqB (pqT pqF)))))))))))))))) hE (hR.ss [0, 2, 3] (by kernel_rfl)) [(0, .op []), (1, .op (hks 2 0 10)), (2, .op []), (3, .op [.k 2 10]), (4, .op []), (5, .op (hks 1 2 4)), (6, .op []), (7, .op []), (8, .op [.k 2 2]), (11, .op (hks 0 0 5))] 6 [(102, kv8), (104, .slice A n c), (106, kv9), (109, .int .i64 o.width), (112, kv10)] #[true, true, true, true, true, true, true, true, true, false, false, true, false, false, false, false] [] (by kernel_rfl) (by kernel_rfl) (by kernel_rfl) trivial ?_
    clear hE; intro a hE
    refine wpAnyH_all (rs := [9]) (by kernel_rfl) (by simp) (allCons ?_ allNil)
    refine call hE hR [] 46 #[kv9, .int .i64 o.width] (some 110) [] (by kernel_rfl) (by kernel_rfl) trivial (clip_calls cv o.width h0w h4w _) (fun _ _ h => by cases h.1) (fun _ h => by cases h.1) ?_
    clear hE
    rintro v u ⟨hv, hb⟩ a hE
    cases hv
    obtain ⟨H2, hH2, hR⟩ := hR.callE hb
    refine ⟨(hR.ss [0, 2, 3] (by kernel_rfl)), ?_⟩
    show wpAnyH _ _ _ _ _ _ #[true, true, true, true, true, true, true, true, true, true, false, true, false, false, false, false] _ _
    let kv11 : Value := .agg #[.int .i64 o.kind, .int .i64 o.cap, .int .i64 o.width, .int .i64 o.retry, .int .i64 o.src, .int .i64 o.dst, .int .u32 o.i0, .int .u32 o.i1, .int .u32 o.i2, .int .u32 o.i3, .slice A n c, .int .u32 ((clipP cv o.width).a), .int .u32 ((clipP cv o.width).b), .int .u32 ((clipP cv o.width).c), .int .u32 ((clipP cv o.width).d)]
    refine takesU (by kernel_rfl) (pqT (pqT (pqB (pqT (pqB (pqT (pqB (pqT (pqB (pqT (pqB (pqT (pqB (pqT (pqB (pqT pqF)))))))))))))))) hE (hR.ss [0, 2, 3] (by kernel_rfl)) [(10, .op [])] 4 [(111, kv11)] #[true, true, true, true, true, true, true, true, true, true, true, true, false, false, false, false] [] (by kernel_rfl) (by kernel_rfl) (by kernel_rfl) trivial ?_
    clear hE; intro a hE
    refine wpAnyH_all (rs := [12]) (by kernel_rfl) (by simp) (allCons ?_ allNil)
    refine oneU hE hR (.op (hks 1 0 15)) [] [⟨H0 + 3, 0, kc3, 63, true⟩, ⟨H0 + 2, 0, kc7, 116, true⟩, ⟨H0 + 1, 0, kc5, 60, true⟩, ⟨H0, 0, kc6, 116, true⟩] (H2) [] (by kernel_rfl) (by kernel_rfl) trivial ?_
    clear hE hR; intro a u hE hR
    refine ⟨(hR.ss [0, 2, 3] (by kernel_rfl)), ?_⟩
    show wpAnyH _ _ _ _ _ _ #[true, true, true, true, true, true, true, true, true, true, true, true, true, false, false, false] _ _
    refine wpAnyH_all (rs := [13]) (by kernel_rfl) (by simp) (allCons ?_ allNil)
    refine oneU hE hR (.op (hks 0 0 5)) [] [⟨H0 + 3, 0, kc3, 63, true⟩, ⟨H0 + 2, 0, kc7, 116, true⟩, ⟨H0 + 1, 0, kc5, 60, true⟩, ⟨H0, 0, kc6, 116, true⟩] (H2) [] (by kernel_rfl) (by kernel_rfl) trivial ?_
    clear hE hR; intro a u hE hR
    refine ⟨(hR.ss [0, 2, 3] (by kernel_rfl)), ?_⟩
    show wpAnyH _ _ _ _ _ _ #[true, true, true, true, true, true, true, true, true, true, true, true, true, true, false, false] _ _
    refine takesU (by kernel_rfl) (pqT (pqT (pqB (pqT (pqB (pqT (pqB (pqT (pqB (pqT (pqB (pqT (pqB (pqT (pqB (pqT pqF)))))))))))))))) hE (hR.ss [0, 2, 3] (by kernel_rfl)) [(14, .op []), (15, .op [])] 0 [(8, .bool true), (9, .bool true)] #[true, true, true, true, true, true, true, true, true, true, true, true, true, true, true, true] [] (by kernel_rfl) (by kernel_rfl) (by kernel_rfl) trivial ?_
    clear hE; intro a hE
    refine wpAnyH_done (by kernel_rfl) ?_ _
    refine thenN ?_
    exact ⟨hE.sub (by kernel_rfl), _, hR⟩
  clear hE hR
  rintro a u ⟨hE, J1, hR⟩
  refine wp_ret ?_; refine thenR ?_; refine blkR ?_; refine thenR ?_; refine blkR ?_; refine thenR ?_; refine blkR ?_; refine thenR ?_; refine blkR ?_; refine thenR ?_; refine blkR ?_
  refine thenR ?_; refine blkR ?_; refine thenR ?_; refine blkR ?_; refine thenR ?_
  refine retF hE hR (hks 1 0 15 ++ hks 0 0 5) (.tuple #[.agg #[.int .i64 o.kind, .int .i64 o.cap, .int .i64 o.width, .int .i64 o.retry, .int .i64 o.src, .int .i64 o.dst, .int .u32 o.i0, .int .u32 o.i1, .int .u32 o.i2, .int .u32 o.i3, .slice A n c, .int .u32 ((clipP cv o.width).a), .int .u32 ((clipP cv o.width).b), .int .u32 ((clipP cv o.width).c), .int .u32 ((clipP cv o.width).d)], .agg #[.int .i64 0, .int .u32 0, .int .u32 0, .int .u32 0, .int .u32 0], .bool true, .bool true]) (by kernel_rfl) (by kernel_rfl) (by kernel_rfl) ?_
  exact ⟨rfl, hR.below (by simp)⟩
set_option maxRecDepth 100000 in
theorem done_set (o : Ob) (v : Vl) (ck co : Int) (cv : Vl) (cn : Int) (A : Option Addr) (n c : Nat) (w : World) (hkk : kindP o = 4)  :
    Calls Try.prog 50 #[itA o (.slice A n c) v, .int .i64 7, callA ck co cv cn] w fun e W' => e = .returned (.tuple #[itA o (.slice A n c) ⟨orP v.a cv.a, 0, 0, 0⟩, resA 0 ⟨v.a, 0, 0, 0⟩, .bool true, .bool true]) ∧ Below w.heap.size w W' := by
  have HK := fun W => kind_calls o A (n) (c) v W
  rw [hkk] at HK
  let kv1 : Value := .agg #[.int .i64 o.kind, .int .i64 o.cap, .int .i64 o.width, .int .i64 o.retry, .int .i64 o.src, .int .i64 o.dst, .int .u32 o.i0, .int .u32 o.i1, .int .u32 o.i2, .int .u32 o.i3, .slice A n c, .int .u32 v.a, .int .u32 v.b, .int .u32 v.c, .int .u32 v.d]
  let kv2 : Value := .agg #[.int .i64 ck, .int .i64 co, .int .u32 cv.a, .int .u32 cv.b, .int .u32 cv.c, .int .u32 cv.d, .int .u32 cn]
  refine enterF Try.func50 rfl Try.ntmps50 [(0, kv1), (1, .int .i64 7), (2, kv2)] (by kernel_rfl) (by kernel_rfl) ?_
  have hR := Rep.start w
  obtain ⟨H0, hH0⟩ : ∃ x, x = w.heap.size := ⟨_, rfl⟩
  rw [← hH0] at hR
  intro a hE
  refine wp_seq ?_
  refine enterR (idx := [0, 1, 2, 3, 4, 5]) (by kernel_rfl) ?_
  let kc3 : List Value := [.int .i64 0, .int .u32 0, .int .u32 0, .int .u32 0, .int .u32 0]
  let kc4 : List Value := [.int .i64 0, .int .i64 0, .int .i64 0, .int .i64 0, .int .i64 0, .int .i64 0, .int .u32 0, .int .u32 0, .int .u32 0, .int .u32 0, .slice none 0 0, .int .u32 0, .int .u32 0, .int .u32 0, .int .u32 0]
  let kc5 : List Value := [.int .i64 ck, .int .i64 co, .int .u32 cv.a, .int .u32 cv.b, .int .u32 cv.c, .int .u32 cv.d, .int .u32 cn]
  let kc6 : List Value := [.int .i64 o.kind, .int .i64 o.cap, .int .i64 o.width, .int .i64 o.retry, .int .i64 o.src, .int .i64 o.dst, .int .u32 o.i0, .int .u32 o.i1, .int .u32 o.i2, .int .u32 o.i3, .slice A n c, .int .u32 v.a, .int .u32 v.b, .int .u32 v.c, .int .u32 v.d]
  refine segU hE hR [(0, .op []), (1, .op []), (2, .op []), (3, .op []), (4, .op []), (5, .op [])] [] [(3, .pointer (some ⟨H0, 0, none⟩)), (5, .pointer (some ⟨H0 + 1, 0, none⟩)), (6, .pointer (some ⟨H0 + 2, 0, none⟩)), (7, .pointer (some ⟨H0 + 3, 0, none⟩)), (8, .bool false), (9, .bool false)] [⟨H0 + 3, 0, kc3, 63, true⟩, ⟨H0 + 2, 0, kc4, 116, true⟩, ⟨H0 + 1, 0, kc5, 60, true⟩, ⟨H0, 0, kc6, 116, true⟩] (H0 + 4) [] (by kernel_rfl) (by kernel_rfl) (by kernel_rfl) trivial ?_
  clear hE hR; intro a u hE hR
  refine opsNil ?_; refine thenN ?_; refine wp_seq ?_
  refine enterR (idx := [0, 1]) (by kernel_rfl) ?_
  refine segV hE hR [(0, .op []), (1, .op [])] [] [(10, .func (.func 74) #[] #[.pointer (some ⟨H0, 0, none⟩)])] [] (by kernel_rfl) (by kernel_rfl) (by kernel_rfl) trivial ?_
  clear hE hR; intro a u hE hR
  refine opsNil ?_; refine thenN ?_; refine wp_seq ?_; refine wp_seq ?_
  refine enterR (idx := [0, 1, 2, 3]) (by kernel_rfl) ?_
  refine segV hE hR [(0, .op []), (1, .op (hks 3 0 15))] [2, 3] [(12, .int .i64 7), (13, kv1)] [] (by kernel_rfl) (by kernel_rfl) (by kernel_rfl) trivial ?_
  clear hE hR; intro a u hE hR
  refine opsCons ?_
  refine call hE hR [] 45 #[kv1] (some 14) [] (by kernel_rfl) (by kernel_rfl) trivial (HK _) (fun _ _ h => by cases h.1) (fun _ h => by cases h.1) ?_
  clear hE
  rintro v u ⟨hv, hb⟩ a hE
  cases hv
  obtain ⟨H1, hH1, hR⟩ := hR.callE hb
  refine segV hE hR [(3, .op [])] [] [(15, .agg #[.int .i64 7, .int .i64 4])] [] (by kernel_rfl) (by kernel_rfl) (by kernel_rfl) trivial ?_
  clear hE hR; intro a u hE hR
  refine opsNil ?_; refine thenN ?_; refine wp_block ?_; refine wp_seq ?_; refine wp_block ?_; refine wp_seq ?_; refine wp_block ?_; refine wp_seq ?_; refine wp_block ?_; refine wp_seq ?_
  refine wp_block ?_; refine wp_seq ?_; refine wp_block ?_; refine wp_seq ?_; refine wp_block ?_; refine wp_seq ?_; refine wp_block ?_; refine wp_seq ?_; refine wp_block ?_; refine wp_seq ?_
  refine wp_block ?_; refine wp_seq ?_; refine wp_seq ?_; refine wp_seq ?_
  refine enterR (idx := [0, 1, 2]) (by kernel_rfl) ?_
  refine segV hE hR [(0, .op []), (1, .op []), (2, .op [])] [] [(16, .bool false)] [] (by kernel_rfl) (by kernel_rfl) (by kernel_rfl) trivial ?_
  clear hE hR; intro a u hE hR
  refine opsNil ?_; refine thenN ?_
  refine condF hE (b := false) (by kernel_rfl) rfl ?_
  refine wp_skip ?_; refine thenN ?_; refine wp_seq ?_; refine wp_seq ?_
  refine enterR (idx := [0, 1, 2]) (by kernel_rfl) ?_
  refine segV hE hR [(0, .op []), (1, .op []), (2, .op [])] [] [(19, .bool false)] [] (by kernel_rfl) (by kernel_rfl) (by kernel_rfl) trivial ?_
  clear hE hR; intro a u hE hR
  refine opsNil ?_; refine thenN ?_
  refine condF hE (b := false) (by kernel_rfl) rfl ?_
  refine wp_skip ?_; refine thenN ?_; refine wp_seq ?_; refine wp_seq ?_; refine wp_seq ?_
  refine enterR (idx := [0, 1, 2]) (by kernel_rfl) ?_
  refine segV hE hR [(0, .op []), (1, .op []), (2, .op [])] [] [(22, .bool false)] [] (by kernel_rfl) (by kernel_rfl) (by kernel_rfl) trivial ?_
  clear hE hR; intro a u hE hR
  refine opsNil ?_; refine thenN ?_
  refine condF hE (b := false) (by kernel_rfl) rfl ?_
  refine enterR (idx := [0, 1, 2]) (by kernel_rfl) ?_
  refine seg0 hE hR [(0, .op []), (1, .op []), (2, .op [])] [] [(3, .pointer (some ⟨H0, 0, none⟩)), (5, .pointer (some ⟨H0 + 1, 0, none⟩)), (6, .pointer (some ⟨H0 + 2, 0, none⟩)), (7, .pointer (some ⟨H0 + 3, 0, none⟩)), (8, .bool false), (9, .bool false), (10, .func (.func 74) #[] #[.pointer (some ⟨H0, 0, none⟩)]), (15, .agg #[.int .i64 7, .int .i64 4]), (16, .bool false), (19, .bool false), (22, .bool false)] [] (by kernel_rfl) (by kernel_rfl) (by kernel_rfl) trivial ?_
  clear hE hR; intro a u hE hR
  refine opsNil ?_; refine thenN ?_
  refine condF hE (b := false) (by kernel_rfl) rfl ?_
  refine wp_skip ?_; refine thenN ?_; refine wp_seq ?_; refine wp_seq ?_; refine wp_seq ?_
  refine enterR (idx := [0, 1, 2]) (by kernel_rfl) ?_
  refine segV hE hR [(0, .op []), (1, .op []), (2, .op [])] [] [(27, .bool false)] [] (by kernel_rfl) (by kernel_rfl) (by kernel_rfl) trivial ?_
  clear hE hR; intro a u hE hR
  refine opsNil ?_; refine thenN ?_
  refine condF hE (b := false) (by kernel_rfl) rfl ?_
  refine wp_seq ?_
  refine enterR (idx := [0, 1, 2]) (by kernel_rfl) ?_
  refine segV hE hR [(0, .op []), (1, .op []), (2, .op [])] [] [] [] (by kernel_rfl) (by kernel_rfl) (by kernel_rfl) trivial ?_
  clear hE hR; intro a u hE hR
  refine opsNil ?_; refine thenN ?_
  refine condF hE (b := false) (by kernel_rfl) rfl ?_
  refine enterR (idx := [0, 1, 2]) (by kernel_rfl) ?_
  refine segV hE hR [(0, .op []), (1, .op []), (2, .op [])] [] [] [] (by kernel_rfl) (by kernel_rfl) (by kernel_rfl) trivial ?_
  clear hE hR; intro a u hE hR
  refine opsNil ?_; refine thenN ?_
  refine condF hE (b := false) (by kernel_rfl) rfl ?_
  refine wp_skip ?_; refine thenN ?_; refine wp_seq ?_; refine wp_seq ?_
  refine enterR (idx := [0, 1, 2]) (by kernel_rfl) ?_
  refine segV hE hR [(0, .op []), (1, .op []), (2, .op [])] [] [(34, .bool true)] [] (by kernel_rfl) (by kernel_rfl) (by kernel_rfl) trivial ?_
  clear hE hR; intro a u hE hR
  refine opsNil ?_; refine thenN ?_
  refine condT hE (b := true) (by kernel_rfl) rfl ?_
  refine wp_exit ?_; refine thenE ?_; refine thenE ?_; refine blkX (by kernel_rfl) ?_; refine thenE ?_; refine blkX (by kernel_rfl) ?_; refine thenE ?_; refine blkX (by kernel_rfl) ?_
  refine thenE ?_; refine blkX (by kernel_rfl) ?_; refine thenE ?_; refine blkE ?_; refine thenN ?_; refine wp_seq ?_
  let kc7 : List Value := [.int .i64 0, .int .u32 v.a, .int .u32 0, .int .u32 0, .int .u32 0]
  let kc8 : List Value := [.int .i64 o.kind, .int .i64 o.cap, .int .i64 o.width, .int .i64 o.retry, .int .i64 o.src, .int .i64 o.dst, .int .u32 o.i0, .int .u32 o.i1, .int .u32 o.i2, .int .u32 o.i3, .slice A n c, .int .u32 (IntKind.u32.wrap ((BitVec.ofInt 32 v.a ||| (BitVec.ofInt 32 cv.a)).toNat : Int)), .int .u32 0, .int .u32 0, .int .u32 0]
  refine seqJ (fun a u => TE a 179 [(3, .pointer (some ⟨H0, 0, none⟩)), (5, .pointer (some ⟨H0 + 1, 0, none⟩)), (6, .pointer (some ⟨H0 + 2, 0, none⟩)), (7, .pointer (some ⟨H0 + 3, 0, none⟩)), (8, .bool true), (9, .bool true), (10, .func (.func 74) #[] #[.pointer (some ⟨H0, 0, none⟩)]), (15, .agg #[.int .i64 7, .int .i64 4]), (16, .bool false), (19, .bool false), (22, .bool false), (27, .bool false), (34, .bool true)] ∧ ∃ H, Rep [(w, fun _ => True)] u H [⟨H0 + 3, 0, kc7, 63, true⟩, ⟨H0 + 2, 0, kc8, 116, true⟩, ⟨H0 + 1, 0, kc5, 60, true⟩, ⟨H0, 0, kc6, 116, true⟩] []) ?_ ?_
  · show Code.wp _ _ _ _ _
    refine enterD (kl := [⟨H0 + 1, 0, kc5, 60, true⟩, ⟨H0, 0, kc6, 116, true⟩]) (by kernel_rfl) hR (F := 20) (listed := #[false, false, false, false, false, false, false, false, false, false, false, false, false, false, false, false, false, false, false, false]) (by kernel_rfl) (by kernel_rfl) ?_
    clear hR
    intro u hR
    let kv9 : Value := .agg #[.int .i64 o.kind, .int .i64 o.cap, .int .i64 o.width, .int .i64 o.retry, .int .i64 o.src, .int .i64 o.dst, .int .u32 o.i0, .int .u32 o.i1, .int .u32 o.i2, .int .u32 o.i3, .slice A n c, .int .u32 (IntKind.u32.wrap ((BitVec.ofInt 32 v.a ||| (BitVec.ofInt 32 cv.a)).toNat : Int)), .int .u32 0, .int .u32 0, .int .u32 0]
    refine takesU (by kernel_rfl) (pqT (pqT (pqB (pqT (pqB (pqT (pqB (pqT (pqB (pqT (pqB (pqT pqF)))))))))))) hE (hR.ss [2, 3] (by kernel_rfl)) [(0, .op []), (1, .op (hks 1 0 10)), (2, .op []), (3, .op [.k 1 10]), (4, .op []), (5, .op []), (6, .op [.k 1 11]), (7, .op []), (8, .op []), (9, .op [.k 0 2]), (10, .op []), (11, .op []), (12, .op []), (13, .op [])] 6 [(129, kv9), (130, .func (.func 74) #[] #[.pointer (some ⟨H0, 0, none⟩)])] #[true, true, true, true, true, true, true, true, true, true, true, true, true, true, false, false, false, false, false, false] [] (by kernel_rfl) (by kernel_rfl) (by kernel_rfl) trivial ?_
    clear hE; intro a hE
    refine wpAnyH_all (rs := [14]) (by kernel_rfl) (by simp) (allCons ?_ allNil)
    refine call hE hR [] 74 #[.pointer (some ⟨H0, 0, none⟩)] (some 131) [] (by kernel_rfl) (by kernel_rfl) trivial (wordI_calls _ _ v.a _ (hR.rangeK 3 rfl) rfl) (fun _ _ h => by cases h.1) (fun _ h => by cases h.1) ?_
    clear hE
    rintro v u ⟨hv, hb⟩ a hE
    cases hv
    obtain ⟨H2, hH2, hR⟩ := hR.callE hb
    refine ⟨(hR.ss [2, 3] (by kernel_rfl)), ?_⟩
    show wpAnyH _ _ _ _ _ _ #[true, true, true, true, true, true, true, true, true, true, true, true, true, true, true, false, false, false, false, false] _ _
    let kv10 : Value := .agg #[.int .i64 0, .int .u32 v.a, .int .u32 0, .int .u32 0, .int .u32 0]
    refine takesU (by kernel_rfl) (pqT (pqT (pqB (pqT (pqB (pqT (pqB (pqT (pqB (pqT (pqB (pqT pqF)))))))))))) hE (hR.ss [2, 3] (by kernel_rfl)) [(15, .op [])] 4 [(132, kv10)] #[true, true, true, true, true, true, true, true, true, true, true, true, true, true, true, true, false, false, false, false] [] (by kernel_rfl) (by kernel_rfl) (by kernel_rfl) trivial ?_
    clear hE; intro a hE
    refine wpAnyH_all (rs := [16]) (by kernel_rfl) (by simp) (allCons ?_ allNil)
    refine oneU hE hR (.op (hks 1 0 15)) [] [⟨H0 + 3, 0, kc3, 63, true⟩, ⟨H0 + 2, 0, kc8, 116, true⟩, ⟨H0 + 1, 0, kc5, 60, true⟩, ⟨H0, 0, kc6, 116, true⟩] (H2) [] (by kernel_rfl) (by kernel_rfl) trivial ?_
    clear hE hR; intro a u hE hR
    refine ⟨(hR.ss [2, 3] (by kernel_rfl)), ?_⟩
    show wpAnyH _ _ _ _ _ _ #[true, true, true, true, true, true, true, true, true, true, true, true, true, true, true, true, true, false, false, false] _ _
    refine wpAnyH_all (rs := [17]) (by kernel_rfl) (by simp) (allCons ?_ allNil)
    refine one hE hR (.op (hks 0 0 5)) [(3, .pointer (some ⟨H0, 0, none⟩)), (5, .pointer (some ⟨H0 + 1, 0, none⟩)), (6, .pointer (some ⟨H0 + 2, 0, none⟩)), (7, .pointer (some ⟨H0 + 3, 0, none⟩)), (8, .bool false), (9, .bool false), (10, .func (.func 74) #[] #[.pointer (some ⟨H0, 0, none⟩)]), (15, .agg #[.int .i64 7, .int .i64 4]), (16, .bool false), (19, .bool false), (22, .bool false), (27, .bool false), (34, .bool true)] [⟨H0 + 3, 0, kc7, 63, true⟩, ⟨H0 + 2, 0, kc8, 116, true⟩, ⟨H0 + 1, 0, kc5, 60, true⟩, ⟨H0, 0, kc6, 116, true⟩] (H2) [] (by kernel_rfl) (by kernel_rfl) trivial ?_
    clear hE hR; intro a u hE hR
    refine ⟨(hR.ss [2, 3] (by kernel_rfl)), ?_⟩
    show wpAnyH _ _ _ _ _ _ #[true, true, true, true, true, true, true, true, true, true, true, true, true, true, true, true, true, true, false, false] _ _
    refine takesU (by kernel_rfl) (pqT (pqT (pqB (pqT (pqB (pqT (pqB (pqT (pqB (pqT (pqB (pqT pqF)))))))))))) hE (hR.ss [2, 3] (by kernel_rfl)) [(18, .op []), (19, .op [])] 0 [(8, .bool true), (9, .bool true)] #[true, true, true, true, true, true, true, true, true, true, true, true, true, true, true, true, true, true, true, true] [] (by kernel_rfl) (by kernel_rfl) (by kernel_rfl) trivial ?_
    clear hE; intro a hE
    refine wpAnyH_done (by kernel_rfl) ?_ _
    refine thenN ?_
    exact ⟨hE.sub (by kernel_rfl), _, hR⟩
  clear hE hR
  rintro a u ⟨hE, J1, hR⟩
  refine wp_ret ?_; refine thenR ?_; refine blkR ?_; refine thenR ?_; refine blkR ?_; refine thenR ?_; refine blkR ?_; refine thenR ?_; refine blkR ?_; refine thenR ?_; refine blkR ?_
  refine thenR ?_
  refine retF hE hR (hks 1 0 15 ++ hks 0 0 5) (.tuple #[.agg #[.int .i64 o.kind, .int .i64 o.cap, .int .i64 o.width, .int .i64 o.retry, .int .i64 o.src, .int .i64 o.dst, .int .u32 o.i0, .int .u32 o.i1, .int .u32 o.i2, .int .u32 o.i3, .slice A n c, .int .u32 (IntKind.u32.wrap ((BitVec.ofInt 32 v.a ||| (BitVec.ofInt 32 cv.a)).toNat : Int)), .int .u32 0, .int .u32 0, .int .u32 0], .agg #[.int .i64 0, .int .u32 v.a, .int .u32 0, .int .u32 0, .int .u32 0], .bool true, .bool true]) (by kernel_rfl) (by kernel_rfl) (by kernel_rfl) ?_
  exact ⟨rfl, hR.below (by simp)⟩
set_option maxRecDepth 100000 in
theorem done_clear (o : Ob) (v : Vl) (ck co : Int) (cv : Vl) (cn : Int) (A : Option Addr) (n c : Nat) (w : World) (hkk : kindP o = 4)  :
    Calls Try.prog 50 #[itA o (.slice A n c) v, .int .i64 8, callA ck co cv cn] w fun e W' => e = .returned (.tuple #[itA o (.slice A n c) ⟨andNotP v.a cv.a, 0, 0, 0⟩, resA 0 ⟨v.a, 0, 0, 0⟩, .bool true, .bool true]) ∧ Below w.heap.size w W' := by
  have HK := fun W => kind_calls o A (n) (c) v W
  rw [hkk] at HK
  let kv1 : Value := .agg #[.int .i64 o.kind, .int .i64 o.cap, .int .i64 o.width, .int .i64 o.retry, .int .i64 o.src, .int .i64 o.dst, .int .u32 o.i0, .int .u32 o.i1, .int .u32 o.i2, .int .u32 o.i3, .slice A n c, .int .u32 v.a, .int .u32 v.b, .int .u32 v.c, .int .u32 v.d]
  let kv2 : Value := .agg #[.int .i64 ck, .int .i64 co, .int .u32 cv.a, .int .u32 cv.b, .int .u32 cv.c, .int .u32 cv.d, .int .u32 cn]
  refine enterF Try.func50 rfl Try.ntmps50 [(0, kv1), (1, .int .i64 8), (2, kv2)] (by kernel_rfl) (by kernel_rfl) ?_
  have hR := Rep.start w
  obtain ⟨H0, hH0⟩ : ∃ x, x = w.heap.size := ⟨_, rfl⟩
  rw [← hH0] at hR
  intro a hE
  refine wp_seq ?_
  refine enterR (idx := [0, 1, 2, 3, 4, 5]) (by kernel_rfl) ?_
  let kc3 : List Value := [.int .i64 0, .int .u32 0, .int .u32 0, .int .u32 0, .int .u32 0]
  let kc4 : List Value := [.int .i64 0, .int .i64 0, .int .i64 0, .int .i64 0, .int .i64 0, .int .i64 0, .int .u32 0, .int .u32 0, .int .u32 0, .int .u32 0, .slice none 0 0, .int .u32 0, .int .u32 0, .int .u32 0, .int .u32 0]
  let kc5 : List Value := [.int .i64 ck, .int .i64 co, .int .u32 cv.a, .int .u32 cv.b, .int .u32 cv.c, .int .u32 cv.d, .int .u32 cn]
  let kc6 : List Value := [.int .i64 o.kind, .int .i64 o.cap, .int .i64 o.width, .int .i64 o.retry, .int .i64 o.src, .int .i64 o.dst, .int .u32 o.i0, .int .u32 o.i1, .int .u32 o.i2, .int .u32 o.i3, .slice A n c, .int .u32 v.a, .int .u32 v.b, .int .u32 v.c, .int .u32 v.d]
  refine segU hE hR [(0, .op []), (1, .op []), (2, .op []), (3, .op []), (4, .op []), (5, .op [])] [] [(3, .pointer (some ⟨H0, 0, none⟩)), (5, .pointer (some ⟨H0 + 1, 0, none⟩)), (6, .pointer (some ⟨H0 + 2, 0, none⟩)), (7, .pointer (some ⟨H0 + 3, 0, none⟩)), (8, .bool false), (9, .bool false)] [⟨H0 + 3, 0, kc3, 63, true⟩, ⟨H0 + 2, 0, kc4, 116, true⟩, ⟨H0 + 1, 0, kc5, 60, true⟩, ⟨H0, 0, kc6, 116, true⟩] (H0 + 4) [] (by kernel_rfl) (by kernel_rfl) (by kernel_rfl) trivial ?_
  clear hE hR; intro a u hE hR
  refine opsNil ?_; refine thenN ?_; refine wp_seq ?_
  refine enterR (idx := [0, 1]) (by kernel_rfl) ?_
  refine segV hE hR [(0, .op []), (1, .op [])] [] [(10, .func (.func 74) #[] #[.pointer (some ⟨H0, 0, none⟩)])] [] (by kernel_rfl) (by kernel_rfl) (by kernel_rfl) trivial ?_
  clear hE hR; intro a u hE hR
  refine opsNil ?_; refine thenN ?_; refine wp_seq ?_; refine wp_seq ?_
  refine enterR (idx := [0, 1, 2, 3]) (by kernel_rfl) ?_
  refine segV hE hR [(0, .op []), (1, .op (hks 3 0 15))] [2, 3] [(12, .int .i64 8), (13, kv1)] [] (by kernel_rfl) (by kernel_rfl) (by kernel_rfl) trivial ?_
  clear hE hR; intro a u hE hR
  refine opsCons ?_
  refine call hE hR [] 45 #[kv1] (some 14) [] (by kernel_rfl) (by kernel_rfl) trivial (HK _) (fun _ _ h => by cases h.1) (fun _ h => by cases h.1) ?_
  clear hE
  rintro v u ⟨hv, hb⟩ a hE
  cases hv
  obtain ⟨H1, hH1, hR⟩ := hR.callE hb
  refine segV hE hR [(3, .op [])] [] [(15, .agg #[.int .i64 8, .int .i64 4])] [] (by kernel_rfl) (by kernel_rfl) (by kernel_rfl) trivial ?_
  clear hE hR; intro a u hE hR
  refine opsNil ?_; refine thenN ?_; refine wp_block ?_; refine wp_seq ?_; refine wp_block ?_; refine wp_seq ?_; refine wp_block ?_; refine wp_seq ?_; refine wp_block ?_; refine wp_seq ?_
  refine wp_block ?_; refine wp_seq ?_; refine wp_block ?_; refine wp_seq ?_; refine wp_block ?_; refine wp_seq ?_; refine wp_block ?_; refine wp_seq ?_; refine wp_block ?_; refine wp_seq ?_
  refine wp_block ?_; refine wp_seq ?_; refine wp_seq ?_; refine wp_seq ?_
  refine enterR (idx := [0, 1, 2]) (by kernel_rfl) ?_
  refine segV hE hR [(0, .op []), (1, .op []), (2, .op [])] [] [(16, .bool false)] [] (by kernel_rfl) (by kernel_rfl) (by kernel_rfl) trivial ?_
  clear hE hR; intro a u hE hR
  refine opsNil ?_; refine thenN ?_
  refine condF hE (b := false) (by kernel_rfl) rfl ?_
  refine wp_skip ?_; refine thenN ?_; refine wp_seq ?_; refine wp_seq ?_
  refine enterR (idx := [0, 1, 2]) (by kernel_rfl) ?_
  refine segV hE hR [(0, .op []), (1, .op []), (2, .op [])] [] [(19, .bool false)] [] (by kernel_rfl) (by kernel_rfl) (by kernel_rfl) trivial ?_
  clear hE hR; intro a u hE hR
  refine opsNil ?_; refine thenN ?_
  refine condF hE (b := false) (by kernel_rfl) rfl ?_
  refine wp_skip ?_; refine thenN ?_; refine wp_seq ?_; refine wp_seq ?_; refine wp_seq ?_
  refine enterR (idx := [0, 1, 2]) (by kernel_rfl) ?_
  refine segV hE hR [(0, .op []), (1, .op []), (2, .op [])] [] [(22, .bool false)] [] (by kernel_rfl) (by kernel_rfl) (by kernel_rfl) trivial ?_
  clear hE hR; intro a u hE hR
  refine opsNil ?_; refine thenN ?_
  refine condF hE (b := false) (by kernel_rfl) rfl ?_
  refine enterR (idx := [0, 1, 2]) (by kernel_rfl) ?_
  refine seg0 hE hR [(0, .op []), (1, .op []), (2, .op [])] [] [(3, .pointer (some ⟨H0, 0, none⟩)), (5, .pointer (some ⟨H0 + 1, 0, none⟩)), (6, .pointer (some ⟨H0 + 2, 0, none⟩)), (7, .pointer (some ⟨H0 + 3, 0, none⟩)), (8, .bool false), (9, .bool false), (10, .func (.func 74) #[] #[.pointer (some ⟨H0, 0, none⟩)]), (15, .agg #[.int .i64 8, .int .i64 4]), (16, .bool false), (19, .bool false), (22, .bool false)] [] (by kernel_rfl) (by kernel_rfl) (by kernel_rfl) trivial ?_
  clear hE hR; intro a u hE hR
  refine opsNil ?_; refine thenN ?_
  refine condF hE (b := false) (by kernel_rfl) rfl ?_
  refine wp_skip ?_; refine thenN ?_; refine wp_seq ?_; refine wp_seq ?_; refine wp_seq ?_
  refine enterR (idx := [0, 1, 2]) (by kernel_rfl) ?_
  refine segV hE hR [(0, .op []), (1, .op []), (2, .op [])] [] [(27, .bool false)] [] (by kernel_rfl) (by kernel_rfl) (by kernel_rfl) trivial ?_
  clear hE hR; intro a u hE hR
  refine opsNil ?_; refine thenN ?_
  refine condF hE (b := false) (by kernel_rfl) rfl ?_
  refine wp_seq ?_
  refine enterR (idx := [0, 1, 2]) (by kernel_rfl) ?_
  refine segV hE hR [(0, .op []), (1, .op []), (2, .op [])] [] [] [] (by kernel_rfl) (by kernel_rfl) (by kernel_rfl) trivial ?_
  clear hE hR; intro a u hE hR
  refine opsNil ?_; refine thenN ?_
  refine condF hE (b := false) (by kernel_rfl) rfl ?_
  refine enterR (idx := [0, 1, 2]) (by kernel_rfl) ?_
  refine segV hE hR [(0, .op []), (1, .op []), (2, .op [])] [] [] [] (by kernel_rfl) (by kernel_rfl) (by kernel_rfl) trivial ?_
  clear hE hR; intro a u hE hR
  refine opsNil ?_; refine thenN ?_
  refine condF hE (b := false) (by kernel_rfl) rfl ?_
  refine wp_skip ?_; refine thenN ?_; refine wp_seq ?_; refine wp_seq ?_
  refine enterR (idx := [0, 1, 2]) (by kernel_rfl) ?_
  refine segV hE hR [(0, .op []), (1, .op []), (2, .op [])] [] [(34, .bool false)] [] (by kernel_rfl) (by kernel_rfl) (by kernel_rfl) trivial ?_
  clear hE hR; intro a u hE hR
  refine opsNil ?_; refine thenN ?_
  refine condF hE (b := false) (by kernel_rfl) rfl ?_
  refine wp_skip ?_; refine thenN ?_; refine wp_seq ?_; refine wp_seq ?_
  refine enterR (idx := [0, 1, 2]) (by kernel_rfl) ?_
  refine segV hE hR [(0, .op []), (1, .op []), (2, .op [])] [] [(37, .bool true)] [] (by kernel_rfl) (by kernel_rfl) (by kernel_rfl) trivial ?_
  clear hE hR; intro a u hE hR
  refine opsNil ?_; refine thenN ?_
  refine condT hE (b := true) (by kernel_rfl) rfl ?_
  refine wp_exit ?_; refine thenE ?_; refine thenE ?_; refine blkX (by kernel_rfl) ?_; refine thenE ?_; refine blkX (by kernel_rfl) ?_; refine thenE ?_; refine blkX (by kernel_rfl) ?_
  refine thenE ?_; refine blkX (by kernel_rfl) ?_; refine thenE ?_; refine blkX (by kernel_rfl) ?_; refine thenE ?_; refine blkE ?_; refine thenN ?_; refine wp_seq ?_
  let kc7 : List Value := [.int .i64 0, .int .u32 v.a, .int .u32 0, .int .u32 0, .int .u32 0]
  let kc8 : List Value := [.int .i64 o.kind, .int .i64 o.cap, .int .i64 o.width, .int .i64 o.retry, .int .i64 o.src, .int .i64 o.dst, .int .u32 o.i0, .int .u32 o.i1, .int .u32 o.i2, .int .u32 o.i3, .slice A n c, .int .u32 (IntKind.u32.wrap ((BitVec.ofInt 32 v.a &&& ~~~ (BitVec.ofInt 32 cv.a)).toNat : Int)), .int .u32 0, .int .u32 0, .int .u32 0]
  refine seqJ (fun a u => TE a 179 [(3, .pointer (some ⟨H0, 0, none⟩)), (5, .pointer (some ⟨H0 + 1, 0, none⟩)), (6, .pointer (some ⟨H0 + 2, 0, none⟩)), (7, .pointer (some ⟨H0 + 3, 0, none⟩)), (8, .bool true), (9, .bool true), (10, .func (.func 74) #[] #[.pointer (some ⟨H0, 0, none⟩)]), (15, .agg #[.int .i64 8, .int .i64 4]), (16, .bool false), (19, .bool false), (22, .bool false), (27, .bool false), (34, .bool false), (37, .bool true)] ∧ ∃ H, Rep [(w, fun _ => True)] u H [⟨H0 + 3, 0, kc7, 63, true⟩, ⟨H0 + 2, 0, kc8, 116, true⟩, ⟨H0 + 1, 0, kc5, 60, true⟩, ⟨H0, 0, kc6, 116, true⟩] []) ?_ ?_
  · show Code.wp _ _ _ _ _
    refine enterD (kl := [⟨H0 + 1, 0, kc5, 60, true⟩, ⟨H0, 0, kc6, 116, true⟩]) (by kernel_rfl) hR (F := 20) (listed := #[false, false, false, false, false, false, false, false, false, false, false, false, false, false, false, false, false, false, false, false]) (by kernel_rfl) (by kernel_rfl) ?_
    clear hR
    intro u hR
    let kv9 : Value := .agg #[.int .i64 o.kind, .int .i64 o.cap, .int .i64 o.width, .int .i64 o.retry, .int .i64 o.src, .int .i64 o.dst, .int .u32 o.i0, .int .u32 o.i1, .int .u32 o.i2, .int .u32 o.i3, .slice A n c, .int .u32 (IntKind.u32.wrap ((BitVec.ofInt 32 v.a &&& ~~~ (BitVec.ofInt 32 cv.a)).toNat : Int)), .int .u32 0, .int .u32 0, .int .u32 0]
    refine takesU (by kernel_rfl) (pqT (pqT (pqB (pqT (pqB (pqT (pqB (pqT (pqB (pqT pqF)))))))))) hE (hR.ss [2, 3] (by kernel_rfl)) [(0, .op []), (1, .op (hks 1 0 10)), (2, .op []), (3, .op [.k 1 10]), (4, .op []), (5, .op []), (6, .op [.k 1 11]), (7, .op []), (8, .op []), (9, .op [.k 0 2]), (10, .op []), (11, .op []), (12, .op []), (13, .op [])] 6 [(145, kv9), (146, .func (.func 74) #[] #[.pointer (some ⟨H0, 0, none⟩)])] #[true, true, true, true, true, true, true, true, true, true, true, true, true, true, false, false, false, false, false, false] [] (by kernel_rfl) (by kernel_rfl) (by kernel_rfl) trivial ?_
    clear hE; intro a hE
    refine wpAnyH_all (rs := [14]) (by kernel_rfl) (by simp) (allCons ?_ allNil)
    refine call hE hR [] 74 #[.pointer (some ⟨H0, 0, none⟩)] (some 147) [] (by kernel_rfl) (by kernel_rfl) trivial (wordI_calls _ _ v.a _ (hR.rangeK 3 rfl) rfl) (fun _ _ h => by cases h.1) (fun _ h => by cases h.1) ?_
    clear hE
    rintro v u ⟨hv, hb⟩ a hE
    cases hv
    obtain ⟨H2, hH2, hR⟩ := hR.callE hb
    refine ⟨(hR.ss [2, 3] (by kernel_rfl)), ?_⟩
    show wpAnyH _ _ _ _ _ _ #[true, true, true, true, true, true, true, true, true, true, true, true, true, true, true, false, false, false, false, false] _ _
    let kv10 : Value := .agg #[.int .i64 0, .int .u32 v.a, .int .u32 0, .int .u32 0, .int .u32 0]
    refine takesU (by kernel_rfl) (pqT (pqT (pqB (pqT (pqB (pqT (pqB (pqT (pqB (pqT pqF)))))))))) hE (hR.ss [2, 3] (by kernel_rfl)) [(15, .op [])] 4 [(148, kv10)] #[true, true, true, true, true, true, true, true, true, true, true, true, true, true, true, true, false, false, false, false] [] (by kernel_rfl) (by kernel_rfl) (by kernel_rfl) trivial ?_
    clear hE; intro a hE
    refine wpAnyH_all (rs := [16]) (by kernel_rfl) (by simp) (allCons ?_ allNil)
    refine one hE hR (.op (hks 1 0 15)) [(3, .pointer (some ⟨H0, 0, none⟩)), (5, .pointer (some ⟨H0 + 1, 0, none⟩)), (6, .pointer (some ⟨H0 + 2, 0, none⟩)), (7, .pointer (some ⟨H0 + 3, 0, none⟩)), (8, .bool false), (9, .bool false), (10, .func (.func 74) #[] #[.pointer (some ⟨H0, 0, none⟩)]), (15, .agg #[.int .i64 8, .int .i64 4]), (16, .bool false), (19, .bool false), (22, .bool false), (27, .bool false), (34, .bool false), (37, .bool true), (148, kv10)] [⟨H0 + 3, 0, kc3, 63, true⟩, ⟨H0 + 2, 0, kc8, 116, true⟩, ⟨H0 + 1, 0, kc5, 60, true⟩, ⟨H0, 0, kc6, 116, true⟩] (H2) [] (by kernel_rfl) (by kernel_rfl) trivial ?_
    clear hE hR; intro a u hE hR
    refine ⟨(hR.ss [2, 3] (by kernel_rfl)), ?_⟩
    show wpAnyH _ _ _ _ _ _ #[true, true, true, true, true, true, true, true, true, true, true, true, true, true, true, true, true, false, false, false] _ _
    refine wpAnyH_all (rs := [17]) (by kernel_rfl) (by simp) (allCons ?_ allNil)
    refine oneU hE hR (.op (hks 0 0 5)) [] [⟨H0 + 3, 0, kc7, 63, true⟩, ⟨H0 + 2, 0, kc8, 116, true⟩, ⟨H0 + 1, 0, kc5, 60, true⟩, ⟨H0, 0, kc6, 116, true⟩] (H2) [] (by kernel_rfl) (by kernel_rfl) trivial ?_
    clear hE hR; intro a u hE hR
    refine ⟨(hR.ss [2, 3] (by kernel_rfl)), ?_⟩
    show wpAnyH _ _ _ _ _ _ #[true, true, true, true, true, true, true, true, true, true, true, true, true, true, true, true, true, true, false, false] _ _
    refine takesU (by kernel_rfl) (pqT (pqT (pqB (pqT (pqB (pqT (pqB (pqT (pqB (pqT pqF)))))))))) hE (hR.ss [2, 3] (by kernel_rfl)) [(18, .op []), (19, .op [])] 0 [(8, .bool true), (9, .bool true)] #[true, true, true, true, true, true, true, true, true, true, true, true, true, true, true, true, true, true, true, true] [] (by kernel_rfl) (by kernel_rfl) (by kernel_rfl) trivial ?_
    clear hE; intro a hE
    refine wpAnyH_done (by kernel_rfl) ?_ _
    refine thenN ?_
    exact ⟨hE.sub (by kernel_rfl), _, hR⟩
  clear hE hR
  rintro a u ⟨hE, J1, hR⟩
  refine wp_ret ?_; refine thenR ?_; refine blkR ?_; refine thenR ?_; refine blkR ?_; refine thenR ?_; refine blkR ?_; refine thenR ?_; refine blkR ?_; refine thenR ?_
  refine retF hE hR (hks 1 0 15 ++ hks 0 0 5) (.tuple #[.agg #[.int .i64 o.kind, .int .i64 o.cap, .int .i64 o.width, .int .i64 o.retry, .int .i64 o.src, .int .i64 o.dst, .int .u32 o.i0, .int .u32 o.i1, .int .u32 o.i2, .int .u32 o.i3, .slice A n c, .int .u32 (IntKind.u32.wrap ((BitVec.ofInt 32 v.a &&& ~~~ (BitVec.ofInt 32 cv.a)).toNat : Int)), .int .u32 0, .int .u32 0, .int .u32 0], .agg #[.int .i64 0, .int .u32 v.a, .int .u32 0, .int .u32 0, .int .u32 0], .bool true, .bool true]) (by kernel_rfl) (by kernel_rfl) (by kernel_rfl) ?_
  exact ⟨rfl, hR.below (by simp)⟩
set_option maxRecDepth 100000 in
theorem done_get (o : Ob) (v : Vl) (ck co : Int) (cv : Vl) (cn : Int) (A : Option Addr) (n c : Nat) (w : World) (hkk : kindP o = 4)  :
    Calls Try.prog 50 #[itA o (.slice A n c) v, .int .i64 9, callA ck co cv cn] w fun e W' => e = .returned (.tuple #[itA o (.slice A n c) v, resA 0 ⟨v.a, 0, 0, 0⟩, .bool false, .bool true]) ∧ Below w.heap.size w W' := by
  have HK := fun W => kind_calls o A (n) (c) v W
  rw [hkk] at HK
  let kv1 : Value := .agg #[.int .i64 o.kind, .int .i64 o.cap, .int .i64 o.width, .int .i64 o.retry, .int .i64 o.src, .int .i64 o.dst, .int .u32 o.i0, .int .u32 o.i1, .int .u32 o.i2, .int .u32 o.i3, .slice A n c, .int .u32 v.a, .int .u32 v.b, .int .u32 v.c, .int .u32 v.d]
  let kv2 : Value := .agg #[.int .i64 ck, .int .i64 co, .int .u32 cv.a, .int .u32 cv.b, .int .u32 cv.c, .int .u32 cv.d, .int .u32 cn]
  refine enterF Try.func50 rfl Try.ntmps50 [(0, kv1), (1, .int .i64 9), (2, kv2)] (by kernel_rfl) (by kernel_rfl) ?_
  have hR := Rep.start w
  obtain ⟨H0, hH0⟩ : ∃ x, x = w.heap.size := ⟨_, rfl⟩
  rw [← hH0] at hR
  intro a hE
  refine wp_seq ?_
  refine enterR (idx := [0, 1, 2, 3, 4, 5]) (by kernel_rfl) ?_
  let kc3 : List Value := [.int .i64 0, .int .u32 0, .int .u32 0, .int .u32 0, .int .u32 0]
  let kc4 : List Value := [.int .i64 0, .int .i64 0, .int .i64 0, .int .i64 0, .int .i64 0, .int .i64 0, .int .u32 0, .int .u32 0, .int .u32 0, .int .u32 0, .slice none 0 0, .int .u32 0, .int .u32 0, .int .u32 0, .int .u32 0]
  let kc5 : List Value := [.int .i64 ck, .int .i64 co, .int .u32 cv.a, .int .u32 cv.b, .int .u32 cv.c, .int .u32 cv.d, .int .u32 cn]
  let kc6 : List Value := [.int .i64 o.kind, .int .i64 o.cap, .int .i64 o.width, .int .i64 o.retry, .int .i64 o.src, .int .i64 o.dst, .int .u32 o.i0, .int .u32 o.i1, .int .u32 o.i2, .int .u32 o.i3, .slice A n c, .int .u32 v.a, .int .u32 v.b, .int .u32 v.c, .int .u32 v.d]
  refine segU hE hR [(0, .op []), (1, .op []), (2, .op []), (3, .op []), (4, .op []), (5, .op [])] [] [(3, .pointer (some ⟨H0, 0, none⟩)), (5, .pointer (some ⟨H0 + 1, 0, none⟩)), (6, .pointer (some ⟨H0 + 2, 0, none⟩)), (7, .pointer (some ⟨H0 + 3, 0, none⟩)), (8, .bool false), (9, .bool false)] [⟨H0 + 3, 0, kc3, 63, true⟩, ⟨H0 + 2, 0, kc4, 116, true⟩, ⟨H0 + 1, 0, kc5, 60, true⟩, ⟨H0, 0, kc6, 116, true⟩] (H0 + 4) [] (by kernel_rfl) (by kernel_rfl) (by kernel_rfl) trivial ?_
  clear hE hR; intro a u hE hR
  refine opsNil ?_; refine thenN ?_; refine wp_seq ?_
  refine enterR (idx := [0, 1]) (by kernel_rfl) ?_
  refine segV hE hR [(0, .op []), (1, .op [])] [] [(10, .func (.func 74) #[] #[.pointer (some ⟨H0, 0, none⟩)])] [] (by kernel_rfl) (by kernel_rfl) (by kernel_rfl) trivial ?_
  clear hE hR; intro a u hE hR
  refine opsNil ?_; refine thenN ?_; refine wp_seq ?_; refine wp_seq ?_
  refine enterR (idx := [0, 1, 2, 3]) (by kernel_rfl) ?_
  refine segV hE hR [(0, .op []), (1, .op (hks 3 0 15))] [2, 3] [(12, .int .i64 9), (13, kv1)] [] (by kernel_rfl) (by kernel_rfl) (by kernel_rfl) trivial ?_
  clear hE hR; intro a u hE hR
  refine opsCons ?_
  refine call hE hR [] 45 #[kv1] (some 14) [] (by kernel_rfl) (by kernel_rfl) trivial (HK _) (fun _ _ h => by cases h.1) (fun _ h => by cases h.1) ?_
  clear hE
  rintro v u ⟨hv, hb⟩ a hE
  cases hv
  obtain ⟨H1, hH1, hR⟩ := hR.callE hb
  refine segV hE hR [(3, .op [])] [] [(15, .agg #[.int .i64 9, .int .i64 4])] [] (by kernel_rfl) (by kernel_rfl) (by kernel_rfl) trivial ?_
  clear hE hR; intro a u hE hR
  refine opsNil ?_; refine thenN ?_; refine wp_block ?_; refine wp_seq ?_; refine wp_block ?_; refine wp_seq ?_; refine wp_block ?_; refine wp_seq ?_; refine wp_block ?_; refine wp_seq ?_
  refine wp_block ?_; refine wp_seq ?_; refine wp_block ?_; refine wp_seq ?_; refine wp_block ?_; refine wp_seq ?_; refine wp_block ?_; refine wp_seq ?_; refine wp_block ?_; refine wp_seq ?_
  refine wp_block ?_; refine wp_seq ?_; refine wp_seq ?_; refine wp_seq ?_
  refine enterR (idx := [0, 1, 2]) (by kernel_rfl) ?_
  refine segV hE hR [(0, .op []), (1, .op []), (2, .op [])] [] [(16, .bool false)] [] (by kernel_rfl) (by kernel_rfl) (by kernel_rfl) trivial ?_
  clear hE hR; intro a u hE hR
  refine opsNil ?_; refine thenN ?_
  refine condF hE (b := false) (by kernel_rfl) rfl ?_
  refine wp_skip ?_; refine thenN ?_; refine wp_seq ?_; refine wp_seq ?_
  refine enterR (idx := [0, 1, 2]) (by kernel_rfl) ?_
  refine segV hE hR [(0, .op []), (1, .op []), (2, .op [])] [] [(19, .bool false)] [] (by kernel_rfl) (by kernel_rfl) (by kernel_rfl) trivial ?_
  clear hE hR; intro a u hE hR
  refine opsNil ?_; refine thenN ?_
  refine condF hE (b := false) (by kernel_rfl) rfl ?_
  refine wp_skip ?_; refine thenN ?_; refine wp_seq ?_; refine wp_seq ?_; refine wp_seq ?_
  refine enterR (idx := [0, 1, 2]) (by kernel_rfl) ?_
  refine segV hE hR [(0, .op []), (1, .op []), (2, .op [])] [] [(22, .bool false)] [] (by kernel_rfl) (by kernel_rfl) (by kernel_rfl) trivial ?_
  clear hE hR; intro a u hE hR
  refine opsNil ?_; refine thenN ?_
  refine condF hE (b := false) (by kernel_rfl) rfl ?_
  refine enterR (idx := [0, 1, 2]) (by kernel_rfl) ?_
  refine seg0 hE hR [(0, .op []), (1, .op []), (2, .op [])] [] [(3, .pointer (some ⟨H0, 0, none⟩)), (5, .pointer (some ⟨H0 + 1, 0, none⟩)), (6, .pointer (some ⟨H0 + 2, 0, none⟩)), (7, .pointer (some ⟨H0 + 3, 0, none⟩)), (8, .bool false), (9, .bool false), (10, .func (.func 74) #[] #[.pointer (some ⟨H0, 0, none⟩)]), (15, .agg #[.int .i64 9, .int .i64 4]), (16, .bool false), (19, .bool false), (22, .bool false)] [] (by kernel_rfl) (by kernel_rfl) (by kernel_rfl) trivial ?_
  clear hE hR; intro a u hE hR
  refine opsNil ?_; refine thenN ?_
  refine condF hE (b := false) (by kernel_rfl) rfl ?_
  refine wp_skip ?_; refine thenN ?_; refine wp_seq ?_; refine wp_seq ?_; refine wp_seq ?_
  refine enterR (idx := [0, 1, 2]) (by kernel_rfl) ?_
  refine segV hE hR [(0, .op []), (1, .op []), (2, .op [])] [] [(27, .bool false)] [] (by kernel_rfl) (by kernel_rfl) (by kernel_rfl) trivial ?_
  clear hE hR; intro a u hE hR
  refine opsNil ?_; refine thenN ?_
  refine condF hE (b := false) (by kernel_rfl) rfl ?_
  refine wp_seq ?_
  refine enterR (idx := [0, 1, 2]) (by kernel_rfl) ?_
  refine segV hE hR [(0, .op []), (1, .op []), (2, .op [])] [] [] [] (by kernel_rfl) (by kernel_rfl) (by kernel_rfl) trivial ?_
  clear hE hR; intro a u hE hR
  refine opsNil ?_; refine thenN ?_
  refine condF hE (b := false) (by kernel_rfl) rfl ?_
  refine enterR (idx := [0, 1, 2]) (by kernel_rfl) ?_
  refine segV hE hR [(0, .op []), (1, .op []), (2, .op [])] [] [] [] (by kernel_rfl) (by kernel_rfl) (by kernel_rfl) trivial ?_
  clear hE hR; intro a u hE hR
  refine opsNil ?_; refine thenN ?_
  refine condF hE (b := false) (by kernel_rfl) rfl ?_
  refine wp_skip ?_; refine thenN ?_; refine wp_seq ?_; refine wp_seq ?_
  refine enterR (idx := [0, 1, 2]) (by kernel_rfl) ?_
  refine segV hE hR [(0, .op []), (1, .op []), (2, .op [])] [] [(34, .bool false)] [] (by kernel_rfl) (by kernel_rfl) (by kernel_rfl) trivial ?_
  clear hE hR; intro a u hE hR
  refine opsNil ?_; refine thenN ?_
  refine condF hE (b := false) (by kernel_rfl) rfl ?_
  refine wp_skip ?_; refine thenN ?_; refine wp_seq ?_; refine wp_seq ?_
  refine enterR (idx := [0, 1, 2]) (by kernel_rfl) ?_
  refine segV hE hR [(0, .op []), (1, .op []), (2, .op [])] [] [(37, .bool false)] [] (by kernel_rfl) (by kernel_rfl) (by kernel_rfl) trivial ?_
  clear hE hR; intro a u hE hR
  refine opsNil ?_; refine thenN ?_
  refine condF hE (b := false) (by kernel_rfl) rfl ?_
  refine wp_skip ?_; refine thenN ?_; refine wp_seq ?_; refine wp_seq ?_
  refine enterR (idx := [0, 1, 2]) (by kernel_rfl) ?_
  refine segV hE hR [(0, .op []), (1, .op []), (2, .op [])] [] [(40, .bool false)] [] (by kernel_rfl) (by kernel_rfl) (by kernel_rfl) trivial ?_
  clear hE hR; intro a u hE hR
  refine opsNil ?_; refine thenN ?_
  refine condF hE (b := false) (by kernel_rfl) rfl ?_
  refine wp_skip ?_; refine thenN ?_; refine wp_seq ?_; refine wp_seq ?_
  refine enterR (idx := [0, 1, 2]) (by kernel_rfl) ?_
  refine segV hE hR [(0, .op []), (1, .op []), (2, .op [])] [] [(43, .bool false)] [] (by kernel_rfl) (by kernel_rfl) (by kernel_rfl) trivial ?_
  clear hE hR; intro a u hE hR
  refine opsNil ?_; refine thenN ?_
  refine condF hE (b := false) (by kernel_rfl) rfl ?_
  refine wp_skip ?_; refine thenN ?_; refine wp_seq ?_
  refine enterR (idx := [0, 1, 2]) (by kernel_rfl) ?_
  refine seg0 hE hR [(0, .op []), (1, .op []), (2, .op [])] [] [(3, .pointer (some ⟨H0, 0, none⟩)), (5, .pointer (some ⟨H0 + 1, 0, none⟩)), (6, .pointer (some ⟨H0 + 2, 0, none⟩)), (7, .pointer (some ⟨H0 + 3, 0, none⟩)), (8, .bool false), (9, .bool false), (10, .func (.func 74) #[] #[.pointer (some ⟨H0, 0, none⟩)]), (15, .agg #[.int .i64 9, .int .i64 4]), (16, .bool false), (19, .bool false), (22, .bool false), (27, .bool false), (34, .bool false), (37, .bool false), (40, .bool false), (43, .bool false), (46, .bool true)] [] (by kernel_rfl) (by kernel_rfl) (by kernel_rfl) trivial ?_
  clear hE hR; intro a u hE hR
  refine opsNil ?_; refine thenN ?_
  refine condT hE (b := true) (by kernel_rfl) rfl ?_
  refine wp_exit ?_; refine thenE ?_; refine blkX (by kernel_rfl) ?_; refine thenE ?_; refine blkX (by kernel_rfl) ?_; refine thenE ?_; refine blkX (by kernel_rfl) ?_; refine thenE ?_
  refine blkX (by kernel_rfl) ?_; refine thenE ?_; refine blkX (by kernel_rfl) ?_; refine thenE ?_; refine blkX (by kernel_rfl) ?_; refine thenE ?_; refine blkX (by kernel_rfl) ?_; refine thenE ?_
  refine blkX (by kernel_rfl) ?_; refine thenE ?_; refine blkE ?_; refine thenN ?_; refine wp_seq ?_
  let kc7 : List Value := [.int .i64 0, .int .u32 v.a, .int .u32 0, .int .u32 0, .int .u32 0]
  refine seqJ (fun a u => TE a 179 [(3, .pointer (some ⟨H0, 0, none⟩)), (5, .pointer (some ⟨H0 + 1, 0, none⟩)), (6, .pointer (some ⟨H0 + 2, 0, none⟩)), (7, .pointer (some ⟨H0 + 3, 0, none⟩)), (8, .bool false), (9, .bool true), (10, .func (.func 74) #[] #[.pointer (some ⟨H0, 0, none⟩)]), (15, .agg #[.int .i64 9, .int .i64 4]), (16, .bool false), (19, .bool false), (22, .bool false), (27, .bool false), (34, .bool false), (37, .bool false), (40, .bool false), (43, .bool false), (46, .bool true)] ∧ ∃ H, Rep [(w, fun _ => True)] u H [⟨H0 + 3, 0, kc7, 63, true⟩, ⟨H0 + 2, 0, kc6, 116, true⟩, ⟨H0 + 1, 0, kc5, 60, true⟩, ⟨H0, 0, kc6, 116, true⟩] []) ?_ ?_
  · show Code.wp _ _ _ _ _
    refine enterD (kl := [⟨H0 + 1, 0, kc5, 60, true⟩, ⟨H0, 0, kc6, 116, true⟩]) (by kernel_rfl) hR (F := 8) (listed := #[false, false, false, false, false, false, false, false]) (by kernel_rfl) (by kernel_rfl) ?_
    clear hR
    intro u hR
    refine takesU (by kernel_rfl) (pqT (pqT (pqB (pqT pqF)))) hE (hR.ss [2, 3] (by kernel_rfl)) [(0, .op (hks 1 0 15)), (1, .op [])] 6 [(173, kv1), (174, .func (.func 74) #[] #[.pointer (some ⟨H0, 0, none⟩)])] #[true, true, false, false, false, false, false, false] [] (by kernel_rfl) (by kernel_rfl) (by kernel_rfl) trivial ?_
    clear hE; intro a hE
    refine wpAnyH_all (rs := [2]) (by kernel_rfl) (by simp) (allCons ?_ allNil)
    refine call hE hR [] 74 #[.pointer (some ⟨H0, 0, none⟩)] (some 175) [] (by kernel_rfl) (by kernel_rfl) trivial (wordI_calls _ _ v.a _ (hR.rangeK 3 rfl) rfl) (fun _ _ h => by cases h.1) (fun _ h => by cases h.1) ?_
    clear hE
    rintro v u ⟨hv, hb⟩ a hE
    cases hv
    obtain ⟨H2, hH2, hR⟩ := hR.callE hb
    refine ⟨(hR.ss [2, 3] (by kernel_rfl)), ?_⟩
    show wpAnyH _ _ _ _ _ _ #[true, true, true, false, false, false, false, false] _ _
    let kv8 : Value := .agg #[.int .i64 0, .int .u32 v.a, .int .u32 0, .int .u32 0, .int .u32 0]
    refine takesU (by kernel_rfl) (pqT (pqT (pqB (pqT pqF)))) hE (hR.ss [2, 3] (by kernel_rfl)) [(3, .op [])] 4 [(176, kv8)] #[true, true, true, true, false, false, false, false] [] (by kernel_rfl) (by kernel_rfl) (by kernel_rfl) trivial ?_
    clear hE; intro a hE
    refine wpAnyH_all (rs := [4]) (by kernel_rfl) (by simp) (allCons ?_ allNil)
    refine oneU hE hR (.op (hks 1 0 15)) [] [⟨H0 + 3, 0, kc3, 63, true⟩, ⟨H0 + 2, 0, kc6, 116, true⟩, ⟨H0 + 1, 0, kc5, 60, true⟩, ⟨H0, 0, kc6, 116, true⟩] (H2) [] (by kernel_rfl) (by kernel_rfl) trivial ?_
    clear hE hR; intro a u hE hR
    refine ⟨(hR.ss [2, 3] (by kernel_rfl)), ?_⟩
    show wpAnyH _ _ _ _ _ _ #[true, true, true, true, true, false, false, false] _ _
    refine wpAnyH_all (rs := [5]) (by kernel_rfl) (by simp) (allCons ?_ allNil)
    refine oneU hE hR (.op (hks 0 0 5)) [] [⟨H0 + 3, 0, kc7, 63, true⟩, ⟨H0 + 2, 0, kc6, 116, true⟩, ⟨H0 + 1, 0, kc5, 60, true⟩, ⟨H0, 0, kc6, 116, true⟩] (H2) [] (by kernel_rfl) (by kernel_rfl) trivial ?_
    clear hE hR; intro a u hE hR
    refine ⟨(hR.ss [2, 3] (by kernel_rfl)), ?_⟩
    show wpAnyH _ _ _ _ _ _ #[true, true, true, true, true, true, false, false] _ _
    refine takesU (by kernel_rfl) (pqT (pqT (pqB (pqT pqF)))) hE (hR.ss [2, 3] (by kernel_rfl)) [(6, .op []), (7, .op [])] 0 [(9, .bool true)] #[true, true, true, true, true, true, true, true] [] (by kernel_rfl) (by kernel_rfl) (by kernel_rfl) trivial ?_
    clear hE; intro a hE
    refine wpAnyH_done (by kernel_rfl) ?_ _
    refine thenN ?_
    exact ⟨hE.sub (by kernel_rfl), _, hR⟩
  clear hE hR
  rintro a u ⟨hE, J1, hR⟩
  refine wp_ret ?_; refine thenR ?_; refine blkR ?_; refine thenR ?_
  refine retF hE hR (hks 1 0 15 ++ hks 0 0 5) (.tuple #[.agg #[.int .i64 o.kind, .int .i64 o.cap, .int .i64 o.width, .int .i64 o.retry, .int .i64 o.src, .int .i64 o.dst, .int .u32 o.i0, .int .u32 o.i1, .int .u32 o.i2, .int .u32 o.i3, .slice A n c, .int .u32 v.a, .int .u32 v.b, .int .u32 v.c, .int .u32 v.d], .agg #[.int .i64 0, .int .u32 v.a, .int .u32 0, .int .u32 0, .int .u32 0], .bool false, .bool true]) (by kernel_rfl) (by kernel_rfl) (by kernel_rfl) ?_
  exact ⟨rfl, hR.below (by simp)⟩
set_option maxRecDepth 100000 in
theorem done_any_yes (o : Ob) (v : Vl) (ck co : Int) (cv : Vl) (cn : Int) (A : Option Addr) (n c : Nat) (w : World) (hkk : kindP o = 4) (hva : 0 ≤ v.a ∧ v.a < 4294967296) (hcv : 0 ≤ cv.a ∧ cv.a < 4294967296) (hbit : (((v.a.toNat &&& cv.a.toNat : Nat) : Int) != 0) = true) :
    Calls Try.prog 50 #[itA o (.slice A n c) v, .int .i64 16, callA ck co cv cn] w fun e W' => e = .returned (.tuple #[itA o (.slice A n c) v, resA 0 ⟨v.a, 0, 0, 0⟩, .bool false, .bool true]) ∧ Below w.heap.size w W' := by
  have HK := fun W => kind_calls o A (n) (c) v W
  rw [hkk] at HK
  have hold4 := fun W => holds4_calls v.a.toNat cv.a.toNat (by omega) (by omega) W
  simp only [Int.toNat_of_nonneg hva.1, Int.toNat_of_nonneg hcv.1] at hold4
  let kv1 : Value := .agg #[.int .i64 o.kind, .int .i64 o.cap, .int .i64 o.width, .int .i64 o.retry, .int .i64 o.src, .int .i64 o.dst, .int .u32 o.i0, .int .u32 o.i1, .int .u32 o.i2, .int .u32 o.i3, .slice A n c, .int .u32 v.a, .int .u32 v.b, .int .u32 v.c, .int .u32 v.d]
  let kv2 : Value := .agg #[.int .i64 ck, .int .i64 co, .int .u32 cv.a, .int .u32 cv.b, .int .u32 cv.c, .int .u32 cv.d, .int .u32 cn]
  refine enterF Try.func50 rfl Try.ntmps50 [(0, kv1), (1, .int .i64 16), (2, kv2)] (by kernel_rfl) (by kernel_rfl) ?_
  have hR := Rep.start w
  obtain ⟨H0, hH0⟩ : ∃ x, x = w.heap.size := ⟨_, rfl⟩
  rw [← hH0] at hR
  intro a hE
  refine wp_seq ?_
  refine enterR (idx := [0, 1, 2, 3, 4, 5]) (by kernel_rfl) ?_
  let kc3 : List Value := [.int .i64 0, .int .u32 0, .int .u32 0, .int .u32 0, .int .u32 0]
  let kc4 : List Value := [.int .i64 0, .int .i64 0, .int .i64 0, .int .i64 0, .int .i64 0, .int .i64 0, .int .u32 0, .int .u32 0, .int .u32 0, .int .u32 0, .slice none 0 0, .int .u32 0, .int .u32 0, .int .u32 0, .int .u32 0]
  let kc5 : List Value := [.int .i64 ck, .int .i64 co, .int .u32 cv.a, .int .u32 cv.b, .int .u32 cv.c, .int .u32 cv.d, .int .u32 cn]
  let kc6 : List Value := [.int .i64 o.kind, .int .i64 o.cap, .int .i64 o.width, .int .i64 o.retry, .int .i64 o.src, .int .i64 o.dst, .int .u32 o.i0, .int .u32 o.i1, .int .u32 o.i2, .int .u32 o.i3, .slice A n c, .int .u32 v.a, .int .u32 v.b, .int .u32 v.c, .int .u32 v.d]
  refine segU hE hR [(0, .op []), (1, .op []), (2, .op []), (3, .op []), (4, .op []), (5, .op [])] [] [(3, .pointer (some ⟨H0, 0, none⟩)), (5, .pointer (some ⟨H0 + 1, 0, none⟩)), (6, .pointer (some ⟨H0 + 2, 0, none⟩)), (7, .pointer (some ⟨H0 + 3, 0, none⟩)), (8, .bool false), (9, .bool false)] [⟨H0 + 3, 0, kc3, 63, true⟩, ⟨H0 + 2, 0, kc4, 116, true⟩, ⟨H0 + 1, 0, kc5, 60, true⟩, ⟨H0, 0, kc6, 116, true⟩] (H0 + 4) [] (by kernel_rfl) (by kernel_rfl) (by kernel_rfl) trivial ?_
  clear hE hR; intro a u hE hR
  refine opsNil ?_; refine thenN ?_; refine wp_seq ?_
  refine enterR (idx := [0, 1]) (by kernel_rfl) ?_
  refine segV hE hR [(0, .op []), (1, .op [])] [] [(10, .func (.func 74) #[] #[.pointer (some ⟨H0, 0, none⟩)])] [] (by kernel_rfl) (by kernel_rfl) (by kernel_rfl) trivial ?_
  clear hE hR; intro a u hE hR
  refine opsNil ?_; refine thenN ?_; refine wp_seq ?_; refine wp_seq ?_
  refine enterR (idx := [0, 1, 2, 3]) (by kernel_rfl) ?_
  refine segV hE hR [(0, .op []), (1, .op (hks 3 0 15))] [2, 3] [(12, .int .i64 16), (13, kv1)] [] (by kernel_rfl) (by kernel_rfl) (by kernel_rfl) trivial ?_
  clear hE hR; intro a u hE hR
  refine opsCons ?_
  refine call hE hR [] 45 #[kv1] (some 14) [] (by kernel_rfl) (by kernel_rfl) trivial (HK _) (fun _ _ h => by cases h.1) (fun _ h => by cases h.1) ?_
  clear hE
  rintro v u ⟨hv, hb⟩ a hE
  cases hv
  obtain ⟨H1, hH1, hR⟩ := hR.callE hb
  refine segV hE hR [(3, .op [])] [] [(15, .agg #[.int .i64 16, .int .i64 4])] [] (by kernel_rfl) (by kernel_rfl) (by kernel_rfl) trivial ?_
  clear hE hR; intro a u hE hR
  refine opsNil ?_; refine thenN ?_; refine wp_block ?_; refine wp_seq ?_; refine wp_block ?_; refine wp_seq ?_; refine wp_block ?_; refine wp_seq ?_; refine wp_block ?_; refine wp_seq ?_
  refine wp_block ?_; refine wp_seq ?_; refine wp_block ?_; refine wp_seq ?_; refine wp_block ?_; refine wp_seq ?_; refine wp_block ?_; refine wp_seq ?_; refine wp_block ?_; refine wp_seq ?_
  refine wp_block ?_; refine wp_seq ?_; refine wp_seq ?_; refine wp_seq ?_
  refine enterR (idx := [0, 1, 2]) (by kernel_rfl) ?_
  refine segV hE hR [(0, .op []), (1, .op []), (2, .op [])] [] [(16, .bool false)] [] (by kernel_rfl) (by kernel_rfl) (by kernel_rfl) trivial ?_
  clear hE hR; intro a u hE hR
  refine opsNil ?_; refine thenN ?_
  refine condF hE (b := false) (by kernel_rfl) rfl ?_
  refine wp_skip ?_; refine thenN ?_; refine wp_seq ?_; refine wp_seq ?_
  refine enterR (idx := [0, 1, 2]) (by kernel_rfl) ?_
  refine segV hE hR [(0, .op []), (1, .op []), (2, .op [])] [] [(19, .bool false)] [] (by kernel_rfl) (by kernel_rfl) (by kernel_rfl) trivial ?_
  clear hE hR; intro a u hE hR
  refine opsNil ?_; refine thenN ?_
  refine condF hE (b := false) (by kernel_rfl) rfl ?_
  refine wp_skip ?_; refine thenN ?_; refine wp_seq ?_; refine wp_seq ?_; refine wp_seq ?_
  refine enterR (idx := [0, 1, 2]) (by kernel_rfl) ?_
  refine segV hE hR [(0, .op []), (1, .op []), (2, .op [])] [] [(22, .bool false)] [] (by kernel_rfl) (by kernel_rfl) (by kernel_rfl) trivial ?_
  clear hE hR; intro a u hE hR
  refine opsNil ?_; refine thenN ?_
  refine condF hE (b := false) (by kernel_rfl) rfl ?_
  refine enterR (idx := [0, 1, 2]) (by kernel_rfl) ?_
  refine seg0 hE hR [(0, .op []), (1, .op []), (2, .op [])] [] [(3, .pointer (some ⟨H0, 0, none⟩)), (5, .pointer (some ⟨H0 + 1, 0, none⟩)), (6, .pointer (some ⟨H0 + 2, 0, none⟩)), (7, .pointer (some ⟨H0 + 3, 0, none⟩)), (8, .bool false), (9, .bool false), (10, .func (.func 74) #[] #[.pointer (some ⟨H0, 0, none⟩)]), (15, .agg #[.int .i64 16, .int .i64 4]), (16, .bool false), (19, .bool false), (22, .bool false)] [] (by kernel_rfl) (by kernel_rfl) (by kernel_rfl) trivial ?_
  clear hE hR; intro a u hE hR
  refine opsNil ?_; refine thenN ?_
  refine condF hE (b := false) (by kernel_rfl) rfl ?_
  refine wp_skip ?_; refine thenN ?_; refine wp_seq ?_; refine wp_seq ?_; refine wp_seq ?_
  refine enterR (idx := [0, 1, 2]) (by kernel_rfl) ?_
  refine segV hE hR [(0, .op []), (1, .op []), (2, .op [])] [] [(27, .bool false)] [] (by kernel_rfl) (by kernel_rfl) (by kernel_rfl) trivial ?_
  clear hE hR; intro a u hE hR
  refine opsNil ?_; refine thenN ?_
  refine condF hE (b := false) (by kernel_rfl) rfl ?_
  refine wp_seq ?_
  refine enterR (idx := [0, 1, 2]) (by kernel_rfl) ?_
  refine segV hE hR [(0, .op []), (1, .op []), (2, .op [])] [] [] [] (by kernel_rfl) (by kernel_rfl) (by kernel_rfl) trivial ?_
  clear hE hR; intro a u hE hR
  refine opsNil ?_; refine thenN ?_
  refine condF hE (b := false) (by kernel_rfl) rfl ?_
  refine enterR (idx := [0, 1, 2]) (by kernel_rfl) ?_
  refine segV hE hR [(0, .op []), (1, .op []), (2, .op [])] [] [] [] (by kernel_rfl) (by kernel_rfl) (by kernel_rfl) trivial ?_
  clear hE hR; intro a u hE hR
  refine opsNil ?_; refine thenN ?_
  refine condF hE (b := false) (by kernel_rfl) rfl ?_
  refine wp_skip ?_; refine thenN ?_; refine wp_seq ?_; refine wp_seq ?_
  refine enterR (idx := [0, 1, 2]) (by kernel_rfl) ?_
  refine segV hE hR [(0, .op []), (1, .op []), (2, .op [])] [] [(34, .bool false)] [] (by kernel_rfl) (by kernel_rfl) (by kernel_rfl) trivial ?_
  clear hE hR; intro a u hE hR
  refine opsNil ?_; refine thenN ?_
  refine condF hE (b := false) (by kernel_rfl) rfl ?_
  refine wp_skip ?_; refine thenN ?_; refine wp_seq ?_; refine wp_seq ?_
  refine enterR (idx := [0, 1, 2]) (by kernel_rfl) ?_
  refine segV hE hR [(0, .op []), (1, .op []), (2, .op [])] [] [(37, .bool false)] [] (by kernel_rfl) (by kernel_rfl) (by kernel_rfl) trivial ?_
  clear hE hR; intro a u hE hR
  refine opsNil ?_; refine thenN ?_
  refine condF hE (b := false) (by kernel_rfl) rfl ?_
  refine wp_skip ?_; refine thenN ?_; refine wp_seq ?_; refine wp_seq ?_
  refine enterR (idx := [0, 1, 2]) (by kernel_rfl) ?_
  refine segV hE hR [(0, .op []), (1, .op []), (2, .op [])] [] [(40, .bool true)] [] (by kernel_rfl) (by kernel_rfl) (by kernel_rfl) trivial ?_
  clear hE hR; intro a u hE hR
  refine opsNil ?_; refine thenN ?_
  refine condT hE (b := true) (by kernel_rfl) rfl ?_
  refine wp_exit ?_; refine thenE ?_; refine thenE ?_; refine blkX (by kernel_rfl) ?_; refine thenE ?_; refine blkX (by kernel_rfl) ?_; refine thenE ?_; refine blkX (by kernel_rfl) ?_
  refine thenE ?_; refine blkX (by kernel_rfl) ?_; refine thenE ?_; refine blkX (by kernel_rfl) ?_; refine thenE ?_; refine blkX (by kernel_rfl) ?_; refine thenE ?_; refine blkE ?_
  refine thenN ?_; refine wp_seq ?_; refine wp_seq ?_; refine wp_seq ?_
  refine enterR (idx := [0, 1, 2, 3, 4, 5, 6, 7]) (by kernel_rfl) ?_
  refine segV hE hR [(0, .op []), (1, .op []), (2, .op [.k 3 11]), (3, .op []), (4, .op []), (5, .op [.k 2 2])] [6, 7] [(151, .int .u32 v.a), (154, .int .u32 cv.a)] [] (by kernel_rfl) (by kernel_rfl) (by kernel_rfl) trivial ?_
  clear hE hR; intro a u hE hR
  refine opsCons ?_
  refine call hE hR [] 75 #[.int .i64 4, .int .u32 v.a, .int .u32 cv.a] (some 155) [] (by kernel_rfl) (by kernel_rfl) trivial (hold4 _) (fun _ _ h => by cases h.1) (fun _ h => by cases h.1) ?_
  clear hE
  rintro v u ⟨hv, hb⟩ a hE
  cases hv
  obtain ⟨H2, hH2, hR⟩ := hR.callE hb
  refine seg0 hE hR [(7, .op [])] [] [(3, .pointer (some ⟨H0, 0, none⟩)), (5, .pointer (some ⟨H0 + 1, 0, none⟩)), (6, .pointer (some ⟨H0 + 2, 0, none⟩)), (7, .pointer (some ⟨H0 + 3, 0, none⟩)), (8, .bool false), (9, .bool false), (10, .func (.func 74) #[] #[.pointer (some ⟨H0, 0, none⟩)]), (15, .agg #[.int .i64 16, .int .i64 4]), (16, .bool false), (19, .bool false), (22, .bool false), (27, .bool false), (34, .bool false), (37, .bool false), (40, .bool true), (156, .bool (!((((v.a.toNat &&& cv.a.toNat : Nat) : Int) != 0))))] [] (by kernel_rfl) (by kernel_rfl) (by kernel_rfl) trivial ?_
  clear hE hR; intro a u hE hR
  refine opsNil ?_; refine thenN ?_
  refine condF hE (b := !((((v.a.toNat &&& cv.a.toNat : Nat) : Int) != 0))) (by kernel_rfl) (by rw [hbit]; rfl) ?_
  refine wp_skip ?_; refine thenN ?_
  let kc7 : List Value := [.int .i64 0, .int .u32 v.a, .int .u32 0, .int .u32 0, .int .u32 0]
  refine seqJ (fun a u => TE a 179 [(3, .pointer (some ⟨H0, 0, none⟩)), (5, .pointer (some ⟨H0 + 1, 0, none⟩)), (6, .pointer (some ⟨H0 + 2, 0, none⟩)), (7, .pointer (some ⟨H0 + 3, 0, none⟩)), (8, .bool false), (9, .bool true), (10, .func (.func 74) #[] #[.pointer (some ⟨H0, 0, none⟩)]), (15, .agg #[.int .i64 16, .int .i64 4]), (16, .bool false), (19, .bool false), (22, .bool false), (27, .bool false), (34, .bool false), (37, .bool false), (40, .bool true), (156, .bool (!((((v.a.toNat &&& cv.a.toNat : Nat) : Int) != 0))))] ∧ ∃ H, Rep [(w, fun _ => True)] u H [⟨H0 + 3, 0, kc7, 63, true⟩, ⟨H0 + 2, 0, kc6, 116, true⟩, ⟨H0 + 1, 0, kc5, 60, true⟩, ⟨H0, 0, kc6, 116, true⟩] []) ?_ ?_
  · show Code.wp _ _ _ _ _
    refine enterD (kl := [⟨H0 + 1, 0, kc5, 60, true⟩, ⟨H0, 0, kc6, 116, true⟩]) (by kernel_rfl) hR (F := 8) (listed := #[false, false, false, false, false, false, false, false]) (by kernel_rfl) (by kernel_rfl) ?_
    clear hR
    intro u hR
    refine takesU (by kernel_rfl) (pqT (pqT (pqB (pqT (pqB (pqT (pqB (pqT pqF)))))))) hE (hR.ss [2, 3] (by kernel_rfl)) [(0, .op (hks 1 0 15)), (1, .op [])] 6 [(159, kv1), (160, .func (.func 74) #[] #[.pointer (some ⟨H0, 0, none⟩)])] #[true, true, false, false, false, false, false, false] [] (by kernel_rfl) (by kernel_rfl) (by kernel_rfl) trivial ?_
    clear hE; intro a hE
    refine wpAnyH_all (rs := [2]) (by kernel_rfl) (by simp) (allCons ?_ allNil)
    refine call hE hR [] 74 #[.pointer (some ⟨H0, 0, none⟩)] (some 161) [] (by kernel_rfl) (by kernel_rfl) trivial (wordI_calls _ _ v.a _ (hR.rangeK 3 rfl) rfl) (fun _ _ h => by cases h.1) (fun _ h => by cases h.1) ?_
    clear hE
    rintro v u ⟨hv, hb⟩ a hE
    cases hv
    obtain ⟨H3, hH3, hR⟩ := hR.callE hb
    refine ⟨(hR.ss [2, 3] (by kernel_rfl)), ?_⟩
    show wpAnyH _ _ _ _ _ _ #[true, true, true, false, false, false, false, false] _ _
    let kv8 : Value := .agg #[.int .i64 0, .int .u32 v.a, .int .u32 0, .int .u32 0, .int .u32 0]
    refine takesU (by kernel_rfl) (pqT (pqT (pqB (pqT (pqB (pqT (pqB (pqT pqF)))))))) hE (hR.ss [2, 3] (by kernel_rfl)) [(3, .op [])] 4 [(162, kv8)] #[true, true, true, true, false, false, false, false] [] (by kernel_rfl) (by kernel_rfl) (by kernel_rfl) trivial ?_
    clear hE; intro a hE
    refine wpAnyH_all (rs := [4]) (by kernel_rfl) (by simp) (allCons ?_ allNil)
    refine oneU hE hR (.op (hks 1 0 15)) [] [⟨H0 + 3, 0, kc3, 63, true⟩, ⟨H0 + 2, 0, kc6, 116, true⟩, ⟨H0 + 1, 0, kc5, 60, true⟩, ⟨H0, 0, kc6, 116, true⟩] (H3) [] (by kernel_rfl) (by kernel_rfl) trivial ?_
    clear hE hR; intro a u hE hR
    refine ⟨(hR.ss [2, 3] (by kernel_rfl)), ?_⟩
    show wpAnyH _ _ _ _ _ _ #[true, true, true, true, true, false, false, false] _ _
    refine wpAnyH_all (rs := [5]) (by kernel_rfl) (by simp) (allCons ?_ allNil)
    refine oneU hE hR (.op (hks 0 0 5)) [] [⟨H0 + 3, 0, kc7, 63, true⟩, ⟨H0 + 2, 0, kc6, 116, true⟩, ⟨H0 + 1, 0, kc5, 60, true⟩, ⟨H0, 0, kc6, 116, true⟩] (H3) [] (by kernel_rfl) (by kernel_rfl) trivial ?_
    clear hE hR; intro a u hE hR
    refine ⟨(hR.ss [2, 3] (by kernel_rfl)), ?_⟩
    show wpAnyH _ _ _ _ _ _ #[true, true, true, true, true, true, false, false] _ _
    refine takesU (by kernel_rfl) (pqT (pqT (pqB (pqT (pqB (pqT (pqB (pqT pqF)))))))) hE (hR.ss [2, 3] (by kernel_rfl)) [(6, .op []), (7, .op [])] 0 [(9, .bool true)] #[true, true, true, true, true, true, true, true] [] (by kernel_rfl) (by kernel_rfl) (by kernel_rfl) trivial ?_
    clear hE; intro a hE
    refine wpAnyH_done (by kernel_rfl) ?_ _
    refine thenN ?_
    exact ⟨hE.sub (by kernel_rfl), _, hR⟩
  clear hE hR
  rintro a u ⟨hE, J1, hR⟩
  refine wp_ret ?_; refine thenR ?_; refine blkR ?_; refine thenR ?_; refine blkR ?_; refine thenR ?_; refine blkR ?_; refine thenR ?_
  refine retF hE hR (hks 1 0 15 ++ hks 0 0 5) (.tuple #[.agg #[.int .i64 o.kind, .int .i64 o.cap, .int .i64 o.width, .int .i64 o.retry, .int .i64 o.src, .int .i64 o.dst, .int .u32 o.i0, .int .u32 o.i1, .int .u32 o.i2, .int .u32 o.i3, .slice A n c, .int .u32 v.a, .int .u32 v.b, .int .u32 v.c, .int .u32 v.d], .agg #[.int .i64 0, .int .u32 v.a, .int .u32 0, .int .u32 0, .int .u32 0], .bool false, .bool true]) (by kernel_rfl) (by kernel_rfl) (by kernel_rfl) ?_
  exact ⟨rfl, hR.below (by simp)⟩
set_option maxRecDepth 100000 in
theorem done_any_no (o : Ob) (v : Vl) (ck co : Int) (cv : Vl) (cn : Int) (A : Option Addr) (n c : Nat) (w : World) (hkk : kindP o = 4) (hva : 0 ≤ v.a ∧ v.a < 4294967296) (hcv : 0 ≤ cv.a ∧ cv.a < 4294967296) (hbit : (((v.a.toNat &&& cv.a.toNat : Nat) : Int) != 0) = false) :
    Calls Try.prog 50 #[itA o (.slice A n c) v, .int .i64 16, callA ck co cv cn] w fun e W' => e = .returned (.tuple #[itA o (.slice A n c) v, resA 7 Vl.z, .bool false, .bool true]) ∧ Below w.heap.size w W' := by
  have HK := fun W => kind_calls o A (n) (c) v W
  rw [hkk] at HK
  have hold4 := fun W => holds4_calls v.a.toNat cv.a.toNat (by omega) (by omega) W
  simp only [Int.toNat_of_nonneg hva.1, Int.toNat_of_nonneg hcv.1] at hold4
  let kv1 : Value := .agg #[.int .i64 o.kind, .int .i64 o.cap, .int .i64 o.width, .int .i64 o.retry, .int .i64 o.src, .int .i64 o.dst, .int .u32 o.i0, .int .u32 o.i1, .int .u32 o.i2, .int .u32 o.i3, .slice A n c, .int .u32 v.a, .int .u32 v.b, .int .u32 v.c, .int .u32 v.d]
  let kv2 : Value := .agg #[.int .i64 ck, .int .i64 co, .int .u32 cv.a, .int .u32 cv.b, .int .u32 cv.c, .int .u32 cv.d, .int .u32 cn]
  refine enterF Try.func50 rfl Try.ntmps50 [(0, kv1), (1, .int .i64 16), (2, kv2)] (by kernel_rfl) (by kernel_rfl) ?_
  have hR := Rep.start w
  obtain ⟨H0, hH0⟩ : ∃ x, x = w.heap.size := ⟨_, rfl⟩
  rw [← hH0] at hR
  intro a hE
  refine wp_seq ?_
  refine enterR (idx := [0, 1, 2, 3, 4, 5]) (by kernel_rfl) ?_
  let kc3 : List Value := [.int .i64 0, .int .u32 0, .int .u32 0, .int .u32 0, .int .u32 0]
  let kc4 : List Value := [.int .i64 0, .int .i64 0, .int .i64 0, .int .i64 0, .int .i64 0, .int .i64 0, .int .u32 0, .int .u32 0, .int .u32 0, .int .u32 0, .slice none 0 0, .int .u32 0, .int .u32 0, .int .u32 0, .int .u32 0]
  let kc5 : List Value := [.int .i64 ck, .int .i64 co, .int .u32 cv.a, .int .u32 cv.b, .int .u32 cv.c, .int .u32 cv.d, .int .u32 cn]
  let kc6 : List Value := [.int .i64 o.kind, .int .i64 o.cap, .int .i64 o.width, .int .i64 o.retry, .int .i64 o.src, .int .i64 o.dst, .int .u32 o.i0, .int .u32 o.i1, .int .u32 o.i2, .int .u32 o.i3, .slice A n c, .int .u32 v.a, .int .u32 v.b, .int .u32 v.c, .int .u32 v.d]
  refine segU hE hR [(0, .op []), (1, .op []), (2, .op []), (3, .op []), (4, .op []), (5, .op [])] [] [(3, .pointer (some ⟨H0, 0, none⟩)), (5, .pointer (some ⟨H0 + 1, 0, none⟩)), (6, .pointer (some ⟨H0 + 2, 0, none⟩)), (7, .pointer (some ⟨H0 + 3, 0, none⟩)), (8, .bool false), (9, .bool false)] [⟨H0 + 3, 0, kc3, 63, true⟩, ⟨H0 + 2, 0, kc4, 116, true⟩, ⟨H0 + 1, 0, kc5, 60, true⟩, ⟨H0, 0, kc6, 116, true⟩] (H0 + 4) [] (by kernel_rfl) (by kernel_rfl) (by kernel_rfl) trivial ?_
  clear hE hR; intro a u hE hR
  refine opsNil ?_; refine thenN ?_; refine wp_seq ?_
  refine enterR (idx := [0, 1]) (by kernel_rfl) ?_
  refine segV hE hR [(0, .op []), (1, .op [])] [] [(10, .func (.func 74) #[] #[.pointer (some ⟨H0, 0, none⟩)])] [] (by kernel_rfl) (by kernel_rfl) (by kernel_rfl) trivial ?_
  clear hE hR; intro a u hE hR
  refine opsNil ?_; refine thenN ?_; refine wp_seq ?_; refine wp_seq ?_
  refine enterR (idx := [0, 1, 2, 3]) (by kernel_rfl) ?_
  refine segV hE hR [(0, .op []), (1, .op (hks 3 0 15))] [2, 3] [(12, .int .i64 16), (13, kv1)] [] (by kernel_rfl) (by kernel_rfl) (by kernel_rfl) trivial ?_
  clear hE hR; intro a u hE hR
  refine opsCons ?_
  refine call hE hR [] 45 #[kv1] (some 14) [] (by kernel_rfl) (by kernel_rfl) trivial (HK _) (fun _ _ h => by cases h.1) (fun _ h => by cases h.1) ?_
  clear hE
  rintro v u ⟨hv, hb⟩ a hE
  cases hv
  obtain ⟨H1, hH1, hR⟩ := hR.callE hb
  refine segV hE hR [(3, .op [])] [] [(15, .agg #[.int .i64 16, .int .i64 4])] [] (by kernel_rfl) (by kernel_rfl) (by kernel_rfl) trivial ?_
  clear hE hR; intro a u hE hR
  refine opsNil ?_; refine thenN ?_; refine wp_block ?_; refine wp_seq ?_; refine wp_block ?_; refine wp_seq ?_; refine wp_block ?_; refine wp_seq ?_; refine wp_block ?_; refine wp_seq ?_
  refine wp_block ?_; refine wp_seq ?_; refine wp_block ?_; refine wp_seq ?_; refine wp_block ?_; refine wp_seq ?_; refine wp_block ?_; refine wp_seq ?_; refine wp_block ?_; refine wp_seq ?_
  refine wp_block ?_; refine wp_seq ?_; refine wp_seq ?_; refine wp_seq ?_
  refine enterR (idx := [0, 1, 2]) (by kernel_rfl) ?_
  refine segV hE hR [(0, .op []), (1, .op []), (2, .op [])] [] [(16, .bool false)] [] (by kernel_rfl) (by kernel_rfl) (by kernel_rfl) trivial ?_
  clear hE hR; intro a u hE hR
  refine opsNil ?_; refine thenN ?_
  refine condF hE (b := false) (by kernel_rfl) rfl ?_
  refine wp_skip ?_; refine thenN ?_; refine wp_seq ?_; refine wp_seq ?_
  refine enterR (idx := [0, 1, 2]) (by kernel_rfl) ?_
  refine segV hE hR [(0, .op []), (1, .op []), (2, .op [])] [] [(19, .bool false)] [] (by kernel_rfl) (by kernel_rfl) (by kernel_rfl) trivial ?_
  clear hE hR; intro a u hE hR
  refine opsNil ?_; refine thenN ?_
  refine condF hE (b := false) (by kernel_rfl) rfl ?_
  refine wp_skip ?_; refine thenN ?_; refine wp_seq ?_; refine wp_seq ?_; refine wp_seq ?_
  refine enterR (idx := [0, 1, 2]) (by kernel_rfl) ?_
  refine segV hE hR [(0, .op []), (1, .op []), (2, .op [])] [] [(22, .bool false)] [] (by kernel_rfl) (by kernel_rfl) (by kernel_rfl) trivial ?_
  clear hE hR; intro a u hE hR
  refine opsNil ?_; refine thenN ?_
  refine condF hE (b := false) (by kernel_rfl) rfl ?_
  refine enterR (idx := [0, 1, 2]) (by kernel_rfl) ?_
  refine seg0 hE hR [(0, .op []), (1, .op []), (2, .op [])] [] [(3, .pointer (some ⟨H0, 0, none⟩)), (5, .pointer (some ⟨H0 + 1, 0, none⟩)), (6, .pointer (some ⟨H0 + 2, 0, none⟩)), (7, .pointer (some ⟨H0 + 3, 0, none⟩)), (8, .bool false), (9, .bool false), (10, .func (.func 74) #[] #[.pointer (some ⟨H0, 0, none⟩)]), (15, .agg #[.int .i64 16, .int .i64 4]), (16, .bool false), (19, .bool false), (22, .bool false)] [] (by kernel_rfl) (by kernel_rfl) (by kernel_rfl) trivial ?_
  clear hE hR; intro a u hE hR
  refine opsNil ?_; refine thenN ?_
  refine condF hE (b := false) (by kernel_rfl) rfl ?_
  refine wp_skip ?_; refine thenN ?_; refine wp_seq ?_; refine wp_seq ?_; refine wp_seq ?_
  refine enterR (idx := [0, 1, 2]) (by kernel_rfl) ?_
  refine segV hE hR [(0, .op []), (1, .op []), (2, .op [])] [] [(27, .bool false)] [] (by kernel_rfl) (by kernel_rfl) (by kernel_rfl) trivial ?_
  clear hE hR; intro a u hE hR
  refine opsNil ?_; refine thenN ?_
  refine condF hE (b := false) (by kernel_rfl) rfl ?_
  refine wp_seq ?_
  refine enterR (idx := [0, 1, 2]) (by kernel_rfl) ?_
  refine segV hE hR [(0, .op []), (1, .op []), (2, .op [])] [] [] [] (by kernel_rfl) (by kernel_rfl) (by kernel_rfl) trivial ?_
  clear hE hR; intro a u hE hR
  refine opsNil ?_; refine thenN ?_
  refine condF hE (b := false) (by kernel_rfl) rfl ?_
  refine enterR (idx := [0, 1, 2]) (by kernel_rfl) ?_
  refine segV hE hR [(0, .op []), (1, .op []), (2, .op [])] [] [] [] (by kernel_rfl) (by kernel_rfl) (by kernel_rfl) trivial ?_
  clear hE hR; intro a u hE hR
  refine opsNil ?_; refine thenN ?_
  refine condF hE (b := false) (by kernel_rfl) rfl ?_
  refine wp_skip ?_; refine thenN ?_; refine wp_seq ?_; refine wp_seq ?_
  refine enterR (idx := [0, 1, 2]) (by kernel_rfl) ?_
  refine segV hE hR [(0, .op []), (1, .op []), (2, .op [])] [] [(34, .bool false)] [] (by kernel_rfl) (by kernel_rfl) (by kernel_rfl) trivial ?_
  clear hE hR; intro a u hE hR
  refine opsNil ?_; refine thenN ?_
  refine condF hE (b := false) (by kernel_rfl) rfl ?_
  refine wp_skip ?_; refine thenN ?_; refine wp_seq ?_; refine wp_seq ?_
  refine enterR (idx := [0, 1, 2]) (by kernel_rfl) ?_
  refine segV hE hR [(0, .op []), (1, .op []), (2, .op [])] [] [(37, .bool false)] [] (by kernel_rfl) (by kernel_rfl) (by kernel_rfl) trivial ?_
  clear hE hR; intro a u hE hR
  refine opsNil ?_; refine thenN ?_
  refine condF hE (b := false) (by kernel_rfl) rfl ?_
  refine wp_skip ?_; refine thenN ?_; refine wp_seq ?_; refine wp_seq ?_
  refine enterR (idx := [0, 1, 2]) (by kernel_rfl) ?_
  refine segV hE hR [(0, .op []), (1, .op []), (2, .op [])] [] [(40, .bool true)] [] (by kernel_rfl) (by kernel_rfl) (by kernel_rfl) trivial ?_
  clear hE hR; intro a u hE hR
  refine opsNil ?_; refine thenN ?_
  refine condT hE (b := true) (by kernel_rfl) rfl ?_
  refine wp_exit ?_; refine thenE ?_; refine thenE ?_; refine blkX (by kernel_rfl) ?_; refine thenE ?_; refine blkX (by kernel_rfl) ?_; refine thenE ?_; refine blkX (by kernel_rfl) ?_
  refine thenE ?_; refine blkX (by kernel_rfl) ?_; refine thenE ?_; refine blkX (by kernel_rfl) ?_; refine thenE ?_; refine blkX (by kernel_rfl) ?_; refine thenE ?_; refine blkE ?_
  refine thenN ?_; refine wp_seq ?_; refine wp_seq ?_; refine wp_seq ?_
  refine enterR (idx := [0, 1, 2, 3, 4, 5, 6, 7]) (by kernel_rfl) ?_
  refine segV hE hR [(0, .op []), (1, .op []), (2, .op [.k 3 11]), (3, .op []), (4, .op []), (5, .op [.k 2 2])] [6, 7] [(151, .int .u32 v.a), (154, .int .u32 cv.a)] [] (by kernel_rfl) (by kernel_rfl) (by kernel_rfl) trivial ?_
  clear hE hR; intro a u hE hR
  refine opsCons ?_
  refine call hE hR [] 75 #[.int .i64 4, .int .u32 v.a, .int .u32 cv.a] (some 155) [] (by kernel_rfl) (by kernel_rfl) trivial (hold4 _) (fun _ _ h => by cases h.1) (fun _ h => by cases h.1) ?_
  clear hE
  rintro v u ⟨hv, hb⟩ a hE
  cases hv
  obtain ⟨H2, hH2, hR⟩ := hR.callE hb
  refine seg0 hE hR [(7, .op [])] [] [(3, .pointer (some ⟨H0, 0, none⟩)), (5, .pointer (some ⟨H0 + 1, 0, none⟩)), (6, .pointer (some ⟨H0 + 2, 0, none⟩)), (7, .pointer (some ⟨H0 + 3, 0, none⟩)), (8, .bool false), (9, .bool false), (10, .func (.func 74) #[] #[.pointer (some ⟨H0, 0, none⟩)]), (15, .agg #[.int .i64 16, .int .i64 4]), (16, .bool false), (19, .bool false), (22, .bool false), (27, .bool false), (34, .bool false), (37, .bool false), (40, .bool true), (156, .bool (!((((v.a.toNat &&& cv.a.toNat : Nat) : Int) != 0))))] [] (by kernel_rfl) (by kernel_rfl) (by kernel_rfl) trivial ?_
  clear hE hR; intro a u hE hR
  refine opsNil ?_; refine thenN ?_
  refine condT hE (b := !((((v.a.toNat &&& cv.a.toNat : Nat) : Int) != 0))) (by kernel_rfl) (by rw [hbit]; rfl) ?_
  refine wp_seq ?_
  refine enterR (idx := [0, 1, 2, 3, 4, 5]) (by kernel_rfl) ?_
  let kc7 : List Value := [.int .i64 7, .int .u32 0, .int .u32 0, .int .u32 0, .int .u32 0]
  refine segU hE hR [(0, .op (hks 3 0 15)), (1, .op []), (2, .op (hks 1 0 15)), (3, .op (hks 0 0 5)), (4, .op []), (5, .op [])] [] [(9, .bool true)] [⟨H0 + 3, 0, kc7, 63, true⟩, ⟨H0 + 2, 0, kc6, 116, true⟩, ⟨H0 + 1, 0, kc5, 60, true⟩, ⟨H0, 0, kc6, 116, true⟩] (H2) [] (by kernel_rfl) (by kernel_rfl) (by kernel_rfl) trivial ?_
  clear hE hR; intro a u hE hR
  refine opsNil ?_; refine thenN ?_; refine wp_ret ?_; refine thenR ?_; refine thenR ?_; refine blkR ?_; refine thenR ?_; refine blkR ?_; refine thenR ?_; refine blkR ?_; refine thenR ?_
  refine retF hE hR (hks 1 0 15 ++ hks 0 0 5) (.tuple #[.agg #[.int .i64 o.kind, .int .i64 o.cap, .int .i64 o.width, .int .i64 o.retry, .int .i64 o.src, .int .i64 o.dst, .int .u32 o.i0, .int .u32 o.i1, .int .u32 o.i2, .int .u32 o.i3, .slice A n c, .int .u32 v.a, .int .u32 v.b, .int .u32 v.c, .int .u32 v.d], .agg #[.int .i64 7, .int .u32 0, .int .u32 0, .int .u32 0, .int .u32 0], .bool false, .bool true]) (by kernel_rfl) (by kernel_rfl) (by kernel_rfl) ?_
  exact ⟨rfl, hR.below (by simp)⟩
set_option maxRecDepth 100000 in
theorem done_all_yes (o : Ob) (v : Vl) (ck co : Int) (cv : Vl) (cn : Int) (A : Option Addr) (n c : Nat) (w : World) (hkk : kindP o = 4) (hva : 0 ≤ v.a ∧ v.a < 4294967296) (hcv : 0 ≤ cv.a ∧ cv.a < 4294967296) (hbit : (((v.a.toNat &&& cv.a.toNat : Nat) : Int) == cv.a) = true) :
    Calls Try.prog 50 #[itA o (.slice A n c) v, .int .i64 17, callA ck co cv cn] w fun e W' => e = .returned (.tuple #[itA o (.slice A n c) v, resA 0 ⟨v.a, 0, 0, 0⟩, .bool false, .bool true]) ∧ Below w.heap.size w W' := by
  have HK := fun W => kind_calls o A (n) (c) v W
  rw [hkk] at HK
  have hold5 := fun W => holds5_calls v.a.toNat cv.a.toNat (by omega) (by omega) W
  simp only [Int.toNat_of_nonneg hva.1, Int.toNat_of_nonneg hcv.1] at hold5
  let kv1 : Value := .agg #[.int .i64 o.kind, .int .i64 o.cap, .int .i64 o.width, .int .i64 o.retry, .int .i64 o.src, .int .i64 o.dst, .int .u32 o.i0, .int .u32 o.i1, .int .u32 o.i2, .int .u32 o.i3, .slice A n c, .int .u32 v.a, .int .u32 v.b, .int .u32 v.c, .int .u32 v.d]
  let kv2 : Value := .agg #[.int .i64 ck, .int .i64 co, .int .u32 cv.a, .int .u32 cv.b, .int .u32 cv.c, .int .u32 cv.d, .int .u32 cn]
  refine enterF Try.func50 rfl Try.ntmps50 [(0, kv1), (1, .int .i64 17), (2, kv2)] (by kernel_rfl) (by kernel_rfl) ?_
  have hR := Rep.start w
  obtain ⟨H0, hH0⟩ : ∃ x, x = w.heap.size := ⟨_, rfl⟩
  rw [← hH0] at hR
  intro a hE
  refine wp_seq ?_
  refine enterR (idx := [0, 1, 2, 3, 4, 5]) (by kernel_rfl) ?_
  let kc3 : List Value := [.int .i64 0, .int .u32 0, .int .u32 0, .int .u32 0, .int .u32 0]
  let kc4 : List Value := [.int .i64 0, .int .i64 0, .int .i64 0, .int .i64 0, .int .i64 0, .int .i64 0, .int .u32 0, .int .u32 0, .int .u32 0, .int .u32 0, .slice none 0 0, .int .u32 0, .int .u32 0, .int .u32 0, .int .u32 0]
  let kc5 : List Value := [.int .i64 ck, .int .i64 co, .int .u32 cv.a, .int .u32 cv.b, .int .u32 cv.c, .int .u32 cv.d, .int .u32 cn]
  let kc6 : List Value := [.int .i64 o.kind, .int .i64 o.cap, .int .i64 o.width, .int .i64 o.retry, .int .i64 o.src, .int .i64 o.dst, .int .u32 o.i0, .int .u32 o.i1, .int .u32 o.i2, .int .u32 o.i3, .slice A n c, .int .u32 v.a, .int .u32 v.b, .int .u32 v.c, .int .u32 v.d]
  refine segU hE hR [(0, .op []), (1, .op []), (2, .op []), (3, .op []), (4, .op []), (5, .op [])] [] [(3, .pointer (some ⟨H0, 0, none⟩)), (5, .pointer (some ⟨H0 + 1, 0, none⟩)), (6, .pointer (some ⟨H0 + 2, 0, none⟩)), (7, .pointer (some ⟨H0 + 3, 0, none⟩)), (8, .bool false), (9, .bool false)] [⟨H0 + 3, 0, kc3, 63, true⟩, ⟨H0 + 2, 0, kc4, 116, true⟩, ⟨H0 + 1, 0, kc5, 60, true⟩, ⟨H0, 0, kc6, 116, true⟩] (H0 + 4) [] (by kernel_rfl) (by kernel_rfl) (by kernel_rfl) trivial ?_
  clear hE hR; intro a u hE hR
  refine opsNil ?_; refine thenN ?_; refine wp_seq ?_
  refine enterR (idx := [0, 1]) (by kernel_rfl) ?_
  refine segV hE hR [(0, .op []), (1, .op [])] [] [(10, .func (.func 74) #[] #[.pointer (some ⟨H0, 0, none⟩)])] [] (by kernel_rfl) (by kernel_rfl) (by kernel_rfl) trivial ?_
  clear hE hR; intro a u hE hR
  refine opsNil ?_; refine thenN ?_; refine wp_seq ?_; refine wp_seq ?_
  refine enterR (idx := [0, 1, 2, 3]) (by kernel_rfl) ?_
  refine segV hE hR [(0, .op []), (1, .op (hks 3 0 15))] [2, 3] [(12, .int .i64 17), (13, kv1)] [] (by kernel_rfl) (by kernel_rfl) (by kernel_rfl) trivial ?_
  clear hE hR; intro a u hE hR
  refine opsCons ?_
  refine call hE hR [] 45 #[kv1] (some 14) [] (by kernel_rfl) (by kernel_rfl) trivial (HK _) (fun _ _ h => by cases h.1) (fun _ h => by cases h.1) ?_
  clear hE
  rintro v u ⟨hv, hb⟩ a hE
  cases hv
  obtain ⟨H1, hH1, hR⟩ := hR.callE hb
  refine segV hE hR [(3, .op [])] [] [(15, .agg #[.int .i64 17, .int .i64 4])] [] (by kernel_rfl) (by kernel_rfl) (by kernel_rfl) trivial ?_
  clear hE hR; intro a u hE hR
  refine opsNil ?_; refine thenN ?_; refine wp_block ?_; refine wp_seq ?_; refine wp_block ?_; refine wp_seq ?_; refine wp_block ?_; refine wp_seq ?_; refine wp_block ?_; refine wp_seq ?_
  refine wp_block ?_; refine wp_seq ?_; refine wp_block ?_; refine wp_seq ?_; refine wp_block ?_; refine wp_seq ?_; refine wp_block ?_; refine wp_seq ?_; refine wp_block ?_; refine wp_seq ?_
  refine wp_block ?_; refine wp_seq ?_; refine wp_seq ?_; refine wp_seq ?_
  refine enterR (idx := [0, 1, 2]) (by kernel_rfl) ?_
  refine segV hE hR [(0, .op []), (1, .op []), (2, .op [])] [] [(16, .bool false)] [] (by kernel_rfl) (by kernel_rfl) (by kernel_rfl) trivial ?_
  clear hE hR; intro a u hE hR
  refine opsNil ?_; refine thenN ?_
  refine condF hE (b := false) (by kernel_rfl) rfl ?_
  refine wp_skip ?_; refine thenN ?_; refine wp_seq ?_; refine wp_seq ?_
  refine enterR (idx := [0, 1, 2]) (by kernel_rfl) ?_
  refine segV hE hR [(0, .op []), (1, .op []), (2, .op [])] [] [(19, .bool false)] [] (by kernel_rfl) (by kernel_rfl) (by kernel_rfl) trivial ?_
  clear hE hR; intro a u hE hR
  refine opsNil ?_; refine thenN ?_
  refine condF hE (b := false) (by kernel_rfl) rfl ?_
  refine wp_skip ?_; refine thenN ?_; refine wp_seq ?_; refine wp_seq ?_; refine wp_seq ?_
  refine enterR (idx := [0, 1, 2]) (by kernel_rfl) ?_
  refine segV hE hR [(0, .op []), (1, .op []), (2, .op [])] [] [(22, .bool false)] [] (by kernel_rfl) (by kernel_rfl) (by kernel_rfl) trivial ?_
  clear hE hR; intro a u hE hR
  refine opsNil ?_; refine thenN ?_
  refine condF hE (b := false) (by kernel_rfl) rfl ?_
  refine enterR (idx := [0, 1, 2]) (by kernel_rfl) ?_
  refine seg0 hE hR [(0, .op []), (1, .op []), (2, .op [])] [] [(3, .pointer (some ⟨H0, 0, none⟩)), (5, .pointer (some ⟨H0 + 1, 0, none⟩)), (6, .pointer (some ⟨H0 + 2, 0, none⟩)), (7, .pointer (some ⟨H0 + 3, 0, none⟩)), (8, .bool false), (9, .bool false), (10, .func (.func 74) #[] #[.pointer (some ⟨H0, 0, none⟩)]), (15, .agg #[.int .i64 17, .int .i64 4]), (16, .bool false), (19, .bool false), (22, .bool false)] [] (by kernel_rfl) (by kernel_rfl) (by kernel_rfl) trivial ?_
  clear hE hR; intro a u hE hR
  refine opsNil ?_; refine thenN ?_
  refine condF hE (b := false) (by kernel_rfl) rfl ?_
  refine wp_skip ?_; refine thenN ?_; refine wp_seq ?_; refine wp_seq ?_; refine wp_seq ?_
  refine enterR (idx := [0, 1, 2]) (by kernel_rfl) ?_
  refine segV hE hR [(0, .op []), (1, .op []), (2, .op [])] [] [(27, .bool false)] [] (by kernel_rfl) (by kernel_rfl) (by kernel_rfl) trivial ?_
  clear hE hR; intro a u hE hR
  refine opsNil ?_; refine thenN ?_
  refine condF hE (b := false) (by kernel_rfl) rfl ?_
  refine wp_seq ?_
  refine enterR (idx := [0, 1, 2]) (by kernel_rfl) ?_
  refine segV hE hR [(0, .op []), (1, .op []), (2, .op [])] [] [] [] (by kernel_rfl) (by kernel_rfl) (by kernel_rfl) trivial ?_
  clear hE hR; intro a u hE hR
  refine opsNil ?_; refine thenN ?_
  refine condF hE (b := false) (by kernel_rfl) rfl ?_
  refine enterR (idx := [0, 1, 2]) (by kernel_rfl) ?_
  refine segV hE hR [(0, .op []), (1, .op []), (2, .op [])] [] [] [] (by kernel_rfl) (by kernel_rfl) (by kernel_rfl) trivial ?_
  clear hE hR; intro a u hE hR
  refine opsNil ?_; refine thenN ?_
  refine condF hE (b := false) (by kernel_rfl) rfl ?_
  refine wp_skip ?_; refine thenN ?_; refine wp_seq ?_; refine wp_seq ?_
  refine enterR (idx := [0, 1, 2]) (by kernel_rfl) ?_
  refine segV hE hR [(0, .op []), (1, .op []), (2, .op [])] [] [(34, .bool false)] [] (by kernel_rfl) (by kernel_rfl) (by kernel_rfl) trivial ?_
  clear hE hR; intro a u hE hR
  refine opsNil ?_; refine thenN ?_
  refine condF hE (b := false) (by kernel_rfl) rfl ?_
  refine wp_skip ?_; refine thenN ?_; refine wp_seq ?_; refine wp_seq ?_
  refine enterR (idx := [0, 1, 2]) (by kernel_rfl) ?_
  refine segV hE hR [(0, .op []), (1, .op []), (2, .op [])] [] [(37, .bool false)] [] (by kernel_rfl) (by kernel_rfl) (by kernel_rfl) trivial ?_
  clear hE hR; intro a u hE hR
  refine opsNil ?_; refine thenN ?_
  refine condF hE (b := false) (by kernel_rfl) rfl ?_
  refine wp_skip ?_; refine thenN ?_; refine wp_seq ?_; refine wp_seq ?_
  refine enterR (idx := [0, 1, 2]) (by kernel_rfl) ?_
  refine segV hE hR [(0, .op []), (1, .op []), (2, .op [])] [] [(40, .bool false)] [] (by kernel_rfl) (by kernel_rfl) (by kernel_rfl) trivial ?_
  clear hE hR; intro a u hE hR
  refine opsNil ?_; refine thenN ?_
  refine condF hE (b := false) (by kernel_rfl) rfl ?_
  refine wp_skip ?_; refine thenN ?_; refine wp_seq ?_; refine wp_seq ?_
  refine enterR (idx := [0, 1, 2]) (by kernel_rfl) ?_
  refine segV hE hR [(0, .op []), (1, .op []), (2, .op [])] [] [(43, .bool true)] [] (by kernel_rfl) (by kernel_rfl) (by kernel_rfl) trivial ?_
  clear hE hR; intro a u hE hR
  refine opsNil ?_; refine thenN ?_
  refine condT hE (b := true) (by kernel_rfl) rfl ?_
  refine wp_exit ?_; refine thenE ?_; refine thenE ?_; refine blkX (by kernel_rfl) ?_; refine thenE ?_; refine blkX (by kernel_rfl) ?_; refine thenE ?_; refine blkX (by kernel_rfl) ?_
  refine thenE ?_; refine blkX (by kernel_rfl) ?_; refine thenE ?_; refine blkX (by kernel_rfl) ?_; refine thenE ?_; refine blkX (by kernel_rfl) ?_; refine thenE ?_; refine blkX (by kernel_rfl) ?_
  refine thenE ?_; refine blkE ?_; refine thenN ?_; refine wp_seq ?_
  refine enterR (idx := [0, 1, 2, 3, 4, 5, 6, 7]) (by kernel_rfl) ?_
  refine seg0 hE hR [(0, .op []), (1, .op []), (2, .op [.k 3 11]), (3, .op []), (4, .op []), (5, .op [.k 2 2])] [6, 7] [(3, .pointer (some ⟨H0, 0, none⟩)), (5, .pointer (some ⟨H0 + 1, 0, none⟩)), (6, .pointer (some ⟨H0 + 2, 0, none⟩)), (7, .pointer (some ⟨H0 + 3, 0, none⟩)), (8, .bool false), (9, .bool false), (10, .func (.func 74) #[] #[.pointer (some ⟨H0, 0, none⟩)]), (15, .agg #[.int .i64 17, .int .i64 4]), (16, .bool false), (19, .bool false), (22, .bool false), (27, .bool false), (34, .bool false), (37, .bool false), (40, .bool false), (43, .bool true), (165, .int .u32 v.a), (168, .int .u32 cv.a)] [] (by kernel_rfl) (by kernel_rfl) (by kernel_rfl) trivial ?_
  clear hE hR; intro a u hE hR
  refine opsCons ?_
  refine call hE hR [] 75 #[.int .i64 5, .int .u32 v.a, .int .u32 cv.a] (some 169) [] (by kernel_rfl) (by kernel_rfl) trivial (hold5 _) (fun _ _ h => by cases h.1) (fun _ h => by cases h.1) ?_
  clear hE
  rintro v u ⟨hv, hb⟩ a hE
  cases hv
  obtain ⟨H2, hH2, hR⟩ := hR.callE hb
  let kv7 : Value := .bool (!((((v.a.toNat &&& cv.a.toNat : Nat) : Int) == cv.a)))
  refine segV hE hR [(7, .op [])] [] [(170, kv7)] [] (by kernel_rfl) (by kernel_rfl) (by kernel_rfl) trivial ?_
  clear hE hR; intro a u hE hR
  refine opsNil ?_; refine thenN ?_
  refine condF hE (b := !((((v.a.toNat &&& cv.a.toNat : Nat) : Int) == cv.a))) (by kernel_rfl) (by rw [hbit]; rfl) ?_
  refine wp_skip ?_; refine blkN ?_; refine thenN ?_; refine wp_seq ?_
  let kc8 : List Value := [.int .i64 0, .int .u32 v.a, .int .u32 0, .int .u32 0, .int .u32 0]
  refine seqJ (fun a u => TE a 179 [(3, .pointer (some ⟨H0, 0, none⟩)), (5, .pointer (some ⟨H0 + 1, 0, none⟩)), (6, .pointer (some ⟨H0 + 2, 0, none⟩)), (7, .pointer (some ⟨H0 + 3, 0, none⟩)), (8, .bool false), (9, .bool true), (10, .func (.func 74) #[] #[.pointer (some ⟨H0, 0, none⟩)]), (15, .agg #[.int .i64 17, .int .i64 4]), (16, .bool false), (19, .bool false), (22, .bool false), (27, .bool false), (34, .bool false), (37, .bool false), (40, .bool false), (43, .bool true), (170, kv7)] ∧ ∃ H, Rep [(w, fun _ => True)] u H [⟨H0 + 3, 0, kc8, 63, true⟩, ⟨H0 + 2, 0, kc6, 116, true⟩, ⟨H0 + 1, 0, kc5, 60, true⟩, ⟨H0, 0, kc6, 116, true⟩] []) ?_ ?_
  · show Code.wp _ _ _ _ _
    refine enterD (kl := [⟨H0 + 1, 0, kc5, 60, true⟩, ⟨H0, 0, kc6, 116, true⟩]) (by kernel_rfl) hR (F := 8) (listed := #[false, false, false, false, false, false, false, false]) (by kernel_rfl) (by kernel_rfl) ?_
    clear hR
    intro u hR
    refine takesU (by kernel_rfl) (pqT (pqT (pqB (pqT pqF)))) hE (hR.ss [2, 3] (by kernel_rfl)) [(0, .op (hks 1 0 15)), (1, .op [])] 6 [(173, kv1), (174, .func (.func 74) #[] #[.pointer (some ⟨H0, 0, none⟩)])] #[true, true, false, false, false, false, false, false] [] (by kernel_rfl) (by kernel_rfl) (by kernel_rfl) trivial ?_
    clear hE; intro a hE
    refine wpAnyH_all (rs := [2]) (by kernel_rfl) (by simp) (allCons ?_ allNil)
    refine call hE hR [] 74 #[.pointer (some ⟨H0, 0, none⟩)] (some 175) [] (by kernel_rfl) (by kernel_rfl) trivial (wordI_calls _ _ v.a _ (hR.rangeK 3 rfl) rfl) (fun _ _ h => by cases h.1) (fun _ h => by cases h.1) ?_
    clear hE
    rintro v u ⟨hv, hb⟩ a hE
    cases hv
    obtain ⟨H3, hH3, hR⟩ := hR.callE hb
    refine ⟨(hR.ss [2, 3] (by kernel_rfl)), ?_⟩
    show wpAnyH _ _ _ _ _ _ #[true, true, true, false, false, false, false, false] _ _
    let kv9 : Value := .agg #[.int .i64 0, .int .u32 v.a, .int .u32 0, .int .u32 0, .int .u32 0]
    refine takesU (by kernel_rfl) (pqT (pqT (pqB (pqT pqF)))) hE (hR.ss [2, 3] (by kernel_rfl)) [(3, .op [])] 4 [(176, kv9)] #[true, true, true, true, false, false, false, false] [] (by kernel_rfl) (by kernel_rfl) (by kernel_rfl) trivial ?_
    clear hE; intro a hE
    refine wpAnyH_all (rs := [4]) (by kernel_rfl) (by simp) (allCons ?_ allNil)
    refine oneU hE hR (.op (hks 1 0 15)) [] [⟨H0 + 3, 0, kc3, 63, true⟩, ⟨H0 + 2, 0, kc6, 116, true⟩, ⟨H0 + 1, 0, kc5, 60, true⟩, ⟨H0, 0, kc6, 116, true⟩] (H3) [] (by kernel_rfl) (by kernel_rfl) trivial ?_
    clear hE hR; intro a u hE hR
    refine ⟨(hR.ss [2, 3] (by kernel_rfl)), ?_⟩
    show wpAnyH _ _ _ _ _ _ #[true, true, true, true, true, false, false, false] _ _
    refine wpAnyH_all (rs := [5]) (by kernel_rfl) (by simp) (allCons ?_ allNil)
    refine oneU hE hR (.op (hks 0 0 5)) [] [⟨H0 + 3, 0, kc8, 63, true⟩, ⟨H0 + 2, 0, kc6, 116, true⟩, ⟨H0 + 1, 0, kc5, 60, true⟩, ⟨H0, 0, kc6, 116, true⟩] (H3) [] (by kernel_rfl) (by kernel_rfl) trivial ?_
    clear hE hR; intro a u hE hR
    refine ⟨(hR.ss [2, 3] (by kernel_rfl)), ?_⟩
    show wpAnyH _ _ _ _ _ _ #[true, true, true, true, true, true, false, false] _ _
    refine takesU (by kernel_rfl) (pqT (pqT (pqB (pqT pqF)))) hE (hR.ss [2, 3] (by kernel_rfl)) [(6, .op []), (7, .op [])] 0 [(9, .bool true)] #[true, true, true, true, true, true, true, true] [] (by kernel_rfl) (by kernel_rfl) (by kernel_rfl) trivial ?_
    clear hE; intro a hE
    refine wpAnyH_done (by kernel_rfl) ?_ _
    refine thenN ?_
    exact ⟨hE.sub (by kernel_rfl), _, hR⟩
  clear hE hR
  rintro a u ⟨hE, J1, hR⟩
  refine wp_ret ?_; refine thenR ?_; refine blkR ?_; refine thenR ?_
  refine retF hE hR (hks 1 0 15 ++ hks 0 0 5) (.tuple #[.agg #[.int .i64 o.kind, .int .i64 o.cap, .int .i64 o.width, .int .i64 o.retry, .int .i64 o.src, .int .i64 o.dst, .int .u32 o.i0, .int .u32 o.i1, .int .u32 o.i2, .int .u32 o.i3, .slice A n c, .int .u32 v.a, .int .u32 v.b, .int .u32 v.c, .int .u32 v.d], .agg #[.int .i64 0, .int .u32 v.a, .int .u32 0, .int .u32 0, .int .u32 0], .bool false, .bool true]) (by kernel_rfl) (by kernel_rfl) (by kernel_rfl) ?_
  exact ⟨rfl, hR.below (by simp)⟩
set_option maxRecDepth 100000 in
theorem done_all_no (o : Ob) (v : Vl) (ck co : Int) (cv : Vl) (cn : Int) (A : Option Addr) (n c : Nat) (w : World) (hkk : kindP o = 4) (hva : 0 ≤ v.a ∧ v.a < 4294967296) (hcv : 0 ≤ cv.a ∧ cv.a < 4294967296) (hbit : (((v.a.toNat &&& cv.a.toNat : Nat) : Int) == cv.a) = false) :
    Calls Try.prog 50 #[itA o (.slice A n c) v, .int .i64 17, callA ck co cv cn] w fun e W' => e = .returned (.tuple #[itA o (.slice A n c) v, resA 7 Vl.z, .bool false, .bool true]) ∧ Below w.heap.size w W' := by
  have HK := fun W => kind_calls o A (n) (c) v W
  rw [hkk] at HK
  have hold5 := fun W => holds5_calls v.a.toNat cv.a.toNat (by omega) (by omega) W
  simp only [Int.toNat_of_nonneg hva.1, Int.toNat_of_nonneg hcv.1] at hold5
  let kv1 : Value := .agg #[.int .i64 o.kind, .int .i64 o.cap, .int .i64 o.width, .int .i64 o.retry, .int .i64 o.src, .int .i64 o.dst, .int .u32 o.i0, .int .u32 o.i1, .int .u32 o.i2, .int .u32 o.i3, .slice A n c, .int .u32 v.a, .int .u32 v.b, .int .u32 v.c, .int .u32 v.d]
  let kv2 : Value := .agg #[.int .i64 ck, .int .i64 co, .int .u32 cv.a, .int .u32 cv.b, .int .u32 cv.c, .int .u32 cv.d, .int .u32 cn]
  refine enterF Try.func50 rfl Try.ntmps50 [(0, kv1), (1, .int .i64 17), (2, kv2)] (by kernel_rfl) (by kernel_rfl) ?_
  have hR := Rep.start w
  obtain ⟨H0, hH0⟩ : ∃ x, x = w.heap.size := ⟨_, rfl⟩
  rw [← hH0] at hR
  intro a hE
  refine wp_seq ?_
  refine enterR (idx := [0, 1, 2, 3, 4, 5]) (by kernel_rfl) ?_
  let kc3 : List Value := [.int .i64 0, .int .u32 0, .int .u32 0, .int .u32 0, .int .u32 0]
  let kc4 : List Value := [.int .i64 0, .int .i64 0, .int .i64 0, .int .i64 0, .int .i64 0, .int .i64 0, .int .u32 0, .int .u32 0, .int .u32 0, .int .u32 0, .slice none 0 0, .int .u32 0, .int .u32 0, .int .u32 0, .int .u32 0]
  let kc5 : List Value := [.int .i64 ck, .int .i64 co, .int .u32 cv.a, .int .u32 cv.b, .int .u32 cv.c, .int .u32 cv.d, .int .u32 cn]
  let kc6 : List Value := [.int .i64 o.kind, .int .i64 o.cap, .int .i64 o.width, .int .i64 o.retry, .int .i64 o.src, .int .i64 o.dst, .int .u32 o.i0, .int .u32 o.i1, .int .u32 o.i2, .int .u32 o.i3, .slice A n c, .int .u32 v.a, .int .u32 v.b, .int .u32 v.c, .int .u32 v.d]
  refine segU hE hR [(0, .op []), (1, .op []), (2, .op []), (3, .op []), (4, .op []), (5, .op [])] [] [(3, .pointer (some ⟨H0, 0, none⟩)), (5, .pointer (some ⟨H0 + 1, 0, none⟩)), (6, .pointer (some ⟨H0 + 2, 0, none⟩)), (7, .pointer (some ⟨H0 + 3, 0, none⟩)), (8, .bool false), (9, .bool false)] [⟨H0 + 3, 0, kc3, 63, true⟩, ⟨H0 + 2, 0, kc4, 116, true⟩, ⟨H0 + 1, 0, kc5, 60, true⟩, ⟨H0, 0, kc6, 116, true⟩] (H0 + 4) [] (by kernel_rfl) (by kernel_rfl) (by kernel_rfl) trivial ?_
  clear hE hR; intro a u hE hR
  refine opsNil ?_; refine thenN ?_; refine wp_seq ?_
  refine enterR (idx := [0, 1]) (by kernel_rfl) ?_
  refine segV hE hR [(0, .op []), (1, .op [])] [] [(10, .func (.func 74) #[] #[.pointer (some ⟨H0, 0, none⟩)])] [] (by kernel_rfl) (by kernel_rfl) (by kernel_rfl) trivial ?_
  clear hE hR; intro a u hE hR
  refine opsNil ?_; refine thenN ?_; refine wp_seq ?_; refine wp_seq ?_
  refine enterR (idx := [0, 1, 2, 3]) (by kernel_rfl) ?_
  refine segV hE hR [(0, .op []), (1, .op (hks 3 0 15))] [2, 3] [(12, .int .i64 17), (13, kv1)] [] (by kernel_rfl) (by kernel_rfl) (by kernel_rfl) trivial ?_
  clear hE hR; intro a u hE hR
  refine opsCons ?_
  refine call hE hR [] 45 #[kv1] (some 14) [] (by kernel_rfl) (by kernel_rfl) trivial (HK _) (fun _ _ h => by cases h.1) (fun _ h => by cases h.1) ?_
  clear hE
  rintro v u ⟨hv, hb⟩ a hE
  cases hv
  obtain ⟨H1, hH1, hR⟩ := hR.callE hb
  refine segV hE hR [(3, .op [])] [] [(15, .agg #[.int .i64 17, .int .i64 4])] [] (by kernel_rfl) (by kernel_rfl) (by kernel_rfl) trivial ?_
  clear hE hR; intro a u hE hR
  refine opsNil ?_; refine thenN ?_; refine wp_block ?_; refine wp_seq ?_; refine wp_block ?_; refine wp_seq ?_; refine wp_block ?_; refine wp_seq ?_; refine wp_block ?_; refine wp_seq ?_
  refine wp_block ?_; refine wp_seq ?_; refine wp_block ?_; refine wp_seq ?_; refine wp_block ?_; refine wp_seq ?_; refine wp_block ?_; refine wp_seq ?_; refine wp_block ?_; refine wp_seq ?_
  refine wp_block ?_; refine wp_seq ?_; refine wp_seq ?_; refine wp_seq ?_
  refine enterR (idx := [0, 1, 2]) (by kernel_rfl) ?_
  refine segV hE hR [(0, .op []), (1, .op []), (2, .op [])] [] [(16, .bool false)] [] (by kernel_rfl) (by kernel_rfl) (by kernel_rfl) trivial ?_
  clear hE hR; intro a u hE hR
  refine opsNil ?_; refine thenN ?_
  refine condF hE (b := false) (by kernel_rfl) rfl ?_
  refine wp_skip ?_; refine thenN ?_; refine wp_seq ?_; refine wp_seq ?_
  refine enterR (idx := [0, 1, 2]) (by kernel_rfl) ?_
  refine segV hE hR [(0, .op []), (1, .op []), (2, .op [])] [] [(19, .bool false)] [] (by kernel_rfl) (by kernel_rfl) (by kernel_rfl) trivial ?_
  clear hE hR; intro a u hE hR
  refine opsNil ?_; refine thenN ?_
  refine condF hE (b := false) (by kernel_rfl) rfl ?_
  refine wp_skip ?_; refine thenN ?_; refine wp_seq ?_; refine wp_seq ?_; refine wp_seq ?_
  refine enterR (idx := [0, 1, 2]) (by kernel_rfl) ?_
  refine segV hE hR [(0, .op []), (1, .op []), (2, .op [])] [] [(22, .bool false)] [] (by kernel_rfl) (by kernel_rfl) (by kernel_rfl) trivial ?_
  clear hE hR; intro a u hE hR
  refine opsNil ?_; refine thenN ?_
  refine condF hE (b := false) (by kernel_rfl) rfl ?_
  refine enterR (idx := [0, 1, 2]) (by kernel_rfl) ?_
  refine seg0 hE hR [(0, .op []), (1, .op []), (2, .op [])] [] [(3, .pointer (some ⟨H0, 0, none⟩)), (5, .pointer (some ⟨H0 + 1, 0, none⟩)), (6, .pointer (some ⟨H0 + 2, 0, none⟩)), (7, .pointer (some ⟨H0 + 3, 0, none⟩)), (8, .bool false), (9, .bool false), (10, .func (.func 74) #[] #[.pointer (some ⟨H0, 0, none⟩)]), (15, .agg #[.int .i64 17, .int .i64 4]), (16, .bool false), (19, .bool false), (22, .bool false)] [] (by kernel_rfl) (by kernel_rfl) (by kernel_rfl) trivial ?_
  clear hE hR; intro a u hE hR
  refine opsNil ?_; refine thenN ?_
  refine condF hE (b := false) (by kernel_rfl) rfl ?_
  refine wp_skip ?_; refine thenN ?_; refine wp_seq ?_; refine wp_seq ?_; refine wp_seq ?_
  refine enterR (idx := [0, 1, 2]) (by kernel_rfl) ?_
  refine segV hE hR [(0, .op []), (1, .op []), (2, .op [])] [] [(27, .bool false)] [] (by kernel_rfl) (by kernel_rfl) (by kernel_rfl) trivial ?_
  clear hE hR; intro a u hE hR
  refine opsNil ?_; refine thenN ?_
  refine condF hE (b := false) (by kernel_rfl) rfl ?_
  refine wp_seq ?_
  refine enterR (idx := [0, 1, 2]) (by kernel_rfl) ?_
  refine segV hE hR [(0, .op []), (1, .op []), (2, .op [])] [] [] [] (by kernel_rfl) (by kernel_rfl) (by kernel_rfl) trivial ?_
  clear hE hR; intro a u hE hR
  refine opsNil ?_; refine thenN ?_
  refine condF hE (b := false) (by kernel_rfl) rfl ?_
  refine enterR (idx := [0, 1, 2]) (by kernel_rfl) ?_
  refine segV hE hR [(0, .op []), (1, .op []), (2, .op [])] [] [] [] (by kernel_rfl) (by kernel_rfl) (by kernel_rfl) trivial ?_
  clear hE hR; intro a u hE hR
  refine opsNil ?_; refine thenN ?_
  refine condF hE (b := false) (by kernel_rfl) rfl ?_
  refine wp_skip ?_; refine thenN ?_; refine wp_seq ?_; refine wp_seq ?_
  refine enterR (idx := [0, 1, 2]) (by kernel_rfl) ?_
  refine segV hE hR [(0, .op []), (1, .op []), (2, .op [])] [] [(34, .bool false)] [] (by kernel_rfl) (by kernel_rfl) (by kernel_rfl) trivial ?_
  clear hE hR; intro a u hE hR
  refine opsNil ?_; refine thenN ?_
  refine condF hE (b := false) (by kernel_rfl) rfl ?_
  refine wp_skip ?_; refine thenN ?_; refine wp_seq ?_; refine wp_seq ?_
  refine enterR (idx := [0, 1, 2]) (by kernel_rfl) ?_
  refine segV hE hR [(0, .op []), (1, .op []), (2, .op [])] [] [(37, .bool false)] [] (by kernel_rfl) (by kernel_rfl) (by kernel_rfl) trivial ?_
  clear hE hR; intro a u hE hR
  refine opsNil ?_; refine thenN ?_
  refine condF hE (b := false) (by kernel_rfl) rfl ?_
  refine wp_skip ?_; refine thenN ?_; refine wp_seq ?_; refine wp_seq ?_
  refine enterR (idx := [0, 1, 2]) (by kernel_rfl) ?_
  refine segV hE hR [(0, .op []), (1, .op []), (2, .op [])] [] [(40, .bool false)] [] (by kernel_rfl) (by kernel_rfl) (by kernel_rfl) trivial ?_
  clear hE hR; intro a u hE hR
  refine opsNil ?_; refine thenN ?_
  refine condF hE (b := false) (by kernel_rfl) rfl ?_
  refine wp_skip ?_; refine thenN ?_; refine wp_seq ?_; refine wp_seq ?_
  refine enterR (idx := [0, 1, 2]) (by kernel_rfl) ?_
  refine segV hE hR [(0, .op []), (1, .op []), (2, .op [])] [] [(43, .bool true)] [] (by kernel_rfl) (by kernel_rfl) (by kernel_rfl) trivial ?_
  clear hE hR; intro a u hE hR
  refine opsNil ?_; refine thenN ?_
  refine condT hE (b := true) (by kernel_rfl) rfl ?_
  refine wp_exit ?_; refine thenE ?_; refine thenE ?_; refine blkX (by kernel_rfl) ?_; refine thenE ?_; refine blkX (by kernel_rfl) ?_; refine thenE ?_; refine blkX (by kernel_rfl) ?_
  refine thenE ?_; refine blkX (by kernel_rfl) ?_; refine thenE ?_; refine blkX (by kernel_rfl) ?_; refine thenE ?_; refine blkX (by kernel_rfl) ?_; refine thenE ?_; refine blkX (by kernel_rfl) ?_
  refine thenE ?_; refine blkE ?_; refine thenN ?_; refine wp_seq ?_
  refine enterR (idx := [0, 1, 2, 3, 4, 5, 6, 7]) (by kernel_rfl) ?_
  refine seg0 hE hR [(0, .op []), (1, .op []), (2, .op [.k 3 11]), (3, .op []), (4, .op []), (5, .op [.k 2 2])] [6, 7] [(3, .pointer (some ⟨H0, 0, none⟩)), (5, .pointer (some ⟨H0 + 1, 0, none⟩)), (6, .pointer (some ⟨H0 + 2, 0, none⟩)), (7, .pointer (some ⟨H0 + 3, 0, none⟩)), (8, .bool false), (9, .bool false), (10, .func (.func 74) #[] #[.pointer (some ⟨H0, 0, none⟩)]), (15, .agg #[.int .i64 17, .int .i64 4]), (16, .bool false), (19, .bool false), (22, .bool false), (27, .bool false), (34, .bool false), (37, .bool false), (40, .bool false), (43, .bool true), (165, .int .u32 v.a), (168, .int .u32 cv.a)] [] (by kernel_rfl) (by kernel_rfl) (by kernel_rfl) trivial ?_
  clear hE hR; intro a u hE hR
  refine opsCons ?_
  refine call hE hR [] 75 #[.int .i64 5, .int .u32 v.a, .int .u32 cv.a] (some 169) [] (by kernel_rfl) (by kernel_rfl) trivial (hold5 _) (fun _ _ h => by cases h.1) (fun _ h => by cases h.1) ?_
  clear hE
  rintro v u ⟨hv, hb⟩ a hE
  cases hv
  obtain ⟨H2, hH2, hR⟩ := hR.callE hb
  let kv7 : Value := .bool (!((((v.a.toNat &&& cv.a.toNat : Nat) : Int) == cv.a)))
  refine segV hE hR [(7, .op [])] [] [(170, kv7)] [] (by kernel_rfl) (by kernel_rfl) (by kernel_rfl) trivial ?_
  clear hE hR; intro a u hE hR
  refine opsNil ?_; refine thenN ?_
  refine condT hE (b := !((((v.a.toNat &&& cv.a.toNat : Nat) : Int) == cv.a))) (by kernel_rfl) (by rw [hbit]; rfl) ?_
  refine wp_seq ?_
  refine enterR (idx := [0, 1, 2, 3, 4, 5]) (by kernel_rfl) ?_
  let kc8 : List Value := [.int .i64 7, .int .u32 0, .int .u32 0, .int .u32 0, .int .u32 0]
  refine segU hE hR [(0, .op (hks 3 0 15)), (1, .op []), (2, .op (hks 1 0 15)), (3, .op (hks 0 0 5)), (4, .op []), (5, .op [])] [] [(9, .bool true)] [⟨H0 + 3, 0, kc8, 63, true⟩, ⟨H0 + 2, 0, kc6, 116, true⟩, ⟨H0 + 1, 0, kc5, 60, true⟩, ⟨H0, 0, kc6, 116, true⟩] (H2) [] (by kernel_rfl) (by kernel_rfl) (by kernel_rfl) trivial ?_
  clear hE hR; intro a u hE hR
  refine opsNil ?_; refine thenN ?_; refine wp_ret ?_; refine blkR ?_; refine thenR ?_; refine blkR ?_; refine thenR ?_
  refine retF hE hR (hks 1 0 15 ++ hks 0 0 5) (.tuple #[.agg #[.int .i64 o.kind, .int .i64 o.cap, .int .i64 o.width, .int .i64 o.retry, .int .i64 o.src, .int .i64 o.dst, .int .u32 o.i0, .int .u32 o.i1, .int .u32 o.i2, .int .u32 o.i3, .slice A n c, .int .u32 v.a, .int .u32 v.b, .int .u32 v.c, .int .u32 v.d], .agg #[.int .i64 7, .int .u32 0, .int .u32 0, .int .u32 0, .int .u32 0], .bool false, .bool true]) (by kernel_rfl) (by kernel_rfl) (by kernel_rfl) ?_
  exact ⟨rfl, hR.below (by simp)⟩
set_option maxRecDepth 100000 in
theorem done_send_full (o : Ob) (v : Vl) (ck co : Int) (cv : Vl) (cn : Int) (A : Option Addr) (n c : Nat) (w : World) (hkk : kindP o = 1) (hfull : o.cap ≤ (n : Int)) :
    Calls Try.prog 50 #[itA o (.slice A n c) v, .int .i64 1, callA ck co cv cn] w fun e W' => e = .returned (.tuple #[itA o (.slice A n c) v, resA 6 Vl.z, .bool false, .bool true]) ∧ Below w.heap.size w W' := by
  have HK := fun W => kind_calls o A (n) (c) v W
  rw [hkk] at HK
  let kv1 : Value := .agg #[.int .i64 o.kind, .int .i64 o.cap, .int .i64 o.width, .int .i64 o.retry, .int .i64 o.src, .int .i64 o.dst, .int .u32 o.i0, .int .u32 o.i1, .int .u32 o.i2, .int .u32 o.i3, .slice A n c, .int .u32 v.a, .int .u32 v.b, .int .u32 v.c, .int .u32 v.d]
  let kv2 : Value := .agg #[.int .i64 ck, .int .i64 co, .int .u32 cv.a, .int .u32 cv.b, .int .u32 cv.c, .int .u32 cv.d, .int .u32 cn]
  refine enterF Try.func50 rfl Try.ntmps50 [(0, kv1), (1, .int .i64 1), (2, kv2)] (by kernel_rfl) (by kernel_rfl) ?_
  have hR := Rep.start w
  obtain ⟨H0, hH0⟩ : ∃ x, x = w.heap.size := ⟨_, rfl⟩
  rw [← hH0] at hR
  intro a hE
  refine wp_seq ?_
  refine enterR (idx := [0, 1, 2, 3, 4, 5]) (by kernel_rfl) ?_
  let kc3 : List Value := [.int .i64 0, .int .u32 0, .int .u32 0, .int .u32 0, .int .u32 0]
  let kc4 : List Value := [.int .i64 0, .int .i64 0, .int .i64 0, .int .i64 0, .int .i64 0, .int .i64 0, .int .u32 0, .int .u32 0, .int .u32 0, .int .u32 0, .slice none 0 0, .int .u32 0, .int .u32 0, .int .u32 0, .int .u32 0]
  let kc5 : List Value := [.int .i64 ck, .int .i64 co, .int .u32 cv.a, .int .u32 cv.b, .int .u32 cv.c, .int .u32 cv.d, .int .u32 cn]
  let kc6 : List Value := [.int .i64 o.kind, .int .i64 o.cap, .int .i64 o.width, .int .i64 o.retry, .int .i64 o.src, .int .i64 o.dst, .int .u32 o.i0, .int .u32 o.i1, .int .u32 o.i2, .int .u32 o.i3, .slice A n c, .int .u32 v.a, .int .u32 v.b, .int .u32 v.c, .int .u32 v.d]
  refine segU hE hR [(0, .op []), (1, .op []), (2, .op []), (3, .op []), (4, .op []), (5, .op [])] [] [(3, .pointer (some ⟨H0, 0, none⟩)), (5, .pointer (some ⟨H0 + 1, 0, none⟩)), (6, .pointer (some ⟨H0 + 2, 0, none⟩)), (7, .pointer (some ⟨H0 + 3, 0, none⟩)), (8, .bool false), (9, .bool false)] [⟨H0 + 3, 0, kc3, 63, true⟩, ⟨H0 + 2, 0, kc4, 116, true⟩, ⟨H0 + 1, 0, kc5, 60, true⟩, ⟨H0, 0, kc6, 116, true⟩] (H0 + 4) [] (by kernel_rfl) (by kernel_rfl) (by kernel_rfl) trivial ?_
  clear hE hR; intro a u hE hR
  refine opsNil ?_; refine thenN ?_; refine wp_seq ?_
  refine enterR (idx := [0, 1]) (by kernel_rfl) ?_
  refine segV hE hR [(0, .op []), (1, .op [])] [] [(10, .func (.func 74) #[] #[.pointer (some ⟨H0, 0, none⟩)])] [] (by kernel_rfl) (by kernel_rfl) (by kernel_rfl) trivial ?_
  clear hE hR; intro a u hE hR
  refine opsNil ?_; refine thenN ?_; refine wp_seq ?_; refine wp_seq ?_
  refine enterR (idx := [0, 1, 2, 3]) (by kernel_rfl) ?_
  refine segV hE hR [(0, .op []), (1, .op (hks 3 0 15))] [2, 3] [(12, .int .i64 1), (13, kv1)] [] (by kernel_rfl) (by kernel_rfl) (by kernel_rfl) trivial ?_
  clear hE hR; intro a u hE hR
  refine opsCons ?_
  refine call hE hR [] 45 #[kv1] (some 14) [] (by kernel_rfl) (by kernel_rfl) trivial (HK _) (fun _ _ h => by cases h.1) (fun _ h => by cases h.1) ?_
  clear hE
  rintro v u ⟨hv, hb⟩ a hE
  cases hv
  obtain ⟨H1, hH1, hR⟩ := hR.callE hb
  refine segV hE hR [(3, .op [])] [] [(15, .agg #[.int .i64 1, .int .i64 1])] [] (by kernel_rfl) (by kernel_rfl) (by kernel_rfl) trivial ?_
  clear hE hR; intro a u hE hR
  refine opsNil ?_; refine thenN ?_; refine wp_block ?_; refine wp_seq ?_; refine wp_block ?_; refine wp_seq ?_; refine wp_block ?_; refine wp_seq ?_; refine wp_block ?_; refine wp_seq ?_
  refine wp_block ?_; refine wp_seq ?_; refine wp_block ?_; refine wp_seq ?_; refine wp_block ?_; refine wp_seq ?_; refine wp_block ?_; refine wp_seq ?_; refine wp_block ?_; refine wp_seq ?_
  refine wp_block ?_; refine wp_seq ?_; refine wp_seq ?_; refine wp_seq ?_
  refine enterR (idx := [0, 1, 2]) (by kernel_rfl) ?_
  refine segV hE hR [(0, .op []), (1, .op []), (2, .op [])] [] [(16, .bool true)] [] (by kernel_rfl) (by kernel_rfl) (by kernel_rfl) trivial ?_
  clear hE hR; intro a u hE hR
  refine opsNil ?_; refine thenN ?_
  refine condT hE (b := true) (by kernel_rfl) rfl ?_
  refine wp_exit ?_; refine thenE ?_; refine thenE ?_; refine blkE ?_; refine thenN ?_; refine wp_seq ?_; refine wp_seq ?_; refine wp_seq ?_
  refine enterR (idx := [0, 1, 2, 3, 4, 5, 6]) (by kernel_rfl) ?_
  refine segV hE hR [(0, .op []), (1, .op [.k 3 10]), (2, .op []), (3, .op []), (4, .op []), (5, .op [.k 3 1]), (6, .op [])] [] [(55, .bool (decide (((n : Nat) : Int) ≥ o.cap)))] [] (by kernel_rfl) (by kernel_rfl) (by kernel_rfl) trivial ?_
  clear hE hR; intro a u hE hR
  refine opsNil ?_; refine thenN ?_
  refine condT hE (b := decide (((n : Nat) : Int) ≥ o.cap)) (by kernel_rfl) (by simp; omega) ?_
  refine wp_seq ?_
  refine enterR (idx := [0, 1, 2, 3, 4, 5]) (by kernel_rfl) ?_
  let kc7 : List Value := [.int .i64 6, .int .u32 0, .int .u32 0, .int .u32 0, .int .u32 0]
  refine segU hE hR [(0, .op (hks 3 0 15)), (1, .op []), (2, .op (hks 1 0 15)), (3, .op (hks 0 0 5)), (4, .op []), (5, .op [])] [] [(9, .bool true)] [⟨H0 + 3, 0, kc7, 63, true⟩, ⟨H0 + 2, 0, kc6, 116, true⟩, ⟨H0 + 1, 0, kc5, 60, true⟩, ⟨H0, 0, kc6, 116, true⟩] (H1) [] (by kernel_rfl) (by kernel_rfl) (by kernel_rfl) trivial ?_
  clear hE hR; intro a u hE hR
  refine opsNil ?_; refine thenN ?_; refine wp_ret ?_; refine thenR ?_; refine thenR ?_; refine blkR ?_; refine thenR ?_; refine blkR ?_; refine thenR ?_; refine blkR ?_; refine thenR ?_
  refine blkR ?_; refine thenR ?_; refine blkR ?_; refine thenR ?_; refine blkR ?_; refine thenR ?_; refine blkR ?_; refine thenR ?_; refine blkR ?_; refine thenR ?_; refine blkR ?_
  refine thenR ?_
  refine retF hE hR (hks 1 0 15 ++ hks 0 0 5) (.tuple #[.agg #[.int .i64 o.kind, .int .i64 o.cap, .int .i64 o.width, .int .i64 o.retry, .int .i64 o.src, .int .i64 o.dst, .int .u32 o.i0, .int .u32 o.i1, .int .u32 o.i2, .int .u32 o.i3, .slice A n c, .int .u32 v.a, .int .u32 v.b, .int .u32 v.c, .int .u32 v.d], .agg #[.int .i64 6, .int .u32 0, .int .u32 0, .int .u32 0, .int .u32 0], .bool false, .bool true]) (by kernel_rfl) (by kernel_rfl) (by kernel_rfl) ?_
  exact ⟨rfl, hR.below (by simp)⟩
set_option maxRecDepth 100000 in
theorem done_send_nil (o : Ob) (v : Vl) (ck co : Int) (cv : Vl) (cn : Int)  (w : World) (hkk : kindP o = 1) (h0w : 0 ≤ o.width) (h4w : o.width ≤ 4) (hroom : 0 < o.cap) (_ : o.cap ≤ 64) :
    Calls Try.prog 50 #[itA o (.slice none 0 0) v, .int .i64 1, callA ck co cv cn] w fun e W' => ∃ g cap, e = .returned (.tuple #[itA o (.slice (some ⟨g, 0, none⟩) (1) cap) v, resA 0 Vl.z, .bool true, .bool true]) ∧ w.heap.size ≤ g ∧ RowV W' (.slice (some ⟨g, 0, none⟩) (1) cap) ([] ++ [clipP cv o.width]) ∧ Below w.heap.size w W' := by
  have HK := fun W => kind_calls o none (0) (0) v W
  rw [hkk] at HK
  let kv1 : Value := .agg #[.int .i64 o.kind, .int .i64 o.cap, .int .i64 o.width, .int .i64 o.retry, .int .i64 o.src, .int .i64 o.dst, .int .u32 o.i0, .int .u32 o.i1, .int .u32 o.i2, .int .u32 o.i3, .slice none 0 0, .int .u32 v.a, .int .u32 v.b, .int .u32 v.c, .int .u32 v.d]
  let kv2 : Value := .agg #[.int .i64 ck, .int .i64 co, .int .u32 cv.a, .int .u32 cv.b, .int .u32 cv.c, .int .u32 cv.d, .int .u32 cn]
  refine enterF Try.func50 rfl Try.ntmps50 [(0, kv1), (1, .int .i64 1), (2, kv2)] (by kernel_rfl) (by kernel_rfl) ?_
  have hR := Rep.start w
  obtain ⟨H0, hH0⟩ : ∃ x, x = w.heap.size := ⟨_, rfl⟩
  rw [← hH0] at hR
  intro a hE
  refine wp_seq ?_
  refine enterR (idx := [0, 1, 2, 3, 4, 5]) (by kernel_rfl) ?_
  let kc3 : List Value := [.int .i64 0, .int .u32 0, .int .u32 0, .int .u32 0, .int .u32 0]
  let kc4 : List Value := [.int .i64 0, .int .i64 0, .int .i64 0, .int .i64 0, .int .i64 0, .int .i64 0, .int .u32 0, .int .u32 0, .int .u32 0, .int .u32 0, .slice none 0 0, .int .u32 0, .int .u32 0, .int .u32 0, .int .u32 0]
  let kc5 : List Value := [.int .i64 ck, .int .i64 co, .int .u32 cv.a, .int .u32 cv.b, .int .u32 cv.c, .int .u32 cv.d, .int .u32 cn]
  let kc6 : List Value := [.int .i64 o.kind, .int .i64 o.cap, .int .i64 o.width, .int .i64 o.retry, .int .i64 o.src, .int .i64 o.dst, .int .u32 o.i0, .int .u32 o.i1, .int .u32 o.i2, .int .u32 o.i3, .slice none 0 0, .int .u32 v.a, .int .u32 v.b, .int .u32 v.c, .int .u32 v.d]
  refine segU hE hR [(0, .op []), (1, .op []), (2, .op []), (3, .op []), (4, .op []), (5, .op [])] [] [(3, .pointer (some ⟨H0, 0, none⟩)), (5, .pointer (some ⟨H0 + 1, 0, none⟩)), (6, .pointer (some ⟨H0 + 2, 0, none⟩)), (7, .pointer (some ⟨H0 + 3, 0, none⟩)), (8, .bool false), (9, .bool false)] [⟨H0 + 3, 0, kc3, 63, true⟩, ⟨H0 + 2, 0, kc4, 116, true⟩, ⟨H0 + 1, 0, kc5, 60, true⟩, ⟨H0, 0, kc6, 116, true⟩] (H0 + 4) [] (by kernel_rfl) (by kernel_rfl) (by kernel_rfl) trivial ?_
  clear hE hR; intro a u hE hR
  refine opsNil ?_; refine thenN ?_; refine wp_seq ?_
  refine enterR (idx := [0, 1]) (by kernel_rfl) ?_
  refine segV hE hR [(0, .op []), (1, .op [])] [] [(10, .func (.func 74) #[] #[.pointer (some ⟨H0, 0, none⟩)])] [] (by kernel_rfl) (by kernel_rfl) (by kernel_rfl) trivial ?_
  clear hE hR; intro a u hE hR
  refine opsNil ?_; refine thenN ?_; refine wp_seq ?_; refine wp_seq ?_
  refine enterR (idx := [0, 1, 2, 3]) (by kernel_rfl) ?_
  refine segV hE hR [(0, .op []), (1, .op (hks 3 0 15))] [2, 3] [(12, .int .i64 1), (13, kv1)] [] (by kernel_rfl) (by kernel_rfl) (by kernel_rfl) trivial ?_
  clear hE hR; intro a u hE hR
  refine opsCons ?_
  refine call hE hR [] 45 #[kv1] (some 14) [] (by kernel_rfl) (by kernel_rfl) trivial (HK _) (fun _ _ h => by cases h.1) (fun _ h => by cases h.1) ?_
  clear hE
  rintro v u ⟨hv, hb⟩ a hE
  cases hv
  obtain ⟨H1, hH1, hR⟩ := hR.callE hb
  refine segV hE hR [(3, .op [])] [] [(15, .agg #[.int .i64 1, .int .i64 1])] [] (by kernel_rfl) (by kernel_rfl) (by kernel_rfl) trivial ?_
  clear hE hR; intro a u hE hR
  refine opsNil ?_; refine thenN ?_; refine wp_block ?_; refine wp_seq ?_; refine wp_block ?_; refine wp_seq ?_; refine wp_block ?_; refine wp_seq ?_; refine wp_block ?_; refine wp_seq ?_
  refine wp_block ?_; refine wp_seq ?_; refine wp_block ?_; refine wp_seq ?_; refine wp_block ?_; refine wp_seq ?_; refine wp_block ?_; refine wp_seq ?_; refine wp_block ?_; refine wp_seq ?_
  refine wp_block ?_; refine wp_seq ?_; refine wp_seq ?_; refine wp_seq ?_
  refine enterR (idx := [0, 1, 2]) (by kernel_rfl) ?_
  refine segV hE hR [(0, .op []), (1, .op []), (2, .op [])] [] [(16, .bool true)] [] (by kernel_rfl) (by kernel_rfl) (by kernel_rfl) trivial ?_
  clear hE hR; intro a u hE hR
  refine opsNil ?_; refine thenN ?_
  refine condT hE (b := true) (by kernel_rfl) rfl ?_
  refine wp_exit ?_; refine thenE ?_; refine thenE ?_; refine blkE ?_; refine thenN ?_; refine wp_seq ?_; refine wp_seq ?_; refine wp_seq ?_
  refine enterR (idx := [0, 1, 2, 3, 4, 5, 6]) (by kernel_rfl) ?_
  refine segV hE hR [(0, .op []), (1, .op [.k 3 10]), (2, .op []), (3, .op []), (4, .op []), (5, .op [.k 3 1]), (6, .op [])] [] [(55, .bool (decide ((0 : Int) ≥ o.cap)))] [] (by kernel_rfl) (by kernel_rfl) (by kernel_rfl) trivial ?_
  clear hE hR; intro a u hE hR
  refine opsNil ?_; refine thenN ?_
  refine condF hE (b := decide ((0 : Int) ≥ o.cap)) (by kernel_rfl) (by simp; omega) ?_
  refine wp_skip ?_; refine thenN ?_
  let kc7 : List Value := [.int .u32 ((clipP cv o.width).a), .int .u32 ((clipP cv o.width).b), .int .u32 ((clipP cv o.width).c), .int .u32 ((clipP cv o.width).d)]
  refine seqJ (fun a u => ∃ (y1a : Nat) (y1b : List Value) (n1a : Nat), (1 ≤ y1a) ∧ (y1a ≤ maxLen) ∧ TE a 179 [(3, .pointer (some ⟨H0, 0, none⟩)), (5, .pointer (some ⟨H0 + 1, 0, none⟩)), (6, .pointer (some ⟨H0 + 2, 0, none⟩)), (7, .pointer (some ⟨H0 + 3, 0, none⟩)), (8, .bool false), (9, .bool false), (10, .func (.func 74) #[] #[.pointer (some ⟨H0, 0, none⟩)]), (15, .agg #[.int .i64 1, .int .i64 1]), (16, .bool true), (55, .bool (decide ((0 : Int) ≥ o.cap)))] ∧ ∃ H, Rep [(w, fun _ => True)] u H [⟨n1a, 0, ([] ++ kc7 ++ y1b), 58, true⟩, ⟨H0 + 3, 0, kc3, 63, true⟩, ⟨H0 + 2, 0, [.int .i64 o.kind, .int .i64 o.cap, .int .i64 o.width, .int .i64 o.retry, .int .i64 o.src, .int .i64 o.dst, .int .u32 o.i0, .int .u32 o.i1, .int .u32 o.i2, .int .u32 o.i3, .slice (some ⟨n1a, 0, none⟩) 1 y1a, .int .u32 v.a, .int .u32 v.b, .int .u32 v.c, .int .u32 v.d], 116, true⟩, ⟨H0 + 1, 0, kc5, 60, true⟩, ⟨H0, 0, kc6, 116, true⟩] []) ?_ ?_
  · show Code.wp _ _ _ _ _
    refine enterD (kl := [⟨H0 + 3, 0, kc3, 63, true⟩, ⟨H0 + 1, 0, kc5, 60, true⟩, ⟨H0, 0, kc6, 116, true⟩]) (by kernel_rfl) hR (F := 23) (listed := #[false, false, false, false, false, false, false, false, false, false, false, false, false, false, false, false, false, false, false, false, false, false, false]) (by kernel_rfl) (by kernel_rfl) ?_
    clear hR
    intro u hR
    let kv8 : Value := .agg #[.int .i64 o.kind, .int .i64 o.cap, .int .i64 o.width, .int .i64 o.retry, .int .i64 o.src, .int .i64 o.dst, .int .u32 o.i0, .int .u32 o.i1, .int .u32 o.i2, .int .u32 o.i3]
    let kv9 : Value := .agg #[.int .u32 cv.a, .int .u32 cv.b, .int .u32 cv.c, .int .u32 cv.d]
    let kv10 : Value := .agg #[.int .u32 v.a, .int .u32 v.b, .int .u32 v.c, .int .u32 v.d]
    refine takesU (by kernel_rfl) (pqT (pqT (pqB (pqT (pqB (pqT (pqB (pqT (pqB (pqT (pqB (pqT (pqB (pqT (pqB (pqT (pqB (pqT (pqB (pqT pqF)))))))))))))))))))) hE (hR.ss [0, 2, 3] (by kernel_rfl)) [(0, .op []), (1, .op (hks 2 0 10)), (2, .op []), (3, .op [.k 2 10]), (4, .op []), (5, .op [.k 2 10]), (6, .op []), (7, .op []), (8, .op [.k 2 10]), (9, .op []), (10, .op []), (11, .op []), (12, .op (hks 1 2 4)), (13, .op []), (14, .op []), (15, .op [.k 2 2]), (19, .op []), (20, .op (hks 2 11 4))] 5 [(59, kv8), (68, .slice none 0 0), (70, kv9), (73, .int .i64 o.width), (78, kv10)] #[true, true, true, true, true, true, true, true, true, true, true, true, true, true, true, true, false, false, false, true, true, false, false] [] (by kernel_rfl) (by kernel_rfl) (by kernel_rfl) trivial ?_
    clear hE; intro a hE
    refine wpAnyH_all (rs := [16]) (by kernel_rfl) (by simp) (allCons ?_ allNil)
    refine call hE hR [] 46 #[kv9, .int .i64 o.width] (some 74) [] (by kernel_rfl) (by kernel_rfl) trivial (clip_calls cv o.width h0w h4w _) (fun _ _ h => by cases h.1) (fun _ h => by cases h.1) ?_
    clear hE
    rintro v u ⟨hv, hb⟩ a hE
    cases hv
    obtain ⟨H2, hH2, hR⟩ := hR.callE hb
    refine ⟨(hR.ss [0, 2, 3] (by kernel_rfl)), ?_⟩
    show wpAnyH _ _ _ _ _ _ #[true, true, true, true, true, true, true, true, true, true, true, true, true, true, true, true, true, false, false, true, true, false, false] _ _
    refine wpAnyH_all (rs := [17]) (by kernel_rfl) (by simp) (allCons ?_ allNil)
    refine one hE hR (.op []) [(3, .pointer (some ⟨H0, 0, none⟩)), (5, .pointer (some ⟨H0 + 1, 0, none⟩)), (6, .pointer (some ⟨H0 + 2, 0, none⟩)), (7, .pointer (some ⟨H0 + 3, 0, none⟩)), (8, .bool false), (9, .bool false), (10, .func (.func 74) #[] #[.pointer (some ⟨H0, 0, none⟩)]), (15, .agg #[.int .i64 1, .int .i64 1]), (16, .bool true), (55, .bool (decide ((0 : Int) ≥ o.cap))), (59, kv8), (68, .slice none 0 0), (78, kv10), (75, .slice (some ⟨H2, 0, none⟩) 1 1)] [⟨H2, 0, kc7, 58, true⟩, ⟨H0 + 3, 0, kc3, 63, true⟩, ⟨H0 + 2, 0, kc4, 116, true⟩, ⟨H0 + 1, 0, kc5, 60, true⟩, ⟨H0, 0, kc6, 116, true⟩] (H2 + 1) [] (by kernel_rfl) (by kernel_rfl) trivial ?_
    clear hE hR; intro a u hE hR
    refine ⟨(hR.ss [1, 3, 4] (by kernel_rfl)), ?_⟩
    show wpAnyH _ _ _ _ _ _ #[true, true, true, true, true, true, true, true, true, true, true, true, true, true, true, true, true, true, false, true, true, false, false] _ _
    refine wpAnyH_all (rs := [18]) (by kernel_rfl) (by simp) (allCons ?_ allNil)
    refine appG hE 4 58 16 hR none 0 0 [] (fun _ h => by cases h) (fun _ => ⟨rfl, rfl⟩) (rfl) (.k 0 0) kc7 H2 0 1 1 [] rfl rfl trivial Try.underlying114 (by kernel_rfl) (by decide) (by kernel_rfl) (by kernel_rfl) (by kernel_rfl) (by kernel_rfl) (rfl) (by kernel_rfl) (by omega) (by unfold maxLen; omega) (by omega) ?_
    clear hE hR
    intro a u g3 cap3 rest3 hg3 hcp3 hcm3 hln3 hE H3 hH3 hR
    refine ⟨(hR.ss [2, 4, 5] (by kernel_rfl)), ?_⟩
    show wpAnyH _ _ _ _ _ _ #[true, true, true, true, true, true, true, true, true, true, true, true, true, true, true, true, true, true, true, true, true, false, false] _ _
    let kv11 : Value := .agg #[.int .i64 o.kind, .int .i64 o.cap, .int .i64 o.width, .int .i64 o.retry, .int .i64 o.src, .int .i64 o.dst, .int .u32 o.i0, .int .u32 o.i1, .int .u32 o.i2, .int .u32 o.i3, .slice (some ⟨g3, 0, none⟩) 1 cap3, .int .u32 v.a, .int .u32 v.b, .int .u32 v.c, .int .u32 v.d]
    refine takesU (by kernel_rfl) (pqT (pqT (pqB (pqT (pqB (pqT (pqB (pqT (pqB (pqT (pqB (pqT (pqB (pqT (pqB (pqT (pqB (pqT (pqB (pqT pqF)))))))))))))))))))) hE (hR.ss [2, 4, 5] (by kernel_rfl)) [(21, .op [])] 1 [(79, kv11)] #[true, true, true, true, true, true, true, true, true, true, true, true, true, true, true, true, true, true, true, true, true, true, false] [] (by kernel_rfl) (by kernel_rfl) (by kernel_rfl) trivial ?_
    clear hE; intro a hE
    refine wpAnyH_all (rs := [22]) (by kernel_rfl) (by simp) (allCons ?_ allNil)
    let kc12 : List Value := [.int .i64 o.kind, .int .i64 o.cap, .int .i64 o.width, .int .i64 o.retry, .int .i64 o.src, .int .i64 o.dst, .int .u32 o.i0, .int .u32 o.i1, .int .u32 o.i2, .int .u32 o.i3, .slice (some ⟨g3, 0, none⟩) 1 cap3, .int .u32 v.a, .int .u32 v.b, .int .u32 v.c, .int .u32 v.d]
    refine oneU hE hR (.op (hks 3 0 15)) [] [⟨g3, 0, ([] ++ kc7 ++ rest3), 58, true⟩, ⟨H2, 0, kc7, 58, true⟩, ⟨H0 + 3, 0, kc3, 63, true⟩, ⟨H0 + 2, 0, kc12, 116, true⟩, ⟨H0 + 1, 0, kc5, 60, true⟩, ⟨H0, 0, kc6, 116, true⟩] (H3) [] (by kernel_rfl) (by kernel_rfl) trivial ?_
    clear hE hR; intro a u hE hR
    refine ⟨(hR.ss [2, 4, 5] (by kernel_rfl)), ?_⟩
    show wpAnyH _ _ _ _ _ _ #[true, true, true, true, true, true, true, true, true, true, true, true, true, true, true, true, true, true, true, true, true, true, true] _ _
    refine wpAnyH_done (by kernel_rfl) ?_ _
    refine thenN ?_
    exact ⟨cap3, rest3, g3, hcp3, hcm3, hE.sub (by kernel_rfl), _, (hR.pick [0, 2, 3, 4, 5] (by decide) (by kernel_rfl))⟩
  clear hE hR
  rintro a u ⟨y1a, y1b, n1a, hcp3q1, hcm3q1, hE, J1, hR⟩
  let kc13 : List Value := [.int .i64 o.kind, .int .i64 o.cap, .int .i64 o.width, .int .i64 o.retry, .int .i64 o.src, .int .i64 o.dst, .int .u32 o.i0, .int .u32 o.i1, .int .u32 o.i2, .int .u32 o.i3, .slice (some ⟨n1a, 0, none⟩) 1 y1a, .int .u32 v.a, .int .u32 v.b, .int .u32 v.c, .int .u32 v.d]
  refine seqJ (fun a u => TE a 179 [(3, .pointer (some ⟨H0, 0, none⟩)), (5, .pointer (some ⟨H0 + 1, 0, none⟩)), (6, .pointer (some ⟨H0 + 2, 0, none⟩)), (7, .pointer (some ⟨H0 + 3, 0, none⟩)), (8, .bool true), (9, .bool true), (10, .func (.func 74) #[] #[.pointer (some ⟨H0, 0, none⟩)]), (15, .agg #[.int .i64 1, .int .i64 1]), (16, .bool true), (55, .bool (decide ((0 : Int) ≥ o.cap)))] ∧ ∃ H, Rep [(w, fun _ => True)] u H [⟨n1a, 0, ([] ++ kc7 ++ y1b), 58, true⟩, ⟨H0 + 3, 0, kc3, 63, true⟩, ⟨H0 + 2, 0, kc13, 116, true⟩, ⟨H0 + 1, 0, kc5, 60, true⟩, ⟨H0, 0, kc6, 116, true⟩] []) ?_ ?_
  · show Code.wp _ _ _ _ _
    refine enterD (kl := [⟨n1a, 0, ([] ++ kc7 ++ y1b), 58, true⟩, ⟨H0 + 3, 0, kc3, 63, true⟩, ⟨H0 + 2, 0, kc13, 116, true⟩, ⟨H0 + 1, 0, kc5, 60, true⟩, ⟨H0, 0, kc6, 116, true⟩]) (by kernel_rfl) hR (F := 6) (listed := #[false, false, false, false, false, false]) (by kernel_rfl) (by kernel_rfl) ?_
    clear hR
    intro u hR
    let kv14 : Value := .agg #[.int .i64 o.kind, .int .i64 o.cap, .int .i64 o.width, .int .i64 o.retry, .int .i64 o.src, .int .i64 o.dst, .int .u32 o.i0, .int .u32 o.i1, .int .u32 o.i2, .int .u32 o.i3, .slice (some ⟨n1a, 0, none⟩) 1 y1a, .int .u32 v.a, .int .u32 v.b, .int .u32 v.c, .int .u32 v.d]
    let kv15 : Value := .agg #[.int .i64 0, .int .u32 0, .int .u32 0, .int .u32 0, .int .u32 0]
    refine takesU (by kernel_rfl) (pqT (pqT (pqB (pqT (pqB (pqT (pqB (pqT (pqB (pqT (pqB (pqT (pqB (pqT (pqB (pqT (pqB (pqT (pqB (pqT pqF)))))))))))))))))))) hE (hR.ss [0, 1, 2, 3, 4] (by kernel_rfl)) [(0, .op (hks 2 0 15)), (1, .op (hks 1 0 5))] 4 [(80, kv14), (81, kv15)] #[true, true, false, false, false, false] [] (by kernel_rfl) (by kernel_rfl) (by kernel_rfl) trivial ?_
    clear hE; intro a hE
    refine wpAnyH_all (rs := [2]) (by kernel_rfl) (by simp) (allCons ?_ allNil)
    refine oneU hE hR (.op (hks 2 0 15)) [] [⟨n1a, 0, ([] ++ kc7 ++ y1b), 58, true⟩, ⟨H0 + 3, 0, kc3, 63, true⟩, ⟨H0 + 2, 0, kc13, 116, true⟩, ⟨H0 + 1, 0, kc5, 60, true⟩, ⟨H0, 0, kc6, 116, true⟩] (J1) [] (by kernel_rfl) (by kernel_rfl) trivial ?_
    clear hE hR; intro a u hE hR
    refine ⟨(hR.ss [0, 1, 2, 3, 4] (by kernel_rfl)), ?_⟩
    show wpAnyH _ _ _ _ _ _ #[true, true, true, false, false, false] _ _
    refine wpAnyH_all (rs := [3]) (by kernel_rfl) (by simp) (allCons ?_ allNil)
    refine oneU hE hR (.op (hks 1 0 5)) [] [⟨n1a, 0, ([] ++ kc7 ++ y1b), 58, true⟩, ⟨H0 + 3, 0, kc3, 63, true⟩, ⟨H0 + 2, 0, kc13, 116, true⟩, ⟨H0 + 1, 0, kc5, 60, true⟩, ⟨H0, 0, kc6, 116, true⟩] (J1) [] (by kernel_rfl) (by kernel_rfl) trivial ?_
    clear hE hR; intro a u hE hR
    refine ⟨(hR.ss [0, 1, 2, 3, 4] (by kernel_rfl)), ?_⟩
    show wpAnyH _ _ _ _ _ _ #[true, true, true, true, false, false] _ _
    refine takesU (by kernel_rfl) (pqT (pqT (pqB (pqT (pqB (pqT (pqB (pqT (pqB (pqT (pqB (pqT (pqB (pqT (pqB (pqT (pqB (pqT (pqB (pqT pqF)))))))))))))))))))) hE (hR.ss [0, 1, 2, 3, 4] (by kernel_rfl)) [(4, .op []), (5, .op [])] 0 [(8, .bool true), (9, .bool true)] #[true, true, true, true, true, true] [] (by kernel_rfl) (by kernel_rfl) (by kernel_rfl) trivial ?_
    clear hE; intro a hE
    refine wpAnyH_done (by kernel_rfl) ?_ _
    refine thenN ?_
    exact ⟨hE.sub (by kernel_rfl), _, hR⟩
  clear hE hR
  rintro a u ⟨hE, J2, hR⟩
  refine wp_ret ?_; refine thenR ?_; refine blkR ?_; refine thenR ?_; refine blkR ?_; refine thenR ?_; refine blkR ?_; refine thenR ?_; refine blkR ?_; refine thenR ?_; refine blkR ?_
  refine thenR ?_; refine blkR ?_; refine thenR ?_; refine blkR ?_; refine thenR ?_; refine blkR ?_; refine thenR ?_; refine blkR ?_; refine thenR ?_
  refine retF hE hR (hks 2 0 15 ++ hks 1 0 5) (.tuple #[.agg #[.int .i64 o.kind, .int .i64 o.cap, .int .i64 o.width, .int .i64 o.retry, .int .i64 o.src, .int .i64 o.dst, .int .u32 o.i0, .int .u32 o.i1, .int .u32 o.i2, .int .u32 o.i3, .slice (some ⟨n1a, 0, none⟩) 1 y1a, .int .u32 v.a, .int .u32 v.b, .int .u32 v.c, .int .u32 v.d], .agg #[.int .i64 0, .int .u32 0, .int .u32 0, .int .u32 0, .int .u32 0], .bool true, .bool true]) (by kernel_rfl) (by kernel_rfl) (by kernel_rfl) ?_
  exact ⟨_, _, rfl, hR.newK (by simp) 0 rfl, rowV_of [] (hR.rangeK 0 rfl) y1b (by kernel_rfl) (by rfl) (by assumption) (by assumption), hR.below (by simp)⟩
set_option maxRecDepth 100000 in
theorem done_send_some (o : Ob) (v : Vl) (ck co : Int) (cv : Vl) (cn : Int) (g off c : Nat) (row : List Vl) (hlc : row.length ≤ c) (w : World) (hkk : kindP o = 1) (h0w : 0 ≤ o.width) (h4w : o.width ≤ 4) (hroom : (row.length : Int) < o.cap) (hcap : o.cap ≤ 64) (hrow : w.rangeAt g off (flatV row)) :
    Calls Try.prog 50 #[itA o (.slice (some ⟨g, off, none⟩) row.length c) v, .int .i64 1, callA ck co cv cn] w fun e W' => ∃ g cap, e = .returned (.tuple #[itA o (.slice (some ⟨g, 0, none⟩) (row.length + 1) cap) v, resA 0 Vl.z, .bool true, .bool true]) ∧ w.heap.size ≤ g ∧ RowV W' (.slice (some ⟨g, 0, none⟩) (row.length + 1) cap) (row ++ [clipP cv o.width]) ∧ Below w.heap.size w W' := by
  have HK := fun W => kind_calls o (some ⟨g, off, none⟩) (row.length) (c) v W
  rw [hkk] at HK
  let kv1 : Value := .agg #[.int .i64 o.kind, .int .i64 o.cap, .int .i64 o.width, .int .i64 o.retry, .int .i64 o.src, .int .i64 o.dst, .int .u32 o.i0, .int .u32 o.i1, .int .u32 o.i2, .int .u32 o.i3, .slice (some ⟨g, off, none⟩) row.length c, .int .u32 v.a, .int .u32 v.b, .int .u32 v.c, .int .u32 v.d]
  let kv2 : Value := .agg #[.int .i64 ck, .int .i64 co, .int .u32 cv.a, .int .u32 cv.b, .int .u32 cv.c, .int .u32 cv.d, .int .u32 cn]
  refine enterF Try.func50 rfl Try.ntmps50 [(0, kv1), (1, .int .i64 1), (2, kv2)] (by kernel_rfl) (by kernel_rfl) ?_
  have hR := Rep.start w
  obtain ⟨H0, hH0⟩ : ∃ x, x = w.heap.size := ⟨_, rfl⟩
  rw [← hH0] at hR
  intro a hE
  refine wp_seq ?_
  refine enterR (idx := [0, 1, 2, 3, 4, 5]) (by kernel_rfl) ?_
  let kc3 : List Value := [.int .i64 0, .int .u32 0, .int .u32 0, .int .u32 0, .int .u32 0]
  let kc4 : List Value := [.int .i64 0, .int .i64 0, .int .i64 0, .int .i64 0, .int .i64 0, .int .i64 0, .int .u32 0, .int .u32 0, .int .u32 0, .int .u32 0, .slice none 0 0, .int .u32 0, .int .u32 0, .int .u32 0, .int .u32 0]
  let kc5 : List Value := [.int .i64 ck, .int .i64 co, .int .u32 cv.a, .int .u32 cv.b, .int .u32 cv.c, .int .u32 cv.d, .int .u32 cn]
  let kc6 : List Value := [.int .i64 o.kind, .int .i64 o.cap, .int .i64 o.width, .int .i64 o.retry, .int .i64 o.src, .int .i64 o.dst, .int .u32 o.i0, .int .u32 o.i1, .int .u32 o.i2, .int .u32 o.i3, .slice (some ⟨g, off, none⟩) row.length c, .int .u32 v.a, .int .u32 v.b, .int .u32 v.c, .int .u32 v.d]
  refine segU hE hR [(0, .op []), (1, .op []), (2, .op []), (3, .op []), (4, .op []), (5, .op [])] [] [(3, .pointer (some ⟨H0, 0, none⟩)), (5, .pointer (some ⟨H0 + 1, 0, none⟩)), (6, .pointer (some ⟨H0 + 2, 0, none⟩)), (7, .pointer (some ⟨H0 + 3, 0, none⟩)), (8, .bool false), (9, .bool false)] [⟨H0 + 3, 0, kc3, 63, true⟩, ⟨H0 + 2, 0, kc4, 116, true⟩, ⟨H0 + 1, 0, kc5, 60, true⟩, ⟨H0, 0, kc6, 116, true⟩] (H0 + 4) [] (by kernel_rfl) (by kernel_rfl) (by kernel_rfl) trivial ?_
  clear hE hR; intro a u hE hR
  refine opsNil ?_; refine thenN ?_; refine wp_seq ?_
  refine enterR (idx := [0, 1]) (by kernel_rfl) ?_
  refine segV hE hR [(0, .op []), (1, .op [])] [] [(10, .func (.func 74) #[] #[.pointer (some ⟨H0, 0, none⟩)])] [] (by kernel_rfl) (by kernel_rfl) (by kernel_rfl) trivial ?_
  clear hE hR; intro a u hE hR
  refine opsNil ?_; refine thenN ?_; refine wp_seq ?_; refine wp_seq ?_
  refine enterR (idx := [0, 1, 2, 3]) (by kernel_rfl) ?_
  refine segV hE hR [(0, .op []), (1, .op (hks 3 0 15))] [2, 3] [(12, .int .i64 1), (13, kv1)] [] (by kernel_rfl) (by kernel_rfl) (by kernel_rfl) trivial ?_
  clear hE hR; intro a u hE hR
  refine opsCons ?_
  refine call hE hR [] 45 #[kv1] (some 14) [] (by kernel_rfl) (by kernel_rfl) trivial (HK _) (fun _ _ h => by cases h.1) (fun _ h => by cases h.1) ?_
  clear hE
  rintro v u ⟨hv, hb⟩ a hE
  cases hv
  obtain ⟨H1, hH1, hR⟩ := hR.callE hb
  refine segV hE hR [(3, .op [])] [] [(15, .agg #[.int .i64 1, .int .i64 1])] [] (by kernel_rfl) (by kernel_rfl) (by kernel_rfl) trivial ?_
  clear hE hR; intro a u hE hR
  refine opsNil ?_; refine thenN ?_; refine wp_block ?_; refine wp_seq ?_; refine wp_block ?_; refine wp_seq ?_; refine wp_block ?_; refine wp_seq ?_; refine wp_block ?_; refine wp_seq ?_
  refine wp_block ?_; refine wp_seq ?_; refine wp_block ?_; refine wp_seq ?_; refine wp_block ?_; refine wp_seq ?_; refine wp_block ?_; refine wp_seq ?_; refine wp_block ?_; refine wp_seq ?_
  refine wp_block ?_; refine wp_seq ?_; refine wp_seq ?_; refine wp_seq ?_
  refine enterR (idx := [0, 1, 2]) (by kernel_rfl) ?_
  refine segV hE hR [(0, .op []), (1, .op []), (2, .op [])] [] [(16, .bool true)] [] (by kernel_rfl) (by kernel_rfl) (by kernel_rfl) trivial ?_
  clear hE hR; intro a u hE hR
  refine opsNil ?_; refine thenN ?_
  refine condT hE (b := true) (by kernel_rfl) rfl ?_
  refine wp_exit ?_; refine thenE ?_; refine thenE ?_; refine blkE ?_; refine thenN ?_; refine wp_seq ?_; refine wp_seq ?_; refine wp_seq ?_
  refine enterR (idx := [0, 1, 2, 3, 4, 5, 6]) (by kernel_rfl) ?_
  refine segV hE hR [(0, .op []), (1, .op [.k 3 10]), (2, .op []), (3, .op []), (4, .op []), (5, .op [.k 3 1]), (6, .op [])] [] [(55, .bool (decide (((row.length : Nat) : Int) ≥ o.cap)))] [] (by kernel_rfl) (by kernel_rfl) (by kernel_rfl) trivial ?_
  clear hE hR; intro a u hE hR
  refine opsNil ?_; refine thenN ?_
  refine condF hE (b := decide (((row.length : Nat) : Int) ≥ o.cap)) (by kernel_rfl) (by simp; omega) ?_
  refine wp_skip ?_; refine thenN ?_
  let kc7 : List Value := [.int .u32 ((clipP cv o.width).a), .int .u32 ((clipP cv o.width).b), .int .u32 ((clipP cv o.width).c), .int .u32 ((clipP cv o.width).d)]
  refine seqJ (fun a u => ∃ (y1a : Nat) (y1b : List Value) (n1a : Nat), (row.length + 1 ≤ y1a) ∧ (y1a ≤ maxLen) ∧ TE a 179 [(3, .pointer (some ⟨H0, 0, none⟩)), (5, .pointer (some ⟨H0 + 1, 0, none⟩)), (6, .pointer (some ⟨H0 + 2, 0, none⟩)), (7, .pointer (some ⟨H0 + 3, 0, none⟩)), (8, .bool false), (9, .bool false), (10, .func (.func 74) #[] #[.pointer (some ⟨H0, 0, none⟩)]), (15, .agg #[.int .i64 1, .int .i64 1]), (16, .bool true), (55, .bool (decide (((row.length : Nat) : Int) ≥ o.cap)))] ∧ ∃ H, Rep [(w, fun _ => True)] u H [⟨n1a, 0, ((flatV row) ++ kc7 ++ y1b), 58, true⟩, ⟨H0 + 3, 0, kc3, 63, true⟩, ⟨H0 + 2, 0, [.int .i64 o.kind, .int .i64 o.cap, .int .i64 o.width, .int .i64 o.retry, .int .i64 o.src, .int .i64 o.dst, .int .u32 o.i0, .int .u32 o.i1, .int .u32 o.i2, .int .u32 o.i3, .slice (some ⟨n1a, 0, none⟩) (row.length + 1) y1a, .int .u32 v.a, .int .u32 v.b, .int .u32 v.c, .int .u32 v.d], 116, true⟩, ⟨H0 + 1, 0, kc5, 60, true⟩, ⟨H0, 0, kc6, 116, true⟩] []) ?_ ?_
  · show Code.wp _ _ _ _ _
    refine enterD (kl := [⟨H0 + 3, 0, kc3, 63, true⟩, ⟨H0 + 1, 0, kc5, 60, true⟩, ⟨H0, 0, kc6, 116, true⟩]) (by kernel_rfl) hR (F := 23) (listed := #[false, false, false, false, false, false, false, false, false, false, false, false, false, false, false, false, false, false, false, false, false, false, false]) (by kernel_rfl) (by kernel_rfl) ?_
    clear hR
    intro u hR
    let kv8 : Value := .agg #[.int .i64 o.kind, .int .i64 o.cap, .int .i64 o.width, .int .i64 o.retry, .int .i64 o.src, .int .i64 o.dst, .int .u32 o.i0, .int .u32 o.i1, .int .u32 o.i2, .int .u32 o.i3]
    let kv9 : Value := .agg #[.int .u32 cv.a, .int .u32 cv.b, .int .u32 cv.c, .int .u32 cv.d]
    let kv10 : Value := .agg #[.int .u32 v.a, .int .u32 v.b, .int .u32 v.c, .int .u32 v.d]
    refine takesU (by kernel_rfl) (pqT (pqT (pqB (pqT (pqB (pqT (pqB (pqT (pqB (pqT (pqB (pqT (pqB (pqT (pqB (pqT (pqB (pqT (pqB (pqT pqF)))))))))))))))))))) hE (hR.ss [0, 2, 3] (by kernel_rfl)) [(0, .op []), (1, .op (hks 2 0 10)), (2, .op []), (3, .op [.k 2 10]), (4, .op []), (5, .op [.k 2 10]), (6, .op []), (7, .op []), (8, .op [.k 2 10]), (9, .op []), (10, .alt (.slice (some ⟨g, off, none⟩) row.length row.length)), (11, .op []), (12, .op (hks 1 2 4)), (13, .op []), (14, .op []), (15, .op [.k 2 2]), (19, .op []), (20, .op (hks 2 11 4))] 5 [(59, kv8), (68, .slice (some ⟨g, off, none⟩) row.length row.length), (70, kv9), (73, .int .i64 o.width), (78, kv10)] #[true, true, true, true, true, true, true, true, true, true, true, true, true, true, true, true, false, false, false, true, true, false, false] [((0 ≤ (0 : Int) ∧ (0 : Int) ≤ (((row.length : Nat) : Int) : Int) ∧ (((row.length : Nat) : Int) : Int) ≤ (((row.length : Nat) : Int) : Int) ∧ (((row.length : Nat) : Int) : Int) ≤ ((c : Nat) : Int)) ∧ ((((row.length : Nat) : Int) : Int) = (0 : Int) → (0 : Int) = 0) ∧ (Try.prog.info? 58).isSome = true ∧ (true = true → true = true)), (.slice (some ⟨g, off, none⟩) row.length row.length : Value) = (.slice (some ⟨g, off, none⟩) row.length row.length : Value)] (by kernel_rfl) (by kernel_rfl) (by kernel_rfl) ⟨⟨⟨by omega, by omega, by omega, by omega⟩, by omega, by kernel_rfl, by simp⟩, rfl, trivial⟩ ?_
    clear hE; intro a hE
    refine wpAnyH_all (rs := [16]) (by kernel_rfl) (by simp) (allCons ?_ allNil)
    refine call hE hR [] 46 #[kv9, .int .i64 o.width] (some 74) [] (by kernel_rfl) (by kernel_rfl) trivial (clip_calls cv o.width h0w h4w _) (fun _ _ h => by cases h.1) (fun _ h => by cases h.1) ?_
    clear hE
    rintro v u ⟨hv, hb⟩ a hE
    cases hv
    obtain ⟨H2, hH2, hR⟩ := hR.callE hb
    refine ⟨(hR.ss [0, 2, 3] (by kernel_rfl)), ?_⟩
    show wpAnyH _ _ _ _ _ _ #[true, true, true, true, true, true, true, true, true, true, true, true, true, true, true, true, true, false, false, true, true, false, false] _ _
    refine wpAnyH_all (rs := [17]) (by kernel_rfl) (by simp) (allCons ?_ allNil)
    refine one hE hR (.op []) [(3, .pointer (some ⟨H0, 0, none⟩)), (5, .pointer (some ⟨H0 + 1, 0, none⟩)), (6, .pointer (some ⟨H0 + 2, 0, none⟩)), (7, .pointer (some ⟨H0 + 3, 0, none⟩)), (8, .bool false), (9, .bool false), (10, .func (.func 74) #[] #[.pointer (some ⟨H0, 0, none⟩)]), (15, .agg #[.int .i64 1, .int .i64 1]), (16, .bool true), (55, .bool (decide (((row.length : Nat) : Int) ≥ o.cap))), (59, kv8), (68, .slice (some ⟨g, off, none⟩) row.length row.length), (78, kv10), (75, .slice (some ⟨H2, 0, none⟩) 1 1)] [⟨H2, 0, kc7, 58, true⟩, ⟨H0 + 3, 0, kc3, 63, true⟩, ⟨H0 + 2, 0, kc4, 116, true⟩, ⟨H0 + 1, 0, kc5, 60, true⟩, ⟨H0, 0, kc6, 116, true⟩] (H2 + 1) [] (by kernel_rfl) (by kernel_rfl) trivial ?_
    clear hE hR; intro a u hE hR
    refine ⟨(hR.ss [1, 3, 4] (by kernel_rfl)), ?_⟩
    show wpAnyH _ _ _ _ _ _ #[true, true, true, true, true, true, true, true, true, true, true, true, true, true, true, true, true, true, false, true, true, false, false] _ _
    refine wpAnyH_all (rs := [18]) (by kernel_rfl) (by simp) (allCons ?_ allNil)
    refine appG hE 4 58 16 hR (some ⟨g, off, none⟩) row.length row.length (flatV row) (fun ad h => by cases h; intro j x hx; rw [add_flat _ rfl]; exact hR.old (f := (w, fun _ => True)) (by simp) trivial (hrow j x hx)) (fun h => by cases h) (by rw [flatV_length]) (.k 0 0) kc7 H2 0 1 1 [] rfl rfl trivial Try.underlying114 (by kernel_rfl) (by decide) (by kernel_rfl) (by kernel_rfl) (by kernel_rfl) (by kernel_rfl) (rfl) (by kernel_rfl) (by omega) (by unfold maxLen; omega) (by omega) ?_
    clear hE hR
    intro a u g3 cap3 rest3 hg3 hcp3 hcm3 hln3 hE H3 hH3 hR
    refine ⟨(hR.ss [2, 4, 5] (by kernel_rfl)), ?_⟩
    show wpAnyH _ _ _ _ _ _ #[true, true, true, true, true, true, true, true, true, true, true, true, true, true, true, true, true, true, true, true, true, false, false] _ _
    let kv11 : Value := .agg #[.int .i64 o.kind, .int .i64 o.cap, .int .i64 o.width, .int .i64 o.retry, .int .i64 o.src, .int .i64 o.dst, .int .u32 o.i0, .int .u32 o.i1, .int .u32 o.i2, .int .u32 o.i3, .slice (some ⟨g3, 0, none⟩) (row.length + 1) cap3, .int .u32 v.a, .int .u32 v.b, .int .u32 v.c, .int .u32 v.d]
    refine takesU (by kernel_rfl) (pqT (pqT (pqB (pqT (pqB (pqT (pqB (pqT (pqB (pqT (pqB (pqT (pqB (pqT (pqB (pqT (pqB (pqT (pqB (pqT pqF)))))))))))))))))))) hE (hR.ss [2, 4, 5] (by kernel_rfl)) [(21, .op [])] 1 [(79, kv11)] #[true, true, true, true, true, true, true, true, true, true, true, true, true, true, true, true, true, true, true, true, true, true, false] [] (by kernel_rfl) (by kernel_rfl) (by kernel_rfl) trivial ?_
    clear hE; intro a hE
    refine wpAnyH_all (rs := [22]) (by kernel_rfl) (by simp) (allCons ?_ allNil)
    let kc12 : List Value := [.int .i64 o.kind, .int .i64 o.cap, .int .i64 o.width, .int .i64 o.retry, .int .i64 o.src, .int .i64 o.dst, .int .u32 o.i0, .int .u32 o.i1, .int .u32 o.i2, .int .u32 o.i3, .slice (some ⟨g3, 0, none⟩) (row.length + 1) cap3, .int .u32 v.a, .int .u32 v.b, .int .u32 v.c, .int .u32 v.d]
    refine oneU hE hR (.op (hks 3 0 15)) [] [⟨g3, 0, ((flatV row) ++ kc7 ++ rest3), 58, true⟩, ⟨H2, 0, kc7, 58, true⟩, ⟨H0 + 3, 0, kc3, 63, true⟩, ⟨H0 + 2, 0, kc12, 116, true⟩, ⟨H0 + 1, 0, kc5, 60, true⟩, ⟨H0, 0, kc6, 116, true⟩] (H3) [] (by kernel_rfl) (by kernel_rfl) trivial ?_
    clear hE hR; intro a u hE hR
    refine ⟨(hR.ss [2, 4, 5] (by kernel_rfl)), ?_⟩
    show wpAnyH _ _ _ _ _ _ #[true, true, true, true, true, true, true, true, true, true, true, true, true, true, true, true, true, true, true, true, true, true, true] _ _
    refine wpAnyH_done (by kernel_rfl) ?_ _
    refine thenN ?_
    exact ⟨cap3, rest3, g3, hcp3, hcm3, hE.sub (by kernel_rfl), _, (hR.pick [0, 2, 3, 4, 5] (by decide) (by kernel_rfl))⟩
  clear hE hR
  rintro a u ⟨y1a, y1b, n1a, hcp3q1, hcm3q1, hE, J1, hR⟩
  let kc13 : List Value := [.int .i64 o.kind, .int .i64 o.cap, .int .i64 o.width, .int .i64 o.retry, .int .i64 o.src, .int .i64 o.dst, .int .u32 o.i0, .int .u32 o.i1, .int .u32 o.i2, .int .u32 o.i3, .slice (some ⟨n1a, 0, none⟩) (row.length + 1) y1a, .int .u32 v.a, .int .u32 v.b, .int .u32 v.c, .int .u32 v.d]
  refine seqJ (fun a u => TE a 179 [(3, .pointer (some ⟨H0, 0, none⟩)), (5, .pointer (some ⟨H0 + 1, 0, none⟩)), (6, .pointer (some ⟨H0 + 2, 0, none⟩)), (7, .pointer (some ⟨H0 + 3, 0, none⟩)), (8, .bool true), (9, .bool true), (10, .func (.func 74) #[] #[.pointer (some ⟨H0, 0, none⟩)]), (15, .agg #[.int .i64 1, .int .i64 1]), (16, .bool true), (55, .bool (decide (((row.length : Nat) : Int) ≥ o.cap)))] ∧ ∃ H, Rep [(w, fun _ => True)] u H [⟨n1a, 0, ((flatV row) ++ kc7 ++ y1b), 58, true⟩, ⟨H0 + 3, 0, kc3, 63, true⟩, ⟨H0 + 2, 0, kc13, 116, true⟩, ⟨H0 + 1, 0, kc5, 60, true⟩, ⟨H0, 0, kc6, 116, true⟩] []) ?_ ?_
  · show Code.wp _ _ _ _ _
    refine enterD (kl := [⟨n1a, 0, ((flatV row) ++ kc7 ++ y1b), 58, true⟩, ⟨H0 + 3, 0, kc3, 63, true⟩, ⟨H0 + 2, 0, kc13, 116, true⟩, ⟨H0 + 1, 0, kc5, 60, true⟩, ⟨H0, 0, kc6, 116, true⟩]) (by kernel_rfl) hR (F := 6) (listed := #[false, false, false, false, false, false]) (by kernel_rfl) (by kernel_rfl) ?_
    clear hR
    intro u hR
    let kv14 : Value := .agg #[.int .i64 o.kind, .int .i64 o.cap, .int .i64 o.width, .int .i64 o.retry, .int .i64 o.src, .int .i64 o.dst, .int .u32 o.i0, .int .u32 o.i1, .int .u32 o.i2, .int .u32 o.i3, .slice (some ⟨n1a, 0, none⟩) (row.length + 1) y1a, .int .u32 v.a, .int .u32 v.b, .int .u32 v.c, .int .u32 v.d]
    let kv15 : Value := .agg #[.int .i64 0, .int .u32 0, .int .u32 0, .int .u32 0, .int .u32 0]
    refine takesU (by kernel_rfl) (pqT (pqT (pqB (pqT (pqB (pqT (pqB (pqT (pqB (pqT (pqB (pqT (pqB (pqT (pqB (pqT (pqB (pqT (pqB (pqT pqF)))))))))))))))))))) hE (hR.ss [0, 1, 2, 3, 4] (by kernel_rfl)) [(0, .op (hks 2 0 15)), (1, .op (hks 1 0 5))] 4 [(80, kv14), (81, kv15)] #[true, true, false, false, false, false] [] (by kernel_rfl) (by kernel_rfl) (by kernel_rfl) trivial ?_
    clear hE; intro a hE
    refine wpAnyH_all (rs := [2]) (by kernel_rfl) (by simp) (allCons ?_ allNil)
    refine oneU hE hR (.op (hks 2 0 15)) [] [⟨n1a, 0, ((flatV row) ++ kc7 ++ y1b), 58, true⟩, ⟨H0 + 3, 0, kc3, 63, true⟩, ⟨H0 + 2, 0, kc13, 116, true⟩, ⟨H0 + 1, 0, kc5, 60, true⟩, ⟨H0, 0, kc6, 116, true⟩] (J1) [] (by kernel_rfl) (by kernel_rfl) trivial ?_
    clear hE hR; intro a u hE hR
    refine ⟨(hR.ss [0, 1, 2, 3, 4] (by kernel_rfl)), ?_⟩
    show wpAnyH _ _ _ _ _ _ #[true, true, true, false, false, false] _ _
    refine wpAnyH_all (rs := [3]) (by kernel_rfl) (by simp) (allCons ?_ allNil)
    refine oneU hE hR (.op (hks 1 0 5)) [] [⟨n1a, 0, ((flatV row) ++ kc7 ++ y1b), 58, true⟩, ⟨H0 + 3, 0, kc3, 63, true⟩, ⟨H0 + 2, 0, kc13, 116, true⟩, ⟨H0 + 1, 0, kc5, 60, true⟩, ⟨H0, 0, kc6, 116, true⟩] (J1) [] (by kernel_rfl) (by kernel_rfl) trivial ?_
    clear hE hR; intro a u hE hR
    refine ⟨(hR.ss [0, 1, 2, 3, 4] (by kernel_rfl)), ?_⟩
    show wpAnyH _ _ _ _ _ _ #[true, true, true, true, false, false] _ _
    refine takesU (by kernel_rfl) (pqT (pqT (pqB (pqT (pqB (pqT (pqB (pqT (pqB (pqT (pqB (pqT (pqB (pqT (pqB (pqT (pqB (pqT (pqB (pqT pqF)))))))))))))))))))) hE (hR.ss [0, 1, 2, 3, 4] (by kernel_rfl)) [(4, .op []), (5, .op [])] 0 [(8, .bool true), (9, .bool true)] #[true, true, true, true, true, true] [] (by kernel_rfl) (by kernel_rfl) (by kernel_rfl) trivial ?_
    clear hE; intro a hE
    refine wpAnyH_done (by kernel_rfl) ?_ _
    refine thenN ?_
    exact ⟨hE.sub (by kernel_rfl), _, hR⟩
  clear hE hR
  rintro a u ⟨hE, J2, hR⟩
  refine wp_ret ?_; refine thenR ?_; refine blkR ?_; refine thenR ?_; refine blkR ?_; refine thenR ?_; refine blkR ?_; refine thenR ?_; refine blkR ?_; refine thenR ?_; refine blkR ?_
  refine thenR ?_; refine blkR ?_; refine thenR ?_; refine blkR ?_; refine thenR ?_; refine blkR ?_; refine thenR ?_; refine blkR ?_; refine thenR ?_
  refine retF hE hR (hks 2 0 15 ++ hks 1 0 5) (.tuple #[.agg #[.int .i64 o.kind, .int .i64 o.cap, .int .i64 o.width, .int .i64 o.retry, .int .i64 o.src, .int .i64 o.dst, .int .u32 o.i0, .int .u32 o.i1, .int .u32 o.i2, .int .u32 o.i3, .slice (some ⟨n1a, 0, none⟩) (row.length + 1) y1a, .int .u32 v.a, .int .u32 v.b, .int .u32 v.c, .int .u32 v.d], .agg #[.int .i64 0, .int .u32 0, .int .u32 0, .int .u32 0, .int .u32 0], .bool true, .bool true]) (by kernel_rfl) (by kernel_rfl) (by kernel_rfl) ?_
  exact ⟨_, _, rfl, hR.newK (by simp) 0 rfl, rowV_of row (hR.rangeK 0 rfl) y1b (by kernel_rfl) (by rfl) (by assumption) (by assumption), hR.below (by simp)⟩
set_option maxRecDepth 100000 in
theorem done_recv_empty (o : Ob) (v : Vl) (ck co : Int) (cv : Vl) (cn : Int) (A : Option Addr) (c : Nat) (w : World) (hkk : kindP o = 1)  :
    Calls Try.prog 50 #[itA o (.slice A 0 c) v, .int .i64 2, callA ck co cv cn] w fun e W' => e = .returned (.tuple #[itA o (.slice A 0 c) v, resA 7 Vl.z, .bool false, .bool true]) ∧ Below w.heap.size w W' := by
  have HK := fun W => kind_calls o A (0) (c) v W
  rw [hkk] at HK
  let kv1 : Value := .agg #[.int .i64 o.kind, .int .i64 o.cap, .int .i64 o.width, .int .i64 o.retry, .int .i64 o.src, .int .i64 o.dst, .int .u32 o.i0, .int .u32 o.i1, .int .u32 o.i2, .int .u32 o.i3, .slice A 0 c, .int .u32 v.a, .int .u32 v.b, .int .u32 v.c, .int .u32 v.d]
  let kv2 : Value := .agg #[.int .i64 ck, .int .i64 co, .int .u32 cv.a, .int .u32 cv.b, .int .u32 cv.c, .int .u32 cv.d, .int .u32 cn]
  refine enterF Try.func50 rfl Try.ntmps50 [(0, kv1), (1, .int .i64 2), (2, kv2)] (by kernel_rfl) (by kernel_rfl) ?_
  have hR := Rep.start w
  obtain ⟨H0, hH0⟩ : ∃ x, x = w.heap.size := ⟨_, rfl⟩
  rw [← hH0] at hR
  intro a hE
  refine wp_seq ?_
  refine enterR (idx := [0, 1, 2, 3, 4, 5]) (by kernel_rfl) ?_
  let kc3 : List Value := [.int .i64 0, .int .u32 0, .int .u32 0, .int .u32 0, .int .u32 0]
  let kc4 : List Value := [.int .i64 0, .int .i64 0, .int .i64 0, .int .i64 0, .int .i64 0, .int .i64 0, .int .u32 0, .int .u32 0, .int .u32 0, .int .u32 0, .slice none 0 0, .int .u32 0, .int .u32 0, .int .u32 0, .int .u32 0]
  let kc5 : List Value := [.int .i64 ck, .int .i64 co, .int .u32 cv.a, .int .u32 cv.b, .int .u32 cv.c, .int .u32 cv.d, .int .u32 cn]
  let kc6 : List Value := [.int .i64 o.kind, .int .i64 o.cap, .int .i64 o.width, .int .i64 o.retry, .int .i64 o.src, .int .i64 o.dst, .int .u32 o.i0, .int .u32 o.i1, .int .u32 o.i2, .int .u32 o.i3, .slice A 0 c, .int .u32 v.a, .int .u32 v.b, .int .u32 v.c, .int .u32 v.d]
  refine segU hE hR [(0, .op []), (1, .op []), (2, .op []), (3, .op []), (4, .op []), (5, .op [])] [] [(3, .pointer (some ⟨H0, 0, none⟩)), (5, .pointer (some ⟨H0 + 1, 0, none⟩)), (6, .pointer (some ⟨H0 + 2, 0, none⟩)), (7, .pointer (some ⟨H0 + 3, 0, none⟩)), (8, .bool false), (9, .bool false)] [⟨H0 + 3, 0, kc3, 63, true⟩, ⟨H0 + 2, 0, kc4, 116, true⟩, ⟨H0 + 1, 0, kc5, 60, true⟩, ⟨H0, 0, kc6, 116, true⟩] (H0 + 4) [] (by kernel_rfl) (by kernel_rfl) (by kernel_rfl) trivial ?_
  clear hE hR; intro a u hE hR
  refine opsNil ?_; refine thenN ?_; refine wp_seq ?_
  refine enterR (idx := [0, 1]) (by kernel_rfl) ?_
  refine segV hE hR [(0, .op []), (1, .op [])] [] [(10, .func (.func 74) #[] #[.pointer (some ⟨H0, 0, none⟩)])] [] (by kernel_rfl) (by kernel_rfl) (by kernel_rfl) trivial ?_
  clear hE hR; intro a u hE hR
  refine opsNil ?_; refine thenN ?_; refine wp_seq ?_; refine wp_seq ?_
  refine enterR (idx := [0, 1, 2, 3]) (by kernel_rfl) ?_
  refine segV hE hR [(0, .op []), (1, .op (hks 3 0 15))] [2, 3] [(12, .int .i64 2), (13, kv1)] [] (by kernel_rfl) (by kernel_rfl) (by kernel_rfl) trivial ?_
  clear hE hR; intro a u hE hR
  refine opsCons ?_
  refine call hE hR [] 45 #[kv1] (some 14) [] (by kernel_rfl) (by kernel_rfl) trivial (HK _) (fun _ _ h => by cases h.1) (fun _ h => by cases h.1) ?_
  clear hE
  rintro v u ⟨hv, hb⟩ a hE
  cases hv
  obtain ⟨H1, hH1, hR⟩ := hR.callE hb
  refine segV hE hR [(3, .op [])] [] [(15, .agg #[.int .i64 2, .int .i64 1])] [] (by kernel_rfl) (by kernel_rfl) (by kernel_rfl) trivial ?_
  clear hE hR; intro a u hE hR
  refine opsNil ?_; refine thenN ?_; refine wp_block ?_; refine wp_seq ?_; refine wp_block ?_; refine wp_seq ?_; refine wp_block ?_; refine wp_seq ?_; refine wp_block ?_; refine wp_seq ?_
  refine wp_block ?_; refine wp_seq ?_; refine wp_block ?_; refine wp_seq ?_; refine wp_block ?_; refine wp_seq ?_; refine wp_block ?_; refine wp_seq ?_; refine wp_block ?_; refine wp_seq ?_
  refine wp_block ?_; refine wp_seq ?_; refine wp_seq ?_; refine wp_seq ?_
  refine enterR (idx := [0, 1, 2]) (by kernel_rfl) ?_
  refine segV hE hR [(0, .op []), (1, .op []), (2, .op [])] [] [(16, .bool false)] [] (by kernel_rfl) (by kernel_rfl) (by kernel_rfl) trivial ?_
  clear hE hR; intro a u hE hR
  refine opsNil ?_; refine thenN ?_
  refine condF hE (b := false) (by kernel_rfl) rfl ?_
  refine wp_skip ?_; refine thenN ?_; refine wp_seq ?_; refine wp_seq ?_
  refine enterR (idx := [0, 1, 2]) (by kernel_rfl) ?_
  refine segV hE hR [(0, .op []), (1, .op []), (2, .op [])] [] [(19, .bool true)] [] (by kernel_rfl) (by kernel_rfl) (by kernel_rfl) trivial ?_
  clear hE hR; intro a u hE hR
  refine opsNil ?_; refine thenN ?_
  refine condT hE (b := true) (by kernel_rfl) rfl ?_
  refine wp_exit ?_; refine thenE ?_; refine thenE ?_; refine blkX (by kernel_rfl) ?_; refine thenE ?_; refine blkE ?_; refine thenN ?_; refine wp_seq ?_; refine wp_seq ?_; refine wp_seq ?_
  refine enterR (idx := [0, 1, 2, 3]) (by kernel_rfl) ?_
  refine segV hE hR [(0, .op []), (1, .op [.k 3 10]), (2, .op []), (3, .op [])] [] [(85, .bool true)] [] (by kernel_rfl) (by kernel_rfl) (by kernel_rfl) trivial ?_
  clear hE hR; intro a u hE hR
  refine opsNil ?_; refine thenN ?_
  refine condT hE (b := true) (by kernel_rfl) rfl ?_
  refine wp_seq ?_
  refine enterR (idx := [0, 1, 2, 3, 4, 5]) (by kernel_rfl) ?_
  let kc7 : List Value := [.int .i64 7, .int .u32 0, .int .u32 0, .int .u32 0, .int .u32 0]
  refine seg hE hR [(0, .op (hks 3 0 15)), (1, .op []), (2, .op (hks 1 0 15)), (3, .op (hks 0 0 5)), (4, .op []), (5, .op [])] [] [(3, .pointer (some ⟨H0, 0, none⟩)), (5, .pointer (some ⟨H0 + 1, 0, none⟩)), (6, .pointer (some ⟨H0 + 2, 0, none⟩)), (7, .pointer (some ⟨H0 + 3, 0, none⟩)), (8, .bool false), (9, .bool true), (10, .func (.func 74) #[] #[.pointer (some ⟨H0, 0, none⟩)]), (15, .agg #[.int .i64 2, .int .i64 1]), (16, .bool false), (19, .bool true), (85, .bool true)] [⟨H0 + 3, 0, kc7, 63, true⟩, ⟨H0 + 2, 0, kc6, 116, true⟩, ⟨H0 + 1, 0, kc5, 60, true⟩, ⟨H0, 0, kc6, 116, true⟩] (H1) [] (by kernel_rfl) (by kernel_rfl) (by kernel_rfl) trivial ?_
  clear hE hR; intro a u hE hR
  refine opsNil ?_; refine thenN ?_; refine wp_ret ?_; refine thenR ?_; refine thenR ?_; refine blkR ?_; refine thenR ?_; refine blkR ?_; refine thenR ?_; refine blkR ?_; refine thenR ?_
  refine blkR ?_; refine thenR ?_; refine blkR ?_; refine thenR ?_; refine blkR ?_; refine thenR ?_; refine blkR ?_; refine thenR ?_; refine blkR ?_; refine thenR ?_
  refine retF hE hR (hks 1 0 15 ++ hks 0 0 5) (.tuple #[.agg #[.int .i64 o.kind, .int .i64 o.cap, .int .i64 o.width, .int .i64 o.retry, .int .i64 o.src, .int .i64 o.dst, .int .u32 o.i0, .int .u32 o.i1, .int .u32 o.i2, .int .u32 o.i3, .slice A 0 c, .int .u32 v.a, .int .u32 v.b, .int .u32 v.c, .int .u32 v.d], .agg #[.int .i64 7, .int .u32 0, .int .u32 0, .int .u32 0, .int .u32 0], .bool false, .bool true]) (by kernel_rfl) (by kernel_rfl) (by kernel_rfl) ?_
  exact ⟨rfl, hR.below (by simp)⟩
set_option maxRecDepth 100000 in
theorem done_recv_more (o : Ob) (v : Vl) (ck co : Int) (cv : Vl) (cn : Int) (g off c : Nat) (x : Vl) (row : List Vl) (hlc : row.length + 1 ≤ c) (w : World) (hkk : kindP o = 1) (hrow : w.rangeAt g off (flatV (x :: row))) (h1 : 1 < c) :
    Calls Try.prog 50 #[itA o (.slice (some ⟨g, off, none⟩) (row.length + 1) c) v, .int .i64 2, callA ck co cv cn] w fun e W' => e = .returned (.tuple #[itA o (.slice (some ⟨g, off + 4, none⟩) row.length (c - 1)) v, resA 0 x, .bool true, .bool true]) ∧ Below w.heap.size w W' := by
  have HK := fun W => kind_calls o (some ⟨g, off, none⟩) (row.length + 1) (c) v W
  rw [hkk] at HK
  have hr0 : w.rangeAt g off (x.cells) := by rw [flatV_cons] at hrow; exact range_app hrow
  let kv1 : Value := .agg #[.int .i64 o.kind, .int .i64 o.cap, .int .i64 o.width, .int .i64 o.retry, .int .i64 o.src, .int .i64 o.dst, .int .u32 o.i0, .int .u32 o.i1, .int .u32 o.i2, .int .u32 o.i3, .slice (some ⟨g, off, none⟩) (row.length + 1) c, .int .u32 v.a, .int .u32 v.b, .int .u32 v.c, .int .u32 v.d]
  let kv2 : Value := .agg #[.int .i64 ck, .int .i64 co, .int .u32 cv.a, .int .u32 cv.b, .int .u32 cv.c, .int .u32 cv.d, .int .u32 cn]
  refine enterF Try.func50 rfl Try.ntmps50 [(0, kv1), (1, .int .i64 2), (2, kv2)] (by kernel_rfl) (by kernel_rfl) ?_
  have hR := Rep.startR w g off hr0
  obtain ⟨H0, hH0⟩ : ∃ x, x = w.heap.size := ⟨_, rfl⟩
  rw [← hH0] at hR
  intro a hE
  refine wp_seq ?_
  refine enterR (idx := [0, 1, 2, 3, 4, 5]) (by kernel_rfl) ?_
  let kc3 : List Value := [.int .i64 0, .int .u32 0, .int .u32 0, .int .u32 0, .int .u32 0]
  let kc4 : List Value := [.int .i64 0, .int .i64 0, .int .i64 0, .int .i64 0, .int .i64 0, .int .i64 0, .int .u32 0, .int .u32 0, .int .u32 0, .int .u32 0, .slice none 0 0, .int .u32 0, .int .u32 0, .int .u32 0, .int .u32 0]
  let kc5 : List Value := [.int .i64 ck, .int .i64 co, .int .u32 cv.a, .int .u32 cv.b, .int .u32 cv.c, .int .u32 cv.d, .int .u32 cn]
  let kc6 : List Value := [.int .i64 o.kind, .int .i64 o.cap, .int .i64 o.width, .int .i64 o.retry, .int .i64 o.src, .int .i64 o.dst, .int .u32 o.i0, .int .u32 o.i1, .int .u32 o.i2, .int .u32 o.i3, .slice (some ⟨g, off, none⟩) (row.length + 1) c, .int .u32 v.a, .int .u32 v.b, .int .u32 v.c, .int .u32 v.d]
  refine segU hE hR [(0, .op []), (1, .op []), (2, .op []), (3, .op []), (4, .op []), (5, .op [])] [] [(3, .pointer (some ⟨H0, 0, none⟩)), (5, .pointer (some ⟨H0 + 1, 0, none⟩)), (6, .pointer (some ⟨H0 + 2, 0, none⟩)), (7, .pointer (some ⟨H0 + 3, 0, none⟩)), (8, .bool false), (9, .bool false)] [⟨H0 + 3, 0, kc3, 63, true⟩, ⟨H0 + 2, 0, kc4, 116, true⟩, ⟨H0 + 1, 0, kc5, 60, true⟩, ⟨H0, 0, kc6, 116, true⟩] (H0 + 4) [] (by kernel_rfl) (by kernel_rfl) (by kernel_rfl) trivial ?_
  clear hE hR; intro a u hE hR
  refine opsNil ?_; refine thenN ?_; refine wp_seq ?_
  refine enterR (idx := [0, 1]) (by kernel_rfl) ?_
  refine segV hE hR [(0, .op []), (1, .op [])] [] [(10, .func (.func 74) #[] #[.pointer (some ⟨H0, 0, none⟩)])] [] (by kernel_rfl) (by kernel_rfl) (by kernel_rfl) trivial ?_
  clear hE hR; intro a u hE hR
  refine opsNil ?_; refine thenN ?_; refine wp_seq ?_; refine wp_seq ?_
  refine enterR (idx := [0, 1, 2, 3]) (by kernel_rfl) ?_
  refine segV hE hR [(0, .op []), (1, .op (hks 3 0 15))] [2, 3] [(12, .int .i64 2), (13, kv1)] [] (by kernel_rfl) (by kernel_rfl) (by kernel_rfl) trivial ?_
  clear hE hR; intro a u hE hR
  refine opsCons ?_
  refine call hE hR [] 45 #[kv1] (some 14) [] (by kernel_rfl) (by kernel_rfl) trivial (HK _) (fun _ _ h => by cases h.1) (fun _ h => by cases h.1) ?_
  clear hE
  rintro v u ⟨hv, hb⟩ a hE
  cases hv
  obtain ⟨H1, hH1, hR⟩ := hR.callE hb
  refine segV hE hR [(3, .op [])] [] [(15, .agg #[.int .i64 2, .int .i64 1])] [] (by kernel_rfl) (by kernel_rfl) (by kernel_rfl) trivial ?_
  clear hE hR; intro a u hE hR
  refine opsNil ?_; refine thenN ?_; refine wp_block ?_; refine wp_seq ?_; refine wp_block ?_; refine wp_seq ?_; refine wp_block ?_; refine wp_seq ?_; refine wp_block ?_; refine wp_seq ?_
  refine wp_block ?_; refine wp_seq ?_; refine wp_block ?_; refine wp_seq ?_; refine wp_block ?_; refine wp_seq ?_; refine wp_block ?_; refine wp_seq ?_; refine wp_block ?_; refine wp_seq ?_
  refine wp_block ?_; refine wp_seq ?_; refine wp_seq ?_; refine wp_seq ?_
  refine enterR (idx := [0, 1, 2]) (by kernel_rfl) ?_
  refine segV hE hR [(0, .op []), (1, .op []), (2, .op [])] [] [(16, .bool false)] [] (by kernel_rfl) (by kernel_rfl) (by kernel_rfl) trivial ?_
  clear hE hR; intro a u hE hR
  refine opsNil ?_; refine thenN ?_
  refine condF hE (b := false) (by kernel_rfl) rfl ?_
  refine wp_skip ?_; refine thenN ?_; refine wp_seq ?_; refine wp_seq ?_
  refine enterR (idx := [0, 1, 2]) (by kernel_rfl) ?_
  refine segV hE hR [(0, .op []), (1, .op []), (2, .op [])] [] [(19, .bool true)] [] (by kernel_rfl) (by kernel_rfl) (by kernel_rfl) trivial ?_
  clear hE hR; intro a u hE hR
  refine opsNil ?_; refine thenN ?_
  refine condT hE (b := true) (by kernel_rfl) rfl ?_
  refine wp_exit ?_; refine thenE ?_; refine thenE ?_; refine blkX (by kernel_rfl) ?_; refine thenE ?_; refine blkE ?_; refine thenN ?_; refine wp_seq ?_; refine wp_seq ?_; refine wp_seq ?_
  refine enterR (idx := [0, 1, 2, 3]) (by kernel_rfl) ?_
  refine segV hE hR [(0, .op []), (1, .op [.k 3 10]), (2, .op []), (3, .op [])] [] [(85, .bool (((row.length + 1 : Nat) : Int) == 0))] [] (by kernel_rfl) (by kernel_rfl) (by kernel_rfl) trivial ?_
  clear hE hR; intro a u hE hR
  refine opsNil ?_; refine thenN ?_
  refine condF hE (b := ((row.length + 1 : Nat) : Int) == 0) (by kernel_rfl) (by rw [beq_eq_false_iff_ne]; omega) ?_
  refine wp_skip ?_; refine thenN ?_
  let kc7 : List Value := [.int .i64 0, .int .u32 x.a, .int .u32 x.b, .int .u32 x.c, .int .u32 x.d]
  let kc8 : List Value := [.int .i64 o.kind, .int .i64 o.cap, .int .i64 o.width, .int .i64 o.retry, .int .i64 o.src, .int .i64 o.dst, .int .u32 o.i0, .int .u32 o.i1, .int .u32 o.i2, .int .u32 o.i3, .slice (some ⟨g, off + 4, none⟩) row.length (c - 1), .int .u32 v.a, .int .u32 v.b, .int .u32 v.c, .int .u32 v.d]
  refine seqJ (fun a u => TE a 179 [(3, .pointer (some ⟨H0, 0, none⟩)), (5, .pointer (some ⟨H0 + 1, 0, none⟩)), (6, .pointer (some ⟨H0 + 2, 0, none⟩)), (7, .pointer (some ⟨H0 + 3, 0, none⟩)), (8, .bool true), (9, .bool true), (10, .func (.func 74) #[] #[.pointer (some ⟨H0, 0, none⟩)]), (15, .agg #[.int .i64 2, .int .i64 1]), (16, .bool false), (19, .bool true), (85, .bool (((row.length + 1 : Nat) : Int) == 0))] ∧ ∃ H, Rep [(w, fun _ => True)] u H [⟨H0 + 3, 0, kc7, 63, true⟩, ⟨H0 + 2, 0, kc8, 116, true⟩, ⟨H0 + 1, 0, kc5, 60, true⟩, ⟨H0, 0, kc6, 116, true⟩] [⟨g, off, [.int .u32 x.a, .int .u32 x.b, .int .u32 x.c, .int .u32 x.d]⟩]) ?_ ?_
  · show Code.wp _ _ _ _ _
    refine enterD (kl := [⟨H0 + 1, 0, kc5, 60, true⟩, ⟨H0, 0, kc6, 116, true⟩]) (by kernel_rfl) hR (F := 17) (listed := #[false, false, false, false, false, false, false, false, false, false, false, false, false, false, false, false, false]) (by kernel_rfl) (by kernel_rfl) ?_
    clear hR
    intro u hR
    let kv9 : Value := .agg #[.int .i64 o.kind, .int .i64 o.cap, .int .i64 o.width, .int .i64 o.retry, .int .i64 o.src, .int .i64 o.dst, .int .u32 o.i0, .int .u32 o.i1, .int .u32 o.i2, .int .u32 o.i3, .slice (some ⟨g, off + 4, none⟩) row.length (c - 1), .int .u32 v.a, .int .u32 v.b, .int .u32 v.c, .int .u32 v.d]
    let kv10 : Value := .agg #[.int .i64 0, .int .u32 x.a, .int .u32 x.b, .int .u32 x.c, .int .u32 x.d]
    refine takes (by kernel_rfl) (pqT (pqT (pqB (pqT (pqB (pqT (pqB (pqT (pqB (pqT (pqB (pqT (pqB (pqT (pqB (pqT (pqB (pqT pqF)))))))))))))))))) hE (hR.ss [2, 3] (by kernel_rfl)) [(0, .op []), (1, .op (hks 1 0 10)), (2, .op []), (3, .op [.k 1 10]), (4, .alt (.slice (some ⟨g, off + 4, none⟩) row.length (c - 1))), (5, .op []), (6, .op (hks 1 11 4)), (7, .op []), (8, .op []), (9, .op [.k 1 10]), (10, .alt (.pointer (some ⟨g, off, none⟩))), (11, .op [.r 0 0, .r 0 1, .r 0 2, .r 0 3]), (12, .op [])] 4 [(3, .pointer (some ⟨H0, 0, none⟩)), (5, .pointer (some ⟨H0 + 1, 0, none⟩)), (6, .pointer (some ⟨H0 + 2, 0, none⟩)), (7, .pointer (some ⟨H0 + 3, 0, none⟩)), (8, .bool false), (9, .bool false), (10, .func (.func 74) #[] #[.pointer (some ⟨H0, 0, none⟩)]), (15, .agg #[.int .i64 2, .int .i64 1]), (16, .bool false), (19, .bool true), (85, .bool (((row.length + 1 : Nat) : Int) == 0)), (95, kv9), (100, kv10)] #[true, true, true, true, true, true, true, true, true, true, true, true, true, false, false, false, false] [(0 ≤ (0 : Int) ∧ (0 : Int) < ((row.length + 1 : Nat) : Int)) ∧ (Try.prog.info? 58).isSome = true, (.pointer (some ⟨g, off, none⟩) : Value) = (.pointer (some ⟨g, off, none⟩) : Value), ((0 ≤ (1 : Int) ∧ (1 : Int) ≤ (((row.length + 1 : Nat) : Int) : Int) ∧ (((row.length + 1 : Nat) : Int) : Int) ≤ (((c : Nat) : Int) : Int) ∧ (((c : Nat) : Int) : Int) ≤ ((c : Nat) : Int)) ∧ ((((c : Nat) : Int) : Int) = (1 : Int) → (1 : Int) = 0) ∧ (Try.prog.info? 58).isSome = true ∧ (false = true → false = true)), (.slice (some ⟨g, off + 4, none⟩) row.length (c - 1) : Value) = (.slice (some ⟨g, off + 4, none⟩) row.length (c - 1) : Value)] (by kernel_rfl) (by kernel_rfl) (by kernel_rfl) ⟨⟨⟨by omega, by omega⟩, by kernel_rfl⟩, rfl, ⟨⟨by omega, by omega, by omega, by omega⟩, by omega, by kernel_rfl, by simp⟩, rfl, trivial⟩ ?_
    clear hE; intro a hE
    refine wpAnyH_all (rs := [13]) (by kernel_rfl) (by simp) (allCons ?_ allNil)
    refine oneU hE hR (.op (hks 1 0 15)) [] [⟨H0 + 3, 0, kc3, 63, true⟩, ⟨H0 + 2, 0, kc8, 116, true⟩, ⟨H0 + 1, 0, kc5, 60, true⟩, ⟨H0, 0, kc6, 116, true⟩] (H1) [] (by kernel_rfl) (by kernel_rfl) trivial ?_
    clear hE hR; intro a u hE hR
    refine ⟨(hR.ss [2, 3] (by kernel_rfl)), ?_⟩
    show wpAnyH _ _ _ _ _ _ #[true, true, true, true, true, true, true, true, true, true, true, true, true, true, false, false, false] _ _
    refine wpAnyH_all (rs := [14]) (by kernel_rfl) (by simp) (allCons ?_ allNil)
    refine oneU hE hR (.op (hks 0 0 5)) [] [⟨H0 + 3, 0, kc7, 63, true⟩, ⟨H0 + 2, 0, kc8, 116, true⟩, ⟨H0 + 1, 0, kc5, 60, true⟩, ⟨H0, 0, kc6, 116, true⟩] (H1) [] (by kernel_rfl) (by kernel_rfl) trivial ?_
    clear hE hR; intro a u hE hR
    refine ⟨(hR.ss [2, 3] (by kernel_rfl)), ?_⟩
    show wpAnyH _ _ _ _ _ _ #[true, true, true, true, true, true, true, true, true, true, true, true, true, true, true, false, false] _ _
    refine takesU (by kernel_rfl) (pqT (pqT (pqB (pqT (pqB (pqT (pqB (pqT (pqB (pqT (pqB (pqT (pqB (pqT (pqB (pqT (pqB (pqT pqF)))))))))))))))))) hE (hR.ss [2, 3] (by kernel_rfl)) [(15, .op []), (16, .op [])] 0 [(8, .bool true), (9, .bool true)] #[true, true, true, true, true, true, true, true, true, true, true, true, true, true, true, true, true] [] (by kernel_rfl) (by kernel_rfl) (by kernel_rfl) trivial ?_
    clear hE; intro a hE
    refine wpAnyH_done (by kernel_rfl) ?_ _
    refine thenN ?_
    exact ⟨hE.sub (by kernel_rfl), _, hR⟩
  clear hE hR
  rintro a u ⟨hE, J1, hR⟩
  refine wp_ret ?_; refine thenR ?_; refine blkR ?_; refine thenR ?_; refine blkR ?_; refine thenR ?_; refine blkR ?_; refine thenR ?_; refine blkR ?_; refine thenR ?_; refine blkR ?_
  refine thenR ?_; refine blkR ?_; refine thenR ?_; refine blkR ?_; refine thenR ?_; refine blkR ?_; refine thenR ?_
  refine retF hE hR (hks 1 0 15 ++ hks 0 0 5) (.tuple #[.agg #[.int .i64 o.kind, .int .i64 o.cap, .int .i64 o.width, .int .i64 o.retry, .int .i64 o.src, .int .i64 o.dst, .int .u32 o.i0, .int .u32 o.i1, .int .u32 o.i2, .int .u32 o.i3, .slice (some ⟨g, off + 4, none⟩) row.length (c - 1), .int .u32 v.a, .int .u32 v.b, .int .u32 v.c, .int .u32 v.d], .agg #[.int .i64 0, .int .u32 x.a, .int .u32 x.b, .int .u32 x.c, .int .u32 x.d], .bool true, .bool true]) (by kernel_rfl) (by kernel_rfl) (by kernel_rfl) ?_
  exact ⟨rfl, hR.below (by simp)⟩
set_option maxRecDepth 100000 in
theorem done_recv_last (o : Ob) (v : Vl) (ck co : Int) (cv : Vl) (cn : Int) (g off : Nat) (x : Vl) (w : World) (hkk : kindP o = 1) (hrow : w.rangeAt g off (flatV [x])) :
    Calls Try.prog 50 #[itA o (.slice (some ⟨g, off, none⟩) 1 1) v, .int .i64 2, callA ck co cv cn] w fun e W' => e = .returned (.tuple #[itA o (.slice (some ⟨g, off, none⟩) 0 0) v, resA 0 x, .bool true, .bool true]) ∧ Below w.heap.size w W' := by
  have HK := fun W => kind_calls o (some ⟨g, off, none⟩) (1) (1) v W
  rw [hkk] at HK
  have hr0 : w.rangeAt g off (x.cells) := by rw [flatV_cons] at hrow; exact range_app hrow
  let kv1 : Value := .agg #[.int .i64 o.kind, .int .i64 o.cap, .int .i64 o.width, .int .i64 o.retry, .int .i64 o.src, .int .i64 o.dst, .int .u32 o.i0, .int .u32 o.i1, .int .u32 o.i2, .int .u32 o.i3, .slice (some ⟨g, off, none⟩) 1 1, .int .u32 v.a, .int .u32 v.b, .int .u32 v.c, .int .u32 v.d]
  let kv2 : Value := .agg #[.int .i64 ck, .int .i64 co, .int .u32 cv.a, .int .u32 cv.b, .int .u32 cv.c, .int .u32 cv.d, .int .u32 cn]
  refine enterF Try.func50 rfl Try.ntmps50 [(0, kv1), (1, .int .i64 2), (2, kv2)] (by kernel_rfl) (by kernel_rfl) ?_
  have hR := Rep.startR w g off hr0
  obtain ⟨H0, hH0⟩ : ∃ x, x = w.heap.size := ⟨_, rfl⟩
  rw [← hH0] at hR
  intro a hE
  refine wp_seq ?_
  refine enterR (idx := [0, 1, 2, 3, 4, 5]) (by kernel_rfl) ?_
  let kc3 : List Value := [.int .i64 0, .int .u32 0, .int .u32 0, .int .u32 0, .int .u32 0]
  let kc4 : List Value := [.int .i64 0, .int .i64 0, .int .i64 0, .int .i64 0, .int .i64 0, .int .i64 0, .int .u32 0, .int .u32 0, .int .u32 0, .int .u32 0, .slice none 0 0, .int .u32 0, .int .u32 0, .int .u32 0, .int .u32 0]
  let kc5 : List Value := [.int .i64 ck, .int .i64 co, .int .u32 cv.a, .int .u32 cv.b, .int .u32 cv.c, .int .u32 cv.d, .int .u32 cn]
  let kc6 : List Value := [.int .i64 o.kind, .int .i64 o.cap, .int .i64 o.width, .int .i64 o.retry, .int .i64 o.src, .int .i64 o.dst, .int .u32 o.i0, .int .u32 o.i1, .int .u32 o.i2, .int .u32 o.i3, .slice (some ⟨g, off, none⟩) 1 1, .int .u32 v.a, .int .u32 v.b, .int .u32 v.c, .int .u32 v.d]
  refine segU hE hR [(0, .op []), (1, .op []), (2, .op []), (3, .op []), (4, .op []), (5, .op [])] [] [(3, .pointer (some ⟨H0, 0, none⟩)), (5, .pointer (some ⟨H0 + 1, 0, none⟩)), (6, .pointer (some ⟨H0 + 2, 0, none⟩)), (7, .pointer (some ⟨H0 + 3, 0, none⟩)), (8, .bool false), (9, .bool false)] [⟨H0 + 3, 0, kc3, 63, true⟩, ⟨H0 + 2, 0, kc4, 116, true⟩, ⟨H0 + 1, 0, kc5, 60, true⟩, ⟨H0, 0, kc6, 116, true⟩] (H0 + 4) [] (by kernel_rfl) (by kernel_rfl) (by kernel_rfl) trivial ?_
  clear hE hR; intro a u hE hR
  refine opsNil ?_; refine thenN ?_; refine wp_seq ?_
  refine enterR (idx := [0, 1]) (by kernel_rfl) ?_
  refine segV hE hR [(0, .op []), (1, .op [])] [] [(10, .func (.func 74) #[] #[.pointer (some ⟨H0, 0, none⟩)])] [] (by kernel_rfl) (by kernel_rfl) (by kernel_rfl) trivial ?_
  clear hE hR; intro a u hE hR
  refine opsNil ?_; refine thenN ?_; refine wp_seq ?_; refine wp_seq ?_
  refine enterR (idx := [0, 1, 2, 3]) (by kernel_rfl) ?_
  refine segV hE hR [(0, .op []), (1, .op (hks 3 0 15))] [2, 3] [(12, .int .i64 2), (13, kv1)] [] (by kernel_rfl) (by kernel_rfl) (by kernel_rfl) trivial ?_
  clear hE hR; intro a u hE hR
  refine opsCons ?_
  refine call hE hR [] 45 #[kv1] (some 14) [] (by kernel_rfl) (by kernel_rfl) trivial (HK _) (fun _ _ h => by cases h.1) (fun _ h => by cases h.1) ?_
  clear hE
  rintro v u ⟨hv, hb⟩ a hE
  cases hv
  obtain ⟨H1, hH1, hR⟩ := hR.callE hb
  refine segV hE hR [(3, .op [])] [] [(15, .agg #[.int .i64 2, .int .i64 1])] [] (by kernel_rfl) (by kernel_rfl) (by kernel_rfl) trivial ?_
  clear hE hR; intro a u hE hR
  refine opsNil ?_; refine thenN ?_; refine wp_block ?_; refine wp_seq ?_; refine wp_block ?_; refine wp_seq ?_; refine wp_block ?_; refine wp_seq ?_; refine wp_block ?_; refine wp_seq ?_
  refine wp_block ?_; refine wp_seq ?_; refine wp_block ?_; refine wp_seq ?_; refine wp_block ?_; refine wp_seq ?_; refine wp_block ?_; refine wp_seq ?_; refine wp_block ?_; refine wp_seq ?_
  refine wp_block ?_; refine wp_seq ?_; refine wp_seq ?_; refine wp_seq ?_
  refine enterR (idx := [0, 1, 2]) (by kernel_rfl) ?_
  refine segV hE hR [(0, .op []), (1, .op []), (2, .op [])] [] [(16, .bool false)] [] (by kernel_rfl) (by kernel_rfl) (by kernel_rfl) trivial ?_
  clear hE hR; intro a u hE hR
  refine opsNil ?_; refine thenN ?_
  refine condF hE (b := false) (by kernel_rfl) rfl ?_
  refine wp_skip ?_; refine thenN ?_; refine wp_seq ?_; refine wp_seq ?_
  refine enterR (idx := [0, 1, 2]) (by kernel_rfl) ?_
  refine segV hE hR [(0, .op []), (1, .op []), (2, .op [])] [] [(19, .bool true)] [] (by kernel_rfl) (by kernel_rfl) (by kernel_rfl) trivial ?_
  clear hE hR; intro a u hE hR
  refine opsNil ?_; refine thenN ?_
  refine condT hE (b := true) (by kernel_rfl) rfl ?_
  refine wp_exit ?_; refine thenE ?_; refine thenE ?_; refine blkX (by kernel_rfl) ?_; refine thenE ?_; refine blkE ?_; refine thenN ?_; refine wp_seq ?_; refine wp_seq ?_; refine wp_seq ?_
  refine enterR (idx := [0, 1, 2, 3]) (by kernel_rfl) ?_
  refine segV hE hR [(0, .op []), (1, .op [.k 3 10]), (2, .op []), (3, .op [])] [] [(85, .bool false)] [] (by kernel_rfl) (by kernel_rfl) (by kernel_rfl) trivial ?_
  clear hE hR; intro a u hE hR
  refine opsNil ?_; refine thenN ?_
  refine condF hE (b := false) (by kernel_rfl) rfl ?_
  refine wp_skip ?_; refine thenN ?_
  let kc7 : List Value := [.int .i64 0, .int .u32 x.a, .int .u32 x.b, .int .u32 x.c, .int .u32 x.d]
  let kc8 : List Value := [.int .i64 o.kind, .int .i64 o.cap, .int .i64 o.width, .int .i64 o.retry, .int .i64 o.src, .int .i64 o.dst, .int .u32 o.i0, .int .u32 o.i1, .int .u32 o.i2, .int .u32 o.i3, .slice (some ⟨g, off, none⟩) 0 0, .int .u32 v.a, .int .u32 v.b, .int .u32 v.c, .int .u32 v.d]
  refine seqJ (fun a u => TE a 179 [(3, .pointer (some ⟨H0, 0, none⟩)), (5, .pointer (some ⟨H0 + 1, 0, none⟩)), (6, .pointer (some ⟨H0 + 2, 0, none⟩)), (7, .pointer (some ⟨H0 + 3, 0, none⟩)), (8, .bool true), (9, .bool true), (10, .func (.func 74) #[] #[.pointer (some ⟨H0, 0, none⟩)]), (15, .agg #[.int .i64 2, .int .i64 1]), (16, .bool false), (19, .bool true), (85, .bool false)] ∧ ∃ H, Rep [(w, fun _ => True)] u H [⟨H0 + 3, 0, kc7, 63, true⟩, ⟨H0 + 2, 0, kc8, 116, true⟩, ⟨H0 + 1, 0, kc5, 60, true⟩, ⟨H0, 0, kc6, 116, true⟩] [⟨g, off, [.int .u32 x.a, .int .u32 x.b, .int .u32 x.c, .int .u32 x.d]⟩]) ?_ ?_
  · show Code.wp _ _ _ _ _
    refine enterD (kl := [⟨H0 + 1, 0, kc5, 60, true⟩, ⟨H0, 0, kc6, 116, true⟩]) (by kernel_rfl) hR (F := 17) (listed := #[false, false, false, false, false, false, false, false, false, false, false, false, false, false, false, false, false]) (by kernel_rfl) (by kernel_rfl) ?_
    clear hR
    intro u hR
    let kv9 : Value := .agg #[.int .i64 o.kind, .int .i64 o.cap, .int .i64 o.width, .int .i64 o.retry, .int .i64 o.src, .int .i64 o.dst, .int .u32 o.i0, .int .u32 o.i1, .int .u32 o.i2, .int .u32 o.i3, .slice (some ⟨g, off, none⟩) 0 0, .int .u32 v.a, .int .u32 v.b, .int .u32 v.c, .int .u32 v.d]
    let kv10 : Value := .agg #[.int .i64 0, .int .u32 x.a, .int .u32 x.b, .int .u32 x.c, .int .u32 x.d]
    refine takes (by kernel_rfl) (pqT (pqT (pqB (pqT (pqB (pqT (pqB (pqT (pqB (pqT (pqB (pqT (pqB (pqT (pqB (pqT (pqB (pqT pqF)))))))))))))))))) hE (hR.ss [2, 3] (by kernel_rfl)) [(0, .op []), (1, .op (hks 1 0 10)), (2, .op []), (3, .op [.k 1 10]), (4, .op []), (5, .op []), (6, .op (hks 1 11 4)), (7, .op []), (8, .op []), (9, .op [.k 1 10]), (10, .op []), (11, .op [.r 0 0, .r 0 1, .r 0 2, .r 0 3]), (12, .op [])] 4 [(3, .pointer (some ⟨H0, 0, none⟩)), (5, .pointer (some ⟨H0 + 1, 0, none⟩)), (6, .pointer (some ⟨H0 + 2, 0, none⟩)), (7, .pointer (some ⟨H0 + 3, 0, none⟩)), (8, .bool false), (9, .bool false), (10, .func (.func 74) #[] #[.pointer (some ⟨H0, 0, none⟩)]), (15, .agg #[.int .i64 2, .int .i64 1]), (16, .bool false), (19, .bool true), (85, .bool false), (95, kv9), (100, kv10)] #[true, true, true, true, true, true, true, true, true, true, true, true, true, false, false, false, false] [] (by kernel_rfl) (by kernel_rfl) (by kernel_rfl) trivial ?_
    clear hE; intro a hE
    refine wpAnyH_all (rs := [13]) (by kernel_rfl) (by simp) (allCons ?_ allNil)
    refine oneU hE hR (.op (hks 1 0 15)) [] [⟨H0 + 3, 0, kc3, 63, true⟩, ⟨H0 + 2, 0, kc8, 116, true⟩, ⟨H0 + 1, 0, kc5, 60, true⟩, ⟨H0, 0, kc6, 116, true⟩] (H1) [] (by kernel_rfl) (by kernel_rfl) trivial ?_
    clear hE hR; intro a u hE hR
    refine ⟨(hR.ss [2, 3] (by kernel_rfl)), ?_⟩
    show wpAnyH _ _ _ _ _ _ #[true, true, true, true, true, true, true, true, true, true, true, true, true, true, false, false, false] _ _
    refine wpAnyH_all (rs := [14]) (by kernel_rfl) (by simp) (allCons ?_ allNil)
    refine oneU hE hR (.op (hks 0 0 5)) [] [⟨H0 + 3, 0, kc7, 63, true⟩, ⟨H0 + 2, 0, kc8, 116, true⟩, ⟨H0 + 1, 0, kc5, 60, true⟩, ⟨H0, 0, kc6, 116, true⟩] (H1) [] (by kernel_rfl) (by kernel_rfl) trivial ?_
    clear hE hR; intro a u hE hR
    refine ⟨(hR.ss [2, 3] (by kernel_rfl)), ?_⟩
    show wpAnyH _ _ _ _ _ _ #[true, true, true, true, true, true, true, true, true, true, true, true, true, true, true, false, false] _ _
    refine takesU (by kernel_rfl) (pqT (pqT (pqB (pqT (pqB (pqT (pqB (pqT (pqB (pqT (pqB (pqT (pqB (pqT (pqB (pqT (pqB (pqT pqF)))))))))))))))))) hE (hR.ss [2, 3] (by kernel_rfl)) [(15, .op []), (16, .op [])] 0 [(8, .bool true), (9, .bool true)] #[true, true, true, true, true, true, true, true, true, true, true, true, true, true, true, true, true] [] (by kernel_rfl) (by kernel_rfl) (by kernel_rfl) trivial ?_
    clear hE; intro a hE
    refine wpAnyH_done (by kernel_rfl) ?_ _
    refine thenN ?_
    exact ⟨hE.sub (by kernel_rfl), _, hR⟩
  clear hE hR
  rintro a u ⟨hE, J1, hR⟩
  refine wp_ret ?_; refine thenR ?_; refine blkR ?_; refine thenR ?_; refine blkR ?_; refine thenR ?_; refine blkR ?_; refine thenR ?_; refine blkR ?_; refine thenR ?_; refine blkR ?_
  refine thenR ?_; refine blkR ?_; refine thenR ?_; refine blkR ?_; refine thenR ?_; refine blkR ?_; refine thenR ?_
  refine retF hE hR (hks 1 0 15 ++ hks 0 0 5) (.tuple #[.agg #[.int .i64 o.kind, .int .i64 o.cap, .int .i64 o.width, .int .i64 o.retry, .int .i64 o.src, .int .i64 o.dst, .int .u32 o.i0, .int .u32 o.i1, .int .u32 o.i2, .int .u32 o.i3, .slice (some ⟨g, off, none⟩) 0 0, .int .u32 v.a, .int .u32 v.b, .int .u32 v.c, .int .u32 v.d], .agg #[.int .i64 0, .int .u32 x.a, .int .u32 x.b, .int .u32 x.c, .int .u32 x.d], .bool true, .bool true]) (by kernel_rfl) (by kernel_rfl) (by kernel_rfl) ?_
  exact ⟨rfl, hR.below (by simp)⟩
set_option maxRecDepth 100000 in
theorem done_kind (o : Ob) (v : Vl) (ck co : Int) (cv : Vl) (cn : Int) (A : Option Addr) (n c : Nat) (k K : Int) (w : World) (hkk : kindP o = K) (hno : ¬ (k = 1 ∧ K = 1) ∧ ¬ (k = 2 ∧ K = 1) ∧ ¬ (k = 3 ∧ K = 2) ∧ ¬ (k = 3 ∧ K = 3) ∧ ¬ (k = 4 ∧ K = 2) ∧ ¬ (k = 5 ∧ K = 3) ∧ ¬ (k = 6 ∧ K = 3) ∧ ¬ (k = 7 ∧ K = 4) ∧ ¬ (k = 8 ∧ K = 4) ∧ ¬ (k = 16 ∧ K = 4) ∧ ¬ (k = 17 ∧ K = 4) ∧ ¬ (k = 9 ∧ K = 4)) :
    Calls Try.prog 50 #[itA o (.slice A n c) v, .int .i64 k, callA ck co cv cn] w fun e W' => e = .returned (.tuple #[itA o (.slice A n c) v, resA 12 Vl.z, .bool false, .bool false]) ∧ Below w.heap.size w W' := by
  have HK := fun W => kind_calls o A (n) (c) v W
  rw [hkk] at HK
  let kv1 : Value := .agg #[.int .i64 o.kind, .int .i64 o.cap, .int .i64 o.width, .int .i64 o.retry, .int .i64 o.src, .int .i64 o.dst, .int .u32 o.i0, .int .u32 o.i1, .int .u32 o.i2, .int .u32 o.i3, .slice A n c, .int .u32 v.a, .int .u32 v.b, .int .u32 v.c, .int .u32 v.d]
  let kv2 : Value := .agg #[.int .i64 ck, .int .i64 co, .int .u32 cv.a, .int .u32 cv.b, .int .u32 cv.c, .int .u32 cv.d, .int .u32 cn]
  refine enterF Try.func50 rfl Try.ntmps50 [(0, kv1), (1, .int .i64 k), (2, kv2)] (by kernel_rfl) (by kernel_rfl) ?_
  have hR := Rep.start w
  obtain ⟨H0, hH0⟩ : ∃ x, x = w.heap.size := ⟨_, rfl⟩
  rw [← hH0] at hR
  intro a hE
  refine wp_seq ?_
  refine enterR (idx := [0, 1, 2, 3, 4, 5]) (by kernel_rfl) ?_
  let kc3 : List Value := [.int .i64 0, .int .u32 0, .int .u32 0, .int .u32 0, .int .u32 0]
  let kc4 : List Value := [.int .i64 0, .int .i64 0, .int .i64 0, .int .i64 0, .int .i64 0, .int .i64 0, .int .u32 0, .int .u32 0, .int .u32 0, .int .u32 0, .slice none 0 0, .int .u32 0, .int .u32 0, .int .u32 0, .int .u32 0]
  let kc5 : List Value := [.int .i64 ck, .int .i64 co, .int .u32 cv.a, .int .u32 cv.b, .int .u32 cv.c, .int .u32 cv.d, .int .u32 cn]
  let kc6 : List Value := [.int .i64 o.kind, .int .i64 o.cap, .int .i64 o.width, .int .i64 o.retry, .int .i64 o.src, .int .i64 o.dst, .int .u32 o.i0, .int .u32 o.i1, .int .u32 o.i2, .int .u32 o.i3, .slice A n c, .int .u32 v.a, .int .u32 v.b, .int .u32 v.c, .int .u32 v.d]
  refine segU hE hR [(0, .op []), (1, .op []), (2, .op []), (3, .op []), (4, .op []), (5, .op [])] [] [(3, .pointer (some ⟨H0, 0, none⟩)), (5, .pointer (some ⟨H0 + 1, 0, none⟩)), (6, .pointer (some ⟨H0 + 2, 0, none⟩)), (7, .pointer (some ⟨H0 + 3, 0, none⟩)), (8, .bool false), (9, .bool false)] [⟨H0 + 3, 0, kc3, 63, true⟩, ⟨H0 + 2, 0, kc4, 116, true⟩, ⟨H0 + 1, 0, kc5, 60, true⟩, ⟨H0, 0, kc6, 116, true⟩] (H0 + 4) [] (by kernel_rfl) (by kernel_rfl) (by kernel_rfl) trivial ?_
  clear hE hR; intro a u hE hR
  refine opsNil ?_; refine thenN ?_; refine wp_seq ?_
  refine enterR (idx := [0, 1]) (by kernel_rfl) ?_
  refine segV hE hR [(0, .op []), (1, .op [])] [] [(10, .func (.func 74) #[] #[.pointer (some ⟨H0, 0, none⟩)])] [] (by kernel_rfl) (by kernel_rfl) (by kernel_rfl) trivial ?_
  clear hE hR; intro a u hE hR
  refine opsNil ?_; refine thenN ?_; refine wp_seq ?_; refine wp_seq ?_
  refine enterR (idx := [0, 1, 2, 3]) (by kernel_rfl) ?_
  refine segV hE hR [(0, .op []), (1, .op (hks 3 0 15))] [2, 3] [(12, .int .i64 k), (13, kv1)] [] (by kernel_rfl) (by kernel_rfl) (by kernel_rfl) trivial ?_
  clear hE hR; intro a u hE hR
  refine opsCons ?_
  refine call hE hR [] 45 #[kv1] (some 14) [] (by kernel_rfl) (by kernel_rfl) trivial (HK _) (fun _ _ h => by cases h.1) (fun _ h => by cases h.1) ?_
  clear hE
  rintro v u ⟨hv, hb⟩ a hE
  cases hv
  obtain ⟨H1, hH1, hR⟩ := hR.callE hb
  refine segV hE hR [(3, .op [])] [] [(15, .agg #[.int .i64 k, .int .i64 K])] [] (by kernel_rfl) (by kernel_rfl) (by kernel_rfl) trivial ?_
  clear hE hR; intro a u hE hR
  refine opsNil ?_; refine thenN ?_; refine wp_block ?_; refine wp_seq ?_; refine wp_block ?_; refine wp_seq ?_; refine wp_block ?_; refine wp_seq ?_; refine wp_block ?_; refine wp_seq ?_
  refine wp_block ?_; refine wp_seq ?_; refine wp_block ?_; refine wp_seq ?_; refine wp_block ?_; refine wp_seq ?_; refine wp_block ?_; refine wp_seq ?_; refine wp_block ?_; refine wp_seq ?_
  refine wp_block ?_; refine wp_seq ?_; refine wp_seq ?_; refine wp_seq ?_
  refine enterR (idx := [0, 1, 2]) (by kernel_rfl) ?_
  refine segV hE hR [(0, .op []), (1, .alt (.bool (((k : Int) == 1) && (((K : Int) == 1) && (true))))), (2, .op [])] [] [(16, .bool (((k : Int) == 1) && (((K : Int) == 1) && (true))))] [True, (.bool (((k : Int) == 1) && (((K : Int) == 1) && (true))) : Value) = (.bool (((k : Int) == 1) && (((K : Int) == 1) && (true))) : Value)] (by kernel_rfl) (by kernel_rfl) (by kernel_rfl) ⟨trivial, rfl, trivial⟩ ?_
  clear hE hR; intro a u hE hR
  refine opsNil ?_; refine thenN ?_
  refine condF hE (b := ((k : Int) == 1) && (((K : Int) == 1) && (true))) (by kernel_rfl) (by simp; omega) ?_
  refine wp_skip ?_; refine thenN ?_; refine wp_seq ?_; refine wp_seq ?_
  refine enterR (idx := [0, 1, 2]) (by kernel_rfl) ?_
  refine segV hE hR [(0, .op []), (1, .alt (.bool (((k : Int) == 2) && (((K : Int) == 1) && (true))))), (2, .op [])] [] [(19, .bool (((k : Int) == 2) && (((K : Int) == 1) && (true))))] [True, (.bool (((k : Int) == 2) && (((K : Int) == 1) && (true))) : Value) = (.bool (((k : Int) == 2) && (((K : Int) == 1) && (true))) : Value)] (by kernel_rfl) (by kernel_rfl) (by kernel_rfl) ⟨trivial, rfl, trivial⟩ ?_
  clear hE hR; intro a u hE hR
  refine opsNil ?_; refine thenN ?_
  refine condF hE (b := ((k : Int) == 2) && (((K : Int) == 1) && (true))) (by kernel_rfl) (by simp; omega) ?_
  refine wp_skip ?_; refine thenN ?_; refine wp_seq ?_; refine wp_seq ?_; refine wp_seq ?_
  refine enterR (idx := [0, 1, 2]) (by kernel_rfl) ?_
  refine segV hE hR [(0, .op []), (1, .alt (.bool (((k : Int) == 3) && (((K : Int) == 2) && (true))))), (2, .op [])] [] [(22, .bool (((k : Int) == 3) && (((K : Int) == 2) && (true))))] [True, (.bool (((k : Int) == 3) && (((K : Int) == 2) && (true))) : Value) = (.bool (((k : Int) == 3) && (((K : Int) == 2) && (true))) : Value)] (by kernel_rfl) (by kernel_rfl) (by kernel_rfl) ⟨trivial, rfl, trivial⟩ ?_
  clear hE hR; intro a u hE hR
  refine opsNil ?_; refine thenN ?_
  refine condF hE (b := ((k : Int) == 3) && (((K : Int) == 2) && (true))) (by kernel_rfl) (by simp; omega) ?_
  refine enterR (idx := [0, 1, 2]) (by kernel_rfl) ?_
  refine seg0 hE hR [(0, .op []), (1, .alt (.bool (((k : Int) == 3) && (((K : Int) == 3) && (true))))), (2, .op [])] [] [(3, .pointer (some ⟨H0, 0, none⟩)), (5, .pointer (some ⟨H0 + 1, 0, none⟩)), (6, .pointer (some ⟨H0 + 2, 0, none⟩)), (7, .pointer (some ⟨H0 + 3, 0, none⟩)), (8, .bool false), (9, .bool false), (10, .func (.func 74) #[] #[.pointer (some ⟨H0, 0, none⟩)]), (15, .agg #[.int .i64 k, .int .i64 K]), (16, .bool (((k : Int) == 1) && (((K : Int) == 1) && (true)))), (19, .bool (((k : Int) == 2) && (((K : Int) == 1) && (true)))), (22, .bool (((k : Int) == 3) && (((K : Int) == 3) && (true))))] [True, (.bool (((k : Int) == 3) && (((K : Int) == 3) && (true))) : Value) = (.bool (((k : Int) == 3) && (((K : Int) == 3) && (true))) : Value)] (by kernel_rfl) (by kernel_rfl) (by kernel_rfl) ⟨trivial, rfl, trivial⟩ ?_
  clear hE hR; intro a u hE hR
  refine opsNil ?_; refine thenN ?_
  refine condF hE (b := ((k : Int) == 3) && (((K : Int) == 3) && (true))) (by kernel_rfl) (by simp; omega) ?_
  refine wp_skip ?_; refine thenN ?_; refine wp_seq ?_; refine wp_seq ?_; refine wp_seq ?_
  refine enterR (idx := [0, 1, 2]) (by kernel_rfl) ?_
  refine segV hE hR [(0, .op []), (1, .alt (.bool (((k : Int) == 4) && (((K : Int) == 2) && (true))))), (2, .op [])] [] [(27, .bool (((k : Int) == 4) && (((K : Int) == 2) && (true))))] [True, (.bool (((k : Int) == 4) && (((K : Int) == 2) && (true))) : Value) = (.bool (((k : Int) == 4) && (((K : Int) == 2) && (true))) : Value)] (by kernel_rfl) (by kernel_rfl) (by kernel_rfl) ⟨trivial, rfl, trivial⟩ ?_
  clear hE hR; intro a u hE hR
  refine opsNil ?_; refine thenN ?_
  refine condF hE (b := ((k : Int) == 4) && (((K : Int) == 2) && (true))) (by kernel_rfl) (by simp; omega) ?_
  refine wp_seq ?_
  refine enterR (idx := [0, 1, 2]) (by kernel_rfl) ?_
  refine segV hE hR [(0, .op []), (1, .alt (.bool (((k : Int) == 5) && (((K : Int) == 3) && (true))))), (2, .op [])] [] [(27, .bool (((k : Int) == 5) && (((K : Int) == 3) && (true))))] [True, (.bool (((k : Int) == 5) && (((K : Int) == 3) && (true))) : Value) = (.bool (((k : Int) == 5) && (((K : Int) == 3) && (true))) : Value)] (by kernel_rfl) (by kernel_rfl) (by kernel_rfl) ⟨trivial, rfl, trivial⟩ ?_
  clear hE hR; intro a u hE hR
  refine opsNil ?_; refine thenN ?_
  refine condF hE (b := ((k : Int) == 5) && (((K : Int) == 3) && (true))) (by kernel_rfl) (by simp; omega) ?_
  refine enterR (idx := [0, 1, 2]) (by kernel_rfl) ?_
  refine segV hE hR [(0, .op []), (1, .alt (.bool (((k : Int) == 6) && (((K : Int) == 3) && (true))))), (2, .op [])] [] [(27, .bool (((k : Int) == 6) && (((K : Int) == 3) && (true))))] [True, (.bool (((k : Int) == 6) && (((K : Int) == 3) && (true))) : Value) = (.bool (((k : Int) == 6) && (((K : Int) == 3) && (true))) : Value)] (by kernel_rfl) (by kernel_rfl) (by kernel_rfl) ⟨trivial, rfl, trivial⟩ ?_
  clear hE hR; intro a u hE hR
  refine opsNil ?_; refine thenN ?_
  refine condF hE (b := ((k : Int) == 6) && (((K : Int) == 3) && (true))) (by kernel_rfl) (by simp; omega) ?_
  refine wp_skip ?_; refine thenN ?_; refine wp_seq ?_; refine wp_seq ?_
  refine enterR (idx := [0, 1, 2]) (by kernel_rfl) ?_
  refine segV hE hR [(0, .op []), (1, .alt (.bool (((k : Int) == 7) && (((K : Int) == 4) && (true))))), (2, .op [])] [] [(34, .bool (((k : Int) == 7) && (((K : Int) == 4) && (true))))] [True, (.bool (((k : Int) == 7) && (((K : Int) == 4) && (true))) : Value) = (.bool (((k : Int) == 7) && (((K : Int) == 4) && (true))) : Value)] (by kernel_rfl) (by kernel_rfl) (by kernel_rfl) ⟨trivial, rfl, trivial⟩ ?_
  clear hE hR; intro a u hE hR
  refine opsNil ?_; refine thenN ?_
  refine condF hE (b := ((k : Int) == 7) && (((K : Int) == 4) && (true))) (by kernel_rfl) (by simp; omega) ?_
  refine wp_skip ?_; refine thenN ?_; refine wp_seq ?_; refine wp_seq ?_
  refine enterR (idx := [0, 1, 2]) (by kernel_rfl) ?_
  refine segV hE hR [(0, .op []), (1, .alt (.bool (((k : Int) == 8) && (((K : Int) == 4) && (true))))), (2, .op [])] [] [(37, .bool (((k : Int) == 8) && (((K : Int) == 4) && (true))))] [True, (.bool (((k : Int) == 8) && (((K : Int) == 4) && (true))) : Value) = (.bool (((k : Int) == 8) && (((K : Int) == 4) && (true))) : Value)] (by kernel_rfl) (by kernel_rfl) (by kernel_rfl) ⟨trivial, rfl, trivial⟩ ?_
  clear hE hR; intro a u hE hR
  refine opsNil ?_; refine thenN ?_
  refine condF hE (b := ((k : Int) == 8) && (((K : Int) == 4) && (true))) (by kernel_rfl) (by simp; omega) ?_
  refine wp_skip ?_; refine thenN ?_; refine wp_seq ?_; refine wp_seq ?_
  refine enterR (idx := [0, 1, 2]) (by kernel_rfl) ?_
  refine segV hE hR [(0, .op []), (1, .alt (.bool (((k : Int) == 16) && (((K : Int) == 4) && (true))))), (2, .op [])] [] [(40, .bool (((k : Int) == 16) && (((K : Int) == 4) && (true))))] [True, (.bool (((k : Int) == 16) && (((K : Int) == 4) && (true))) : Value) = (.bool (((k : Int) == 16) && (((K : Int) == 4) && (true))) : Value)] (by kernel_rfl) (by kernel_rfl) (by kernel_rfl) ⟨trivial, rfl, trivial⟩ ?_
  clear hE hR; intro a u hE hR
  refine opsNil ?_; refine thenN ?_
  refine condF hE (b := ((k : Int) == 16) && (((K : Int) == 4) && (true))) (by kernel_rfl) (by simp; omega) ?_
  refine wp_skip ?_; refine thenN ?_; refine wp_seq ?_; refine wp_seq ?_
  refine enterR (idx := [0, 1, 2]) (by kernel_rfl) ?_
  refine segV hE hR [(0, .op []), (1, .alt (.bool (((k : Int) == 17) && (((K : Int) == 4) && (true))))), (2, .op [])] [] [(43, .bool (((k : Int) == 17) && (((K : Int) == 4) && (true))))] [True, (.bool (((k : Int) == 17) && (((K : Int) == 4) && (true))) : Value) = (.bool (((k : Int) == 17) && (((K : Int) == 4) && (true))) : Value)] (by kernel_rfl) (by kernel_rfl) (by kernel_rfl) ⟨trivial, rfl, trivial⟩ ?_
  clear hE hR; intro a u hE hR
  refine opsNil ?_; refine thenN ?_
  refine condF hE (b := ((k : Int) == 17) && (((K : Int) == 4) && (true))) (by kernel_rfl) (by simp; omega) ?_
  refine wp_skip ?_; refine thenN ?_; refine wp_seq ?_
  refine enterR (idx := [0, 1, 2]) (by kernel_rfl) ?_
  refine seg0 hE hR [(0, .op []), (1, .alt (.bool (((k : Int) == 9) && (((K : Int) == 4) && (true))))), (2, .op [])] [] [(3, .pointer (some ⟨H0, 0, none⟩)), (5, .pointer (some ⟨H0 + 1, 0, none⟩)), (6, .pointer (some ⟨H0 + 2, 0, none⟩)), (7, .pointer (some ⟨H0 + 3, 0, none⟩)), (8, .bool false), (9, .bool false), (10, .func (.func 74) #[] #[.pointer (some ⟨H0, 0, none⟩)]), (15, .agg #[.int .i64 k, .int .i64 K]), (16, .bool (((k : Int) == 1) && (((K : Int) == 1) && (true)))), (19, .bool (((k : Int) == 2) && (((K : Int) == 1) && (true)))), (22, .bool (((k : Int) == 3) && (((K : Int) == 3) && (true)))), (27, .bool (((k : Int) == 6) && (((K : Int) == 3) && (true)))), (34, .bool (((k : Int) == 7) && (((K : Int) == 4) && (true)))), (37, .bool (((k : Int) == 8) && (((K : Int) == 4) && (true)))), (40, .bool (((k : Int) == 16) && (((K : Int) == 4) && (true)))), (43, .bool (((k : Int) == 17) && (((K : Int) == 4) && (true)))), (46, .bool (((k : Int) == 9) && (((K : Int) == 4) && (true))))] [True, (.bool (((k : Int) == 9) && (((K : Int) == 4) && (true))) : Value) = (.bool (((k : Int) == 9) && (((K : Int) == 4) && (true))) : Value)] (by kernel_rfl) (by kernel_rfl) (by kernel_rfl) ⟨trivial, rfl, trivial⟩ ?_
  clear hE hR; intro a u hE hR
  refine opsNil ?_; refine thenN ?_
  refine condF hE (b := ((k : Int) == 9) && (((K : Int) == 4) && (true))) (by kernel_rfl) (by simp; omega) ?_
  refine wp_skip ?_; refine thenN ?_; refine wp_exit ?_; refine blkX (by kernel_rfl) ?_; refine thenE ?_; refine blkX (by kernel_rfl) ?_; refine thenE ?_; refine blkX (by kernel_rfl) ?_
  refine thenE ?_; refine blkX (by kernel_rfl) ?_; refine thenE ?_; refine blkX (by kernel_rfl) ?_; refine thenE ?_; refine blkX (by kernel_rfl) ?_; refine thenE ?_; refine blkX (by kernel_rfl) ?_
  refine thenE ?_; refine blkX (by kernel_rfl) ?_; refine thenE ?_; refine blkX (by kernel_rfl) ?_; refine thenE ?_; refine blkE ?_; refine thenN ?_; refine wp_seq ?_
  refine enterR (idx := [0, 1, 2, 3, 4, 5]) (by kernel_rfl) ?_
  let kc7 : List Value := [.int .i64 12, .int .u32 0, .int .u32 0, .int .u32 0, .int .u32 0]
  refine segU hE hR [(0, .op (hks 3 0 15)), (1, .op []), (2, .op (hks 1 0 15)), (3, .op (hks 0 0 5)), (4, .op []), (5, .op [])] [] [] [⟨H0 + 3, 0, kc7, 63, true⟩, ⟨H0 + 2, 0, kc6, 116, true⟩, ⟨H0 + 1, 0, kc5, 60, true⟩, ⟨H0, 0, kc6, 116, true⟩] (H1) [] (by kernel_rfl) (by kernel_rfl) (by kernel_rfl) trivial ?_
  clear hE hR; intro a u hE hR
  refine opsNil ?_; refine thenN ?_; refine wp_ret ?_
  refine retF hE hR (hks 1 0 15 ++ hks 0 0 5) (.tuple #[.agg #[.int .i64 o.kind, .int .i64 o.cap, .int .i64 o.width, .int .i64 o.retry, .int .i64 o.src, .int .i64 o.dst, .int .u32 o.i0, .int .u32 o.i1, .int .u32 o.i2, .int .u32 o.i3, .slice A n c, .int .u32 v.a, .int .u32 v.b, .int .u32 v.c, .int .u32 v.d], .agg #[.int .i64 12, .int .u32 0, .int .u32 0, .int .u32 0, .int .u32 0], .bool false, .bool false]) (by kernel_rfl) (by kernel_rfl) (by kernel_rfl) ?_
  exact ⟨rfl, hR.below (by simp)⟩
end Go.Proofs.Ytkfaaeklkplhnaa
