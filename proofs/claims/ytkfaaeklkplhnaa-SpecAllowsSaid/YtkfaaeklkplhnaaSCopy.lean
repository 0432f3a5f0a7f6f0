/- The document's Copy. Printed by gen_copy.py. -/
import Derived.Test.YtkfaaeklkplhnaaSCopyP
namespace Go.Proofs.Ytkfaaeklkplhnaa
open Go.RowKit

set_option maxRecDepth 100000 in
theorem copy_calls (w : World) (g off c : Nat) (L : List IV) (hlen : L.length ≤ 8) (hrl : w.rangeAt g off (L.flatMap itF)) (hrows : ∀ p ∈ L, RowV w p.2 p.1.row) (hfew : ∀ p ∈ L, p.1.row.length ≤ 64) :
    Calls Try.prog 52 #[.slice (some ⟨g, off, none⟩) L.length c] w fun e W' => ∃ v L2 rs ob, e = .returned v ∧ itms L2 = itms L ∧ OwnS 15 118 v L.length (L2.flatMap itF) ob ∧ RowKs L2 rs ∧ ∃ H, Rep [(w, fun _ => True)] W' H (rs ++ ob) [] := by
  refine enterF Try.func52 rfl Try.ntmps52 [(0, .slice (some ⟨g, off, none⟩) L.length c)] (by kernel_rfl) (by kernel_rfl) ?_
  have hR := Rep.start w
  obtain ⟨H0, hH0⟩ : ∃ x, x = w.heap.size := ⟨_, rfl⟩
  rw [← hH0] at hR
  intro a hE
  refine wp_seq ?_
  refine enterR (idx := [0]) (by kernel_rfl) ?_
  refine segV hE hR [(0, .op [])] [] [(2, .slice none 0 0)] [] (by kernel_rfl) (by kernel_rfl) (by kernel_rfl) trivial ?_
  clear hE hR; intro a u hE hR
  refine opsNil ?_; refine thenN ?_; refine wp_seq ?_
  refine enterR (idx := [0]) (by kernel_rfl) ?_
  refine segV hE hR [(0, .op [])] [] [(3, .slice none 0 0)] [] (by kernel_rfl) (by kernel_rfl) (by kernel_rfl) trivial ?_
  clear hE hR; intro a u hE hR
  refine opsNil ?_; refine thenN ?_; refine wp_seq ?_; refine wp_seq ?_
  refine enterR (idx := [0]) (by kernel_rfl) ?_
  refine segV hE hR [(0, .op [])] [] [(4, .int .i64 0)] [] (by kernel_rfl) (by kernel_rfl) (by kernel_rfl) trivial ?_
  clear hE hR; intro a u hE hR
  refine opsNil ?_; refine thenN ?_; refine wp_block ?_
  refine wp_loop (fun a u => ∃ (k : Nat) (v : Value) (L2 : List IV) (rs : List KB) (ob : List KB), k ≤ L.length ∧ OwnS 15 118 v k (L2.flatMap itF) ob ∧ RowKs L2 rs ∧ itms L2 = (itms L).take k ∧ TE a 33 [(0, .slice (some ⟨g, off, none⟩) L.length c), (2, .slice none 0 0), (3, v), (4, .int .i64 ((k : Nat) : Int))] ∧ ∃ H, Rep [(w, fun _ => True)] u H ((rs ++ ob)) []) (fun a _ => L.length - (intOf (a.tmps.getD 4 undef)).toNat) ?_ ?_
  · exact ⟨0, .slice none 0 0, [], [], [], Nat.zero_le _, OwnS.nil _ _, RowKs.nil, rfl, hE.sub (by kernel_rfl), _, hR⟩
  clear hE hR
  rintro a u ⟨k, v, L2, rs, ob, hkl, hO, hks, hit, hE, H1, hR⟩
  have hm1 : L.length - (intOf (a.tmps.getD 4 undef)).toNat = L.length - k := by rw [hE.get 4 _ rfl]; rfl
  refine wp_seq ?_; refine wp_seq ?_
  refine enterR (idx := [0, 1, 2, 3]) (by kernel_rfl) ?_
  let kv1 : Value := .bool (decide (((k : Nat) : Int) < ((L.length : Nat) : Int)))
  refine segV hE hR [(0, .op []), (1, .op []), (2, .op []), (3, .op [])] [] [(5, .int .i64 ((k : Nat) : Int)), (6, .slice (some ⟨g, off, none⟩) L.length c), (7, .int .i64 ((L.length : Nat) : Int)), (8, kv1)] [] (by kernel_rfl) (by kernel_rfl) (by kernel_rfl) trivial ?_
  clear hE hR; intro a u hE hR
  refine opsNil ?_; refine thenN ?_
  rcases Bool.eq_false_or_eq_true (decide (((k : Nat) : Int) < ((L.length : Nat) : Int))) with hc2 | hc2
  · refine condT hE (b := decide (((k : Nat) : Int) < ((L.length : Nat) : Int))) (by kernel_rfl) hc2 ?_
    have hk : k < L.length := by have := of_decide_eq_true hc2; omega
    have hro := flat_range itF_len hrl hk
    have hrw := hrows _ (List.getElem_mem hk)
    have hfw := hfew _ (List.getElem_mem hk)
    obtain ⟨⟨x, rv⟩, hp⟩ : ∃ p, p = L[k] := ⟨_, rfl⟩
    rw [← hp] at hro hrw hfw
    simp only at hrw hfw
    have hrw2 := hrw
    obtain ⟨Ar, cr, rfl, _⟩ := hrw2
    have hnw := hrw.news
    unfold itF at hro
    rw [itC_eq] at hro
    simp only at hro
    let kc2 : List Value := [.int .i64 x.o.kind, .int .i64 x.o.cap, .int .i64 x.o.width, .int .i64 x.o.retry, .int .i64 x.o.src, .int .i64 x.o.dst, .int .u32 x.o.i0, .int .u32 x.o.i1, .int .u32 x.o.i2, .int .u32 x.o.i3, .slice Ar x.row.length cr, .int .u32 x.v.a, .int .u32 x.v.b, .int .u32 x.v.c, .int .u32 x.v.d]
    replace hR : Rep [(w, fun _ => True)] u H1 ((rs ++ ob)) [⟨g, off + k * 15, kc2⟩] := hR.addR (f := (w, fun _ => True)) (by simp) ⟨g, off + k * 15, _⟩ (range_lt hro) trivial hro
    refine wp_skip ?_; refine thenN ?_; refine wp_seq ?_; refine wp_block ?_
    refine enterD (kl := []) (by kernel_rfl) hR (F := 22) (listed := #[false, false, false, false, false, false, false, false, false, false, false, false, false, false, false, false, false, false, false, false, false, false]) (by kernel_rfl) (by kernel_rfl) ?_
    clear hR
    intro u hR
    let kv3 : Value := .agg #[.int .i64 x.o.kind, .int .i64 x.o.cap, .int .i64 x.o.width, .int .i64 x.o.retry, .int .i64 x.o.src, .int .i64 x.o.dst, .int .u32 x.o.i0, .int .u32 x.o.i1, .int .u32 x.o.i2, .int .u32 x.o.i3]
    let kv4 : Value := .agg #[.int .u32 x.v.a, .int .u32 x.v.b, .int .u32 x.v.c, .int .u32 x.v.d]
    refine takesU (by kernel_rfl) (pqB (pqT (pqT (pqB (pqT pqF))))) hE (hR.ss [] (by kernel_rfl)) [(0, .op []), (1, .op []), (2, .op []), (3, .alt (.pointer (some ⟨g, off + k * 15, none⟩))), (4, .op []), (5, .op [.r 0 0, .r 0 1, .r 0 2, .r 0 3, .r 0 4, .r 0 5, .r 0 6, .r 0 7, .r 0 8, .r 0 9]), (7, .op []), (8, .op []), (9, .alt (.pointer (some ⟨g, off + k * 15, none⟩))), (10, .op []), (11, .op [.r 0 10]), (13, .op []), (14, .op []), (15, .alt (.pointer (some ⟨g, off + k * 15, none⟩))), (16, .op []), (17, .op [.r 0 11, .r 0 12, .r 0 13, .r 0 14])] 6 [(11, v), (12, .slice (some ⟨g, off, none⟩) L.length c), (13, .int .i64 ((k : Nat) : Int)), (14, .pointer (some ⟨g, off + k * 15, none⟩)), (15, .pointer (some ⟨g, off + k * 15, none⟩)), (16, kv3), (18, .slice (some ⟨g, off, none⟩) L.length c), (19, .int .i64 ((k : Nat) : Int)), (20, .pointer (some ⟨g, off + k * 15, none⟩)), (21, .pointer (some ⟨g, off + k * 15 + 10, none⟩)), (22, .slice Ar x.row.length cr), (24, .slice (some ⟨g, off, none⟩) L.length c), (25, .int .i64 ((k : Nat) : Int)), (26, .pointer (some ⟨g, off + k * 15, none⟩)), (27, .pointer (some ⟨g, off + k * 15 + 11, none⟩)), (28, kv4)] #[true, true, true, true, true, true, false, true, true, true, true, true, false, true, true, true, true, true, false, false, false, false] [(0 ≤ (((k : Nat) : Int) : Int) ∧ (((k : Nat) : Int) : Int) < ((L.length : Nat) : Int)) ∧ (Try.prog.info? 118).isSome = true, (.pointer (some ⟨g, off + (((k : Nat) : Int)).toNat * Try.prog.cellsOf 118, none⟩) : Value) = (.pointer (some ⟨g, off + k * 15, none⟩) : Value), (0 ≤ (((k : Nat) : Int) : Int) ∧ (((k : Nat) : Int) : Int) < ((L.length : Nat) : Int)) ∧ (Try.prog.info? 118).isSome = true, (.pointer (some ⟨g, off + (((k : Nat) : Int)).toNat * Try.prog.cellsOf 118, none⟩) : Value) = (.pointer (some ⟨g, off + k * 15, none⟩) : Value), (0 ≤ (((k : Nat) : Int) : Int) ∧ (((k : Nat) : Int) : Int) < ((L.length : Nat) : Int)) ∧ (Try.prog.info? 118).isSome = true, (.pointer (some ⟨g, off + (((k : Nat) : Int)).toNat * Try.prog.cellsOf 118, none⟩) : Value) = (.pointer (some ⟨g, off + k * 15, none⟩) : Value)] (by kernel_rfl) (by kernel_rfl) (by kernel_rfl) ⟨⟨⟨by omega, by omega⟩, by kernel_rfl⟩, by kernel_rfl, ⟨⟨by omega, by omega⟩, by kernel_rfl⟩, by kernel_rfl, ⟨⟨by omega, by omega⟩, by kernel_rfl⟩, by kernel_rfl, trivial⟩ ?_
    clear hE; intro a hE
    refine wpAnyH_all (rs := [6]) (by kernel_rfl) (by simp) (allCons ?_ allNil)
    refine oneU hE hR (.op []) [(17, .slice (some ⟨H1, 0, none⟩) 0 0)] (⟨H1, 0, [], 58, true⟩ :: (rs ++ ob)) (H1 + 1) [] (by kernel_rfl) (by kernel_rfl) trivial ?_
    clear hE hR; intro a u hE hR
    refine ⟨(hR.ss [] (by kernel_rfl)), ?_⟩
    show wpAnyH _ _ _ _ _ _ #[true, true, true, true, true, true, true, true, true, true, true, true, false, true, true, true, true, true, false, false, false, false] _ _
    refine wpAnyH_all (rs := [12]) (by kernel_rfl) (by simp) (allCons ?_ allNil)
    refine appC hE 4 58 16 (Hb := H1) hR Ar x.row.length cr (flatV x.row) (fun ad h j z hz => hR.old (f := (w, fun _ => True)) (by simp) trivial (hnw.1 ad h j z hz)) (hnw.2) [] rfl rfl trivial Try.underlying114 (by kernel_rfl) (by decide) (by kernel_rfl) (by kernel_rfl) (by kernel_rfl) (flatV_length _) (by unfold maxLen; omega) (by omega) ?_
    clear hE hR
    intro a u g3 cap3 rest3 hcp3 hcm3 hln3 hE H3 hH3 hR
    refine ⟨(hR.ss [] (by kernel_rfl)), ?_⟩
    show wpAnyH _ _ _ _ _ _ #[true, true, true, true, true, true, true, true, true, true, true, true, true, true, true, true, true, true, false, false, false, false] _ _
    let kv5 : Value := .agg #[.int .i64 x.o.kind, .int .i64 x.o.cap, .int .i64 x.o.width, .int .i64 x.o.retry, .int .i64 x.o.src, .int .i64 x.o.dst, .int .u32 x.o.i0, .int .u32 x.o.i1, .int .u32 x.o.i2, .int .u32 x.o.i3, .slice (some ⟨g3, 0, none⟩) x.row.length cap3, .int .u32 x.v.a, .int .u32 x.v.b, .int .u32 x.v.c, .int .u32 x.v.d]
    refine takesU (by kernel_rfl) (pqB (pqT (pqT (pqB (pqT pqF))))) hE (hR.ss [] (by kernel_rfl)) [(18, .op [])] 3 [(29, kv5)] #[true, true, true, true, true, true, true, true, true, true, true, true, true, true, true, true, true, true, true, false, false, false] [] (by kernel_rfl) (by kernel_rfl) (by kernel_rfl) trivial ?_
    clear hE; intro a hE
    refine wpAnyH_all (rs := [19]) (by kernel_rfl) (by simp) (allCons ?_ allNil)
    let kc6 : List Value := [.int .i64 x.o.kind, .int .i64 x.o.cap, .int .i64 x.o.width, .int .i64 x.o.retry, .int .i64 x.o.src, .int .i64 x.o.dst, .int .u32 x.o.i0, .int .u32 x.o.i1, .int .u32 x.o.i2, .int .u32 x.o.i3, .slice (some ⟨g3, 0, none⟩) x.row.length cap3, .int .u32 x.v.a, .int .u32 x.v.b, .int .u32 x.v.c, .int .u32 x.v.d]
    refine one hE hR (.op []) [(0, .slice (some ⟨g, off, none⟩) L.length c), (2, .slice none 0 0), (3, v), (4, .int .i64 ((k : Nat) : Int)), (5, .int .i64 ((k : Nat) : Int)), (6, .slice (some ⟨g, off, none⟩) L.length c), (7, .int .i64 ((L.length : Nat) : Int)), (8, kv1), (11, v), (12, .slice (some ⟨g, off, none⟩) L.length c), (13, .int .i64 ((k : Nat) : Int)), (14, .pointer (some ⟨g, off + k * 15, none⟩)), (15, .pointer (some ⟨g, off + k * 15, none⟩)), (16, kv3), (18, .slice (some ⟨g, off, none⟩) L.length c), (19, .int .i64 ((k : Nat) : Int)), (20, .pointer (some ⟨g, off + k * 15, none⟩)), (21, .pointer (some ⟨g, off + k * 15 + 10, none⟩)), (22, .slice Ar x.row.length cr), (24, .slice (some ⟨g, off, none⟩) L.length c), (25, .int .i64 ((k : Nat) : Int)), (26, .pointer (some ⟨g, off + k * 15, none⟩)), (27, .pointer (some ⟨g, off + k * 15 + 11, none⟩)), (28, kv4), (17, .slice (some ⟨H1, 0, none⟩) 0 0), (23, .slice (some ⟨g3, 0, none⟩) x.row.length cap3), (29, kv5), (30, .slice (some ⟨H3, 0, none⟩) 1 1)] (⟨H3, 0, kc6, 118, true⟩ :: ⟨g3, 0, ((flatV x.row) ++ rest3), 58, true⟩ :: (rs ++ ob)) (H3 + 1) [] (by kernel_rfl) (by kernel_rfl) trivial ?_
    clear hE hR; intro a u hE hR
    refine ⟨(hR.ss [] (by kernel_rfl)), ?_⟩
    show wpAnyH _ _ _ _ _ _ #[true, true, true, true, true, true, true, true, true, true, true, true, true, true, true, true, true, true, true, true, false, false] _ _
    refine wpAnyH_all (rs := [20]) (by kernel_rfl) (by simp) (allCons ?_ allNil)
    refine app hE 15 118 104 (kn := (⟨H3, 0, kc6, 118, true⟩ :: ⟨g3, 0, ((flatV x.row) ++ rest3), 58, true⟩ :: rs)) hR hO (.k 0 0) kc6 H3 0 1 1 [] rfl rfl trivial Try.underlying66 (by kernel_rfl) (by decide) (by kernel_rfl) (by kernel_rfl) (by kernel_rfl) (by kernel_rfl) (rfl) (by kernel_rfl) (by decide) (by unfold maxLen; omega) (by omega) ?_
    clear hE hR
    intro a u v904 ob4 H4 hH4 hE hO4 hR
    refine ⟨(hR.ss [] (by kernel_rfl)), ?_⟩
    show wpAnyH _ _ _ _ _ _ #[true, true, true, true, true, true, true, true, true, true, true, true, true, true, true, true, true, true, true, true, true, false] _ _
    refine takesU (by kernel_rfl) (pqB (pqT (pqT (pqB (pqT pqF))))) hE (hR.ss [] (by kernel_rfl)) [(21, .op [])] 0 [(3, v904)] #[true, true, true, true, true, true, true, true, true, true, true, true, true, true, true, true, true, true, true, true, true, true] [] (by kernel_rfl) (by kernel_rfl) (by kernel_rfl) trivial ?_
    clear hE; intro a hE
    refine wpAnyH_done (by kernel_rfl) ?_ _
    refine blkN ?_; refine thenN ?_
    refine enterR (idx := [0, 1, 2]) (by kernel_rfl) ?_
    refine segV hE hR [(0, .op []), (1, .as [] (.int .i64 ((k + 1 : Nat) : Int))), (2, .op [])] [] [(4, .int .i64 ((k + 1 : Nat) : Int)), (9, .int .i64 ((k : Nat) : Int)), (10, .int .i64 ((k + 1 : Nat) : Int))] [(.int .i64 (IntKind.i64.wrap (((k : Nat) : Int) + 1)) : Value) = (.int .i64 ((k + 1 : Nat) : Int) : Value)] (by kernel_rfl) (by kernel_rfl) (by kernel_rfl) ⟨congrArg (Value.int IntKind.i64) ((wrap_i64 ⟨by omega, by omega⟩).trans (by omega)), trivial⟩ ?_
    clear hE hR; intro a u hE hR
    refine opsNil ?_; refine thenN ?_
    exact ⟨⟨k + 1, v904, L2 ++ [(x, .slice (some ⟨g3, 0, none⟩) x.row.length cap3)], rs ++ [⟨g3, 0, flatV x.row ++ rest3, 58, true⟩], ob4, by omega, copy_own hO4 (by unfold itF; exact (itC_eq _ _).symm), hks.snoc ⟨_, _, rfl, rfl, hcp3, hcm3, hln3⟩, itms_next hk hp hit, hE.sub (by kernel_rfl), _, ((hR.sub (List.Sublist.cons _ (List.Sublist.cons_cons _ (List.Sublist.refl _)))).toEnd.dropR (List.Sublist.cons _ (List.Sublist.refl _)))⟩, meas (k' := k + 1) (hE.get 4 _ (by kernel_rfl)) hm1 (by omega)⟩
  · refine condF hE (b := decide (((k : Nat) : Int) < ((L.length : Nat) : Int))) (by kernel_rfl) hc2 ?_
    have hkl2 : k = L.length := by have := of_decide_eq_false hc2; omega
    subst hkl2
    refine wp_exit ?_; refine thenE ?_; refine thenE ?_; refine blkE ?_; refine thenN ?_; refine wp_seq ?_
    refine enterR (idx := [0, 1]) (by kernel_rfl) ?_
    refine segV hE hR [(0, .op []), (1, .op [])] [] [(2, v)] [] (by kernel_rfl) (by kernel_rfl) (by kernel_rfl) trivial ?_
    clear hE hR; intro a u hE hR
    refine opsNil ?_; refine thenN ?_; refine wp_ret ?_
    refine retF hE hR [] (v) (by kernel_rfl) (by kernel_rfl) (by kernel_rfl) ?_
    exact ⟨v, L2, rs, ob, rfl, by rw [hit, List.take_of_length_le (by simp)], hO, hks, u.heap.size, (hR.size.symm ▸ hR).dropR (List.nil_sublist _)⟩
end Go.Proofs.Ytkfaaeklkplhnaa
