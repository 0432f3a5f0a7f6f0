/- The law's back. Printed by gen_back.py. -/
import Derived.Test.YtkfaaeklkplhnaaSBackP
namespace Go.Proofs.Ytkfaaeklkplhnaa
open Go.RowKit

set_option maxRecDepth 100000 in
theorem back_some (w : World) (g off c : Nat) (L : List IV) (hlen : L.length ≤ 8) (hrl : w.rangeAt g off (L.flatMap itF)) (hrows : ∀ p ∈ L, RowV w p.2 p.1.row) :
    Calls Try.prog 30 #[.slice (some ⟨g, off, none⟩) L.length c] w fun e W' => ∃ s' L', e = .returned s' ∧ ItemsR W' s' L' ∧ itms L' = itms L ∧ Below w.heap.size w W' := by
  refine enterF Try.func30 rfl Try.ntmps30 [(0, .slice (some ⟨g, off, none⟩) L.length c)] (by kernel_rfl) (by kernel_rfl) ?_
  have hR := Rep.start w
  obtain ⟨H0, hH0⟩ : ∃ x, x = w.heap.size := ⟨_, rfl⟩
  rw [← hH0] at hR
  intro a hE
  refine wp_seq ?_
  refine enterR (idx := [0]) (by kernel_rfl) ?_
  refine segV hE hR [(0, .op [])] [] [(2, .slice none 0 0)] [] (by kernel_rfl) (by kernel_rfl) (by kernel_rfl) trivial ?_
  clear hE hR; intro a u hE hR
  refine opsNil ?_; refine thenN ?_; refine wp_seq ?_
  refine enterR (idx := [0]) (by kernel_rfl) ?_
  refine segV hE hR [(0, .op [])] [] [(3, .slice none 0 0)] [] (by kernel_rfl) (by kernel_rfl) (by kernel_rfl) trivial ?_
  clear hE hR; intro a u hE hR
  refine opsNil ?_; refine thenN ?_; refine wp_seq ?_; refine wp_seq ?_
  refine enterR (idx := [0]) (by kernel_rfl) ?_
  refine segV hE hR [(0, .op [])] [] [(4, .int .i64 0)] [] (by kernel_rfl) (by kernel_rfl) (by kernel_rfl) trivial ?_
  clear hE hR; intro a u hE hR
  refine opsNil ?_; refine thenN ?_; refine wp_block ?_
  refine wp_loop (fun a u => ∃ (k : Nat) (v : Value) (ob : List KB), k ≤ L.length ∧ OwnS 15 118 v k ((L.take k).flatMap itF) ob ∧ TE a 19 [(0, .slice (some ⟨g, off, none⟩) L.length c), (2, .slice none 0 0), (3, v), (4, .int .i64 ((k : Nat) : Int))] ∧ ∃ H, Rep [(w, fun _ => True)] u H (ob) []) (fun a _ => L.length - (intOf (a.tmps.getD 4 undef)).toNat) ?_ ?_
  · exact ⟨0, .slice none 0 0, [], Nat.zero_le _, OwnS.nil _ _, hE.sub (by kernel_rfl), _, hR⟩
  clear hE hR
  rintro a u ⟨k, v, ob, hkl, hO, hE, H1, hR⟩
  have hm1 : L.length - (intOf (a.tmps.getD 4 undef)).toNat = L.length - k := by rw [hE.get 4 _ rfl]; rfl
  refine wp_seq ?_; refine wp_seq ?_
  refine enterR (idx := [0, 1, 2, 3]) (by kernel_rfl) ?_
  let kv1 : Value := .bool (decide (((k : Nat) : Int) < ((L.length : Nat) : Int)))
  refine segV hE hR [(0, .op []), (1, .op []), (2, .op []), (3, .op [])] [] [(5, .int .i64 ((k : Nat) : Int)), (6, .slice (some ⟨g, off, none⟩) L.length c), (7, .int .i64 ((L.length : Nat) : Int)), (8, kv1)] [] (by kernel_rfl) (by kernel_rfl) (by kernel_rfl) trivial ?_
  clear hE hR; intro a u hE hR
  refine opsNil ?_; refine thenN ?_
  rcases Bool.eq_false_or_eq_true (decide (((k : Nat) : Int) < ((L.length : Nat) : Int))) with hc2 | hc2
  · refine condT hE (b := decide (((k : Nat) : Int) < ((L.length : Nat) : Int))) (by kernel_rfl) hc2 ?_
    have hk : k < L.length := by have := of_decide_eq_true hc2; omega
    have hro := flat_range itF_len hrl hk
    have hrw := hrows _ (List.getElem_mem hk)
    obtain ⟨⟨x, rv⟩, hp⟩ : ∃ p, p = L[k] := ⟨_, rfl⟩
    rw [← hp] at hro hrw
    simp only at hrw
    have hrw2 := hrw
    obtain ⟨Ar, cr, rfl, _⟩ := hrw2
    unfold itF at hro
    rw [itC_eq] at hro
    simp only at hro
    let kc2 : List Value := [.int .i64 x.o.kind, .int .i64 x.o.cap, .int .i64 x.o.width, .int .i64 x.o.retry, .int .i64 x.o.src, .int .i64 x.o.dst, .int .u32 x.o.i0, .int .u32 x.o.i1, .int .u32 x.o.i2, .int .u32 x.o.i3, .slice Ar x.row.length cr, .int .u32 x.v.a, .int .u32 x.v.b, .int .u32 x.v.c, .int .u32 x.v.d]
    replace hR : Rep [(w, fun _ => True)] u H1 (ob) [⟨g, off + k * 15, kc2⟩] := hR.addR (f := (w, fun _ => True)) (by simp) ⟨g, off + k * 15, _⟩ (range_lt hro) trivial hro
    refine wp_skip ?_; refine thenN ?_; refine wp_seq ?_; refine wp_block ?_
    refine enterR (idx := [0, 1, 2, 3, 4, 5, 6, 7]) (by kernel_rfl) ?_
    let kv3 : Value := .agg #[.int .i64 x.o.kind, .int .i64 x.o.cap, .int .i64 x.o.width, .int .i64 x.o.retry, .int .i64 x.o.src, .int .i64 x.o.dst, .int .u32 x.o.i0, .int .u32 x.o.i1, .int .u32 x.o.i2, .int .u32 x.o.i3, .slice Ar x.row.length cr, .int .u32 x.v.a, .int .u32 x.v.b, .int .u32 x.v.c, .int .u32 x.v.d]
    refine segU hE hR [(0, .op []), (1, .op []), (2, .op []), (3, .alt (.pointer (some ⟨g, off + k * 15, none⟩))), (4, .op [.r 0 0, .r 0 1, .r 0 2, .r 0 3, .r 0 4, .r 0 5, .r 0 6, .r 0 7, .r 0 8, .r 0 9, .r 0 10, .r 0 11, .r 0 12, .r 0 13, .r 0 14]), (5, .op [])] [6, 7] [(11, v), (12, .slice (some ⟨g, off, none⟩) L.length c), (13, .int .i64 ((k : Nat) : Int)), (14, .pointer (some ⟨g, off + k * 15, none⟩)), (15, kv3), (16, .slice (some ⟨H1, 0, none⟩) 1 1)] (⟨H1, 0, kc2, 118, true⟩ :: ob) (H1 + 1) [(0 ≤ (((k : Nat) : Int) : Int) ∧ (((k : Nat) : Int) : Int) < ((L.length : Nat) : Int)) ∧ (Try.prog.info? 116).isSome = true, (.pointer (some ⟨g, off + (((k : Nat) : Int)).toNat * Try.prog.cellsOf 116, none⟩) : Value) = (.pointer (some ⟨g, off + k * 15, none⟩) : Value)] (by kernel_rfl) (by kernel_rfl) (by kernel_rfl) ⟨⟨⟨by omega, by omega⟩, by kernel_rfl⟩, by kernel_rfl, trivial⟩ ?_
    clear hE hR; intro a u hE hR
    refine opsCons ?_
    refine app hE 15 118 104 (kn := [⟨H1, 0, kc2, 118, true⟩]) hR hO (.k 0 0) kc2 H1 0 1 1 [] rfl rfl trivial Try.underlying66 (by kernel_rfl) (by decide) (by kernel_rfl) (by kernel_rfl) (by kernel_rfl) (by kernel_rfl) (rfl) (by kernel_rfl) (by decide) (by unfold maxLen; omega) (by omega) ?_
    clear hE hR
    intro a u v903 ob3 H3 hH3 hE hO3 hR
    refine segV hE hR [(7, .op [])] [] [(3, v903)] [] (by kernel_rfl) (by kernel_rfl) (by kernel_rfl) trivial ?_
    clear hE hR; intro a u hE hR
    refine opsNil ?_; refine blkN ?_; refine thenN ?_
    refine enterR (idx := [0, 1, 2]) (by kernel_rfl) ?_
    refine segV hE hR [(0, .op []), (1, .as [] (.int .i64 ((k + 1 : Nat) : Int))), (2, .op [])] [] [(4, .int .i64 ((k + 1 : Nat) : Int)), (9, .int .i64 ((k : Nat) : Int)), (10, .int .i64 ((k + 1 : Nat) : Int))] [(.int .i64 (IntKind.i64.wrap (((k : Nat) : Int) + 1)) : Value) = (.int .i64 ((k + 1 : Nat) : Int) : Value)] (by kernel_rfl) (by kernel_rfl) (by kernel_rfl) ⟨congrArg (Value.int IntKind.i64) ((wrap_i64 ⟨by omega, by omega⟩).trans (by omega)), trivial⟩ ?_
    clear hE hR; intro a u hE hR
    refine opsNil ?_; refine thenN ?_
    exact ⟨⟨k + 1, v903, ob3, by omega, back_next hk hp hO3 (by unfold itF; exact (itC_eq _ _).symm), hE.sub (by kernel_rfl), _, ((hR.sub (List.Sublist.cons _ (List.Sublist.refl _))).dropR (List.Sublist.cons _ (List.Sublist.refl _)))⟩, meas (k' := k + 1) (hE.get 4 _ (by kernel_rfl)) hm1 (by omega)⟩
  · refine condF hE (b := decide (((k : Nat) : Int) < ((L.length : Nat) : Int))) (by kernel_rfl) hc2 ?_
    have hkl2 : k = L.length := by have := of_decide_eq_false hc2; omega
    refine wp_exit ?_; refine thenE ?_; refine thenE ?_; refine blkE ?_; refine thenN ?_; refine wp_seq ?_
    refine enterR (idx := [0, 1]) (by kernel_rfl) ?_
    refine seg0 hE hR [(0, .op []), (1, .op [])] [] [(0, .slice (some ⟨g, off, none⟩) L.length c), (2, v), (3, v), (4, .int .i64 ((k : Nat) : Int)), (5, .int .i64 ((k : Nat) : Int)), (6, .slice (some ⟨g, off, none⟩) L.length c), (7, .int .i64 ((L.length : Nat) : Int)), (8, kv1)] [] (by kernel_rfl) (by kernel_rfl) (by kernel_rfl) trivial ?_
    clear hE hR; intro a u hE hR
    refine opsNil ?_; refine thenN ?_; refine wp_ret ?_
    refine retF hE hR [] (v) (by kernel_rfl) (by kernel_rfl) (by kernel_rfl) ?_
    have hO2 := hO
    rw [hkl2, List.take_length] at hO2
    exact ⟨v, L, rfl, ItemsR.of_own (kn := []) (E := 118) hO2 rfl (hR.dropR (List.nil_sublist _)) (fun p hp => (hrows p hp).below (hR.below (by simp))), rfl, hR.below (by simp)⟩
set_option maxRecDepth 100000 in
theorem back_none (w : World) (A : Option Addr) (c : Nat) :
    Calls Try.prog 30 #[.slice A 0 c] w fun e W' => ∃ s' L', e = .returned s' ∧ ItemsR W' s' L' ∧ itms L' = [] ∧ Below w.heap.size w W' := by
  refine enterF Try.func30 rfl Try.ntmps30 [(0, .slice A 0 c)] (by kernel_rfl) (by kernel_rfl) ?_
  have hR := Rep.start w
  obtain ⟨H0, hH0⟩ : ∃ x, x = w.heap.size := ⟨_, rfl⟩
  rw [← hH0] at hR
  intro a hE
  refine wp_seq ?_
  refine enterR (idx := [0]) (by kernel_rfl) ?_
  refine segV hE hR [(0, .op [])] [] [(2, .slice none 0 0)] [] (by kernel_rfl) (by kernel_rfl) (by kernel_rfl) trivial ?_
  clear hE hR; intro a u hE hR
  refine opsNil ?_; refine thenN ?_; refine wp_seq ?_
  refine enterR (idx := [0]) (by kernel_rfl) ?_
  refine segV hE hR [(0, .op [])] [] [(3, .slice none 0 0)] [] (by kernel_rfl) (by kernel_rfl) (by kernel_rfl) trivial ?_
  clear hE hR; intro a u hE hR
  refine opsNil ?_; refine thenN ?_; refine wp_seq ?_; refine wp_seq ?_
  refine enterR (idx := [0]) (by kernel_rfl) ?_
  refine segV hE hR [(0, .op [])] [] [(4, .int .i64 0)] [] (by kernel_rfl) (by kernel_rfl) (by kernel_rfl) trivial ?_
  clear hE hR; intro a u hE hR
  refine opsNil ?_; refine thenN ?_; refine wp_block ?_
  refine wp_loop_rounds 1 ?_
  rw [rounds_succ]
  refine wp_seq ?_; refine wp_seq ?_
  refine enterR (idx := [0, 1, 2, 3]) (by kernel_rfl) ?_
  refine segV hE hR [(0, .op []), (1, .op []), (2, .op []), (3, .op [])] [] [(5, .int .i64 0), (6, .slice A 0 c), (7, .int .i64 0), (8, .bool false)] [] (by kernel_rfl) (by kernel_rfl) (by kernel_rfl) trivial ?_
  clear hE hR; intro a u hE hR
  refine opsNil ?_; refine thenN ?_
  refine condF hE (b := false) (by kernel_rfl) rfl ?_
  refine wp_exit ?_; refine thenE ?_; refine thenE ?_; refine blkE ?_; refine thenN ?_; refine wp_seq ?_
  refine enterR (idx := [0, 1]) (by kernel_rfl) ?_
  refine segV hE hR [(0, .op []), (1, .op [])] [] [] [] (by kernel_rfl) (by kernel_rfl) (by kernel_rfl) trivial ?_
  clear hE hR; intro a u hE hR
  refine opsNil ?_; refine thenN ?_; refine wp_ret ?_
  refine retF hE hR [] (.slice none 0 0) (by kernel_rfl) (by kernel_rfl) (by kernel_rfl) ?_
  exact ⟨_, [], rfl, ItemsR.nil _, rfl, hR.below (by simp)⟩
end Go.Proofs.Ytkfaaeklkplhnaa
