/- spec.Start and the document's. Printed by gen_start.py. -/
import Derived.Test.YtkfaaeklkplhnaaSStartP
namespace Go.Proofs.Ytkfaaeklkplhnaa
open Go.RowKit

theorem startV_w {o : Ob} (h : kindP o = 2 ∨ kindP o = 3) : startV o = clipP o.init o.width := by unfold startV; rw [if_pos h]
theorem startV_f {o : Ob} (h : kindP o = 4) : startV o = ⟨o.i0, 0, 0, 0⟩ := by unfold startV; rw [if_neg (by omega), if_pos h]
theorem startV_z {o : Ob} (h2 : kindP o ≠ 2) (h3 : kindP o ≠ 3) (h4 : kindP o ≠ 4) : startV o = Vl.z := by unfold startV; rw [if_neg (by omega), if_neg h4]
theorem kindP_right {o : Ob} (h : rightP o = true) : kindP o = o.kind := by unfold kindP; rw [if_pos h]
theorem right_kinds {o : Ob} (h : rightP o = true) : o.kind = 1 ∨ o.kind = 4 ∨ o.kind = 2 ∨ o.kind = 3 := by
  unfold rightP at h
  by_cases h1 : o.kind = 1
  · exact .inl h1
  rw [if_neg h1] at h
  by_cases h4 : o.kind = 4
  · exact .inr (.inl h4)
  rw [if_neg h4] at h
  by_cases h2 : o.kind = 2
  · exact .inr (.inr (.inl h2))
  rw [if_neg h2] at h
  by_cases h3 : o.kind = 3
  · exact .inr (.inr (.inr h3))
  rw [if_neg h3] at h
  cases h
theorem right_flags {o : Ob} (h : rightP o = true) (hk : o.kind = 4) : o.width = 0 := by
  unfold rightP at h
  rw [if_neg (by omega), if_pos hk] at h
  simp only [Bool.and_eq_true, beq_iff_eq] at h
  exact h.1
theorem ref_wide {o : Ob} (h : rightP o = true) (hk : ((o.kind : Int) != 1) = true) : o.width ≤ 4 := by
  have hk' := bne_iff_ne.1 hk
  rcases right_kinds h with h1 | h1 | h1 | h1
  · exact absurd h1 hk'
  · rw [right_flags h h1]; omega
  · exact (kindP_wide (.inr (.inl ((kindP_right h).trans h1)))).2.1
  · exact (kindP_wide (.inr (.inr ((kindP_right h).trans h1)))).2.1
theorem startR_no {o : Ob} (h : rightP o = false) : startV o = Vl.z := by
  have hk : kindP o = 0 := by unfold kindP; rw [if_neg (by simp [h])]
  exact startV_z (by omega) (by omega) (by omega)
theorem startR_ring {o : Ob} (h : rightP o = true) (hk : o.kind = 1) : startV o = Vl.z := by
  have := kindP_right h
  exact startV_z (by omega) (by omega) (by omega)
theorem startR_yes {o : Ob} (h : rightP o = true) (hk : o.kind ≠ 1) : startV o = clipP o.init (if (o.width : Int) < (1 : Int) then (1 : Int) else o.width) := by
  have hp := kindP_right h
  rcases right_kinds h with h1 | h1 | h1 | h1
  · exact absurd h1 hk
  · have hw := right_flags h h1
    rw [startV_f (hp.trans h1), hw]
    rfl
  · have hw := kindP_wide (.inr (.inl (hp.trans h1)))
    rw [startV_w (.inl (hp.trans h1)), if_neg (by omega)]
  · have hw := kindP_wide (.inr (.inr (hp.trans h1)))
    rw [startV_w (.inr (hp.trans h1)), if_neg (by omega)]

set_option maxRecDepth 100000 in
theorem start_calls (w : World) (g off c : Nat) (l : List Ob) (hlen : l.length ≤ 8) (hrl : w.rangeAt g off (l.flatMap obF)) :
    Calls Try.prog 23 #[.slice (some ⟨g, off, none⟩) l.length c] w fun e W' => ∃ s L, e = .returned s ∧ ItemsR W' s L ∧ itms L = l.map startP ∧ Below w.heap.size w W' := by
  refine enterF Try.func23 rfl Try.ntmps23 [(0, .slice (some ⟨g, off, none⟩) l.length c)] (by kernel_rfl) (by kernel_rfl) ?_
  have hR := Rep.start w
  obtain ⟨H0, hH0⟩ : ∃ x, x = w.heap.size := ⟨_, rfl⟩
  rw [← hH0] at hR
  intro a hE
  refine wp_seq ?_
  refine enterR (idx := [0]) (by kernel_rfl) ?_
  refine segV hE hR [(0, .op [])] [] [(2, .slice none 0 0)] [] (by kernel_rfl) (by kernel_rfl) (by kernel_rfl) trivial ?_
  clear hE hR; intro a u hE hR
  refine opsNil ?_; refine thenN ?_; refine wp_seq ?_; refine wp_seq ?_
  refine enterR (idx := [0, 1, 2]) (by kernel_rfl) ?_
  refine segV hE hR [(0, .op []), (1, .op []), (2, .op [])] [] [(6, .slice (some ⟨g, off, none⟩) l.length c), (7, .int .i64 ((l.length : Nat) : Int)), (8, .int .i64 0)] [] (by kernel_rfl) (by kernel_rfl) (by kernel_rfl) trivial ?_
  clear hE hR; intro a u hE hR
  refine opsNil ?_; refine thenN ?_; refine wp_block ?_
  refine wp_loop (fun a u => ∃ (k : Nat) (v : Value) (ob : List KB), k ≤ l.length ∧ OwnS 15 116 v k (((l.take k).map startI).flatMap itF) ob ∧ TE a 38 [(6, .slice (some ⟨g, off, none⟩) l.length c), (7, .int .i64 ((l.length : Nat) : Int)), (2, v), (8, .int .i64 ((k : Nat) : Int))] ∧ ∃ H, Rep [(w, fun _ => True)] u H (ob) []) (fun a _ => l.length - (intOf (a.tmps.getD 8 undef)).toNat) ?_ ?_
  · exact ⟨0, .slice none 0 0, [], Nat.zero_le _, OwnS.nil _ _, hE.sub (by kernel_rfl), _, hR⟩
  clear hE hR
  rintro a u ⟨k, v, ob, hkl, hO, hE, H1, hR⟩
  have hm1 : l.length - (intOf (a.tmps.getD 8 undef)).toNat = l.length - k := by rw [hE.get 8 _ rfl]; rfl
  refine wp_seq ?_
  refine enterR (idx := [0]) (by kernel_rfl) ?_
  let kv1 : Value := .bool (decide (((k : Nat) : Int) < ((l.length : Nat) : Int)))
  refine segV hE hR [(0, .op [])] [] [(9, kv1)] [] (by kernel_rfl) (by kernel_rfl) (by kernel_rfl) trivial ?_
  clear hE hR; intro a u hE hR
  refine opsNil ?_; refine thenN ?_; refine wp_seq ?_
  rcases Bool.eq_false_or_eq_true (decide (((k : Nat) : Int) < ((l.length : Nat) : Int))) with hc2 | hc2
  · refine condT hE (b := decide (((k : Nat) : Int) < ((l.length : Nat) : Int))) (by kernel_rfl) hc2 ?_
    have hk : k < l.length := by have := of_decide_eq_true hc2; omega
    obtain ⟨o, ho⟩ : ∃ o, o = l[k] := ⟨_, rfl⟩
    have hro : w.rangeAt g (off + k * 10) (obF o) := by rw [ho]; exact flat_range obF_len hrl hk
    have hwo := kindP_wide (o := o)
    let kc2 : List Value := [.int .i64 o.kind, .int .i64 o.cap, .int .i64 o.width, .int .i64 o.retry, .int .i64 o.src, .int .i64 o.dst, .int .u32 o.i0, .int .u32 o.i1, .int .u32 o.i2, .int .u32 o.i3]
    replace hR : Rep [(w, fun _ => True)] u H1 (ob) [⟨g, off + k * 10, kc2⟩] := hR.addR (f := (w, fun _ => True)) (by simp) ⟨g, off + k * 10, obF o⟩ (range_lt hro) trivial hro
    refine wp_skip ?_; refine thenN ?_; refine wp_seq ?_; refine wp_block ?_; refine wp_seq ?_
    refine enterR (idx := [0, 1, 2, 3]) (by kernel_rfl) ?_
    let kv3 : Value := .agg #[.int .i64 o.kind, .int .i64 o.cap, .int .i64 o.width, .int .i64 o.retry, .int .i64 o.src, .int .i64 o.dst, .int .u32 o.i0, .int .u32 o.i1, .int .u32 o.i2, .int .u32 o.i3]
    refine segU hE hR [(0, .alt (.pointer (some ⟨g, off + k * 10, none⟩))), (1, .op [.r 0 0, .r 0 1, .r 0 2, .r 0 3, .r 0 4, .r 0 5, .r 0 6, .r 0 7, .r 0 8, .r 0 9]), (2, .op []), (3, .op (hks 0 0 10))] [] [(10, .pointer (some ⟨g, off + k * 10, none⟩)), (11, kv3), (4, .pointer (some ⟨H1, 0, none⟩))] (⟨H1, 0, kc2, 109, true⟩ :: ob) (H1 + 1) [(0 ≤ (((k : Nat) : Int) : Int) ∧ (((k : Nat) : Int) : Int) < ((l.length : Nat) : Int)) ∧ (Try.prog.info? 109).isSome = true, (.pointer (some ⟨g, off + (((k : Nat) : Int)).toNat * Try.prog.cellsOf 109, none⟩) : Value) = (.pointer (some ⟨g, off + k * 10, none⟩) : Value)] (by kernel_rfl) (by kernel_rfl) (by kernel_rfl) ⟨⟨⟨by omega, by omega⟩, by kernel_rfl⟩, by kernel_rfl, trivial⟩ ?_
    clear hE hR; intro a u hE hR
    refine opsNil ?_; refine thenN ?_; refine wp_seq ?_
    refine enterR (idx := [0, 1, 2, 3]) (by kernel_rfl) ?_
    let kv4 : Value := .agg #[.int .i64 o.kind, .int .i64 o.cap, .int .i64 o.width, .int .i64 o.retry, .int .i64 o.src, .int .i64 o.dst, .int .u32 o.i0, .int .u32 o.i1, .int .u32 o.i2, .int .u32 o.i3, .slice none 0 0, .int .u32 0, .int .u32 0, .int .u32 0, .int .u32 0]
    let kc5 : List Value := [.int .i64 o.kind, .int .i64 o.cap, .int .i64 o.width, .int .i64 o.retry, .int .i64 o.src, .int .i64 o.dst, .int .u32 o.i0, .int .u32 o.i1, .int .u32 o.i2, .int .u32 o.i3, .slice none 0 0, .int .u32 0, .int .u32 0, .int .u32 0, .int .u32 0]
    refine segU hE hR [(0, .op (hks 0 0 10)), (1, .op []), (2, .op []), (3, .op (hks 0 0 15))] [] [(12, kv3), (13, kv4), (5, .pointer (some ⟨H1 + 1, 0, none⟩))] (⟨H1 + 1, 0, kc5, 116, true⟩ :: ⟨H1, 0, kc2, 109, true⟩ :: ob) (H1 + 2) [] (by kernel_rfl) (by kernel_rfl) (by kernel_rfl) trivial ?_
    clear hE hR; intro a u hE hR
    refine opsNil ?_; refine thenN ?_; refine wp_seq ?_; refine wp_seq ?_
    refine enterR (idx := [0, 1]) (by kernel_rfl) ?_
    refine segV hE hR [(0, .op (hks 0 0 15))] [1] [(14, kv4)] [] (by kernel_rfl) (by kernel_rfl) (by kernel_rfl) trivial ?_
    clear hE hR; intro a u hE hR
    refine opsCons ?_
    refine call hE hR [] 45 #[kv4] (some 15) [] (by kernel_rfl) (by kernel_rfl) trivial (kind_calls o none 0 0 Vl.z _) (fun _ _ h => by cases h.1) (fun _ h => by cases h.1) ?_
    clear hE
    rintro v u ⟨hv, hb⟩ a hE
    cases hv
    obtain ⟨H3, hH3, hR⟩ := hR.callE hb
    refine opsNil ?_; refine thenN ?_; refine wp_block ?_; refine wp_seq ?_; refine wp_seq ?_
    refine enterR (idx := [0, 1]) (by kernel_rfl) ?_
    refine segV hE hR [(0, .op []), (1, .op [])] [] [(17, .bool (((kindP o) : Int) == 2)), (16, .bool (((kindP o) : Int) == 2))] [] (by kernel_rfl) (by kernel_rfl) (by kernel_rfl) trivial ?_
    clear hE hR; intro a u hE hR
    refine opsNil ?_; refine thenN ?_
    rcases Bool.eq_false_or_eq_true (((kindP o) : Int) == 2) with hc4 | hc4
    · refine condT hE (b := ((kindP o) : Int) == 2) (by kernel_rfl) hc4 ?_
      have ehc4 := beq_iff_eq.1 hc4
      refine wp_skip ?_; refine thenN ?_
      refine condT hE (b := ((kindP o) : Int) == 2) (by kernel_rfl) (hc4) ?_
      refine enterR (idx := [0, 1, 2, 3, 4, 5, 6]) (by kernel_rfl) ?_
      let kv6 : Value := .agg #[.int .u32 o.i0, .int .u32 o.i1, .int .u32 o.i2, .int .u32 o.i3]
      refine seg0 hE hR [(0, .op []), (1, .op (hks 1 6 4)), (2, .op []), (3, .op [.k 1 2])] [4, 5, 6] [(6, .slice (some ⟨g, off, none⟩) l.length c), (7, .int .i64 ((l.length : Nat) : Int)), (2, v), (8, .int .i64 ((k : Nat) : Int)), (9, kv1), (10, .pointer (some ⟨g, off + k * 10, none⟩)), (11, kv3), (4, .pointer (some ⟨H1, 0, none⟩)), (12, kv3), (13, kv4), (5, .pointer (some ⟨H1 + 1, 0, none⟩)), (14, kv4), (15, .int .i64 (kindP o)), (17, .bool (((kindP o) : Int) == 2)), (16, .bool (((kindP o) : Int) == 2)), (19, .pointer (some ⟨H1, 6, none⟩)), (20, kv6), (21, .pointer (some ⟨H1, 2, none⟩)), (22, .int .i64 o.width)] [] (by kernel_rfl) (by kernel_rfl) (by kernel_rfl) trivial ?_
      clear hE hR; intro a u hE hR
      refine opsCons ?_
      refine call hE hR [] 46 #[kv6, .int .i64 o.width] (some 23) [] (by kernel_rfl) (by kernel_rfl) trivial (clip_calls o.init o.width (by have := (hwo (by omega)).1; omega) (hwo (by omega)).2.1 _) (fun _ _ h => by cases h.1) (fun _ h => by cases h.1) ?_
      clear hE
      rintro v u ⟨hv, hb⟩ a hE
      cases hv
      obtain ⟨H5, hH5, hR⟩ := hR.callE hb
      let kc7 : List Value := [.int .i64 o.kind, .int .i64 o.cap, .int .i64 o.width, .int .i64 o.retry, .int .i64 o.src, .int .i64 o.dst, .int .u32 o.i0, .int .u32 o.i1, .int .u32 o.i2, .int .u32 o.i3, .slice none 0 0, .int .u32 ((clipP o.init o.width).a), .int .u32 ((clipP o.init o.width).b), .int .u32 ((clipP o.init o.width).c), .int .u32 ((clipP o.init o.width).d)]
      refine segU hE hR [(5, .op []), (6, .op (hks 0 11 4))] [] [(24, .pointer (some ⟨H1 + 1, 11, none⟩))] (⟨H1 + 1, 0, kc7, 116, true⟩ :: ⟨H1, 0, kc2, 109, true⟩ :: ob) (H5) [] (by kernel_rfl) (by kernel_rfl) (by kernel_rfl) trivial ?_
      clear hE hR; intro a u hE hR
      refine opsNil ?_; refine blkN ?_; refine thenN ?_
      refine enterR (idx := [0, 1, 2, 3, 4]) (by kernel_rfl) ?_
      let kv8 : Value := .agg #[.int .i64 o.kind, .int .i64 o.cap, .int .i64 o.width, .int .i64 o.retry, .int .i64 o.src, .int .i64 o.dst, .int .u32 o.i0, .int .u32 o.i1, .int .u32 o.i2, .int .u32 o.i3, .slice none 0 0, .int .u32 ((clipP o.init o.width).a), .int .u32 ((clipP o.init o.width).b), .int .u32 ((clipP o.init o.width).c), .int .u32 ((clipP o.init o.width).d)]
      refine segU hE hR [(0, .op []), (1, .op (hks 0 0 15)), (2, .op [])] [3, 4] [(32, v), (33, kv8), (34, .slice (some ⟨H5, 0, none⟩) 1 1)] (⟨H5, 0, kc7, 116, true⟩ :: ⟨H1 + 1, 0, kc7, 116, true⟩ :: ⟨H1, 0, kc2, 109, true⟩ :: ob) (H5 + 1) [] (by kernel_rfl) (by kernel_rfl) (by kernel_rfl) trivial ?_
      clear hE hR; intro a u hE hR
      refine opsCons ?_
      refine app hE 15 116 104 (kn := [⟨H5, 0, kc7, 116, true⟩, ⟨H1 + 1, 0, kc7, 116, true⟩, ⟨H1, 0, kc2, 109, true⟩]) hR hO (.k 0 0) kc7 H5 0 1 1 [] rfl rfl trivial Try.underlying64 (by kernel_rfl) (by decide) (by kernel_rfl) (by kernel_rfl) (by kernel_rfl) (by kernel_rfl) (rfl) (by kernel_rfl) (by decide) (by unfold maxLen; omega) (by omega) ?_
      clear hE hR
      intro a u v906 ob6 H6 hH6 hE hO6 hR
      refine segV hE hR [(4, .op [])] [] [(2, v906)] [] (by kernel_rfl) (by kernel_rfl) (by kernel_rfl) trivial ?_
      clear hE hR; intro a u hE hR
      refine opsNil ?_; refine blkN ?_; refine thenN ?_
      refine enterR (idx := [0, 1]) (by kernel_rfl) ?_
      refine segV hE hR [(0, .as [] (.int .i64 ((k + 1 : Nat) : Int))), (1, .op [])] [] [(8, .int .i64 ((k + 1 : Nat) : Int)), (36, .int .i64 ((k + 1 : Nat) : Int))] [(.int .i64 (IntKind.i64.wrap (((k : Nat) : Int) + 1)) : Value) = (.int .i64 ((k + 1 : Nat) : Int) : Value)] (by kernel_rfl) (by kernel_rfl) (by kernel_rfl) ⟨congrArg (Value.int IntKind.i64) ((wrap_i64 ⟨by omega, by omega⟩).trans (by omega)), trivial⟩ ?_
      clear hE hR; intro a u hE hR
      refine opsNil ?_; refine thenN ?_
      exact ⟨⟨k + 1, v906, ob6, by omega, start_next hk ho hO6 (by rw [start_item]; rw [startV_w (.inl (beq_iff_eq.1 hc4))]; try rfl), hE.sub (by kernel_rfl), _, ((hR.sub (List.Sublist.cons _ (List.Sublist.cons _ (List.Sublist.cons _ (List.Sublist.refl _))))).dropR (List.Sublist.cons _ (List.Sublist.refl _)))⟩, meas (k' := k + 1) (hE.get 8 _ (by kernel_rfl)) hm1 (by omega)⟩
    · refine condF hE (b := ((kindP o) : Int) == 2) (by kernel_rfl) hc4 ?_
      have ehc4 := beq_eq_false_iff_ne.1 hc4
      refine enterR (idx := [0, 1]) (by kernel_rfl) ?_
      refine segV hE hR [(0, .op []), (1, .op [])] [] [(16, .bool (((kindP o) : Int) == 3)), (18, .bool (((kindP o) : Int) == 3))] [] (by kernel_rfl) (by kernel_rfl) (by kernel_rfl) trivial ?_
      clear hE hR; intro a u hE hR
      refine opsNil ?_; refine thenN ?_
      rcases Bool.eq_false_or_eq_true (((kindP o) : Int) == 3) with hc7 | hc7
      · refine condT hE (b := ((kindP o) : Int) == 3) (by kernel_rfl) hc7 ?_
        have ehc7 := beq_iff_eq.1 hc7
        refine enterR (idx := [0, 1, 2, 3, 4, 5, 6]) (by kernel_rfl) ?_
        let kv9 : Value := .agg #[.int .u32 o.i0, .int .u32 o.i1, .int .u32 o.i2, .int .u32 o.i3]
        refine segV hE hR [(0, .op []), (1, .op (hks 1 6 4)), (2, .op []), (3, .op [.k 1 2])] [4, 5, 6] [(19, .pointer (some ⟨H1, 6, none⟩)), (20, kv9), (21, .pointer (some ⟨H1, 2, none⟩)), (22, .int .i64 o.width)] [] (by kernel_rfl) (by kernel_rfl) (by kernel_rfl) trivial ?_
        clear hE hR; intro a u hE hR
        refine opsCons ?_
        refine call hE hR [] 46 #[kv9, .int .i64 o.width] (some 23) [] (by kernel_rfl) (by kernel_rfl) trivial (clip_calls o.init o.width (by have := (hwo (by omega)).1; omega) (hwo (by omega)).2.1 _) (fun _ _ h => by cases h.1) (fun _ h => by cases h.1) ?_
        clear hE
        rintro v u ⟨hv, hb⟩ a hE
        cases hv
        obtain ⟨H8, hH8, hR⟩ := hR.callE hb
        let kc10 : List Value := [.int .i64 o.kind, .int .i64 o.cap, .int .i64 o.width, .int .i64 o.retry, .int .i64 o.src, .int .i64 o.dst, .int .u32 o.i0, .int .u32 o.i1, .int .u32 o.i2, .int .u32 o.i3, .slice none 0 0, .int .u32 ((clipP o.init o.width).a), .int .u32 ((clipP o.init o.width).b), .int .u32 ((clipP o.init o.width).c), .int .u32 ((clipP o.init o.width).d)]
        refine segU hE hR [(5, .op []), (6, .op (hks 0 11 4))] [] [(24, .pointer (some ⟨H1 + 1, 11, none⟩))] (⟨H1 + 1, 0, kc10, 116, true⟩ :: ⟨H1, 0, kc2, 109, true⟩ :: ob) (H8) [] (by kernel_rfl) (by kernel_rfl) (by kernel_rfl) trivial ?_
        clear hE hR; intro a u hE hR
        refine opsNil ?_; refine blkN ?_; refine thenN ?_
        refine enterR (idx := [0, 1, 2, 3, 4]) (by kernel_rfl) ?_
        let kv11 : Value := .agg #[.int .u32 ((clipP o.init o.width).a), .int .u32 ((clipP o.init o.width).b), .int .u32 ((clipP o.init o.width).c), .int .u32 ((clipP o.init o.width).d)]
        let kv12 : Value := .agg #[.int .i64 o.kind, .int .i64 o.cap, .int .i64 o.width, .int .i64 o.retry, .int .i64 o.src, .int .i64 o.dst, .int .u32 o.i0, .int .u32 o.i1, .int .u32 o.i2, .int .u32 o.i3, .slice none 0 0, .int .u32 ((clipP o.init o.width).a), .int .u32 ((clipP o.init o.width).b), .int .u32 ((clipP o.init o.width).c), .int .u32 ((clipP o.init o.width).d)]
        refine seg hE hR [(0, .op []), (1, .op (hks 0 0 15)), (2, .op [])] [3, 4] [(6, .slice (some ⟨g, off, none⟩) l.length c), (7, .int .i64 ((l.length : Nat) : Int)), (2, v), (8, .int .i64 ((k : Nat) : Int)), (9, kv1), (10, .pointer (some ⟨g, off + k * 10, none⟩)), (11, kv3), (4, .pointer (some ⟨H1, 0, none⟩)), (12, kv3), (13, kv4), (5, .pointer (some ⟨H1 + 1, 0, none⟩)), (14, kv4), (15, .int .i64 (kindP o)), (17, .bool (((kindP o) : Int) == 2)), (16, .bool (((kindP o) : Int) == 3)), (18, .bool (((kindP o) : Int) == 3)), (19, .pointer (some ⟨H1, 6, none⟩)), (20, kv9), (21, .pointer (some ⟨H1, 2, none⟩)), (22, .int .i64 o.width), (23, kv11), (24, .pointer (some ⟨H1 + 1, 11, none⟩)), (32, v), (33, kv12), (34, .slice (some ⟨H8, 0, none⟩) 1 1)] (⟨H8, 0, kc10, 116, true⟩ :: ⟨H1 + 1, 0, kc10, 116, true⟩ :: ⟨H1, 0, kc2, 109, true⟩ :: ob) (H8 + 1) [] (by kernel_rfl) (by kernel_rfl) (by kernel_rfl) trivial ?_
        clear hE hR; intro a u hE hR
        refine opsCons ?_
        refine app hE 15 116 104 (kn := [⟨H8, 0, kc10, 116, true⟩, ⟨H1 + 1, 0, kc10, 116, true⟩, ⟨H1, 0, kc2, 109, true⟩]) hR hO (.k 0 0) kc10 H8 0 1 1 [] rfl rfl trivial Try.underlying64 (by kernel_rfl) (by decide) (by kernel_rfl) (by kernel_rfl) (by kernel_rfl) (by kernel_rfl) (rfl) (by kernel_rfl) (by decide) (by unfold maxLen; omega) (by omega) ?_
        clear hE hR
        intro a u v909 ob9 H9 hH9 hE hO9 hR
        refine segV hE hR [(4, .op [])] [] [(2, v909)] [] (by kernel_rfl) (by kernel_rfl) (by kernel_rfl) trivial ?_
        clear hE hR; intro a u hE hR
        refine opsNil ?_; refine blkN ?_; refine thenN ?_
        refine enterR (idx := [0, 1]) (by kernel_rfl) ?_
        refine segV hE hR [(0, .as [] (.int .i64 ((k + 1 : Nat) : Int))), (1, .op [])] [] [(8, .int .i64 ((k + 1 : Nat) : Int)), (36, .int .i64 ((k + 1 : Nat) : Int))] [(.int .i64 (IntKind.i64.wrap (((k : Nat) : Int) + 1)) : Value) = (.int .i64 ((k + 1 : Nat) : Int) : Value)] (by kernel_rfl) (by kernel_rfl) (by kernel_rfl) ⟨congrArg (Value.int IntKind.i64) ((wrap_i64 ⟨by omega, by omega⟩).trans (by omega)), trivial⟩ ?_
        clear hE hR; intro a u hE hR
        refine opsNil ?_; refine thenN ?_
        exact ⟨⟨k + 1, v909, ob9, by omega, start_next hk ho hO9 (by rw [start_item]; rw [startV_w (.inr (beq_iff_eq.1 hc7))]; try rfl), hE.sub (by kernel_rfl), _, ((hR.sub (List.Sublist.cons _ (List.Sublist.cons _ (List.Sublist.cons _ (List.Sublist.refl _))))).dropR (List.Sublist.cons _ (List.Sublist.refl _)))⟩, meas (k' := k + 1) (hE.get 8 _ (by kernel_rfl)) hm1 (by omega)⟩
      · refine condF hE (b := ((kindP o) : Int) == 3) (by kernel_rfl) hc7 ?_
        have ehc7 := beq_eq_false_iff_ne.1 hc7
        refine wp_seq ?_
        refine enterR (idx := [0, 1]) (by kernel_rfl) ?_
        refine segV hE hR [(0, .op []), (1, .op [])] [] [(26, .bool (((kindP o) : Int) == 4)), (25, .bool (((kindP o) : Int) == 4))] [] (by kernel_rfl) (by kernel_rfl) (by kernel_rfl) trivial ?_
        clear hE hR; intro a u hE hR
        refine opsNil ?_; refine thenN ?_
        rcases Bool.eq_false_or_eq_true (((kindP o) : Int) == 4) with hc10 | hc10
        · refine condT hE (b := ((kindP o) : Int) == 4) (by kernel_rfl) hc10 ?_
          have ehc10 := beq_iff_eq.1 hc10
          refine enterR (idx := [0, 1, 2, 3, 4, 5]) (by kernel_rfl) ?_
          let kc13 : List Value := [.int .i64 o.kind, .int .i64 o.cap, .int .i64 o.width, .int .i64 o.retry, .int .i64 o.src, .int .i64 o.dst, .int .u32 o.i0, .int .u32 o.i1, .int .u32 o.i2, .int .u32 o.i3, .slice none 0 0, .int .u32 o.i0, .int .u32 0, .int .u32 0, .int .u32 0]
          refine segU hE hR [(0, .op []), (1, .op []), (2, .op [.k 1 6]), (3, .op []), (4, .op []), (5, .op [.k 0 11])] [] [(27, .pointer (some ⟨H1, 6, none⟩)), (28, .pointer (some ⟨H1, 6, none⟩)), (29, .int .u32 o.i0), (30, .pointer (some ⟨H1 + 1, 11, none⟩)), (31, .pointer (some ⟨H1 + 1, 11, none⟩))] (⟨H1 + 1, 0, kc13, 116, true⟩ :: ⟨H1, 0, kc2, 109, true⟩ :: ob) (H3) [] (by kernel_rfl) (by kernel_rfl) (by kernel_rfl) trivial ?_
          clear hE hR; intro a u hE hR
          refine opsNil ?_; refine blkN ?_; refine thenN ?_
          refine enterR (idx := [0, 1, 2, 3, 4]) (by kernel_rfl) ?_
          let kv14 : Value := .agg #[.int .i64 o.kind, .int .i64 o.cap, .int .i64 o.width, .int .i64 o.retry, .int .i64 o.src, .int .i64 o.dst, .int .u32 o.i0, .int .u32 o.i1, .int .u32 o.i2, .int .u32 o.i3, .slice none 0 0, .int .u32 o.i0, .int .u32 0, .int .u32 0, .int .u32 0]
          refine segU hE hR [(0, .op []), (1, .op (hks 0 0 15)), (2, .op [])] [3, 4] [(32, v), (33, kv14), (34, .slice (some ⟨H3, 0, none⟩) 1 1)] (⟨H3, 0, kc13, 116, true⟩ :: ⟨H1 + 1, 0, kc13, 116, true⟩ :: ⟨H1, 0, kc2, 109, true⟩ :: ob) (H3 + 1) [] (by kernel_rfl) (by kernel_rfl) (by kernel_rfl) trivial ?_
          clear hE hR; intro a u hE hR
          refine opsCons ?_
          refine app hE 15 116 104 (kn := [⟨H3, 0, kc13, 116, true⟩, ⟨H1 + 1, 0, kc13, 116, true⟩, ⟨H1, 0, kc2, 109, true⟩]) hR hO (.k 0 0) kc13 H3 0 1 1 [] rfl rfl trivial Try.underlying64 (by kernel_rfl) (by decide) (by kernel_rfl) (by kernel_rfl) (by kernel_rfl) (by kernel_rfl) (rfl) (by kernel_rfl) (by decide) (by unfold maxLen; omega) (by omega) ?_
          clear hE hR
          intro a u v911 ob11 H11 hH11 hE hO11 hR
          refine segV hE hR [(4, .op [])] [] [(2, v911)] [] (by kernel_rfl) (by kernel_rfl) (by kernel_rfl) trivial ?_
          clear hE hR; intro a u hE hR
          refine opsNil ?_; refine blkN ?_; refine thenN ?_
          refine enterR (idx := [0, 1]) (by kernel_rfl) ?_
          refine segV hE hR [(0, .as [] (.int .i64 ((k + 1 : Nat) : Int))), (1, .op [])] [] [(8, .int .i64 ((k + 1 : Nat) : Int)), (36, .int .i64 ((k + 1 : Nat) : Int))] [(.int .i64 (IntKind.i64.wrap (((k : Nat) : Int) + 1)) : Value) = (.int .i64 ((k + 1 : Nat) : Int) : Value)] (by kernel_rfl) (by kernel_rfl) (by kernel_rfl) ⟨congrArg (Value.int IntKind.i64) ((wrap_i64 ⟨by omega, by omega⟩).trans (by omega)), trivial⟩ ?_
          clear hE hR; intro a u hE hR
          refine opsNil ?_; refine thenN ?_
          exact ⟨⟨k + 1, v911, ob11, by omega, start_next hk ho hO11 (by rw [start_item]; rw [startV_f (beq_iff_eq.1 hc10)]; try rfl), hE.sub (by kernel_rfl), _, ((hR.sub (List.Sublist.cons _ (List.Sublist.cons _ (List.Sublist.cons _ (List.Sublist.refl _))))).dropR (List.Sublist.cons _ (List.Sublist.refl _)))⟩, meas (k' := k + 1) (hE.get 8 _ (by kernel_rfl)) hm1 (by omega)⟩
        · refine condF hE (b := ((kindP o) : Int) == 4) (by kernel_rfl) hc10 ?_
          have ehc10 := beq_eq_false_iff_ne.1 hc10
          refine wp_skip ?_; refine blkN ?_; refine thenN ?_
          refine enterR (idx := [0, 1, 2, 3, 4]) (by kernel_rfl) ?_
          refine seg hE hR [(0, .op []), (1, .op (hks 0 0 15)), (2, .op [])] [3, 4] [(6, .slice (some ⟨g, off, none⟩) l.length c), (7, .int .i64 ((l.length : Nat) : Int)), (2, v), (8, .int .i64 ((k : Nat) : Int)), (9, kv1), (10, .pointer (some ⟨g, off + k * 10, none⟩)), (11, kv3), (4, .pointer (some ⟨H1, 0, none⟩)), (12, kv3), (13, kv4), (5, .pointer (some ⟨H1 + 1, 0, none⟩)), (14, kv4), (15, .int .i64 (kindP o)), (17, .bool (((kindP o) : Int) == 2)), (16, .bool (((kindP o) : Int) == 3)), (18, .bool (((kindP o) : Int) == 3)), (26, .bool (((kindP o) : Int) == 4)), (25, .bool (((kindP o) : Int) == 4)), (32, v), (33, kv4), (34, .slice (some ⟨H3, 0, none⟩) 1 1)] (⟨H3, 0, kc5, 116, true⟩ :: ⟨H1 + 1, 0, kc5, 116, true⟩ :: ⟨H1, 0, kc2, 109, true⟩ :: ob) (H3 + 1) [] (by kernel_rfl) (by kernel_rfl) (by kernel_rfl) trivial ?_
          clear hE hR; intro a u hE hR
          refine opsCons ?_
          refine app hE 15 116 104 (kn := [⟨H3, 0, kc5, 116, true⟩, ⟨H1 + 1, 0, kc5, 116, true⟩, ⟨H1, 0, kc2, 109, true⟩]) hR hO (.k 0 0) kc5 H3 0 1 1 [] rfl rfl trivial Try.underlying64 (by kernel_rfl) (by decide) (by kernel_rfl) (by kernel_rfl) (by kernel_rfl) (by kernel_rfl) (rfl) (by kernel_rfl) (by decide) (by unfold maxLen; omega) (by omega) ?_
          clear hE hR
          intro a u v912 ob12 H12 hH12 hE hO12 hR
          refine segV hE hR [(4, .op [])] [] [(2, v912)] [] (by kernel_rfl) (by kernel_rfl) (by kernel_rfl) trivial ?_
          clear hE hR; intro a u hE hR
          refine opsNil ?_; refine blkN ?_; refine thenN ?_
          refine enterR (idx := [0, 1]) (by kernel_rfl) ?_
          refine segV hE hR [(0, .as [] (.int .i64 ((k + 1 : Nat) : Int))), (1, .op [])] [] [(8, .int .i64 ((k + 1 : Nat) : Int)), (36, .int .i64 ((k + 1 : Nat) : Int))] [(.int .i64 (IntKind.i64.wrap (((k : Nat) : Int) + 1)) : Value) = (.int .i64 ((k + 1 : Nat) : Int) : Value)] (by kernel_rfl) (by kernel_rfl) (by kernel_rfl) ⟨congrArg (Value.int IntKind.i64) ((wrap_i64 ⟨by omega, by omega⟩).trans (by omega)), trivial⟩ ?_
          clear hE hR; intro a u hE hR
          refine opsNil ?_; refine thenN ?_
          exact ⟨⟨k + 1, v912, ob12, by omega, start_next hk ho hO12 (by rw [start_item]; rw [startV_z (beq_eq_false_iff_ne.1 hc4) (beq_eq_false_iff_ne.1 hc7) (beq_eq_false_iff_ne.1 hc10)]; try rfl), hE.sub (by kernel_rfl), _, ((hR.sub (List.Sublist.cons _ (List.Sublist.cons _ (List.Sublist.cons _ (List.Sublist.refl _))))).dropR (List.Sublist.cons _ (List.Sublist.refl _)))⟩, meas (k' := k + 1) (hE.get 8 _ (by kernel_rfl)) hm1 (by omega)⟩
  · refine condF hE (b := decide (((k : Nat) : Int) < ((l.length : Nat) : Int))) (by kernel_rfl) hc2 ?_
    have hkl2 : k = l.length := by have := of_decide_eq_false hc2; omega
    subst hkl2
    refine wp_exit ?_; refine thenE ?_; refine thenE ?_; refine blkE ?_; refine thenN ?_; refine wp_seq ?_
    refine enterR (idx := [0, 1]) (by kernel_rfl) ?_
    refine segV hE hR [(0, .op []), (1, .op [])] [] [] [] (by kernel_rfl) (by kernel_rfl) (by kernel_rfl) trivial ?_
    clear hE hR; intro a u hE hR
    refine opsNil ?_; refine thenN ?_; refine wp_ret ?_
    refine retF hE hR [] (v) (by kernel_rfl) (by kernel_rfl) (by kernel_rfl) ?_
    refine ⟨v, l.map startI, rfl, ?_, by simp [itms], hR.below (by simp)⟩
    exact ItemsR.of_own (kn := []) (E := 116) (by simpa using hO) (by simp) hR (fun p hp => by obtain ⟨o, _, rfl⟩ := List.mem_map.1 hp; exact RowV.nil _)
set_option maxRecDepth 100000 in
theorem startR_calls (w : World) (g off c : Nat) (l : List Ob) (hlen : l.length ≤ 8) (hrl : w.rangeAt g off (l.flatMap obF)) :
    Calls Try.prog 24 #[.slice (some ⟨g, off, none⟩) l.length c] w fun e W' => ∃ s L, e = .returned s ∧ ItemsR W' s L ∧ itms L = l.map startP ∧ Below w.heap.size w W' := by
  refine enterF Try.func24 rfl Try.ntmps24 [(0, .slice (some ⟨g, off, none⟩) l.length c)] (by kernel_rfl) (by kernel_rfl) ?_
  have hR := Rep.start w
  obtain ⟨H0, hH0⟩ : ∃ x, x = w.heap.size := ⟨_, rfl⟩
  rw [← hH0] at hR
  intro a hE
  refine wp_seq ?_
  refine enterR (idx := [0]) (by kernel_rfl) ?_
  refine segV hE hR [(0, .op [])] [] [(2, .slice none 0 0)] [] (by kernel_rfl) (by kernel_rfl) (by kernel_rfl) trivial ?_
  clear hE hR; intro a u hE hR
  refine opsNil ?_; refine thenN ?_; refine wp_seq ?_
  refine enterR (idx := [0]) (by kernel_rfl) ?_
  refine segV hE hR [(0, .op [])] [] [(3, .slice none 0 0)] [] (by kernel_rfl) (by kernel_rfl) (by kernel_rfl) trivial ?_
  clear hE hR; intro a u hE hR
  refine opsNil ?_; refine thenN ?_; refine wp_seq ?_; refine wp_seq ?_
  refine enterR (idx := [0]) (by kernel_rfl) ?_
  refine segV hE hR [(0, .op [])] [] [(4, .int .i64 0)] [] (by kernel_rfl) (by kernel_rfl) (by kernel_rfl) trivial ?_
  clear hE hR; intro a u hE hR
  refine opsNil ?_; refine thenN ?_; refine wp_block ?_
  refine wp_loop (fun a u => ∃ (k : Nat) (v : Value) (ob : List KB), k ≤ l.length ∧ OwnS 15 118 v k (((l.take k).map startI).flatMap itF) ob ∧ TE a 48 [(0, .slice (some ⟨g, off, none⟩) l.length c), (2, .slice none 0 0), (3, v), (4, .int .i64 ((k : Nat) : Int))] ∧ ∃ H, Rep [(w, fun _ => True)] u H (ob) []) (fun a _ => l.length - (intOf (a.tmps.getD 4 undef)).toNat) ?_ ?_
  · exact ⟨0, .slice none 0 0, [], Nat.zero_le _, OwnS.nil _ _, hE.sub (by kernel_rfl), _, hR⟩
  clear hE hR
  rintro a u ⟨k, v, ob, hkl, hO, hE, H1, hR⟩
  have hm1 : l.length - (intOf (a.tmps.getD 4 undef)).toNat = l.length - k := by rw [hE.get 4 _ rfl]; rfl
  refine wp_seq ?_; refine wp_seq ?_
  refine enterR (idx := [0, 1, 2, 3]) (by kernel_rfl) ?_
  let kv1 : Value := .bool (decide (((k : Nat) : Int) < ((l.length : Nat) : Int)))
  refine segV hE hR [(0, .op []), (1, .op []), (2, .op []), (3, .op [])] [] [(6, .int .i64 ((k : Nat) : Int)), (7, .slice (some ⟨g, off, none⟩) l.length c), (8, .int .i64 ((l.length : Nat) : Int)), (9, kv1)] [] (by kernel_rfl) (by kernel_rfl) (by kernel_rfl) trivial ?_
  clear hE hR; intro a u hE hR
  refine opsNil ?_; refine thenN ?_
  rcases Bool.eq_false_or_eq_true (decide (((k : Nat) : Int) < ((l.length : Nat) : Int))) with hc2 | hc2
  · refine condT hE (b := decide (((k : Nat) : Int) < ((l.length : Nat) : Int))) (by kernel_rfl) hc2 ?_
    have hk : k < l.length := by have := of_decide_eq_true hc2; omega
    obtain ⟨o, ho⟩ : ∃ o, o = l[k] := ⟨_, rfl⟩
    have hro : w.rangeAt g (off + k * 10) (obF o) := by rw [ho]; exact flat_range obF_len hrl hk
    have hwo := kindP_wide (o := o)
    let kc2 : List Value := [.int .i64 o.kind, .int .i64 o.cap, .int .i64 o.width, .int .i64 o.retry, .int .i64 o.src, .int .i64 o.dst, .int .u32 o.i0, .int .u32 o.i1, .int .u32 o.i2, .int .u32 o.i3]
    replace hR : Rep [(w, fun _ => True)] u H1 (ob) [⟨g, off + k * 10, kc2⟩] := hR.addR (f := (w, fun _ => True)) (by simp) ⟨g, off + k * 10, obF o⟩ (range_lt hro) trivial hro
    refine wp_skip ?_; refine thenN ?_; refine wp_seq ?_; refine wp_block ?_; refine wp_seq ?_
    refine enterR (idx := [0, 1, 2, 3, 4, 5, 6]) (by kernel_rfl) ?_
    let kv3 : Value := .agg #[.int .i64 o.kind, .int .i64 o.cap, .int .i64 o.width, .int .i64 o.retry, .int .i64 o.src, .int .i64 o.dst, .int .u32 o.i0, .int .u32 o.i1, .int .u32 o.i2, .int .u32 o.i3]
    let kv4 : Value := .agg #[.int .i64 o.kind, .int .i64 o.cap, .int .i64 o.width, .int .i64 o.retry, .int .i64 o.src, .int .i64 o.dst, .int .u32 o.i0, .int .u32 o.i1, .int .u32 o.i2, .int .u32 o.i3, .slice none 0 0, .int .u32 0, .int .u32 0, .int .u32 0, .int .u32 0]
    let kc5 : List Value := [.int .i64 o.kind, .int .i64 o.cap, .int .i64 o.width, .int .i64 o.retry, .int .i64 o.src, .int .i64 o.dst, .int .u32 o.i0, .int .u32 o.i1, .int .u32 o.i2, .int .u32 o.i3, .slice none 0 0, .int .u32 0, .int .u32 0, .int .u32 0, .int .u32 0]
    refine segU hE hR [(0, .op []), (1, .op []), (2, .alt (.pointer (some ⟨g, off + k * 10, none⟩))), (3, .op [.r 0 0, .r 0 1, .r 0 2, .r 0 3, .r 0 4, .r 0 5, .r 0 6, .r 0 7, .r 0 8, .r 0 9]), (4, .op []), (5, .op []), (6, .op (hks 0 0 15))] [] [(12, .slice (some ⟨g, off, none⟩) l.length c), (13, .int .i64 ((k : Nat) : Int)), (14, .pointer (some ⟨g, off + k * 10, none⟩)), (15, kv3), (16, kv4), (5, .pointer (some ⟨H1, 0, none⟩))] (⟨H1, 0, kc5, 118, true⟩ :: ob) (H1 + 1) [(0 ≤ (((k : Nat) : Int) : Int) ∧ (((k : Nat) : Int) : Int) < ((l.length : Nat) : Int)) ∧ (Try.prog.info? 109).isSome = true, (.pointer (some ⟨g, off + (((k : Nat) : Int)).toNat * Try.prog.cellsOf 109, none⟩) : Value) = (.pointer (some ⟨g, off + k * 10, none⟩) : Value)] (by kernel_rfl) (by kernel_rfl) (by kernel_rfl) ⟨⟨⟨by omega, by omega⟩, by kernel_rfl⟩, by kernel_rfl, trivial⟩ ?_
    clear hE hR; intro a u hE hR
    refine opsNil ?_; refine thenN ?_; refine wp_seq ?_; refine wp_seq ?_
    rcases Bool.eq_false_or_eq_true (rightP o) with hc3 | hc3
    · show Code.wp _ _ _ _ _
      refine enterR (idx := [0, 1, 2, 3, 4, 5, 6, 7, 8, 9, 10, 11, 12]) (by kernel_rfl) ?_
      refine segV hE hR [(0, .op []), (1, .op []), (2, .alt (.pointer (some ⟨g, off + k * 10, none⟩))), (3, .op [.r 0 0, .r 0 1, .r 0 2, .r 0 3, .r 0 4, .r 0 5, .r 0 6, .r 0 7, .r 0 8, .r 0 9])] [4, 5, 6, 7, 8, 9, 10, 11, 12] [(17, .slice (some ⟨g, off, none⟩) l.length c), (18, .int .i64 ((k : Nat) : Int)), (19, .pointer (some ⟨g, off + k * 10, none⟩)), (20, kv3)] [(0 ≤ (((k : Nat) : Int) : Int) ∧ (((k : Nat) : Int) : Int) < ((l.length : Nat) : Int)) ∧ (Try.prog.info? 109).isSome = true, (.pointer (some ⟨g, off + (((k : Nat) : Int)).toNat * Try.prog.cellsOf 109, none⟩) : Value) = (.pointer (some ⟨g, off + k * 10, none⟩) : Value)] (by kernel_rfl) (by kernel_rfl) (by kernel_rfl) ⟨⟨⟨by omega, by omega⟩, by kernel_rfl⟩, by kernel_rfl, trivial⟩ ?_
      clear hE hR; intro a u hE hR
      refine opsCons ?_
      refine call hE hR [] 47 #[kv3] (some 21) [] (by kernel_rfl) (by kernel_rfl) trivial (right2_calls o _) (fun _ _ h => by cases h.1) (fun _ h => by cases h.1) ?_
      clear hE
      rintro v u ⟨hv, hb⟩ a hE
      cases hv
      obtain ⟨H4, hH4, hR⟩ := hR.callE hb
      refine segV hE hR [(5, .op []), (6, .op []), (7, .op []), (8, .alt (.pointer (some ⟨g, off + k * 10, none⟩))), (9, .op []), (10, .op [.r 0 0]), (11, .op []), (12, .as [] (.bool ((o.kind : Int) != 1)))] [] [(22, .bool (rightP o)), (23, .slice (some ⟨g, off, none⟩) l.length c), (24, .int .i64 ((k : Nat) : Int)), (25, .pointer (some ⟨g, off + k * 10, none⟩)), (26, .pointer (some ⟨g, off + k * 10, none⟩)), (27, .int .i64 o.kind), (28, .bool ((o.kind : Int) != 1)), (29, .bool ((o.kind : Int) != 1))] [((if (rightP o) = true then (.bool ((o.kind : Int) != 1) : Value) else (.bool false : Value)) : Value) = (.bool ((o.kind : Int) != 1) : Value), (rightP o) = true, (rightP o) = true, (rightP o) = true, (0 ≤ (((k : Nat) : Int) : Int) ∧ (((k : Nat) : Int) : Int) < ((l.length : Nat) : Int)) ∧ (Try.prog.info? 109).isSome = true, (.pointer (some ⟨g, off + (((k : Nat) : Int)).toNat * Try.prog.cellsOf 109, none⟩) : Value) = (.pointer (some ⟨g, off + k * 10, none⟩) : Value), (rightP o) = true, (rightP o) = true, (rightP o) = true] (by kernel_rfl) (by kernel_rfl) (by kernel_rfl) ⟨if_pos (hc3), hc3, hc3, hc3, ⟨⟨by omega, by omega⟩, by kernel_rfl⟩, by kernel_rfl, hc3, hc3, hc3, trivial⟩ ?_
      clear hE hR; intro a u hE hR
      refine opsNil ?_; refine thenN ?_
      rcases Bool.eq_false_or_eq_true ((o.kind : Int) != 1) with hc5 | hc5
      · refine condT hE (b := (o.kind : Int) != 1) (by kernel_rfl) hc5 ?_
        have ehc5 := bne_iff_ne.1 hc5
        refine enterD (kl := []) (by kernel_rfl) hR (F := 14) (listed := #[false, false, false, false, false, false, false, false, false, false, false, false, false, false]) (by kernel_rfl) (by kernel_rfl) ?_
        clear hR
        intro u hR
        let kv6 : Value := .agg #[.int .u32 o.i0, .int .u32 o.i1, .int .u32 o.i2, .int .u32 o.i3]
        let kv7 : Value := .int .i64 (if (o.width : Int) < (1 : Int) then (1 : Int) else o.width)
        refine takes (by kernel_rfl) (pqT (pqB (pqT (pqT (pqB (pqT pqF)))))) hE (hR.ss [] (by kernel_rfl)) [(0, .op []), (1, .op []), (2, .alt (.pointer (some ⟨g, off + k * 10, none⟩))), (3, .op []), (4, .op [.r 0 6, .r 0 7, .r 0 8, .r 0 9]), (5, .op []), (6, .op []), (7, .alt (.pointer (some ⟨g, off + k * 10, none⟩))), (8, .op []), (9, .op [.r 0 2]), (10, .op [])] 3 [(0, .slice (some ⟨g, off, none⟩) l.length c), (2, .slice none 0 0), (3, v), (4, .int .i64 ((k : Nat) : Int)), (6, .int .i64 ((k : Nat) : Int)), (7, .slice (some ⟨g, off, none⟩) l.length c), (8, .int .i64 ((l.length : Nat) : Int)), (9, kv1), (12, .slice (some ⟨g, off, none⟩) l.length c), (13, .int .i64 ((k : Nat) : Int)), (14, .pointer (some ⟨g, off + k * 10, none⟩)), (15, kv3), (16, kv4), (5, .pointer (some ⟨H1, 0, none⟩)), (17, .slice (some ⟨g, off, none⟩) l.length c), (18, .int .i64 ((k : Nat) : Int)), (19, .pointer (some ⟨g, off + k * 10, none⟩)), (20, kv3), (21, .bool (rightP o)), (22, .bool (rightP o)), (23, .slice (some ⟨g, off, none⟩) l.length c), (24, .int .i64 ((k : Nat) : Int)), (25, .pointer (some ⟨g, off + k * 10, none⟩)), (26, .pointer (some ⟨g, off + k * 10, none⟩)), (27, .int .i64 o.kind), (28, .bool ((o.kind : Int) != 1)), (29, .bool ((o.kind : Int) != 1)), (30, .slice (some ⟨g, off, none⟩) l.length c), (31, .int .i64 ((k : Nat) : Int)), (32, .pointer (some ⟨g, off + k * 10, none⟩)), (33, .pointer (some ⟨g, off + k * 10 + 6, none⟩)), (34, kv6), (35, .slice (some ⟨g, off, none⟩) l.length c), (36, .int .i64 ((k : Nat) : Int)), (37, .pointer (some ⟨g, off + k * 10, none⟩)), (38, .pointer (some ⟨g, off + k * 10 + 2, none⟩)), (39, .int .i64 o.width), (40, kv7)] #[true, true, true, true, true, true, true, true, true, true, true, false, false, false] [(0 ≤ (((k : Nat) : Int) : Int) ∧ (((k : Nat) : Int) : Int) < ((l.length : Nat) : Int)) ∧ (Try.prog.info? 109).isSome = true, (.pointer (some ⟨g, off + (((k : Nat) : Int)).toNat * Try.prog.cellsOf 109, none⟩) : Value) = (.pointer (some ⟨g, off + k * 10, none⟩) : Value), (0 ≤ (((k : Nat) : Int) : Int) ∧ (((k : Nat) : Int) : Int) < ((l.length : Nat) : Int)) ∧ (Try.prog.info? 109).isSome = true, (.pointer (some ⟨g, off + (((k : Nat) : Int)).toNat * Try.prog.cellsOf 109, none⟩) : Value) = (.pointer (some ⟨g, off + k * 10, none⟩) : Value)] (by kernel_rfl) (by kernel_rfl) (by kernel_rfl) ⟨⟨⟨by omega, by omega⟩, by kernel_rfl⟩, by kernel_rfl, ⟨⟨by omega, by omega⟩, by kernel_rfl⟩, by kernel_rfl, trivial⟩ ?_
        clear hE; intro a hE
        refine wpAnyH_all (rs := [11]) (by kernel_rfl) (by simp) (allCons ?_ allNil)
        have hc_r := hc3
        have hc_k := hc5
        refine call hE hR [] 48 #[kv6, kv7] (some 41) [] (by kernel_rfl) (by kernel_rfl) trivial (clip2_calls o.init (if (o.width : Int) < (1 : Int) then (1 : Int) else o.width) (by split <;> omega) (by have := ref_wide hc_r hc_k; split <;> omega) _) (fun _ _ h => by cases h.1) (fun _ h => by cases h.1) ?_
        clear hE
        rintro v u ⟨hv, hb⟩ a hE
        cases hv
        obtain ⟨H6, hH6, hR⟩ := hR.callE hb
        refine ⟨(hR.ss [] (by kernel_rfl)), ?_⟩
        show wpAnyH _ _ _ _ _ _ #[true, true, true, true, true, true, true, true, true, true, true, true, false, false] _ _
        refine takesU (by kernel_rfl) (pqT (pqB (pqT (pqT (pqB (pqT pqF)))))) hE (hR.ss [] (by kernel_rfl)) [(12, .op [])] 1 [(42, .pointer (some ⟨H1, 11, none⟩))] #[true, true, true, true, true, true, true, true, true, true, true, true, true, false] [] (by kernel_rfl) (by kernel_rfl) (by kernel_rfl) trivial ?_
        clear hE; intro a hE
        refine wpAnyH_all (rs := [13]) (by kernel_rfl) (by simp) (allCons ?_ allNil)
        let kc8 : List Value := [.int .i64 o.kind, .int .i64 o.cap, .int .i64 o.width, .int .i64 o.retry, .int .i64 o.src, .int .i64 o.dst, .int .u32 o.i0, .int .u32 o.i1, .int .u32 o.i2, .int .u32 o.i3, .slice none 0 0, .int .u32 ((clipP o.init (if (o.width : Int) < (1 : Int) then (1 : Int) else o.width)).a), .int .u32 ((clipP o.init (if (o.width : Int) < (1 : Int) then (1 : Int) else o.width)).b), .int .u32 ((clipP o.init (if (o.width : Int) < (1 : Int) then (1 : Int) else o.width)).c), .int .u32 ((clipP o.init (if (o.width : Int) < (1 : Int) then (1 : Int) else o.width)).d)]
        refine oneU hE hR (.op (hks 0 11 4)) [] (⟨H1, 0, kc8, 118, true⟩ :: ob) (H6) [] (by kernel_rfl) (by kernel_rfl) trivial ?_
        clear hE hR; intro a u hE hR
        refine ⟨(hR.ss [] (by kernel_rfl)), ?_⟩
        show wpAnyH _ _ _ _ _ _ #[true, true, true, true, true, true, true, true, true, true, true, true, true, true] _ _
        refine wpAnyH_done (by kernel_rfl) ?_ _
        refine thenN ?_
        refine enterR (idx := [0, 1, 2, 3, 4]) (by kernel_rfl) ?_
        let kv9 : Value := .agg #[.int .i64 o.kind, .int .i64 o.cap, .int .i64 o.width, .int .i64 o.retry, .int .i64 o.src, .int .i64 o.dst, .int .u32 o.i0, .int .u32 o.i1, .int .u32 o.i2, .int .u32 o.i3, .slice none 0 0, .int .u32 ((clipP o.init (if (o.width : Int) < (1 : Int) then (1 : Int) else o.width)).a), .int .u32 ((clipP o.init (if (o.width : Int) < (1 : Int) then (1 : Int) else o.width)).b), .int .u32 ((clipP o.init (if (o.width : Int) < (1 : Int) then (1 : Int) else o.width)).c), .int .u32 ((clipP o.init (if (o.width : Int) < (1 : Int) then (1 : Int) else o.width)).d)]
        refine segU hE hR [(0, .op []), (1, .op (hks 0 0 15)), (2, .op [])] [3, 4] [(43, v), (44, kv9), (45, .slice (some ⟨H6, 0, none⟩) 1 1)] (⟨H6, 0, kc8, 118, true⟩ :: ⟨H1, 0, kc8, 118, true⟩ :: ob) (H6 + 1) [] (by kernel_rfl) (by kernel_rfl) (by kernel_rfl) trivial ?_
        clear hE hR; intro a u hE hR
        refine opsCons ?_
        refine app hE 15 118 104 (kn := [⟨H6, 0, kc8, 118, true⟩, ⟨H1, 0, kc8, 118, true⟩]) hR hO (.k 0 0) kc8 H6 0 1 1 [] rfl rfl trivial Try.underlying66 (by kernel_rfl) (by decide) (by kernel_rfl) (by kernel_rfl) (by kernel_rfl) (by kernel_rfl) (rfl) (by kernel_rfl) (by decide) (by unfold maxLen; omega) (by omega) ?_
        clear hE hR
        intro a u v907 ob7 H7 hH7 hE hO7 hR
        refine segV hE hR [(4, .op [])] [] [(3, v907)] [] (by kernel_rfl) (by kernel_rfl) (by kernel_rfl) trivial ?_
        clear hE hR; intro a u hE hR
        refine opsNil ?_; refine blkN ?_; refine thenN ?_
        refine enterR (idx := [0, 1, 2]) (by kernel_rfl) ?_
        refine segV hE hR [(0, .op []), (1, .as [] (.int .i64 ((k + 1 : Nat) : Int))), (2, .op [])] [] [(4, .int .i64 ((k + 1 : Nat) : Int)), (10, .int .i64 ((k : Nat) : Int)), (11, .int .i64 ((k + 1 : Nat) : Int))] [(.int .i64 (IntKind.i64.wrap (((k : Nat) : Int) + 1)) : Value) = (.int .i64 ((k + 1 : Nat) : Int) : Value)] (by kernel_rfl) (by kernel_rfl) (by kernel_rfl) ⟨congrArg (Value.int IntKind.i64) ((wrap_i64 ⟨by omega, by omega⟩).trans (by omega)), trivial⟩ ?_
        clear hE hR; intro a u hE hR
        refine opsNil ?_; refine thenN ?_
        exact ⟨⟨k + 1, v907, ob7, by omega, start_next hk ho hO7 (by rw [start_item]; rw [startR_yes hc3 (bne_iff_ne.1 hc5)]; try rfl), hE.sub (by kernel_rfl), _, ((hR.sub (List.Sublist.cons _ (List.Sublist.cons _ (List.Sublist.refl _)))).dropR (List.Sublist.cons _ (List.Sublist.refl _)))⟩, meas (k' := k + 1) (hE.get 4 _ (by kernel_rfl)) hm1 (by omega)⟩
      · refine condF hE (b := (o.kind : Int) != 1) (by kernel_rfl) hc5 ?_
        have ehc5 := bne_eq_false_iff_eq.1 hc5
        refine wp_skip ?_; refine thenN ?_
        refine enterR (idx := [0, 1, 2, 3, 4]) (by kernel_rfl) ?_
        refine segU hE hR [(0, .op []), (1, .op (hks 0 0 15)), (2, .op [])] [3, 4] [(43, v), (44, kv4), (45, .slice (some ⟨H4, 0, none⟩) 1 1)] (⟨H4, 0, kc5, 118, true⟩ :: ⟨H1, 0, kc5, 118, true⟩ :: ob) (H4 + 1) [] (by kernel_rfl) (by kernel_rfl) (by kernel_rfl) trivial ?_
        clear hE hR; intro a u hE hR
        refine opsCons ?_
        refine app hE 15 118 104 (kn := [⟨H4, 0, kc5, 118, true⟩, ⟨H1, 0, kc5, 118, true⟩]) hR hO (.k 0 0) kc5 H4 0 1 1 [] rfl rfl trivial Try.underlying66 (by kernel_rfl) (by decide) (by kernel_rfl) (by kernel_rfl) (by kernel_rfl) (by kernel_rfl) (rfl) (by kernel_rfl) (by decide) (by unfold maxLen; omega) (by omega) ?_
        clear hE hR
        intro a u v908 ob8 H8 hH8 hE hO8 hR
        refine segV hE hR [(4, .op [])] [] [(3, v908)] [] (by kernel_rfl) (by kernel_rfl) (by kernel_rfl) trivial ?_
        clear hE hR; intro a u hE hR
        refine opsNil ?_; refine blkN ?_; refine thenN ?_
        refine enterR (idx := [0, 1, 2]) (by kernel_rfl) ?_
        refine seg0 hE hR [(0, .op []), (1, .as [] (.int .i64 ((k + 1 : Nat) : Int))), (2, .op [])] [] [(0, .slice (some ⟨g, off, none⟩) l.length c), (2, .slice none 0 0), (3, v908), (4, .int .i64 ((k + 1 : Nat) : Int)), (6, .int .i64 ((k : Nat) : Int)), (7, .slice (some ⟨g, off, none⟩) l.length c), (8, .int .i64 ((l.length : Nat) : Int)), (9, kv1), (12, .slice (some ⟨g, off, none⟩) l.length c), (13, .int .i64 ((k : Nat) : Int)), (14, .pointer (some ⟨g, off + k * 10, none⟩)), (15, kv3), (16, kv4), (5, .pointer (some ⟨H1, 0, none⟩)), (17, .slice (some ⟨g, off, none⟩) l.length c), (18, .int .i64 ((k : Nat) : Int)), (19, .pointer (some ⟨g, off + k * 10, none⟩)), (20, kv3), (21, .bool (rightP o)), (22, .bool (rightP o)), (23, .slice (some ⟨g, off, none⟩) l.length c), (24, .int .i64 ((k : Nat) : Int)), (25, .pointer (some ⟨g, off + k * 10, none⟩)), (26, .pointer (some ⟨g, off + k * 10, none⟩)), (27, .int .i64 o.kind), (28, .bool ((o.kind : Int) != 1)), (29, .bool ((o.kind : Int) != 1)), (43, v), (44, kv4), (45, .slice (some ⟨H4, 0, none⟩) 1 1), (46, v908), (10, .int .i64 ((k : Nat) : Int)), (11, .int .i64 ((k + 1 : Nat) : Int))] [(.int .i64 (IntKind.i64.wrap (((k : Nat) : Int) + 1)) : Value) = (.int .i64 ((k + 1 : Nat) : Int) : Value)] (by kernel_rfl) (by kernel_rfl) (by kernel_rfl) ⟨congrArg (Value.int IntKind.i64) ((wrap_i64 ⟨by omega, by omega⟩).trans (by omega)), trivial⟩ ?_
        clear hE hR; intro a u hE hR
        refine opsNil ?_; refine thenN ?_
        exact ⟨⟨k + 1, v908, ob8, by omega, start_next hk ho hO8 (by rw [start_item]; rw [startR_ring hc3 (bne_eq_false_iff_eq.1 hc5)]; try rfl), hE.sub (by kernel_rfl), _, ((hR.sub (List.Sublist.cons _ (List.Sublist.cons _ (List.Sublist.refl _)))).dropR (List.Sublist.cons _ (List.Sublist.refl _)))⟩, meas (k' := k + 1) (hE.get 4 _ (by kernel_rfl)) hm1 (by omega)⟩
    · show Code.wp _ _ _ _ _
      refine enterR (idx := [0, 1, 2, 3, 4, 5, 6, 7, 8, 9, 10, 11, 12]) (by kernel_rfl) ?_
      refine segV hE hR [(0, .op []), (1, .op []), (2, .alt (.pointer (some ⟨g, off + k * 10, none⟩))), (3, .op [.r 0 0, .r 0 1, .r 0 2, .r 0 3, .r 0 4, .r 0 5, .r 0 6, .r 0 7, .r 0 8, .r 0 9])] [4, 5, 6, 7, 8, 9, 10, 11, 12] [(17, .slice (some ⟨g, off, none⟩) l.length c), (18, .int .i64 ((k : Nat) : Int)), (19, .pointer (some ⟨g, off + k * 10, none⟩)), (20, kv3)] [(0 ≤ (((k : Nat) : Int) : Int) ∧ (((k : Nat) : Int) : Int) < ((l.length : Nat) : Int)) ∧ (Try.prog.info? 109).isSome = true, (.pointer (some ⟨g, off + (((k : Nat) : Int)).toNat * Try.prog.cellsOf 109, none⟩) : Value) = (.pointer (some ⟨g, off + k * 10, none⟩) : Value)] (by kernel_rfl) (by kernel_rfl) (by kernel_rfl) ⟨⟨⟨by omega, by omega⟩, by kernel_rfl⟩, by kernel_rfl, trivial⟩ ?_
      clear hE hR; intro a u hE hR
      refine opsCons ?_
      refine call hE hR [] 47 #[kv3] (some 21) [] (by kernel_rfl) (by kernel_rfl) trivial (right2_calls o _) (fun _ _ h => by cases h.1) (fun _ h => by cases h.1) ?_
      clear hE
      rintro v u ⟨hv, hb⟩ a hE
      cases hv
      obtain ⟨H9, hH9, hR⟩ := hR.callE hb
      refine segV hE hR [(5, .op []), (6, .skip), (7, .skip), (8, .skip), (9, .skip), (10, .skip), (11, .skip), (12, .as [] (.bool false))] [] [(22, .bool (rightP o)), (23, .tuple #[]), (24, .tuple #[]), (25, .tuple #[]), (26, .tuple #[]), (27, .tuple #[]), (28, .tuple #[]), (29, .bool false)] [((if (rightP o) = true then (.tuple #[] : Value) else (.bool false : Value)) : Value) = (.bool false : Value), (rightP o) = !true, (rightP o) = !true, (rightP o) = !true, (rightP o) = !true, (rightP o) = !true, (rightP o) = !true] (by kernel_rfl) (by kernel_rfl) (by kernel_rfl) ⟨if_neg (by rw [hc3]; decide), hc3, hc3, hc3, hc3, hc3, hc3, trivial⟩ ?_
      clear hE hR; intro a u hE hR
      refine opsNil ?_; refine thenN ?_
      refine condF hE (b := false) (by kernel_rfl) rfl ?_
      refine wp_skip ?_; refine thenN ?_
      refine enterR (idx := [0, 1, 2, 3, 4]) (by kernel_rfl) ?_
      refine segU hE hR [(0, .op []), (1, .op (hks 0 0 15)), (2, .op [])] [3, 4] [(43, v), (44, kv4), (45, .slice (some ⟨H9, 0, none⟩) 1 1)] (⟨H9, 0, kc5, 118, true⟩ :: ⟨H1, 0, kc5, 118, true⟩ :: ob) (H9 + 1) [] (by kernel_rfl) (by kernel_rfl) (by kernel_rfl) trivial ?_
      clear hE hR; intro a u hE hR
      refine opsCons ?_
      refine app hE 15 118 104 (kn := [⟨H9, 0, kc5, 118, true⟩, ⟨H1, 0, kc5, 118, true⟩]) hR hO (.k 0 0) kc5 H9 0 1 1 [] rfl rfl trivial Try.underlying66 (by kernel_rfl) (by decide) (by kernel_rfl) (by kernel_rfl) (by kernel_rfl) (by kernel_rfl) (rfl) (by kernel_rfl) (by decide) (by unfold maxLen; omega) (by omega) ?_
      clear hE hR
      intro a u v910 ob10 H10 hH10 hE hO10 hR
      refine segV hE hR [(4, .op [])] [] [(3, v910)] [] (by kernel_rfl) (by kernel_rfl) (by kernel_rfl) trivial ?_
      clear hE hR; intro a u hE hR
      refine opsNil ?_; refine blkN ?_; refine thenN ?_
      refine enterR (idx := [0, 1, 2]) (by kernel_rfl) ?_
      refine segV hE hR [(0, .op []), (1, .as [] (.int .i64 ((k + 1 : Nat) : Int))), (2, .op [])] [] [(4, .int .i64 ((k + 1 : Nat) : Int)), (10, .int .i64 ((k : Nat) : Int)), (11, .int .i64 ((k + 1 : Nat) : Int))] [(.int .i64 (IntKind.i64.wrap (((k : Nat) : Int) + 1)) : Value) = (.int .i64 ((k + 1 : Nat) : Int) : Value)] (by kernel_rfl) (by kernel_rfl) (by kernel_rfl) ⟨congrArg (Value.int IntKind.i64) ((wrap_i64 ⟨by omega, by omega⟩).trans (by omega)), trivial⟩ ?_
      clear hE hR; intro a u hE hR
      refine opsNil ?_; refine thenN ?_
      exact ⟨⟨k + 1, v910, ob10, by omega, start_next hk ho hO10 (by rw [start_item]; rw [startR_no hc3]; try rfl), hE.sub (by kernel_rfl), _, ((hR.sub (List.Sublist.cons _ (List.Sublist.cons _ (List.Sublist.refl _)))).dropR (List.Sublist.cons _ (List.Sublist.refl _)))⟩, meas (k' := k + 1) (hE.get 4 _ (by kernel_rfl)) hm1 (by omega)⟩
  · refine condF hE (b := decide (((k : Nat) : Int) < ((l.length : Nat) : Int))) (by kernel_rfl) hc2 ?_
    have hkl2 : k = l.length := by have := of_decide_eq_false hc2; omega
    subst hkl2
    refine wp_exit ?_; refine thenE ?_; refine thenE ?_; refine blkE ?_; refine thenN ?_; refine wp_seq ?_
    refine enterR (idx := [0, 1]) (by kernel_rfl) ?_
    refine segV hE hR [(0, .op []), (1, .op [])] [] [(2, v)] [] (by kernel_rfl) (by kernel_rfl) (by kernel_rfl) trivial ?_
    clear hE hR; intro a u hE hR
    refine opsNil ?_; refine thenN ?_; refine wp_ret ?_
    refine retF hE hR [] (v) (by kernel_rfl) (by kernel_rfl) (by kernel_rfl) ?_
    refine ⟨v, l.map startI, rfl, ?_, by simp [itms], hR.below (by simp)⟩
    exact ItemsR.of_own (kn := []) (E := 118) (by simpa using hO) (by simp) hR (fun p hp => by obtain ⟨o, _, rfl⟩ := List.mem_map.1 hp; exact RowV.nil _)
end Go.Proofs.Ytkfaaeklkplhnaa
