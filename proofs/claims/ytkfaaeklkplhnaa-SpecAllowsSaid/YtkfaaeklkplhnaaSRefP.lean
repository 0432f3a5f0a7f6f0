/- What the document's Do leaves of a copy: one item is stored into, the rest stays. -/
import Derived.Test.YtkfaaeklkplhnaaEngI
import Derived.Test.YtkfaaeklkplhnaaSCopy
import Derived.Test.YtkfaaeklkplhnaaSDoAll
import Derived.Test.YtkfaaeklkplhnaaWHolds
import Derived.Test.YtkfaaeklkplhnaaWRight2
import Derived.Test.YtkfaaeklkplhnaaWClip2
namespace Go.Proofs.Ytkfaaeklkplhnaa
open Go.RowKit

theorem wrapU (n : Nat) (h : n < 4294967296) : IntKind.u32.wrap (n : Int) = (n : Int) := by rw [IntKind.wrap_u32]; omega
theorem orP_eq {a b : Int} (ha : 0 ≤ a ∧ a < 4294967296) (hb : 0 ≤ b ∧ b < 4294967296) : ((a.toNat ||| b.toNat : Nat) : Int) = orP a b := by
  obtain ⟨A, rfl⟩ := Int.eq_ofNat_of_zero_le ha.1
  obtain ⟨B, rfl⟩ := Int.eq_ofNat_of_zero_le hb.1
  have h1 : A < 2 ^ 32 := by omega
  have h2 : B < 2 ^ 32 := by omega
  unfold orP
  rw [BitVec.ofInt_natCast, BitVec.ofInt_natCast, BitVec.toNat_or, BitVec.toNat_ofNat, BitVec.toNat_ofNat, Nat.mod_eq_of_lt h1, Nat.mod_eq_of_lt h2, Int.toNat_natCast, Int.toNat_natCast]
  exact (wrapU _ (Nat.or_lt_two_pow h1 h2)).symm
theorem andNotP_eq {a b : Int} (ha : 0 ≤ a ∧ a < 4294967296) (hb : 0 ≤ b ∧ b < 4294967296) : ((a.toNat &&& (4294967295 - b).toNat : Nat) : Int) = andNotP a b := by
  obtain ⟨A, rfl⟩ := Int.eq_ofNat_of_zero_le ha.1
  obtain ⟨B, rfl⟩ := Int.eq_ofNat_of_zero_le hb.1
  have h1 : A < 2 ^ 32 := by omega
  have h2 : B < 2 ^ 32 := by omega
  unfold andNotP
  rw [BitVec.ofInt_natCast, BitVec.ofInt_natCast, BitVec.toNat_and, BitVec.toNat_not, BitVec.toNat_ofNat, BitVec.toNat_ofNat, Nat.mod_eq_of_lt h1, Nat.mod_eq_of_lt h2, Int.toNat_natCast]
  have h3 : ((4294967295 : Int) - ((B : Nat) : Int)).toNat = 2 ^ 32 - 1 - B := by omega
  rw [h3]
  exact (wrapU _ (Nat.lt_of_le_of_lt Nat.and_le_left h1)).symm

theorem perm_erase {α : Type} : ∀ (l : List α) (i : Nat) (h : i < l.length), List.Perm (l[i] :: l.eraseIdx i) l
  | [], i, h => by simp at h
  | x :: l, 0, h => by simp
  | x :: l, i + 1, h => by
    simp only [List.getElem_cons_succ, List.eraseIdx_cons_succ]
    exact (List.Perm.swap _ _ _).trans (List.Perm.cons _ (perm_erase l i (by simpa using h)))
structure CopyF (L L2 : List IV) (i : Nat) (x : Itm) (g cap : Nat) (pr po : List Value) (gr cr : Nat) (rest : List Value) (rs ob : List KB) : Prop where
  it : itms L2 = itms L
  at' : L2[i]? = some (x, .slice (some ⟨gr, 0, none⟩) x.row.length cr)
  c1 : L.length ≤ cap
  c2 : cap ≤ maxLen
  pre : pr = (L2.take i).flatMap itF
  post : ∃ tl, po = (L2.drop (i + 1)).flatMap itF ++ tl
  own : OwnS 4 58 (.slice (some ⟨gr, 0, none⟩) x.row.length cr) x.row.length (flatV x.row) ob
  obe : ob = [⟨gr, 0, flatV x.row ++ rest, 58, true⟩]
  c3 : x.row.length ≤ cr
  c4 : cr ≤ maxLen
  oth : ∀ k p, k ≠ i → L2[k]? = some p → ∃ e ∈ rs, OwnRow p e
abbrev cellsI (x : Itm) (rv : Value) : List Value := [.int .i64 x.o.kind, .int .i64 x.o.cap, .int .i64 x.o.width, .int .i64 x.o.retry, .int .i64 x.o.src, .int .i64 x.o.dst, .int .u32 x.o.i0, .int .u32 x.o.i1, .int .u32 x.o.i2, .int .u32 x.o.i3, rv, .int .u32 x.v.a, .int .u32 x.v.b, .int .u32 x.v.c, .int .u32 x.v.d]
abbrev CopyAt (L : List IV) (i : Nat) (x : Itm) (w : World) : Ending → World → Prop := fun e W' => ∃ g cap pr po gr cr rest rs ob L2, e = .returned (.slice (some ⟨g, 0, none⟩) L.length cap) ∧ CopyF L L2 i x g cap pr po gr cr rest rs ob ∧ ∃ H, Rep [(w, fun _ => True)] W' H (⟨g, 0 + i * 15, cellsI x (.slice (some ⟨gr, 0, none⟩) x.row.length cr), 118, false⟩ :: ⟨g, 0, pr, 118, false⟩ :: ⟨g, 0 + i * 15 + 15, po, 118, false⟩ :: (rs ++ ob)) []
theorem copyAt (w : World) (g off c : Nat) (L : List IV) (hlen : L.length ≤ 8) (hrl : w.rangeAt g off (L.flatMap itF)) (hrows : ∀ p ∈ L, RowV w p.2 p.1.row) (hfew : ∀ p ∈ L, p.1.row.length ≤ 64) (i : Nat) (hi : i < L.length) :
    Calls Try.prog 52 #[.slice (some ⟨g, off, none⟩) L.length c] w (CopyAt L i L[i].1 w) :=
  (copy_calls w g off c L hlen hrl hrows hfew).mono fun e W' ⟨v, L2, rs, ob, he, hit, hO, hks, H, hR⟩ => by
    obtain ⟨_, ⟨rfl, hz, _⟩ | ⟨g2, cap, rest0, rfl, rfl, h1, h2, h3⟩⟩ := hO
    · omega
    have hl : L2.length = L.length := by have := congrArg List.length hit; simpa using this
    have hi2 : i < L2.length := by omega
    have hir : i < rs.length := by rw [hks.1]; exact hi2
    have hx : L2[i].1 = L[i].1 := by
      have h := congrArg (fun l : List Itm => l[i]?) hit
      simp only [itms, List.getElem?_map, List.getElem?_eq_getElem hi, List.getElem?_eq_getElem hi2, Option.map_some, Option.some.injEq] at h
      exact h
    obtain ⟨cr, rest, hp2, hre, hc1, hc2, hln⟩ := hks.2 i hi2 hir
    rw [hx] at hp2 hre hc1 hln
    refine ⟨g2, cap, (L2.take i).flatMap itF, (L2.drop (i + 1)).flatMap itF ++ rest0, rs[i].b, cr, rest, rs.eraseIdx i, [rs[i]], L2, he, ?_, H, ?_⟩
    · refine ⟨hit, ?_, h1, h2, rfl, ⟨rest0, rfl⟩, ⟨by rw [flatV_length], .inr ⟨_, cr, rest, rfl, by rw [← hre], hc1, hc2, hln⟩⟩, by rw [← hre], hc1, hc2, fun k p hk hp => ?_⟩
      · rw [List.getElem?_eq_getElem hi2]
        exact congrArg some (Prod.ext hx hp2)
      · obtain ⟨hk2, rfl⟩ := List.getElem?_eq_some_iff.1 hp
        have hkr : k < rs.length := by rw [hks.1]; exact hk2
        exact ⟨rs[k], List.mem_eraseIdx_iff_getElem.2 ⟨k, hkr, hk, rfl⟩, hks.2 k hk2 hkr⟩
    · have hpm : List.Perm rs (rs.eraseIdx i ++ [rs[i]]) := (perm_erase rs i hir).symm.trans (List.perm_append_singleton _ _).symm
      have h4 := hR.perm ((List.perm_append_singleton _ _).trans (List.Perm.cons _ hpm))
      have hsp : L2.flatMap itF ++ rest0 = (L2.take i).flatMap itF ++ (itF L2[i] ++ ((L2.drop (i + 1)).flatMap itF ++ rest0)) := by rw [flat_split hi2]; simp
      rw [hsp] at h4
      have h5 := h4.split (0 + i * 15) (by rw [flat_length itF_len, List.length_take]; omega)
      have hif : itF L2[i] = cellsI L[i].1 (.slice (some ⟨rs[i].b, 0, none⟩) L[i].1.row.length cr) := by
        unfold itF
        rw [hp2, hx, itC_eq]
      rw [hif] at h5
      exact h5
theorem OwnRow.rowV {p : IV} {e : KB} (h : OwnRow p e) {u : World} (hr : u.rangeAt e.b e.o e.cs) : RowV u p.2 p.1.row := by
  obtain ⟨cap, rest, hp, he, h1, h2, _⟩ := h
  rw [hp]
  rw [he] at hr
  exact RowV.mk' h1 (by unfold maxLen at h2; omega) (range_app hr)
variable {L L2 : List IV} {i : Nat} {x : Itm} {g cap : Nat} {pr po : List Value} {gr cr : Nat} {rest : List Value} {rs ob : List KB} {u : World}
theorem CopyF.rowV (h : CopyF L L2 i x g cap pr po gr cr rest rs ob) (hr : ∀ e ∈ ob, u.rangeAt e.b e.o e.cs) : RowV u (.slice (some ⟨gr, 0, none⟩) x.row.length cr) x.row := by
  have h1 := hr _ (h.obe ▸ List.mem_cons_self)
  have h2 := h.c4
  exact RowV.mk' h.c3 (by unfold maxLen at h2; omega) (range_app h1)
/-- The row's own block in pieces: its first place, the rest. -/
theorem recvSplit {w : World} {H : Nat} {o : Ob} {v a : Vl} {row : List Vl} {kn : List KB} (h : CopyF L L2 i ⟨o, a :: row, v⟩ g cap pr po gr cr rest rs ob) (hR : Rep [(w, fun _ => True)] u H (kn ++ (rs ++ ob)) []) :
    Rep [(w, fun _ => True)] u H (⟨gr, 0, a.cells, 58, false⟩ :: ⟨gr, 4, flatV row ++ rest, 58, false⟩ :: (kn ++ rs)) [] := by
  have h1 := h.obe
  subst h1
  rw [← List.append_assoc] at hR
  have h2 := hR.perm (List.perm_append_singleton _ _)
  rw [flatV_cons, List.append_assoc, ← List.nil_append (a.cells ++ (flatV row ++ rest))] at h2
  have h3 := h2.split 0 rfl
  exact h3.sub (List.Sublist.cons_cons _ (List.Sublist.cons _ (List.Sublist.refl _)))
theorem recvRow {o : Ob} {v a : Vl} {row : List Vl} {o9 : Nat} (h : CopyF L L2 i ⟨o, a :: row, v⟩ g cap pr po gr cr rest rs ob) (h9 : 1 < cr → o9 = 0 + 4) (hr : u.rangeAt gr 4 (flatV row ++ rest)) : RowV u (.slice (some ⟨gr, o9, none⟩) row.length (cr - 1)) row := by
  have h1 := h.c3
  have h2 := h.c4
  simp only [List.length_cons] at h1
  unfold maxLen at h2
  refine RowV.mk' (by omega) (by omega) ?_
  cases row with
  | nil => rw [flatV_nil]; intro j u hu; simp at hu
  | cons b l =>
    simp only [List.length_cons] at h1
    rw [h9 (by omega)]
    exact range_app hr
theorem OwnS.rowV {E : TypeId} {v : Value} {m : Nat} {xs : List Value} {row : List Vl} {ob : List KB} (h : OwnS 4 E v m xs ob) (hm : m = row.length) (hx : xs = flatV row) (hr : ∀ e ∈ ob, u.rangeAt e.b e.o e.cs) : RowV u v row := by
  subst hm hx
  obtain ⟨h0, ⟨rfl, h1, _⟩ | ⟨g, cap, rest, rfl, rfl, h1, h2, h3⟩⟩ := h
  · obtain rfl := List.eq_nil_of_length_eq_zero h1
    exact RowV.nil _
  · exact RowV.mk' h1 (by unfold maxLen at h2; omega) (range_app (hr _ List.mem_cons_self))
theorem CopyF.made (h : CopyF L L2 i x g cap pr po gr cr rest rs ob) (hi : i < L.length) (y : Itm) (rv : Value) (h1 : u.rangeAt g (0 + i * 15) (cellsI y rv)) (h2 : u.rangeAt g 0 pr) (h3 : u.rangeAt g (0 + i * 15 + 15) po) (h4 : ∀ e ∈ rs, u.rangeAt e.b e.o e.cs) (hrow : RowV u rv y.row) :
    ∃ L', ItemsR u (.slice (some ⟨g, 0, none⟩) L.length cap) L' ∧ itms L' = (itms L).set i y := by
  have hl : L2.length = L.length := by have := congrArg List.length h.it; simpa using this
  have hi2 : i < L2.length := by omega
  refine ⟨L2.set i (y, rv), ⟨_, cap, by rw [List.length_set, hl], by rw [List.length_set, hl]; exact h.c1, by have := h.c2; unfold maxLen at this; omega, .inr ⟨g, 0, rfl, ?_⟩, fun p hp => ?_⟩, by rw [itms, List.map_set, ← itms, h.it]⟩
  · have hi3 : i < (L2.set i (y, rv)).length := by simpa using hi2
    rw [flat_split hi3, List.take_set_of_le (Nat.le_refl _), List.drop_set_of_lt (by omega), List.getElem_set_self]
    obtain ⟨tl, hpo⟩ := h.post
    have hpl : pr.length = i * 15 := by rw [h.pre, flat_length itF_len, List.length_take]; omega
    rw [← h.pre]
    refine range_join h2 (range_join ?_ ?_)
    · rw [hpl]
      show u.rangeAt g _ (itC y rv)
      rw [itC_eq]
      exact h1
    · rw [hpl, itF_len]
      rw [hpo] at h3
      exact range_app h3
  · obtain ⟨k, hk, rfl⟩ := List.getElem_of_mem hp
    by_cases hki : k = i
    · subst hki
      rw [List.getElem_set_self]
      exact hrow
    · have hk2 : k < L2.length := by simpa using hk
      rw [List.getElem_set_ne (Ne.symm hki)]
      obtain ⟨e, he, ho⟩ := h.oth k _ hki (List.getElem?_eq_getElem hk2)
      exact ho.rowV (h4 e he)
end Go.Proofs.Ytkfaaeklkplhnaa
