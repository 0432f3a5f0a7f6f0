/- spec.Do in one sentence. -/
import Derived.Test.YtkfaaeklkplhnaaSDo
namespace Go.Proofs.Ytkfaaeklkplhnaa
open Go.RowKit

abbrev DoR (r : DoX) (w : World) : Ending → World → Prop := fun e W' => ∃ s' L', e = .returned (.tuple #[s', resA r.f r.r]) ∧ ItemsR W' s' L' ∧ itms L' = r.l ∧ Below w.heap.size w W'
theorem ItemsR.set {w W : World} {g2 : Nat} {L : List IV} {i : Nat} {y : Itm} {rv : Value} {s : Value} (h : ItemsR w s L) (hb : Below w.heap.size w W) (hr : W.rangeAt g2 0 ((L.set i (y, rv)).flatMap itF)) (hy : RowV W rv y.row) : ItemsR W (.slice (some ⟨g2, 0, none⟩) L.length L.length) (L.set i (y, rv)) := by
  obtain ⟨A, c, h1, h2, h3, h4, h5⟩ := h
  refine ⟨_, L.length, by rw [List.length_set], by rw [List.length_set]; exact Nat.le_refl _, by omega, .inr ⟨g2, 0, rfl, hr⟩, fun p hp => ?_⟩
  rcases List.mem_or_eq_of_mem_set hp with hp | rfl
  · exact (h5 p hp).below hb
  · exact hy
theorem do_calls (s : Value) (L : List IV) (ck co : Int) (cv : Vl) (cn : Int) (w : World) (hs : ItemsR w s L) (hok : ItemsOk (itms L)) (hc : cv.ok) (hlen : L.length ≤ 8) (hck : -9223372036854775808 ≤ ck ∧ ck ≤ 9223372036854775807) :
    Calls Try.prog 25 #[s, callA ck co cv cn] w (DoR (doP (itms L) ck co cv) w) := by
  have hs' := hs
  obtain ⟨A, c, rfl, h2, h3, h4, h5⟩ := hs
  unfold doP
  by_cases hk : kindOk (plainP ck) = true
  · rw [if_pos hk]
    by_cases ho : 0 ≤ co ∧ co < ((itms L).length : Int)
    · rw [if_pos ho]
      rw [List.length_map] at ho
      obtain ⟨i, rfl⟩ := Int.eq_ofNat_of_zero_le ho.1
      have hi : i < L.length := by omega
      rw [Int.toNat_natCast]
      have hgi : (itms L)[i]? = some L[i].1 := by rw [List.getElem?_map, List.getElem?_eq_getElem hi]; rfl
      rw [hgi]
      simp only
      obtain ⟨g, off, ha, hx, hrow, hrg⟩ := hs'.elem hi
      subst ha
      have hv : L[i].1.v.ok := hok _ (List.mem_of_getElem? hgi)
      have HD := fun (W : World) (hr : RowV W L[i].2 L[i].1.row) => doneS_calls (plainP ck) L[i].1 L[i].2 ck (i : Int) cv cn W hr hv hc
      generalize doneP (plainP ck) L[i].1 cv = d at HD ⊢
      cases hch : d.ch
      · rw [if_neg (by simp)]
        exact (do_same g off c L L[i].1 L[i].2 d ck i cv cn w hck hk hi hlen hx hrow HD hch).mono fun e W' ⟨he, hb⟩ => ⟨_, L, he, hs'.below hb, rfl, hb⟩
      · rw [if_pos rfl]
        refine (do_changed g off c L L[i].1 L[i].2 d ck i cv cn w hck hk hi hlen hx hrow HD hch hrg h5).mono fun e W' ⟨g2, rv2, he, hr, hy, hb⟩ => ⟨_, _, he, hs'.set hb hr hy, ?_, hb⟩
        rw [itms, List.map_set]
    · rw [if_neg ho]
      rw [List.length_map] at ho
      exact (do_missing A L.length c ck co cv cn w hck hk (by omega)).mono fun e W' ⟨he, hb⟩ => ⟨_, L, he, hs'.below hb, rfl, hb⟩
  · rw [if_neg hk]
    exact (do_bad A L.length c ck co cv cn w hck (by simpa using hk)).mono fun e W' ⟨he, hb⟩ => ⟨_, L, he, hs'.below hb, rfl, hb⟩
/-- What a call may be answered, and the state behind it. -/
structure AlX where
  l : List Itm
  is : Bool
def resEq (f1 : Int) (r1 : Vl) (f2 : Int) (r2 : Vl) : Bool := decide (f1 = f2 ∧ r1.a = r2.a ∧ r1.b = r2.b ∧ r1.c = r2.c ∧ r1.d = r2.d)
def allowsP (l : List Itm) (kind obj : Int) (cv : Vl) (f : Int) (r : Vl) : AlX :=
  let d := doP l kind obj cv
  if resEq f r d.f d.r = true then ⟨d.l, true⟩
  else if resEq f r 8 Vl.z = true then ⟨l, decide (d.f = 0) && (decide (kind = 5) || decide (kind = 6))⟩
  else if resEq f r 9 Vl.z = true then ⟨l, (decide (d.f = 6) || decide (d.f = 7)) && (decide (14 ≤ kind) && decide (kind ≤ 17))⟩
  else ⟨l, false⟩
end Go.Proofs.Ytkfaaeklkplhnaa
