/- The document's Allows in one sentence. -/
import Derived.Test.YtkfaaeklkplhnaaSAllowsR
namespace Go.Proofs.Ytkfaaeklkplhnaa
open Go.RowKit

theorem resEq_flip (f1 : Int) (r1 : Vl) (f2 : Int) (r2 : Vl) : resEq f1 r1 f2 r2 = resEq f2 r2 f1 r1 := by
  rw [Bool.eq_iff_iff]
  simp only [resEq, decide_eq_true_eq]
  constructor <;> (rintro ⟨h1, h2, h3, h4, h5⟩; exact ⟨h1.symm, h2.symm, h3.symm, h4.symm, h5.symm⟩)
theorem resEq_89 {f : Int} {r : Vl} (h : resEq f r 8 Vl.z = true) : resEq f r 9 Vl.z = false := by
  simp only [resEq, decide_eq_true_eq, decide_eq_false_iff_not] at h ⊢
  omega
theorem allowsR_calls (s : Value) (L : List IV) (ck co : Int) (cv : Vl) (cn f : Int) (r : Vl) (w : World) (hs : ItemsR w s L) (hok : ItemsG (itms L)) (hc : cv.ok) (hlen : L.length ≤ 8) (hck : -9223372036854775808 ≤ ck ∧ ck ≤ 9223372036854775807) :
    Calls Try.prog 28 #[s, callA ck co cv cn, resA f r] w (AlR (allowsP (itms L) ck co cv f r) w) := by
  have hs' := hs
  obtain ⟨A, c, rfl, h2, h3, h4, h5⟩ := hs
  have HDO : ∀ W, ItemsR W (.slice A L.length c) L → Calls Try.prog 26 #[.slice A L.length c, callA ck co cv cn] W (DoR (doP (itms L) ck co cv) W) := fun W h => ref_do_calls _ L ck co cv cn W h hok hc hlen hck
  unfold allowsP
  generalize doP (itms L) ck co cv = d at HDO ⊢
  cases h1 : resEq f r d.f d.r
  · simp only [h1, Bool.false_eq_true, if_false]
    have h1' := (resEq_text _ _ _ _).trans ((resEq_flip f r d.f d.r).symm.trans h1)
    cases h8 : resEq f r 8 Vl.z
    · simp only [Bool.false_eq_true, if_false]
      cases h9 : resEq f r 9 Vl.z
      · simp only [Bool.false_eq_true, if_false]
        exact (allowsR_no A L.length c L d ck co cv cn f r w hs' HDO h1' ((resEq_text f r 8 Vl.z).trans h8) ((resEq_text f r 9 Vl.z).trans h9)).mono fun e W' ⟨he, hb⟩ => ⟨_, L, he, hs'.below hb, rfl, hb⟩
      · simp only [if_true]
        exact (allowsR_time A L.length c L d ck co cv cn f r w hs' HDO h1' ((resEq_text f r 8 Vl.z).trans h8) ((resEq_text f r 9 Vl.z).trans h9)).mono fun e W' ⟨he, hb⟩ => ⟨_, L, he, hs'.below hb, rfl, hb⟩
    · simp only [if_true]
      exact (allowsR_busy A L.length c L d ck co cv cn f r w hs' HDO h1' ((resEq_text f r 8 Vl.z).trans h8) ((resEq_text f r 9 Vl.z).trans (resEq_89 h8))).mono fun e W' ⟨he, hb⟩ => ⟨_, L, he, hs'.below hb, rfl, hb⟩
  · simp only [h1, if_true]
    exact (allowsR_yes A L.length c L d ck co cv cn f r w hs' HDO ((resEq_text _ _ _ _).trans ((resEq_flip f r d.f d.r).symm.trans h1))).mono fun e W' ⟨s2, L2, he, hi, hl, hb⟩ => ⟨s2, L2, he, hi, hl, hb⟩
end Go.Proofs.Ytkfaaeklkplhnaa
