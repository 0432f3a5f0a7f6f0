/- spec.Allows in one sentence. -/
import Derived.Test.YtkfaaeklkplhnaaSAllows
namespace Go.Proofs.Ytkfaaeklkplhnaa
open Go.RowKit

abbrev AlR (r : AlX) (w : World) : Ending → World → Prop := fun e W' => ∃ s' L', e = .returned (.tuple #[s', .bool r.is]) ∧ ItemsR W' s' L' ∧ itms L' = r.l ∧ Below w.heap.size w W'
theorem resEq_text (f1 : Int) (r1 : Vl) (f2 : Int) (r2 : Vl) : (((f1 : Int) == f2) && ((((r1.a : Int) == r2.a) && (((r1.b : Int) == r2.b) && (((r1.c : Int) == r2.c) && (((r1.d : Int) == r2.d) && true)))) && true)) = resEq f1 r1 f2 r2 := by
  rw [Bool.eq_iff_iff]
  simp [resEq]
theorem allows_calls (s : Value) (L : List IV) (ck co : Int) (cv : Vl) (cn f : Int) (r : Vl) (w : World) (hs : ItemsR w s L) (hok : ItemsOk (itms L)) (hc : cv.ok) (hlen : L.length ≤ 8) (hck : -9223372036854775808 ≤ ck ∧ ck ≤ 9223372036854775807) :
    Calls Try.prog 27 #[s, callA ck co cv cn, resA f r] w (AlR (allowsP (itms L) ck co cv f r) w) := by
  have hs' := hs
  obtain ⟨A, c, rfl, h2, h3, h4, h5⟩ := hs
  have HDO : ∀ W, ItemsR W (.slice A L.length c) L → Calls Try.prog 25 #[.slice A L.length c, callA ck co cv cn] W (DoR (doP (itms L) ck co cv) W) := fun W h => do_calls _ L ck co cv cn W h hok hc hlen hck
  unfold allowsP
  generalize doP (itms L) ck co cv = d at HDO ⊢
  cases h1 : resEq f r d.f d.r
  · simp only [h1, Bool.false_eq_true, if_false]
    cases h8 : resEq f r 8 Vl.z
    · simp only [Bool.false_eq_true, if_false]
      cases h9 : resEq f r 9 Vl.z
      · simp only [Bool.false_eq_true, if_false]
        exact (allows_no A L.length c L d ck co cv cn f r w hs' HDO ((resEq_text _ _ _ _).trans h1) ((resEq_text f r 8 Vl.z).trans h8) ((resEq_text f r 9 Vl.z).trans h9)).mono fun e W' ⟨he, hb⟩ => ⟨_, L, he, hs'.below hb, rfl, hb⟩
      · simp only [if_true]
        exact (allows_time A L.length c L d ck co cv cn f r w hs' HDO ((resEq_text _ _ _ _).trans h1) ((resEq_text f r 8 Vl.z).trans h8) ((resEq_text f r 9 Vl.z).trans h9)).mono fun e W' ⟨he, hb⟩ => ⟨_, L, he, hs'.below hb, rfl, hb⟩
    · simp only [if_true]
      exact (allows_busy A L.length c L d ck co cv cn f r w hs' HDO ((resEq_text _ _ _ _).trans h1) ((resEq_text f r 8 Vl.z).trans h8)).mono fun e W' ⟨he, hb⟩ => ⟨_, L, he, hs'.below hb, rfl, hb⟩
  · simp only [h1, if_true]
    exact (allows_yes A L.length c L d ck co cv cn f r w hs' HDO ((resEq_text _ _ _ _).trans h1)).mono fun e W' ⟨s2, L2, he, hi, hl, hb⟩ => ⟨s2, L2, he, hi, hl, hb⟩
end Go.Proofs.Ytkfaaeklkplhnaa
