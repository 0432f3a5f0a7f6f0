/- Two states of the same items. -/
import Derived.Test.YtkfaaeklkplhnaaSRefAll
namespace Go.Proofs.Ytkfaaeklkplhnaa
open Go.RowKit

theorem same_at {La Lb : List IV} (h : itms La = itms Lb) {k : Nat} (hk : k < La.length) (hk2 : k < Lb.length) {x y : Itm} {ra rb : Value} (hp : (x, ra) = La[k]) (hq : (y, rb) = Lb[k]) : y = x := by
  have h1 := congrArg (fun l : List Itm => l[k]?) h
  simp only [itms, List.getElem?_map, List.getElem?_eq_getElem hk, List.getElem?_eq_getElem hk2, Option.map_some, Option.some.injEq] at h1
  rw [← hp, ← hq] at h1
  exact h1.symm
theorem rowSome {w : World} {A : Option Addr} {n c : Nat} {l : List Vl} (h : RowV w (.slice A n c) l) (hne : l ≠ []) : ∃ g o, A = some ⟨g, o, none⟩ ∧ w.rangeAt g o (l.flatMap Vl.cells) := by
  obtain ⟨_, _, _, h4⟩ := h.range
  rcases h4 with ⟨_, h, _⟩ | ⟨g, o, h, hr⟩
  · exact absurd h hne
  · exact ⟨g, o, h, by unfold flatV at hr; exact hr⟩
theorem rowAt {w : World} {g o : Nat} {l : List Vl} (h : w.rangeAt g o (l.flatMap Vl.cells)) {j : Nat} (hj : j < l.length) {y : Vl} (hy : y = l[j]) : w.rangeAt g (o + j * 4) [.int .u32 y.a, .int .u32 y.b, .int .u32 y.c, .int .u32 y.d] := by
  subst hy
  exact flat_range (f := Vl.cells) (m := 4) (fun _ => rfl) h hj
end Go.Proofs.Ytkfaaeklkplhnaa
