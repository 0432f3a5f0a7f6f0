/- What there is at first, at any objects. -/
import Derived.Test.YtkfaaeklkplhnaaSAlive
namespace Go.Proofs.Ytkfaaeklkplhnaa
open Go.RowKit

/-- Objects in memory; of none, anything. -/
def ObsW (w : World) (s : Value) (l : List Ob) : Prop := ∃ A c, s = .slice A l.length c ∧ (l = [] ∨ ∃ g o, A = some ⟨g, o, none⟩ ∧ w.rangeAt g o (l.flatMap obF))
theorem ObsW.below {w w' : World} {s : Value} {l : List Ob} (h : ObsW w s l) (hb : Below w.heap.size w w') : ObsW w' s l := by
  obtain ⟨A, c, h1, h4⟩ := h
  refine ⟨A, c, h1, ?_⟩
  rcases h4 with h4 | ⟨g, o, ha, hr⟩
  · exact .inl h4
  · exact .inr ⟨g, o, ha, rangeAt_below hr hb⟩
theorem startB_calls (s : Value) (l : List Ob) (w : World) (h : ObsW w s l) (hlen : l.length ≤ 8) :
    Calls Try.prog 23 #[s] w fun e W' => ∃ s L, e = .returned s ∧ ItemsR W' s L ∧ itms L = l.map startP ∧ Below w.heap.size w W' := by
  obtain ⟨A, c, rfl, rfl | ⟨g, o, rfl, hr⟩⟩ := h
  · exact start_none w A c
  · exact start_calls w g o c l hlen hr
theorem startRB_calls (s : Value) (l : List Ob) (w : World) (h : ObsW w s l) (hlen : l.length ≤ 8) :
    Calls Try.prog 24 #[s] w fun e W' => ∃ s L, e = .returned s ∧ ItemsR W' s L ∧ itms L = l.map startP ∧ Below w.heap.size w W' := by
  obtain ⟨A, c, rfl, rfl | ⟨g, o, rfl, hr⟩⟩ := h
  · exact startR_none w A c
  · exact startR_calls w g o c l hlen hr
theorem startG {l : List Ob} (h : ∀ o ∈ l, 0 ≤ o.i0 ∧ o.i0 < 4294967296) : ItemsG (l.map startP) := fun x hx => by
  obtain ⟨o, ho, rfl⟩ := List.mem_map.1 hx
  exact startP_good o (h o ho)
theorem St8.below {w w' : World} {s x : Value} {L M : List IV} (h : St8 w s x L M) (hb : Below w.heap.size w w') : St8 w' s x L M := ⟨h.a.below hb, h.b.below hb, h.eq, h.g, h.len, h.lenM⟩
end Go.Proofs.Ytkfaaeklkplhnaa
