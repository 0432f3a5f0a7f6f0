/- The law's back in one sentence. -/
import Derived.Test.YtkfaaeklkplhnaaSBack
namespace Go.Proofs.Ytkfaaeklkplhnaa
open Go.RowKit

theorem back_calls (s : Value) (L : List IV) (w : World) (hs : ItemsR w s L) (hlen : L.length ≤ 8) :
    Calls Try.prog 30 #[s] w fun e W' => ∃ s' L', e = .returned s' ∧ ItemsR W' s' L' ∧ itms L' = itms L ∧ Below w.heap.size w W' := by
  obtain ⟨A, c, rfl, h2, h3, h4, h5⟩ := hs
  rcases h4 with ⟨_, rfl, _⟩ | ⟨g, off, rfl, hr⟩
  · exact back_none w A c
  · exact back_some w g off c L hlen hr h5
end Go.Proofs.Ytkfaaeklkplhnaa
