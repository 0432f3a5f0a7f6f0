/- States handed over to the document's side. -/
import Derived.Test.YtkfaaeklkplhnaaSSame
namespace Go.Proofs.Ytkfaaeklkplhnaa
open Go.RowKit

theorem back_next {E : TypeId} {L : List IV} {k : Nat} (hk : k < L.length) {p : IV} (hp : p = L[k]) {v : Value} {m : Nat} {news : List Value} {ob : List KB} (h : OwnS 15 E v m ((L.take k).flatMap itF ++ news) ob) (hn : news = itF p) : OwnS 15 E v m ((L.take (k + 1)).flatMap itF) ob := by
  subst hn hp
  rw [List.take_succ_eq_append_getElem hk, List.flatMap_append]
  simpa using h
theorem same_calls (a b : Value) (La Lb : List IV) (w : World) (ha : ItemsR w a La) (hb : ItemsR w b Lb) (hit : itms La = itms Lb) (hlen : La.length ≤ 8) (hfew : ∀ x ∈ itms La, x.row.length ≤ 64) :
    Calls Try.prog 29 #[a, b] w fun e W' => e = .returned (.bool true) ∧ Below w.heap.size w W' := by
  have hl : Lb.length = La.length := by have := congrArg List.length hit; simpa using this.symm
  obtain ⟨A, ca, rfl, h2, h3, h4, h5⟩ := ha
  obtain ⟨B, cb, rfl, k2, k3, k4, k5⟩ := hb
  rcases h4 with ⟨_, rfl, _⟩ | ⟨ga, oa, rfl, hra⟩
  · have : Lb = [] := List.eq_nil_of_length_eq_zero (by simpa using hl)
    subst this
    exact same_none w A B ca cb
  · rcases k4 with ⟨_, rfl, _⟩ | ⟨gb, ob, rfl, hrb⟩
    · have : La = [] := List.eq_nil_of_length_eq_zero (by simpa using hl.symm)
      subst this
      exact same_none w _ B ca cb
    · exact same_some w ga oa ca gb ob cb La Lb hlen hit hl hra hrb h5 k5 (fun p hp => hfew _ (List.mem_map_of_mem hp))
end Go.Proofs.Ytkfaaeklkplhnaa
