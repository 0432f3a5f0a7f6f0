/- Items with rows of their own. -/
import Derived.Test.YtkfaaeklkplhnaaEngH
import Derived.Test.YtkfaaeklkplhnaaSStart
namespace Go.Proofs.Ytkfaaeklkplhnaa
open Go.RowKit

def OwnRow (p : IV) (e : KB) : Prop := ∃ cap rest, p.2 = .slice (some ⟨e.b, 0, none⟩) p.1.row.length cap ∧ e = ⟨e.b, 0, flatV p.1.row ++ rest, 58, true⟩ ∧ p.1.row.length ≤ cap ∧ cap ≤ maxLen ∧ (flatV p.1.row ++ rest).length = cap * 4
def RowKs (L : List IV) (rs : List KB) : Prop := rs.length = L.length ∧ ∀ k (h : k < L.length) (h' : k < rs.length), OwnRow L[k] rs[k]
theorem RowKs.nil : RowKs [] [] := ⟨rfl, fun k h => by simp at h⟩
theorem RowKs.snoc {L : List IV} {rs : List KB} (h : RowKs L rs) {p : IV} {e : KB} (he : OwnRow p e) : RowKs (L ++ [p]) (rs ++ [e]) := by
  refine ⟨by simp [h.1], fun k h1 h2 => ?_⟩
  by_cases hk : k < L.length
  · rw [List.getElem_append_left hk, List.getElem_append_left (by rw [h.1]; exact hk)]
    exact h.2 k hk _
  · have hL : k = L.length := by simp at h1; omega
    subst hL
    have e1 : (L ++ [p])[L.length] = p := by simp
    have e2 : (rs ++ [e])[L.length] = e := by simp [← h.1]
    rw [e1, e2]
    exact he
theorem copy_own {E : TypeId} {v : Value} {m : Nat} {L : List IV} {p : IV} {news : List Value} {ob : List KB} (h : OwnS 15 E v m (L.flatMap itF ++ news) ob) (hn : news = itF p) : OwnS 15 E v m ((L ++ [p]).flatMap itF) ob := by
  subst hn
  rw [List.flatMap_append]
  simpa using h
theorem itms_next {L L2 : List IV} {k : Nat} (hk : k < L.length) {x : Itm} {rv rv2 : Value} (hp : (x, rv) = L[k]) (h : itms L2 = (itms L).take k) : itms (L2 ++ [(x, rv2)]) = (itms L).take (k + 1) := by
  have hk' : k < (itms L).length := by simpa using hk
  rw [itms, List.map_append, ← itms, h, List.take_succ_eq_append_getElem hk']
  simp [← hp]
theorem RowV.news {w : World} {A : Option Addr} {n c : Nat} {l : List Vl} (h : RowV w (.slice A n c) l) : (∀ ad, A = some ad → ∀ j u, (flatV l)[j]? = some u → w.cell? (ad.add j) = some u) ∧ (A = none → n = 0) := by
  obtain ⟨hn, _, _, h4⟩ := h.range
  rcases h4 with ⟨rfl, rfl, _⟩ | ⟨g, o, rfl, hr⟩
  · exact ⟨(fun _ h => by cases h), fun _ => hn⟩
  · refine ⟨fun ad h j u hu => ?_, fun h => by cases h⟩
    cases h
    rw [add_flat _ rfl]
    exact hr j u hu
end Go.Proofs.Ytkfaaeklkplhnaa
