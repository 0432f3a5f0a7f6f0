/- What there is at first. -/
import Derived.Test.YtkfaaeklkplhnaaSAllowsAll
namespace Go.Proofs.Ytkfaaeklkplhnaa
open Go.RowKit

abbrev Ob.init (o : Ob) : Vl := ⟨o.i0, o.i1, o.i2, o.i3⟩
def startV (o : Ob) : Vl := if kindP o = 2 ∨ kindP o = 3 then clipP o.init o.width else if kindP o = 4 then ⟨o.i0, 0, 0, 0⟩ else Vl.z
abbrev startP (o : Ob) : Itm := ⟨o, [], startV o⟩
abbrev startI (o : Ob) : IV := (startP o, .slice none 0 0)
def obF (o : Ob) : List Value := o.cells
theorem obF_len (o : Ob) : (obF o).length = 10 := rfl
/-- Objects in memory. -/
def ObsR (w : World) (s : Value) (l : List Ob) : Prop := ∃ A c, s = .slice A l.length c ∧ l.length ≤ c ∧ c ≤ 9223372036854775807 ∧ ((A = none ∧ l = [] ∧ c = 0) ∨ ∃ g o, A = some ⟨g, o, none⟩ ∧ w.rangeAt g o (l.flatMap obF))
theorem ObsR.below {w w' : World} {s : Value} {l : List Ob} (h : ObsR w s l) (hb : Below w.heap.size w w') : ObsR w' s l := by
  obtain ⟨A, c, h1, h2, h3, h4⟩ := h
  refine ⟨A, c, h1, h2, h3, ?_⟩
  rcases h4 with h4 | ⟨g, o, ha, hr⟩
  · exact .inl h4
  · exact .inr ⟨g, o, ha, rangeAt_below hr hb⟩
theorem take_next {α : Type} {l : List α} {k : Nat} (hk : k < l.length) {o : α} (ho : o = l[k]) : l.take (k + 1) = l.take k ++ [o] := by
  subst ho
  rw [List.take_succ_eq_append_getElem hk]
theorem start_item (o : Ob) : itF (startI o) = [.int .i64 o.kind, .int .i64 o.cap, .int .i64 o.width, .int .i64 o.retry, .int .i64 o.src, .int .i64 o.dst, .int .u32 o.i0, .int .u32 o.i1, .int .u32 o.i2, .int .u32 o.i3, .slice none 0 0, .int .u32 (startV o).a, .int .u32 (startV o).b, .int .u32 (startV o).c, .int .u32 (startV o).d] := by
  unfold itF
  exact itC_eq _ _
theorem start_next {E : TypeId} {l : List Ob} {k : Nat} (hk : k < l.length) {o : Ob} (ho : o = l[k]) {v : Value} {news : List Value} {ob : List KB} (h : OwnS 15 E v (k + 1) (((l.take k).map startI).flatMap itF ++ news) ob) (hn : news = itF (startI o)) : OwnS 15 E v (k + 1) (((l.take (k + 1)).map startI).flatMap itF) ob := by
  rw [take_next hk ho, List.map_append, List.flatMap_append, ← List.append_nil (itF (startI o))] at *
  subst hn
  simpa using h
end Go.Proofs.Ytkfaaeklkplhnaa
