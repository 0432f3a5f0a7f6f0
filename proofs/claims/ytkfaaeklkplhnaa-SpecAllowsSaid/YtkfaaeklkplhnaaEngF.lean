/- The engine: cells of old, ranges at the start, what is known of a block handed on. -/
import Derived.Test.YtkfaaeklkplhnaaEngE
namespace Go.Proofs.Ytkfaaeklkplhnaa
open Go.RowKit

section
variable {rl : List Rg} {fr : List (World × (Nat → Prop))} {kn : List KB} {H : Nat} {w w0 : World}
theorem Rep.old (h : Rep fr w H kn rl) {f : World × (Nat → Prop)} (hf : f ∈ fr) {p : Addr} {v : Value} (hS : f.2 p.block) (hv : f.1.cell? p = some v) : w.cell? p = some v := by
  have hlt := World.block_lt_of_cell? f.1 _ hv
  have := (h.frm f hf).same p.block hlt hS
  rw [← hv]
  exact World.cell?_of_block (w := f.1) this
theorem Rep.rangeK (h : Rep fr w H kn rl) (i : Nat) {x : KB} (hi : kn[i]? = some x) : w.rangeAt x.b x.o x.cs := by
  intro j v hv
  exact cell_kn h.blk hi rfl hv rfl rfl
theorem Rep.ltK (h : Rep fr w H kn rl) (i : Nat) {x : KB} (hi : kn[i]? = some x) : x.b < w.heap.size := by
  rw [h.size]
  exact h.lt (List.mem_of_getElem? hi)
theorem range_lt {b o : Nat} {v : Value} {cs : List Value} (h : w.rangeAt b o (v :: cs)) : b < w.heap.size := World.block_lt_of_cell? w _ (h 0 v rfl)
theorem range_app {b o : Nat} {xs ys : List Value} (h : w.rangeAt b o (xs ++ ys)) : w.rangeAt b o xs := fun j v hv => h j v (by
  rw [List.getElem?_append_left (List.getElem?_eq_some_iff.1 hv).1]
  exact hv)
theorem range_drop {b o : Nat} {xs ys : List Value} (h : w.rangeAt b o (xs ++ ys)) : w.rangeAt b (o + xs.length) ys := fun j v hv => by
  have := h (xs.length + j) v (by rw [List.getElem?_append_right (by omega)]; simpa using hv)
  rw [Nat.add_assoc]
  exact this
theorem range_at {b o : Nat} {cs : List Value} (h : w.rangeAt b o cs) (k n : Nat) : w.rangeAt b (o + k) ((cs.drop k).take n) := fun j v hv => by
  rw [List.getElem?_take] at hv
  split at hv
  · rw [List.getElem?_drop] at hv
    rw [Nat.add_assoc]
    exact h (k + j) v hv
  · cases hv
theorem Rep.startR (w : World) (b o : Nat) {v : Value} {cs : List Value} (h : w.rangeAt b o (v :: cs)) : Rep [(w, fun _ => True)] w w.heap.size [] [⟨b, o, v :: cs⟩] :=
  (Rep.start w).addR (f := (w, fun _ => True)) (List.mem_cons_self) ⟨b, o, v :: cs⟩ (range_lt h) trivial h
theorem rangeAt_below {w w' : World} {b o : Nat} {cs : List Value} (h : w.rangeAt b o cs) (hb : Below w.heap.size w w') : w'.rangeAt b o cs := fun j v hv => by
  have := h j v hv
  exact (hb.cell (World.block_lt_of_cell? w _ this)).trans this
theorem wrap_i64 {e : Int} (h : -9223372036854775808 ≤ e ∧ e ≤ 9223372036854775807) : IntKind.i64.wrap e = e := by rw [IntKind.wrap_i64]; omega
end
end Go.Proofs.Ytkfaaeklkplhnaa
