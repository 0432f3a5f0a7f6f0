/- A state of the layer spec as it lies in memory: a slice of items, each with a row of values. -/
import Derived.Test.YtkfaaeklkplhnaaWKind
namespace Go.Proofs.Ytkfaaeklkplhnaa
open Go.RowKit

/-- An item: an object, its row, its value. -/
structure Itm where
  o : Ob
  row : List Vl
  v : Vl
def flatV (l : List Vl) : List Value := l.flatMap Vl.cells
theorem flatV_nil : flatV [] = [] := rfl
theorem flatV_cons (x : Vl) (l : List Vl) : flatV (x :: l) = x.cells ++ flatV l := by simp [flatV]
theorem flatV_app (a b : List Vl) : flatV (a ++ b) = flatV a ++ flatV b := by simp [flatV]
theorem flatV_length : ∀ l : List Vl, (flatV l).length = l.length * 4
  | [] => rfl
  | x :: l => by rw [flatV_cons, List.length_append, flatV_length l]; simp; omega
theorem flatV_drop : ∀ (l : List Vl) (n : Nat), (flatV l).drop (n * 4) = flatV (l.drop n)
  | l, 0 => by simp
  | [], n + 1 => by simp [flatV]
  | x :: l, n + 1 => by
    rw [List.drop_succ_cons, ← flatV_drop l n, flatV_cons]
    have h : (n + 1) * 4 = x.cells.length + n * 4 := by simp; omega
    rw [h, List.drop_append]
    simp
theorem flatV_one (l : List Vl) : ∀ u ∈ flatV l, u.oneCell' = true := by
  intro u hu
  unfold flatV at hu
  obtain ⟨x, _, hx⟩ := List.mem_flatMap.1 hu
  simp at hx
  rcases hx with rfl | rfl | rfl | rfl <;> rfl
theorem flatV_at (l : List Vl) (k : Nat) (h : k < l.length) : (flatV l)[k * 4]? = some (.int .u32 l[k].a) ∧ (flatV l)[k * 4 + 1]? = some (.int .u32 l[k].b) ∧ (flatV l)[k * 4 + 2]? = some (.int .u32 l[k].c) ∧ (flatV l)[k * 4 + 3]? = some (.int .u32 l[k].d) := by
  have hd : ∀ j, (flatV l)[k * 4 + j]? = (flatV (l.drop k))[j]? := fun j => by rw [← flatV_drop, List.getElem?_drop]
  have hc : l.drop k = l[k] :: l.drop (k + 1) := List.drop_eq_getElem_cons h
  have h0 := hd 0
  rw [Nat.add_zero] at h0
  rw [h0, hd 1, hd 2, hd 3, hc, flatV_cons]
  exact ⟨rfl, rfl, rfl, rfl⟩

/-- A row of values, cut or not. -/
def RowV (w : World) (s : Value) (l : List Vl) : Prop :=
  ∃ (A : Option Addr) (c : Nat), s = .slice A l.length c ∧ l.length ≤ c ∧ c ≤ 9223372036854775807 ∧ (A = none → l = [] ∧ c = 0) ∧ (∀ a, A = some a → a.spot = none ∧ ∀ j u, (flatV l)[j]? = some u → w.cell? ⟨a.block, a.off + j, none⟩ = some u)
theorem RowV.below {w w' : World} {s : Value} {l : List Vl} (h : RowV w s l) (hb : Below w.heap.size w w') : RowV w' s l := by
  obtain ⟨A, c, h1, h2, h3, h4, h5⟩ := h
  exact ⟨A, c, h1, h2, h3, h4, fun a ha => ⟨(h5 a ha).1, fun j u hu => (hb.cell (World.block_lt_of_cell? w _ ((h5 a ha).2 j u hu))).trans ((h5 a ha).2 j u hu)⟩⟩
theorem RowV.nil (w : World) : RowV w (.slice none 0 0) [] := ⟨none, 0, rfl, Nat.le_refl _, by omega, fun _ => ⟨rfl, rfl⟩, fun a h => by cases h⟩

def itC (x : Itm) (rv : Value) : List Value := x.o.cells ++ rv :: x.v.cells
/-- A slice of items. -/
def ItemsAt (w : World) (s : Value) (l : List Itm) : Prop :=
  ∃ (A : Option Addr) (c : Nat), s = .slice A l.length c ∧ l.length ≤ c ∧ c ≤ 9223372036854775807 ∧ (A = none → l = [] ∧ c = 0) ∧ (∀ a, A = some a → a.spot = none ∧ ∀ k (hk : k < l.length), ∃ rv, RowV w rv l[k].row ∧ ∀ j u, (itC l[k] rv)[j]? = some u → w.cell? ⟨a.block, a.off + (k * 15 + j), none⟩ = some u)
theorem ItemsAt.below {w w' : World} {s : Value} {l : List Itm} (h : ItemsAt w s l) (hb : Below w.heap.size w w') : ItemsAt w' s l := by
  obtain ⟨A, c, h1, h2, h3, h4, h5⟩ := h
  refine ⟨A, c, h1, h2, h3, h4, fun a ha => ⟨(h5 a ha).1, fun k hk => ?_⟩⟩
  obtain ⟨rv, hr, hc⟩ := (h5 a ha).2 k hk
  exact ⟨rv, hr.below hb, fun j u hu => (hb.cell (World.block_lt_of_cell? w _ (hc j u hu))).trans (hc j u hu)⟩
theorem ItemsAt.nil (w : World) : ItemsAt w (.slice none 0 0) [] := ⟨none, 0, rfl, Nat.le_refl _, by omega, fun _ => ⟨rfl, rfl⟩, fun a h => by cases h⟩
theorem ItemsAt.slice {w : World} {s : Value} {l : List Itm} (h : ItemsAt w s l) : ∃ A c, s = .slice A l.length c ∧ l.length ≤ c ∧ c ≤ 9223372036854775807 := by
  obtain ⟨A, c, h1, h2, h3, _⟩ := h
  exact ⟨A, c, h1, h2, h3⟩
theorem ItemsAt.at {w : World} {s : Value} {l : List Itm} (h : ItemsAt w s l) {k : Nat} (hk : k < l.length) :
    ∃ g o c rv, s = .slice (some ⟨g, o, none⟩) l.length c ∧ RowV w rv l[k].row ∧
      w.cell? ⟨g, o + k * 15, none⟩ = some (.int .i64 l[k].o.kind) ∧ w.cell? ⟨g, o + k * 15 + 1, none⟩ = some (.int .i64 l[k].o.cap) ∧ w.cell? ⟨g, o + k * 15 + 2, none⟩ = some (.int .i64 l[k].o.width) ∧ w.cell? ⟨g, o + k * 15 + 3, none⟩ = some (.int .i64 l[k].o.retry) ∧
      w.cell? ⟨g, o + k * 15 + 4, none⟩ = some (.int .i64 l[k].o.src) ∧ w.cell? ⟨g, o + k * 15 + 5, none⟩ = some (.int .i64 l[k].o.dst) ∧ w.cell? ⟨g, o + k * 15 + 6, none⟩ = some (.int .u32 l[k].o.i0) ∧ w.cell? ⟨g, o + k * 15 + 7, none⟩ = some (.int .u32 l[k].o.i1) ∧
      w.cell? ⟨g, o + k * 15 + 8, none⟩ = some (.int .u32 l[k].o.i2) ∧ w.cell? ⟨g, o + k * 15 + 9, none⟩ = some (.int .u32 l[k].o.i3) ∧ w.cell? ⟨g, o + k * 15 + 10, none⟩ = some rv ∧
      w.cell? ⟨g, o + k * 15 + 11, none⟩ = some (.int .u32 l[k].v.a) ∧ w.cell? ⟨g, o + k * 15 + 12, none⟩ = some (.int .u32 l[k].v.b) ∧ w.cell? ⟨g, o + k * 15 + 13, none⟩ = some (.int .u32 l[k].v.c) ∧ w.cell? ⟨g, o + k * 15 + 14, none⟩ = some (.int .u32 l[k].v.d) := by
  obtain ⟨A, c, h1, h2, h3, h4, h5⟩ := h
  cases A with
  | none => rw [(h4 rfl).1] at hk; simp at hk
  | some a =>
    obtain ⟨hs, h6⟩ := h5 a rfl
    obtain ⟨rv, hr, hc⟩ := h6 k hk
    obtain ⟨g, o, sp⟩ := a
    cases hs
    have hc' : ∀ j u, (itC l[k] rv)[j]? = some u → w.cell? ⟨g, o + k * 15 + j, none⟩ = some u := fun j u hu => by rw [Nat.add_assoc]; exact hc j u hu
    exact ⟨g, o, c, rv, h1, hr, hc' 0 _ rfl, hc' 1 _ rfl, hc' 2 _ rfl, hc' 3 _ rfl, hc' 4 _ rfl, hc' 5 _ rfl, hc' 6 _ rfl, hc' 7 _ rfl, hc' 8 _ rfl, hc' 9 _ rfl, hc' 10 _ rfl, hc' 11 _ rfl, hc' 12 _ rfl, hc' 13 _ rfl, hc' 14 _ rfl⟩
attribute [irreducible] flatV itC
end Go.Proofs.Ytkfaaeklkplhnaa
