/- The document's queue: a list. -/
import Derived.Test.YtkfaaeklkplhnaaQOf
namespace Go.Proofs.Ytkfaaeklkplhnaa
open Go.RowKit Go.Shelf

/-- A row of waits of the call's own, from base on. -/
def RowW (w : World) (base e : Nat) (v : Value) (l : List Wt) : Prop := w.ownsRow base e 4 v l.length (flatW l)

theorem flatW_cons (x : Wt) (l : List Wt) : flatW (x :: l) = x.cells ++ flatW l := by
  have h := flatW_snoc
  unfold flatW
  simp
theorem flatW_at (l : List Wt) (k : Nat) (h : k < l.length) : (flatW l)[k * 4]? = some (.int .i64 l[k].task) ∧ (flatW l)[k * 4 + 1]? = some (.int .i64 l[k].kind) ∧ (flatW l)[k * 4 + 2]? = some (.int .i64 l[k].obj) ∧ (flatW l)[k * 4 + 3]? = some (.int .u32 l[k].mask) := by
  induction l generalizing k with
  | nil => simp at h
  | cons x l ih =>
    rw [flatW_cons]
    cases k with
    | zero => simp [Wt.cells]
    | succ k =>
      have hk : k < l.length := by simpa using h
      obtain ⟨h0, h1, h2, h3⟩ := ih k hk
      have e : ∀ j, (x.cells ++ flatW l)[(k + 1) * 4 + j]? = (flatW l)[k * 4 + j]? := fun j => by
        rw [List.getElem?_append_right (by simp [Wt.cells]; omega)]
        simp [Wt.cells]
        congr 1
        omega
      have e0 := e 0
      simp only [Nat.add_zero] at e0
      rw [e0, e 1, e 2, e 3]
      simpa using ⟨h0, h1, h2, h3⟩

theorem rowForm {w : World} {base e size n : Nat} {v : Value} {xs : List Value} (h : w.ownsRow base e size v n xs) (h0 : 0 < n) : ∃ g cap, v = .slice (some ⟨g, 0, none⟩) n cap ∧ base ≤ g := by
  rcases h.2 with ⟨_, h1⟩ | ⟨g, cap, cur, rfl, hb, _⟩
  · omega
  · exact ⟨g, cap, rfl, hb⟩
theorem RowW.at {w : World} {base e : Nat} {v : Value} {l : List Wt} (h : RowW w base e v l) {k : Nat} (hk : k < l.length) :
    ∃ g cap, v = .slice (some ⟨g, 0, none⟩) l.length cap ∧ w.cell? ⟨g, k * 4, none⟩ = some (.int .i64 l[k].task) ∧ w.cell? ⟨g, k * 4 + 1, none⟩ = some (.int .i64 l[k].kind) ∧ w.cell? ⟨g, k * 4 + 2, none⟩ = some (.int .i64 l[k].obj) ∧ w.cell? ⟨g, k * 4 + 3, none⟩ = some (.int .u32 l[k].mask) := by
  have h' := h
  obtain ⟨g, cap, rfl, _⟩ := rowForm h' (by omega)
  obtain ⟨h0, h1, h2, h3⟩ := flatW_at l k hk
  have hc : ∀ j u, (flatW l)[j]? = some u → w.cell? ⟨g, j, none⟩ = some u := fun j u hu => by
    have := World.ownsRow.cells h (g := g) rfl j u hu
    have ha : (⟨g, 0, none⟩ : Addr).add j = ⟨g, j, none⟩ := by unfold Addr.add; split <;> simp_all
    rwa [ha] at this
  exact ⟨g, cap, rfl, hc _ _ h0, hc _ _ h1, hc _ _ h2, hc _ _ h3⟩
theorem RowW.lt {w : World} {base e n c g : Nat} {l : List Wt} (h : RowW w base e (.slice (some ⟨g, 0, none⟩) n c) l) : base ≤ g ∧ g < w.heap.size := by
  rcases h.2 with ⟨h0, _⟩ | ⟨g', cap, cur, he, hb, hh, _⟩
  · cases h0
  · cases he
    exact ⟨hb, (Array.getElem?_eq_some_iff.1 hh).1⟩
theorem RowW.slice {w : World} {base e : Nat} {v : Value} {l : List Wt} (h : RowW w base e v l) : ∃ A c, v = .slice A l.length c ∧ l.length ≤ 9223372036854775807 := by
  rcases h.2 with ⟨rfl, h0⟩ | ⟨g, cap, cur, rfl, _, _, h1, h2, _⟩
  · exact ⟨none, 0, by rw [h0], by omega⟩
  · exact ⟨_, _, rfl, by unfold maxLen at h2; omega⟩
theorem RowW.below {w w' : World} {base e : Nat} {v : Value} {l : List Wt} (h : RowW w base e v l) (hb : Below w.heap.size w w') : RowW w' base e v l :=
  World.ownsRow.kept h ⟨hb.os, hb.tape, hb.output, hb.size, fun i hi _ => hb.block i hi⟩ (row := none) (by cases v.ownBlock <;> simp)

/-- Where a task's wait stands; -1: nowhere. -/
def placeW (l : List Wt) (t : Int) : Int :=
  match l.findIdx? (fun x => decide (x.task = t)) with
  | none => -1
  | some k => k
theorem placeW_at {l : List Wt} {t : Int} {k : Nat} (hk : k < l.length) (h : l[k].task = t) (hn : ∀ j (hj : j < l.length), j < k → l[j].task ≠ t) : placeW l t = k := by
  unfold placeW
  have : l.findIdx? (fun x => decide (x.task = t)) = some k := by
    rw [List.findIdx?_eq_some_iff_getElem]
    exact ⟨hk, by simpa using h, fun j hj => by simpa using hn j (by omega) hj⟩
  rw [this]
theorem placeW_none {l : List Wt} {t : Int} (hn : ∀ j (hj : j < l.length), l[j].task ≠ t) : placeW l t = -1 := by
  unfold placeW
  have : l.findIdx? (fun x => decide (x.task = t)) = none := by
    rw [List.findIdx?_eq_none_iff]
    intro x hx
    obtain ⟨j, hj, rfl⟩ := List.getElem_of_mem hx
    simpa using hn j hj
  rw [this]
attribute [irreducible] placeW
theorem ret_int {k : IntKind} {a b : Int} (h : a = b) : Ending.returned (.int k a) = .returned (.int k b) := by rw [h]

set_option maxHeartbeats 1000000 in
theorem place_calls (base : Nat) (v : Value) (l : List Wt) (t : Int) (w : World) (h : RowW w base 34 v l) :
    Calls Try.prog 15 #[v, .int .i64 t] w fun e W' => e = .returned (.int .i64 (placeW l t)) ∧ w = W' := by
  obtain ⟨A, c, rfl, hm⟩ := h.slice
  go_enter Try.func15, Try.ntmps15
  go_wp2
  go_loop [5] (fun i => ∃ k : Nat, k ≤ l.length ∧ i = .int .i64 k ∧ ∀ j (hj : j < l.length), j < k → l[j].task ≠ t) (fun i => l.length - (intOf i).toNat)
  case atStart => exact ⟨0, Nat.zero_le _, rfl, fun j _ hj => absurd hj (Nat.not_lt_zero _)⟩
  case round =>
    obtain ⟨k, hk, rfl, hn⟩ := hrel
    have HN := Lib.hid hn
    clear hn
    by_cases hlt : k < l.length
    · obtain ⟨g, cap, he, h0, _, _, _⟩ := h.at hlt
      cases he
      by_cases ht : l[k].task = t
      · have htb : (l[k].task == t) = true := by simp [ht]
        have HT := Lib.hid ht
        clear ht
        go_wp2
        go_ret
        exact ⟨ret_int (placeW_at hlt HT.out HN.out).symm, rfl⟩
      · have htb : (l[k].task == t) = false := by simp [ht]
        have HT := Lib.hid ht
        clear ht
        go_wp2
        go_round
        case rel =>
          refine ⟨k + 1, by omega, by go_num, fun j hj hjk => ?_⟩
          by_cases e : j = k
          · subst e; exact HT.out
          · exact HN.out j hj (by omega)
        case measure => simp [intOf]; omega
    · go_wp2
      go_ret
      exact ⟨ret_int (placeW_none (fun j hj => HN.out j hj (by omega))).symm, rfl⟩
end Go.Proofs.Ytkfaaeklkplhnaa
