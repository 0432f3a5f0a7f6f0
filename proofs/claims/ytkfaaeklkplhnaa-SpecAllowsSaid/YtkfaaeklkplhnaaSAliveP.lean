/- The chapter's example, and what there is at first, at no objects too. -/
import Derived.Test.YtkfaaeklkplhnaaSLawP
namespace Go.Proofs.Ytkfaaeklkplhnaa
open Go.RowKit

abbrev aOb : Ob := ⟨1, 1, 1, 0, 0, 0, 0, 0, 0, 0⟩
abbrev aIt0 : Itm := ⟨aOb, [], ⟨0, 0, 0, 0⟩⟩
abbrev aIt1 : Itm := ⟨aOb, [⟨5, 0, 0, 0⟩], ⟨0, 0, 0, 0⟩⟩
theorem alive_doP1 : doP [aIt0] 1 0 ⟨5, 0, 0, 0⟩ = ⟨[aIt1], 0, ⟨0, 0, 0, 0⟩⟩ := by kernel_rfl
theorem alive_doP2 : doP [aIt1] 1 0 ⟨6, 0, 0, 0⟩ = ⟨[aIt1], 6, ⟨0, 0, 0, 0⟩⟩ := by kernel_rfl
theorem alive_alP : (allowsP [aIt1] 14 0 ⟨6, 0, 0, 0⟩ 9 ⟨0, 0, 0, 0⟩).is = true := by kernel_rfl
theorem alive_stP : startP aOb = aIt0 := by kernel_rfl
theorem alive_good0 : ItemsG [aIt0] := fun x hx => by
  simp only [List.mem_singleton] at hx
  subst hx
  exact ⟨⟨by decide, by decide⟩, fun _ => ⟨rfl, rfl, rfl⟩, by simp⟩
theorem alive_good1 : ItemsG [aIt1] := fun x hx => by
  simp only [List.mem_singleton] at hx
  subst hx
  exact ⟨⟨by decide, by decide⟩, fun _ => ⟨rfl, rfl, rfl⟩, by simp⟩
theorem itms_len {L : List IV} {l : List Itm} (h : itms L = l) : L.length = l.length := by rw [← h]; simp
theorem alive_start (W : World) (g : Nat) (h : W.rangeAt g 0 [.int .i64 1, .int .i64 1, .int .i64 1, .int .i64 0, .int .i64 0, .int .i64 0, .int .u32 0, .int .u32 0, .int .u32 0, .int .u32 0]) :
    Calls Try.prog 23 #[.slice (some ⟨g, 0, none⟩) 1 1] W fun e W' => ∃ s L, e = .returned s ∧ ItemsR W' s L ∧ itms L = [aIt0] ∧ Below W.heap.size W W' :=
  (start_calls W g 0 1 [aOb] (by decide) (by rw [List.flatMap_cons, List.flatMap_nil, List.append_nil]; exact h)).mono fun e W' ⟨s, L, he, hi, hl, hb⟩ => ⟨s, L, he, hi, by rw [hl, List.map_cons, List.map_nil, alive_stP], hb⟩
theorem alive_do1 (W : World) (s : Value) (L : List IV) (h : ItemsR W s L) (hl : itms L = [aIt0]) :
    Calls Try.prog 25 #[s, callA 1 0 ⟨5, 0, 0, 0⟩ 0] W fun e W' => ∃ g o c A r L2, e = .returned (.tuple #[.slice (some ⟨g, o, none⟩) 1 c, resA 0 ⟨0, 0, 0, 0⟩]) ∧ ItemsR W' (.slice (some ⟨g, o, none⟩) 1 c) L2 ∧ itms L2 = [aIt1] ∧ W'.rangeAt g o (cellsI aIt1 (.slice A 1 r)) ∧ Below W.heap.size W W' :=
  (do_at (d := ⟨[aIt1], 0, ⟨0, 0, 0, 0⟩⟩) (by rw [hl, alive_doP1]) h (hl ▸ alive_good0) (by rw [itms_len hl]; decide) ⟨⟨by decide, by decide⟩, by decide, by decide⟩).mono fun e W' ⟨s', L', he, hi, hl', hb⟩ => by
    have hn := itms_len hl'
    simp only [List.length_cons, List.length_nil] at hn
    have hi' := hi
    obtain ⟨A, c, rfl, _⟩ := hi'
    obtain ⟨g, o, ha, hx, hrow, _⟩ := hi.elem (i := 0) (by omega)
    subst ha
    have hx0 : L'[0].1 = aIt1 := by
      have h1 := congrArg (fun l : List Itm => l[0]?) hl'
      simp only [itms, List.getElem?_map, List.getElem?_eq_getElem (show 0 < L'.length by omega), Option.map_some, List.getElem?_cons_zero, Option.some.injEq] at h1
      exact h1
    rw [hx0] at hx hrow
    obtain ⟨A2, r, h2, _⟩ := hrow
    rw [h2, itC_eq, Nat.zero_mul, Nat.add_zero] at hx
    rw [hn] at he hi
    exact ⟨g, o, c, A2, r, L', he, hi, hl', hx, hb⟩
theorem alive_do2 (W : World) (s : Value) (L : List IV) (h : ItemsR W s L) (hl : itms L = [aIt1]) :
    Calls Try.prog 25 #[s, callA 1 0 ⟨6, 0, 0, 0⟩ 0] W fun e W' => ∃ s2, e = .returned (.tuple #[s2, resA 6 ⟨0, 0, 0, 0⟩]) ∧ Below W.heap.size W W' :=
  (do_at (d := ⟨[aIt1], 6, ⟨0, 0, 0, 0⟩⟩) (by rw [hl, alive_doP2]) h (hl ▸ alive_good1) (by rw [itms_len hl]; decide) ⟨⟨by decide, by decide⟩, by decide, by decide⟩).mono fun e W' ⟨s', L', he, hi, hl', hb⟩ => ⟨s', he, hb⟩
theorem alive_al (W : World) (s : Value) (L : List IV) (h : ItemsR W s L) (hl : itms L = [aIt1]) :
    Calls Try.prog 27 #[s, callA 14 0 ⟨6, 0, 0, 0⟩ 0, resA 9 ⟨0, 0, 0, 0⟩] W fun e W' => ∃ s2, e = .returned (.tuple #[s2, .bool true]) ∧ Below W.heap.size W W' :=
  (al_at rfl h (hl ▸ alive_good1) (by rw [itms_len hl]; decide) ⟨⟨by decide, by decide⟩, by decide, by decide⟩).mono fun e W' ⟨s', L', he, hi, hl', hb⟩ => ⟨s', by rw [he, hl, alive_alP], hb⟩
end Go.Proofs.Ytkfaaeklkplhnaa
