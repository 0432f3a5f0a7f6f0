/- QueuePlays: the row. PROVED: Rows.QueuePlaysSaid, without any condition: whatever the steps, the task and the object, the law returns true and every argument reads as it read before. -/
import Derived.Test.YtkfaaeklkplhnaaRows
import Derived.Test.YtkfaaeklkplhnaaQLaw
import Derived.ProofKit
import Derived.Deep.Slices
import Derived.Lib.SmallJoins
import Derived.ChangeSame
import Derived.ChangeArms
import Derived.Below
namespace Go.Proofs.Ytkfaaeklkplhnaa
open Go.ChangeShapes Go.WideShapes Go.ChangeAt Go.RowKit Go.Shelf Go.Deep

theorem Try.ownQ : ownKnob Try.prog.godebug = none := by kernel_rfl
theorem Try.laidOutQ : laidOutB Try.prog = true := by kernel_rfl
theorem cellsStep : Try.prog.cellsOf 36 = 5 := by kernel_rfl
theorem cellsRWait : Try.prog.cellsOf 34 = 4 := by kernel_rfl
theorem cellsBool : Try.prog.cellsOf 4 = 1 := by kernel_rfl
theorem cellsInt : Try.prog.cellsOf 3 = 1 := by kernel_rfl
theorem cellsU32 : Try.prog.cellsOf 25 = 1 := by kernel_rfl

theorem list4 {α : Type} {l : List α} (h : l.length = 4) : ∃ a b c d, l = [a, b, c, d] := by
  match l, h with
  | [a, b, c, d], _ => exact ⟨a, b, c, d, rfl⟩
theorem list5 {α : Type} {l : List α} (h : l.length = 5) : ∃ a b c d e, l = [a, b, c, d, e] := by
  match l, h with
  | [a, b, c, d, e], _ => exact ⟨a, b, c, d, e, rfl⟩
section
variable {H : Type} {enc : TypeId × Value → H} {w : World} {base : Nat} {spare : Nat → Bool} {held : Bool}
theorem read_wait {fuel : Nat} {cs : List Value} {x : DataW H × List MemPlace} (h : DataW.trod enc Try.prog w base spare held fuel 34 cs = some x) :
    ∃ a b c d : Int, cs = [.int .i64 a, .int .i64 b, .int .i64 c, .int .u32 d] := by
  obtain ⟨y0, y1, y2, y3, n, _, hl, h0, h1, h2, h3⟩ := Go.Joins.trod_struct4 Try.underlying34 h
  rw [cellsRWait] at hl
  obtain ⟨c0, c1, c2, c3, rfl⟩ := list4 hl
  rw [cellsInt] at h0 h1 h2
  rw [cellsU32] at h3
  simp only [List.drop_zero, List.drop_succ_cons, List.take_succ_cons, List.take_zero] at h0 h1 h2 h3
  obtain ⟨a, ha, _⟩ := DataW.trod_int Try.underlying3 h0
  obtain ⟨b, hb, _⟩ := DataW.trod_int Try.underlying3 h1
  obtain ⟨c, hc, _⟩ := DataW.trod_int Try.underlying3 h2
  obtain ⟨d, hd, _⟩ := DataW.trod_int Try.underlying25 h3
  cases ha; cases hb; cases hc; cases hd
  exact ⟨_, _, _, _, rfl⟩
theorem read_step {fuel : Nat} {cs : List Value} {x : DataW H × List MemPlace} (h : DataW.trod enc Try.prog w base spare held fuel 36 cs = some x) :
    ∃ s : Stp, cs = [.bool s.gone, .int .i64 s.w.task, .int .i64 s.w.kind, .int .i64 s.w.obj, .int .u32 s.w.mask] := by
  obtain ⟨y0, y1, n, _, hl, h0, h1⟩ := trod_struct2 Try.underlying36 h
  rw [cellsStep] at hl
  obtain ⟨c0, c1, c2, c3, c4, rfl⟩ := list5 hl
  rw [cellsBool] at h0
  rw [cellsRWait] at h1
  simp only [List.drop_zero, List.drop_succ_cons, List.take_succ_cons, List.take_zero] at h0 h1
  obtain ⟨g, hg, _⟩ := DataW.trod_bool Try.underlying4 h0
  obtain ⟨a, b, c, d, he⟩ := read_wait h1
  cases hg; cases he
  exact ⟨⟨g, a, b, c, d⟩, rfl⟩
theorem read_steps {fuel : Nat} {v : Value} {x : DataW H × List MemPlace} (h : DataW.trod enc Try.prog w base spare held fuel 22 [v] = some x) :
    ∃ (A : Option Addr) (c : Nat) (l : List Stp), v = .slice A l.length c ∧ StepsAt w A l ∧ l.length ≤ 9223372036854775807 := by
  rcases open_slice Try.underlying22 h with ⟨h0, _⟩ | ⟨a, len, cap, m, n, D, Pl, h0, _, hl, hc, hm, _, hx⟩
  · cases h0
    exact ⟨none, 0, [], rfl, fun k hk => absurd hk (Nat.not_lt_zero k), by simp⟩
  · cases h0
    have hlm : len ≤ m := by rw [hm]; split <;> omega
    have hst : ∀ i, i < len → ∃ s : Stp, w.cells? base (a.add (i * 5)) 5 = some [.bool s.gone, .int .i64 s.w.task, .int .i64 s.w.kind, .int .i64 s.w.obj, .int .u32 s.w.mask] := fun i hi => by
      obtain ⟨cs', h1, h2⟩ := hx i (by omega)
      rw [cellsStep] at h1
      obtain ⟨s, rfl⟩ := read_step h2
      exact ⟨s, h1⟩
    have : Inhabited Stp := ⟨⟨false, 0, 0, 0, 0⟩⟩
    obtain ⟨f, hf⟩ := choose_lt hst
    have hlen : ((List.range len).map f).length = len := by simp
    refine ⟨some a, cap, (List.range len).map f, by rw [hlen], fun k hk => ⟨a, rfl, ?_⟩, by rw [hlen]; unfold maxLen at hc; omega⟩
    have hk' : k < len := by simpa using hk
    have := (World.cells?_some (hf k hk')).2.2
    have e : ((List.range len).map f)[k] = f k := by simp
    rw [e]
    have e1 : ∀ i, i ≠ 0 → (a.add (k * 5)).add i = ⟨(a.add (k * 5)).block, (a.add (k * 5)).off + i, none⟩ := fun i hi => by
      show (if i = 0 then _ else _) = _
      rw [if_neg hi]
    refine ⟨?_, ?_, ?_, ?_, ?_⟩
    · exact this 0 (by omega)
    · rw [← e1 1 (by omega)]; exact this 1 (by omega)
    · rw [← e1 2 (by omega)]; exact this 2 (by omega)
    · rw [← e1 3 (by omega)]; exact this 3 (by omega)
    · rw [← e1 4 (by omega)]; exact this 4 (by omega)
end

set_option maxHeartbeats 2000000 in
set_option maxRecDepth 100000 in
theorem queuePlays_lifted (os : Os) (started : os.Started) (H : Type) (enc : TypeId × Value → H) :
    ReturnsInHanded {} Try.checked os 3 .any (Rows.queuePlaysSpec.pre6 enc Try.prog Try.f3 Rows.queuePlaysRow.domain false) (Rows.queuePlaysSpec.post enc Try.prog Try.f3 false true false false) := by
  refine returnsInHanded_of_change (C := Try.checked) Try.ownQ started (by kernel_rfl) Try.func3
    (ChangeSpec.witness6 (enc := enc) (C := Try.checked) false ⟨#[], #[.slice none 0 0, .int .i64 0, .int .i64 0], []⟩ 8 (by kernel_rfl) (by kernel_rfl) (by kernel_rfl) (by kernel_rfl)) ?_
  intro W base args ds gs before hval0 hW hcnd _
  have hval : ∀ (j : Nat) t v, Try.f3.params[j]? = some t → args[j]? = some v → Value.okWide Try.prog W .any base t v := hval0
  have hW' := hW
  obtain ⟨p, q, hA0, hV, rfl, hfz, hnd⟩ := hW
  have hA : DataW.TrodAll enc Try.prog W 0 (fun _ => true) true Try.f3.params.toList args.toList ds p := hA0
  rw [Try.params3] at hA hval
  obtain ⟨v0, vs0, d0, ds0, p0, q0, hargs, rfl, rfl, h0, r0⟩ := trodAll_cons hA
  obtain ⟨v1, vs1, d1, ds1, p1, q1, rfl, rfl, rfl, h1, r1⟩ := trodAll_cons r0
  obtain ⟨v2, vs2, d2, ds2, p2, q2, rfl, rfl, rfl, h2, r2⟩ := trodAll_cons r1
  obtain ⟨rfl, rfl, rfl⟩ := trodAll_nil r2
  obtain rfl : args = #[v0, v1, v2] := by cases args; simp_all
  obtain ⟨rfl, rfl⟩ := trodVars_none hV
  have k0 := h0
  have lt0 : ∀ x ∈ p0, x.block < W.heap.size := by obtain ⟨m, hm⟩ := k0; exact DataW.trod_lt m _ _ _ hm
  obtain ⟨fuel, hf⟩ := h0
  obtain ⟨A1, n1, c1, rfl⟩ := okWide_slice Try.underlying22 (hval 0 22 v0 rfl rfl)
  obtain ⟨A, c, l, he, hst, hll⟩ := read_steps hf
  cases he
  obtain ⟨a, rfl, rfl, rfl, wa⟩ := open_int Try.underlying3 (hval 1 3 v1 rfl rfl) h1
  obtain ⟨b, rfl, rfl, rfl, wb⟩ := open_int Try.underlying3 (hval 2 3 v2 rfl rfl) h2
  clear hA0 hval0
  refine (law_calls _ _ l a b W hst hll).mono fun e W' ⟨he, bel⟩ => ?_
  subst he
  exact ⟨_, rfl, _, _, _, [], _, [], hW', trodAll_mk1 (shut_bool Try.underlying4 _), (trodAll_cons_mk (Below.trod Try.laidOutQ (by kernel_rfl) (of_decide_eq_true (by kernel_rfl)) k0 bel lt0) (trodAll_cons_mk (shut_int Try.underlying3 wa) (trodAll_cons_mk (shut_int Try.underlying3 wb) trodAll_mk0))), rfl, bel.frame _, fun h => by cases h⟩

theorem queuePlays_holds : Rows.QueuePlaysSaid :=
  OpenClaim.holds_of_wide 3 Try.f3 rfl rfl rfl rfl rfl rfl rfl ⟨rfl, rfl, rfl, rfl, rfl⟩ rfl rfl rfl rfl rfl (by kernel_rfl) Try.func3 (by kernel_rfl)
    (of_decide_eq_true (by kernel_rfl)) (by unfold Func.isWrapper; first | (rw [if_pos (by decide +kernel)]; kernel_rfl) | (rw [if_neg (by decide +kernel)]; exact ⟨rfl, rfl⟩))
    (fun os started H enc _ => queuePlays_lifted os started H enc)
end Go.Proofs.Ytkfaaeklkplhnaa
