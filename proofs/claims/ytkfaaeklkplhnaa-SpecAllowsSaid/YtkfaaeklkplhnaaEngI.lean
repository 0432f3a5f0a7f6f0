/- The engine: the rest of a row behind its first place. -/
import Derived.Test.YtkfaaeklkplhnaaEngH
namespace Go.Proofs.Ytkfaaeklkplhnaa
open Go.RowKit

section
variable {P : Program} {n : Nat} {ops : Array Oper} {rl : List Rg} {fr : List (World × (Nat → Prop))} {Q : Exit → Act → World → Prop} {kn : List KB} {H : Nat} {a : Act} {w : World} {env : Env}
theorem Rep.rangeM (h : Rep fr w H kn rl) {x : KB} (hx : x ∈ kn) : w.rangeAt x.b x.o x.cs := by
  obtain ⟨i, hi⟩ := List.mem_iff_getElem?.1 hx
  exact h.rangeK i hi
/-- x[1:], where the place behind the row may lie at its block's end. -/
theorem slT {i : Nat} {K : Act → World → Prop} (hE : TE a n env) (sz : Nat) (E : TypeId) (bytes : Nat) (hR : Rep fr w H kn rl) (g o m c : Nat) (obs : List Prop)
    {d : Tmp} {s x : Operand} {t ty : TypeId} {pos : String} {after : Array Edge} {gd : Option (Nat × Bool)}
    (hi : ops[i]? = some ⟨some d, .slice t s (some x) none none, ty, pos, after, gd⟩)
    (hg : guardX ops env ⟨some d, .slice t s (some x) none none, ty, pos, after, gd⟩ true = some obs) (ho : AllP obs)
    (ht : P.underlying t = some (.slice E)) (hz : szB P E sz bytes = true)
    (hs : evO env s = some (.slice (some ⟨g, o, none⟩) m c)) (hx : evO env x = some (.int .i64 1)) (hd : decide (d < n) = true) (h1 : 1 ≤ m) (h2 : m ≤ c)
    (next : ∀ a' o', (1 < c → o' = o + sz) → TE a' n ((d, .slice (some ⟨g, o', none⟩) (m - 1) (c - 1)) :: env) → Rep fr w H kn rl → K a' w) : wpOp P ops Q i K a w := by
  unfold wpOp
  rw [hi]
  simp only [guard_yes hE hg ho, if_true]
  refine .inl ?_
  unfold szB at hz
  split at hz
  · rename_i inf hinf
    split at hz
    · rename_i z hzz
      simp only [Bool.and_eq_true, beq_iff_eq] at hz
      obtain ⟨⟨hz1, hz2⟩, hz3⟩ := hz
      have hsz : P.cellsOf E = sz := by simp [Program.cellsOf, hinf, hz1]
      have hb := fun w => run_sliceBounds (P := P) (len := m) (cap := c) (low := some (.int .i64 1)) (high := none) (max := none) (l := 1) (h := m) (m := c) rfl rfl rfl (by omega) (by omega) (by omega) (Int.le_refl _) (by simp) w
      unfold Oper.wp execOp
      simp only [Sem.run_bind, Option.map_some, Option.map_none, Instr.sliceAt, Instr.slice, hE.ev hs, hE.ev hx, run_underlying ht, Result.andThen_ok, hb, run_sizeOf' (e := E) (by rw [hinf]; rfl), Sem.run_pure, Int.toNat_natCast]
      by_cases hc : c = 1
      · subst hc
        obtain rfl : m = 1 := by omega
        have k := next _ o (fun h => absurd h (by omega)) (hE.put (of_decide_eq_true hd) _) hR
        simp
        exact k
      · have k := next _ (o + sz) (fun _ => rfl) (hE.put (of_decide_eq_true hd) _) hR
        simp [add_flat, hsz, hc]
        exact k
    · cases hz
  · cases hz
end
end Go.Proofs.Ytkfaaeklkplhnaa
