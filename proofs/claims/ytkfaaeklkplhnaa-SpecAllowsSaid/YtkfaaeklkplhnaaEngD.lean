/- The engine: a function entered, its branches, its end. -/
import Derived.LoopN
import Derived.Test.YtkfaaeklkplhnaaEngC
namespace Go.Proofs.Ytkfaaeklkplhnaa
open Go.RowKit

section
variable {P : Program} {n : Nat} {ops : Array Oper} {rl : List Rg} {fr : List (World × (Nat → Prop))} {Q : Exit → Act → World → Prop} {kn : List KB} {H : Nat} {a : Act} {w : World} {env : Env}
theorem enterF {f : FuncId} {fn : Func} {c : Code} {args : Array Value} {R : Ending → World → Prop} (hf : P.funcs[f]? = some fn) (hb : fn.body = some c) (hn : fn.ntmps = n) (env : Env)
    (hs : (args ++ Array.replicate (n - args.size) undef).size = n)
    (he : env.map (fun p => (args ++ Array.replicate (n - args.size) undef).getD p.1 undef) = env.map (fun p => p.2)) (h : ∀ a, TE a n env → c.wp P (bodyPost P fn R) a w) : Calls P f args w R := by
  refine calls_of_wp hf hb (h _ ?_)
  subst hn
  refine ⟨hs, rfl, fun t v hv => ?_⟩
  clear hs h
  induction env with
  | nil => cases hv
  | cons p r ih =>
    obtain ⟨t', v'⟩ := p
    simp only [List.map_cons, List.cons.injEq] at he
    simp only [List.lookup] at hv
    by_cases ht : t = t'
    · subst ht
      simp at hv
      subst hv
      exact he.1
    · have : (t == t') = false := by simpa using ht
      rw [this] at hv
      exact ih he.2 hv
theorem condT {x : Operand} {b : Bool} {thn els : Code} (hE : TE a n env) (hc : evO env x = some (.bool b)) (hb : b = true) (h : thn.wp P Q a w) : (Code.cond x thn els).wp P Q a w :=
  wp_cond (t := true) (by rw [hE.ev hc, hb]) h
theorem condF {x : Operand} {b : Bool} {thn els : Code} (hE : TE a n env) (hc : evO env x = some (.bool b)) (hb : b = false) (h : els.wp P Q a w) : (Code.cond x thn els).wp P Q a w :=
  wp_cond (t := false) (by rw [hE.ev hc, hb]) h
theorem thenN {K : Act → World → Prop} (h : K a w) : Exit.then K Q .normal a w := h
theorem thenE {K : Act → World → Prop} {i : Nat} (h : Q (.exit i) a w) : Exit.then K Q (.exit i) a w := h
theorem thenR {K : Act → World → Prop} (h : Q .ret a w) : Exit.then K Q .ret a w := h
theorem blkN {i : Nat} (h : Q .normal a w) : Exit.inBlock i Q .normal a w := h
theorem blkR {i : Nat} (h : Q .ret a w) : Exit.inBlock i Q .ret a w := h
theorem blkE {i : Nat} (h : Q .normal a w) : Exit.inBlock i Q (.exit i) a w := by
  simp only [Exit.inBlock, if_true]
  exact h
theorem blkX {i j : Nat} (hij : decide (j = i) = false) (h : Q (.exit j) a w) : Exit.inBlock i Q (.exit j) a w := by
  simp only [Exit.inBlock, if_neg (of_decide_eq_false hij)]
  exact h

/-- The results, off the temporaries. -/
def resL : List ResultVar → (Nat → Value) → Sem (List Value)
  | [], _ => .pure []
  | .tmp t :: l, ρ => (resL l ρ).bind fun vs => .pure (ρ t :: vs)
  | .cell a t :: l, ρ => (do loadVar t (← asAddr (ρ a))) >>= fun v => (resL l ρ).bind fun vs => .pure (v :: vs)
def resV : List Value → Value
  | [v] => v
  | vs => .tuple vs.toArray
def slotsIn (env : Env) : List ResultVar → Bool
  | [] => true
  | .tmp t :: l => (env.lookup t).isSome && slotsIn env l
  | .cell a _ :: l => (env.lookup a).isSome && slotsIn env l
def resF (tmps : Array Value) (x : ResultVar) : Sem Value :=
  match x with
  | .tmp t => pure (tmps.getD t undef)
  | .cell a t => do loadVar t (← asAddr (tmps.getD a undef))
theorem resL_eq {tmps : Array Value} {env : Env} (hE : ∀ t v, env.lookup t = some v → tmps.getD t undef = v) : ∀ (l : List ResultVar), slotsIn env l = true → resL l (fun t => (env.lookup t).getD undef) = l.mapM (resF tmps)
  | [], _ => rfl
  | .tmp t :: l, h => by
    simp only [slotsIn, Bool.and_eq_true] at h
    obtain ⟨v, hv⟩ := Option.isSome_iff_exists.1 h.1
    have ih := resL_eq hE l h.2
    rw [List.mapM_cons]
    simp only [resL, resF, pure_bind]
    rw [ih, hE t v hv, hv]
    rfl
  | .cell b ty :: l, h => by
    simp only [slotsIn, Bool.and_eq_true] at h
    obtain ⟨v, hv⟩ := Option.isSome_iff_exists.1 h.1
    have ih := resL_eq hE l h.2
    rw [List.mapM_cons]
    simp only [resL, resF]
    rw [ih, hE b v hv, hv]
    rfl
theorem results_eq {fn : Func} {tmps : Array Value} {env : Env} (hE : ∀ t v, env.lookup t = some v → tmps.getD t undef = v) (hi : slotsIn env fn.results.toList = true) :
    results fn tmps = (resL fn.results.toList (fun t => (env.lookup t).getD undef)) >>= fun vs => pure (resV vs) := by
  rw [resL_eq hE _ hi]
  unfold results
  rw [Array.mapM_eq_mapM_toList]
  simp only [bind_map_left]
  have : ∀ vs : List Value, (if h : vs.toArray.size = 1 then vs.toArray[0] else Value.tuple vs.toArray) = resV vs := fun vs => by
    match vs with
    | [] => rfl
    | [v] => rfl
    | v :: u :: vs => simp [resV]
  simp only [this]
  rfl
theorem retF {fn : Func} {R : Ending → World → Prop} (hE : TE a n env) (hR : Rep fr w H kn rl) (hs : List Hint) (v : Value)
    (hi : slotsIn env fn.results.toList = true)
    (h1 : (semR P kn rl (resL fn.results.toList (fun t => (env.lookup t).getD undef)) hs []).map (fun r => resV r.val) = some v)
    (h2 : (semR P kn rl (resL fn.results.toList (fun t => (env.lookup t).getD undef)) hs []).map (fun r => r.eqs.map Prod.fst) = (semR P kn rl (resL fn.results.toList (fun t => (env.lookup t).getD undef)) hs []).map (fun r => r.eqs.map Prod.snd))
    (h : R (.returned v) w) : bodyPost P fn R .ret a w := by
  cases hx : semR P kn rl (resL fn.results.toList (fun t => (env.lookup t).getD undef)) hs [] with
  | none => rw [hx] at h1; cases h1
  | some r =>
    rw [hx] at h1 h2
    simp only [Option.map_some, Option.some.injEq] at h1 h2
    obtain ⟨_, hrun⟩ := semR_sound _ hx (eqAll_of h2)
    have hw := hrun w hR.blk hR.rs
    refine bodyPost_ret (v := v) ?_ hE.defers h
    rw [results_eq hE.get hi, Sem.run_bind, hw]
    simp only [Result.andThen_ok, h1]
    rfl
abbrev PQ (Q : Exit → Act → World → Prop) : Prop := ∀ c a d v w, Q (.panic c) (Act.put a d v) w → Q (.panic c) a w
theorem pqT {K : Act → World → Prop} (h : PQ Q) : PQ (Exit.then K Q) := fun c a d v w k => h c a d v w k
theorem pqB {i : Nat} (h : PQ Q) : PQ (Exit.inBlock i Q) := fun c a d v w k => h c a d v w k
theorem pqF {fn : Func} {R : Ending → World → Prop} : PQ (bodyPost P fn R) := fun _ a d _ _ k => by
  cases d with
  | none => exact k
  | some d => exact k
theorem Rep.callE {w' : World} (h : Rep fr w H kn rl) (hb : Below w.heap.size w w') : ∃ H', H ≤ H' ∧ Rep fr w' H' kn rl :=
  ⟨_, by rw [← h.size]; exact hb.size, h.call hb⟩
end
end Go.Proofs.Ytkfaaeklkplhnaa
