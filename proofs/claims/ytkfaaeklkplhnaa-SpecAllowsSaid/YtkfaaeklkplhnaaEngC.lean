/- The engine: what a walk calls: a stretch of a plain region, what is taken first in a drawn one, an operation in it, a call, an end. -/
import Derived.Test.YtkfaaeklkplhnaaEngB
namespace Go.Proofs.Ytkfaaeklkplhnaa
open Go.RowKit

section
variable {P : Program} {n : Nat} {ops : Array Oper} {rl : List Rg} {fr : List (World × (Nat → Prop))} {Q : Exit → Act → World → Prop} {kn : List KB} {H : Nat} {a : Act} {w : World} {env : Env}

theorem eqAll_of : ∀ {e : List (Nat × Nat)}, e.map Prod.fst = e.map Prod.snd → EqAll e
  | [], _ => fun _ h => by cases h
  | p :: e, h => by
    simp only [List.map_cons, List.cons.injEq] at h
    intro q hq
    rcases List.mem_cons.1 hq with rfl | hq
    · exact h.1
    · exact eqAll_of h.2 q hq
/-- What is new, ahead of what is as it was. -/
def envU (new env : Env) : Env := new ++ env.filter (fun p => !(new.any (fun q => q.1 == p.1)))
/-- What an evaluation of a stretch is told to be. -/
def GX.told (g : GX) (env' : Env) : List (Option Value) × List KB × Nat × List Prop := (env'.map (fun p => g.env.lookup p.1), g.kn, g.H, g.obs)
theorem told_get {x : Option GX} {env' : Env} {kn' : List KB} {H' : Nat} {obs' : List Prop} (h1 : x.map (fun g => g.told env') = some (env'.map (fun p => some p.2), kn', H', obs')) (h2 : x.map (fun g => g.eqs.map Prod.fst) = x.map (fun g => g.eqs.map Prod.snd)) :
    ∃ g, x = some g ∧ EqAll g.eqs ∧ g.kn = kn' ∧ g.H = H' ∧ g.obs = obs' ∧ env'.map (fun p => g.env.lookup p.1) = env'.map (fun p => some p.2) := by
  cases x with
  | none => cases h1
  | some g =>
    simp only [Option.map_some, Option.some.injEq, GX.told, Prod.mk.injEq] at h1 h2
    exact ⟨g, rfl, eqAll_of h2, h1.2.1, h1.2.2.1, h1.2.2.2, h1.1⟩
/-- A stretch of a plain region. -/
theorem seg {idx : List Nat} (hE : TE a n env) (hR : Rep fr w H kn rl) (l : List (Nat × OH)) (rest : List Nat) (env' : Env) (kn' : List KB) (H' : Nat) (obs' : List Prop)
    (hl : idx = l.map Prod.fst ++ rest)
    (h1 : (regX P n ops rl l ⟨env, kn, H, [], []⟩).map (fun g => g.told env') = some (env'.map (fun p => some p.2), kn', H', obs'))
    (h2 : (regX P n ops rl l ⟨env, kn, H, [], []⟩).map (fun g => g.eqs.map Prod.fst) = (regX P n ops rl l ⟨env, kn, H, [], []⟩).map (fun g => g.eqs.map Prod.snd))
    (ho : AllP obs') (hn : ∀ a' w', TE a' n env' → Rep fr w' H' kn' rl → wpOps P ops Q rest a' w') : wpOps P ops Q idx a w := by
  subst hl
  obtain ⟨g, hg, he, rfl, rfl, rfl, hk⟩ := told_get h1 h2
  exact (regX_sound l hE hR hg he ho fun a' w' hE' hR' => hn a' w' (hE'.sub hk) hR').2.2
/-- The same, where no block turns. -/
theorem seg0 {idx : List Nat} (hE : TE a n env) (hR : Rep fr w H kn rl) (l : List (Nat × OH)) (rest : List Nat) (env' : Env) (obs' : List Prop)
    (hl : idx = l.map Prod.fst ++ rest)
    (h1 : (regX P n ops rl l ⟨env, kn, H, [], []⟩).map (fun g => g.told env') = some (env'.map (fun p => some p.2), kn, H, obs'))
    (h2 : (regX P n ops rl l ⟨env, kn, H, [], []⟩).map (fun g => g.eqs.map Prod.fst) = (regX P n ops rl l ⟨env, kn, H, [], []⟩).map (fun g => g.eqs.map Prod.snd))
    (ho : AllP obs') (hn : ∀ a' w', TE a' n env' → Rep fr w' H kn rl → wpOps P ops Q rest a' w') : wpOps P ops Q idx a w :=
  seg hE hR l rest env' kn H obs' hl h1 h2 ho hn
/-- What is new alone is told. -/
theorem segU {idx : List Nat} (hE : TE a n env) (hR : Rep fr w H kn rl) (l : List (Nat × OH)) (rest : List Nat) (new : Env) (kn' : List KB) (H' : Nat) (obs' : List Prop)
    (hl : idx = l.map Prod.fst ++ rest)
    (h1 : (regX P n ops rl l ⟨env, kn, H, [], []⟩).map (fun g => g.told (envU new env)) = some ((envU new env).map (fun p => some p.2), kn', H', obs'))
    (h2 : (regX P n ops rl l ⟨env, kn, H, [], []⟩).map (fun g => g.eqs.map Prod.fst) = (regX P n ops rl l ⟨env, kn, H, [], []⟩).map (fun g => g.eqs.map Prod.snd))
    (ho : AllP obs') (hn : ∀ a' w', TE a' n (envU new env) → Rep fr w' H' kn' rl → wpOps P ops Q rest a' w') : wpOps P ops Q idx a w :=
  seg hE hR l rest (envU new env) kn' H' obs' hl h1 h2 ho hn
theorem segV {idx : List Nat} (hE : TE a n env) (hR : Rep fr w H kn rl) (l : List (Nat × OH)) (rest : List Nat) (new : Env) (obs' : List Prop)
    (hl : idx = l.map Prod.fst ++ rest)
    (h1 : (regX P n ops rl l ⟨env, kn, H, [], []⟩).map (fun g => g.told (envU new env)) = some ((envU new env).map (fun p => some p.2), kn, H, obs'))
    (h2 : (regX P n ops rl l ⟨env, kn, H, [], []⟩).map (fun g => g.eqs.map Prod.fst) = (regX P n ops rl l ⟨env, kn, H, [], []⟩).map (fun g => g.eqs.map Prod.snd))
    (ho : AllP obs') (hn : ∀ a' w', TE a' n (envU new env) → Rep fr w' H kn rl → wpOps P ops Q rest a' w') : wpOps P ops Q idx a w :=
  seg hE hR l rest (envU new env) kn H obs' hl h1 h2 ho hn
/-- An operation wherever it stands. -/
theorem one {i : Nat} {K : Act → World → Prop} (hE : TE a n env) (hR : Rep fr w H kn rl) (h : OH) (env' : Env) (kn' : List KB) (H' : Nat) (obs' : List Prop)
    (h1 : (stepX P n ops rl i h ⟨env, kn, H, [], []⟩).map (fun g => g.told env') = some (env'.map (fun p => some p.2), kn', H', obs'))
    (h2 : (stepX P n ops rl i h ⟨env, kn, H, [], []⟩).map (fun g => g.eqs.map Prod.fst) = (stepX P n ops rl i h ⟨env, kn, H, [], []⟩).map (fun g => g.eqs.map Prod.snd))
    (ho : AllP obs') (hn : ∀ a' w', TE a' n env' → Rep fr w' H' kn' rl → K a' w') : wpOp P ops Q i K a w := by
  obtain ⟨g, hg, he, rfl, rfl, rfl, hk⟩ := told_get h1 h2
  exact (stepX_sound hE hR hg he ho).2.2 _ fun a' w' hE' hR' => hn a' w' (hE'.sub hk) hR'

/-- A call. -/
structure CX where
  f : FuncId
  args : Array Value
  dst : Option Tmp
  eqs : List (Nat × Nat)
  obs : List Prop
def callX (P : Program) (n : Nat) (ops : Array Oper) (rl : List Rg) (env : Env) (kn : List KB) (i : Nat) (hs : List Hint) : Option CX :=
  match ops[i]? with
  | none => none
  | some o => match guardX ops env o true, readyO env o with
    | some ps, true => match semR P kn rl (execOp (evT env) o) hs [] with
      | some ⟨.enter f args, _, eqs⟩ => match putX n env o.dst undef with
        | some _ => some ⟨f, args, o.dst, eqs, ps⟩
        | none => none
      | _ => none
    | _, _ => none
def putE (dst : Option Tmp) (v : Value) (env : Env) : Env := match dst with
  | some d => (d, v) :: env
  | none => env
theorem callX_sound {i : Nat} {hs : List Hint} {c : CX} (hE : TE a n env) (hR : Rep fr w H kn rl) (hx : callX P n ops rl env kn i hs = some c) (he : EqAll c.eqs) (ho : AllP c.obs) {R : Ending → World → Prop} {K : Act → World → Prop}
    (hc : Calls P c.f c.args w R) (hp : ∀ ch w', ¬ R (.panicked ch) w') (hq : ∀ w', ¬ R .outgrown w') (hn : ∀ v w', R (.returned v) w' → ∀ a', TE a' n (putE c.dst v env) → K a' w') : wpOp P ops Q i K a w := by
  unfold callX at hx
  split at hx
  · cases hx
  · rename_i o hi
    split at hx
    · rename_i ps hg hr
      unfold readyO at hr
      rw [Bool.and_eq_true] at hr
      split at hx
      · rename_i f args hs' eqs hsem
        split at hx
        · rename_i env1 hput
          cases hx
          obtain ⟨_, h2⟩ := semR_sound _ hsem he
          unfold wpOp
          rw [hi]
          simp only [guard_yes hE hg ho, if_true]
          refine .inl ?_
          unfold Oper.wp
          rw [hE.exec hr.1 hr.2, h2 w hR.blk hR.rs]
          refine Calls.mono hc fun e w' h => ?_
          cases e with
          | returned v =>
            refine hn v w' h _ ?_
            refine putX_sound hE ?_
            show putX n env o.dst v = some (putE o.dst v env)
            cases hd : o.dst with
            | none => rfl
            | some d =>
              rw [hd] at hput
              by_cases hdn : d < n
              · simp only [putX, decide_eq_true hdn]
                rfl
              · simp only [putX, decide_eq_false hdn] at hput
                cases hput
          | panicked ch => exact absurd h (hp ch w')
          | outgrown => exact absurd h (hq w')
        · cases hx
      · cases hx
    · cases hx
theorem call {i : Nat} {R : Ending → World → Prop} {K : Act → World → Prop} (hE : TE a n env) (hR : Rep fr w H kn rl) (hs : List Hint) (f : FuncId) (args : Array Value) (dst : Option Tmp) (obs : List Prop)
    (h1 : (callX P n ops rl env kn i hs).map (fun c => (c.f, c.args, c.dst, c.obs)) = some (f, args, dst, obs))
    (h2 : (callX P n ops rl env kn i hs).map (fun c => c.eqs.map Prod.fst) = (callX P n ops rl env kn i hs).map (fun c => c.eqs.map Prod.snd))
    (ho : AllP obs) (hc : Calls P f args w R) (hp : ∀ ch w', ¬ R (.panicked ch) w') (hq : ∀ w', ¬ R .outgrown w') (hn : ∀ v w', R (.returned v) w' → ∀ a', TE a' n (putE dst v env) → K a' w') : wpOp P ops Q i K a w := by
  cases hx : callX P n ops rl env kn i hs with
  | none => rw [hx] at h1; cases h1
  | some c =>
    rw [hx] at h1 h2
    simp only [Option.map_some, Option.some.injEq, Prod.mk.injEq] at h1 h2
    obtain ⟨rfl, rfl, rfl, rfl⟩ := h1
    exact callX_sound hE hR hx (eqAll_of h2) ho hc hp hq hn
/-- A plain region is entered, goes on with a call. -/
theorem enterR {id : Nat} {idx : List Nat} (hl : List.range ops.size = idx) (h : wpOps P ops Q idx a w) : (Code.region id ops false).wp P Q a w := wp_region (hl ▸ h)
theorem opsCons {i : Nat} {rest : List Nat} (h : wpOp P ops Q i (wpOps P ops Q rest) a w) : wpOps P ops Q (i :: rest) a w := by
  rw [wpOps_cons]
  exact h
theorem opsNil (h : Q .normal a w) : wpOps P ops Q [] a w := h

/-- What is known of every world that a drawn region may come to. -/
def SS (kl : List KB) (rl : List Rg) : World → Prop := fun w => BS w kl ∧ RS w rl
theorem Rep.ss (h : Rep fr w H kn rl) {kl : List KB} (ix : List Nat) (hk : ix.map (fun i => kn[i]?) = kl.map some) : SS kl rl w := by
  refine ⟨fun e he => h.blk e ?_, h.rs⟩
  have : some e ∈ kl.map some := List.mem_map_of_mem he
  rw [← hk] at this
  obtain ⟨i, _, hi⟩ := List.mem_map.1 this
  exact List.mem_of_getElem? hi
structure TX where
  listed : Array Bool
  env : Env
  eqs : List (Nat × Nat)
  obs : List Prop
def takeX (P : Program) (n : Nat) (ops : Array Oper) (kl : List KB) (rl : List Rg) (i : Nat) (h : OH) (g : TX) : Option TX :=
  match ops[i]? with
  | none => none
  | some o =>
    match Region.free .any ops g.listed i && (Region.ready .any ops g.listed).contains i with
    | false => none
    | true =>
    match h with
    | .skip => match guardX ops g.env o false with
      | some ps => match putX n g.env o.dst undef with
        | some env => some ⟨g.listed.setIfInBounds i true, env, g.eqs, ps ++ g.obs⟩
        | none => none
      | none => none
    | .op hs => match guardX ops g.env o true, readyO g.env o with
      | some ps, true => match semR P kl rl (execOp (evT g.env) o) hs g.eqs with
        | some ⟨.value v, _, eqs⟩ => match putX n g.env o.dst v with
          | some env => some ⟨g.listed.setIfInBounds i true, env, eqs, ps ++ g.obs⟩
          | none => none
        | _ => none
      | _, _ => none
    | .as hs v' => match guardX ops g.env o true, readyO g.env o with
      | some ps, true => match semR P kl rl (execOp (evT g.env) o) hs g.eqs with
        | some ⟨.value v, _, eqs⟩ => match putX n g.env o.dst v' with
          | some env => some ⟨g.listed.setIfInBounds i true, env, eqs, (v = v') :: (ps ++ g.obs)⟩
          | none => none
        | _ => none
      | _, _ => none
    | .alt v' => match guardX ops g.env o true, readyO g.env o with
      | some ps, true => match altOp P (evT g.env) o with
        | some (v, p) => match putX n g.env o.dst v' with
          | some env => some ⟨g.listed.setIfInBounds i true, env, g.eqs, p :: (v = v') :: (ps ++ g.obs)⟩
          | none => none
        | none => none
      | _, _ => none
theorem takeX_sound {kl : List KB} {i : Nat} {h : OH} {g g' : TX} {fuel : Nat} (hsel : Region.noSelect ops = true) (hQ : ∀ c a d v w, Q (.panic c) (Act.put a d v) w → Q (.panic c) a w) (hE : TE a n g.env) (hS : SS kl rl w)
    (hx : takeX P n ops kl rl i h g = some g') (he : EqAll g'.eqs) (ho : AllP g'.obs) (hn : ∀ a', TE a' n g'.env → wpAnyH P .any ops Q (SS kl rl) fuel g'.listed a' w) :
    wpAnyH P .any ops Q (SS kl rl) (fuel + 1) g.listed a w := by
  unfold takeX at hx
  split at hx
  · cases hx
  · rename_i o hi
    split at hx
    · cases hx
    · rename_i hfr
      rw [Bool.and_eq_true] at hfr
      split at hx
      · split at hx
        · rename_i ps hg
          split at hx
          · rename_i env hput
            cases hx
            obtain ⟨hp, ho'⟩ := ho.app
            exact wpAnyH_take hi hsel hfr.1 hfr.2 (fun c a w => hQ c a o.dst undef w) (.inr ⟨guard_no hE hg hp, rfl⟩) hS (hn _ (putX_sound hE hput))
          · cases hx
        · cases hx
      · split at hx
        · rename_i ps hg hr
          unfold readyO at hr
          rw [Bool.and_eq_true] at hr
          split at hx
          · rename_i v hs' eqs hsem
            split at hx
            · rename_i env hput
              cases hx
              obtain ⟨hp, ho'⟩ := ho.app
              obtain ⟨_, h2⟩ := semR_sound _ hsem he
              exact wpAnyH_take hi hsel hfr.1 hfr.2 (fun c a w => hQ c a o.dst v w) (.inl ⟨guard_yes hE hg hp, fun w hSw => by rw [hE.exec hr.1 hr.2]; exact h2 w hSw.1 hSw.2⟩) hS (hn _ (putX_sound hE hput))
            · cases hx
          · cases hx
        · cases hx
      · split at hx
        · rename_i ps hg hr
          unfold readyO at hr
          rw [Bool.and_eq_true] at hr
          split at hx
          · rename_i v hs' eqs hsem
            split at hx
            · rename_i env hput
              cases hx
              obtain ⟨hv, ho⟩ := ho
              subst hv
              obtain ⟨hp, ho'⟩ := ho.app
              obtain ⟨_, h2⟩ := semR_sound _ hsem he
              exact wpAnyH_take hi hsel hfr.1 hfr.2 (fun c a w => hQ c a o.dst v w) (.inl ⟨guard_yes hE hg hp, fun w hSw => by rw [hE.exec hr.1 hr.2]; exact h2 w hSw.1 hSw.2⟩) hS (hn _ (putX_sound hE hput))
            · cases hx
          · cases hx
        · cases hx
      · split at hx
        · rename_i ps hg hr
          unfold readyO at hr
          rw [Bool.and_eq_true] at hr
          split at hx
          · rename_i v p halt
            split at hx
            · rename_i env hput
              cases hx
              obtain ⟨hpp, hv, ho⟩ := ho
              subst hv
              obtain ⟨hp, ho'⟩ := ho.app
              exact wpAnyH_take hi hsel hfr.1 hfr.2 (fun c a w => hQ c a o.dst v w) (.inl ⟨guard_yes hE hg hp, fun w _ => by rw [hE.exec hr.1 hr.2]; exact alt_sound halt hpp w⟩) hS (hn _ (putX_sound hE hput))
            · cases hx
          · cases hx
        · cases hx
theorem takeX_mono {kl : List KB} {i : Nat} {h : OH} {g g' : TX} (hx : takeX P n ops kl rl i h g = some g') (he : EqAll g'.eqs) (ho : AllP g'.obs) : EqAll g.eqs ∧ AllP g.obs := by
  unfold takeX at hx
  repeat' split at hx
  all_goals first | (cases hx; done) | skip
  · cases hx
    exact ⟨he, ho.app.2⟩
  · rename_i hsem _ _ _
    cases hx
    exact ⟨(semR_sound _ hsem he).1, ho.app.2⟩
  · rename_i hsem _ _ _
    cases hx
    exact ⟨(semR_sound _ hsem he).1, (AllP.app ho.2).2⟩
  · cases hx
    exact ⟨he, (AllP.app ho.2.2).2⟩
def takesX (P : Program) (n : Nat) (ops : Array Oper) (kl : List KB) (rl : List Rg) : List (Nat × OH) → TX → Option TX
  | [], g => some g
  | x :: l, g => match takeX P n ops kl rl x.1 x.2 g with
    | some g' => takesX P n ops kl rl l g'
    | none => none
theorem takesX_mono {kl : List KB} : ∀ (l : List (Nat × OH)) {g g' : TX}, takesX P n ops kl rl l g = some g' → EqAll g'.eqs → AllP g'.obs → EqAll g.eqs ∧ AllP g.obs
  | [], g, g', hx, he, ho => by
    simp only [takesX, Option.some.injEq] at hx
    subst hx
    exact ⟨he, ho⟩
  | x :: l, g, g', hx, he, ho => by
    unfold takesX at hx
    split at hx
    · rename_i g1 h1
      obtain ⟨k1, k2⟩ := takesX_mono l hx he ho
      exact takeX_mono h1 k1 k2
    · cases hx
theorem takesX_sound {kl : List KB} (hsel : Region.noSelect ops = true) (hQ : ∀ c a d v w, Q (.panic c) (Act.put a d v) w → Q (.panic c) a w) (hS : SS kl rl w) : ∀ (l : List (Nat × OH)) {g g' : TX} {fuel : Nat} {a : Act}, TE a n g.env →
    takesX P n ops kl rl l g = some g' → EqAll g'.eqs → AllP g'.obs → (∀ a', TE a' n g'.env → wpAnyH P .any ops Q (SS kl rl) fuel g'.listed a' w) → wpAnyH P .any ops Q (SS kl rl) (fuel + l.length) g.listed a w
  | [], g, g', fuel, a, hE, hx, he, ho, hn => by
    simp only [takesX, Option.some.injEq] at hx
    subst hx
    exact hn a hE
  | x :: l, g, g', fuel, a, hE, hx, he, ho, hn => by
    unfold takesX at hx
    split at hx
    · rename_i g1 h1
      obtain ⟨k1, k2⟩ := takesX_mono l hx he ho
      exact takeX_sound (fuel := fuel + l.length) hsel hQ hE hS h1 k1 k2 fun a' hE' => takesX_sound hsel hQ hS l hE' hx he ho hn
    · cases hx
/-- What is taken first. -/
theorem takes {kl : List KB} {listed : Array Bool} {F : Nat} (hsel : Region.noSelect ops = true) (hQ : ∀ c a d v w, Q (.panic c) (Act.put a d v) w → Q (.panic c) a w) (hE : TE a n env) (hS : SS kl rl w) (l : List (Nat × OH)) (fuel : Nat) (env' : Env) (listed' : Array Bool) (obs' : List Prop)
    (hF : F = fuel + l.length)
    (h1 : (takesX P n ops kl rl l ⟨listed, env, [], []⟩).map (fun g => (env'.map (fun p => g.env.lookup p.1), g.listed, g.obs)) = some (env'.map (fun p => some p.2), listed', obs'))
    (h2 : (takesX P n ops kl rl l ⟨listed, env, [], []⟩).map (fun g => g.eqs.map Prod.fst) = (takesX P n ops kl rl l ⟨listed, env, [], []⟩).map (fun g => g.eqs.map Prod.snd))
    (ho : AllP obs') (hn : ∀ a', TE a' n env' → wpAnyH P .any ops Q (SS kl rl) fuel listed' a' w) : wpAnyH P .any ops Q (SS kl rl) F listed a w := by
  subst hF
  cases hx : takesX P n ops kl rl l ⟨listed, env, [], []⟩ with
  | none => rw [hx] at h1; cases h1
  | some g =>
    rw [hx] at h1 h2
    simp only [Option.map_some, Option.some.injEq, Prod.mk.injEq] at h1 h2
    obtain ⟨hk, rfl, rfl⟩ := h1
    exact takesX_sound hsel hQ hS l (g := ⟨listed, env, [], []⟩) hE hx (eqAll_of h2) ho fun a' hE' => hn a' (hE'.sub hk)
theorem takesU {kl : List KB} {listed : Array Bool} {F : Nat} (hsel : Region.noSelect ops = true) (hQ : ∀ c a d v w, Q (.panic c) (Act.put a d v) w → Q (.panic c) a w) (hE : TE a n env) (hS : SS kl rl w) (l : List (Nat × OH)) (fuel : Nat) (new : Env) (listed' : Array Bool) (obs' : List Prop)
    (hF : F = fuel + l.length)
    (h1 : (takesX P n ops kl rl l ⟨listed, env, [], []⟩).map (fun g => ((envU new env).map (fun p => g.env.lookup p.1), g.listed, g.obs)) = some ((envU new env).map (fun p => some p.2), listed', obs'))
    (h2 : (takesX P n ops kl rl l ⟨listed, env, [], []⟩).map (fun g => g.eqs.map Prod.fst) = (takesX P n ops kl rl l ⟨listed, env, [], []⟩).map (fun g => g.eqs.map Prod.snd))
    (ho : AllP obs') (hn : ∀ a', TE a' n (envU new env) → wpAnyH P .any ops Q (SS kl rl) fuel listed' a' w) : wpAnyH P .any ops Q (SS kl rl) F listed a w :=
  takes hsel hQ hE hS l fuel (envU new env) listed' obs' hF h1 h2 ho hn
theorem oneU {i : Nat} {K : Act → World → Prop} (hE : TE a n env) (hR : Rep fr w H kn rl) (h : OH) (new : Env) (kn' : List KB) (H' : Nat) (obs' : List Prop)
    (h1 : (stepX P n ops rl i h ⟨env, kn, H, [], []⟩).map (fun g => g.told (envU new env)) = some ((envU new env).map (fun p => some p.2), kn', H', obs'))
    (h2 : (stepX P n ops rl i h ⟨env, kn, H, [], []⟩).map (fun g => g.eqs.map Prod.fst) = (stepX P n ops rl i h ⟨env, kn, H, [], []⟩).map (fun g => g.eqs.map Prod.snd))
    (ho : AllP obs') (hn : ∀ a' w', TE a' n (envU new env) → Rep fr w' H' kn' rl → K a' w') : wpOp P ops Q i K a w :=
  one hE hR h (envU new env) kn' H' obs' h1 h2 ho hn
/-- A drawn region is entered. -/
theorem enterD {id : Nat} {F : Nat} {listed : Array Bool} (kl : List KB) (hm : P.follows .mixedOrders = true) (hR : Rep fr w H kn rl) (hF : ops.size = F) (hL : Array.replicate ops.size false = listed)
    (h : ∀ w', Rep fr w' H kn rl → wpAnyH P .any ops Q (SS kl rl) F listed a w') : (Code.region id ops true).wp P Q a w := by
  subst hF hL
  exact wp_region_held hm (h _ hR.drew)
theorem allNil {p : Nat → Prop} : ∀ i ∈ ([] : List Nat), p i := fun _ h => by cases h
theorem allCons {p : Nat → Prop} {i : Nat} {l : List Nat} (h : p i) (hl : ∀ i ∈ l, p i) : ∀ j ∈ i :: l, p j := fun j hj => by
  rcases List.mem_cons.1 hj with rfl | hj
  · exact h
  · exact hl j hj
end
end Go.Proofs.Ytkfaaeklkplhnaa
