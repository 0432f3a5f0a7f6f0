/- The engine: regions, plain and drawn. -/
import Derived.Test.YtkfaaeklkplhnaaEngA
namespace Go.Proofs.Ytkfaaeklkplhnaa
open Go.RowKit

def AllP : List Prop → Prop
  | [] => True
  | p :: l => p ∧ AllP l
theorem AllP.app : ∀ {a b : List Prop}, AllP (a ++ b) → AllP a ∧ AllP b
  | [], _, h => ⟨trivial, h⟩
  | _ :: a, _, h => ⟨⟨h.1, (AllP.app (a := a) h.2).1⟩, (AllP.app (a := a) h.2).2⟩

def optInt : Option Value → Int → Option Int
  | none, d => some d
  | some (.int _ i), _ => some i
  | _, _ => none
/-- An address by an index that is a letter; a slice cut at letters: the value, and what it asks. -/
def altOp (P : Program) (ρ : Operand → Value) (o : Oper) : Option (Value × Prop) :=
  match o.op with
  | .indexAddr t x ix =>
    match P.underlying t, ρ x, ρ ix with
    | some (.slice e), .slice (some a) len _, .int _ i =>
      match a.spot with
      | none => some (.pointer (some ⟨a.block, a.off + i.toNat * P.cellsOf e, none⟩), (0 ≤ i ∧ i < (len : Int)) ∧ (P.info? e).isSome = true)
      | some _ => none
    | some (.array len e), .pointer (some a), .int _ i =>
      match a.spot with
      | none => some (.pointer (some ⟨a.block, a.off + i.toNat * P.cellsOf e, none⟩), (0 ≤ i ∧ i < (len : Int)) ∧ (P.info? e).isSome = true)
      | some _ => none
    | _, _, _ => none
  | .slice t x lo hi mx =>
    match P.underlying t, ρ x with
    | some (.slice e), .slice (some a) len cap =>
      match a.spot, optInt (lo.map ρ) 0, optInt (hi.map ρ) len, optInt (mx.map ρ) cap with
      | none, some l, some h, some m => some (.slice (some ⟨a.block, a.off + l.toNat * P.cellsOf e, none⟩) (h.toNat - l.toNat) (m.toNat - l.toNat), (0 ≤ l ∧ l ≤ h ∧ h ≤ m ∧ m ≤ (cap : Int)) ∧ (m = l → l = 0) ∧ (P.info? e).isSome = true ∧ (mx.isSome = true → hi.isSome = true))
      | _, _, _, _ => none
    | some (.slice e), .slice none len cap =>
      match optInt (lo.map ρ) 0, optInt (hi.map ρ) len, optInt (mx.map ρ) cap with
      | some l, some h, some m => some (.slice none (h.toNat - l.toNat) (m.toNat - l.toNat), (0 ≤ l ∧ l ≤ h ∧ h ≤ m ∧ m ≤ (cap : Int)) ∧ (P.info? e).isSome = true ∧ (mx.isSome = true → hi.isSome = true))
      | _, _, _ => none
    | _, _ => none
  | .binOp .eql t x y _ =>
    match ρ x, ρ y, P.eqGuardType P.depth t, flatEq P 10000 t (ρ x) (ρ y) with
    | .agg _, .agg _, false, some r => some (.bool r, True)
    | _, _, _, _ => none
  | .binOp .neq t x y _ =>
    match ρ x, ρ y, P.eqGuardType P.depth t, flatEq P 10000 t (ρ x) (ρ y) with
    | .agg _, .agg _, false, some r => some (.bool (!r), True)
    | _, _, _, _ => none
  | _ => none
theorem run_sliceBound {P : Program} {v : Value} {i : Int} (hv : optInt (some v) 0 = some i) {y : Nat} {c : BoundsCode} (h0 : 0 ≤ i) (h1 : i ≤ (y : Int)) (w : World) : (Instr.sliceBound v y c).run P w = .ok i.toNat w := by
  cases v <;> simp [optInt] at hv
  subst hv
  simp [Instr.sliceBound, asIntOf, h0, h1]
theorem run_sliceBounds {P : Program} {len cap : Nat} {low high max : Option Value} {l h m : Int} (hl : optInt low 0 = some l) (hh : optInt high len = some h) (hm : optInt max cap = some m) (h0 : 0 ≤ l) (h1 : l ≤ h) (h2 : h ≤ m) (h3 : m ≤ (cap : Int)) (hx : max.isSome = true → high.isSome = true) (w : World) :
    (Instr.sliceBounds true len cap low high max).run P w = .ok (l.toNat, h.toNat, m.toNat) w := by
  have key : ∀ {v : Value} {d : Int} {i : Int}, optInt (some v) d = some i → optInt (some v) 0 = some i := fun {v d i} h => by
    cases v <;> simp [optInt] at h ⊢
    exact h
  have hmn : ((m.toNat : Nat) : Int) = m := by omega
  have hhn : ((h.toNat : Nat) : Int) = h := by omega
  cases max with
  | none =>
    simp only [optInt, Option.some.injEq] at hm
    subst hm
    cases high with
    | none =>
      simp only [optInt, Option.some.injEq] at hh
      subst hh
      cases low with
      | none =>
        simp only [optInt, Option.some.injEq] at hl
        subst hl
        simp [Instr.sliceBounds]
      | some v =>
        simp only [Instr.sliceBounds, Sem.run_bind, Sem.run_pure, Result.andThen_ok, run_sliceBound (key hl) h0 h1]
        simp
    | some u =>
      cases low with
      | none =>
        simp only [optInt, Option.some.injEq] at hl
        subst hl
        simp only [Instr.sliceBounds, Sem.run_bind, Sem.run_pure, Result.andThen_ok, run_sliceBound (key hh) (by omega : (0 : Int) ≤ h) h2]
        simp
      | some v =>
        simp only [Instr.sliceBounds, Sem.run_bind, Sem.run_pure, Result.andThen_ok, run_sliceBound (key hh) (by omega : (0 : Int) ≤ h) h2, run_sliceBound (y := h.toNat) (key hl) h0 (by omega : l ≤ ((h.toNat : Nat) : Int))]
        simp
  | some z =>
    cases high with
    | none => simp at hx
    | some u =>
      cases low with
      | none =>
        simp only [optInt, Option.some.injEq] at hl
        subst hl
        simp only [Instr.sliceBounds, Sem.run_bind, Sem.run_pure, Result.andThen_ok, run_sliceBound (key hm) (by omega : (0 : Int) ≤ m) h3, run_sliceBound (y := m.toNat) (key hh) (by omega : (0 : Int) ≤ h) (by omega : h ≤ ((m.toNat : Nat) : Int))]
        simp
      | some v =>
        simp only [Instr.sliceBounds, Sem.run_bind, Sem.run_pure, Result.andThen_ok, run_sliceBound (key hm) (by omega : (0 : Int) ≤ m) h3, run_sliceBound (y := m.toNat) (key hh) (by omega : (0 : Int) ≤ h) (by omega : h ≤ ((m.toNat : Nat) : Int)), run_sliceBound (y := h.toNat) (key hl) h0 (by omega : l ≤ ((h.toNat : Nat) : Int))]
theorem run_sizeOf' {P : Program} {e : TypeId} (h : (P.info? e).isSome = true) (w : World) : (sizeOf e).run P w = .ok (P.cellsOf e) w := by
  obtain ⟨i, hi⟩ := Option.isSome_iff_exists.1 h
  simp [sizeOf, typeInfo, Program.cellsOf, hi, Sem.run_bind]
theorem add_flat (a : Addr) (h : a.spot = none) (n : Nat) : a.add n = ⟨a.block, a.off + n, none⟩ := by
  obtain ⟨b, o, s⟩ := a
  cases h
  unfold Addr.add
  by_cases hn : n = 0
  · subst hn; rfl
  · rw [if_neg hn]
theorem alt_sound {P : Program} {ρ : Operand → Value} {o : Oper} {v : Value} {p : Prop} (h : altOp P ρ o = some (v, p)) (hp : p) (w : World) : (execOp ρ o).run P w = .ok (.value v) w := by
  unfold altOp at h
  split at h
  · rename_i t x ix ho
    unfold execOp
    rw [ho]
    simp only [Sem.run_bind]
    split at h
    · rename_i e a len cap k i hu hx hix
      split at h
      · rename_i hs
        simp only [Option.some.injEq, Prod.mk.injEq] at h
        obtain ⟨rfl, rfl⟩ := h
        obtain ⟨hb, hi⟩ := hp
        simp only [Instr.indexAt, hx, hix, asIntOf, Sem.run_bind, run_underlying hu, Result.andThen_ok, Sem.run_pure, hb, and_self, if_true, run_sizeOf' hi, add_flat a hs]
      · cases h
    · rename_i len e a k i hu hx hix
      split at h
      · rename_i hs
        simp only [Option.some.injEq, Prod.mk.injEq] at h
        obtain ⟨rfl, rfl⟩ := h
        obtain ⟨hb, hi⟩ := hp
        simp only [Instr.indexAt, hx, hix, asIntOf, Instr.sureAddr, Sem.run_bind, run_underlying hu, Result.andThen_ok, Sem.run_pure, hb, and_self, if_true, run_sizeOf' hi, add_flat a hs]
      · cases h
    · cases h
  · rename_i t x lo hi mx ho
    unfold execOp
    rw [ho]
    simp only [Sem.run_bind]
    split at h
    · rename_i e a len cap hu hx
      split at h
      · rename_i l h' m hs hl hh hm
        simp only [Option.some.injEq, Prod.mk.injEq] at h
        obtain ⟨rfl, rfl⟩ := h
        obtain ⟨⟨h0, h1, h2, h3⟩, hml, hi, hx'⟩ := hp
        have hb := fun w => run_sliceBounds (P := P) (len := len) (cap := cap) hl hh hm h0 h1 h2 h3 (by simpa using hx') w
        simp only [Instr.sliceAt, Instr.slice, hx, Sem.run_bind, run_underlying hu, Result.andThen_ok, hb, run_sizeOf' hi, Sem.run_pure, Option.map_some, add_flat a hs]
        by_cases hmm : m.toNat = l.toNat
        · have : l = 0 := hml (by omega)
          subst this
          obtain ⟨ab, ao, asp⟩ := a
          simp at hs
          subst hs
          simp [hmm]
        · simp [hmm]
      · cases h
    · rename_i e len cap hu hx
      split at h
      · rename_i l h' m hl hh hm
        simp only [Option.some.injEq, Prod.mk.injEq] at h
        obtain ⟨rfl, rfl⟩ := h
        obtain ⟨⟨h0, h1, h2, h3⟩, hi, hx'⟩ := hp
        have hb := fun w => run_sliceBounds (P := P) (len := len) (cap := cap) hl hh hm h0 h1 h2 h3 (by simpa using hx') w
        simp only [Instr.sliceAt, Instr.slice, hx, Sem.run_bind, run_underlying hu, Result.andThen_ok, hb, run_sizeOf' hi, Sem.run_pure, Option.map_none]
        simp
      · cases h
    · cases h
  · rename_i t x y yt ho
    unfold execOp
    rw [ho]
    split at h
    · rename_i xs ys r hx hy hm hf
      simp only [Option.some.injEq, Prod.mk.injEq] at h
      obtain ⟨rfl, _⟩ := h
      rw [hx, hy] at hf
      simp only [hx, hy, Sem.run_bind, run_eqGuard_agg w _ t x y xs ys hm, Result.andThen_ok, run_eql_struct, flatEq_sound 10000 hf, Sem.run_pure]
    · cases h
  · rename_i t x y yt ho
    unfold execOp
    rw [ho]
    split at h
    · rename_i xs ys r hx hy hm hf
      simp only [Option.some.injEq, Prod.mk.injEq] at h
      obtain ⟨rfl, _⟩ := h
      rw [hx, hy] at hf
      simp only [hx, hy, Sem.run_bind, run_eqGuard_agg w _ t x y xs ys hm, Result.andThen_ok, run_neq_struct, flatEq_sound 10000 hf, Sem.run_pure]
    · cases h
  · cases h

/-- What is told of an operation: taken as it is; its value named anew; by 'altOp'; not wanted. -/
inductive OH where
  | op (hs : List Hint)
  | as (hs : List Hint) (v : Value)
  | alt (v : Value)
  | skip
structure GX where
  env : Env
  kn : List KB
  H : Nat
  eqs : List (Nat × Nat)
  obs : List Prop
def guardX (ops : Array Oper) (env : Env) (o : Oper) : Bool → Option (List Prop)
  | take =>
    match o.guard with
    | none => match take with
      | true => some []
      | false => none
    | some (j, want) =>
      match ops[j]? with
      | some oj => match oj.dst with
        | some d => match env.lookup d with
          | some (.bool b) => match take with
            | true => some [b = want]
            | false => some [b = !want]
          | some (.tuple _) => match take with
            | true => none
            | false => some []
          | _ => none
        | none => none
      | none => none
def putX (n : Nat) (env : Env) : Option Tmp → Value → Option Env
  | none, _ => some env
  | some d, v => match decide (d < n) with
    | true => some ((d, v) :: env)
    | false => none
def readyO (env : Env) (o : Oper) : Bool := opsIn env o && noSel o
def stepX (P : Program) (n : Nat) (ops : Array Oper) (rl : List Rg) (i : Nat) (h : OH) (g : GX) : Option GX :=
  match ops[i]? with
  | none => none
  | some o =>
    match h with
    | .skip => match guardX ops g.env o false with
      | some ps => match putX n g.env o.dst undef with
        | some env => some ⟨env, g.kn, g.H, g.eqs, ps ++ g.obs⟩
        | none => none
      | none => none
    | .op hs => match guardX ops g.env o true, readyO g.env o with
      | some ps, true => match semX P rl (execOp (evT g.env) o) hs g.kn g.H g.eqs with
        | some ⟨.value v, _, kn, H, eqs⟩ => match putX n g.env o.dst v with
          | some env => some ⟨env, kn, H, eqs, ps ++ g.obs⟩
          | none => none
        | some ⟨.skip, _, kn, H, eqs⟩ => match putX n g.env o.dst undef with
          | some env => some ⟨env, kn, H, eqs, ps ++ g.obs⟩
          | none => none
        | _ => none
      | _, _ => none
    | .as hs v' => match guardX ops g.env o true, readyO g.env o with
      | some ps, true => match semX P rl (execOp (evT g.env) o) hs g.kn g.H g.eqs with
        | some ⟨.value v, _, kn, H, eqs⟩ => match putX n g.env o.dst v' with
          | some env => some ⟨env, kn, H, eqs, (v = v') :: (ps ++ g.obs)⟩
          | none => none
        | _ => none
      | _, _ => none
    | .alt v' => match guardX ops g.env o true, readyO g.env o with
      | some ps, true => match altOp P (evT g.env) o with
        | some (v, p) => match putX n g.env o.dst v' with
          | some env => some ⟨env, g.kn, g.H, g.eqs, p :: (v = v') :: (ps ++ g.obs)⟩
          | none => none
        | none => none
      | _, _ => none

section
variable {P : Program} {n : Nat} {ops : Array Oper} {rl : List Rg} {fr : List (World × (Nat → Prop))} {Q : Exit → Act → World → Prop}
theorem guard_yes {a : Act} {env : Env} (hE : TE a n env) {o : Oper} {ps : List Prop} (h : guardX ops env o true = some ps) (hp : AllP ps) : Region.wanted o (yielded ops a.tmps) = true := by
  unfold guardX at h
  unfold Region.wanted
  split at h
  · rename_i hg; rw [hg]
  · rename_i j want hg
    rw [hg]
    split at h
    · rename_i oj hj
      split at h
      · rename_i d hd
        split at h
        · rename_i b hb
          simp only [Option.some.injEq] at h
          subst h
          have := hE.get d _ hb
          have hy : yielded ops a.tmps j = some b := by
            have h3 : a.tmps[d]? = some (.bool b) := by
              rw [Array.getD_eq_getD_getElem?] at this
              cases hh : a.tmps[d]? with
              | none => rw [hh] at this; cases this
              | some u => rw [hh] at this; cases this; rfl
            simp [yielded, hj, hd, h3]
          simp only [hy, hp.1, beq_self_eq_true]
        · simp at h
        · cases h
      · cases h
    · cases h
theorem guard_no {a : Act} {env : Env} (hE : TE a n env) {o : Oper} {ps : List Prop} (h : guardX ops env o false = some ps) (hp : AllP ps) : Region.wanted o (yielded ops a.tmps) = false := by
  unfold guardX at h
  unfold Region.wanted
  split at h
  · simp at h
  · rename_i j want hg
    rw [hg]
    split at h
    · rename_i oj hj
      split at h
      · rename_i d hd
        split at h
        · rename_i b hb
          simp only [Option.some.injEq] at h
          subst h
          have := hE.get d _ hb
          have hy : yielded ops a.tmps j = some b := by
            have h3 : a.tmps[d]? = some (.bool b) := by
              rw [Array.getD_eq_getD_getElem?] at this
              cases hh : a.tmps[d]? with
              | none => rw [hh] at this; cases this
              | some u => rw [hh] at this; cases this; rfl
            simp [yielded, hj, hd, h3]
          simp only [hy, hp.1]
          cases want <;> rfl
        · rename_i u hb
          have := hE.get d _ hb
          have hy : yielded ops a.tmps j = none := by
            simp only [yielded, hj, hd, Option.bind_some]
            cases hh : a.tmps[d]? with
            | none => rfl
            | some x =>
              rw [Array.getD_eq_getD_getElem?, hh] at this
              cases this
              rfl
          simp only [hy]
          rfl
        · cases h
      · cases h
    · cases h
theorem putX_sound {a : Act} {env env' : Env} (hE : TE a n env) {dst : Option Tmp} {v : Value} (h : putX n env dst v = some env') : TE (a.put dst v) n env' := by
  cases dst with
  | none => simp only [putX, Option.some.injEq] at h; subst h; exact hE
  | some d =>
    by_cases hd : d < n
    · simp only [putX, decide_eq_true hd, Option.some.injEq] at h
      subst h
      exact hE.put hd v
    · simp only [putX, decide_eq_false hd] at h
      cases h
theorem stepX_sound {i : Nat} {h : OH} {g g' : GX} {a : Act} {w : World} (hE : TE a n g.env) (hR : Rep fr w g.H g.kn rl) (hx : stepX P n ops rl i h g = some g') (he : EqAll g'.eqs) (ho : AllP g'.obs) :
    EqAll g.eqs ∧ AllP g.obs ∧ ∀ K : Act → World → Prop, (∀ a' w', TE a' n g'.env → Rep fr w' g'.H g'.kn rl → K a' w') → wpOp P ops Q i K a w := by
  unfold stepX at hx
  split at hx
  · cases hx
  · rename_i o hi
    split at hx
    · split at hx
      · rename_i ps hg
        split at hx
        · rename_i env hput
          simp only [Option.some.injEq] at hx
          subst hx
          obtain ⟨hp, ho'⟩ := ho.app
          refine ⟨he, ho', fun K hK => ?_⟩
          unfold wpOp
          rw [hi]
          simp only [guard_no hE hg hp, Bool.false_eq_true, if_false]
          exact hK _ _ (putX_sound hE hput) hR
        · cases hx
      · cases hx
    · rename_i hs
      split at hx
      · rename_i ps hg hr
        unfold readyO at hr
        rw [Bool.and_eq_true] at hr
        split at hx
        · rename_i v hs' kn H eqs hsem
          split at hx
          · rename_i env hput
            simp only [Option.some.injEq] at hx
            subst hx
            obtain ⟨hp, ho'⟩ := ho.app
            obtain ⟨h1, w', h2, h3⟩ := semX_sound _ hR hsem he
            refine ⟨h1, ho', fun K hK => ?_⟩
            unfold wpOp
            rw [hi]
            simp only [guard_yes hE hg hp, if_true]
            refine .inl ?_
            unfold Oper.wp
            rw [hE.exec hr.1 hr.2, h2]
            exact hK _ _ (putX_sound hE hput) h3
          · cases hx
        · rename_i hs' kn H eqs hsem
          split at hx
          · rename_i env hput
            simp only [Option.some.injEq] at hx
            subst hx
            obtain ⟨hp, ho'⟩ := ho.app
            obtain ⟨h1, w', h2, h3⟩ := semX_sound _ hR hsem he
            refine ⟨h1, ho', fun K hK => ?_⟩
            unfold wpOp
            rw [hi]
            simp only [guard_yes hE hg hp, if_true]
            refine .inl ?_
            unfold Oper.wp
            rw [hE.exec hr.1 hr.2, h2]
            exact hK _ _ (putX_sound hE hput) h3
          · cases hx
        · cases hx
      · cases hx
    · rename_i hs v'
      split at hx
      · rename_i ps hg hr
        unfold readyO at hr
        rw [Bool.and_eq_true] at hr
        split at hx
        · rename_i v hs' kn H eqs hsem
          split at hx
          · rename_i env hput
            simp only [Option.some.injEq] at hx
            subst hx
            obtain ⟨hv, ho⟩ := ho
            subst hv
            obtain ⟨hp, ho'⟩ := ho.app
            obtain ⟨h1, w', h2, h3⟩ := semX_sound _ hR hsem he
            refine ⟨h1, ho', fun K hK => ?_⟩
            unfold wpOp
            rw [hi]
            simp only [guard_yes hE hg hp, if_true]
            refine .inl ?_
            unfold Oper.wp
            rw [hE.exec hr.1 hr.2, h2]
            exact hK _ _ (putX_sound hE hput) h3
          · cases hx
        · cases hx
      · cases hx
    · rename_i v'
      split at hx
      · rename_i ps hg hr
        unfold readyO at hr
        rw [Bool.and_eq_true] at hr
        split at hx
        · rename_i v p halt
          split at hx
          · rename_i env hput
            simp only [Option.some.injEq] at hx
            subst hx
            obtain ⟨hpp, hv, ho⟩ := ho
            subst hv
            obtain ⟨hp, ho'⟩ := ho.app
            refine ⟨he, ho', fun K hK => ?_⟩
            unfold wpOp
            rw [hi]
            simp only [guard_yes hE hg hp, if_true]
            refine .inl ?_
            unfold Oper.wp
            rw [hE.exec hr.1 hr.2, alt_sound halt hpp]
            exact hK _ _ (putX_sound hE hput) hR
          · cases hx
        · cases hx
      · cases hx
def regX (P : Program) (n : Nat) (ops : Array Oper) (rl : List Rg) : List (Nat × OH) → GX → Option GX
  | [], g => some g
  | x :: l, g => match stepX P n ops rl x.1 x.2 g with
    | some g' => regX P n ops rl l g'
    | none => none
theorem EqAll.tl {p : Nat × Nat} {e : List (Nat × Nat)} (h : EqAll (p :: e)) : EqAll e := fun q hq => h q (List.mem_cons_of_mem _ hq)
theorem semX_mono {α : Type} {P : Program} {rl : List Rg} (s : Sem α) : ∀ {H : Nat} {kn : List KB} {hs : List Hint} {e : List (Nat × Nat)} {r : SX α}, semX P rl s hs kn H e = some r → EqAll r.eqs → EqAll e := by
  induction s with
  | pure a =>
    intro H kn hs e r h hE
    simp only [semX, Option.some.injEq] at h
    subst h
    exact hE
  | load m a k ih =>
    intro H kn hs e r h hE
    unfold semX at h
    repeat' split at h
    all_goals first | (cases h; done) | exact (ih _ h hE).tl | exact (ih _ h hE).tl.tl
  | store m a v k ih =>
    intro H kn hs e r h hE
    unfold semX at h
    repeat' split at h
    all_goals first | (cases h; done) | exact (ih h hE).tl.tl
  | new o k ih =>
    intro H kn hs e r h hE
    unfold semX at h
    split at h
    · exact ih _ h hE
    · cases h
  | shape b k ih =>
    intro H kn hs e r h hE
    unfold semX at h
    repeat' split at h
    all_goals first | (cases h; done) | exact (ih _ h hE).tl
  | frozen a k ih =>
    intro H kn hs e r h hE
    unfold semX at h
    repeat' split at h
    all_goals first | (cases h; done) | exact (ih _ h hE).tl
  | program k ih => intro H kn hs e r h hE; exact ih P h hE
  | mark m k ih => intro H kn hs e r h hE; exact ih h hE
  | freeze a n k ih => intro H kn hs e r h hE; cases h
  | getObj b k ih => intro H kn hs e r h hE; cases h
  | setObj b o k ih => intro H kn hs e r h hE; cases h
  | choose q k ih => intro H kn hs e r h hE; cases h
  | sys c k ih => intro H kn hs e r h hE; cases h
  | halt x => intro H kn hs e r h hE; cases h
theorem stepX_mono {P : Program} {n : Nat} {ops : Array Oper} {rl : List Rg} {i : Nat} {h : OH} {g g' : GX} (hx : stepX P n ops rl i h g = some g') (he : EqAll g'.eqs) (ho : AllP g'.obs) : EqAll g.eqs ∧ AllP g.obs := by
  unfold stepX at hx
  split at hx
  · cases hx
  · split at hx
    · split at hx
      · split at hx
        · cases hx
          exact ⟨he, ho.app.2⟩
        · cases hx
      · cases hx
    · split at hx
      · split at hx
        · rename_i hsem
          split at hx
          · cases hx
            exact ⟨semX_mono _ hsem he, ho.app.2⟩
          · cases hx
        · rename_i hsem
          split at hx
          · cases hx
            exact ⟨semX_mono _ hsem he, ho.app.2⟩
          · cases hx
        · cases hx
      · cases hx
    · split at hx
      · split at hx
        · rename_i hsem
          split at hx
          · cases hx
            exact ⟨semX_mono _ hsem he, (AllP.app ho.2).2⟩
          · cases hx
        · cases hx
      · cases hx
    · split at hx
      · split at hx
        · split at hx
          · cases hx
            exact ⟨he, (AllP.app ho.2.2).2⟩
          · cases hx
        · cases hx
      · cases hx
theorem regX_mono {P : Program} {n : Nat} {ops : Array Oper} {rl : List Rg} : ∀ (l : List (Nat × OH)) {g g' : GX}, regX P n ops rl l g = some g' → EqAll g'.eqs → AllP g'.obs → EqAll g.eqs ∧ AllP g.obs
  | [], g, g', hx, he, ho => by
    simp only [regX, Option.some.injEq] at hx
    subst hx
    exact ⟨he, ho⟩
  | x :: l, g, g', hx, he, ho => by
    unfold regX at hx
    split at hx
    · rename_i g1 h1
      obtain ⟨k1, k2⟩ := regX_mono l hx he ho
      exact stepX_mono h1 k1 k2
    · cases hx
theorem regX_sound : ∀ (l : List (Nat × OH)) {g g' : GX} {rest : List Nat} {a : Act} {w : World}, TE a n g.env → Rep fr w g.H g.kn rl → regX P n ops rl l g = some g' → EqAll g'.eqs → AllP g'.obs →
    (∀ a' w', TE a' n g'.env → Rep fr w' g'.H g'.kn rl → wpOps P ops Q rest a' w') → EqAll g.eqs ∧ AllP g.obs ∧ wpOps P ops Q (l.map Prod.fst ++ rest) a w
  | [], g, g', rest, a, w, hE, hR, hx, he, ho, hn => by
    simp only [regX, Option.some.injEq] at hx
    subst hx
    exact ⟨he, ho, hn a w hE hR⟩
  | x :: l, g, g', rest, a, w, hE, hR, hx, he, ho, hn => by
    unfold regX at hx
    split at hx
    · rename_i g1 h1
      have key : EqAll g1.eqs ∧ AllP g1.obs := regX_mono l hx he ho
      obtain ⟨k1, k2, k3⟩ := stepX_sound (Q := Q) hE hR h1 key.1 key.2
      refine ⟨k1, k2, ?_⟩
      rw [List.map_cons, List.cons_append, wpOps_cons]
      exact k3 _ fun a' w' hE' hR' => (regX_sound l hE' hR' hx he ho hn).2.2
    · cases hx
end
end Go.Proofs.Ytkfaaeklkplhnaa
