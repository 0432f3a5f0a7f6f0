/- The engine: a checked evaluator of operations over a world of which some blocks and ranges are known. -/
import Derived.Deep.RegionHeld3
import Derived.Deep.MidRow
import Derived.ProofKit
import Derived.Below
import Derived.Test.YtkfaaeklkplhnaaProg
namespace Go.Proofs.Ytkfaaeklkplhnaa
open Go.RowKit

abbrev Env := List (Nat × Value)
/-- What temporaries hold. -/
structure TE (a : Act) (n : Nat) (env : Env) : Prop where
  size : a.tmps.size = n
  defers : a.defers = []
  get : ∀ t v, env.lookup t = some v → a.tmps.getD t undef = v
theorem TE.put {a : Act} {n : Nat} {env : Env} (h : TE a n env) {d : Nat} (hd : d < n) (v : Value) : TE (a.put (some d) v) n ((d, v) :: env) := by
  refine ⟨by simp [Act.put, h.size], h.defers, fun t u hu => ?_⟩
  simp only [List.lookup] at hu
  by_cases he : t = d
  · subst he
    simp at hu
    subst hu
    simp [Act.put, Array.getD, h.size, hd]
  · have : (t == d) = false := by simpa using he
    rw [this] at hu
    rw [← h.get t u hu]
    simp only [Act.put, Array.getD_eq_getD_getElem?]
    rw [Array.getElem?_setIfInBounds_ne (Ne.symm he)]
theorem TE.sub {a : Act} {n : Nat} {env env' : Env} (h : TE a n env) (hs : env'.map (fun p => env.lookup p.1) = env'.map (fun p => some p.2)) : TE a n env' := by
  refine ⟨h.size, h.defers, fun t v hv => h.get t v ?_⟩
  clear h
  induction env' with
  | nil => cases hv
  | cons p r ih =>
    obtain ⟨t', v'⟩ := p
    simp only [List.map_cons, List.cons.injEq] at hs
    simp only [List.lookup] at hv
    by_cases he : t = t'
    · subst he
      simp at hv
      subst hv
      exact hs.1
    · have : (t == t') = false := by simpa using he
      rw [this] at hv
      exact ih hs.2 hv
def evO (env : Env) : Operand → Option Value
  | .tmp t => env.lookup t
  | .const v => some v
  | .global g => some (.pointer (some ⟨g, 0, none⟩))
  | .func f => some (.func (.func f) #[] #[])
def evT (env : Env) (x : Operand) : Value := (evO env x).getD undef
theorem TE.ev {a : Act} {n : Nat} {env : Env} (h : TE a n env) {x : Operand} {v : Value} (hx : evO env x = some v) : a.eval x = v := by
  cases x with
  | tmp t => exact h.get t v hx
  | const u => cases hx; rfl
  | global g => cases hx; rfl
  | func f => cases hx; rfl
def opsIn (env : Env) (o : Oper) : Bool := o.op.operands.toList.all (fun x => (evO env x).isSome)
def noSel (o : Oper) : Bool := match o.op with | .select .. => false | _ => true
theorem TE.exec {a : Act} {n : Nat} {env : Env} (h : TE a n env) {o : Oper} (ho : opsIn env o = true) (hs : noSel o = true) : execOp a.eval o = execOp (evT env) o := by
  refine execOp_congr o (fun cs b e => by rw [noSel, e] at hs; cases hs) fun x hx => ?_
  unfold opsIn at ho
  have := List.all_eq_true.1 ho x (by simpa using hx)
  obtain ⟨v, hv⟩ := Option.isSome_iff_exists.1 this
  rw [h.ev hv, evT, hv]
  rfl

/-- A stretch of a block that is one's own (wh: it is the whole block); a known range. -/
structure KB where
  b : Nat
  o : Nat
  cs : List Value
  t : TypeId
  wh : Bool
/-- Two stretches have no cell in common. -/
def KB.ap (x y : KB) : Prop := x.b ≠ y.b ∨ ((x.wh = false ∧ y.wh = false) ∧ (x.o + x.cs.length ≤ y.o ∨ y.o + y.cs.length ≤ x.o))
theorem KB.ap.symm {x y : KB} (h : x.ap y) : y.ap x := by
  rcases h with h | ⟨⟨h1, h2⟩, h | h⟩
  · exact .inl (Ne.symm h)
  · exact .inr ⟨⟨h2, h1⟩, .inr h⟩
  · exact .inr ⟨⟨h2, h1⟩, .inl h⟩
structure KB.inB (e : KB) (full : Array Value) : Prop where
  at' : ∀ j v, e.cs[j]? = some v → full[e.o + j]? = some v
  all : e.wh = true → e.o = 0 ∧ full.toList = e.cs
structure Rg where
  b : Nat
  o : Nat
  cs : List Value
def BS (w : World) (kn : List KB) : Prop := ∀ e ∈ kn, ∃ full, w.heap[e.b]? = some (.cells full e.t (0, 0)) ∧ e.inB full
def RS (w : World) (rl : List Rg) : Prop := ∀ r ∈ rl, w.rangeAt r.b r.o r.cs
structure FrOK (f : World × (Nat → Prop)) (w : World) (kn : List KB) : Prop where
  os : w.os = f.1.os
  tape : w.tape = f.1.tape
  output : w.output = f.1.output
  size : f.1.heap.size ≤ w.heap.size
  same : ∀ k, k < f.1.heap.size → f.2 k → w.heap[k]? = f.1.heap[k]?
  own : ∀ e ∈ kn, e.b < f.1.heap.size → ¬ f.2 e.b
structure Rep (fr : List (World × (Nat → Prop))) (w : World) (H : Nat) (kn : List KB) (rl : List Rg) : Prop where
  size : w.heap.size = H
  blk : BS w kn
  nd : kn.Pairwise KB.ap
  frm : ∀ f ∈ fr, FrOK f w kn
  rng : ∀ r ∈ rl, ∃ f ∈ fr, r.b < f.1.heap.size ∧ f.2 r.b ∧ f.1.rangeAt r.b r.o r.cs

variable {fr : List (World × (Nat → Prop))} {w w' : World} {H : Nat} {kn : List KB} {rl : List Rg}
theorem Rep.rs (h : Rep fr w H kn rl) : RS w rl := by
  intro r hr j v hv
  obtain ⟨f, hf, hlt, hS, hra⟩ := h.rng r hr
  have := (h.frm f hf).same r.b hlt hS
  exact (World.cell?_of_block (w := f.1) (w' := w) (a := ⟨r.b, r.o + j, none⟩) this).trans (hra j v hv)
theorem Rep.drew (h : Rep fr w H kn rl) : Rep fr w.drew H kn rl :=
  ⟨h.size, h.blk, h.nd, fun f hf => ⟨(h.frm f hf).os, (h.frm f hf).tape, (h.frm f hf).output, (h.frm f hf).size, (h.frm f hf).same, (h.frm f hf).own⟩, h.rng⟩
theorem Rep.call (h : Rep fr w H kn rl) (hb : Below w.heap.size w w') : Rep fr w' w'.heap.size kn rl := by
  refine ⟨rfl, fun e he => ?_, h.nd, fun f hf => ?_, h.rng⟩
  · obtain ⟨full, h1, h2⟩ := h.blk e he
    exact ⟨full, (hb.block e.b (Array.getElem?_eq_some_iff.1 h1).1).trans h1, h2⟩
  · have k := h.frm f hf
    exact ⟨hb.os.trans k.os, hb.tape.trans k.tape, hb.output.trans k.output, Nat.le_trans k.size hb.size, fun i hi hS => (hb.block i (Nat.lt_of_lt_of_le hi k.size)).trans (k.same i hi hS), k.own⟩
theorem Rep.lt (h : Rep fr w H kn rl) {e : KB} (he : e ∈ kn) : e.b < H := by
  obtain ⟨full, h1, _⟩ := h.blk e he
  rw [← h.size]
  exact (Array.getElem?_eq_some_iff.1 h1).1
theorem Rep.alloc (h : Rep fr w H kn rl) (cs : Array Value) (t : TypeId) : Rep fr (w.alloc (.cells cs t)) (H + 1) (⟨H, 0, cs.toList, t, true⟩ :: kn) rl := by
  refine ⟨by rw [World.size_alloc, h.size], fun e he => ?_, ?_, fun f hf => ?_, h.rng⟩
  · rcases List.mem_cons.1 he with he | he
    · subst he
      have : (w.alloc (.cells cs t)).heap[w.heap.size]? = some (.cells cs t) := by
        show (w.heap.push _)[w.heap.size]? = _
        simp
      rw [h.size] at this
      exact ⟨cs, this, fun j v hv => by simpa using hv, fun _ => ⟨rfl, rfl⟩⟩
    · obtain ⟨full, h1, h2⟩ := h.blk e he
      exact ⟨full, (Below.heap_alloc w _ e.b (Array.getElem?_eq_some_iff.1 h1).1).trans h1, h2⟩
  · rw [List.pairwise_cons]
    refine ⟨fun e he => .inl ?_, h.nd⟩
    have := h.lt he
    show H ≠ e.b
    omega
  · have k := h.frm f hf
    refine ⟨k.os, k.tape, k.output, by rw [World.size_alloc]; exact Nat.le_succ_of_le k.size, fun i hi hS => (Below.heap_alloc w _ i (Nat.lt_of_lt_of_le hi k.size)).trans (k.same i hi hS), fun e he => ?_⟩
    rcases List.mem_cons.1 he with he | he
    · subst he
      intro hlt
      have := k.size
      rw [h.size] at this
      simp at hlt
      omega
    · exact k.own e he
theorem pair_at {kn : List KB} (h : kn.Pairwise KB.ap) {i j : Nat} {x y : KB} (hi : kn[i]? = some x) (hj : kn[j]? = some y) (hij : i ≠ j) : x.ap y := by
  obtain ⟨l1, g1⟩ := List.getElem?_eq_some_iff.1 hi
  obtain ⟨l2, g2⟩ := List.getElem?_eq_some_iff.1 hj
  rw [List.pairwise_iff_getElem] at h
  rcases Nat.lt_or_gt_of_ne hij with hlt | hlt
  · have := h i j l1 l2 hlt
    rw [g1, g2] at this
    exact this
  · have := h j i l2 l1 hlt
    rw [g1, g2] at this
    exact this.symm
theorem Rep.store (h : Rep fr w H kn rl) {i : Nat} {e : KB} (hi : kn[i]? = some e) {m : Nat} (hm : m < e.cs.length) (v : Value) : Rep fr (w.setCell ⟨e.b, e.o + m, none⟩ v) H (kn.set i ⟨e.b, e.o, e.cs.set m v, e.t, e.wh⟩) rl := by
  have hil : i < kn.length := (List.getElem?_eq_some_iff.1 hi).1
  have hmem : e ∈ kn := List.mem_of_getElem? hi
  have hset : ∀ {j : Nat} {x : KB}, (kn.set i ⟨e.b, e.o, e.cs.set m v, e.t, e.wh⟩)[j]? = some x → (j = i ∧ x = ⟨e.b, e.o, e.cs.set m v, e.t, e.wh⟩) ∨ (j ≠ i ∧ kn[j]? = some x) := fun {j x} hj => by
    rw [List.getElem?_set] at hj
    split at hj
    · rename_i hij
      subst hij
      rw [Option.some.injEq] at hj
      exact .inl ⟨rfl, hj.symm⟩
    · rename_i hij
      exact .inr ⟨fun h => hij h.symm, hj⟩
  refine ⟨by simp [World.setCell, h.size], fun x hx => ?_, ?_, fun f hf => ?_, h.rng⟩
  · obtain ⟨j, hj⟩ := List.mem_iff_getElem?.1 hx
    rcases hset hj with ⟨_, rfl⟩ | ⟨hne, hj⟩
    · obtain ⟨full, h1, h2⟩ := h.blk e hmem
      refine ⟨full.setIfInBounds (e.o + m) v, ?_, fun j u hu => ?_, fun hw => ?_⟩
      · simp only [World.setCell, Array.getElem?_modify, if_true]
        rw [h1]
        simp
      · simp only at hu ⊢
        rw [List.getElem?_set] at hu
        rw [Array.getElem?_setIfInBounds]
        split at hu
        · rename_i hmj
          subst hmj
          have hl : e.o + m < full.size := by
            have := h2.at' m _ (List.getElem?_eq_getElem hm)
            exact (Array.getElem?_eq_some_iff.1 this).1
          rw [if_pos rfl, if_pos hl]
          exact hu
        · rename_i hmj
          rw [if_neg (by omega)]
          exact h2.at' j u hu
      · obtain ⟨g1, g2⟩ := h2.all hw
        refine ⟨g1, ?_⟩
        simp only [Array.toList_setIfInBounds, g2, g1, Nat.zero_add]
    · obtain ⟨full, h1, h2⟩ := h.blk x (List.mem_of_getElem? hj)
      by_cases hb : x.b = e.b
      · have hap := pair_at h.nd hj hi hne
        obtain ⟨full', h1', h2'⟩ := h.blk e hmem
        refine ⟨full.setIfInBounds (e.o + m) v, ?_, fun j u hu => ?_, fun hw => ?_⟩
        · simp only [World.setCell, Array.getElem?_modify, hb, if_true]
          rw [← hb, h1]
          simp
        · have hjl : j < x.cs.length := (List.getElem?_eq_some_iff.1 hu).1
          rw [Array.getElem?_setIfInBounds_ne]
          · exact h2.at' j u hu
          · rcases hap with hap | ⟨_, hap | hap⟩
            · exact absurd hb hap
            · omega
            · omega
        · obtain ⟨g1, g2⟩ := h2.all hw
          have hl : e.o + m < full.size := by
            have h5 : full' = full := by
              rw [← hb, h1] at h1'
              injection h1' with h1'
              injection h1' with h6
              exact h6.symm
            have := h2'.at' m _ (List.getElem?_eq_getElem hm)
            rw [h5] at this
            exact (Array.getElem?_eq_some_iff.1 this).1
          have hxl : x.cs.length = full.size := by rw [← g2]; simp
          rcases hap with hap | ⟨_, hap | hap⟩
          · exact absurd hb hap
          · omega
          · omega
      · refine ⟨full, ?_, h2⟩
        rw [Below.heap_setCell w _ v x.b hb]
        exact h1
  · rw [List.pairwise_iff_getElem]
    intro p q hp hq hpq
    have e1 := hset (List.getElem?_eq_getElem hp)
    have e2 := hset (List.getElem?_eq_getElem hq)
    rcases e1 with ⟨rfl, e1⟩ | ⟨hpi, e1⟩ <;> rcases e2 with ⟨rfl, e2⟩ | ⟨hqi, e2⟩
    · omega
    · rw [e1]
      have := pair_at h.nd hi e2 (by omega)
      unfold KB.ap at this ⊢
      simpa using this
    · rw [e2]
      have := pair_at h.nd e1 hi (by omega)
      unfold KB.ap at this ⊢
      simpa using this
    · exact pair_at h.nd e1 e2 (by omega)
  · have k := h.frm f hf
    refine ⟨k.os, k.tape, k.output, by simp [World.setCell]; exact k.size, fun j hj hS => ?_, fun x hx => ?_⟩
    · have hne : j ≠ e.b := fun hje => k.own e hmem (hje ▸ hj) (hje ▸ hS)
      rw [Below.heap_setCell w _ v j hne]
      exact k.same j hj hS
    · obtain ⟨j, hj⟩ := List.mem_iff_getElem?.1 hx
      rcases hset hj with ⟨_, rfl⟩ | ⟨_, hj⟩
      · exact k.own e hmem
      · exact k.own x (List.mem_of_getElem? hj)
theorem Rep.below (h : Rep fr w H kn rl) {w0 : World} (hf : (w0, fun _ => True) ∈ fr) : Below w0.heap.size w0 w :=
  have k := h.frm _ hf
  ⟨k.os, k.tape, k.output, k.size, fun i hi => k.same i hi trivial⟩
theorem Rep.start (w : World) : Rep [(w, fun _ => True)] w w.heap.size [] [] :=
  ⟨rfl, fun _ h => by (cases h), .nil, fun f hf => by
    simp at hf
    subst hf
    exact ⟨rfl, rfl, rfl, Nat.le_refl _, fun _ _ _ => rfl, fun _ h => by (cases h)⟩, fun _ h => by (cases h)⟩

inductive Hint where
  | k (i m : Nat)
  | r (j m : Nat)
/-- A run of neighbouring cells. -/
def hks (i m n : Nat) : List Hint := (List.range' m n).map (Hint.k i)
/-- What an evaluation leaves: its value, the hints that are left, the blocks, the heap's size, the pairs of numbers that are to be one. -/
structure SX (α : Type) where
  val : α
  hs : List Hint
  kn : List KB
  H : Nat
  eqs : List (Nat × Nat)
def semX {α : Type} (P : Program) (rl : List Rg) : Sem α → List Hint → List KB → Nat → List (Nat × Nat) → Option (SX α)
  | .pure a, hs, kn, H, e => some ⟨a, hs, kn, H, e⟩
  | .load _ a k, hs, kn, H, e =>
    match hs with
    | .k i m :: hs =>
      match kn[i]? with
      | some x => match a.spot with
        | none => match x.cs[m]? with
          | some v => semX P rl (k v) hs kn H ((a.block, x.b) :: (a.off, x.o + m) :: e)
          | none => none
        | some _ => none
      | none => none
    | .r j m :: hs =>
      match rl[j]? with
      | some x => match a.spot with
        | none => match x.cs[m]? with
          | some v => semX P rl (k v) hs kn H ((a.block, x.b) :: (a.off, x.o + m) :: e)
          | none => none
        | some _ => none
      | none => none
    | [] => none
  | .store _ a v k, hs, kn, H, e =>
    match v with
    | .agg _ => none
    | .tuple _ => none
    | v =>
      match hs with
      | .k i m :: hs =>
        match kn[i]? with
        | some x => match a.spot with
          | none => match x.cs[m]? with
            | some _ => semX P rl k hs (kn.set i ⟨x.b, x.o, x.cs.set m v, x.t, x.wh⟩) H ((a.block, x.b) :: (a.off, x.o + m) :: e)
            | none => none
          | some _ => none
        | none => none
      | _ => none
  | .new o k, hs, kn, H, e =>
    match o with
    | .cells c t (0, 0) => semX P rl (k H) hs (⟨H, 0, c.toList, t, true⟩ :: kn) (H + 1) e
    | _ => none
  | .shape b k, hs, kn, H, e =>
    match hs with
    | .k i _ :: hs =>
      match kn[i]? with
      | some x => match x.wh with
        | true => semX P rl (k (some (x.t, x.cs.length))) hs kn H ((b, x.b) :: e)
        | false => none
      | none => none
    | _ => none
  | .frozen a k, hs, kn, H, e =>
    match hs with
    | .k i _ :: hs =>
      match kn[i]? with
      | some x => semX P rl (k false) hs kn H ((a.block, x.b) :: e)
      | none => none
    | _ => none
  | .program k, hs, kn, H, e => semX P rl (k P) hs kn H e
  | .mark _ k, hs, kn, H, e => semX P rl k hs kn H e
  | _, _, _, _, _ => none

def EqAll (e : List (Nat × Nat)) : Prop := ∀ p ∈ e, p.1 = p.2
theorem cell_kn {w : World} {kn : List KB} (hb : BS w kn) {i : Nat} {x : KB} (hi : kn[i]? = some x) {a : Addr} (hs : a.spot = none) {m : Nat} {v : Value} (hv : x.cs[m]? = some v) (he : a.block = x.b) (ho : a.off = x.o + m) : w.cell? a = some v := by
  obtain ⟨full, h1, h2⟩ := hb x (List.mem_of_getElem? hi)
  simp only [World.cell?, he, h1, hs, ho]
  simpa using h2.at' m v hv
theorem froz_kn {w : World} {kn : List KB} (hb : BS w kn) {i : Nat} {x : KB} (hi : kn[i]? = some x) {a : Addr} (he : a.block = x.b) : w.frozen? a = false := by
  obtain ⟨full, h1, h2⟩ := hb x (List.mem_of_getElem? hi)
  simp [World.frozen?, he, h1]
theorem shape_kn {w : World} {kn : List KB} (hb : BS w kn) {i : Nat} {x : KB} (hi : kn[i]? = some x) {b : Nat} (he : b = x.b) (hw : x.wh = true) : w.shape? b = some (x.t, x.cs.length) := by
  obtain ⟨full, h1, h2⟩ := hb x (List.mem_of_getElem? hi)
  simp [World.shape?, he, h1, ← (h2.all hw).2]
theorem semX_sound {α : Type} {P : Program} {fr : List (World × (Nat → Prop))} {rl : List Rg} (s : Sem α) : ∀ {w : World} {H : Nat} {kn : List KB} {hs : List Hint} {e : List (Nat × Nat)} {r : SX α}, Rep fr w H kn rl → semX P rl s hs kn H e = some r → EqAll r.eqs →
    EqAll e ∧ ∃ w', s.run P w = .ok r.val w' ∧ Rep fr w' r.H r.kn rl := by
  induction s with
  | pure a =>
    intro w H kn hs e r hR h hE
    simp only [semX, Option.some.injEq] at h
    subst h
    exact ⟨hE, w, rfl, hR⟩
  | load m a k ih =>
    intro w H kn hs e r hR h hE
    unfold semX at h
    split at h
    · split at h
      · rename_i x hi
        split at h
        · rename_i hsp
          split at h
          · rename_i v hv
            obtain ⟨h1, w', h2, h3⟩ := ih v hR h hE
            have hc := cell_kn hR.blk hi hsp hv (h1 _ List.mem_cons_self) (h1 (a.off, _) (List.mem_cons_of_mem _ List.mem_cons_self))
            exact ⟨fun p hp => h1 p (List.mem_cons_of_mem _ (List.mem_cons_of_mem _ hp)), w', by simp only [Sem.run, hc]; exact h2, h3⟩
          · cases h
        · cases h
      · cases h
    · split at h
      · rename_i j mm hs' _ x hi
        split at h
        · rename_i hsp
          split at h
          · rename_i v hv
            obtain ⟨h1, w', h2, h3⟩ := ih v hR h hE
            have g1 := h1 _ List.mem_cons_self
            have g2 := h1 (a.off, x.o + mm) (List.mem_cons_of_mem _ List.mem_cons_self)
            have hc := hR.rs x (List.mem_of_getElem? hi) mm v hv
            have ha : a = ⟨x.b, x.o + mm, none⟩ := by
              obtain ⟨ab, ao, asp⟩ := a
              simp at g1 g2 hsp
              rw [g1, g2, hsp]
            rw [← ha] at hc
            exact ⟨fun p hp => h1 p (List.mem_cons_of_mem _ (List.mem_cons_of_mem _ hp)), w', by simp only [Sem.run, hc]; exact h2, h3⟩
          · cases h
        · cases h
      · cases h
    · cases h
  | store m a v k ih =>
    intro w H kn hs e r hR h hE
    unfold semX at h
    split at h
    · cases h
    · cases h
    · rename_i v' hna hnt
      split at h
      · split at h
        · rename_i x hi
          split at h
          · rename_i hsp
            split at h
            · rename_i u hu
              have hR' := hR.store hi (List.getElem?_eq_some_iff.1 hu).1 v
              obtain ⟨h1, w', h2, h3⟩ := ih hR' h hE
              have g1 := h1 _ List.mem_cons_self
              have g2 := h1 (a.off, _) (List.mem_cons_of_mem _ List.mem_cons_self)
              have hc := cell_kn hR.blk hi hsp hu g1 g2
              have hf := froz_kn hR.blk hi (a := a) g1
              have ha : a = ⟨x.b, a.off, none⟩ := by
                obtain ⟨ab, ao, asp⟩ := a
                simp at g1 g2 hsp
                rw [g1, hsp]
              have g2' : a.off = x.o + _ := g2
              rw [← g2', ← ha] at h2
              refine ⟨fun p hp => h1 p (List.mem_cons_of_mem _ (List.mem_cons_of_mem _ hp)), w', ?_, h3⟩
              cases v <;> first | (exact absurd rfl (hna _)) | (exact absurd rfl (hnt _)) | (simp only [Sem.run, hc, hf]; exact h2)
            · cases h
          · cases h
        · cases h
      · cases h
  | new o k ih =>
    intro w H kn hs e r hR h hE
    unfold semX at h
    split at h
    · rename_i c t
      have hR' := hR.alloc c t
      obtain ⟨h1, w', h2, h3⟩ := ih H hR' h hE
      refine ⟨h1, w', ?_, h3⟩
      simp only [Sem.run, hR.size]
      exact h2
    · cases h
  | shape b k ih =>
    intro w H kn hs e r hR h hE
    unfold semX at h
    split at h
    · split at h
      · rename_i x hi
        split at h
        · rename_i hw
          obtain ⟨h1, w', h2, h3⟩ := ih _ hR h hE
          have g1 : b = x.b := h1 (b, x.b) List.mem_cons_self
          have hc := shape_kn hR.blk hi g1 hw
          exact ⟨fun p hp => h1 p (List.mem_cons_of_mem _ hp), w', by simp only [Sem.run, hc]; exact h2, h3⟩
        · cases h
      · cases h
    · cases h
  | frozen a k ih =>
    intro w H kn hs e r hR h hE
    unfold semX at h
    split at h
    · split at h
      · rename_i x hi
        obtain ⟨h1, w', h2, h3⟩ := ih _ hR h hE
        have g1 : a.block = x.b := h1 (a.block, x.b) List.mem_cons_self
        have hc := froz_kn hR.blk hi (a := a) g1
        exact ⟨fun p hp => h1 p (List.mem_cons_of_mem _ hp), w', by simp only [Sem.run, hc]; exact h2, h3⟩
      · cases h
    · cases h
  | program k ih =>
    intro w H kn hs e r hR h hE
    exact ih P hR h hE
  | mark m k ih =>
    intro w H kn hs e r hR h hE
    exact ih hR h hE
  | freeze a n k ih => intro w H kn hs e r hR h hE; cases h
  | getObj b k ih => intro w H kn hs e r hR h hE; cases h
  | setObj b o k ih => intro w H kn hs e r hR h hE; cases h
  | choose q k ih => intro w H kn hs e r hR h hE; cases h
  | sys c k ih => intro w H kn hs e r hR h hE; cases h
  | halt x => intro w H kn hs e r hR h hE; cases h

/-- What reads alone. -/
structure RX (α : Type) where
  val : α
  hs : List Hint
  eqs : List (Nat × Nat)
def semR {α : Type} (P : Program) (kn : List KB) (rl : List Rg) : Sem α → List Hint → List (Nat × Nat) → Option (RX α)
  | .pure a, hs, e => some ⟨a, hs, e⟩
  | .load _ a k, hs, e =>
    match hs with
    | .k i m :: hs =>
      match kn[i]? with
      | some x => match a.spot with
        | none => match x.cs[m]? with
          | some v => semR P kn rl (k v) hs ((a.block, x.b) :: (a.off, x.o + m) :: e)
          | none => none
        | some _ => none
      | none => none
    | .r j m :: hs =>
      match rl[j]? with
      | some x => match a.spot with
        | none => match x.cs[m]? with
          | some v => semR P kn rl (k v) hs ((a.block, x.b) :: (a.off, x.o + m) :: e)
          | none => none
        | some _ => none
      | none => none
    | [] => none
  | .shape b k, hs, e =>
    match hs with
    | .k i _ :: hs =>
      match kn[i]? with
      | some x => match x.wh with
        | true => semR P kn rl (k (some (x.t, x.cs.length))) hs ((b, x.b) :: e)
        | false => none
      | none => none
    | _ => none
  | .frozen a k, hs, e =>
    match hs with
    | .k i _ :: hs =>
      match kn[i]? with
      | some x => semR P kn rl (k false) hs ((a.block, x.b) :: e)
      | none => none
    | _ => none
  | .program k, hs, e => semR P kn rl (k P) hs e
  | .mark _ k, hs, e => semR P kn rl k hs e
  | _, _, _ => none
theorem semR_sound {α : Type} {P : Program} {kn : List KB} {rl : List Rg} (s : Sem α) : ∀ {hs : List Hint} {e : List (Nat × Nat)} {r : RX α}, semR P kn rl s hs e = some r → EqAll r.eqs →
    EqAll e ∧ ∀ w, BS w kn → RS w rl → s.run P w = .ok r.val w := by
  induction s with
  | pure a =>
    intro hs e r h hE
    simp only [semR, Option.some.injEq] at h
    subst h
    exact ⟨hE, fun _ _ _ => rfl⟩
  | load m a k ih =>
    intro hs e r h hE
    unfold semR at h
    split at h
    · split at h
      · rename_i x hi
        split at h
        · rename_i hsp
          split at h
          · rename_i v hv
            obtain ⟨h1, h2⟩ := ih v h hE
            exact ⟨fun p hp => h1 p (List.mem_cons_of_mem _ (List.mem_cons_of_mem _ hp)), fun w hB hR => by
              have hc := cell_kn hB hi hsp hv (h1 _ List.mem_cons_self) (h1 (a.off, _) (List.mem_cons_of_mem _ List.mem_cons_self))
              simp only [Sem.run, hc]
              exact h2 w hB hR⟩
          · cases h
        · cases h
      · cases h
    · split at h
      · rename_i j mm hs' _ x hi
        split at h
        · rename_i hsp
          split at h
          · rename_i v hv
            obtain ⟨h1, h2⟩ := ih v h hE
            have g1 := h1 _ List.mem_cons_self
            have g2 := h1 (a.off, x.o + mm) (List.mem_cons_of_mem _ List.mem_cons_self)
            have ha : a = ⟨x.b, x.o + mm, none⟩ := by
              obtain ⟨ab, ao, asp⟩ := a
              simp at g1 g2 hsp
              rw [g1, g2, hsp]
            exact ⟨fun p hp => h1 p (List.mem_cons_of_mem _ (List.mem_cons_of_mem _ hp)), fun w hB hR => by
              have hc := hR x (List.mem_of_getElem? hi) mm v hv
              rw [← ha] at hc
              simp only [Sem.run, hc]
              exact h2 w hB hR⟩
          · cases h
        · cases h
      · cases h
    · cases h
  | shape b k ih =>
    intro hs e r h hE
    unfold semR at h
    split at h
    · split at h
      · rename_i x hi
        split at h
        · rename_i hw
          obtain ⟨h1, h2⟩ := ih _ h hE
          have g1 : b = x.b := h1 (b, x.b) List.mem_cons_self
          exact ⟨fun p hp => h1 p (List.mem_cons_of_mem _ hp), fun w hB hR => by
            have hc := shape_kn hB hi g1 hw
            simp only [Sem.run, hc]
            exact h2 w hB hR⟩
        · cases h
      · cases h
    · cases h
  | frozen a k ih =>
    intro hs e r h hE
    unfold semR at h
    split at h
    · split at h
      · rename_i x hi
        obtain ⟨h1, h2⟩ := ih _ h hE
        have g1 : a.block = x.b := h1 (a.block, x.b) List.mem_cons_self
        exact ⟨fun p hp => h1 p (List.mem_cons_of_mem _ hp), fun w hB hR => by
          have hc := froz_kn hB hi (a := a) g1
          simp only [Sem.run, hc]
          exact h2 w hB hR⟩
      · cases h
    · cases h
  | program k ih => intro hs e r h hE; exact ih P h hE
  | mark m k ih =>
    intro hs e r h hE
    obtain ⟨h1, h2⟩ := ih h hE
    exact ⟨h1, h2⟩
  | store m a v k ih => intro hs e r h hE; cases h
  | new o k ih => intro hs e r h hE; cases h
  | freeze a n k ih => intro hs e r h hE; cases h
  | getObj b k ih => intro hs e r h hE; cases h
  | setObj b o k ih => intro hs e r h hE; cases h
  | choose q k ih => intro hs e r h hE; cases h
  | sys c k ih => intro hs e r h hE; cases h
  | halt x => intro hs e r h hE; cases h
end Go.Proofs.Ytkfaaeklkplhnaa
