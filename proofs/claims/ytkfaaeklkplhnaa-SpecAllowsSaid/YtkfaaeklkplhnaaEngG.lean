/- The engine: rows whose contents are letters: made, copied, stored into; lists laid out flat. -/
import Derived.Laws.MakeOwn
import Derived.Laws.IdiomCopy
import Derived.Test.YtkfaaeklkplhnaaEngF
namespace Go.Proofs.Ytkfaaeklkplhnaa
open Go.RowKit

/-- vs laid over cs from o on. -/
def spl (cs : List Value) (o : Nat) (vs : List Value) : List Value := cs.take o ++ vs ++ cs.drop (o + vs.length)
theorem spl_nil (cs : List Value) (o : Nat) : spl cs o [] = cs := by simp [spl]
theorem spl_cons (cs : List Value) (o : Nat) (v : Value) (vs : List Value) (h : o < cs.length) : spl (cs.set o v) (o + 1) vs = spl cs o (v :: vs) := by
  unfold spl
  have h1 : (cs.set o v).take (o + 1) = cs.take o ++ [v] := by
    rw [List.take_succ_eq_append_getElem (by simpa using h), List.take_set_of_le (Nat.le_refl _)]
    simp
  have h2 : (cs.set o v).drop (o + 1 + vs.length) = cs.drop (o + (v :: vs).length) := by
    rw [List.drop_set_of_lt (by omega)]
    simp only [List.length_cons]
    congr 1
    omega
  rw [h1, h2]
  simp
theorem spl_length (cs : List Value) (o : Nat) (vs : List Value) (h : o + vs.length ≤ cs.length) : (spl cs o vs).length = cs.length := by
  simp [spl]
  omega
theorem spl_all (cs vs : List Value) (h : vs.length = cs.length) : spl cs 0 vs = vs := by
  unfold spl
  rw [Nat.zero_add, h]
  simp

section
variable {P : Program} {n : Nat} {ops : Array Oper} {rl : List Rg} {fr : List (World × (Nat → Prop))} {Q : Exit → Act → World → Prop} {kn : List KB} {H : Nat} {a : Act} {w : World} {env : Env}
theorem Rep.stores : ∀ (vs : List Value) {w : World} {kn : List KB} (_ : Rep fr w H kn rl) {i : Nat} {e : KB} (_ : kn[i]? = some e) (o : Nat) (_ : o + vs.length ≤ e.cs.length), Rep fr (w.setCells e.b (e.o + o) vs) H (kn.set i ⟨e.b, e.o, spl e.cs o vs, e.t, e.wh⟩) rl
  | [], w, kn, hR, i, e, hi, o, _ => by
    rw [spl_nil]
    have : kn.set i ⟨e.b, e.o, e.cs, e.t, e.wh⟩ = kn := by
      obtain ⟨hl, he⟩ := List.getElem?_eq_some_iff.1 hi
      rw [show (⟨e.b, e.o, e.cs, e.t, e.wh⟩ : KB) = kn[i] from he.symm]
      exact List.set_getElem_self hl
    rw [this]
    exact hR
  | v :: vs, w, kn, hR, i, e, hi, o, ho => by
    simp only [List.length_cons] at ho
    have h1 := hR.store hi (m := o) (by omega) v
    have hl : i < kn.length := (List.getElem?_eq_some_iff.1 hi).1
    have h2 : (kn.set i ⟨e.b, e.o, e.cs.set o v, e.t, e.wh⟩)[i]? = some ⟨e.b, e.o, e.cs.set o v, e.t, e.wh⟩ := by simp [hl]
    have h3 := Rep.stores vs h1 h2 (o + 1) (by simp; omega)
    simp only [List.set_set, spl_cons e.cs o v vs (by omega)] at h3
    exact h3
theorem Rep.cells (h : Rep fr w H kn rl) {i : Nat} {e : KB} (hi : kn[i]? = some e) (o : Nat) (vs : List Value) (hfit : o + vs.length ≤ e.cs.length) : (∀ j, j < vs.length → (w.cell? ⟨e.b, e.o + o + 0 + j, none⟩).isSome = true) ∧ (∀ j, j < vs.length → w.frozen? ⟨e.b, e.o + o + 0 + j, none⟩ = false) := by
  refine ⟨fun q hq => ?_, fun q _ => froz_kn h.blk hi rfl⟩
  have hlt : o + q < e.cs.length := by omega
  rw [cell_kn h.blk hi (a := ⟨e.b, e.o + o + 0 + q, none⟩) rfl (List.getElem?_eq_getElem hlt) rfl (by show e.o + o + 0 + q = e.o + (o + q); omega)]
  rfl
/-- make([]T, m) at a letter. -/
theorem mkS {i : Nat} {K : Act → World → Prop} (hE : TE a n env) (sz : Nat) (E : TypeId) (bytes : Nat) (hR : Rep fr w H kn rl) (m : Nat) (obs : List Prop)
    {d : Tmp} {s x : Operand} {t ty : TypeId} {pos : String} {after : Array Edge} {gd : Option (Nat × Bool)}
    (hi : ops[i]? = some ⟨some d, .makeSlice t s x, ty, pos, after, gd⟩)
    (hg : guardX ops env ⟨some d, .makeSlice t s x, ty, pos, after, gd⟩ true = some obs) (ho : AllP obs)
    (ht : P.underlying t = some (.slice E)) (hz : szB P E sz bytes = true)
    (hs : evO env s = some (.int .i64 (m : Int))) (hx : evO env x = some (.int .i64 (m : Int))) (hd : decide (d < n) = true) (hby : bytes * m ≤ 281474976710656) (h63 : m ≤ 9223372036854775807)
    (next : ∀ a' w' zs, zs.length = m * sz → TE a' n ((d, .slice (some ⟨H, 0, none⟩) m m) :: env) → Rep fr w' (H + 1) (⟨H, 0, zs, E, true⟩ :: kn) rl → K a' w') : wpOp P ops Q i K a w := by
  unfold wpOp
  rw [hi]
  simp only [guard_yes hE hg ho, if_true]
  refine .inl ?_
  unfold szB at hz
  split at hz
  · rename_i inf hinf
    split at hz
    · rename_i z hzz
      simp only [Bool.and_eq_true, beq_iff_eq] at hz
      obtain ⟨⟨hz1, hz2⟩, hz3⟩ := hz
      have hbm : (inf.bytes : Int) * (m : Int) ≤ 281474976710656 := by
        rw [hz2]
        have h3 : ((bytes * m : Nat) : Int) ≤ 281474976710656 := by omega
        simpa using h3
      have hr := run_make (P := P) w t E inf z ht hinf hzz .i64 .i64 m m (by omega) (Int.le_refl _) hbm (by omega)
      unfold Oper.wp execOp
      simp only [Sem.run_bind, hE.ev hs, hE.ev hx, hr, Result.andThen_ok, Sem.run_pure]
      have hA := hR.alloc (madeCells z.cells ((m : Int).toNat * inf.size)) E
      rw [hR.size]
      refine next _ _ _ ?_ (hE.put (of_decide_eq_true hd) _) hA
      simp [madeCells, hz1]
    · cases hz
  · cases hz
/-- copy(dst, src) into a row of the function's own: m places. -/
theorem cpS {i : Nat} {K : Act → World → Prop} (hE : TE a n env) (sz : Nat) (E : TypeId) (bytes : Nat) (hR : Rep fr w H kn rl) (j : Nat) (e : KB) (hj : kn[j]? = some e) (o dl dc : Nat) (A : Option Addr) (sl sc : Nat) (cs : List Value) (obs : List Prop)
    (hsrc : ∀ ad, A = some ad → ∀ j v, cs[j]? = some v → w.cell? (ad.add j) = some v) (hnil : A = none → cs = []) (hl : cs.length = Nat.min sl dl * sz) (hfit : o + cs.length ≤ e.cs.length) (h1 : cs.all (fun u => u.oneCell') = true)
    {s x : Operand} {t t2 ty : TypeId} {pos : String} {after : Array Edge} {gd : Option (Nat × Bool)} {dst : Option Tmp}
    (hi : ops[i]? = some ⟨dst, .call { callee := .builtin .copy, args := #[s, x], argTypes := #[t, t2] }, ty, pos, after, gd⟩)
    (hg : guardX ops env ⟨dst, .call { callee := .builtin .copy, args := #[s, x], argTypes := #[t, t2] }, ty, pos, after, gd⟩ true = some obs) (ho : AllP obs)
    (ht : P.underlying t = some (.slice E)) (hz : szB P E sz bytes = true)
    (hs : evO env s = some (.slice (some ⟨e.b, e.o + o, none⟩) dl dc)) (hx : evO env x = some (.slice A sl sc)) (hd : (putX n env dst undef).isSome = true) (cs' : List Value) (hcs : spl e.cs o cs = cs') (kn' : List KB) (hkn : kn.set j ⟨e.b, e.o, cs', e.t, e.wh⟩ = kn')
    (next : ∀ a' w', TE a' n (putE dst (.int .i64 ((Nat.min sl dl : Nat) : Int)) env) → Rep fr w' H kn' rl → K a' w') : wpOp P ops Q i K a w := by
  unfold wpOp
  rw [hi]
  simp only [guard_yes hE hg ho, if_true]
  refine .inl ?_
  unfold szB at hz
  split at hz
  · rename_i inf hinf
    split at hz
    · rename_i z hzz
      simp only [Bool.and_eq_true, beq_iff_eq] at hz
      obtain ⟨⟨hz1, hz2⟩, hz3⟩ := hz
      have hcl := hR.cells hj o cs hfit
      have hst := run_storeCells_cells (P := P) e.b (e.o + o) cs 0 w hcl.1 hcl.2 (List.all_eq_true.1 h1)
      have hfc : (Builtin.firstCells inf.size (Nat.min sl dl) (.slice A sl sc)).run P w = .ok cs.toArray w := by
        cases A with
        | none =>
          rw [hnil rfl]
          rfl
        | some ad => exact run_firstCells_some (P := P) w inf.size (Nat.min sl dl) ad sl sc cs (by rw [hz1]; exact hl) (hsrc ad rfl)
      unfold Oper.wp execOp
      simp only [resolve, invoke, builtin, Sem.run_bind, Sem.run_pure, Result.andThen_ok, List.map_toArray, List.map_cons, List.map_nil, hE.ev hs, hE.ev hx, Builtin.copy_, List.getElem?_toArray, List.getElem?_cons_zero, List.getElem?_cons_succ, run_underlying ht, Builtin.lenOf, sizeOf, typeInfo, run_program, hinf, hfc, hst, Nat.add_zero]
      refine next _ _ ?_ (hkn ▸ hcs ▸ hR.stores cs hj o hfit)
      refine putX_sound hE ?_
      cases dst with
      | none => rfl
      | some d =>
        by_cases hdn : d < n
        · simp only [putX, decide_eq_true hdn]
          rfl
        · simp only [putX, decide_eq_false hdn] at hd
          cases hd
    · cases hz
  · cases hz
/-- A store into a row whose contents are letters. -/
theorem stS {i : Nat} {K : Act → World → Prop} (hE : TE a n env) (hR : Rep fr w H kn rl) (j : Nat) (e : KB) (hj : kn[j]? = some e) (o : Nat) (v : Value) (obs : List Prop)
    {x y : Operand} {t ty : TypeId} {pos : String} {after : Array Edge} {gd : Option (Nat × Bool)}
    (hi : ops[i]? = some ⟨none, .store t x y, ty, pos, after, gd⟩)
    (hg : guardX ops env ⟨none, .store t x y, ty, pos, after, gd⟩ true = some obs) (ho : AllP obs)
    (hz : (P.info? t).map (·.size) = some v.cells.size)
    (hx : evO env x = some (.pointer (some ⟨e.b, e.o + o, none⟩))) (hy : evO env y = some v) (h1 : v.cells.toList.all (fun u => u.oneCell') = true) (hfit : o + v.cells.size ≤ e.cs.length) (cs' : List Value) (hcs : spl e.cs o v.cells.toList = cs') (kn' : List KB) (hkn : kn.set j ⟨e.b, e.o, cs', e.t, e.wh⟩ = kn')
    (next : ∀ a' w', TE a' n env → Rep fr w' H kn' rl → K a' w') : wpOp P ops Q i K a w := by
  unfold wpOp
  rw [hi]
  simp only [guard_yes hE hg ho, if_true]
  refine .inl ?_
  obtain ⟨inf, hinf, hsz⟩ := Option.map_eq_some_iff.1 hz
  have hcl := hR.cells hj o v.cells.toList (by simpa using hfit)
  have hst := run_storeCells_cells (P := P) e.b (e.o + o) v.cells.toList 0 w hcl.1 hcl.2 (List.all_eq_true.1 h1)
  unfold Oper.wp execOp
  simp only [Sem.run_bind, hE.ev hx, hE.ev hy, Instr.storeAt, Instr.sureAddr, Sem.run_pure, Result.andThen_ok, storeVar, sizeOf, typeInfo, run_program, hinf, hsz]
  simp only [ne_eq, not_true_eq_false, if_false, hst, Nat.add_zero]
  exact next _ _ hE (hkn ▸ hcs ▸ hR.stores v.cells.toList hj o (by simpa using hfit))
end

/-- Lists laid out flat, m cells each. -/
theorem flat_length {α : Type} {f : α → List Value} {m : Nat} (hf : ∀ x, (f x).length = m) : ∀ l : List α, (l.flatMap f).length = l.length * m
  | [] => by simp
  | x :: l => by rw [List.flatMap_cons, List.length_append, hf, flat_length hf l, List.length_cons, Nat.add_mul]; omega
theorem flat_split {α : Type} {f : α → List Value} {l : List α} {k : Nat} (hk : k < l.length) : l.flatMap f = (l.take k).flatMap f ++ (f l[k] ++ (l.drop (k + 1)).flatMap f) := by
  conv => lhs; rw [← List.take_append_drop k l, List.drop_eq_getElem_cons hk]
  rw [List.flatMap_append, List.flatMap_cons]
theorem flat_range {α : Type} {f : α → List Value} {m : Nat} (hf : ∀ x, (f x).length = m) {w : World} {b o : Nat} {l : List α} (h : w.rangeAt b o (l.flatMap f)) {k : Nat} (hk : k < l.length) : w.rangeAt b (o + k * m) (f l[k]) := by
  rw [flat_split hk] at h
  have h1 := range_app (range_drop h)
  rw [flat_length hf, List.length_take, Nat.min_eq_left (Nat.le_of_lt hk)] at h1
  exact h1
theorem flat_set {α : Type} {f : α → List Value} {m : Nat} (hf : ∀ x, (f x).length = m) {l : List α} {k : Nat} (hk : k < l.length) (y : α) : spl (l.flatMap f) (k * m) (f y) = (l.set k y).flatMap f := by
  have e : l.set k y = l.take k ++ y :: l.drop (k + 1) := List.set_eq_take_append_cons_drop .. |>.trans (by rw [if_pos hk])
  rw [e, List.flatMap_append, List.flatMap_cons]
  unfold spl
  have h1 : ((l.take k).flatMap f).length = k * m := by rw [flat_length hf, List.length_take, Nat.min_eq_left (Nat.le_of_lt hk)]
  have h2 : (l.flatMap f).take (k * m) = (l.take k).flatMap f := by
    rw [flat_split hk, ← h1, List.take_left]
  have h3 : (l.flatMap f).drop (k * m + (f y).length) = (l.drop (k + 1)).flatMap f := by
    rw [flat_split hk, ← List.append_assoc]
    have h4 : ((l.take k).flatMap f ++ f l[k]).length = k * m + (f y).length := by rw [List.length_append, h1, hf, hf]
    rw [← h4, List.drop_left]
  rw [h2, h3]
  simp
theorem seqJ {P : Program} {Q : Exit → Act → World → Prop} {a : Act} {w : World} {x y : Code} (J : Act → World → Prop) (hx : x.wp P (Exit.then J Q) a w) (hy : ∀ a w, J a w → y.wp P Q a w) : (Code.seq x y).wp P Q a w :=
  wp_seq (wp_mono hx fun e a w h => by
    cases e with
    | normal => exact hy a w h
    | _ => exact h)
/-- The blocks by their places, in another order, or fewer. -/
theorem Rep.pick {fr : List (World × (Nat → Prop))} {w : World} {H : Nat} {kn kn' : List KB} {rl : List Rg} (h : Rep fr w H kn rl) (ix : List Nat) (hnd : ix.Nodup) (hk : ix.map (fun i => kn[i]?) = kn'.map some) : Rep fr w H kn' rl := by
  have hm : ∀ e ∈ kn', e ∈ kn := fun e he => by
    have : some e ∈ kn'.map some := List.mem_map_of_mem he
    rw [← hk] at this
    obtain ⟨i, _, hi⟩ := List.mem_map.1 this
    exact List.mem_of_getElem? hi
  refine ⟨h.size, fun e he => h.blk e (hm e he), ?_, fun f hf => ⟨(h.frm f hf).os, (h.frm f hf).tape, (h.frm f hf).output, (h.frm f hf).size, (h.frm f hf).same, fun e he => (h.frm f hf).own e (hm e he)⟩, h.rng⟩
  clear hm
  have hl : ix.length = kn'.length := by simpa using congrArg List.length hk
  rw [List.pairwise_iff_getElem]
  intro p q hp hq hpq
  have key : ∀ (r : Nat) (hr : r < kn'.length), kn[ix[r]'(by omega)]? = some kn'[r] := fun r hr => by
    have := congrArg (fun l => l[r]?) hk
    simp only [List.getElem?_map] at this
    rw [List.getElem?_eq_getElem (show r < ix.length by omega), List.getElem?_eq_getElem hr] at this
    simpa using this
  refine pair_at h.nd (key p hp) (key q hq) fun he => ?_
  have := (List.getElem_inj (h₀ := by omega) (h₁ := by omega) hnd).1 he
  omega
/-- Behind a call: what the callee left new, and what was there before the function began, stays from here on. -/
theorem Rep.callF {fr : List (World × (Nat → Prop))} {w w' w0 : World} {H : Nat} {kn : List KB} {rl : List Rg} (h : Rep fr w H kn rl) (hb : Below w.heap.size w w') (h0 : (w0, fun _ => True) ∈ fr) :
    ∃ Hc, Hc = w.heap.size ∧ ∃ H', H ≤ H' ∧ Rep ((w', fun k => k < w0.heap.size ∨ Hc ≤ k) :: fr) w' H' kn rl := by
  have h1 := h.call hb
  refine ⟨H, h.size.symm, _, by rw [← h.size]; exact hb.size, h1.size, h1.blk, h1.nd, fun f hf => ?_, fun x hx => ?_⟩
  · rcases List.mem_cons.1 hf with rfl | hf
    · refine ⟨rfl, rfl, rfl, Nat.le_refl _, fun _ _ _ => rfl, fun e he _ hk => ?_⟩
      rcases hk with hk | hk
      · exact (h.frm _ h0).own e he hk trivial
      · have := h.lt he
        omega
    · exact h1.frm f hf
  · obtain ⟨f, hf, hr⟩ := h1.rng x hx
    exact ⟨f, List.mem_cons_of_mem _ hf, hr⟩
/-- What is known is only read from here on. -/
theorem Rep.freeze {fr : List (World × (Nat → Prop))} {w : World} {H : Nat} {kn : List KB} {rl : List Rg} (h : Rep fr w H kn rl) : Rep ((w, fun _ => True) :: fr) w H [] (kn.map (fun e => ⟨e.b, e.o, e.cs⟩) ++ rl) := by
  refine ⟨h.size, (fun _ he => by cases he), .nil, fun f hf => ?_, fun r hr => ?_⟩
  · rcases List.mem_cons.1 hf with rfl | hf
    · exact ⟨rfl, rfl, rfl, Nat.le_refl _, fun _ _ _ => rfl, fun _ he => by cases he⟩
    · have k := h.frm f hf
      exact ⟨k.os, k.tape, k.output, k.size, k.same, fun _ he => by cases he⟩
  · rcases List.mem_append.1 hr with hr | hr
    · obtain ⟨e, he, rfl⟩ := List.mem_map.1 hr
      obtain ⟨i, hi⟩ := List.mem_iff_getElem?.1 he
      exact ⟨_, List.mem_cons_self, h.ltK i hi, trivial, h.rangeK i hi⟩
    · obtain ⟨f, hf, h1, h2, h3⟩ := h.rng r hr
      exact ⟨f, List.mem_cons_of_mem _ hf, h1, h2, h3⟩
theorem Rep.newK {fr : List (World × (Nat → Prop))} {w w0 : World} {H : Nat} {kn : List KB} {rl : List Rg} (h : Rep fr w H kn rl) (h0 : (w0, fun _ => True) ∈ fr) (i : Nat) {e : KB} (hi : kn[i]? = some e) : w0.heap.size ≤ e.b := by
  have := (h.frm _ h0).own e (List.mem_of_getElem? hi)
  simp at this
  omega
theorem Rep.rangeF {fr : List (World × (Nat → Prop))} {w : World} {H : Nat} {kn : List KB} {rl : List Rg} (h : Rep fr w H kn rl) {f : World × (Nat → Prop)} (hf : f ∈ fr) {b o : Nat} {cs : List Value} (hS : f.2 b) (hr : f.1.rangeAt b o cs) : w.rangeAt b o cs :=
  fun j v hv => h.old hf (p := ⟨b, o + j, none⟩) hS (hr j v hv)
/-- What a slice of the function's own is to others. -/
theorem OwnS.range {sz : Nat} {E : TypeId} {v : Value} {m : Nat} {xs : List Value} {ob kn : List KB} {fr : List (World × (Nat → Prop))} {w : World} {H : Nat} {rl : List Rg} (h : OwnS sz E v m xs ob) (hR : Rep fr w H (kn ++ ob) rl) :
    ∃ A c, v = .slice A m c ∧ m ≤ c ∧ c ≤ maxLen ∧ ((A = none ∧ m = 0 ∧ c = 0) ∨ ∃ g, A = some ⟨g, 0, none⟩ ∧ w.rangeAt g 0 xs) := by
  obtain ⟨h0, ⟨rfl, rfl, rfl⟩ | ⟨g, cap, rest, rfl, rfl, h1, h2, h3⟩⟩ := h
  · exact ⟨none, 0, rfl, Nat.le_refl _, Nat.zero_le _, .inl ⟨rfl, rfl, rfl⟩⟩
  · refine ⟨_, cap, rfl, h1, h2, .inr ⟨g, rfl, ?_⟩⟩
    intro j u hu
    obtain ⟨i, hi⟩ := List.mem_iff_getElem?.1 (List.mem_append_right kn (List.mem_cons_self (a := (⟨g, 0, xs ++ rest, E, true⟩ : KB)) (l := [])))
    exact cell_kn hR.blk hi (m := j) rfl (by rw [List.getElem?_append_left (List.getElem?_eq_some_iff.1 hu).1]; exact hu) rfl rfl
theorem meas {a a0 : Act} {s N k k' : Nat} (h : a.tmps.getD s undef = .int .i64 (k' : Int)) (hm : N - (intOf (a0.tmps.getD s undef)).toNat = N - k) (hlt : N - k' < N - k) : N - (intOf (a.tmps.getD s undef)).toNat < N - (intOf (a0.tmps.getD s undef)).toNat := by
  rw [hm, h]
  simpa [intOf] using hlt
theorem wrap_u32 {e : Int} (h : 0 ≤ e ∧ e ≤ 4294967295) : IntKind.u32.wrap e = e := by rw [IntKind.wrap_u32]; omega
end Go.Proofs.Ytkfaaeklkplhnaa
