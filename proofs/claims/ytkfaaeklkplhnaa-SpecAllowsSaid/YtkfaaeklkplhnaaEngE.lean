/- The engine: slices that a function makes for itself, and appends to. -/
import Derived.Deep.AppendLies
import Derived.ArgAppend
import Derived.Maps.AppendAt
import Derived.Test.YtkfaaeklkplhnaaEngD
namespace Go.Proofs.Ytkfaaeklkplhnaa
open Go.RowKit

section
variable {P : Program} {n : Nat} {ops : Array Oper} {rl : List Rg} {fr : List (World × (Nat → Prop))} {Q : Exit → Act → World → Prop} {kn : List KB} {H : Nat} {a : Act} {w : World} {env : Env}
theorem Rep.sub {kn' : List KB} (h : Rep fr w H kn rl) (hs : List.Sublist kn' kn) : Rep fr w H kn' rl :=
  ⟨h.size, fun e he => h.blk e (hs.subset he), h.nd.sublist hs, fun f hf => ⟨(h.frm f hf).os, (h.frm f hf).tape, (h.frm f hf).output, (h.frm f hf).size, (h.frm f hf).same, fun e he => (h.frm f hf).own e (hs.subset he)⟩, h.rng⟩
theorem Rep.perm {kn' : List KB} (h : Rep fr w H kn rl) (hs : List.Perm kn kn') : Rep fr w H kn' rl :=
  ⟨h.size, fun e he => h.blk e (hs.symm.subset he), (hs.pairwise_iff (fun h => KB.ap.symm h)).1 h.nd, fun f hf => ⟨(h.frm f hf).os, (h.frm f hf).tape, (h.frm f hf).output, (h.frm f hf).size, (h.frm f hf).same, fun e he => (h.frm f hf).own e (hs.symm.subset he)⟩, h.rng⟩
/-- A range more: it lies in what a frame keeps. -/
theorem Rep.addR (h : Rep fr w H kn rl) {f : World × (Nat → Prop)} (hf : f ∈ fr) (r : Rg) (hlt : r.b < f.1.heap.size) (hS : f.2 r.b) (hr : f.1.rangeAt r.b r.o r.cs) : Rep fr w H kn (r :: rl) :=
  ⟨h.size, h.blk, h.nd, h.frm, fun x hx => by
    rcases List.mem_cons.1 hx with rfl | hx
    · exact ⟨f, hf, hlt, hS, hr⟩
    · exact h.rng x hx⟩
theorem Rep.dropR {rl' : List Rg} (h : Rep fr w H kn rl) (hs : List.Sublist rl' rl) : Rep fr w H kn rl' := ⟨h.size, h.blk, h.nd, h.frm, fun x hx => h.rng x (hs.subset hx)⟩
/-- A frame more: from here on what is there, but for the blocks that are known, stays. -/
theorem Rep.addF (h : Rep fr w H kn rl) : Rep ((w, fun k => ∀ e ∈ kn, e.b ≠ k) :: fr) w H kn rl :=
  ⟨h.size, h.blk, h.nd, fun f hf => by
    rcases List.mem_cons.1 hf with rfl | hf
    · exact ⟨rfl, rfl, rfl, Nat.le_refl _, fun _ _ _ => rfl, fun e he _ hk => hk e he rfl⟩
    · exact h.frm f hf, fun x hx => by
    obtain ⟨f, hf, hr⟩ := h.rng x hx
    exact ⟨f, List.mem_cons_of_mem _ hf, hr⟩⟩

/-- A slice of the function's own: nil, or all of a block from its start on. -/
def OwnS (sz : Nat) (E : TypeId) (v : Value) (m : Nat) (xs : List Value) (ob : List KB) : Prop :=
  xs.length = m * sz ∧ ((v = .slice none 0 0 ∧ m = 0 ∧ ob = []) ∨ ∃ g cap rest, v = .slice (some ⟨g, 0, none⟩) m cap ∧ ob = [⟨g, 0, xs ++ rest, E, true⟩] ∧ m ≤ cap ∧ cap ≤ maxLen ∧ (xs ++ rest).length = cap * sz)
theorem OwnS.nil (sz : Nat) (E : TypeId) : OwnS sz E (.slice none 0 0) 0 [] [] := ⟨by simp, .inl ⟨rfl, rfl, rfl⟩⟩
theorem OwnS.slice {sz : Nat} {E : TypeId} {v : Value} {m : Nat} {xs : List Value} {ob : List KB} (h : OwnS sz E v m xs ob) : ∃ A cap, v = .slice A m cap ∧ m ≤ cap ∧ cap ≤ maxLen := by
  obtain ⟨_, ⟨rfl, rfl, _⟩ | ⟨g, cap, rest, rfl, _, h1, h2, _⟩⟩ := h
  · exact ⟨none, 0, rfl, Nat.le_refl _, Nat.zero_le _⟩
  · exact ⟨_, cap, rfl, h1, h2⟩
theorem OwnS.owns {sz : Nat} {E : TypeId} {v : Value} {m : Nat} {xs : List Value} {ob : List KB} (h : OwnS sz E v m xs ob) (hR : Rep fr w H (kn ++ ob) rl) : w.ownsRow 0 E sz v m xs := by
  obtain ⟨h0, ⟨rfl, rfl, _⟩ | ⟨g, cap, rest, rfl, rfl, h1, h2, h3⟩⟩ := h
  · exact ⟨h0, .inl ⟨rfl, rfl⟩⟩
  · obtain ⟨full, g1, g2⟩ := hR.blk _ (List.mem_append_right _ List.mem_cons_self)
    have g3 := (g2.all rfl).2
    simp only at g3
    have g4 : full.size = (xs ++ rest).length := by rw [← g3]; simp
    refine ⟨h0, .inr ⟨g, cap, full, rfl, Nat.zero_le _, g1, h1, h2, by omega, ?_⟩⟩
    rw [← h0, g3]
    simp
/-- Behind an append. -/
theorem OwnS.grown {sz : Nat} {E : TypeId} {v : Value} {m : Nat} {xs : List Value} {ob : List KB} (h : OwnS sz E v m xs ob) (hR : Rep fr w H (kn ++ ob) rl) {w' : World} {m' : Nat} {xs' : List Value} {g cap : Nat} (hown : w'.ownsRow 0 E sz (.slice (some ⟨g, 0, none⟩) m' cap) m' xs') 
    (hg : w.grownBy w' v.ownBlock) (hgl : v.ownBlock = some g ∨ g = H) : ∃ ob' H', H ≤ H' ∧ OwnS sz E (.slice (some ⟨g, 0, none⟩) m' cap) m' xs' ob' ∧ Rep fr w' H' (kn ++ ob') rl := by
  obtain ⟨h0, ⟨he, _⟩ | ⟨g', cap', cur, he, _, hcur, h1, h2, h3, h4⟩⟩ := hown
  · cases he
  · cases he
    have hxs : xs' ++ cur.toList.drop (m' * sz) = cur.toList := by rw [← h4]; exact List.take_append_drop _ _
    have hnew : v.ownBlock = none ∨ ∃ b c, ob = [⟨b, 0, c, E, true⟩] ∧ v.ownBlock = some b := by
      obtain ⟨_, ⟨rfl, _, _⟩ | ⟨b, _, rest, rfl, rfl, _⟩⟩ := h
      · exact .inl rfl
      · exact .inr ⟨b, _, rfl, rfl⟩
    have hob : ∀ e ∈ ob, v.ownBlock = some e.b := fun e he => by
      obtain ⟨_, ⟨rfl, _, rfl⟩ | ⟨b, _, rest, rfl, rfl, _⟩⟩ := h
      · cases he
      · simp at he
        subst he
        rfl
    have hknne : ∀ e ∈ kn, some e.b ≠ v.ownBlock := fun e he hb => by
      rcases hnew with h5 | ⟨b, c, rfl, h5⟩
      · rw [h5] at hb; cases hb
      · rw [h5] at hb
        have hnd := hR.nd
        rw [List.pairwise_append] at hnd
        rcases hnd.2.2 e he _ List.mem_cons_self with h7 | ⟨⟨_, h7⟩, _⟩
        · exact h7 (by simpa using hb)
        · cases h7
    have hknH : ∀ e ∈ kn, e.b ≠ g := fun e he hb => by
      rcases hgl with h5 | h5
      · exact hknne e he (by rw [h5, hb])
      · have := hR.lt (List.mem_append_left _ he)
        omega
    refine ⟨[⟨g, 0, xs' ++ cur.toList.drop (m' * sz), E, true⟩], w'.heap.size, by rw [← hR.size]; exact hg.size, ⟨h0, .inr ⟨g, cap, _, rfl, rfl, h1, h2, by rw [hxs]; simpa using h3⟩⟩, rfl, fun e he => ?_, ?_, fun f hf => ?_, hR.rng⟩
    · rcases List.mem_append.1 he with he | he
      · obtain ⟨full, h5, h6⟩ := hR.blk e (List.mem_append_left _ he)
        refine ⟨full, ?_, h6⟩
        rw [hg.block e.b (Array.getElem?_eq_some_iff.1 h5).1 (hknne e he)]
        exact h5
      · simp at he
        subst he
        exact ⟨cur, hcur, fun j v hv => by simpa [hxs] using hv, fun _ => ⟨rfl, hxs.symm⟩⟩
    · have hnd := hR.nd
      rw [List.pairwise_append] at hnd ⊢
      refine ⟨hnd.1, List.pairwise_singleton _ _, fun x hx y hy => ?_⟩
      simp at hy
      subst hy
      exact .inl (hknH x hx)
    · have k := hR.frm f hf
      refine ⟨hg.os.trans k.os, hg.tape.trans k.tape, hg.output.trans k.output, Nat.le_trans k.size hg.size, fun i hi hS => ?_, fun e he => ?_⟩
      · rw [hg.block i (Nat.lt_of_lt_of_le hi k.size) ?_]
        · exact k.same i hi hS
        · intro hb
          rcases hnew with h5 | ⟨b, c, rfl, h5⟩
          · rw [h5] at hb; cases hb
          · rw [h5] at hb
            cases hb
            exact k.own ⟨i, 0, c, E, true⟩ (List.mem_append_right _ (by simp)) hi hS
      · rcases List.mem_append.1 he with he | he
        · exact k.own e (List.mem_append_left _ he)
        · simp at he
          subst he
          intro hlt' hS
          rcases hgl with h5 | h5
          · rcases hnew with h6 | ⟨b, c, rfl, h6⟩
            · rw [h6] at h5; cases h5
            · rw [h6] at h5
              cases h5
              exact k.own ⟨g, 0, c, E, true⟩ (List.mem_append_right _ (by simp)) hlt' hS
          · subst h5
            have := k.size
            rw [hR.size] at this
            simp at hlt'
            omega

/-- What a type's row of the table says: its cells, its bytes. -/
def szB (P : Program) (E : TypeId) (sz bytes : Nat) : Bool :=
  match P.info? E with
  | some i => match i.zero with
    | some z => i.size == sz && i.bytes == bytes && z.cells.size == sz
    | none => false
  | none => false
/-- Where what is appended lies: in a block that is known, or in a range. -/
def newsAt (kn : List KB) (rl : List Rg) : Hint → Option (Nat × Nat × List Value)
  | .k i _ => match kn[i]? with
    | some x => some (x.b, x.o, x.cs)
    | none => none
  | .r j _ => match rl[j]? with
    | some x => some (x.b, x.o, x.cs)
    | none => none
theorem newsAt_sound (hR : Rep fr w H kn rl) {ad : Addr} {h : Hint} {b o : Nat} {cs : List Value} (hn : newsAt kn rl h = some (b, o, cs)) (ha : ad = ⟨b, o, none⟩) : ∀ j u, cs[j]? = some u → w.cell? (ad.add j) = some u := by
  intro j u hu
  rw [ha, add_flat _ rfl]
  unfold newsAt at hn
  split at hn
  · split at hn
    · rename_i x hx
      cases hn
      exact cell_kn hR.blk hx rfl hu rfl rfl
    · cases hn
  · split at hn
    · rename_i x hx
      cases hn
      exact hR.rs x (List.mem_of_getElem? hx) j u hu
    · cases hn
/-- append(out, ..) at a slice of the function's own. -/
theorem app {i : Nat} {K : Act → World → Prop} (hE : TE a n env) (sz : Nat) (E : TypeId) (bytes : Nat) {v : Value} {m : Nat} {xs : List Value} {ob : List KB} (hR : Rep fr w H (kn ++ ob) rl) (hO : OwnS sz E v m xs ob) (hh : Hint) (news : List Value) (b o : Nat) (k c : Nat) (obs : List Prop)
    {d : Tmp} {s x : Operand} {t ty : TypeId} {pos : String} {after : Array Edge} {gd : Option (Nat × Bool)}
    (hi : ops[i]? = some ⟨some d, .call { callee := .builtin .append, args := #[s, x], argTypes := #[t, t] }, ty, pos, after, gd⟩)
    (hg : guardX ops env ⟨some d, .call { callee := .builtin .append, args := #[s, x], argTypes := #[t, t] }, ty, pos, after, gd⟩ true = some obs) (ho : AllP obs)
    (ht : P.underlying t = some (.slice E)) (hz : szB P E sz bytes = true) (hsz : 0 < sz)
    (hs : evO env s = some v) (hx : evO env x = some (.slice (some ⟨b, o, none⟩) k c)) (hd : decide (d < n) = true)
    (hn : newsAt (kn ++ ob) rl hh = some (b, o, news)) (hl : news.length = k * sz) (h1 : news.all (fun u => u.oneCell') = true) (hk : 0 < k) (h63 : m + k ≤ maxLen) (hby : (m + k) * bytes ≤ 140737488355328)
    (next : ∀ a' w' v' ob' H', H ≤ H' → TE a' n ((d, v') :: env) → OwnS sz E v' (m + k) (xs ++ news) ob' → Rep fr w' H' (kn ++ ob') rl → K a' w') : wpOp P ops Q i K a w := by
  unfold wpOp
  rw [hi]
  simp only [guard_yes hE hg ho, if_true]
  refine .inl ?_
  unfold szB at hz
  split at hz
  · rename_i inf hinf
    split at hz
    · rename_i z hzz
      simp only [Bool.and_eq_true, beq_iff_eq] at hz
      refine wp_append_lies w s x t rfl 0 E inf z sz bytes ht hinf hzz hz.1.1 hz.1.2 hz.2 hsz v m xs (hE.ev hs) (hO.owns hR) ⟨b, o, none⟩ k c news (hE.ev hx) hl (newsAt_sound hR hn rfl) (List.all_eq_true.1 h1) hk h63 hby (Nat.zero_le _) H hR.size fun g cap w' hown hgr hgl _ => ?_
      obtain ⟨ob', H', hH, hO', hR'⟩ := hO.grown hR hown hgr hgl
      exact next _ w' _ ob' H' hH (hE.put (of_decide_eq_true hd) _) hO' hR'
    · cases hz
  · cases hz
/-- append(x, ..) at a slice that has no room: its cells and the new ones, in a block of its own. -/
theorem appG {i : Nat} {K : Act → World → Prop} (hE : TE a n env) (sz : Nat) (E : TypeId) (bytes : Nat) (hR : Rep fr w H kn rl) (A : Option Addr) (m cap : Nat) (olds : List Value) (hold : ∀ ad, A = some ad → ∀ j u, olds[j]? = some u → w.cell? (ad.add j) = some u) (hnone : A = none → m = 0 ∧ cap = 0) (hlo : olds.length = m * sz)
    (hh : Hint) (news : List Value) (b o : Nat) (k c : Nat) (obs : List Prop)
    {d : Tmp} {s x : Operand} {t ty : TypeId} {pos : String} {after : Array Edge} {gd : Option (Nat × Bool)}
    (hi : ops[i]? = some ⟨some d, .call { callee := .builtin .append, args := #[s, x], argTypes := #[t, t] }, ty, pos, after, gd⟩)
    (hg : guardX ops env ⟨some d, .call { callee := .builtin .append, args := #[s, x], argTypes := #[t, t] }, ty, pos, after, gd⟩ true = some obs) (ho : AllP obs)
    (ht : P.underlying t = some (.slice E)) (hz : szB P E sz bytes = true) (hsz : 0 < sz)
    (hs : evO env s = some (.slice A m cap)) (hx : evO env x = some (.slice (some ⟨b, o, none⟩) k c)) (hd : decide (d < n) = true)
    (hn : newsAt kn rl hh = some (b, o, news)) (hl : news.length = k * sz) (h1 : news.all (fun u => u.oneCell') = true) (hk : cap < m + k) (h63 : m + k ≤ maxLen) (hby : (m + k) * bytes ≤ 140737488355328)
    (next : ∀ a' w' g cap' rest, H ≤ g → m + k ≤ cap' → cap' ≤ maxLen → (olds ++ news ++ rest).length = cap' * sz → TE a' n ((d, .slice (some ⟨g, 0, none⟩) (m + k) cap') :: env) → ∀ H', H < H' → Rep fr w' H' (⟨g, 0, olds ++ news ++ rest, E, true⟩ :: kn) rl → K a' w') : wpOp P ops Q i K a w := by
  unfold wpOp
  rw [hi]
  simp only [guard_yes hE hg ho, if_true]
  refine .inl ?_
  unfold szB at hz
  split at hz
  · rename_i inf hinf
    split at hz
    · rename_i z hzz
      simp only [Bool.and_eq_true, beq_iff_eq] at hz
      obtain ⟨⟨hz1, hz2⟩, hz3⟩ := hz
      have hnews := newsAt_sound hR hn rfl
      have hrun : ∃ v' w', (Builtin.append_ #[t, t] ty #[.slice A m cap, .slice (some ⟨b, o, none⟩) k c]).run P w = .ok v' w' ∧ w'.ownsRow w.heap.size E sz v' (m + k) (olds ++ news) ∧ w.grownBy w' none := by
        cases A with
        | some ad => exact run_append_arg_grows w t ty E inf z sz bytes ht hinf hzz hz1 hz2 hz3 hsz ad m cap olds hlo (hold ad rfl) ⟨b, o, none⟩ k c news hl hnews hk h63 hby
        | none =>
          obtain ⟨rfl, rfl⟩ := hnone rfl
          have : olds = [] := List.eq_nil_of_length_eq_zero (by simpa using hlo)
          subst this
          obtain ⟨v', w', h1', h2', h3', _, _⟩ := run_append_own_at (P := P) w w.heap.size t ty E inf z sz bytes ht hinf hzz hz1 hz2 hz3 hsz (.slice none 0 0) 0 [] (World.ownsRow_nil _ _ _ _) ⟨b, o, none⟩ k c news hl hnews (List.all_eq_true.1 h1) (by simpa using h63) (by simpa using hby) (Nat.le_refl _)
          exact ⟨v', w', h1', h2', h3'⟩
      obtain ⟨v', w', hr, hown, hgr⟩ := hrun
      unfold Oper.wp execOp
      simp only [resolve, invoke, builtin, Sem.run_bind, Sem.run_pure, Result.andThen_ok, List.map_toArray, List.map_cons, List.map_nil, hE.ev hs, hE.ev hx, hr]
      obtain ⟨h0, ⟨rfl, h00⟩ | ⟨g, cap', cur, rfl, hgB, hcur, h2, h3, h4, h5⟩⟩ := hown
      · omega
      · have hxs : olds ++ news ++ cur.toList.drop ((m + k) * sz) = cur.toList := by rw [← h5]; exact List.take_append_drop _ _
        have hgH : H ≤ g := by rw [← hR.size]; exact hgB
        have hlt : g < w'.heap.size := (Array.getElem?_eq_some_iff.1 hcur).1
        have hS : Rep fr w' w'.heap.size (⟨g, 0, olds ++ news ++ cur.toList.drop ((m + k) * sz), E, true⟩ :: kn) rl := by
          refine ⟨rfl, fun e he => ?_, ?_, fun f hf => ?_, hR.rng⟩
          · rcases List.mem_cons.1 he with rfl | he
            · exact ⟨cur, hcur, fun j v hv => by simpa [hxs] using hv, fun _ => ⟨rfl, hxs.symm⟩⟩
            · obtain ⟨full, h6, h7⟩ := hR.blk e he
              refine ⟨full, ?_, h7⟩
              rw [hgr.block e.b (Array.getElem?_eq_some_iff.1 h6).1 (by simp)]
              exact h6
          · rw [List.pairwise_cons]
            refine ⟨fun e he => .inl ?_, hR.nd⟩
            have := hR.lt he
            show g ≠ e.b
            omega
          · have kk := hR.frm f hf
            refine ⟨hgr.os.trans kk.os, hgr.tape.trans kk.tape, hgr.output.trans kk.output, Nat.le_trans kk.size hgr.size, fun i hi hS => ?_, fun e he => ?_⟩
            · rw [hgr.block i (Nat.lt_of_lt_of_le hi kk.size) (by simp)]
              exact kk.same i hi hS
            · rcases List.mem_cons.1 he with rfl | he
              · intro hlt'
                have := kk.size
                rw [hR.size] at this
                simp at hlt'
                omega
              · exact kk.own e he
        exact next _ w' g cap' _ hgH h2 h3 (by rw [hxs]; simpa using h4) (hE.put (of_decide_eq_true hd) _) _ (by omega) hS
    · cases hz
  · cases hz
end
end Go.Proofs.Ytkfaaeklkplhnaa
