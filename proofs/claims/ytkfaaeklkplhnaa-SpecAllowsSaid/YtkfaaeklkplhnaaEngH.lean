/- The engine: a callee that hands its own blocks over; a copy of a row by append. -/
import Derived.Test.YtkfaaeklkplhnaaEngG
namespace Go.Proofs.Ytkfaaeklkplhnaa
open Go.RowKit

section
variable {P : Program} {n : Nat} {ops : Array Oper} {rl : List Rg} {fr : List (World × (Nat → Prop))} {Q : Exit → Act → World → Prop} {kn : List KB} {H : Nat} {a : Act} {w : World} {env : Env}
/-- What a callee made is the caller's. -/
theorem Rep.join {w' : World} {H' : Nat} {kn2 : List KB} (h : Rep fr w H kn rl) (k : Rep [(w, fun _ => True)] w' H' kn2 []) : Rep fr w' H' (kn ++ kn2) rl := by
  have hb : Below w.heap.size w w' := k.below (by simp)
  have h1 := h.call hb
  have hnew : ∀ e ∈ kn2, w.heap.size ≤ e.b := fun e he => by
    obtain ⟨i, hi⟩ := List.mem_iff_getElem?.1 he
    exact k.newK (by simp) i hi
  refine ⟨k.size, fun e he => ?_, ?_, fun f hf => ?_, h.rng⟩
  · rcases List.mem_append.1 he with he | he
    · exact h1.blk e he
    · exact k.blk e he
  · rw [List.pairwise_append]
    refine ⟨h.nd, k.nd, fun e he e' he' => .inl ?_⟩
    have h2 := h.lt he
    have h3 := hnew e' he'
    rw [h.size] at h3
    omega
  · have g := h1.frm f hf
    refine ⟨g.os, g.tape, g.output, g.size, g.same, fun e he => ?_⟩
    rcases List.mem_append.1 he with he | he
    · exact g.own e he
    · intro hlt
      have h3 := hnew e he
      have h4 := (h.frm f hf).size
      omega
theorem Rep.toEnd {e : KB} {rs ob : List KB} (h : Rep fr w H (e :: (rs ++ ob)) rl) : Rep fr w H ((rs ++ [e]) ++ ob) rl :=
  h.perm (by
    rw [List.append_assoc, List.singleton_append]
    exact List.perm_middle.symm)
/-- append([]T{}, row...): a row of one's own. -/
theorem appC {i : Nat} {K : Act → World → Prop} (hE : TE a n env) (sz : Nat) (E : TypeId) (bytes : Nat) {Hb : Nat} (hR : Rep fr w H (⟨Hb, 0, [], E, true⟩ :: kn) rl) (A : Option Addr) (m cap : Nat) (news : List Value) (hnew : ∀ ad, A = some ad → ∀ j u, news[j]? = some u → w.cell? (ad.add j) = some u) (hnone : A = none → m = 0) (obs : List Prop)
    {d : Tmp} {s x : Operand} {t ty : TypeId} {pos : String} {after : Array Edge} {gd : Option (Nat × Bool)}
    (hi : ops[i]? = some ⟨some d, .call { callee := .builtin .append, args := #[s, x], argTypes := #[t, t] }, ty, pos, after, gd⟩)
    (hg : guardX ops env ⟨some d, .call { callee := .builtin .append, args := #[s, x], argTypes := #[t, t] }, ty, pos, after, gd⟩ true = some obs) (ho : AllP obs)
    (ht : P.underlying t = some (.slice E)) (hz : szB P E sz bytes = true) (hsz : 0 < sz)
    (hs : evO env s = some (.slice (some ⟨Hb, 0, none⟩) 0 0)) (hx : evO env x = some (.slice A m cap)) (hd : decide (d < n) = true)
    (hl : news.length = m * sz) (h63 : m ≤ maxLen) (hby : m * bytes ≤ 140737488355328)
    (next : ∀ a' w' g cap' rest, m ≤ cap' → cap' ≤ maxLen → (news ++ rest).length = cap' * sz → TE a' n ((d, .slice (some ⟨g, 0, none⟩) m cap') :: env) → ∀ H', H ≤ H' → Rep fr w' H' (⟨g, 0, news ++ rest, E, true⟩ :: kn) rl → K a' w') : wpOp P ops Q i K a w := by
  unfold wpOp
  rw [hi]
  simp only [guard_yes hE hg ho, if_true]
  refine .inl ?_
  unfold szB at hz
  split at hz
  · rename_i inf hinf
    split at hz
    · rename_i z hzz
      simp only [Bool.and_eq_true, beq_iff_eq] at hz
      obtain ⟨⟨hz1, hz2⟩, hz3⟩ := hz
      by_cases hm : m = 0
      · subst hm
        have : news = [] := List.eq_nil_of_length_eq_zero (by simpa using hl)
        subst this
        have hfc : (Builtin.firstCells inf.size 0 (.slice A 0 cap)).run P w = .ok #[] w := by
          cases A with
          | none => rfl
          | some ad => simp [Builtin.firstCells, loadCells, loadCellsFrom]
        have hr : (Builtin.append_ #[t, t] ty #[.slice (some ⟨Hb, 0, none⟩) 0 0, .slice A 0 cap]).run P w = .ok (.slice (some ⟨Hb, 0, none⟩) 0 0) w := by
          simp [Builtin.append_, run_underlying ht, sizeOf, typeInfo, hinf, Builtin.lenOf, hfc, storeCells]
        unfold Oper.wp execOp
        simp only [resolve, invoke, builtin, Sem.run_bind, Sem.run_pure, Result.andThen_ok, List.map_toArray, List.map_cons, List.map_nil, hE.ev hs, hE.ev hx, hr]
        exact next _ w Hb 0 [] (Nat.le_refl _) (Nat.zero_le _) (by simp) (hE.put (of_decide_eq_true hd) _) H (Nat.le_refl _) hR
      · cases A with
        | none => exact absurd (hnone rfl) hm
        | some ad =>
          obtain ⟨v', w', hr, hown, hgr⟩ := run_append_arg_grows w t ty E inf z sz bytes ht hinf hzz hz1 hz2 hz3 hsz ⟨Hb, 0, none⟩ 0 0 [] (by simp) (fun j u hu => by simp at hu) ad m cap news hl (hnew ad rfl) (by omega) (by omega) (by simpa using hby)
          rw [Nat.zero_add, List.nil_append] at hown
          unfold Oper.wp execOp
          simp only [resolve, invoke, builtin, Sem.run_bind, Sem.run_pure, Result.andThen_ok, List.map_toArray, List.map_cons, List.map_nil, hE.ev hs, hE.ev hx, hr]
          obtain ⟨h0, ⟨rfl, h00⟩ | ⟨g, cap', cur, rfl, hgB, hcur, h2, h3, h4, h5⟩⟩ := hown
          · omega
          · have hxs : news ++ cur.toList.drop (m * sz) = cur.toList := by rw [← h5]; exact List.take_append_drop _ _
            have hgH : H ≤ g := by rw [← hR.size]; exact hgB
            have hR' : Rep fr w H kn rl := hR.sub (List.Sublist.cons _ (List.Sublist.refl _))
            refine next _ w' g cap' _ h2 h3 (by rw [hxs]; simpa using h4) (hE.put (of_decide_eq_true hd) _) w'.heap.size (by rw [← hR.size]; exact hgr.size) ⟨rfl, fun e he => ?_, ?_, fun f hf => ?_, hR.rng⟩
            · rcases List.mem_cons.1 he with rfl | he
              · exact ⟨cur, hcur, fun j v hv => by simpa [hxs] using hv, fun _ => ⟨rfl, hxs.symm⟩⟩
              · obtain ⟨full, h6, h7⟩ := hR'.blk e he
                refine ⟨full, ?_, h7⟩
                rw [hgr.block e.b (Array.getElem?_eq_some_iff.1 h6).1 (by simp)]
                exact h6
            · rw [List.pairwise_cons]
              refine ⟨fun e he => .inl ?_, hR'.nd⟩
              have := hR'.lt he
              show g ≠ e.b
              omega
            · have kk := hR'.frm f hf
              refine ⟨hgr.os.trans kk.os, hgr.tape.trans kk.tape, hgr.output.trans kk.output, Nat.le_trans kk.size hgr.size, fun i hi hS => ?_, fun e he => ?_⟩
              · rw [hgr.block i (Nat.lt_of_lt_of_le hi kk.size) (by simp)]
                exact kk.same i hi hS
              · rcases List.mem_cons.1 he with rfl | he
                · intro hlt'
                  have := kk.size
                  rw [hR.size] at this
                  simp at hlt'
                  omega
                · exact kk.own e he
    · cases hz
  · cases hz
/-- A whole block in three stretches. -/
theorem Rep.split {b : Nat} {pre mid post : List Value} {t : TypeId} (h : Rep fr w H (⟨b, 0, pre ++ (mid ++ post), t, true⟩ :: kn) rl) (o : Nat) (ho : pre.length = o) : Rep fr w H (⟨b, o, mid, t, false⟩ :: ⟨b, 0, pre, t, false⟩ :: ⟨b, o + mid.length, post, t, false⟩ :: kn) rl := by
  subst ho
  have hnd := List.pairwise_cons.1 h.nd
  have hne : ∀ e ∈ kn, b ≠ e.b := fun e he => by
    rcases hnd.1 e he with h1 | ⟨⟨h1, _⟩, _⟩
    · exact h1
    · cases h1
  obtain ⟨full, h1, h2⟩ := h.blk _ List.mem_cons_self
  have hat : ∀ j v, (pre ++ (mid ++ post))[j]? = some v → full[j]? = some v := fun j v hv => by
    have := h2.at' j v hv
    rw [Nat.zero_add] at this
    exact this
  refine ⟨h.size, fun e he => ?_, ?_, fun f hf => ?_, h.rng⟩
  · rcases List.mem_cons.1 he with rfl | he
    · exact ⟨full, h1, fun j v hv => hat _ v (by rw [List.getElem?_append_right (by simp), Nat.add_sub_cancel_left, List.getElem?_append_left (List.getElem?_eq_some_iff.1 hv).1]; exact hv), fun h => by cases h⟩
    · rcases List.mem_cons.1 he with rfl | he
      · exact ⟨full, h1, fun j v hv => hat _ v (by simp only [Nat.zero_add]; rw [List.getElem?_append_left (List.getElem?_eq_some_iff.1 hv).1]; exact hv), fun h => by cases h⟩
      · rcases List.mem_cons.1 he with rfl | he
        · exact ⟨full, h1, fun j v hv => hat _ v (by
            rw [List.getElem?_append_right (by simp only; omega), List.getElem?_append_right (by simp only; omega)]
            simp only
            rw [show pre.length + mid.length + j - pre.length - mid.length = j by omega]
            exact hv), fun h => by cases h⟩
        · exact h.blk e (List.mem_cons_of_mem _ he)
  · refine List.pairwise_cons.2 ⟨fun e he => ?_, List.pairwise_cons.2 ⟨fun e he => ?_, List.pairwise_cons.2 ⟨fun e he => .inl (hne e he), hnd.2⟩⟩⟩
    · rcases List.mem_cons.1 he with rfl | he
      · exact .inr ⟨⟨rfl, rfl⟩, .inr (by simp)⟩
      · rcases List.mem_cons.1 he with rfl | he
        · exact .inr ⟨⟨rfl, rfl⟩, .inl (by simp)⟩
        · exact .inl (hne e he)
    · rcases List.mem_cons.1 he with rfl | he
      · exact .inr ⟨⟨rfl, rfl⟩, .inl (by simp)⟩
      · exact .inl (hne e he)
  · have k := h.frm f hf
    refine ⟨k.os, k.tape, k.output, k.size, k.same, fun e he => ?_⟩
    have hb := k.own _ List.mem_cons_self
    rcases List.mem_cons.1 he with rfl | he
    · exact hb
    · rcases List.mem_cons.1 he with rfl | he
      · exact hb
      · rcases List.mem_cons.1 he with rfl | he
        · exact hb
        · exact k.own e (List.mem_cons_of_mem _ he)
theorem range_join {b o : Nat} {xs ys : List Value} (h1 : w.rangeAt b o xs) (h2 : w.rangeAt b (o + xs.length) ys) : w.rangeAt b o (xs ++ ys) := fun j v hv => by
  by_cases hj : j < xs.length
  · rw [List.getElem?_append_left hj] at hv
    exact h1 j v hv
  · rw [List.getElem?_append_right (by omega)] at hv
    have := h2 _ v hv
    rw [show o + xs.length + (j - xs.length) = o + j by omega] at this
    exact this
end
end Go.Proofs.Ytkfaaeklkplhnaa
