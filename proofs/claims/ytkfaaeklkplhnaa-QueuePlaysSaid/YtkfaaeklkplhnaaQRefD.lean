/- The document's queue: Remove. -/
import Derived.Deep.RegionLaw
import Derived.Test.YtkfaaeklkplhnaaQRefC
namespace Go.Proofs.Ytkfaaeklkplhnaa
open Go.RowKit Go.Shelf
theorem step_append_eq {P : Program} {ops : Array Oper} {o : Oper} {a : Act} {w : World} {K : Act → World → Prop} {Q : Exit → Act → World → Prop} {E : Prop}
    (hg : o.guard = none) (s x : Operand) (t : TypeId) (hop : o.op = Op.call { callee := Callee.builtin Builtin.append, args := #[s, x], argTypes := #[t, t] })
    {v1 v2 v' : Value} {w' : World} (hrun : (Builtin.append_ #[t, t] o.type #[v1, v2]).run P w = .ok v' w') (hs : a.eval s = v1) (hx : a.eval x = v2) (hK : K (a.put o.dst v') w') :
    if Region.wanted o (yielded ops a.tmps) = true then Oper.wp P o a w K Q else E := by
  have hw : Region.wanted o (yielded ops a.tmps) = true := by simp [Region.wanted, hg]
  rw [if_pos hw]
  unfold Oper.wp
  simp [execOp, hop, resolve, invoke, builtin, hs, hx, hrun, Result.andThen]
  exact hK

theorem removeL_none (b1 : Nat) (v1 : Value) (l : List Wt) (t : Int) (w : World) (hp : placeW l t < 0) (h : RowW w b1 34 v1 l) :
    Calls Try.prog 9 #[v1, .int .i64 t] w fun e W' => e = .returned (.tuple #[v1, .agg #[.int .i64 0, .int .i64 0, .int .i64 0, .int .u32 0], .bool false]) ∧ Below w.heap.size w W' := by
  obtain ⟨A1, c1, rfl, hm1⟩ := h.slice
  have hh : RowW (w.alloc (.cells #[.int .i64 0, .int .i64 0, .int .i64 0, .int .u32 0] 34)) b1 34 (.slice A1 l.length c1) l := h.below ((Below.refl _ _).alloc (Nat.le_refl _) _)
  have HP := place_calls b1 (.slice A1 l.length c1) l t _ hh
  generalize placeW l t = p at HP hp
  go_enter Try.func9, Try.ntmps9
  go_wp2_with (go_at_call 15; refine HP.mono ?_; rintro e w1 ⟨rfl, rfl⟩)
  exact bodyPost_ret (v := .tuple #[.slice A1 l.length c1, .agg #[.int .i64 0, .int .i64 0, .int .i64 0, .int .u32 0], .bool false]) (by simp [results, Try.results9, go_sem]) rfl ⟨rfl, (Below.refl _ w).alloc (Nat.le_refl _) _⟩

theorem RowW.lower {w : World} {base base' e : Nat} {v : Value} {l : List Wt} (h : RowW w base e v l) (hb : base' ≤ base) : RowW w base' e v l := by
  obtain ⟨h1, h2⟩ := h
  refine ⟨h1, ?_⟩
  rcases h2 with h2 | ⟨g, cap, cur, hv, hg, r⟩
  · exact .inl h2
  · exact .inr ⟨g, cap, cur, hv, Nat.le_trans hb hg, r⟩
theorem RowW.set4 {w : World} {base e b : Nat} {v : Value} {l : List Wt} (h : RowW w base e v l) (hb : v.ownBlock ≠ some b) (v0 v1 v2 v3 : Value) :
    RowW ((((w.setCell ⟨b, 0, none⟩ v0).setCell ⟨b, 1, none⟩ v1).setCell ⟨b, 2, none⟩ v2).setCell ⟨b, 3, none⟩ v3) base e v l := by
  have one : ∀ (W : World) (i : Nat) (u : Value), RowW W base e v l → RowW (W.setCell ⟨b, i, none⟩ u) base e v l := fun W i u hW =>
    World.ownsRow.kept hW (row := some b) ⟨rfl, rfl, rfl, by rw [size_set]; exact Nat.le_refl _, fun k _ hk => heap_set_other (fun e => hk (by rw [e])) u⟩ (.inr hb)
  exact one _ _ _ (one _ _ _ (one _ _ _ (one _ _ _ h)))
theorem RowW.takePiece {w : World} {base e : Nat} {g c : Nat} {l : List Wt} (h : RowW w base e (.slice (some ⟨g, 0, none⟩) l.length c) l) {k : Nat} (hk : k ≤ l.length) : PieceW w (.slice (some ⟨g, 0, none⟩) k c) (l.take k) := by
  refine ⟨_, _, _, rfl, by rw [List.length_take]; omega, fun _ => ⟨_, rfl, fun j u hu => ?_⟩⟩
  refine World.ownsRow.cells h (g := g) rfl j u ?_
  rw [← List.take_append_drop k l, flatW_app, List.getElem?_append_left (List.getElem?_eq_some_iff.1 hu).1]
  exact hu
theorem RowW.dropPiece {w : World} {base e : Nat} {g c c' : Nat} {l : List Wt} (h : RowW w base e (.slice (some ⟨g, 0, none⟩) l.length c) l) {k : Nat} (hk : k ≤ l.length) : PieceW w (.slice (some ⟨g, k * 4, none⟩) (l.length - k) c') (l.drop k) := by
  refine ⟨_, _, _, rfl, by rw [List.length_drop], fun _ => ⟨_, rfl, fun j u hu => ?_⟩⟩
  have hu' : (flatW l)[k * 4 + j]? = some u := by
    rw [← List.take_append_drop k l, flatW_app, List.getElem?_append_right (by rw [flatW_length, List.length_take]; omega)]
    rw [flatW_length, List.length_take, show k * 4 + j - min k l.length * 4 = j from by rw [Nat.min_eq_left hk]; omega]
    exact hu
  have := World.ownsRow.cells h (g := g) rfl _ u hu'
  have e1 : (⟨g, 0, none⟩ : Addr).add (k * 4 + j) = ⟨g, k * 4 + j, none⟩ := by unfold Addr.add; split <;> simp_all
  have e2 : (⟨g, k * 4, none⟩ : Addr).add j = ⟨g, k * 4 + j, none⟩ := by unfold Addr.add; split <;> simp_all
  rw [e1] at this
  rw [e2]
  exact this

/-- append(append(v, ys...), zs...). -/
theorem two_rows {W w : World} {base e0 : Nat} {y z : Value} {m m' : List Wt} (hB : Below base w W) (hb : base ≤ e0) (he : W.heap[e0]? = some (.cells #[] 34 (0, 0))) (hbw : base ≤ w.heap.size) (hy : PieceW W y m) (hz : PieceW w z m') (hbz : base = w.heap.size) (hn : m.length + m'.length ≤ 1000) :
    ∃ v1 W2 v2 W3, (Builtin.append_ #[33, 33] 33 #[.slice (some ⟨e0, 0, none⟩) 0 0, y]).run Try.prog W = .ok v1 W2 ∧
      (Builtin.append_ #[33, 33] 33 #[v1, z]).run Try.prog W2 = .ok v2 W3 ∧
      RowW W3 base 34 v2 (m ++ m') ∧ Below base w W2 ∧ Below base w W3 := by
  have hbW : base ≤ W.heap.size := Nat.le_trans hbw hB.size
  obtain ⟨v1, W2, h1, r1, g1⟩ := run_apps Try.underlying33 Try.infoRefWait (m := m) (row_empty hb he) hbW (by simp; omega) hy
  have hB2 : Below base w W2 := hB.grown g1 hbW (row_empty hb he).row_ge
  subst hbz
  obtain ⟨v2, W3, h2, r2, g2⟩ := run_apps Try.underlying33 Try.infoRefWait (m := m') r1 (Nat.le_trans hbw hB2.size) (by simpa using hn) (hz.below hB2)
  exact ⟨v1, W2, v2, W3, h1, h2, r2, hB2, hB2.grown g2 (Nat.le_trans hbw hB2.size) r1.row_ge⟩

set_option maxRecDepth 100000 in
set_option maxHeartbeats 1000000 in
theorem removeL_some (b1 : Nat) (v1 : Value) (l : List Wt) (t : Int) (k : Nat) (w : World) (hk : k < l.length) (hp : placeW l t = k) (h : RowW w b1 34 v1 l) (hfew : l.length ≤ 900) :
    Calls Try.prog 9 #[v1, .int .i64 t] w fun e W' => ∃ v, e = .returned (.tuple #[v, l[k].agg, .bool true]) ∧ RowW W' w.heap.size 34 v (l.take k ++ l.drop (k + 1)) ∧ Below w.heap.size w W' := by
  obtain ⟨A1, c1, rfl, hm1⟩ := h.slice
  have hh : RowW (w.alloc (.cells #[.int .i64 0, .int .i64 0, .int .i64 0, .int .u32 0] 34)) b1 34 (.slice A1 l.length c1) l := h.below ((Below.refl _ _).alloc (Nat.le_refl _) _)
  have HP := place_calls b1 (.slice A1 l.length c1) l t _ hh
  rw [hp] at HP
  clear hp
  obtain ⟨g, cap, he, a0, a1, a2, a3⟩ := hh.at hk
  cases he
  have hc : l.length ≤ c1 := by
    rcases h.2 with ⟨h0, _⟩ | ⟨g', cap, cur, he, _, _, h2, _⟩
    · cases h0
    · cases he; exact h2
  go_enter Try.func9, Try.ntmps9
  go_wp2_with (go_at_call 15; refine HP.mono ?_; rintro e w1 ⟨rfl, rfl⟩)
  have hgl : g < w.heap.size := (h.lt).2
  obtain ⟨w1, hw1⟩ : ∃ w1, w1 = w.alloc (.cells #[.int .i64 0, .int .i64 0, .int .i64 0, .int .u32 0] 34) := ⟨_, rfl⟩
  have hB1 : Below w.heap.size w w1 := by rw [hw1]; exact (Below.refl _ _).alloc (Nat.le_refl _) _
  have hs1 : w1.heap.size = w.heap.size + 1 := by rw [hw1]; simp
  have hblk : w1.heap[w.heap.size]? = some (.cells #[.int .i64 0, .int .i64 0, .int .i64 0, .int .u32 0] 34 (0, 0)) := by rw [hw1]; exact World.alloc_heap_new w _
  rw [← hw1] at hh a0 a1 a2 a3 ⊢
  have hBa : Below w1.heap.size w1 (w1.alloc (.cells #[] 34)) := (Below.refl _ _).alloc (Nat.le_refl _) _
  have htp : PieceW (w1.alloc (.cells #[] 34)).drew (.slice (some ⟨g, 0, none⟩) k c1) (l.take k) := (hh.takePiece (by omega)).below hBa.drew
  have hcell : ∀ {X : World}, Below w1.heap.size w1 X → (X.cell? ⟨g, k * 4, none⟩ = some (.int .i64 l[k].task) ∧ X.cell? ⟨g, k * 4 + 1, none⟩ = some (.int .i64 l[k].kind) ∧ X.cell? ⟨g, k * 4 + 2, none⟩ = some (.int .i64 l[k].obj) ∧ X.cell? ⟨g, k * 4 + 3, none⟩ = some (.int .u32 l[k].mask)) ∧ X.heap[w.heap.size]? = some (.cells #[.int .i64 0, .int .i64 0, .int .i64 0, .int .u32 0] 34 (0, 0)) := fun hb =>
    ⟨⟨(hb.cell (p := ⟨g, k * 4, none⟩) (by show g < _; omega)).trans a0, (hb.cell (p := ⟨g, k * 4 + 1, none⟩) (by show g < _; omega)).trans a1, (hb.cell (p := ⟨g, k * 4 + 2, none⟩) (by show g < _; omega)).trans a2, (hb.cell (p := ⟨g, k * 4 + 3, none⟩) (by show g < _; omega)).trans a3⟩, (hb.block _ (by omega)).trans hblk⟩
  have hkk : ((k : Int) + 1) ≤ l.length := by omega
  have hlt1 : w.heap.size < w1.heap.size := by omega
  have hgl1 : g < w1.heap.size := by omega
  by_cases hcc : c1 = k + 1
  · have hdp : PieceW w1 (.slice (some ⟨g, 0, none⟩) 0 0) (l.drop (k + 1)) :=
      ⟨_, _, _, rfl, by rw [List.length_drop]; omega, fun hne => absurd (List.drop_eq_nil_of_le (by omega)) hne⟩
    obtain ⟨v1, W2, v2, W3, e1, e2, rr, b2, b3⟩ := two_rows (base := w1.heap.size) (w := w1) hBa.drew (Nat.le_refl _) (World.alloc_heap_new w1 _) (Nat.le_refl _) htp hdp rfl (by rw [List.length_take, List.length_drop]; omega)
    obtain ⟨⟨x0, x1, x2, x3⟩, xb⟩ := hcell b2
    obtain ⟨⟨y0, y1, y2, y3⟩, yb⟩ := hcell b3
    obtain ⟨z0, z1, z2, z3, f0, f1, f2, f3⟩ := blk4 yb
    have hfin : Below w.heap.size w W3 := hB1.trans (b3.mono (by omega))
    have hrb : (v2 : Value).ownBlock ≠ some w.heap.size := fun e => by have := rr.row_ge _ e; omega
    have hrr : RowW W3 w.heap.size 34 v2 (l.take k ++ l.drop (k + 1)) := rr.lower (by omega)
    obtain ⟨A9, n9, c9, rfl⟩ := row_slice hrr
    clear hw1 hs1 hblk hBa htp hcell hdp xb yb b2 b3 HP hh h
    subst hcc
    have hwr : IntKind.i64.wrap ((k : Int) + 1) = (k : Int) + 1 := by rw [IntKind.wrap_i64]; omega
    have hq1 : (k : Int) ≤ (k : Int) + 1 := by omega
    have hq6 : (0 : Int) ≤ (k : Int) + 1 := by omega
    have hq2 : (k : Int) ≤ ((k + 1 : Nat) : Int) := by omega
    have hq3 : (k : Int) + 1 ≤ ((k + 1 : Nat) : Int) := by omega
    have hq4 : (k : Int) < l.length := by omega
    have hq5 : (k : Int) ≤ l.length := by omega
    go_region_law (first | (refine step_append_eq rfl (.tmp 15) (.tmp 18) 33 rfl e1 rfl rfl ?_) | (refine step_append_eq rfl (.tmp 19) (.tmp 23) 33 rfl e2 rfl rfl ?_))
    all_goals
      go_wp2
      refine bodyPost_ret (v := .tuple #[.slice A9 n9 c9, l[k].agg, .bool true]) (by simp [results, Try.results9, go_sem, z0, z1, z2, z3]) rfl ⟨_, rfl, hrr.set4 hrb _ _ _ _, below_set4 hfin (Nat.le_refl _) _ _ _ _⟩
  · have hdp : PieceW w1 (.slice (some ⟨g, (k + 1) * 4, none⟩) (l.length - (k + 1)) (c1 - (k + 1))) (l.drop (k + 1)) := hh.dropPiece (by omega)
    obtain ⟨v1, W2, v2, W3, e1, e2, rr, b2, b3⟩ := two_rows (base := w1.heap.size) (w := w1) hBa.drew (Nat.le_refl _) (World.alloc_heap_new w1 _) (Nat.le_refl _) htp hdp rfl (by rw [List.length_take, List.length_drop]; omega)
    obtain ⟨⟨x0, x1, x2, x3⟩, xb⟩ := hcell b2
    obtain ⟨⟨y0, y1, y2, y3⟩, yb⟩ := hcell b3
    obtain ⟨z0, z1, z2, z3, f0, f1, f2, f3⟩ := blk4 yb
    have hfin : Below w.heap.size w W3 := hB1.trans (b3.mono (by omega))
    have hrb : (v2 : Value).ownBlock ≠ some w.heap.size := fun e => by have := rr.row_ge _ e; omega
    have hrr : RowW W3 w.heap.size 34 v2 (l.take k ++ l.drop (k + 1)) := rr.lower (by omega)
    obtain ⟨A9, n9, c9, rfl⟩ := row_slice hrr
    clear hw1 hs1 hblk hBa htp hcell hdp xb yb b2 b3 HP hh h
    have hwr : IntKind.i64.wrap ((k : Int) + 1) = (k : Int) + 1 := by rw [IntKind.wrap_i64]; omega
    have hq1 : (k : Int) ≤ (k : Int) + 1 := by omega
    have hq6 : (0 : Int) ≤ (k : Int) + 1 := by omega
    have hq2 : (k : Int) ≤ c1 := by omega
    have hq3 : (k : Int) + 1 ≤ c1 := by omega
    have hq4 : (k : Int) < l.length := by omega
    have hq5 : (k : Int) ≤ l.length := by omega
    go_region_law (first | (refine step_append_eq rfl (.tmp 15) (.tmp 18) 33 rfl e1 rfl rfl ?_) | (refine step_append_eq rfl (.tmp 19) (.tmp 23) 33 rfl e2 rfl rfl ?_))
    all_goals
      go_wp2
      refine bodyPost_ret (v := .tuple #[.slice A9 n9 c9, l[k].agg, .bool true]) (by simp [results, Try.results9, go_sem, z0, z1, z2, z3]) rfl ⟨_, rfl, hrr.set4 hrb _ _ _ _, below_set4 hfin (Nat.le_refl _) _ _ _ _⟩
end Go.Proofs.Ytkfaaeklkplhnaa
