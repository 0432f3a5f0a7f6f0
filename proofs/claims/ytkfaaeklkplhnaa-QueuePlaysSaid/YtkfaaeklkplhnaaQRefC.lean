/- The document's queue: rows that grow. -/
import Derived.Test.YtkfaaeklkplhnaaQRefB
namespace Go.Proofs.Ytkfaaeklkplhnaa
open Go.RowKit Go.Shelf

/-- A wait's cells, in a block of one, appended to a row of the call's own. -/
theorem run_app1 {base e t : Nat} (ht : Try.prog.underlying t = some (.slice e)) (hinfo : (Try.prog.info? e).map (fun i => (i.zero, i.size, i.bytes)) = some (some (.agg #[.int .i64 0, .int .i64 0, .int .i64 0, .int .u32 0]), 4, 32))
    {W : World} {v : Value} {l : List Wt} (x : Wt) (h : RowW W base e v l) (hb : base ≤ W.heap.size) (hn : l.length ≤ 1000) {b : Nat} (hx : W.heap[b]? = some (.cells #[.int .i64 x.task, .int .i64 x.kind, .int .i64 x.obj, .int .u32 x.mask] e (0, 0))) :
    ∃ v' w', (Builtin.append_ #[t, t] t #[v, .slice (some ⟨b, 0, none⟩) 1 1]).run Try.prog W = .ok v' w' ∧ RowW w' base e v' (l ++ [x]) ∧ W.grownBy w' v.ownBlock := by
  obtain ⟨i0, hi, hz⟩ := Option.map_eq_some_iff.1 hinfo
  simp only [Prod.mk.injEq] at hz
  obtain ⟨hz0, hz1, hz2⟩ := hz
  have hnews : ∀ (j : Nat) (u : Value), x.cells[j]? = some u → W.cell? ((⟨b, 0, none⟩ : Addr).add j) = some u := by
    intro j u h
    have ha : (⟨b, 0, none⟩ : Addr).add j = ⟨b, j, none⟩ := by unfold Addr.add; split <;> simp_all
    rw [ha, blkc hx j]
    simpa [Wt.cells] using h
  obtain ⟨v', w', h1, h2, h3, _⟩ := run_append_own W base t t e i0 (.agg #[.int .i64 0, .int .i64 0, .int .i64 0, .int .u32 0]) 4 32 ht hi hz0 hz1 hz2 rfl (by decide) v l.length (flatW l) h
    ⟨b, 0, none⟩ 1 1 x.cells rfl hnews (by simp [Wt.cells, Value.oneCell']) (by unfold maxLen; omega) (by omega) hb
  exact ⟨v', w', h1, by unfold RowW; rw [flatW_snoc]; simpa using h2, h3⟩

theorem flatW_app (a b : List Wt) : flatW (a ++ b) = flatW a ++ flatW b := by
  induction a with
  | nil => rw [flatW_nil]; rfl
  | cons x a ih => rw [List.cons_append, flatW_cons, flatW_cons, ih, List.append_assoc]
theorem flatW_length (l : List Wt) : (flatW l).length = l.length * 4 := by
  induction l with
  | nil => rw [flatW_nil]; rfl
  | cons x l ih => rw [flatW_cons, List.length_append, ih, List.length_cons]; simp [Wt.cells]; omega
theorem flatW_one (l : List Wt) : ∀ u ∈ flatW l, u.oneCell' = true := by
  induction l with
  | nil => rw [flatW_nil]; simp
  | cons x l ih =>
    rw [flatW_cons]
    intro u hu
    rcases List.mem_append.1 hu with hu | hu
    · simp [Wt.cells] at hu
      rcases hu with rfl | rfl | rfl | rfl <;> rfl
    · exact ih u hu

/-- A piece of a row, as a slice's own elements. -/
def PieceW (w : World) (v : Value) (l : List Wt) : Prop :=
  ∃ A n c, v = .slice A n c ∧ n = l.length ∧ (l ≠ [] → ∃ a, A = some a ∧ ∀ j u, (flatW l)[j]? = some u → w.cell? (a.add j) = some u)
theorem RowW.piece {w : World} {base e : Nat} {v : Value} {l : List Wt} (h : RowW w base e v l) : PieceW w v l := by
  obtain ⟨A, c, rfl, _⟩ := h.slice
  refine ⟨A, _, c, rfl, rfl, fun hl => ?_⟩
  have h0 : 0 < l.length := List.length_pos_iff.2 hl
  obtain ⟨g, cap, he, _⟩ := rowForm h h0
  cases he
  exact ⟨_, rfl, fun j u hu => World.ownsRow.cells h (g := g) rfl j u hu⟩
theorem PieceW.below {w w' : World} {v : Value} {l : List Wt} (h : PieceW w v l) (hb : Below w.heap.size w w') : PieceW w' v l := by
  obtain ⟨A, n, c, rfl, hn, hc⟩ := h
  refine ⟨A, n, c, rfl, hn, fun hl => ?_⟩
  obtain ⟨a, ha, hcell⟩ := hc hl
  exact ⟨a, ha, fun j u hu => (hb.cell (World.block_lt_of_cell? w _ (hcell j u hu))).trans (hcell j u hu)⟩

/-- append(v, ys...). -/
theorem run_apps {base e t : Nat} (ht : Try.prog.underlying t = some (.slice e)) (hinfo : (Try.prog.info? e).map (fun i => (i.zero, i.size, i.bytes)) = some (some (.agg #[.int .i64 0, .int .i64 0, .int .i64 0, .int .u32 0]), 4, 32))
    {W : World} {v y : Value} {l m : List Wt} (h : RowW W base e v l) (hb : base ≤ W.heap.size) (hn : l.length + m.length ≤ 1000) (hy : PieceW W y m) :
    ∃ v' w', (Builtin.append_ #[t, t] t #[v, y]).run Try.prog W = .ok v' w' ∧ RowW w' base e v' (l ++ m) ∧ W.grownBy w' v.ownBlock := by
  obtain ⟨i0, hi, hz⟩ := Option.map_eq_some_iff.1 hinfo
  simp only [Prod.mk.injEq] at hz
  obtain ⟨hz0, hz1, hz2⟩ := hz
  obtain ⟨A, _, c, rfl, rfl, hc⟩ := hy
  cases A with
  | none =>
    have hm : m = [] := by
      cases m with
      | nil => rfl
      | cons x m => obtain ⟨a, ha, _⟩ := hc (by simp); cases ha
    subst hm
    refine ⟨v, W, ?_, by simpa using h, World.grownBy.refl W _⟩
    rcases h.2 with ⟨rfl, hn⟩ | ⟨g, cap, cur, rfl, _, _, hnc, _⟩
    · simp [Builtin.append_, run_underlying ht, sizeOf, typeInfo, hi, Builtin.lenOf, Builtin.firstCells]
    · simp [Builtin.append_, run_underlying ht, sizeOf, typeInfo, hi, Builtin.lenOf, Builtin.firstCells, hnc, storeCells]
  | some a =>
    have hnews : ∀ (j : Nat) (u : Value), (flatW m)[j]? = some u → W.cell? (a.add j) = some u := by
      intro j u hu
      by_cases hm : m = []
      · subst hm; rw [flatW_nil] at hu; simp at hu
      · obtain ⟨a', ha, hcell⟩ := hc hm
        cases ha
        exact hcell j u hu
    obtain ⟨v', w', h1, h2, h3, _⟩ := run_append_own W base t t e i0 (.agg #[.int .i64 0, .int .i64 0, .int .i64 0, .int .u32 0]) 4 32 ht hi hz0 hz1 hz2 rfl (by decide) v l.length (flatW l) h
      a m.length c (flatW m) (flatW_length m) hnews (flatW_one m) (by unfold maxLen; omega) (by omega) hb
    exact ⟨v', w', h1, by unfold RowW; rw [flatW_app, List.length_append]; exact h2, h3⟩

theorem RowW.row_ge {W : World} {base e : Nat} {v : Value} {l : List Wt} (h : RowW W base e v l) : ∀ k, v.ownBlock = some k → base ≤ k := by
  intro k hk
  rcases h.2 with ⟨rfl, _⟩ | ⟨g, cap, cur, rfl, hb, _⟩
  · simp [Value.ownBlock] at hk
  · simp [Value.ownBlock] at hk
    omega

set_option maxHeartbeats 1000000 in
/-- The law's back: waits as the document's. -/
theorem back_calls (b1 : Nat) (v1 : Value) (l : List Wt) (w : World) (h : RowW w b1 27 v1 l) (hfew : l.length ≤ 1000) :
    Calls Try.prog 17 #[v1] w fun e W' => ∃ v, e = .returned v ∧ RowW W' w.heap.size 34 v l ∧ Below w.heap.size w W' := by
  obtain ⟨A1, c1, rfl, hm1⟩ := h.slice
  go_enter Try.func17, Try.ntmps17
  go_wp2
  go_loopw [3, 4] (fun v i wr => Below w.heap.size w wr ∧ ∃ k : Nat, k ≤ l.length ∧ i = .int .i64 k ∧ RowW wr w.heap.size 34 v (l.take k)) (fun _ i _ => l.length - (intOf i).toNat)
  case atStart => exact ⟨Below.refl _ _, 0, Nat.zero_le _, rfl, by rw [List.take_zero]; unfold RowW; rw [flatW_nil]; exact World.ownsRow_nil _ _ _ _⟩
  case round =>
    obtain ⟨hB, k, hk, rfl, hrow⟩ := hrel
    by_cases hlt : k < l.length
    · have hr : RowW wr b1 27 (.slice A1 l.length c1) l := h.below hB
      obtain ⟨g1, cap1, he1, a0, a1, a2, a3⟩ := hr.at hlt
      cases he1
      obtain ⟨A0, n0, c0, rfl⟩ := row_slice hrow
      have hrow' : RowW (wr.alloc (.cells #[.int .i64 l[k].task, .int .i64 l[k].kind, .int .i64 l[k].obj, .int .u32 l[k].mask] 34)) w.heap.size 34 (.slice A0 n0 c0) (l.take k) := hrow.below ((Below.refl _ _).alloc (Nat.le_refl _) _)
      have hBa : Below w.heap.size w (wr.alloc (.cells #[.int .i64 l[k].task, .int .i64 l[k].kind, .int .i64 l[k].obj, .int .u32 l[k].mask] 34)) := hB.alloc hB.size _
      obtain ⟨v', w1, hrun, hrow1, hg⟩ := run_app1 Try.underlying33 Try.infoRefWait l[k] hrow' hBa.size (by rw [List.length_take]; omega) (World.alloc_heap_new wr _)
      simp [go_sem] at hrun
      have hB1 : Below w.heap.size w w1 := hBa.grown hg hBa.size hrow'.row_ge
      have hts : l.take k ++ [l[k]] = l.take (k + 1) := by rw [List.take_succ_eq_append_getElem hlt]
      rw [hts] at hrow1
      clear hrow' hBa hg hts hrow hB
      go_wp2
      go_roundw
      case rel => exact ⟨hB1, k + 1, by omega, by go_num, hrow1⟩
      case measure => simp [intOf]; omega
    · have hts : l.take k = l := List.take_of_length_le (by omega)
      rw [hts] at hrow
      go_wp2
      go_ret
      exact ⟨_, rfl, hrow, hB⟩

set_option maxHeartbeats 1000000 in
theorem ofL_calls (b1 : Nat) (v1 : Value) (l : List Wt) (obj : Int) (w : World) (h : RowW w b1 34 v1 l) (hfew : l.length ≤ 1000) :
    Calls Try.prog 20 #[v1, .int .i64 obj] w fun e W' => ∃ v, e = .returned v ∧ RowW W' w.heap.size 34 v (ofW l obj) ∧ Below w.heap.size w W' := by
  obtain ⟨A1, c1, rfl, hm1⟩ := h.slice
  go_enter Try.func20, Try.ntmps20
  go_wp2
  go_loopw [5, 6] (fun v i wr => Below w.heap.size w wr ∧ ∃ k : Nat, k ≤ l.length ∧ i = .int .i64 k ∧ RowW wr w.heap.size 34 v (ofW (l.take k) obj)) (fun _ i _ => l.length - (intOf i).toNat)
  case atStart => exact ⟨Below.refl _ _, 0, Nat.zero_le _, rfl, by rw [List.take_zero, ofW_nil]; unfold RowW; rw [flatW_nil]; exact World.ownsRow_nil _ _ _ _⟩
  case round =>
    obtain ⟨hB, k, hk, rfl, hrow⟩ := hrel
    by_cases hlt : k < l.length
    · have hr : RowW wr b1 34 (.slice A1 l.length c1) l := h.below hB
      obtain ⟨g1, cap1, he1, a0, a1, a2, a3⟩ := hr.at hlt
      cases he1
      obtain ⟨A0, n0, c0, rfl⟩ := row_slice hrow
      have hts : l.take k ++ [l[k]] = l.take (k + 1) := by rw [List.take_succ_eq_append_getElem hlt]
      have hlen : (ofW (l.take k) obj).length ≤ 1000 := by
        have := ofW_len (l.take k) obj
        rw [List.length_take] at this
        omega
      by_cases hx : l[k].obj = obj
      · have hxb : (l[k].obj == obj) = true := by simp [hx]
        have hrow' : RowW (wr.alloc (.cells #[.int .i64 l[k].task, .int .i64 l[k].kind, .int .i64 l[k].obj, .int .u32 l[k].mask] 34)) w.heap.size 34 (.slice A0 n0 c0) (ofW (l.take k) obj) := hrow.below ((Below.refl _ _).alloc (Nat.le_refl _) _)
        have hBa : Below w.heap.size w (wr.alloc (.cells #[.int .i64 l[k].task, .int .i64 l[k].kind, .int .i64 l[k].obj, .int .u32 l[k].mask] 34)) := hB.alloc hB.size _
        obtain ⟨v', w1, hrun, hrow1, hg⟩ := run_app1 Try.underlying33 Try.infoRefWait l[k] hrow' hBa.size hlen (World.alloc_heap_new wr _)
        simp [go_sem] at hrun
        have hB1 : Below w.heap.size w w1 := hBa.grown hg hBa.size hrow'.row_ge
        rw [← ofW_hit _ hx, hts] at hrow1
        clear hrow' hBa hg hts hrow hB hx
        go_wp2
        go_roundw
        case rel => exact ⟨hB1, k + 1, by omega, by go_num, hrow1⟩
        case measure => simp [intOf]; omega
      · have hxb : (l[k].obj == obj) = false := by simp [hx]
        rw [← ofW_miss _ hx, hts] at hrow
        clear hts hx
        go_wp2
        go_roundw
        case rel => exact ⟨hB, k + 1, by omega, by go_num, hrow⟩
        case measure => simp [intOf]; omega
    · have hts : l.take k = l := List.take_of_length_le (by omega)
      rw [hts] at hrow
      go_wp2
      go_ret
      exact ⟨_, rfl, hrow, hB⟩

theorem addL_bad (b1 : Nat) (v1 : Value) (l : List Wt) (x : Wt) (w : World) (hx : x.task < 0 ∨ 15 < x.task) (h : RowW w b1 34 v1 l) :
    Calls Try.prog 11 #[v1, x.agg] w fun e W' => e = .returned (.tuple #[v1, .bool false]) ∧ Below w.heap.size w W' := by
  obtain ⟨A1, c1, rfl, hm1⟩ := h.slice
  by_cases h0 : x.task < 0
  · go_enter Try.func11, Try.ntmps11
    go_wp2
    go_ret2
    exact ⟨rfl, (Below.refl _ w).alloc (Nat.le_refl _) _⟩
  · have h1 : 15 < x.task := by omega
    go_enter Try.func11, Try.ntmps11
    go_wp2
    go_ret2
    exact ⟨rfl, (Below.refl _ w).alloc (Nat.le_refl _) _⟩
theorem addL_there (b1 : Nat) (v1 : Value) (l : List Wt) (x : Wt) (w : World) (h0 : 0 ≤ x.task) (h1 : x.task ≤ 15) (hp : 0 ≤ placeW l x.task) (h : RowW w b1 34 v1 l) :
    Calls Try.prog 11 #[v1, x.agg] w fun e W' => e = .returned (.tuple #[v1, .bool false]) ∧ Below w.heap.size w W' := by
  obtain ⟨A1, c1, rfl, hm1⟩ := h.slice
  have hh : RowW (w.alloc (.cells #[.int .i64 x.task, .int .i64 x.kind, .int .i64 x.obj, .int .u32 x.mask] 34)) b1 34 (.slice A1 l.length c1) l := h.below ((Below.refl _ _).alloc (Nat.le_refl _) _)
  have HP := place_calls b1 (.slice A1 l.length c1) l x.task _ hh
  generalize placeW l x.task = p at HP hp
  go_enter Try.func11, Try.ntmps11
  go_wp2_with (go_at_call 15; refine HP.mono ?_; rintro e w1 ⟨rfl, rfl⟩)
  go_ret2
  exact ⟨rfl, (Below.refl _ w).alloc (Nat.le_refl _) _⟩

theorem two_new (w : World) (o o' : Obj) : ((w.alloc o).alloc o').heap[w.heap.size]? = some o ∧ ((w.alloc o).alloc o').heap[w.heap.size + 1]? = some o' := by
  refine ⟨(Below.heap_alloc _ _ _ (by simp)).trans (World.alloc_heap_new w o), ?_⟩
  have := World.alloc_heap_new (w.alloc o) o'
  rwa [World.size_alloc] at this
theorem row_empty {W : World} {base e b : Nat} (hb : base ≤ b) (h : W.heap[b]? = some (.cells #[] e (0, 0))) : RowW W base e (.slice (some ⟨b, 0, none⟩) 0 0) [] := by
  unfold RowW
  rw [flatW_nil]
  exact ⟨rfl, .inr ⟨b, 0, #[], rfl, hb, h, Nat.le_refl _, by unfold maxLen; omega, rfl, rfl⟩⟩

/-- append(append(v, ys...), x), x's box laid behind the first append. -/
theorem two_apps_i {W w : World} {base e0 : Nat} {y : Value} {m : List Wt} (x : Wt) (hB : Below base w W) (hb : base ≤ e0) (he : W.heap[e0]? = some (.cells #[] 34 (0, 0))) (hbw : base ≤ w.heap.size) (hy : PieceW W y m) (hn : m.length ≤ 900) :
    ∃ v1 W2 v2 W3, (Builtin.append_ #[33, 33] 33 #[.slice (some ⟨e0, 0, none⟩) 0 0, y]).run Try.prog W = .ok v1 W2 ∧
      (Builtin.append_ #[33, 33] 33 #[v1, .slice (some ⟨W2.heap.size, 0, none⟩) 1 1]).run Try.prog (W2.alloc (.cells #[.int .i64 x.task, .int .i64 x.kind, .int .i64 x.obj, .int .u32 x.mask] 34)) = .ok v2 W3 ∧
      RowW W3 base 34 v2 (m ++ [x]) ∧ Below base w W3 ∧ (∀ b, b < W.heap.size → b ≠ e0 → W2.heap[b]? = W.heap[b]?) ∧ W.heap.size ≤ W2.heap.size := by
  have hbW : base ≤ W.heap.size := Nat.le_trans hbw hB.size
  obtain ⟨v1, W2, h1, r1, g1⟩ := run_apps Try.underlying33 Try.infoRefWait (m := m) (row_empty hb he) hbW (by simp; omega) hy
  have hB2 : Below base w W2 := hB.grown g1 hbW (row_empty hb he).row_ge
  have r1' : RowW (W2.alloc (.cells #[.int .i64 x.task, .int .i64 x.kind, .int .i64 x.obj, .int .u32 x.mask] 34)) base 34 v1 ([] ++ m) := r1.below ((Below.refl _ _).alloc (Nat.le_refl _) _)
  have hB2' := hB2.alloc (Nat.le_trans hbw hB2.size) (.cells #[.int .i64 x.task, .int .i64 x.kind, .int .i64 x.obj, .int .u32 x.mask] 34)
  obtain ⟨v2, W3, h2, r2, g2⟩ := run_app1 Try.underlying33 Try.infoRefWait x r1' (Nat.le_trans hbw hB2'.size) (by simp; omega) (World.alloc_heap_new W2 _)
  exact ⟨v1, W2, v2, W3, h1, h2, r2, hB2'.grown g2 (Nat.le_trans hbw hB2'.size) r1'.row_ge, fun b hb hne => g1.block b hb (fun e => hne (by simpa [Value.ownBlock] using e)), g1.size⟩
/-- append(append(v, ys...), x), x's box laid ahead of the first append. -/
theorem two_apps_ii {W w : World} {base e0 b0 : Nat} {y : Value} {m : List Wt} (x : Wt) (hB : Below base w W) (hb : base ≤ e0) (he : W.heap[e0]? = some (.cells #[] 34 (0, 0))) (hx : W.heap[b0]? = some (.cells #[.int .i64 x.task, .int .i64 x.kind, .int .i64 x.obj, .int .u32 x.mask] 34 (0, 0))) (hne : b0 ≠ e0) (hbw : base ≤ w.heap.size) (hy : PieceW W y m) (hn : m.length ≤ 900) :
    ∃ v1 W2 v2 W3, (Builtin.append_ #[33, 33] 33 #[.slice (some ⟨e0, 0, none⟩) 0 0, y]).run Try.prog W = .ok v1 W2 ∧
      (Builtin.append_ #[33, 33] 33 #[v1, .slice (some ⟨b0, 0, none⟩) 1 1]).run Try.prog W2 = .ok v2 W3 ∧
      RowW W3 base 34 v2 (m ++ [x]) ∧ Below base w W3 := by
  have hbW : base ≤ W.heap.size := Nat.le_trans hbw hB.size
  obtain ⟨v1, W2, h1, r1, g1⟩ := run_apps Try.underlying33 Try.infoRefWait (m := m) (row_empty hb he) hbW (by simp; omega) hy
  have hB2 : Below base w W2 := hB.grown g1 hbW (row_empty hb he).row_ge
  have hx2 : W2.heap[b0]? = some (.cells #[.int .i64 x.task, .int .i64 x.kind, .int .i64 x.obj, .int .u32 x.mask] 34 (0, 0)) :=
    (g1.block b0 (Array.getElem?_eq_some_iff.1 hx).1 (fun e => hne (by simpa [Value.ownBlock] using e))).trans hx
  obtain ⟨v2, W3, h2, r2, g2⟩ := run_app1 Try.underlying33 Try.infoRefWait x r1 (Nat.le_trans hbw hB2.size) (by simp; omega) hx2
  exact ⟨v1, W2, v2, W3, h1, h2, r2, hB2.grown g2 (Nat.le_trans hbw hB2.size) r1.row_ge⟩

set_option maxHeartbeats 1000000 in
theorem addL_new (b1 : Nat) (v1 : Value) (l : List Wt) (x : Wt) (w : World) (h0 : 0 ≤ x.task) (h1 : x.task ≤ 15) (hp : placeW l x.task < 0) (h : RowW w b1 34 v1 l) (hfew : l.length ≤ 900) :
    Calls Try.prog 11 #[v1, x.agg] w fun e W' => ∃ v, e = .returned (.tuple #[v, .bool true]) ∧ RowW W' w.heap.size 34 v (l ++ [x]) ∧ Below w.heap.size w W' := by
  obtain ⟨A1, c1, rfl, hm1⟩ := h.slice
  have hh : RowW (w.alloc (.cells #[.int .i64 x.task, .int .i64 x.kind, .int .i64 x.obj, .int .u32 x.mask] 34)) b1 34 (.slice A1 l.length c1) l := h.below ((Below.refl _ _).alloc (Nat.le_refl _) _)
  have HP := place_calls b1 (.slice A1 l.length c1) l x.task _ hh
  generalize placeW l x.task = p at HP hp
  go_enter Try.func11, Try.ntmps11
  go_wp2_with (go_at_call 15; refine HP.mono ?_; rintro e w1 ⟨rfl, rfl⟩)
  have hpc : PieceW w (.slice A1 l.length c1) l := h.piece
  obtain ⟨w1, hw1⟩ : ∃ w1, w1 = w.alloc (.cells #[.int .i64 x.task, .int .i64 x.kind, .int .i64 x.obj, .int .u32 x.mask] 34) := ⟨_, rfl⟩
  have hB1 : Below w.heap.size w w1 := by rw [hw1]; exact (Below.refl _ _).alloc (Nat.le_refl _) _
  have hs1 : w1.heap.size = w.heap.size + 1 := by rw [hw1]; simp
  have hpc1 : PieceW w1 (.slice A1 l.length c1) l := hpc.below hB1
  have hblk : w1.heap[w.heap.size]? = some (.cells #[.int .i64 x.task, .int .i64 x.kind, .int .i64 x.obj, .int .u32 x.mask] 34 (0, 0)) := by rw [hw1]; exact World.alloc_heap_new w _
  have hcb := blk4 hblk
  obtain ⟨c0, c1', c2, c3, _, _, _, _⟩ := hcb
  have hin : ∀ o, PieceW (w1.alloc o) (.slice A1 l.length c1) l := fun o => hpc1.below ((Below.refl _ _).alloc (Nat.le_refl _) _)
  have hin2 : ∀ o o', PieceW ((w1.alloc o).alloc o') (.slice A1 l.length c1) l := fun o o' => (hin o).below ((Below.refl _ _).alloc (Nat.le_refl _) _)
  have hBa : ∀ o, Below w.heap.size w (w1.alloc o) := fun o => hB1.alloc hB1.size o
  have hBaa : ∀ o o', Below w.heap.size w ((w1.alloc o).alloc o') := fun o o' => (hBa o).alloc (hBa o).size o'
  obtain ⟨x1, W2, x2, W3, e1, e2, rr, bb, hk, hsz⟩ := two_apps_i (W := (w1.alloc (.cells #[] 34)).drew) (e0 := w1.heap.size) x (hBa _).drew hB1.size (World.alloc_heap_new w1 _) (Nat.le_refl _) (hin _) hfew
  obtain ⟨x1', W2', x2', W3', e1', e2', rr', bb'⟩ := two_apps_ii (W := ((w1.alloc (.cells #[] 34)).alloc (.cells #[.int .i64 x.task, .int .i64 x.kind, .int .i64 x.obj, .int .u32 x.mask] 34)).drew) (e0 := w1.heap.size) (b0 := w1.heap.size + 1) x (hBaa _ _).drew hB1.size (two_new w1 _ _).1 (two_new w1 _ _).2 (by omega) (Nat.le_refl _) (hin2 _ _) hfew
  obtain ⟨x1'', W2'', x2'', W3'', e1'', e2'', rr'', bb''⟩ := two_apps_ii (W := ((w1.alloc (.cells #[.int .i64 x.task, .int .i64 x.kind, .int .i64 x.obj, .int .u32 x.mask] 34)).alloc (.cells #[] 34)).drew) (e0 := w1.heap.size + 1) (b0 := w1.heap.size) x (hBaa _ _).drew (by have := hB1.size; omega) (two_new w1 _ _).2 (two_new w1 _ _).1 (by omega) (Nat.le_refl _) (hin2 _ _) hfew
  simp [go_sem] at e1 e2 e1' e2' e1'' e2''
  have hlt0 : w.heap.size < w1.heap.size := by omega
  have hk0 : W2.heap[w.heap.size]? = some (.cells #[.int .i64 x.task, .int .i64 x.kind, .int .i64 x.obj, .int .u32 x.mask] 34 (0, 0)) := (hk _ (by show _ < (w1.alloc _).heap.size; simp; omega) (by omega)).trans ((Below.heap_alloc w1 _ _ hlt0).trans hblk)
  obtain ⟨k0, k1, k2, k3, _, _, _, _⟩ := blk4 hk0
  rw [← hw1]
  clear hw1 hs1 hpc1 hblk hin hin2 hBa hBaa hk hk0 HP hh hpc
  go_region
  all_goals
    go_wp2
    go_ret2
    first
      | exact ⟨_, rfl, rr, bb⟩
      | exact ⟨_, rfl, rr', bb'⟩
      | exact ⟨_, rfl, rr'', bb''⟩
end Go.Proofs.Ytkfaaeklkplhnaa
