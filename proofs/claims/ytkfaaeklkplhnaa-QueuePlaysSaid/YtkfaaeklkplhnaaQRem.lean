/- Remove and Add. -/
import Derived.Test.YtkfaaeklkplhnaaQMut
namespace Go.Proofs.Ytkfaaeklkplhnaa
open Go.RowKit Go.Shelf

theorem modify_comm' {α : Type} (a : Array α) (i j : Nat) (f g : α → α) (h : ∀ x, f (g x) = g (f x)) : (a.modify i f).modify j g = (a.modify j g).modify i f := by
  apply Array.ext
  · simp
  · intro k h1 h2
    simp only [Array.getElem_modify]
    split <;> split <;> simp_all
theorem set_comm (w : World) {b c i j : Nat} (hij : i ≠ j) (u v : Value) : (w.setCell ⟨b, i, none⟩ u).setCell ⟨c, j, none⟩ v = (w.setCell ⟨c, j, none⟩ v).setCell ⟨b, i, none⟩ u := by
  have : ∀ (i j : Nat) (u v : Value), i ≠ j → ∀ x : Obj, (match (match x with | .cells cs e fr => Obj.cells (cs.setIfInBounds i u) e fr | o => o) with | .cells cs e fr => Obj.cells (cs.setIfInBounds j v) e fr | o => o) = (match (match x with | .cells cs e fr => Obj.cells (cs.setIfInBounds j v) e fr | o => o) with | .cells cs e fr => Obj.cells (cs.setIfInBounds i u) e fr | o => o) := by
    intro i j u v h x
    cases x <;> simp [Array.setIfInBounds_comm _ _ h]
  simp only [World.setCell, Option.isSome_none, Bool.false_eq_true, if_false]
  congr 1
  exact modify_comm' _ _ _ _ _ (fun x => (this j i v u (Ne.symm hij) x))

/-- Any link's or the queue's cells 4 and 5. -/
theorem Ring.node {w : World} {q : Nat} {l : List (Nat × Wt)} (h : Ring w q l) {b : Nat} (hb : b ∈ qBlocks q l) : (∃ v, w.cell? ⟨b, 4, none⟩ = some v) ∧ (∃ v, w.cell? ⟨b, 5, none⟩ = some v) ∧ ∀ o, w.frozen? ⟨b, o, none⟩ = false := by
  rw [qBlocks_eq] at hb
  rcases List.mem_cons.1 hb with rfl | hb
  · obtain ⟨va, vn, hq, _⟩ := h.head
    exact ⟨⟨_, hq.c4⟩, ⟨_, hq.c5⟩, hq.fr⟩
  · obtain ⟨y, hy, rfl⟩ := List.mem_map.1 hb
    obtain ⟨ah, nx, hL⟩ := h.seg.mem y hy
    exact ⟨⟨_, hL.c4⟩, ⟨_, hL.c5⟩, hL.fr⟩
theorem lastB_in (q : Nat) (a r : List (Nat × Wt)) : lastB q a ∈ qBlocks q (a ++ r) := by
  rw [qBlocks_eq]
  by_cases e : a = []
  · rw [e, lastB_nil]; exact List.mem_cons_self
  · rw [List.map_append]; exact List.mem_cons_of_mem _ (List.mem_append_left _ (lastB_mem e q))
theorem hdB_in (q : Nat) (a r : List (Nat × Wt)) : hdB q r ∈ qBlocks q (a ++ r) := by
  rw [qBlocks_eq]
  by_cases e : r = []
  · rw [e, hdB_nil]; exact List.mem_cons_self
  · rw [List.map_append]; exact List.mem_cons_of_mem _ (List.mem_append_right _ (hdB_mem e q))

/-- All blocks but these are as they were; new ones may be there. -/
structure Chg (bs : List Nat) (w w' : World) : Prop where
  os : w'.os = w.os
  tape : w'.tape = w.tape
  output : w'.output = w.output
  size : w.heap.size ≤ w'.heap.size
  block : ∀ k, k < w.heap.size → k ∉ bs → w'.heap[k]? = w.heap[k]?
theorem Chg.of_below {bs : List Nat} {w w' : World} (h : Below w.heap.size w w') : Chg bs w w' := ⟨h.os, h.tape, h.output, h.size, fun k hk _ => h.block k hk⟩
theorem Chg.set {bs : List Nat} {w W : World} (h : Chg bs w W) {b i : Nat} (hb : b ∈ bs ∨ w.heap.size ≤ b) (v : Value) : Chg bs w (W.setCell ⟨b, i, none⟩ v) :=
  ⟨h.os, h.tape, h.output, by simpa [World.setCell] using h.size, fun k hk hn => (heap_set_other (fun (e : k = b) => hb.elim (fun h => hn (e ▸ h)) (fun h => by omega)) v).trans (h.block k hk hn)⟩
theorem Chg.drewN {bs : List Nat} {w W : World} (h : Chg bs w W) (n : Nat) : Chg bs w (W.drewN n) := ⟨h.os, h.tape, h.output, h.size, h.block⟩
theorem Chg.drew {bs : List Nat} {w W : World} (h : Chg bs w W) : Chg bs w W.drew := ⟨h.os, h.tape, h.output, h.size, h.block⟩
theorem Chg.set4' {bs : List Nat} {w W : World} {b : Nat} (h : Chg bs w W) (hb : b ∈ bs ∨ w.heap.size ≤ b) (v0 v1 v2 v3 : Value) :
    Chg bs w ((((W.setCell ⟨b, 0, none⟩ v0).setCell ⟨b, 1, none⟩ v1).setCell ⟨b, 2, none⟩ v2).setCell ⟨b, 3, none⟩ v3) := (((h.set hb v0).set hb v1).set hb v2).set hb v3

theorem Ring.far4 {w : World} {q : Nat} {l : List (Nat × Wt)} (h : Ring w q l) {b : Nat} (hb : b ∉ qBlocks q l) (v0 v1 v2 v3 : Value) :
    Ring (((((w.setCell ⟨b, 0, none⟩ v0).setCell ⟨b, 1, none⟩ v1).setCell ⟨b, 2, none⟩ v2).setCell ⟨b, 3, none⟩ v3).drew) q l :=
  h.of fun c hc => by
    have hne : c ≠ b := fun e => hb (e ▸ hc)
    exact (heap_set_other hne _).trans ((heap_set_other hne _).trans ((heap_set_other hne _).trans (heap_set_other hne _)))

theorem remove_none (q : Nat) (l : List (Nat × Wt)) (t : Int) (w : World) (hR : Ring w q l) (hf : findW l t = none) :
    Calls Try.prog 8 #[.pointer (some ⟨q, 0, none⟩), .int .i64 t] w fun e W' => e = .returned noW ∧ Below w.heap.size w W' := by
  have HF := fun W hR => find_none (q := q) (l := l) (t := t) hf W hR
  go_enter Try.func8, Try.ntmps8
  have hb0 : Below w.heap.size w (w.alloc (.cells #[.int .i64 0, .int .i64 0, .int .i64 0, .int .u32 0] 27)) := (Below.refl _ w).alloc (Nat.le_refl _) _
  have hR0 := hR.below hb0
  go_wp2_with (go_at_call 43; refine (HF _ hR0).mono ?_; rintro e w1 ⟨rfl, hb⟩; obtain ⟨c0, c1, c2, c3, f0, f1, f2, f3⟩ := blk4 (own_first hb))
  exact bodyPost_ret (v := noW) (by simp [results, Try.results8, go_sem, c0, c1, c2, c3]) rfl ⟨rfl, below_set4 (below_after hb) (Nat.le_refl _) _ _ _ _⟩

set_option maxHeartbeats 1000000 in
theorem remove_some (q : Nat) (a r : List (Nat × Wt)) (t : Int) (y : Nat × Wt) (w : World) (hR : Ring w q (a ++ y :: r)) (hf : findW (a ++ y :: r) t = some y) :
    Calls Try.prog 8 #[.pointer (some ⟨q, 0, none⟩), .int .i64 t] w fun e W' => e = .returned (.tuple #[y.2.agg, .bool true]) ∧ Ring W' q (a ++ r) ∧ Chg (qBlocks q (a ++ y :: r)) w W' := by
  have HF := fun W hR => find_some (q := q) (l := a ++ y :: r) (t := t) hf W hR
  have hlt := hR.lt
  have hin1 : lastB q a ∈ qBlocks q (a ++ y :: r) := lastB_in q a (y :: r)
  have hin2 : hdB q r ∈ qBlocks q (a ++ y :: r) := by
    have := hdB_in q a r
    rw [qBlocks_eq] at this ⊢
    rcases List.mem_cons.1 this with h | h
    · rw [h]; exact List.mem_cons_self
    · rw [List.map_append] at h ⊢
      exact List.mem_cons_of_mem _ ((List.mem_append.1 h).elim (fun h => List.mem_append_left _ h) (fun h => List.mem_append_right _ (List.mem_cons_of_mem _ h)))
  have hin3 : q ∈ qBlocks q (a ++ y :: r) := by rw [qBlocks_eq]; exact List.mem_cons_self
  have hlen : 0 < (a ++ y :: r).length ∧ (a ++ y :: r).length ≤ 16 := ⟨by simp only [List.length_append, List.length_cons]; omega, hR.ts.few⟩
  have hnew : w.heap.size ∉ qBlocks q (a ++ r) := by
    intro hm
    have hm' : w.heap.size ∈ qBlocks q (a ++ y :: r) := by
      rw [qBlocks_eq] at hm ⊢
      rcases List.mem_cons.1 hm with h | h
      · rw [h]; exact List.mem_cons_self
      · rw [List.map_append] at h ⊢
        exact List.mem_cons_of_mem _ ((List.mem_append.1 h).elim (fun h => List.mem_append_left _ h) (fun h => List.mem_append_right _ (List.mem_cons_of_mem _ h)))
    exact absurd (hlt _ hm') (Nat.lt_irrefl _)
  go_enter Try.func8, Try.ntmps8
  have hb0 : Below w.heap.size w (w.alloc (.cells #[.int .i64 0, .int .i64 0, .int .i64 0, .int .u32 0] 27)) := (Below.refl _ w).alloc (Nat.le_refl _) _
  have hR0 := hR.below hb0
  go_wp2_with (go_at_call 43; refine (HF _ hR0).mono ?_; rintro e w1 ⟨rfl, hb⟩; obtain ⟨c0, c1, c2, c3, f0, f1, f2, f3⟩ := blk4 (own_first hb))
  have hR1 := hR0.below hb
  have hbb := below_after hb
  clear hf HF hR0 hb0
  obtain ⟨_, ⟨v5, hp5⟩, hpf⟩ := hR1.node hin1
  obtain ⟨⟨v4, hh4⟩, _, hhf⟩ := hR1.node hin2
  have hpf5 := hpf 5
  have hhf4 := hhf 4
  obtain ⟨va, vn, hq, _⟩ := hR1.head
  have hq6 := hq.c6
  have hqf := hq.fr 6
  obtain ⟨hL, _⟩ := (Seg.append.1 hR1.seg).2
  have l0 := hL.c0
  have l1 := hL.c1
  have l2 := hL.c2
  have l3 := hL.c3
  have l4 := hL.c4
  have l5 := hL.c5
  have HU := Lib.hid hR1
  obtain ⟨n, hn⟩ : ∃ n : Int, n = ((a ++ y :: r).length : Int) := ⟨_, rfl⟩
  have hn1 : 0 < n := by omega
  have hn2 : n ≤ 16 := by omega
  rw [← hn] at hq6
  have HN := Lib.hid hn
  clear hpf hhf hq hL hR1 hn hlen hlt
  go_region
  all_goals
    go_wp2
    refine bodyPost_ret (v := .tuple #[y.2.agg, .bool true]) (by simp [results, Try.results8, go_sem, c0, c1, c2, c3]) rfl ⟨rfl, ?_, ?_⟩
    · refine Ring.far4 ?_ hnew _ _ _ _
      rw [HN.out]
      exact HU.out.unlink
    · exact ((((Chg.of_below hbb).set (.inl hin1) _).set (.inl hin2) _).set (.inl hin3) _).set4' (.inr (Nat.le_refl _)) _ _ _ _ |>.drew

theorem size_set (w : World) (a : Addr) (v : Value) : (w.setCell a v).heap.size = w.heap.size := by simp [World.setCell]
theorem Ring.link' {w : World} {q : Nat} {l : List (Nat × Wt)} {x : Wt} (h : Ring w q l) (hq : QAt w q (.pointer (some ⟨lastB q l, 0, none⟩)) (.pointer (some ⟨hdB q l, 0, none⟩)) l.length)
    (h0 : 0 ≤ x.task) (h1 : x.task < 16) (hf : findW l x.task = none) :
    Ring ((((w.setCell ⟨lastB q l, 5, none⟩ (.pointer (some ⟨w.heap.size, 0, none⟩))).setCell ⟨q, 4, none⟩ (.pointer (some ⟨w.heap.size, 0, none⟩))).setCell ⟨q, 6, none⟩ (.int .i64 ((l.length : Int) + 1))).alloc (.cells (lnkCells x (lastB q l) q) 30)) q (l ++ [(w.heap.size, x)]) := by
  have hlt := h.lt
  have hl : lastB q l < w.heap.size := by
    have := lastB_in q l []
    rw [List.append_nil] at this
    exact hlt _ this
  have hql : q < w.heap.size := hq.lt
  rw [← World.setCell_alloc_past _ _ _ _ (by rw [size_set, size_set]; exact hql), ← World.setCell_alloc_past _ _ _ _ (by rw [size_set]; exact hql), ← World.setCell_alloc_past _ _ _ _ hl]
  exact Ring.link h hq ((Below.refl _ w).alloc (Nat.le_refl _) _) (Nat.le_refl _) (World.alloc_heap_new w _) h0 h1 hf
theorem Ring.drew2 {w : World} {q : Nat} {l : List (Nat × Wt)} (h : Ring w q l) : Ring w.drew.drew q l := h.of (fun _ _ => rfl)
theorem Ring.drew {w : World} {q : Nat} {l : List (Nat × Wt)} (h : Ring w q l) : Ring w.drew q l := h.of (fun _ _ => rfl)
theorem Chg.alloc {bs : List Nat} {w W : World} (h : Chg bs w W) (o : Obj) : Chg bs w (W.alloc o) :=
  ⟨h.os, h.tape, h.output, by rw [World.size_alloc]; exact Nat.le_succ_of_le h.size, fun k hk hn => (Below.heap_alloc W o k (Nat.lt_of_lt_of_le hk h.size)).trans (h.block k hk hn)⟩

theorem add_bad (q : Nat) (l : List (Nat × Wt)) (x : Wt) (w : World) (_hR : Ring w q l) (hx : x.task < 0 ∨ 16 ≤ x.task) :
    Calls Try.prog 10 #[.pointer (some ⟨q, 0, none⟩), x.agg] w fun e W' => e = .returned (.bool false) ∧ Below w.heap.size w W' := by
  by_cases h0 : x.task < 0
  · go_enter Try.func10, Try.ntmps10
    go_wp2
    go_ret
    exact ⟨rfl, (Below.refl _ w).alloc (Nat.le_refl _) _⟩
  · have h1 : 16 ≤ x.task := by omega
    go_enter Try.func10, Try.ntmps10
    go_wp2
    go_ret
    exact ⟨rfl, (Below.refl _ w).alloc (Nat.le_refl _) _⟩

theorem add_there (q : Nat) (l : List (Nat × Wt)) (x : Wt) (y : Nat × Wt) (w : World) (hR : Ring w q l) (h0 : 0 ≤ x.task) (h1 : x.task < 16) (hf : findW l x.task = some y) :
    Calls Try.prog 10 #[.pointer (some ⟨q, 0, none⟩), x.agg] w fun e W' => e = .returned (.bool false) ∧ Below w.heap.size w W' := by
  have HF := fun W hR => find_some (q := q) (l := l) (t := x.task) hf W hR
  have hb0 : Below w.heap.size w (w.alloc (.cells #[.int .i64 x.task, .int .i64 x.kind, .int .i64 x.obj, .int .u32 x.mask] 27)) := (Below.refl _ w).alloc (Nat.le_refl _) _
  have hR0 := hR.below hb0
  clear hf
  go_enter Try.func10, Try.ntmps10
  go_wp2_with (go_at_call 43; refine (HF _ hR0).mono ?_; rintro e w1 ⟨rfl, hb⟩)
  go_ret
  exact ⟨rfl, below_after hb⟩

set_option maxHeartbeats 1000000 in
theorem add_new (q : Nat) (l : List (Nat × Wt)) (x : Wt) (w : World) (hR : Ring w q l) (h0 : 0 ≤ x.task) (h1 : x.task < 16) (hf : findW l x.task = none) :
    Calls Try.prog 10 #[.pointer (some ⟨q, 0, none⟩), x.agg] w fun e W' => e = .returned (.bool true) ∧ (∃ b, w.heap.size ≤ b ∧ Ring W' q (l ++ [(b, x)])) ∧ Chg (qBlocks q l) w W' := by
  have HF := fun W hR => find_none (q := q) (l := l) (t := x.task) hf W hR
  have hlt := hR.lt
  have hin3 : q ∈ qBlocks q l := by rw [qBlocks_eq]; exact List.mem_cons_self
  have hb0 : Below w.heap.size w (w.alloc (.cells #[.int .i64 x.task, .int .i64 x.kind, .int .i64 x.obj, .int .u32 x.mask] 27)) := (Below.refl _ w).alloc (Nat.le_refl _) _
  have hR0 := hR.below hb0
  have hfew := hR.ts.few
  have HFn := Lib.hid hf
  clear hf
  by_cases hl : l = []
  · subst hl
    go_enter Try.func10, Try.ntmps10
    go_wp2_with (go_at_call 43; refine (HF _ hR0).mono ?_; rintro e w1 ⟨rfl, hb⟩; obtain ⟨c0, c1, c2, c3, f0, f1, f2, f3⟩ := blk4 (own_first hb); obtain ⟨va, vn, hq, _⟩ := (hR0.below hb).head; have hq6 := hq.c6; have hq4 := hq.c4; have hq5 := hq.c5; have hqf4 := hq.fr 4; have hqf5 := hq.fr 5; have hqf6 := hq.fr 6)
    have hne : q ≠ w.heap.size := by have := hlt _ hin3; omega
    have hq1 : q < w1.heap.size := hq.lt
    go_region
    all_goals
      go_wp2
      go_region
      go_wp2
      go_ret
      refine ⟨rfl, ⟨w1.heap.size, by have := (below_after hb).size; exact this, ?_⟩, ?_⟩
      · have hr0 : Ring ((w1.setCell ⟨q, 4, none⟩ (.pointer (some ⟨q, 0, none⟩))).setCell ⟨q, 5, none⟩ (.pointer (some ⟨q, 0, none⟩))) q [] :=
          ⟨by rw [qBlocks_eq]; simp, ⟨_, _, (hq.set4 _).set5 _, fun h => absurd rfl h⟩, trivial, ⟨by simp, by simp⟩⟩
        have := Ring.link' (x := x) hr0 (by rw [lastB_nil, hdB_nil]; exact (hq.set4 _).set5 _) h0 h1 HFn.out
        rw [lastB_nil, size_set, size_set] at this
        exact this.drew2
      · exact (((((((Chg.of_below (below_after hb)).set (.inl hin3) _).set (.inl hin3) _).set (.inl hin3) _).set (.inl hin3) _).set (.inl hin3) _).alloc _).drew.drew
  · have hl0 : ((l.length : Int) == 0) = false := by simp [hl]
    obtain ⟨n, hn⟩ : ∃ n : Int, n = (l.length : Int) := ⟨_, rfl⟩
    have hn1 : 0 < n := by
      cases l with
      | nil => exact absurd rfl hl
      | cons a l => simp at hn; omega
    have hn2 : n ≤ 16 := by omega
    have hlast : lastB q l ∈ qBlocks q l := by
      have := lastB_in q l []
      rwa [List.append_nil] at this
    have HN := Lib.hid hn
    have HL := Lib.hid hl
    clear hl hl0
    go_enter Try.func10, Try.ntmps10
    go_wp2_with (go_at_call 43; refine (HF _ hR0).mono ?_; rintro e w1 ⟨rfl, hb⟩; obtain ⟨c0, c1, c2, c3, f0, f1, f2, f3⟩ := blk4 (own_first hb); have hR1 := hR0.below hb; obtain ⟨va, vn, hq, hp⟩ := hR1.head; obtain ⟨rfl, rfl⟩ := hp HL.out; obtain ⟨_, ⟨v5, hv5⟩, hvf⟩ := hR1.node hlast; have hvf5 := hvf 5; rw [← HN.out] at hq; have hq6 := hq.c6; have hq4 := hq.c4; have hq5 := hq.c5; have hqf4 := hq.fr 4; have hqf5 := hq.fr 5; have hqf6 := hq.fr 6; have hq1 : q < w1.heap.size := hq.lt; have hl1 : lastB q l < w1.heap.size := hR1.lt _ hlast; have HR1 := Lib.hid hR1; have HQ := Lib.hid hq; clear hvf hp hR1 hq)
    go_region
    all_goals
      go_wp2
      go_ret
      refine ⟨rfl, ⟨w1.heap.size, by have := (below_after hb).size; exact this, ?_⟩, ?_⟩
      · exact (Ring.link' (x := x) HR1.out (by rw [← HN.out]; exact HQ.out) h0 h1 HFn.out).drew
      · exact (((((Chg.of_below (below_after hb)).set (.inl hlast) _).set (.inl hin3) _).set (.inl hin3) _).alloc _).drew
end Go.Proofs.Ytkfaaeklkplhnaa
