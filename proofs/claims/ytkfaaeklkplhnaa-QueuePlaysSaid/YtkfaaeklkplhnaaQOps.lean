/- The queue's operations. -/
import Derived.Test.YtkfaaeklkplhnaaQFind
import Derived.ScopeJumps
namespace Go.Proofs.Ytkfaaeklkplhnaa
open Go.RowKit Go.Shelf

theorem blkc {w : World} {b : Nat} {cs : Array Value} {t : TypeId} (h : w.heap[b]? = some (.cells cs t (0, 0))) (i : Nat) : w.cell? ⟨b, i, none⟩ = cs[i]? := by simp [World.cell?, h]
theorem blkf {w : World} {b : Nat} {cs : Array Value} {t : TypeId} (h : w.heap[b]? = some (.cells cs t (0, 0))) (i : Nat) : w.frozen? ⟨b, i, none⟩ = false := by simp [World.frozen?, h]

theorem blk4 {w : World} {b : Nat} {v0 v1 v2 v3 : Value} {t : TypeId} (h : w.heap[b]? = some (.cells #[v0, v1, v2, v3] t (0, 0))) :
    w.cell? ⟨b, 0, none⟩ = some v0 ∧ w.cell? ⟨b, 1, none⟩ = some v1 ∧ w.cell? ⟨b, 2, none⟩ = some v2 ∧ w.cell? ⟨b, 3, none⟩ = some v3 ∧
    w.frozen? ⟨b, 0, none⟩ = false ∧ w.frozen? ⟨b, 1, none⟩ = false ∧ w.frozen? ⟨b, 2, none⟩ = false ∧ w.frozen? ⟨b, 3, none⟩ = false :=
  ⟨blkc h 0, blkc h 1, blkc h 2, blkc h 3, blkf h 0, blkf h 1, blkf h 2, blkf h 3⟩
theorem own_first {w w1 : World} {o : Obj} (hb : Below (w.alloc o).heap.size (w.alloc o) w1) : w1.heap[w.heap.size]? = some o :=
  (hb.block _ (by simp)).trans (World.alloc_heap_new w o)

theorem below_after {w w1 : World} {o : Obj} (hb : Below (w.alloc o).heap.size (w.alloc o) w1) : Below w.heap.size w w1 :=
  ((Below.refl _ w).alloc (Nat.le_refl _) o).trans (hb.mono (by simp))
theorem pw_drewN {B : Nat} {w W : World} (h : Below B w W) (n : Nat) : Below B w (W.drewN n) := ⟨h.os, h.tape, h.output, h.size, h.block⟩
theorem below_set4 {B b : Nat} {w W : World} (h : Below B w W) (hb : B ≤ b) (v0 v1 v2 v3 : Value) :
    Below B w ((((W.setCell ⟨b, 0, none⟩ v0).setCell ⟨b, 1, none⟩ v1).setCell ⟨b, 2, none⟩ v2).setCell ⟨b, 3, none⟩ v3) :=
  (((h.setCell (p := ⟨b, 0, none⟩) hb _).setCell (p := ⟨b, 1, none⟩) hb _).setCell (p := ⟨b, 2, none⟩) hb _).setCell (p := ⟨b, 3, none⟩) hb _
/-- What is told of no wait. -/
abbrev noW : Value := .tuple #[.agg #[.int .i64 0, .int .i64 0, .int .i64 0, .int .u32 0], .bool false]
abbrev Wt.agg (x : Wt) : Value := .agg #[.int .i64 x.task, .int .i64 x.kind, .int .i64 x.obj, .int .u32 x.mask]

set_option maxHeartbeats 400000 in
theorem len_calls (q : Nat) (l : List (Nat × Wt)) (w : World) (hR : Ring w q l) :
    Calls Try.prog 21 #[.pointer (some ⟨q, 0, none⟩)] w fun e W' => e = .returned (.int .i64 l.length) ∧ w = W' := by
  obtain ⟨va, vn, hq, _⟩ := hR.head
  have hc6 := hq.c6
  go_enter Try.func21, Try.ntmps21
  go_wp2
  go_ret
  exact ⟨rfl, rfl⟩

theorem find_none {q : Nat} {l : List (Nat × Wt)} {t : Int} (hf : findW l t = none) (w : World) (hR : Ring w q l) :
    Calls Try.prog 43 #[.pointer (some ⟨q, 0, none⟩), .int .i64 t] w fun e W' => e = .returned (.pointer none) ∧ Below w.heap.size w W' :=
  (find_calls q l t w hR).mono fun e W' ⟨he, hb⟩ => ⟨by rw [he, hf]; rfl, hb⟩
theorem find_some {q : Nat} {l : List (Nat × Wt)} {t : Int} {y : Nat × Wt} (hf : findW l t = some y) (w : World) (hR : Ring w q l) :
    Calls Try.prog 43 #[.pointer (some ⟨q, 0, none⟩), .int .i64 t] w fun e W' => e = .returned (.pointer (some ⟨y.1, 0, none⟩)) ∧ Below w.heap.size w W' :=
  (find_calls q l t w hR).mono fun e W' ⟨he, hb⟩ => ⟨by rw [he, hf]; rfl, hb⟩

/-- What Find tells: none: there is none. -/
theorem findq_none (q : Nat) (l : List (Nat × Wt)) (t : Int) (w : World) (hR : Ring w q l) (hf : findW l t = none) :
    Calls Try.prog 14 #[.pointer (some ⟨q, 0, none⟩), .int .i64 t] w fun e W' => e = .returned noW ∧ Below w.heap.size w W' := by
  have HF := fun W hR => find_none (q := q) (l := l) (t := t) hf W hR
  go_enter Try.func14, Try.ntmps14
  have hb0 : Below w.heap.size w (w.alloc (.cells #[.int .i64 0, .int .i64 0, .int .i64 0, .int .u32 0] 27)) := (Below.refl _ w).alloc (Nat.le_refl _) _
  have hR0 := hR.below hb0
  go_wp2_with (go_at_call 43; refine (HF _ hR0).mono ?_; rintro e w1 ⟨rfl, hb⟩; obtain ⟨c0, c1, c2, c3, f0, f1, f2, f3⟩ := blk4 (own_first hb))
  exact bodyPost_ret (v := noW) (by simp [results, Try.results14, go_sem, c0, c1, c2, c3]) rfl ⟨rfl, below_set4 (below_after hb) (Nat.le_refl _) _ _ _ _⟩

theorem wait_eql (T : Nat) (hT : T = 27 ∨ T = 34) (x y : Wt) (W : World) : (binOp .eql T x.agg y.agg).run Try.prog W = .ok (.bool (decide (x = y))) W := by
  obtain ⟨a, b, c, d⟩ := x
  obtain ⟨a', b', c', d'⟩ := y
  have e : decide ((⟨a, b, c, d⟩ : Wt) = ⟨a', b', c', d'⟩) = (decide (a = a') && decide (b = b') && decide (c = c') && decide (d = d')) := by
    simp [Wt.mk.injEq, Bool.and_assoc]
  rw [e]
  show (binOp .eql T (.agg #[.int .i64 a, .int .i64 b, .int .i64 c, .int .u32 d]) (.agg #[.int .i64 a', .int .i64 b', .int .i64 c', .int .u32 d'])).run Try.prog W = _
  rcases hT with rfl | rfl <;> (clear e; go_simp)
  all_goals
    by_cases h1 : a = a' <;> by_cases h2 : b = b' <;> by_cases h3 : c = c' <;> by_cases h4 : d = d' <;> simp [*]
theorem wait_neq (T : Nat) (hT : T = 27 ∨ T = 34) (x y : Wt) (W : World) : (binOp .neq T x.agg y.agg).run Try.prog W = .ok (.bool (!decide (x = y))) W := by
  obtain ⟨a, b, c, d⟩ := x
  obtain ⟨a', b', c', d'⟩ := y
  have e : decide ((⟨a, b, c, d⟩ : Wt) = ⟨a', b', c', d'⟩) = (decide (a = a') && decide (b = b') && decide (c = c') && decide (d = d')) := by
    simp [Wt.mk.injEq, Bool.and_assoc]
  rw [e]
  show (binOp .neq T (.agg #[.int .i64 a, .int .i64 b, .int .i64 c, .int .u32 d]) (.agg #[.int .i64 a', .int .i64 b', .int .i64 c', .int .u32 d'])).run Try.prog W = _
  rcases hT with rfl | rfl <;> (clear e; go_simp)
  all_goals
    by_cases h1 : a = a' <;> by_cases h2 : b = b' <;> by_cases h3 : c = c' <;> by_cases h4 : d = d' <;> simp [*]
theorem findW_mem {l : List (Nat × Wt)} {t : Int} {y : Nat × Wt} (h : findW l t = some y) : y ∈ l ∧ y.2.task = t := by
  unfold findW at h
  exact ⟨List.mem_of_find?_eq_some h, by simpa using List.find?_some h⟩

theorem findq_some (q : Nat) (l : List (Nat × Wt)) (t : Int) (y : Nat × Wt) (w : World) (hR : Ring w q l) (hf : findW l t = some y) :
    Calls Try.prog 14 #[.pointer (some ⟨q, 0, none⟩), .int .i64 t] w fun e W' => e = .returned (.tuple #[y.2.agg, .bool true]) ∧ Below w.heap.size w W' := by
  have HF := fun W hR => find_some (q := q) (l := l) (t := t) hf W hR
  obtain ⟨hy, ht⟩ := findW_mem hf
  go_enter Try.func14, Try.ntmps14
  have hb0 : Below w.heap.size w (w.alloc (.cells #[.int .i64 0, .int .i64 0, .int .i64 0, .int .u32 0] 27)) := (Below.refl _ w).alloc (Nat.le_refl _) _
  have hR0 := hR.below hb0
  go_wp2_with (go_at_call 43; refine (HF _ hR0).mono ?_; rintro e w1 ⟨rfl, hb⟩; obtain ⟨c0, c1, c2, c3, f0, f1, f2, f3⟩ := blk4 (own_first hb); obtain ⟨ah, nx, hL⟩ := (hR0.below hb).seg.mem y hy; have l0 := hL.c0; have l1 := hL.c1; have l2 := hL.c2; have l3 := hL.c3)
  have hne : ∀ W, (binOp .neq 27 y.2.agg (.agg #[.int .i64 0, .int .i64 0, .int .i64 0, .int .u32 0])).run Try.prog W = .ok (.bool (!decide (y.2 = Wt.z))) W := fun W => wait_neq _ (.inl rfl) y.2 Wt.z W
  by_cases hz : y.2 = Wt.z
  · have ht0 : (t == 0) = true := by rw [← ht, hz]; rfl
    have hd : decide (y.2 = Wt.z) = true := by simp [hz]
    simp only [hd, Bool.not_true] at hne
    clear ht hf HF hz hd
    go_region
    all_goals
      go_wp2
      exact bodyPost_ret (v := .tuple #[y.2.agg, .bool true]) (by simp [results, Try.results14, go_sem, c0, c1, c2, c3]) rfl ⟨rfl, below_set4 (below_after hb).drew (Nat.le_refl _) _ _ _ _⟩
  · simp only [hz, decide_false, Bool.not_false] at hne
    clear ht hf HF
    go_region
    all_goals
      go_wp2
      exact bodyPost_ret (v := .tuple #[y.2.agg, .bool true]) (by simp [results, Try.results14, go_sem, c0, c1, c2, c3]) rfl ⟨rfl, below_set4 (below_after hb).drew (Nat.le_refl _) _ _ _ _⟩

/-- Who comes behind a task's wait; who is first, if it has none. -/
def nextW (l : List (Nat × Wt)) (t : Int) : Option (Nat × Wt) :=
  match l.dropWhile (fun p => decide (p.2.task ≠ t)) with
  | [] => l.head?
  | _ :: r => r.head?
def tellW : Option (Nat × Wt) → Value
  | none => noW
  | some y => .tuple #[y.2.agg, .bool true]

theorem findW_split {l : List (Nat × Wt)} {t : Int} {y : Nat × Wt} (h : findW l t = some y) : ∃ a r, l = a ++ y :: r ∧ l.dropWhile (fun p => decide (p.2.task ≠ t)) = y :: r := by
  unfold findW at h
  induction l with
  | nil => simp at h
  | cons z l ih =>
    by_cases hz : z.2.task = t
    · simp [hz] at h
      subst h
      exact ⟨[], l, rfl, by simp [hz]⟩
    · simp [hz] at h
      obtain ⟨a, r, h1, h2⟩ := ih h
      exact ⟨z :: a, r, by rw [h1]; rfl, by simp [hz]; simpa using h2⟩
theorem findW_none_drop {l : List (Nat × Wt)} {t : Int} (h : findW l t = none) : l.dropWhile (fun p => decide (p.2.task ≠ t)) = [] := by
  unfold findW at h
  rw [List.find?_eq_none] at h
  induction l with
  | nil => rfl
  | cons z l ih =>
    have hz := h z List.mem_cons_self
    rw [List.dropWhile_cons, if_pos (by simpa using hz)]
    exact ih (fun x hx => h x (List.mem_cons_of_mem _ hx))

theorem jump_ret {l : Nat} {J : Act → World → Prop} {Q : Exit → Act → World → Prop} {a : Act} {w : World} : Exit.jump l J Q .ret a w = Q .ret a w := rfl

set_option maxHeartbeats 1000000 in
theorem next_calls (q : Nat) (l : List (Nat × Wt)) (t : Int) (w : World) (hR : Ring w q l) :
    Calls Try.prog 12 #[.pointer (some ⟨q, 0, none⟩), .int .i64 t] w fun e W' => e = .returned (tellW (nextW l t)) ∧ Below w.heap.size w W' := by
  have hb0 : Below w.heap.size w (w.alloc (.cells #[.int .i64 0, .int .i64 0, .int .i64 0, .int .u32 0] 27)) := (Below.refl _ w).alloc (Nat.le_refl _) _
  have hR0 := hR.below hb0
  have hne0 : ((l.length : Int) == 0) = decide (l = []) := by
    cases l with
    | nil => rfl
    | cons a b => simp; omega
  by_cases hl : l = []
  · subst hl
    clear hne0
    go_enter Try.func12, Try.ntmps12
    go_wp2
    go_step3
    go_wp2_with (go_at_call 21; refine (len_calls q [] _ hR0).mono ?_; rintro e w1 ⟨rfl, rfl⟩)
    rw [Exit.noGoto_ret]
    exact bodyPost_ret (v := noW) (by simp [results, Try.results12, go_sem]) rfl ⟨rfl, hb0⟩
  have hl0 : ((l.length : Int) == 0) = false := by rw [hne0]; simp [hl]
  clear hne0
  cases hf : findW l t with
  | none =>
    have HF := fun W hR => find_none (q := q) (l := l) (t := t) hf W hR
    obtain ⟨y, r, rfl⟩ : ∃ y r, l = y :: r := by
      cases l with
      | nil => exact absurd rfl hl
      | cons y r => exact ⟨y, r, rfl⟩
    have hfin : nextW (y :: r) t = some y := by unfold nextW; rw [findW_none_drop hf]; rfl
    rw [hfin]
    clear hfin hf
    go_enter Try.func12, Try.ntmps12
    go_wp2
    refine wp_scope_jumps 0 (fun a W => Below (w.alloc (.cells #[.int .i64 0, .int .i64 0, .int .i64 0, .int .u32 0] 27)).heap.size (w.alloc (.cells #[.int .i64 0, .int .i64 0, .int .i64 0, .int .u32 0] 27)) W ∧ a = { tmps := #[.pointer (some ⟨q, 0, none⟩), .int .i64 t, undef, undef, .pointer (some ⟨w.heap.size, 0, none⟩), .bool false, .pointer none, .pointer (some ⟨q, 0, none⟩), .int .i64 (r.length + 1), .bool false, undef, .pointer (some ⟨q, 0, none⟩), .int .i64 t, .pointer none, .pointer none, .bool true, undef, undef, undef, undef, undef, undef, undef, undef, undef, undef, undef, undef, undef, undef, undef, undef, undef, undef, undef, undef, undef, undef, undef, undef], defers := [] }) (fun _ _ => 0) rfl ?first ?pass
    case first =>
      go_wp2_with (first | (go_at_call 21; refine (len_calls q _ _ hR0).mono ?_; rintro e w1 ⟨rfl, rfl⟩) | (go_at_call 43; refine (HF _ hR0).mono ?_; rintro e w1 ⟨rfl, hb⟩; obtain ⟨c0, c1, c2, c3, f0, f1, f2, f3⟩ := blk4 (own_first hb)))
      go_step3
      exact ⟨rfl, hb, rfl⟩
    case pass =>
      rintro _ W ⟨hb, rfl⟩
      obtain ⟨c0, c1, c2, c3, f0, f1, f2, f3⟩ := blk4 (own_first hb)
      obtain ⟨va, vn, hq, hp⟩ := (hR0.below hb).head
      obtain ⟨rfl, rfl⟩ := hp (by simp)
      have q5 := hq.c5
      simp only [hdB_cons] at q5
      obtain ⟨ah, nx, hL⟩ := (hR0.below hb).seg.mem y List.mem_cons_self
      have l0 := hL.c0
      have l1 := hL.c1
      have l2 := hL.c2
      have l3 := hL.c3
      go_wp2
      rw [jump_ret]
      exact bodyPost_ret (v := .tuple #[y.2.agg, .bool true]) (by simp [results, Try.results12, go_sem, c0, c1, c2, c3]) rfl ⟨rfl, below_set4 (below_after hb) (Nat.le_refl _) _ _ _ _⟩
  | some y =>
    have HF := fun W hR => find_some (q := q) (l := l) (t := t) hf W hR
    obtain ⟨pa, r, rfl, hd⟩ := findW_split hf
    have hlen : (((pa ++ y :: r).length : Int) == 0) = false := by simp; omega
    cases r with
    | nil =>
      have hfin : nextW (pa ++ [y]) t = none := by unfold nextW; rw [hd]; rfl
      rw [hfin]
      clear hfin hf hd hl0 hl
      go_enter Try.func12, Try.ntmps12
      go_wp2
      go_step3
      go_wp2_with (first | (go_at_call 21; refine (len_calls q _ _ hR0).mono ?_; rintro e w1 ⟨rfl, rfl⟩) | (go_at_call 43; refine (HF _ hR0).mono ?_; rintro e w1 ⟨rfl, hb⟩; obtain ⟨c0, c1, c2, c3, f0, f1, f2, f3⟩ := blk4 (own_first hb)))
      have hR1 := hR0.below hb
      obtain ⟨va, vn, hq, _⟩ := hR1.head
      obtain ⟨hL, _⟩ := Seg.split (a := pa) hR1.seg
      rw [hdB_nil] at hL
      have l5 := hL.c5
      have hpe : ∀ k, (binOp .eql 28 (.pointer (some ⟨q, 0, none⟩)) (.pointer (some ⟨q, 0, none⟩))).run Try.prog (w1.drewN k) = .ok (.bool true) (w1.drewN k) := fun k => by
        have := lnk_eql (w := w1.drewN k) hq hq
        simpa using this
      clear hR1 hq hL
      go_quiet (fail)
      go_wp2
      rw [Exit.noGoto_ret]
      exact bodyPost_ret (v := noW) (by simp [results, Try.results12, go_sem, c0, c1, c2, c3]) rfl ⟨rfl, below_set4 (pw_drewN (below_after hb) _) (Nat.le_refl _) _ _ _ _⟩
    | cons z r =>
      have hfin : nextW (pa ++ y :: z :: r) t = some z := by unfold nextW; rw [hd]; rfl
      rw [hfin]
      have hnd : z.1 ≠ q := hR.ptr_ne (by simp)
      clear hfin hf hd hl0 hl
      go_enter Try.func12, Try.ntmps12
      go_wp2
      go_step3
      go_wp2_with (first | (go_at_call 21; refine (len_calls q _ _ hR0).mono ?_; rintro e w1 ⟨rfl, rfl⟩) | (go_at_call 43; refine (HF _ hR0).mono ?_; rintro e w1 ⟨rfl, hb⟩; obtain ⟨c0, c1, c2, c3, f0, f1, f2, f3⟩ := blk4 (own_first hb)))
      have hR1 := hR0.below hb
      obtain ⟨va, vn, hq, _⟩ := hR1.head
      obtain ⟨hL, hL2, _⟩ := Seg.split (a := pa) hR1.seg
      rw [hdB_cons] at hL
      have l5 := hL.c5
      have hpe : ∀ k, (binOp .eql 28 (.pointer (some ⟨z.1, 0, none⟩)) (.pointer (some ⟨q, 0, none⟩))).run Try.prog (w1.drewN k) = .ok (.bool false) (w1.drewN k) := fun k => by
        have := lnk_eql (w := w1.drewN k) (show w1.heap[z.1]? = _ from hL2) hq
        simpa [hnd] using this
      have k0 := hL2.c0
      have k1 := hL2.c1
      have k2 := hL2.c2
      have k3 := hL2.c3
      clear hR1 hq hL hL2
      go_quiet (fail)
      go_wp2
      rw [Exit.noGoto_ret]
      exact bodyPost_ret (v := .tuple #[z.2.agg, .bool true]) (by simp [results, Try.results12, go_sem, c0, c1, c2, c3]) rfl ⟨rfl, below_set4 (pw_drewN (below_after hb) _) (Nat.le_refl _) _ _ _ _⟩
end Go.Proofs.Ytkfaaeklkplhnaa
