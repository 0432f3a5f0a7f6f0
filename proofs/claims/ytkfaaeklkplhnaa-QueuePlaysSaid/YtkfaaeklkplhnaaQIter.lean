/- The iterator over a queue's ring, and the look for a task's link. -/
import Derived.Test.YtkfaaeklkplhnaaQBase
namespace Go.Proofs.Ytkfaaeklkplhnaa
open Go.RowKit Go.Shelf
attribute [local go_sem] Oper.semAt_some

/-- A link of a given ring. -/
abbrev In (l : List (Nat × Wt)) := { p : Nat × Wt // p ∈ l }

set_option maxRecDepth 100000 in
set_option maxHeartbeats 1000000 in
theorem all1_in (l0 Bn q : Nat) (l : List (Nat × Wt)) (n : Nat) (hn : 1 ≤ n) (J Jx : List (In l) → World → Prop)
    (hY : ∀ pre (x : In l) W, J pre W → pre.length < l.length → YieldAt Fence.wide (n - 1) Try.prog l0 #[.pointer (some ⟨x.1.1, 0, none⟩)] W fun e W' =>
      (e = .returned (.bool true) ∧ J (pre ++ [x]) W' ∧ KeepB (Bn :: qBlocks q l) W W') ∨ (e = .returned (.bool false) ∧ Jx (pre ++ [x]) W'))
    (W : World) (hBn : Boxed W Bn 24 (.pointer (some ⟨q, 0, none⟩))) (hR : Ring W q l) (h0 : J [] W) :
    CallsIn Fence.wide n Try.prog 70 #[.func (.yield l0) #[] #[], .pointer (some ⟨Bn, 0, none⟩)] W fun e W' => (∃ v, e = .returned v) ∧
      ((∃ ys : List (In l), ys.map Subtype.val = l ∧ J ys W') ∨ (∃ pre : List (In l), pre.map Subtype.val <+: l ∧ Jx pre W')) := by
  refine callsIn_of_wp Try.func70 rfl trivial ?_ rfl
  simp only [Try.ntmps70, List.size_toArray, List.length_cons, List.length_nil, Nat.reduceAdd, Nat.reduceSub, Array.replicate_succ, Array.replicate_zero, List.push_toArray, List.append_toArray, List.nil_append, List.cons_append]
  obtain ⟨va, vn, hq, hp⟩ := hR.head
  have hcB := hBn.cell
  have hc6 := hq.c6
  have hc5 := hq.c5
  by_cases hl : l = []
  · have hl0 : ((l.length : Int) == 0) = true := by simp [hl]
    gi_wp2
    refine bodyPost_ret (results_none rfl _ _ _) rfl ?_
    exact ⟨⟨_, rfl⟩, .inl ⟨[], by simp [hl], h0⟩⟩
  · have hl0 : ((l.length : Int) == 0) = false := by simp [hl]
    obtain ⟨rfl, rfl⟩ := hp hl
    clear hp
    gi_wp2
    gi_loopw [3] (fun p wr => ∃ (pre : List (In l)) (rest : List (Nat × Wt)), l = pre.map Subtype.val ++ rest ∧ p = .pointer (some ⟨hdB q rest, 0, none⟩) ∧ Boxed wr Bn 24 (.pointer (some ⟨q, 0, none⟩)) ∧ Ring wr q l ∧ J pre wr)
      (fun p _ => leftOf l p)
    case atStart => exact ⟨[], l, by simp, rfl, hBn, hR, h0⟩
    case round =>
      obtain ⟨pre, rest, hx, rfl, hBr, hRr, hJ⟩ := hrel
      clear hcB hc6 hc5 hq hBn hR h0 hl0
      have hcB := hBr.cell
      have hnd := hRr.nodup
      rw [qBlocks_eq, List.nodup_cons] at hnd
      cases rest with
      | nil =>
        obtain ⟨va, vn, hq, _⟩ := hRr.head
        have hpe := lnk_neq hq hq
        simp only [decide_true, Bool.not_true] at hpe
        simp only [hdB_nil]
        gi_wp2
        go_end0
        exact ⟨⟨_, rfl⟩, .inl ⟨pre, by simpa using hx.symm, hJ⟩⟩
      | cons y rest =>
        have hyl : y ∈ l := by rw [hx]; simp
        have hne := hRr.ptr_ne hyl
        have hsg : Seg wr q q (pre.map Subtype.val ++ y :: rest) := hx ▸ hRr.seg
        have hS := Seg.split (a := pre.map Subtype.val) hsg
        obtain ⟨hL, hS2⟩ := hS
        have hLc := hL.c5
        obtain ⟨fn, tmps, assign, body, hy, hR1⟩ := hY pre ⟨y, hyl⟩ wr hJ (by have := congrArg List.length hx; simp at this; omega)
        have Hx := Lib.hid hx
        clear hx hsg
        obtain ⟨va, vn, hq, _⟩ := hRr.head
        have hpe := lnk_neq (show wr.heap[y.1]? = _ from hL) hq
        simp only [hne, decide_false, Bool.not_false] at hpe
        simp only [hdB_cons]
        gi_wp2
        refine hR1.mono ?_
        rintro e W3 (⟨rfl, hJ3, hk3⟩ | ⟨rfl, hJx3⟩)
        · have hB3 : Boxed W3 Bn 24 (.pointer (some ⟨q, 0, none⟩)) := (hk3 Bn (by simp)).trans hBr
          have hR3 := hRr.of (fun b hb => hk3 b (List.mem_cons_of_mem _ hb))
          gi_wp2
          go_roundw
          case rel => exact ⟨pre ++ [⟨y, hyl⟩], rest, by simpa using Hx.out, rfl, hB3, hR3, hJ3⟩
          case measure =>
            rw [leftOf_at Hx.out hnd.2]
            cases rest with
            | nil => simp only [hdB_nil]; rw [leftOf_end hnd.1]; omega
            | cons z rest =>
              have hz : l = (pre.map Subtype.val ++ [y]) ++ z :: rest := by simpa using Hx.out
              simp only [hdB_cons]
              rw [leftOf_at hz hnd.2]
              simp
        · gi_wp2
          refine bodyPost_ret (results_none rfl _ _ _) rfl ?_
          exact ⟨⟨_, rfl⟩, .inr ⟨pre ++ [⟨y, hyl⟩], ⟨rest, by simpa using Hx.out.symm⟩, hJx3⟩⟩

set_option maxHeartbeats 1000000 in
theorem all_in (n q : Nat) (w : World) :
    CallsIn Fence.wide n Try.prog 44 #[.pointer (some ⟨q, 0, none⟩)] w fun e w' => e = .returned (.func (.func 70) #[] #[.pointer (some ⟨w.heap.size, 0, none⟩)]) ∧ w' = w.alloc (.cells #[.pointer (some ⟨q, 0, none⟩)] 24) := by
  refine callsIn_of_wp Try.func44 rfl trivial ?_ rfl
  simp only [Try.ntmps44, List.size_toArray, List.length_cons, List.length_nil, Nat.reduceAdd, Nat.reduceSub, Array.replicate_succ, Array.replicate_zero, List.push_toArray, List.append_toArray, List.nil_append, List.cons_append]
  gi_wp2
  go_ret
  exact ⟨rfl, rfl⟩

theorem keepB_t {bs : List Nat} {A B C : World} (h : KeepB bs A B) (k : KeepB bs B C) : KeepB bs A C := h.trans k
theorem keepB_b {bs : List Nat} {w : World} (hb : ∀ b ∈ bs, b < w.heap.size) (W : World) (l : Nat) (o o' : Obj) (hl : w.heap.size ≤ l) (_ : W.heap[l]? = some o) (_ : o.isCells = false) (_ : o.isWalk = false) : KeepB bs W (W.putObj l o') := fun b hm => by
  have := hb b hm
  exact World.putObj_heap_other (by omega)

/-- The iterator's contract, for a loop over it. -/
theorem all_stops (n : Nat) (hn : 1 ≤ n) (Bn q : Nat) (l : List (Nat × Wt)) (w : World) (hB : Boxed w Bn 24 (.pointer (some ⟨q, 0, none⟩))) (hR : Ring w q l) :
    SeqStopsK Fence.wide n Try.prog 70 #[.pointer (some ⟨Bn, 0, none⟩)] (fun x : In l => #[.pointer (some ⟨x.1.1, 0, none⟩)]) (KeepB (Bn :: qBlocks q l)) (fun ys => ys.map Subtype.val = l) (fun pre => pre.map Subtype.val <+: l) l.length w :=
  fun l0 J Jx W hW _ _ hY h0 => all1_in l0 Bn q l n hn J Jx hY W ((hW.block Bn hB.lt).trans hB) (hR.below hW) h0

/-- The first link of a task. -/
def findW (l : List (Nat × Wt)) (t : Int) : Option (Nat × Wt) := l.find? (fun p => decide (p.2.task = t))
def ptrOf : Option (Nat × Wt) → Value
  | none => .pointer none
  | some p => .pointer (some ⟨p.1, 0, none⟩)
end Go.Proofs.Ytkfaaeklkplhnaa
