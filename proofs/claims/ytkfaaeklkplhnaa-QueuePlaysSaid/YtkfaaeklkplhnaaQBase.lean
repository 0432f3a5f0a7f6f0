/- The ring of waits behind a queue.Queue, read off the heap; the contracts of its iterator. -/
import Derived.RangeFuncBox
import Derived.RangeFuncLeaves
import Derived.Shelf.Abstract
import Derived.WalkKit
import Derived.WalkSpells
import Derived.WalkLawsBesides
import Derived.OwnWalkIn
import Derived.TacticsInMore
import Derived.LoopNIn
import Derived.LoopIn
import Derived.Maps.AppendAt
import Derived.BigQuiet
import Derived.Deep.QuietTactic
import Derived.RangeFuncCalls
import Derived.Lib.Hide
import Derived.LaidEqlPtr
import Derived.Test.YtkfaaeklkplhnaaProg
namespace Go.Proofs.Ytkfaaeklkplhnaa
open Go.RowKit Go.Shelf
attribute [local go_sem] Oper.semAt_some

section
variable {P : Program}
theorem run_ptr_equal {tp te : TypeId} {j : TypeInfo} (hp : P.underlying tp = some (.pointer te)) (hte : P.info? te = some j) (hsz : j.size ≠ 0) {w : World} {a b : Nat} {ca cb : Array Value} {ta tb : TypeId}
    (ha : w.heap[a]? = some (.cells ca ta (0, 0))) (hb : w.heap[b]? = some (.cells cb tb (0, 0))) :
    (Op.equal tp (.pointer (some ⟨a, 0, none⟩)) (.pointer (some ⟨b, 0, none⟩))).run P w = .ok (decide (a = b)) w := by
  by_cases h : a = b
  · subst h
    have h : ∀ d : Nat, (Op.equalIn (d + 1) tp (.pointer (some ⟨a, 0, none⟩)) (.pointer (some ⟨a, 0, none⟩))).run P w = .ok true w := fun d => by
      simp [Op.equalIn, run_underlying hp, sizeOf, typeInfo, hte, run_sameAddr_same]
    simp [Op.equal, Op.maxDepth, h 9999]
  · have hne : (⟨a, 0, none⟩ : Addr) ≠ ⟨b, 0, none⟩ := fun e => h (by injection e)
    have h' : ∀ d : Nat, (Op.equalIn (d + 1) tp (.pointer (some ⟨a, 0, none⟩)) (.pointer (some ⟨b, 0, none⟩))).run P w = .ok false w := fun d => by
      simp [Op.equalIn, run_underlying hp, sizeOf, typeInfo, hte, hsz, run_sameAddr_other w hne ha hb]
    simp [Op.equal, Op.maxDepth, h' 9999, h]
theorem run_ptr_eql {tp te : TypeId} {j : TypeInfo} (hp : P.underlying tp = some (.pointer te)) (hte : P.info? te = some j) (hsz : j.size ≠ 0) {w : World} {a b : Nat} {ca cb : Array Value} {ta tb : TypeId}
    (ha : w.heap[a]? = some (.cells ca ta (0, 0))) (hb : w.heap[b]? = some (.cells cb tb (0, 0))) :
    (binOp .eql tp (.pointer (some ⟨a, 0, none⟩)) (.pointer (some ⟨b, 0, none⟩))).run P w = .ok (.bool (decide (a = b))) w := by
  simp only [binOp]
  simp [run_ptr_equal hp hte hsz ha hb]
theorem run_ptr_neq {tp te : TypeId} {j : TypeInfo} (hp : P.underlying tp = some (.pointer te)) (hte : P.info? te = some j) (hsz : j.size ≠ 0) {w : World} {a b : Nat} {ca cb : Array Value} {ta tb : TypeId}
    (ha : w.heap[a]? = some (.cells ca ta (0, 0))) (hb : w.heap[b]? = some (.cells cb tb (0, 0))) :
    (binOp .neq tp (.pointer (some ⟨a, 0, none⟩)) (.pointer (some ⟨b, 0, none⟩))).run P w = .ok (.bool (!decide (a = b))) w := by
  simp only [binOp]
  simp [run_ptr_equal hp hte hsz ha hb]
end

/-- A wait. -/
structure Wt where
  task : Int
  kind : Int
  obj : Int
  mask : Int
deriving DecidableEq
def Wt.z : Wt := ⟨0, 0, 0, 0⟩
def Wt.cells (x : Wt) : List Value := [.int .i64 x.task, .int .i64 x.kind, .int .i64 x.obj, .int .u32 x.mask]

def lnkCells (x : Wt) (ah nx : Nat) : Array Value := #[.int .i64 x.task, .int .i64 x.kind, .int .i64 x.obj, .int .u32 x.mask, .pointer (some ⟨ah, 0, none⟩), .pointer (some ⟨nx, 0, none⟩)]
/-- A link of the ring in block b. -/
def LinkAt (w : World) (b : Nat) (x : Wt) (ah nx : Nat) : Prop := w.heap[b]? = some (.cells (lnkCells x ah nx) 30 (0, 0))
/-- The queue itself in block q. -/
def QAt (w : World) (q : Nat) (va vn : Value) (n : Int) : Prop := w.heap[q]? = some (.cells #[.int .i64 0, .int .i64 0, .int .i64 0, .int .u32 0, va, vn, .int .i64 n] 32 (0, 0))

theorem infoLink : (Try.prog.info? 30).map (fun i => i.size) = some 6 := by kernel_rfl
theorem infoLink' : ∃ j, Try.prog.info? 30 = some j ∧ j.size ≠ 0 := by
  obtain ⟨j, hj, hs⟩ := Option.map_eq_some_iff.1 infoLink
  exact ⟨j, hj, by omega⟩
theorem lnk_neq {w : World} {a b : Nat} {ca cb : Array Value} {ta tb : TypeId} (ha : w.heap[a]? = some (.cells ca ta (0, 0))) (hb : w.heap[b]? = some (.cells cb tb (0, 0))) :
    (binOp .neq 28 (.pointer (some ⟨a, 0, none⟩)) (.pointer (some ⟨b, 0, none⟩))).run Try.prog w = .ok (.bool (!decide (a = b))) w := by
  obtain ⟨j, hj, hs⟩ := infoLink'
  exact run_ptr_neq Try.underlying28 hj hs ha hb
theorem lnk_eql {w : World} {a b : Nat} {ca cb : Array Value} {ta tb : TypeId} (ha : w.heap[a]? = some (.cells ca ta (0, 0))) (hb : w.heap[b]? = some (.cells cb tb (0, 0))) :
    (binOp .eql 28 (.pointer (some ⟨a, 0, none⟩)) (.pointer (some ⟨b, 0, none⟩))).run Try.prog w = .ok (.bool (decide (a = b))) w := by
  obtain ⟨j, hj, hs⟩ := infoLink'
  exact run_ptr_eql Try.underlying28 hj hs ha hb

theorem LinkAt.c0 {w : World} {b : Nat} {x : Wt} {ah nx : Nat} (h : LinkAt w b x ah nx) : w.cell? ⟨b, 0, none⟩ = some (.int .i64 x.task) := by simp [World.cell?, show w.heap[b]? = _ from h, lnkCells]
theorem LinkAt.c1 {w : World} {b : Nat} {x : Wt} {ah nx : Nat} (h : LinkAt w b x ah nx) : w.cell? ⟨b, 1, none⟩ = some (.int .i64 x.kind) := by simp [World.cell?, show w.heap[b]? = _ from h, lnkCells]
theorem LinkAt.c2 {w : World} {b : Nat} {x : Wt} {ah nx : Nat} (h : LinkAt w b x ah nx) : w.cell? ⟨b, 2, none⟩ = some (.int .i64 x.obj) := by simp [World.cell?, show w.heap[b]? = _ from h, lnkCells]
theorem LinkAt.c3 {w : World} {b : Nat} {x : Wt} {ah nx : Nat} (h : LinkAt w b x ah nx) : w.cell? ⟨b, 3, none⟩ = some (.int .u32 x.mask) := by simp [World.cell?, show w.heap[b]? = _ from h, lnkCells]
theorem LinkAt.c4 {w : World} {b : Nat} {x : Wt} {ah nx : Nat} (h : LinkAt w b x ah nx) : w.cell? ⟨b, 4, none⟩ = some (.pointer (some ⟨ah, 0, none⟩)) := by simp [World.cell?, show w.heap[b]? = _ from h, lnkCells]
theorem LinkAt.c5 {w : World} {b : Nat} {x : Wt} {ah nx : Nat} (h : LinkAt w b x ah nx) : w.cell? ⟨b, 5, none⟩ = some (.pointer (some ⟨nx, 0, none⟩)) := by simp [World.cell?, show w.heap[b]? = _ from h, lnkCells]
theorem LinkAt.fr {w : World} {b : Nat} {x : Wt} {ah nx : Nat} (h : LinkAt w b x ah nx) (o : Nat) : w.frozen? ⟨b, o, none⟩ = false := by simp [World.frozen?, show w.heap[b]? = _ from h]
theorem LinkAt.lt {w : World} {b : Nat} {x : Wt} {ah nx : Nat} (h : LinkAt w b x ah nx) : b < w.heap.size := (Array.getElem?_eq_some_iff.1 h).1
theorem LinkAt.of {w w' : World} {b : Nat} {x : Wt} {ah nx : Nat} (h : LinkAt w b x ah nx) (e : w'.heap[b]? = w.heap[b]?) : LinkAt w' b x ah nx := e.trans h
theorem QAt.c4 {w : World} {q : Nat} {va vn : Value} {n : Int} (h : QAt w q va vn n) : w.cell? ⟨q, 4, none⟩ = some va := by simp [World.cell?, show w.heap[q]? = _ from h]
theorem QAt.c5 {w : World} {q : Nat} {va vn : Value} {n : Int} (h : QAt w q va vn n) : w.cell? ⟨q, 5, none⟩ = some vn := by simp [World.cell?, show w.heap[q]? = _ from h]
theorem QAt.c6 {w : World} {q : Nat} {va vn : Value} {n : Int} (h : QAt w q va vn n) : w.cell? ⟨q, 6, none⟩ = some (.int .i64 n) := by simp [World.cell?, show w.heap[q]? = _ from h]
theorem QAt.fr {w : World} {q : Nat} {va vn : Value} {n : Int} (h : QAt w q va vn n) (o : Nat) : w.frozen? ⟨q, o, none⟩ = false := by simp [World.frozen?, show w.heap[q]? = _ from h]
theorem QAt.lt {w : World} {q : Nat} {va vn : Value} {n : Int} (h : QAt w q va vn n) : q < w.heap.size := (Array.getElem?_eq_some_iff.1 h).1
theorem QAt.of {w w' : World} {q : Nat} {va vn : Value} {n : Int} (h : QAt w q va vn n) (e : w'.heap[q]? = w.heap[q]?) : QAt w' q va vn n := e.trans h

def hdB (q : Nat) : List (Nat × Wt) → Nat
  | [] => q
  | p :: _ => p.1
def lastB (q : Nat) : List (Nat × Wt) → Nat
  | [] => q
  | p :: r => lastB p.1 r
theorem hdB_nil (q : Nat) : hdB q [] = q := rfl
theorem hdB_cons (q : Nat) (y : Nat × Wt) (r : List (Nat × Wt)) : hdB q (y :: r) = y.1 := rfl
theorem lastB_nil (q : Nat) : lastB q [] = q := rfl
theorem lastB_cons (q : Nat) (y : Nat × Wt) (r : List (Nat × Wt)) : lastB q (y :: r) = lastB y.1 r := rfl
/-- The links from the one behind p on. -/
def Seg (w : World) (q : Nat) : Nat → List (Nat × Wt) → Prop
  | _, [] => True
  | p, y :: r => LinkAt w y.1 y.2 p (hdB q r) ∧ Seg w q y.1 r
/-- What blocks a queue has. -/
def qBlocks (q : Nat) (l : List (Nat × Wt)) : List Nat := q :: l.map Prod.fst
/-- The blocks are as they were. -/
def KeepB (bs : List Nat) (w w' : World) : Prop := ∀ b ∈ bs, w'.heap[b]? = w.heap[b]?
theorem KeepB.refl (bs : List Nat) (w : World) : KeepB bs w w := fun _ _ => rfl
theorem KeepB.trans {bs : List Nat} {a b c : World} (h : KeepB bs a b) (k : KeepB bs b c) : KeepB bs a c := fun x hx => (k x hx).trans (h x hx)
theorem KeepB.of_below {bs : List Nat} {n : Nat} {a b : World} (h : Below n a b) (hb : ∀ x ∈ bs, x < n) : KeepB bs a b := fun x hx => h.block x (hb x hx)

theorem Seg.of {w w' : World} {q : Nat} : ∀ {l : List (Nat × Wt)} {p : Nat}, Seg w q p l → KeepB (l.map Prod.fst) w w' → Seg w' q p l
  | [], _, _, _ => trivial
  | y :: r, _, h, hk => ⟨h.1.of (hk _ (by simp)), Seg.of h.2 (fun b hb => hk b (by simp only [List.map_cons, List.mem_cons]; exact .inr hb))⟩

theorem boxed_stay {X Y : World} {B : Nat} {t : TypeId} {v : Value} {row : Option Nat} (hs : Boxed X B t v) (hg : X.grownBy Y row) (hrow : ∀ r, row = some r → ∃ o : Obj, X.heap[r]? = some o ∧ o.isCells = false) : Boxed Y B t v :=
  hs.kept hg (fun e' => by obtain ⟨o, ho, hc⟩ := hrow B e'.symm; rw [show X.heap[B]? = _ from hs] at ho; cases ho; cases hc)

/-- No task twice, and each one of 16. -/
structure TasksOk (l : List (Nat × Wt)) : Prop where
  nd : (l.map fun y => y.2.task).Nodup
  rng : ∀ y ∈ l, 0 ≤ y.2.task ∧ y.2.task < 16
theorem TasksOk.few {l : List (Nat × Wt)} (h : TasksOk l) : l.length ≤ 16 := by
  have hs : (l.map fun y => y.2.task) ⊆ ((List.range 16).map fun n : Nat => (n : Int)) := by
    intro t ht
    obtain ⟨y, hy, rfl⟩ := List.mem_map.1 ht
    obtain ⟨h0, h1⟩ := h.rng y hy
    exact List.mem_map.2 ⟨y.2.task.toNat, List.mem_range.2 (by omega), by omega⟩
  have := h.nd.length_le_of_subset hs
  simpa using this

structure Ring (w : World) (q : Nat) (l : List (Nat × Wt)) : Prop where
  nodup : (qBlocks q l).Nodup
  head : ∃ va vn, QAt w q va vn l.length ∧ (l ≠ [] → va = .pointer (some ⟨lastB q l, 0, none⟩) ∧ vn = .pointer (some ⟨hdB q l, 0, none⟩))
  seg : Seg w q q l
  ts : TasksOk l

theorem Ring.of {w w' : World} {q : Nat} {l : List (Nat × Wt)} (h : Ring w q l) (hk : KeepB (qBlocks q l) w w') : Ring w' q l := by
  obtain ⟨va, vn, hq, hp⟩ := h.head
  exact ⟨h.nodup, ⟨va, vn, hq.of (hk q (by simp [qBlocks])), hp⟩, h.seg.of (fun b hb => hk b (by simp only [qBlocks, List.mem_cons]; exact .inr hb)), h.ts⟩

theorem Seg.lt {w : World} {q : Nat} : ∀ {l : List (Nat × Wt)} {p : Nat}, Seg w q p l → ∀ b ∈ l.map Prod.fst, b < w.heap.size
  | [], _, _, b, hb => by simp at hb
  | y :: r, _, h, b, hb => by
    simp only [List.map_cons, List.mem_cons] at hb
    rcases hb with rfl | hb
    · exact h.1.lt
    · exact Seg.lt h.2 b hb
theorem Ring.lt {w : World} {q : Nat} {l : List (Nat × Wt)} (h : Ring w q l) : ∀ b ∈ qBlocks q l, b < w.heap.size := by
  intro b hb
  simp only [qBlocks, List.mem_cons] at hb
  rcases hb with rfl | hb
  · obtain ⟨_, _, hq, _⟩ := h.head
    exact hq.lt
  · exact h.seg.lt b hb
theorem Ring.below {w w' : World} {q : Nat} {l : List (Nat × Wt)} (h : Ring w q l) (hb : Below w.heap.size w w') : Ring w' q l := h.of (KeepB.of_below hb h.lt)

theorem Seg.mem {w : World} {q : Nat} : ∀ {l : List (Nat × Wt)} {p : Nat}, Seg w q p l → ∀ y ∈ l, ∃ ah nx, LinkAt w y.1 y.2 ah nx
  | [], _, _, y, hy => by simp at hy
  | z :: r, p, h, y, hy => by
    rcases List.mem_cons.1 hy with rfl | hy
    · exact ⟨_, _, h.1⟩
    · exact Seg.mem h.2 y hy
theorem Seg.split {w : World} {q : Nat} : ∀ {a : List (Nat × Wt)} {p : Nat} {r : List (Nat × Wt)}, Seg w q p (a ++ r) → Seg w q (lastB p a) r
  | [], _, _, h => h
  | _ :: a, _, _, h => Seg.split (a := a) h.2
theorem Ring.ptr_ne {w : World} {q : Nat} {l : List (Nat × Wt)} (h : Ring w q l) {y : Nat × Wt} (hy : y ∈ l) : y.1 ≠ q := by
  have := h.nodup
  simp only [qBlocks, List.nodup_cons, List.mem_map] at this
  exact fun e => this.1 ⟨y, hy, e⟩

/-- Where a pointer stands in the ring: for a loop's measure. -/
def leftOf (l : List (Nat × Wt)) : Value → Nat
  | .pointer (some a) => l.length - (l.map Prod.fst).idxOf a.block
  | _ => 0
theorem leftOf_at {l pre rest : List (Nat × Wt)} {y : Nat × Wt} (hl : l = pre ++ y :: rest) (hn : (l.map Prod.fst).Nodup) : leftOf l (.pointer (some ⟨y.1, 0, none⟩)) = rest.length + 1 := by
  subst hl
  simp only [leftOf, List.map_append, List.map_cons, List.length_append, List.length_cons]
  have hm : y.1 ∉ pre.map Prod.fst := by
    simp only [List.map_append, List.map_cons, List.nodup_append] at hn
    intro hm
    exact (hn.2.2 _ hm _ List.mem_cons_self) rfl
  rw [List.idxOf_append, if_neg hm, List.idxOf_cons_self]
  simp
theorem leftOf_end {l : List (Nat × Wt)} {q : Nat} (hq : q ∉ l.map Prod.fst) : leftOf l (.pointer (some ⟨q, 0, none⟩)) = 0 := by
  simp only [leftOf]
  rw [List.idxOf_eq_length hq]
  simp
theorem qBlocks_eq (q : Nat) (l : List (Nat × Wt)) : qBlocks q l = q :: l.map Prod.fst := rfl
attribute [irreducible] hdB lastB leftOf qBlocks
end Go.Proofs.Ytkfaaeklkplhnaa
