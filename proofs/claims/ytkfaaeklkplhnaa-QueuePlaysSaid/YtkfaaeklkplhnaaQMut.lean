/- What a store turns in a ring. -/
import Derived.Test.YtkfaaeklkplhnaaQOps
namespace Go.Proofs.Ytkfaaeklkplhnaa
open Go.RowKit Go.Shelf

theorem heap_set_same {w : World} {b i : Nat} {c : Array Value} {t : TypeId} {fr : Nat × Nat} (h : w.heap[b]? = some (.cells c t fr)) (v : Value) :
    (w.setCell ⟨b, i, none⟩ v).heap[b]? = some (.cells (c.setIfInBounds i v) t fr) := by
  simp [World.setCell, Array.getElem?_modify, h]
theorem heap_set_other {w : World} {b b' i : Nat} (h : b' ≠ b) (v : Value) : (w.setCell ⟨b, i, none⟩ v).heap[b']? = w.heap[b']? := Below.heap_setCell w ⟨b, i, none⟩ v b' h

theorem LinkAt.set5 {w : World} {b : Nat} {x : Wt} {ah nx : Nat} (h : LinkAt w b x ah nx) (e : Nat) : LinkAt (w.setCell ⟨b, 5, none⟩ (.pointer (some ⟨e, 0, none⟩))) b x ah e :=
  (heap_set_same h _).trans rfl
theorem LinkAt.set4 {w : World} {b : Nat} {x : Wt} {ah nx : Nat} (h : LinkAt w b x ah nx) (e : Nat) : LinkAt (w.setCell ⟨b, 4, none⟩ (.pointer (some ⟨e, 0, none⟩))) b x e nx :=
  (heap_set_same h _).trans rfl
theorem LinkAt.far {w : World} {b : Nat} {x : Wt} {ah nx : Nat} (h : LinkAt w b x ah nx) {b' i : Nat} (hne : b ≠ b') (v : Value) : LinkAt (w.setCell ⟨b', i, none⟩ v) b x ah nx :=
  h.of (heap_set_other hne v)
theorem QAt.set4 {w : World} {q : Nat} {va vn : Value} {n : Int} (h : QAt w q va vn n) (v : Value) : QAt (w.setCell ⟨q, 4, none⟩ v) q v vn n := (heap_set_same h _).trans rfl
theorem QAt.set5 {w : World} {q : Nat} {va vn : Value} {n : Int} (h : QAt w q va vn n) (v : Value) : QAt (w.setCell ⟨q, 5, none⟩ v) q va v n := (heap_set_same h _).trans rfl
theorem QAt.set6 {w : World} {q : Nat} {va vn : Value} {n : Int} (h : QAt w q va vn n) (m : Int) : QAt (w.setCell ⟨q, 6, none⟩ (.int .i64 m)) q va vn m := (heap_set_same h _).trans rfl
theorem QAt.far {w : World} {q : Nat} {va vn : Value} {n : Int} (h : QAt w q va vn n) {b' i : Nat} (hne : q ≠ b') (v : Value) : QAt (w.setCell ⟨b', i, none⟩ v) q va vn n := h.of (heap_set_other hne v)

theorem Seg.far {w : World} {e p : Nat} {l : List (Nat × Wt)} (h : Seg w e p l) {b i : Nat} (hb : b ∉ l.map Prod.fst) (v : Value) : Seg (w.setCell ⟨b, i, none⟩ v) e p l :=
  h.of (fun c hc => heap_set_other (fun (he : c = b) => hb (he ▸ hc)) v)
theorem hdB_append (e : Nat) (a b : List (Nat × Wt)) : hdB e (a ++ b) = hdB (hdB e b) a := by
  cases a with
  | nil => rw [hdB_nil]; rfl
  | cons y a => rw [hdB_cons]; exact hdB_cons _ _ _
theorem lastB_append (p : Nat) (a b : List (Nat × Wt)) : lastB p (a ++ b) = lastB (lastB p a) b := by
  induction a generalizing p with
  | nil => rw [lastB_nil]; rfl
  | cons y a ih => rw [List.cons_append, lastB_cons, lastB_cons]; exact ih _
theorem Seg.append {w : World} {e p : Nat} {a b : List (Nat × Wt)} : Seg w e p (a ++ b) ↔ Seg w (hdB e b) p a ∧ Seg w e (lastB p a) b := by
  induction a generalizing p with
  | nil => simp [Seg, lastB_nil]
  | cons y a ih => simp [Seg, lastB_cons, ih, hdB_append, and_assoc]
theorem lastB_mem {a : List (Nat × Wt)} (h : a ≠ []) (p : Nat) : lastB p a ∈ a.map Prod.fst := by
  induction a generalizing p with
  | nil => exact absurd rfl h
  | cons y a ih =>
    rw [lastB_cons]
    cases a with
    | nil => rw [lastB_nil]; simp
    | cons z a => exact List.mem_cons_of_mem _ (ih (by simp) _)
theorem hdB_mem {a : List (Nat × Wt)} (h : a ≠ []) (p : Nat) : hdB p a ∈ a.map Prod.fst := by
  cases a with
  | nil => exact absurd rfl h
  | cons y a => rw [hdB_cons]; simp
/-- The last link's next is turned. -/
theorem Seg.setLast {w : World} {e e' : Nat} : ∀ {a : List (Nat × Wt)} {p : Nat}, a ≠ [] → (a.map Prod.fst).Nodup → Seg w e p a → Seg (w.setCell ⟨lastB p a, 5, none⟩ (.pointer (some ⟨e', 0, none⟩))) e' p a
  | [], _, h, _, _ => absurd rfl h
  | [y], p, _, _, h => by
    rw [lastB_cons, lastB_nil]
    refine ⟨?_, trivial⟩
    rw [hdB_nil]
    exact h.1.set5 e'
  | y :: z :: a, p, _, hn, h => by
    rw [lastB_cons]
    have hm := lastB_mem (a := z :: a) (by simp) y.1
    have hne : y.1 ≠ lastB y.1 (z :: a) := by
      intro he
      rw [List.map_cons, List.nodup_cons] at hn
      exact hn.1 (he ▸ hm)
    refine ⟨?_, ?_⟩
    · have h1 := h.1
      rw [hdB_cons] at h1 ⊢
      exact h1.far hne _
    · rw [List.map_cons, List.nodup_cons] at hn
      exact Seg.setLast (by simp) hn.2 h.2
/-- The first link's ahead is turned. -/
theorem Seg.setHead {w : World} {e p p' : Nat} {a : List (Nat × Wt)} (ha : a ≠ []) (hn : (a.map Prod.fst).Nodup) (h : Seg w e p a) : Seg (w.setCell ⟨hdB e a, 4, none⟩ (.pointer (some ⟨p', 0, none⟩))) e p' a := by
  cases a with
  | nil => exact absurd rfl ha
  | cons y a =>
    rw [List.map_cons, List.nodup_cons] at hn
    rw [hdB_cons]
    exact ⟨h.1.set4 p', h.2.far hn.1 _⟩

theorem TasksOk.unlink {a r : List (Nat × Wt)} {y : Nat × Wt} (h : TasksOk (a ++ y :: r)) : TasksOk (a ++ r) := by
  refine ⟨h.nd.sublist ?_, fun z hz => h.rng z ?_⟩
  · exact (List.Sublist.append_left (List.sublist_cons_self y r) a).map _
  · rcases List.mem_append.1 hz with hz | hz
    · exact List.mem_append_left _ hz
    · exact List.mem_append_right _ (List.mem_cons_of_mem _ hz)
/-- A link is taken out. -/
theorem Ring.unlink {w : World} {q : Nat} {a r : List (Nat × Wt)} {y : Nat × Wt} (h : Ring w q (a ++ y :: r)) :
    Ring (((w.setCell ⟨lastB q a, 5, none⟩ (.pointer (some ⟨hdB q r, 0, none⟩))).setCell ⟨hdB q r, 4, none⟩ (.pointer (some ⟨lastB q a, 0, none⟩))).setCell ⟨q, 6, none⟩ (.int .i64 (((a ++ y :: r).length : Int) - 1))) q (a ++ r) := by
  obtain ⟨hnd, ⟨va, vn, hq, hp⟩, hs, ht⟩ := h
  obtain ⟨rfl, rfl⟩ := hp (by simp)
  rw [qBlocks_eq, List.nodup_cons, List.map_append, List.map_cons] at hnd
  obtain ⟨hqn, hnd⟩ := hnd
  have hnd' := hnd
  rw [List.nodup_append, List.nodup_cons] at hnd
  obtain ⟨hna, ⟨hyr, hnr⟩, hdis⟩ := hnd
  obtain ⟨hsa, hly, hsr⟩ := Seg.append.1 hs
  rw [hdB_cons] at hsa
  have hqa : q ∉ a.map Prod.fst := fun hm => hqn (List.mem_append_left _ hm)
  have hqr : q ∉ r.map Prod.fst := fun hm => hqn (List.mem_append_right _ (List.mem_cons_of_mem _ hm))
  have har : ∀ b ∈ a.map Prod.fst, b ∉ r.map Prod.fst := fun b hb hr => hdis b hb b (List.mem_cons_of_mem _ hr) rfl
  have hla : lastB q a ∉ r.map Prod.fst := by
    by_cases e : a = []
    · rw [e, lastB_nil]; exact hqr
    · exact har _ (lastB_mem e q)
  have hhr : hdB q r ∉ a.map Prod.fst := by
    by_cases e : r = []
    · rw [e, hdB_nil]; exact hqa
    · exact fun hm => har _ hm (hdB_mem e q)
  -- the first store
  have s1 : Seg (w.setCell ⟨lastB q a, 5, none⟩ (.pointer (some ⟨hdB q r, 0, none⟩))) (hdB q r) q a := by
    by_cases e : a = []
    · subst e; trivial
    · exact Seg.setLast e hna hsa
  have s2 : Seg (w.setCell ⟨lastB q a, 5, none⟩ (.pointer (some ⟨hdB q r, 0, none⟩))) q y.1 r := hsr.far hla _
  have q1 : QAt (w.setCell ⟨lastB q a, 5, none⟩ (.pointer (some ⟨hdB q r, 0, none⟩))) q (.pointer (some ⟨lastB q (a ++ y :: r), 0, none⟩)) (.pointer (some ⟨hdB q (a ++ r), 0, none⟩)) ((a ++ y :: r).length) := by
    by_cases e : a = []
    · subst e
      have := hq.set5 (.pointer (some ⟨hdB q r, 0, none⟩))
      rwa [lastB_nil]
    · have := hq.far (b' := lastB q a) (i := 5) (fun he => hqa (he ▸ lastB_mem e q)) (.pointer (some ⟨hdB q r, 0, none⟩))
      rw [hdB_append] at this ⊢
      cases a with
      | nil => exact absurd rfl e
      | cons z a => rwa [hdB_cons] at this ⊢
  generalize w.setCell ⟨lastB q a, 5, none⟩ (.pointer (some ⟨hdB q r, 0, none⟩)) = w1 at *
  have s3 : Seg (w1.setCell ⟨hdB q r, 4, none⟩ (.pointer (some ⟨lastB q a, 0, none⟩))) (hdB q r) q a := s1.far hhr _
  have s4 : Seg (w1.setCell ⟨hdB q r, 4, none⟩ (.pointer (some ⟨lastB q a, 0, none⟩))) q (lastB q a) r := by
    by_cases e : r = []
    · subst e; trivial
    · exact Seg.setHead e hnr s2
  have q2 : QAt (w1.setCell ⟨hdB q r, 4, none⟩ (.pointer (some ⟨lastB q a, 0, none⟩))) q (.pointer (some ⟨lastB q (a ++ r), 0, none⟩)) (.pointer (some ⟨hdB q (a ++ r), 0, none⟩)) ((a ++ y :: r).length) := by
    by_cases e : r = []
    · subst e
      rw [hdB_nil, List.append_nil] at *
      exact q1.set4 _
    · have := q1.far (b' := hdB q r) (i := 4) (fun he => hqr (he ▸ hdB_mem e q)) (.pointer (some ⟨lastB q a, 0, none⟩))
      rw [lastB_append, lastB_cons] at this
      rw [lastB_append]
      cases r with
      | nil => exact absurd rfl e
      | cons z r => rwa [lastB_cons] at this ⊢
  generalize w1.setCell ⟨hdB q r, 4, none⟩ (.pointer (some ⟨lastB q a, 0, none⟩)) = w2 at *
  have el : (((a ++ y :: r).length : Int) - 1) = ((a ++ r).length : Int) := by simp only [List.length_append, List.length_cons]; omega
  rw [el]
  refine ⟨?_, ⟨_, _, q2.set6 _, fun _ => ⟨rfl, rfl⟩⟩, ?_, ht.unlink⟩
  · rw [qBlocks_eq, List.nodup_cons, List.map_append, List.nodup_append]
    exact ⟨fun hm => (List.mem_append.1 hm).elim hqa hqr, hna, hnr, fun b hb c hc he => har b hb (he ▸ hc)⟩
  · exact Seg.append.2 ⟨s3.far hqa _, s4.far hqr _⟩

theorem TasksOk.link {l : List (Nat × Wt)} {x : Wt} (b : Nat) (h : TasksOk l) (h0 : 0 ≤ x.task) (h1 : x.task < 16) (hf : findW l x.task = none) : TasksOk (l ++ [(b, x)]) := by
  refine ⟨?_, fun z hz => ?_⟩
  · rw [List.map_append, List.nodup_append]
    refine ⟨h.nd, by simp, fun t ht u hu he => ?_⟩
    unfold findW at hf
    rw [List.find?_eq_none] at hf
    obtain ⟨y, hy, rfl⟩ := List.mem_map.1 ht
    have := hf y hy
    simp at hu
    subst hu
    exact this (by simpa using he)
  · rcases List.mem_append.1 hz with hz | hz
    · exact h.rng z hz
    · simp at hz
      subst hz
      exact ⟨h0, h1⟩

/-- A link is put at the end: q's ahead and next are laid, if there was none. -/
theorem Ring.link {w : World} {q : Nat} {l : List (Nat × Wt)} {x : Wt} (h : Ring w q l) (hq : QAt w q (.pointer (some ⟨lastB q l, 0, none⟩)) (.pointer (some ⟨hdB q l, 0, none⟩)) l.length)
    {W : World} (hb : Below w.heap.size w W) {b : Nat} (hbw : w.heap.size ≤ b) (hx : LinkAt W b x (lastB q l) q) (h0 : 0 ≤ x.task) (h1 : x.task < 16) (hf : findW l x.task = none) :
    Ring (((W.setCell ⟨lastB q l, 5, none⟩ (.pointer (some ⟨b, 0, none⟩))).setCell ⟨q, 4, none⟩ (.pointer (some ⟨b, 0, none⟩))).setCell ⟨q, 6, none⟩ (.int .i64 ((l.length : Int) + 1))) q (l ++ [(b, x)]) := by
  have hlt := h.lt
  obtain ⟨hnd, _, hs, ht⟩ := h.below hb
  have hqW : QAt W q (.pointer (some ⟨lastB q l, 0, none⟩)) (.pointer (some ⟨hdB q l, 0, none⟩)) l.length := hq.of (hb.block q hq.lt)
  have hnd0 := hnd
  rw [qBlocks_eq, List.nodup_cons] at hnd
  obtain ⟨hqn, hnl⟩ := hnd
  have hbq : q ≠ b := by have := hlt q (by rw [qBlocks_eq]; exact List.mem_cons_self); omega
  have hbl : b ∉ l.map Prod.fst := fun hm => by have := hlt b (by rw [qBlocks_eq]; exact List.mem_cons_of_mem _ hm); omega
  have hlb : b ≠ lastB q l := by
    by_cases e : l = []
    · rw [e, lastB_nil]; exact fun e => hbq e.symm
    · exact fun he => hbl (he ▸ lastB_mem e q)
  have s1 : Seg (W.setCell ⟨lastB q l, 5, none⟩ (.pointer (some ⟨b, 0, none⟩))) b q l := by
    by_cases e : l = []
    · subst e; trivial
    · exact Seg.setLast e hnl hs
  have x1 : LinkAt (W.setCell ⟨lastB q l, 5, none⟩ (.pointer (some ⟨b, 0, none⟩))) b x (lastB q l) q := hx.far hlb _
  have q1 : QAt (W.setCell ⟨lastB q l, 5, none⟩ (.pointer (some ⟨b, 0, none⟩))) q (.pointer (some ⟨lastB q l, 0, none⟩)) (.pointer (some ⟨hdB q (l ++ [(b, x)]), 0, none⟩)) l.length := by
    by_cases e : l = []
    · subst e
      have := hqW.set5 (.pointer (some ⟨b, 0, none⟩))
      rw [lastB_nil] at this ⊢
      simpa [hdB_cons] using this
    · have := hqW.far (b' := lastB q l) (i := 5) (fun he => hqn (he ▸ lastB_mem e q)) (.pointer (some ⟨b, 0, none⟩))
      rw [hdB_append]
      cases l with
      | nil => exact absurd rfl e
      | cons z a => rwa [hdB_cons] at this ⊢
  generalize W.setCell ⟨lastB q l, 5, none⟩ (.pointer (some ⟨b, 0, none⟩)) = w1 at *
  have q2 := (q1.set4 (.pointer (some ⟨b, 0, none⟩))).set6 ((l.length : Int) + 1)
  have hlq : lastB q (l ++ [(b, x)]) = b := by rw [lastB_append, lastB_cons, lastB_nil]
  have el : ((l.length : Int) + 1) = ((l ++ [(b, x)]).length : Int) := by simp
  refine ⟨?_, ⟨_, _, ?_, fun _ => ⟨rfl, rfl⟩⟩, ?_, ht.link b h0 h1 hf⟩
  · rw [qBlocks_eq, List.nodup_cons, List.map_append, List.nodup_append]
    exact ⟨fun hm => (List.mem_append.1 hm).elim hqn (fun hm => by simp at hm; exact hbq hm), hnl, by simp, fun c hc d hd he => by simp at hd; subst hd; exact hbl (he ▸ hc)⟩
  · rw [hlq, ← el]
    exact q2
  · refine Seg.append.2 ⟨?_, ?_, trivial⟩
    · rw [hdB_cons]
      exact (s1.far hqn _).far hqn _
    · rw [hdB_nil]
      exact (x1.far (fun e => hbq e.symm) _).far (fun e => hbq e.symm) _
end Go.Proofs.Ytkfaaeklkplhnaa
