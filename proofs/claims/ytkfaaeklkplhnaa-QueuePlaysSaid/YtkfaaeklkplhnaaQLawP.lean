/- The two queues side by side: plain facts. -/
import Derived.Test.YtkfaaeklkplhnaaQRefD
namespace Go.Proofs.Ytkfaaeklkplhnaa
open Go.RowKit Go.Shelf

theorem findW_split' {l : List (Nat × Wt)} {t : Int} {y : Nat × Wt} (h : findW l t = some y) : ∃ a r, l = a ++ y :: r ∧ l.dropWhile (fun p => decide (p.2.task ≠ t)) = y :: r ∧ (∀ z ∈ a, z.2.task ≠ t) ∧ y.2.task = t := by
  unfold findW at h
  induction l with
  | nil => simp at h
  | cons z l ih =>
    by_cases hz : z.2.task = t
    · simp [hz] at h
      subst h
      exact ⟨[], l, rfl, by simp [hz], by simp, hz⟩
    · simp [hz] at h
      obtain ⟨a, r, h1, h2, h3, h4⟩ := ih h
      refine ⟨z :: a, r, by rw [h1]; rfl, by simp [hz]; simpa using h2, fun u hu => ?_, h4⟩
      rcases List.mem_cons.1 hu with rfl | hu
      · exact hz
      · exact h3 u hu

theorem place_none {l : List (Nat × Wt)} {t : Int} (h : findW l t = none) : placeW (l.map Prod.snd) t = -1 := by
  refine placeW_none fun j hj => ?_
  unfold findW at h
  rw [List.find?_eq_none] at h
  have hj' : j < l.length := by simpa using hj
  have := h l[j] (List.getElem_mem hj')
  simpa using this
theorem place_some {a r : List (Nat × Wt)} {y : Nat × Wt} {t : Int} (ha : ∀ z ∈ a, z.2.task ≠ t) (hy : y.2.task = t) : placeW ((a ++ y :: r).map Prod.snd) t = (a.length : Int) := by
  refine placeW_at (k := a.length) (by simp) ?_ fun j hj hjk => ?_
  · simp [hy]
  · have hja : j < a.length := by omega
    have e : ((a ++ y :: r).map Prod.snd)[j] = a[j].2 := by simp [List.getElem_append_left, hja]
    rw [e]
    exact ha _ (List.getElem_mem hja)
theorem next_same (l : List (Nat × Wt)) (t : Int) : (nextW l t).map Prod.snd = nextL (l.map Prod.snd) t := by
  unfold nextL
  cases h : findW l t with
  | none =>
    rw [place_none h]
    unfold nextW
    rw [findW_none_drop h]
    cases l <;> rfl
  | some y =>
    obtain ⟨a, r, rfl, hd, ha, hy⟩ := findW_split' h
    rw [place_some ha hy]
    unfold nextW
    rw [hd]
    have : ((a.length : Int) + 1).toNat = a.length + 1 := by omega
    rw [this]
    cases r with
    | nil => simp
    | cons z r => simp
theorem tell_same (l : List (Nat × Wt)) (t : Int) : tellW (nextW l t) = tellL (nextL (l.map Prod.snd) t) := by
  rw [← next_same]
  cases nextW l t <;> rfl
theorem remove_same {a r : List (Nat × Wt)} {y : Nat × Wt} : ((a ++ y :: r).map Prod.snd).take a.length ++ ((a ++ y :: r).map Prod.snd).drop (a.length + 1) = (a ++ r).map Prod.snd := by
  have h1 : ((a ++ y :: r).map Prod.snd) = a.map Prod.snd ++ y.2 :: r.map Prod.snd := by simp
  have hl : a.length = (a.map Prod.snd).length := by simp
  rw [h1, List.map_append, hl, List.take_left', List.drop_append]
  · simp
  · rfl
theorem at_place {a r : List (Nat × Wt)} {y : Nat × Wt} (h : a.length < ((a ++ y :: r).map Prod.snd).length) : ((a ++ y :: r).map Prod.snd)[a.length] = y.2 := by simp

/-- Steps of the law, as they are read. -/
structure Stp where
  gone : Bool
  w : Wt
def StepsAt (w : World) (A : Option Addr) (l : List Stp) : Prop :=
  ∀ k (hk : k < l.length), ∃ ad, A = some ad ∧ w.cell? (ad.add (k * 5)) = some (.bool l[k].gone) ∧ w.cell? ⟨(ad.add (k * 5)).block, (ad.add (k * 5)).off + 1, none⟩ = some (.int .i64 l[k].w.task) ∧
    w.cell? ⟨(ad.add (k * 5)).block, (ad.add (k * 5)).off + 2, none⟩ = some (.int .i64 l[k].w.kind) ∧ w.cell? ⟨(ad.add (k * 5)).block, (ad.add (k * 5)).off + 3, none⟩ = some (.int .i64 l[k].w.obj) ∧ w.cell? ⟨(ad.add (k * 5)).block, (ad.add (k * 5)).off + 4, none⟩ = some (.int .u32 l[k].w.mask)
theorem StepsAt.below {w w' : World} {A : Option Addr} {l : List Stp} (h : StepsAt w A l) (hb : Below w.heap.size w w') : StepsAt w' A l := by
  intro k hk
  obtain ⟨ad, e, c0, c1, c2, c3, c4⟩ := h k hk
  exact ⟨ad, e, (hb.cell (World.block_lt_of_cell? w _ c0)).trans c0, (hb.cell (World.block_lt_of_cell? w _ c1)).trans c1, (hb.cell (World.block_lt_of_cell? w _ c2)).trans c2, (hb.cell (World.block_lt_of_cell? w _ c3)).trans c3, (hb.cell (World.block_lt_of_cell? w _ c4)).trans c4⟩

theorem Chg.below {B : Nat} {bs : List Nat} {w0 w w' : World} (h : Chg bs w w') (hb : Below B w0 w) (hB : B ≤ w.heap.size) (hbs : ∀ b ∈ bs, B ≤ b) : Below B w0 w' :=
  hb.trans ⟨h.os, h.tape, h.output, h.size, fun k hk => h.block k (by omega) (fun hm => by have := hbs k hm; omega)⟩
theorem RowW.chg {bs : List Nat} {w w' : World} {base e : Nat} {v : Value} {l : List Wt} (h : RowW w base e v l) (hc : Chg bs w w') (hn : ∀ b ∈ bs, v.ownBlock ≠ some b) : RowW w' base e v l := by
  refine ⟨h.1, ?_⟩
  rcases h.2 with h2 | ⟨g, cap, cur, rfl, hb, hh, r⟩
  · exact .inl h2
  · refine .inr ⟨g, cap, cur, rfl, hb, ?_, r⟩
    exact (hc.block g (Array.getElem?_eq_some_iff.1 hh).1 (fun hm => hn g hm rfl)).trans hh
theorem RowW.not_ring {w : World} {base e q : Nat} {v : Value} {l : List Wt} {nodes : List (Nat × Wt)} (h : RowW w base e v l) (hR : Ring w q nodes) (h1 : e ≠ 30) (h2 : e ≠ 32) : ∀ b ∈ qBlocks q nodes, v.ownBlock ≠ some b := by
  intro b hb hv
  rcases h.2 with ⟨rfl, _⟩ | ⟨g, cap, cur, rfl, _, hh, _⟩
  · simp [Value.ownBlock] at hv
  · simp [Value.ownBlock] at hv
    subst hv
    rw [qBlocks_eq] at hb
    rcases List.mem_cons.1 hb with rfl | hb
    · obtain ⟨va, vn, hq, _⟩ := hR.head
      rw [show w.heap[g]? = _ from hq] at hh
      cases hh
      exact h2 rfl
    · obtain ⟨y, hy, rfl⟩ := List.mem_map.1 hb
      obtain ⟨ah, nx, hL⟩ := hR.seg.mem y hy
      rw [show w.heap[y.1]? = _ from hL] at hh
      cases hh
      exact h1 rfl
end Go.Proofs.Ytkfaaeklkplhnaa
