/- Words bit by bit: the document's Bits, word, Has, Put, Or, And. -/
import Derived.WalkKit
import Derived.WalkSpells
import Derived.WalkLawsBesides
import Derived.LoopN
import Derived.BigQuiet
import Derived.Deep.QuietTactic
import Derived.Deep.WholeRow
import Derived.Deep.MidRow
import Derived.Deep.DeepCutAuto
import Derived.Deep.Cut
import Derived.Below
import Derived.Laws.NewBlocks
import Derived.Shelf.Abstract
import Derived.OwnWalkIn
import Derived.RowKit
import Derived.LoopTactic
import Derived.Lib.Hide
import Derived.Test.YtkfaaeklkplhnaaProg
namespace Go.Proofs.Ytkfaaeklkplhnaa
open Go.RowKit

def bitsOf (n : Nat) : List Bool := (List.range 32).map fun i => n.testBit i
def ofBits : List Bool → Nat
  | [] => 0
  | b :: l => 2 * ofBits l + b.toNat
theorem bitsOf_length (n : Nat) : (bitsOf n).length = 32 := by simp [bitsOf]
theorem bitsOf_at (n i : Nat) (h : i < 32) : (bitsOf n)[i]? = some (n.testBit i) := by simp [bitsOf, h]
theorem testBit_ofBits : ∀ (l : List Bool) (i : Nat), (ofBits l).testBit i = l.getD i false
  | [], i => by simp [ofBits]
  | b :: l, i => by
    cases i with
    | zero =>
      simp only [ofBits, Nat.testBit_zero, List.getD_cons_zero]
      cases b <;> simp [Bool.toNat]
    | succ i =>
      rw [Nat.testBit_succ]
      have : (2 * ofBits l + b.toNat) / 2 = ofBits l := by cases b <;> simp [Bool.toNat]; omega
      simp only [ofBits]
      rw [this, testBit_ofBits l i]
      simp
theorem ofBits_lt : ∀ (l : List Bool), ofBits l < 2 ^ l.length
  | [] => by simp [ofBits]
  | b :: l => by
    have := ofBits_lt l
    have hb : b.toNat ≤ 1 := by cases b <;> simp [Bool.toNat]
    simp only [ofBits, List.length_cons, Nat.pow_succ]
    omega
def putN (n i : Nat) (b : Bool) : Nat := ofBits ((bitsOf n).set i b)
theorem putN_lt (n i : Nat) (b : Bool) : putN n i b < 2 ^ 32 := by
  have := ofBits_lt ((bitsOf n).set i b)
  rwa [List.length_set, bitsOf_length] at this
theorem putN_bit (n i j : Nat) (b : Bool) (hj : j < 32) : (putN n i b).testBit j = if j = i then b else n.testBit j := by
  unfold putN
  rw [testBit_ofBits, List.getD_eq_getElem?_getD, List.getElem?_set]
  by_cases h : i = j
  · subst h
    simp [bitsOf_length, hj]
  · have h' : ¬ j = i := fun e => h e.symm
    simp [h, h', bitsOf_at n j hj]

section
variable {P : Program}
theorem run_loadBlk {w : World} {b : Nat} {t : TypeId} {c : Array Value} {n : Nat} (h : w.heap[b]? = some (.cells c t (0, 0))) (hn : c.size = n) :
    (loadCellsFrom ⟨b, 0, none⟩ 0 n #[]).run P w = .ok c w := by
  subst hn
  have := run_loadCells_list (P := P) w ⟨b, 0, none⟩ c.toList (fun j v hv => by
    have hadd : (⟨b, 0, none⟩ : Addr).add j = ⟨b, j, none⟩ := by unfold Addr.add; split <;> simp_all
    rw [hadd, cell_of_row _ _ j c t (0, 0) h]
    simpa using hv)
  simpa [loadCells] using this
end
attribute [irreducible] bitsOf ofBits putN

def boolsA (l : List Bool) : Array Value := (l.map Value.bool).toArray
theorem boolsA_size (l : List Bool) : (boolsA l).size = l.length := by simp [boolsA]
/-- What Bits has after k rounds. -/
def bitsK (n k : Nat) : List Bool := (bitsOf n).take k ++ List.replicate (32 - k) false

theorem bitsK_size (n k : Nat) (hk : k ≤ 32) : (boolsA (bitsK n k)).size = 32 := by rw [boolsA_size]; simp [bitsK, bitsOf_length]; omega
theorem bitsK_zero (n : Nat) : bitsK n 0 = List.replicate 32 false := by simp [bitsK]
theorem bitsK_all (n : Nat) : bitsK n 32 = bitsOf n := by simp [bitsK, List.take_of_length_le, bitsOf_length]
theorem bitsK_next (n k : Nat) (hk : k < 32) : (boolsA (bitsK n k)).setIfInBounds k (.bool (n.testBit k)) = boolsA (bitsK n (k + 1)) := by
  apply Array.ext_getElem?
  intro i
  have hs := bitsK_size n k (by omega)
  rw [Array.getElem?_setIfInBounds]
  simp only [hs]
  simp only [boolsA, List.getElem?_toArray, List.getElem?_map, bitsK]
  by_cases hik : k = i
  · subst hik
    rw [if_pos rfl, if_pos hk, List.getElem?_append_left (by simp [bitsOf_length]; omega), List.getElem?_take, if_pos (by omega), bitsOf_at n k hk]
    rfl
  · rw [if_neg hik]
    by_cases hlt : i < k
    · rw [List.getElem?_append_left (by simp [bitsOf_length]; omega), List.getElem?_append_left (by simp [bitsOf_length]; omega)]
      simp [hlt, show i < k + 1 by omega]
    · rw [List.getElem?_append_right (by simp [bitsOf_length]; omega), List.getElem?_append_right (by simp [bitsOf_length]; omega)]
      simp only [List.getElem?_replicate, List.length_take, bitsOf_length]
      rw [show min k 32 = k by omega, show min (k + 1) 32 = k + 1 by omega]
      by_cases h32 : i < 32
      · rw [if_pos (by omega), if_pos (by omega)]
      · rw [if_neg (by omega), if_neg (by omega)]
theorem bitsK_cell (n k : Nat) (hk : k < 32) : (boolsA (bitsK n k))[k]? = some (.bool false) := by
  simp only [boolsA, List.getElem?_toArray, List.getElem?_map, bitsK]
  rw [List.getElem?_append_right (by simp [bitsOf_length]; omega)]
  simp only [List.getElem?_replicate, List.length_take, bitsOf_length]
  rw [if_pos (by omega)]
  rfl

theorem blk_set_same {w : World} {b i : Nat} {c : Array Value} {t : TypeId} {fr : Nat × Nat} (h : w.heap[b]? = some (.cells c t fr)) (v : Value) :
    (w.setCell ⟨b, i, none⟩ v).heap[b]? = some (.cells (c.setIfInBounds i v) t fr) := by
  show (w.heap.modify b _)[b]? = _
  rw [Array.getElem?_modify, if_pos rfl, h]
  rfl
theorem blk_set_other {w : World} {b b' i : Nat} (h : b' ≠ b) (v : Value) : (w.setCell ⟨b, i, none⟩ v).heap[b']? = w.heap[b']? := Below.heap_setCell w ⟨b, i, none⟩ v b' h
theorem blk_cell {w : World} {b : Nat} {cs : Array Value} {t : TypeId} (h : w.heap[b]? = some (.cells cs t (0, 0))) (i : Nat) : w.cell? ⟨b, i, none⟩ = cs[i]? := by simp [World.cell?, h]
theorem blk_froz {w : World} {b : Nat} {cs : Array Value} {t : TypeId} (h : w.heap[b]? = some (.cells cs t (0, 0))) (i : Nat) : w.frozen? ⟨b, i, none⟩ = false := by simp [World.frozen?, h]
theorem below_setB {B b i : Nat} {w W : World} {v : Value} (hb : B ≤ b) (h : Below B w W) : Below B w (W.setCell ⟨b, i, none⟩ v) := h.setCell hb _
theorem boolsA_one (l : List Bool) : (boolsA l).all (·.oneCell') = true := by
  unfold boolsA
  rw [Array.all_eq_true_iff_forall_mem]
  intro v hv
  rw [List.mem_toArray] at hv
  obtain ⟨b, _, rfl⟩ := List.mem_map.1 hv
  rfl
theorem below_setCells {B b : Nat} (hB : B ≤ b) : ∀ (vs : List Value) (o : Nat) {w W : World}, Below B w W → Below B w (W.setCells b o vs)
  | [], _, _, _, h => h
  | v :: vs, o, _, _, h => below_setCells hB vs (o + 1) (below_setB hB h)
attribute [irreducible] bitsK boolsA
theorem bit_odd (n k : Nat) : ((((n / 2 ^ k : Nat) : Int) % 2) == 1) = n.testBit k := by
  rw [Nat.testBit_eq_decide_div_mod_eq]
  have h : (((n / 2 ^ k : Nat) : Int) % 2) = ((n / 2 ^ k % 2 : Nat) : Int) := by omega
  rw [h]
  by_cases h2 : n / 2 ^ k % 2 = 1
  · rw [h2]; rfl
  · have : n / 2 ^ k % 2 = 0 := by omega
    rw [this]; rfl
theorem div_next (n k : Nat) : ((n / 2 ^ k : Nat) : Int) / 2 = ((n / 2 ^ (k + 1) : Nat) : Int) := by
  rw [Nat.pow_succ, ← Nat.div_div_eq_div_mul]
  omega
theorem bits_list (n : Nat) : boolsA (bitsOf n) = #[.bool (n.testBit 0), .bool (n.testBit 1), .bool (n.testBit 2), .bool (n.testBit 3), .bool (n.testBit 4), .bool (n.testBit 5), .bool (n.testBit 6), .bool (n.testBit 7), .bool (n.testBit 8), .bool (n.testBit 9), .bool (n.testBit 10), .bool (n.testBit 11), .bool (n.testBit 12), .bool (n.testBit 13), .bool (n.testBit 14), .bool (n.testBit 15), .bool (n.testBit 16), .bool (n.testBit 17), .bool (n.testBit 18), .bool (n.testBit 19), .bool (n.testBit 20), .bool (n.testBit 21), .bool (n.testBit 22), .bool (n.testBit 23), .bool (n.testBit 24), .bool (n.testBit 25), .bool (n.testBit 26), .bool (n.testBit 27), .bool (n.testBit 28), .bool (n.testBit 29), .bool (n.testBit 30), .bool (n.testBit 31)] := by
  unfold boolsA bitsOf
  rfl

set_option maxHeartbeats 1000000 in
theorem bits_calls (n : Nat) (hn : n < 2 ^ 32) (w : World) :
    Calls Try.prog 93 #[.int .u32 n] w fun e W' => e = .returned (.agg (boolsA (bitsOf n))) ∧ Below w.heap.size w W' := by
  go_enter Try.func93, Try.ntmps93
  go_wp2
  go_loopw [0, 4] (fun t i wr => ∃ k : Nat, k ≤ 32 ∧ i = .int .i64 k ∧ t = .int .u32 ((n / 2 ^ k : Nat) : Int) ∧ wr.heap[w.heap.size]? = some (.cells (boolsA (bitsK n 0)) 173 (0, 0)) ∧
    wr.heap[w.heap.size + 1]? = some (.cells (boolsA (bitsK n k)) 173 (0, 0)) ∧ Below w.heap.size w wr) (fun _ i _ => 32 - (intOf i).toNat)
  case atStart =>
    refine ⟨0, by omega, rfl, by simp, ?_, ?_, ?_⟩
    · rw [bitsK_zero, show boolsA (List.replicate 32 false) = #[.bool false, .bool false, .bool false, .bool false, .bool false, .bool false, .bool false, .bool false, .bool false, .bool false, .bool false, .bool false, .bool false, .bool false, .bool false, .bool false, .bool false, .bool false, .bool false, .bool false, .bool false, .bool false, .bool false, .bool false, .bool false, .bool false, .bool false, .bool false, .bool false, .bool false, .bool false, .bool false] by unfold boolsA; rfl]
      exact (Below.heap_alloc _ _ _ (by simp)).trans (heap_alloc_last w _)
    · rw [bitsK_zero, show boolsA (List.replicate 32 false) = #[.bool false, .bool false, .bool false, .bool false, .bool false, .bool false, .bool false, .bool false, .bool false, .bool false, .bool false, .bool false, .bool false, .bool false, .bool false, .bool false, .bool false, .bool false, .bool false, .bool false, .bool false, .bool false, .bool false, .bool false, .bool false, .bool false, .bool false, .bool false, .bool false, .bool false, .bool false, .bool false] by unfold boolsA; rfl]
      have := heap_alloc_last (w.alloc (.cells #[.bool false, .bool false, .bool false, .bool false, .bool false, .bool false, .bool false, .bool false, .bool false, .bool false, .bool false, .bool false, .bool false, .bool false, .bool false, .bool false, .bool false, .bool false, .bool false, .bool false, .bool false, .bool false, .bool false, .bool false, .bool false, .bool false, .bool false, .bool false, .bool false, .bool false, .bool false, .bool false] 173)) (.cells #[.bool false, .bool false, .bool false, .bool false, .bool false, .bool false, .bool false, .bool false, .bool false, .bool false, .bool false, .bool false, .bool false, .bool false, .bool false, .bool false, .bool false, .bool false, .bool false, .bool false, .bool false, .bool false, .bool false, .bool false, .bool false, .bool false, .bool false, .bool false, .bool false, .bool false, .bool false, .bool false] 173)
      rwa [World.size_alloc] at this
    · exact ((Below.refl _ w).alloc (Nat.le_refl _) _).alloc (by simp) _
  case round =>
    obtain ⟨k, hk, rfl, rfl, h0, h1, hb⟩ := hrel
    by_cases hlt : k < 32
    · have hc := (blk_cell h1 k).trans (bitsK_cell n k hlt)
      have hf := blk_froz h1 k
      have hltz : ((k : Int) < 32) := by omega
      have hx : ((n / 2 ^ k : Nat) : Int) < 4294967296 := by
        have : n / 2 ^ k ≤ n := Nat.div_le_self _ _
        omega
      generalize hm : n / 2 ^ k = m at *
      go_wp2
      rw [hm.symm] 
      refine ⟨⟨k + 1, by omega, by rfl, by rw [div_next], ?_, ?_, ?_⟩, ?_⟩
      · exact (blk_set_other (by omega) _).trans h0
      · rw [bit_odd, ← bitsK_next n k hlt]; exact blk_set_same h1 _
      · exact hb.setCell (by show w.heap.size ≤ w.heap.size + 1; omega) _
      · simp [intOf]; omega
    · have hk32 : k = 32 := by omega
      subst hk32
      rw [bitsK_all] at h1
      have hinf : (Try.prog.info? 173).map (·.size) = some (boolsA (bitsOf n)).toList.length := by
        rw [Array.length_toList, boolsA_size, bitsOf_length]
        kernel_rfl
      have hra : wr.rangeAt (w.heap.size + 1) 0 (boolsA (bitsOf n)).toList := fun j v hv => by
        rw [Nat.zero_add, blk_cell h1 j]
        simpa using hv
      have hth : wr.there w.heap.size 0 (boolsA (bitsOf n)).size := fun j hj => by
        rw [Nat.zero_add, blk_cell h0 j]
        rw [boolsA_size, bitsOf_length] at hj
        have hs := bitsK_size n 0 (by omega)
        exact ⟨by rw [Array.getElem?_eq_getElem (by omega)]; rfl, blk_froz h0 j⟩
      have h1a : (boolsA (bitsOf n)).all (·.oneCell') = true := boolsA_one _
      go_upto_region 7 with fail
      refine wp_region_lit ?_
      refine wpList_load_mid rfl _ _ rfl (w.heap.size + 1) 0 rfl (boolsA (bitsOf n)).toList _ hra Try.underlying173 rfl hinf ?_
      rw [Array.toArray_toList]
      refine wpList_store_mid rfl _ _ _ rfl w.heap.size 0 (boolsA (bitsOf n)) rfl rfl hth (by rw [hinf, Array.length_toList]) h1a ?_
      refine wpList_nil ?_
      have hend : (wr.setCells w.heap.size 0 (boolsA (bitsOf n)).toList).rangeAt w.heap.size 0 (boolsA (bitsOf n)).toList := World.rangeAt_setCells_same _ _ _ _ (by rw [Array.length_toList]; exact hth)
      have hbe : Below w.heap.size w (wr.setCells w.heap.size 0 (boolsA (bitsOf n)).toList) := below_setCells (Nat.le_refl _) _ _ hb
      generalize wr.setCells w.heap.size 0 (boolsA (bitsOf n)).toList = W at hend hbe
      go_wp2
      refine bodyPost_ret (v := .agg (boolsA (bitsOf n))) ?_ rfl ⟨rfl, hbe⟩
      have hlv := run_loadVar_mid (P := Try.prog) W w.heap.size 0 173 _ _ hend Try.underlying173 rfl hinf
      rw [Array.toArray_toList] at hlv
      simp [results, Try.results93, asAddr, Result.andThen, Act.put, hlv]

end Go.Proofs.Ytkfaaeklkplhnaa
