/- Words bit by bit: Has, word, Put, bits. -/
import Derived.Test.YtkfaaeklkplhnaaWBits
namespace Go.Proofs.Ytkfaaeklkplhnaa
open Go.RowKit

theorem ret_bool {a b : Bool} (h : a = b) : Ending.returned (.bool a) = .returned (.bool b) := by rw [h]
theorem ret_u32 {a b : Int} (h : a = b) : Ending.returned (.int .u32 a) = .returned (.int .u32 b) := by rw [h]
theorem arr32 : Try.prog.cellsOf 4 = 1 := by kernel_rfl
theorem run_index_bits {C : Array Value} {i : Nat} {b : Bool} (hi : i < 32) (hC : C[i]? = some (.bool b)) (W : World) :
    (Instr.index 173 (.agg C) (.int .i64 i)).run Try.prog W = .ok (.bool b) W := by
  have h0 : (0 : Int) ≤ (i : Int) := by omega
  have h1 : (i : Int) < 32 := by omega
  simp [Instr.index, run_underlying Try.underlying173, asIntOf, go_sem, h0, hi, hC]
set_option maxRecDepth 100000 in
set_option maxHeartbeats 1000000 in
theorem has_calls (n i : Nat) (hn : n < 2 ^ 32) (hi : i < 32) (w : World) :
    Calls Try.prog 88 #[.int .u32 n, .int .i64 i] w fun e W' => e = .returned (.bool (n.testBit i)) ∧ Below w.heap.size w W' := by
  have hiz : (i : Int) < 32 := by omega
  have hsz : (boolsA (bitsOf n)).size = 32 := by rw [boolsA_size, bitsOf_length]
  have hat : (boolsA (bitsOf n))[i]? = some (.bool (n.testBit i)) := by
    unfold boolsA
    rw [List.getElem?_toArray, List.getElem?_map, bitsOf_at n i hi]
    rfl
  have HB := bits_calls n hn w
  generalize boolsA (bitsOf n) = C at HB hsz hat
  generalize n.testBit i = b at hat ⊢
  have hix := run_index_bits hi hat
  go_enter Try.func88, Try.ntmps88
  go_wp2_with (go_at_call 93; refine HB.mono ?_; rintro e w1 ⟨rfl, hb1⟩)
  go_ret
  exact ⟨rfl, hb1⟩

set_option maxHeartbeats 1000000 in
theorem word_calls (l : List Bool) (hl : l.length = 32) (w : World) :
    Calls Try.prog 94 #[.agg (boolsA l)] w fun e W' => e = .returned (.int .u32 (ofBits l)) ∧ Below w.heap.size w W' := by
  have hlt := ofBits_lt l
  go_enter Try.func94, Try.ntmps94
  go_wp2
  go_loop [3, 4] (fun t i => ∃ k : Nat, k ≤ 32 ∧ i = .int .i64 ((k : Int) - 1) ∧ t = .int .u32 ((ofBits (l.drop k) : Nat) : Int)) (fun _ i => (intOf i + 1).toNat)
  case atStart => exact ⟨32, by omega, rfl, by rw [List.drop_of_length_le (by omega)]; unfold ofBits; rfl⟩
  case round =>
    obtain ⟨k, hk, rfl, rfl⟩ := hrel
    cases k with
    | zero =>
      rw [List.drop_zero]
      go_wp2
      go_ret
      exact ⟨rfl, (Below.refl _ w).alloc (Nat.le_refl _) _⟩
    | succ k =>
      have hkl : k < l.length := by omega
      have hcell : (w.alloc (.cells (boolsA l) 173)).cell? ⟨w.heap.size, k, none⟩ = some (.bool l[k]) := by
        rw [blk_cell (heap_alloc_last w _) k]
        unfold boolsA
        simp [hkl]
      have hd : ofBits (l.drop k) = 2 * ofBits (l.drop (k + 1)) + (l[k]).toNat := by
        rw [List.drop_eq_getElem_cons hkl]
        conv => lhs; unfold ofBits
      have hm := ofBits_lt (l.drop (k + 1))
      have hm2 : 2 ^ (l.drop (k + 1)).length ≤ 2 ^ 31 := Nat.pow_le_pow_right (by omega) (by rw [List.length_drop]; omega)
      have hm3 : ofBits (l.drop (k + 1)) < 2147483648 := by omega
      clear hm hm2 hlt
      generalize ofBits (l.drop (k + 1)) = m at *
      have hk1 : (((k + 1 : Nat) : Int) - 1) = (k : Int) := by omega
      rw [hk1]
      have hk32 : (k : Int) < 32 := by omega
      have hm4 : (m : Int) * 2 < 4294967296 := by omega
      have hm5 : (m : Int) * 2 + 1 < 4294967296 := by omega
      have hm6 : (0 : Int) ≤ (m : Int) * 2 := by omega
      generalize hb : l[k] = b at hcell hd
      clear hb
      have Hd := Lib.hid hd
      clear hd hk1
      cases b
      · go_wp2
        refine ⟨⟨k, by omega, rfl, ?_⟩, by simp [intOf]⟩
        rw [Hd.out]
        simp [Bool.toNat]
        omega
      · go_wp2
        refine ⟨⟨k, by omega, rfl, ?_⟩, by simp [intOf]⟩
        rw [Hd.out]
        simp [Bool.toNat]
        omega

theorem boolsA_set (l : List Bool) (i : Nat) (b : Bool) : (boolsA l).setIfInBounds i (.bool b) = boolsA (l.set i b) := by
  unfold boolsA
  simp

set_option maxHeartbeats 1000000 in
theorem put_calls (n i : Nat) (b : Bool) (hn : n < 2 ^ 32) (hi : i < 32) (w : World) :
    Calls Try.prog 89 #[.int .u32 n, .int .i64 i, .bool b] w fun e W' => e = .returned (.int .u32 (putN n i b)) ∧ Below w.heap.size w W' := by
  have hiz : (i : Int) < 32 := by omega
  have hv : putN n i b = ofBits ((bitsOf n).set i b) := by unfold putN; rfl
  have hlen := bitsOf_length n
  have hsz : (boolsA (bitsOf n)).size = 32 := by rw [boolsA_size, hlen]
  have hinf : (Try.prog.info? 173).map (·.size) = some (boolsA (bitsOf n)).size := by rw [hsz]; kernel_rfl
  have hsc : ∀ W : World, (storeCells ⟨W.heap.size, 0, none⟩ (boolsA (bitsOf n)).toList 0).run Try.prog (W.alloc (.cells #[.bool false, .bool false, .bool false, .bool false, .bool false, .bool false, .bool false, .bool false, .bool false, .bool false, .bool false, .bool false, .bool false, .bool false, .bool false, .bool false, .bool false, .bool false, .bool false, .bool false, .bool false, .bool false, .bool false, .bool false, .bool false, .bool false, .bool false, .bool false, .bool false, .bool false, .bool false, .bool false] 173)) = .ok () (W.alloc (.cells (boolsA (bitsOf n)) 173)) := fun W =>
    run_storeCells_new W 173 _ _ hinf (by rw [hsz]; rfl) (boolsA_one _)
  go_enter Try.func89, Try.ntmps89
  go_upto_region 2 with (go_at_call 93; refine (bits_calls n hn _).mono ?_; rintro e w1 ⟨rfl, hb1⟩)
  have hat := heap_alloc_last w1 (.cells (boolsA (bitsOf n)) 173)
  have hbw : Below w.heap.size w (w1.alloc (.cells (boolsA (bitsOf n)) 173)) := hb1.alloc hb1.size _
  have hge : w.heap.size ≤ w1.heap.size := hb1.size
  generalize w1.alloc (.cells (boolsA (bitsOf n)) 173) = W at hat hbw ⊢
  generalize w1.heap.size = q at hat hge ⊢
  have hc : W.cell? ⟨q, i, none⟩ = some (.bool ((bitsOf n)[i]'(by rw [hlen]; exact hi))) := by
    rw [blk_cell hat i]
    unfold boolsA
    simp [hlen, hi]
  have hf := blk_froz hat i
  have hset := blk_set_same (i := i) hat (.bool b)
  rw [boolsA_set] at hset
  have hbs : Below w.heap.size w (W.setCell ⟨q, i, none⟩ (.bool b)) := below_setB hge hbw
  have hlen2 : ((bitsOf n).set i b).length = 32 := by rw [List.length_set, hlen]
  clear hsc hsz hinf hat hbw hb1
  go_upto_region 4 with fail
  generalize W.setCell ⟨q, i, none⟩ (.bool b) = W2 at hset hbs ⊢
  have hinf2 : (Try.prog.info? 173).map (·.size) = some (boolsA ((bitsOf n).set i b)).toList.length := by rw [Array.length_toList, boolsA_size, hlen2]; kernel_rfl
  have hra : W2.rangeAt q 0 (boolsA ((bitsOf n).set i b)).toList := fun j v hv => by
    rw [Nat.zero_add, blk_cell hset j]
    simpa using hv
  refine wp_region_lit ?_
  refine wpList_load_mid rfl _ _ rfl q 0 rfl (boolsA ((bitsOf n).set i b)).toList _ hra Try.underlying173 rfl hinf2 ?_
  rw [Array.toArray_toList]
  simp only [Act.put, List.setIfInBounds_toArray, List.set_cons_zero, List.set_cons_succ]
  have HW := word_calls _ hlen2 W2
  rw [← hv] at HW
  go_wp2_with fail
  refine HW.mono ?_
  rintro e w3 ⟨rfl, hb3⟩
  go_wp2
  go_ret
  exact ⟨by rw [hv]; rfl, hbs.trans (hb3.mono hbs.size)⟩

def orAnd (o : Bool) (a b : Nat) : Nat := if o then a ||| b else a &&& b
def bitF (o x y : Bool) : Bool := x && y || o && (x || y)
theorem orAnd_of {o : Bool} {a b m : Nat} (ha : a < 2 ^ 32) (hb : b < 2 ^ 32) (hm : m < 2 ^ 32) (h : ∀ j, j < 32 → m.testBit j = bitF o (a.testBit j) (b.testBit j)) : m = orAnd o a b := by
  have hor : a ||| b < 2 ^ 32 := Nat.or_lt_two_pow ha hb
  have hand : a &&& b < 2 ^ 32 := Nat.and_lt_two_pow a hb
  apply Nat.eq_of_testBit_eq
  intro j
  by_cases hj : j < 32
  · rw [h j hj]
    cases o <;> simp [orAnd, bitF]
    cases a.testBit j <;> cases b.testBit j <;> simp
  · have hp : ∀ x, x < 2 ^ 32 → x.testBit j = false := fun x hx => Nat.testBit_lt_two_pow (Nat.lt_of_lt_of_le hx (Nat.pow_le_pow_right (by omega) (by omega)))
    rw [hp m hm]
    symm
    apply hp
    cases o
    · exact hand
    · exact hor
attribute [irreducible] orAnd bitF

set_option maxHeartbeats 1000000 in
theorem bits2_calls (a b : Nat) (o : Bool) (ha : a < 2 ^ 32) (hb : b < 2 ^ 32) (w : World) :
    Calls Try.prog 76 #[.int .u32 a, .int .u32 b, .bool o] w fun e W' => e = .returned (.int .u32 (orAnd o a b)) ∧ Below w.heap.size w W' := by
  go_enter Try.func76, Try.ntmps76
  go_wp2
  go_loopw [7, 8] (fun t i wr => ∃ k m : Nat, k ≤ 32 ∧ i = .int .i64 k ∧ t = .int .u32 m ∧ m < 2 ^ 32 ∧ (∀ j, j < 32 → m.testBit j = if j < k then bitF o (a.testBit j) (b.testBit j) else false) ∧ Below w.heap.size w wr) (fun _ i _ => 32 - (intOf i).toNat)
  case atStart => exact ⟨0, 0, by omega, rfl, rfl, by omega, fun j _ => by simp, Below.refl _ _⟩
  case round =>
    obtain ⟨k, m, hk, rfl, rfl, hm, hbit, hB⟩ := hrel
    by_cases hlt : k < 32
    · have hltz : (k : Int) < 32 := by omega
      have hput := fun x W => put_calls m k x hm hlt W
      have hnext : ∀ x, x = bitF o (a.testBit k) (b.testBit k) → ∀ j, j < 32 → (putN m k x).testBit j = if j < k + 1 then bitF o (a.testBit j) (b.testBit j) else false := fun x hx j hj => by
        rw [putN_bit m k j x hj, hbit j hj]
        by_cases h : j = k
        · subst h; simp [hx]
        · rw [if_neg h]
          by_cases h2 : j < k
          · rw [if_pos h2, if_pos (by omega)]
          · rw [if_neg h2, if_neg (by omega)]
      have hbf : bitF o (a.testBit k) (b.testBit k) = (a.testBit k && b.testBit k || o && (a.testBit k || b.testBit k)) := by unfold bitF; rfl
      have ha1 := fun W => has_calls a k ha hlt W
      have hb1 := fun W => has_calls b k hb hlt W
      have Hbit := Lib.hid hbit
      have Hnext := Lib.hid hnext
      have Hbf := Lib.hid hbf
      clear hbit hnext hbf
      generalize a.testBit k = x at Hnext Hbf ha1
      generalize b.testBit k = y at Hnext Hbf hb1
      go_wp2_with fail
      refine (ha1 _).mono ?_
      rintro e w1 ⟨rfl, hb2⟩
      have hB1 := hB.trans (hb2.mono hB.size)
      go_wp2_with fail
      refine (hb1 _).mono ?_
      rintro e w2 ⟨rfl, hb3⟩
      have hB2 := hB1.trans (hb3.mono hB1.size)
      clear hB hb2 hB1 hb3 ha1 hb1
      cases x <;> cases y <;> cases o
      all_goals
        go_wp2_with fail
        refine (hput _ _).mono ?_
        rintro e w3 ⟨rfl, hb4⟩
        go_wp2
        refine ⟨⟨k + 1, _, by omega, rfl, rfl, putN_lt _ _ _, Hnext.out _ (by rw [Hbf.out]; rfl), hB2.trans (hb4.mono hB2.size)⟩, by simp [intOf]; omega⟩
    · have hk32 : k = 32 := by omega
      subst hk32
      have he : m = orAnd o a b := orAnd_of ha hb hm fun j hj => by rw [hbit j hj, if_pos hj]
      rw [he]
      clear hbit he
      go_wp2
      go_ret
      exact ⟨rfl, hB⟩

theorem or_calls (a b : Nat) (ha : a < 2 ^ 32) (hb : b < 2 ^ 32) (w : World) :
    Calls Try.prog 53 #[.int .u32 a, .int .u32 b] w fun e W' => e = .returned (.int .u32 ((a ||| b : Nat) : Int)) ∧ Below w.heap.size w W' := by
  have h : a ||| b = orAnd true a b := by unfold orAnd; rfl
  rw [h]
  go_enter Try.func53, Try.ntmps53
  go_wp2_with (go_at_call 76; refine (bits2_calls a b true ha hb _).mono ?_; rintro e w1 ⟨rfl, hb1⟩)
  go_ret
  exact ⟨rfl, hb1⟩
theorem and_calls (a b : Nat) (ha : a < 2 ^ 32) (hb : b < 2 ^ 32) (w : World) :
    Calls Try.prog 54 #[.int .u32 a, .int .u32 b] w fun e W' => e = .returned (.int .u32 ((a &&& b : Nat) : Int)) ∧ Below w.heap.size w W' := by
  have h : a &&& b = orAnd false a b := by unfold orAnd; rfl
  rw [h]
  go_enter Try.func54, Try.ntmps54
  go_wp2_with (go_at_call 76; refine (bits2_calls a b false ha hb _).mono ?_; rintro e w1 ⟨rfl, hb1⟩)
  go_ret
  exact ⟨rfl, hb1⟩
end Go.Proofs.Ytkfaaeklkplhnaa
