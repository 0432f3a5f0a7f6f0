/- The document's queue: Next, Same, Of; and the law's back. -/
import Derived.Test.YtkfaaeklkplhnaaQRef
namespace Go.Proofs.Ytkfaaeklkplhnaa
open Go.RowKit Go.Shelf

theorem Try.infoRefWait : (Try.prog.info? 34).map (fun i => (i.zero, i.size, i.bytes)) = some (some (.agg #[.int .i64 0, .int .i64 0, .int .i64 0, .int .u32 0]), 4, 32) := by kernel_rfl

/-- Who comes behind a task; the first one, if it has none. -/
def nextL (l : List Wt) (t : Int) : Option Wt := l[(placeW l t + 1).toNat]?
theorem placeW_ge (l : List Wt) (t : Int) : -1 ≤ placeW l t ∧ placeW l t < l.length := by
  unfold placeW
  split
  · omega
  · rename_i k h
    rw [List.findIdx?_eq_some_iff_getElem] at h
    obtain ⟨h, _⟩ := h
    omega
def tellL : Option Wt → Value
  | none => noW
  | some y => .tuple #[y.agg, .bool true]

set_option maxHeartbeats 1000000 in
theorem nextL_calls (base : Nat) (v : Value) (l : List Wt) (t : Int) (w : World) (h : RowW w base 34 v l) (hfew : l.length ≤ 1000) :
    Calls Try.prog 13 #[v, .int .i64 t] w fun e W' => e = .returned (tellL (nextL l t)) ∧ Below w.heap.size w W' := by
  obtain ⟨A, c, rfl, hm⟩ := h.slice
  have hb0 : Below w.heap.size w (w.alloc (.cells #[.int .i64 0, .int .i64 0, .int .i64 0, .int .u32 0] 34)) := (Below.refl _ w).alloc (Nat.le_refl _) _
  have h0 := h.below hb0
  obtain ⟨hp0, hp1⟩ := placeW_ge l t
  obtain ⟨p, hp⟩ : ∃ p, p = placeW l t := ⟨_, rfl⟩
  have hpl : nextL l t = l[(p + 1).toNat]? := by rw [hp]; rfl
  rw [hpl]
  rw [← hp] at hp0 hp1
  have HP := fun W hW => place_calls base (.slice A l.length c) l t W hW
  rw [← hp] at HP
  clear hpl hp
  by_cases hlt : p + 1 < l.length
  · obtain ⟨k, hk⟩ : ∃ k : Nat, (k : Int) = p + 1 := ⟨(p + 1).toNat, by omega⟩
    have hkl : k < l.length := by omega
    obtain ⟨g, cap, he, c0, c1, c2, c3⟩ := h0.at hkl
    cases he
    have hfin : tellL (l[(p + 1).toNat]?) = .tuple #[l[k].agg, .bool true] := by
      rw [show (p + 1).toNat = k from by omega, List.getElem?_eq_getElem hkl]
      rfl
    rw [hfin]
    obtain rfl : p = (k : Int) - 1 := by omega
    have hgl := h.lt.2
    clear hfin hk
    go_enter Try.func13, Try.ntmps13
    go_wp2_with (go_at_call 15; refine (HP _ h0).mono ?_; rintro e w1 ⟨rfl, rfl⟩)
    exact bodyPost_ret (v := .tuple #[l[k].agg, .bool true]) (by simp [results, Try.results13, go_sem]) rfl ⟨rfl, (Below.refl _ w).alloc (Nat.le_refl _) _⟩
  · have hfin : tellL (l[(p + 1).toNat]?) = noW := by
      rw [List.getElem?_eq_none (by omega)]
      rfl
    rw [hfin]
    clear hfin
    go_enter Try.func13, Try.ntmps13
    go_wp2_with (go_at_call 15; refine (HP _ h0).mono ?_; rintro e w1 ⟨rfl, rfl⟩)
    exact bodyPost_ret (v := noW) (by simp [results, Try.results13, go_sem]) rfl ⟨rfl, hb0⟩

theorem drewN_plus (w : World) (a b : Nat) : (w.drewN a).drewN b = w.drewN (a + b) := World.drewN_drewN ..
theorem RowW.drewN {w : World} {base e : Nat} {v : Value} {l : List Wt} (h : RowW w base e v l) (n : Nat) : RowW (w.drewN n) base e v l := h

set_option maxHeartbeats 1000000 in
theorem same_calls (b1 b2 : Nat) (v1 v2 : Value) (l1 l2 : List Wt) (w : World) (h1 : RowW w b1 34 v1 l1) (h2 : RowW w b2 34 v2 l2) :
    Calls Try.prog 16 #[v1, v2] w fun e W' => e = .returned (.bool (decide (l1 = l2))) ∧ Below w.heap.size w W' := by
  obtain ⟨A1, c1, rfl, hm1⟩ := h1.slice
  obtain ⟨A2, c2, rfl, hm2⟩ := h2.slice
  by_cases hl : l1.length = l2.length
  · have hlb : ((l1.length : Int) != l2.length) = false := by rw [bne_eq_false_iff_eq]; omega
    have HL := Lib.hid hl
    clear hl
    go_enter Try.func16, Try.ntmps16
    go_wp2
    go_loopw [5] (fun i wr => (∃ m, wr = w.drewN m) ∧ ∃ k : Nat, k ≤ l1.length ∧ i = .int .i64 k ∧ ∀ j (hj : j < l1.length) (hj2 : j < l2.length), j < k → l1[j] = l2[j]) (fun i _ => l1.length - (intOf i).toNat)
    case atStart => exact ⟨⟨0, rfl⟩, 0, Nat.zero_le _, rfl, fun j _ _ hj => absurd hj (Nat.not_lt_zero _)⟩
    case round =>
      obtain ⟨⟨m, rfl⟩, k, hk, rfl, hn⟩ := hrel
      have HN := Lib.hid hn
      clear hn
      by_cases hlt : k < l1.length
      · have hlt2 : k < l2.length := by have := HL.out; omega
        obtain ⟨g1, cap1, he1, a0, a1, a2, a3⟩ := h1.at hlt
        obtain ⟨g2, cap2, he2, d0, d1, d2, d3⟩ := h2.at hlt2
        cases he1
        cases he2
        have hneq : ∀ W, (binOp .neq 34 (.agg #[.int .i64 l1[k].task, .int .i64 l1[k].kind, .int .i64 l1[k].obj, .int .u32 l1[k].mask]) (.agg #[.int .i64 l2[k].task, .int .i64 l2[k].kind, .int .i64 l2[k].obj, .int .u32 l2[k].mask])).run Try.prog W = .ok (.bool (!decide (l1[k] = l2[k]))) W := fun W => wait_neq _ (.inr rfl) l1[k] l2[k] W
        by_cases he : l1[k] = l2[k]
        · have hd : decide (l1[k] = l2[k]) = true := by simp [he]
          simp only [hd, Bool.not_true] at hneq
          have HE := Lib.hid he
          clear he hd
          go_wp2
          go_quiet (fail)
          go_wp2
          go_roundw
          case rel =>
            refine ⟨⟨m + nq, rfl⟩, k + 1, by omega, by go_num, fun j hj hj2 hjk => ?_⟩
            by_cases e : j = k
            · subst e; exact HE.out
            · exact HN.out j hj hj2 (by omega)
          case measure => simp [intOf]; omega
        · have hd : decide (l1[k] = l2[k]) = false := by simp [he]
          have hfin : decide (l1 = l2) = false := by
            simp only [decide_eq_false_iff_not]
            rintro rfl
            exact he rfl
          simp only [hd, Bool.not_false] at hneq
          have HF := Lib.hid hfin
          clear he hd hfin
          go_wp2
          go_quiet (fail)
          go_wp2
          go_ret
          exact ⟨by rw [HF.out]; rfl, pw_drewN (pw_drewN (Below.refl _ _) _) _⟩
      · have hfin : decide (l1 = l2) = true := by
          simp only [decide_eq_true_eq]
          exact List.ext_getElem HL.out (fun j hj hj2 => HN.out j hj hj2 (by omega))
        have HF := Lib.hid hfin
        clear hfin
        go_wp2
        go_ret
        exact ⟨by rw [HF.out]; rfl, pw_drewN (Below.refl _ _) _⟩
  · have hlb : ((l1.length : Int) != l2.length) = true := by rw [bne_iff_ne]; omega
    have hfin : decide (l1 = l2) = false := by
      simp only [decide_eq_false_iff_not]
      rintro rfl
      exact hl rfl
    rw [hfin]
    clear hl hfin
    go_enter Try.func16, Try.ntmps16
    go_wp2
    go_ret
    exact ⟨rfl, Below.refl _ _⟩
end Go.Proofs.Ytkfaaeklkplhnaa
