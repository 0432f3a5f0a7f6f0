/- Which objects may be, by the document. -/
import Derived.Test.YtkfaaeklkplhnaaWRight
namespace Go.Proofs.Ytkfaaeklkplhnaa
open Go.RowKit

theorem below_dN {B : Nat} {w W : World} (h : Below B w W) (n : Nat) : Below B w (W.drewN n) := ⟨h.os, h.tape, h.output, h.size, h.block⟩
theorem bne_of (x : Int) (b : Bool) (h : (x == 0) = b) : (x != 0) = !b := by unfold bne; rw [h]
theorem pair_true (k a b : Int) (h : a ≤ k ∧ k ≤ b) : decide (a ≤ k ∧ k ≤ b) = true := by simpa using h

set_option maxRecDepth 100000 in
set_option maxHeartbeats 4000000 in
theorem right2_calls (o : Ob) (w : World) :
    Calls Try.prog 47 #[o.agg] w fun e W' => e = .returned (.bool (rightP o)) ∧ Below w.heap.size w W' := by
  obtain ⟨k, c, d, r, s, t, i0, i1, i2, i3⟩ := o
  have hb : ∀ o : Obj, Below w.heap.size w (w.alloc o) := fun o => (Below.refl _ _).alloc (Nat.le_refl _) o
  have HW := fun W => within2_calls d 1 4 W
  have HP := fun W => power2_calls c W
  have HR := fun W => within2_calls r 0 8 W
  have HK := fun W => within2_calls k 1 4 W
  simp only [rightP]
  generalize decide (1 ≤ d ∧ d ≤ 4) = wd at HW ⊢
  generalize powP c = pw at HP ⊢
  have hrt0 : r = 0 → decide (0 ≤ r ∧ r ≤ 8) = true := fun h => by subst h; rfl
  generalize decide (0 ≤ r ∧ r ≤ 8) = rt at HR hrt0 ⊢
  by_cases k1 : k = 1
  · subst k1
    rw [show decide ((1 : Int) ≤ 1 ∧ (1 : Int) ≤ 4) = true from rfl] at HK
    have h64 : ∀ b, decide (c ≤ 64) = b → decide (64 < c) = !b := fun b h => by subst h; by_cases h : c ≤ 64 <;> simp [h] <;> omega
    cases hc : decide (c ≤ 64) <;> cases wd <;> cases pw <;> cases r0 : (r == 0)
    all_goals
      have hg := h64 _ hc
      simp only [Bool.not_true, Bool.not_false] at hg
      go_enter Try.func47, Try.ntmps47
      go_wp2
      go_quiet (fail)
      go_wp2_with (first | (go_at_call_of 72 (Value.int .i64 d); refine (HW _).mono ?_; rintro e w1 ⟨rfl, rfl⟩) | (go_at_call_of 72 (Value.int .i64 r); refine (HR _).mono ?_; rintro e w1 ⟨rfl, rfl⟩) | (go_at_call 72; refine (HK _).mono ?_; rintro e w1 ⟨rfl, rfl⟩) | (go_at_call 73; refine (HP _).mono ?_; rintro e w1 ⟨rfl, rfl⟩))
      go_ret
      exact ⟨ret_bool (by simp), below_dN (hb _) _⟩
  · by_cases k4 : k = 4
    · subst k4
      rw [pair_true _ _ _ (by decide)] at HK
      cases d0 : (d == 0) <;> cases c0 : (c == 0) <;> cases r0 : (r == 0)
      all_goals
        have hcn := bne_of _ _ c0
        simp only [Bool.not_true, Bool.not_false] at hcn
        go_enter Try.func47, Try.ntmps47
        go_wp2
        go_quiet (fail)
        go_wp2_with (first | (go_at_call_of 72 (Value.int .i64 d); refine (HW _).mono ?_; rintro e w1 ⟨rfl, rfl⟩) | (go_at_call_of 72 (Value.int .i64 r); refine (HR _).mono ?_; rintro e w1 ⟨rfl, rfl⟩) | (go_at_call 72; refine (HK _).mono ?_; rintro e w1 ⟨rfl, rfl⟩) | (go_at_call 73; refine (HP _).mono ?_; rintro e w1 ⟨rfl, rfl⟩))
        go_ret
        exact ⟨ret_bool (by simp), below_dN (hb _) _⟩
    · by_cases k2 : k = 2
      · subst k2
        rw [pair_true _ _ _ (by decide)] at HK
        cases wd <;> cases c0 : (c == 0) <;> cases r0 : (r == 0)
        all_goals
          have hcn := bne_of _ _ c0
          simp only [Bool.not_true, Bool.not_false] at hcn
          go_enter Try.func47, Try.ntmps47
          go_wp2
          go_quiet (fail)
          go_wp2_with (first | (go_at_call_of 72 (Value.int .i64 d); refine (HW _).mono ?_; rintro e w1 ⟨rfl, rfl⟩) | (go_at_call_of 72 (Value.int .i64 r); refine (HR _).mono ?_; rintro e w1 ⟨rfl, rfl⟩) | (go_at_call 72; refine (HK _).mono ?_; rintro e w1 ⟨rfl, rfl⟩) | (go_at_call 73; refine (HP _).mono ?_; rintro e w1 ⟨rfl, rfl⟩))
          go_ret
          exact ⟨ret_bool (by simp), below_dN (hb _) _⟩
      · by_cases k3 : k = 3
        · subst k3
          rw [pair_true _ _ _ (by decide)] at HK
          cases wd <;> cases c0 : (c == 0) <;> cases rt
          all_goals
            have hcn := bne_of _ _ c0
            simp only [Bool.not_true, Bool.not_false] at hcn
            go_enter Try.func47, Try.ntmps47
            go_wp2
            go_quiet (fail)
            go_wp2_with (first | (go_at_call_of 72 (Value.int .i64 d); refine (HW _).mono ?_; rintro e w1 ⟨rfl, rfl⟩) | (go_at_call_of 72 (Value.int .i64 r); refine (HR _).mono ?_; rintro e w1 ⟨rfl, rfl⟩) | (go_at_call 72; refine (HK _).mono ?_; rintro e w1 ⟨rfl, rfl⟩) | (go_at_call 73; refine (HP _).mono ?_; rintro e w1 ⟨rfl, rfl⟩))
            go_ret
            exact ⟨ret_bool (by simp), below_dN (hb _) _⟩
        · have hk : decide (1 ≤ k ∧ k ≤ 4) = false := by simp; omega
          rw [hk] at HK
          have e1 : (k == 1) = false := by simpa using k1
          have e3 : (k == 3) = false := by simpa using k3
          go_enter Try.func47, Try.ntmps47
          go_wp2
          go_quiet (fail)
          go_wp2_with (first | (go_at_call_of 72 (Value.int .i64 d); refine (HW _).mono ?_; rintro e w1 ⟨rfl, rfl⟩) | (go_at_call_of 72 (Value.int .i64 r); refine (HR _).mono ?_; rintro e w1 ⟨rfl, rfl⟩) | (go_at_call 72; refine (HK _).mono ?_; rintro e w1 ⟨rfl, rfl⟩) | (go_at_call 73; refine (HP _).mono ?_; rintro e w1 ⟨rfl, rfl⟩))
          go_ret
          exact ⟨ret_bool (by simp), below_dN (hb _) _⟩
end Go.Proofs.Ytkfaaeklkplhnaa
