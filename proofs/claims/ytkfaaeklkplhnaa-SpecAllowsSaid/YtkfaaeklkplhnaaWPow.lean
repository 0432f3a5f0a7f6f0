/- Powers of two and limits: word.Power, the document's Power, both within. -/
import Derived.Laws.BitsLemmas
import Derived.Test.YtkfaaeklkplhnaaWBits2
namespace Go.Proofs.Ytkfaaeklkplhnaa
open Go.RowKit

theorem two_pow_and (k : Nat) : 2 ^ k &&& (2 ^ k - 1) = 0 := by
  apply Nat.eq_of_testBit_eq
  intro j
  simp
theorem pow_of_and : ∀ n : Nat, 0 < n → n &&& (n - 1) = 0 → ∃ k, n = 2 ^ k := by
  intro n
  induction n using Nat.strongRecOn with
  | _ n ih =>
    intro h0 h
    by_cases h1 : n = 1
    · exact ⟨0, h1⟩
    · by_cases ho : n % 2 = 1
      · exfalso
        have hb : (n &&& (n - 1)) / 2 = 0 := by rw [h]
        have hd : (n &&& (n - 1)) / 2 = n / 2 &&& (n - 1) / 2 := Nat.and_div_two ..
        rw [hd, show (n - 1) / 2 = n / 2 by omega, Nat.and_self] at hb
        omega
      · obtain ⟨k, hk⟩ := ih (n / 2) (by omega) (by omega) (by
          have hb : (n &&& (n - 1)) / 2 = 0 := by rw [h]
          have hd : (n &&& (n - 1)) / 2 = n / 2 &&& (n - 1) / 2 := Nat.and_div_two ..
          rw [hd, show (n - 1) / 2 = n / 2 - 1 by omega] at hb
          exact hb)
        exact ⟨k + 1, by rw [Nat.pow_succ, ← hk]; omega⟩
/-- A power of two, of at most 2^31. -/
def powP (n : Int) : Bool := decide (0 < n ∧ n ≤ 2147483648 ∧ n.toNat &&& (n.toNat - 1) = 0)
theorem powP_iff (n : Int) : powP n = true ↔ ∃ k : Nat, k ≤ 31 ∧ n = ((2 ^ k : Nat) : Int) := by
  unfold powP
  rw [decide_eq_true_iff]
  constructor
  · rintro ⟨h0, h1, h2⟩
    obtain ⟨k, hk⟩ := pow_of_and n.toNat (by omega) h2
    refine ⟨k, ?_, by omega⟩
    have : 2 ^ k < 2 ^ 32 := by omega
    have := (Nat.pow_lt_pow_iff_right (by omega : 1 < 2)).1 this
    omega
  · rintro ⟨k, hk, rfl⟩
    have h1 : 2 ^ k ≤ 2 ^ 31 := Nat.pow_le_pow_right (by omega) hk
    have h0 : 0 < 2 ^ k := Nat.pow_pos (by omega)
    exact ⟨by omega, by omega, by rw [Int.toNat_natCast]; exact two_pow_and k⟩
attribute [irreducible] powP

theorem within_calls (n a b : Int) (w : World) :
    Calls Try.prog 85 #[.int .i64 n, .int .i64 a, .int .i64 b] w fun e W' => e = .returned (.bool (decide (a ≤ n ∧ n ≤ b))) ∧ w = W' := by
  by_cases h1 : a ≤ n
  · by_cases h2 : n ≤ b
    · go_enter Try.func85, Try.ntmps85
      go_wp2
      go_ret
      exact ⟨ret_bool (by simp [h1, h2]), rfl⟩
    · go_enter Try.func85, Try.ntmps85
      go_wp2
      go_ret
      exact ⟨ret_bool (by simp [h2]), rfl⟩
  · have hd : decide (a ≤ n) = false := by simpa using h1
    go_enter Try.func85, Try.ntmps85
    go_wp2
    go_ret
    exact ⟨ret_bool (by simp), rfl⟩
theorem within2_calls (n a b : Int) (w : World) :
    Calls Try.prog 72 #[.int .i64 n, .int .i64 a, .int .i64 b] w fun e W' => e = .returned (.bool (decide (a ≤ n ∧ n ≤ b))) ∧ w = W' := by
  by_cases h1 : a ≤ n
  · by_cases h2 : n ≤ b
    · go_enter Try.func72, Try.ntmps72
      go_wp2
      go_ret
      exact ⟨ret_bool (by simp [h1, h2]), rfl⟩
    · go_enter Try.func72, Try.ntmps72
      go_wp2
      go_ret
      exact ⟨ret_bool (by simp [h2]), rfl⟩
  · go_enter Try.func72, Try.ntmps72
    go_wp2
    go_ret
    exact ⟨ret_bool (by simp; omega), rfl⟩
theorem power_calls (n : Int) (w : World) :
    Calls Try.prog 86 #[.int .i64 n] w fun e W' => e = .returned (.bool (powP n)) ∧ w = W' := by
  by_cases h1 : 0 < n
  · by_cases h2 : n ≤ 2147483648
    · obtain ⟨m, rfl⟩ := Int.eq_ofNat_of_zero_le (show 0 ≤ n by omega)
      have hb := (bits_nat .i64 62 (by decide) (fun n h0 h1 => by rw [IntKind.wrap_i64]; omega) m (m - 1) (by omega) (by omega)).1
      have hc : (((m - 1 : Nat) : Int)) = (m : Int) - 1 := by omega
      rw [hc] at hb
      have hp : powP (m : Int) = (((m &&& (m - 1) : Nat) : Int) == 0) := by
        unfold powP
        rw [Int.toNat_natCast]
        by_cases h : m &&& (m - 1) = 0
        · rw [h]; simp; omega
        · have : ((m &&& (m - 1) : Nat) : Int) ≠ 0 := by omega
          simp only [h, and_false, decide_false]
          symm
          simpa using this
      rw [hp]
      clear hp hc
      go_enter Try.func86, Try.ntmps86
      go_wp2
      go_ret
      exact ⟨rfl, rfl⟩
    · go_enter Try.func86, Try.ntmps86
      go_wp2
      go_ret
      exact ⟨ret_bool (by unfold powP; simp; omega), rfl⟩
  · go_enter Try.func86, Try.ntmps86
    go_wp2
    go_ret
    exact ⟨ret_bool (by unfold powP; simp; omega), rfl⟩
theorem power2_calls (n : Int) (w : World) :
    Calls Try.prog 73 #[.int .i64 n] w fun e W' => e = .returned (.bool (powP n)) ∧ w = W' := by
  go_enter Try.func73, Try.ntmps73
  go_wp2
  go_loop [3] (fun t => ∃ k : Nat, k ≤ 32 ∧ t = .int .i64 ((2 ^ k : Nat) : Int) ∧ ∀ j, j < k → n ≠ ((2 ^ j : Nat) : Int)) (fun t => (4294967296 * 2 - intOf t).toNat)
  case atStart => exact ⟨0, by omega, rfl, fun j hj => by omega⟩
  case round =>
    obtain ⟨k, hk, rfl, hn⟩ := hrel
    have HN := Lib.hid hn
    clear hn
    by_cases h32 : k = 32
    · subst h32
      have hf : powP n = false := by
        cases hp : powP n with
        | false => rfl
        | true =>
          obtain ⟨j, hj, he⟩ := (powP_iff n).1 hp
          exact absurd he (HN.out j (by omega))
      have HF := Lib.hid hf
      clear hf
      go_wp2
      go_ret
      exact ⟨ret_bool HF.out.symm, rfl⟩
    · have h1 : 2 ^ k ≤ 2 ^ 31 := Nat.pow_le_pow_right (by omega) (by omega)
      have h0 : 0 < 2 ^ k := Nat.pow_pos (by omega)
      have hs : 2 ^ (k + 1) = 2 * 2 ^ k := by rw [Nat.pow_succ]; omega
      have hle : (((2 ^ k : Nat) : Int) ≤ 2147483648) := by omega
      have HS := Lib.hid hs
      have hpow : n = ((2 ^ k : Nat) : Int) → powP n = true := fun h => (powP_iff n).2 ⟨k, by omega, h⟩
      have HP := Lib.hid hpow
      clear hs hpow
      generalize hm : 2 ^ k = m at *
      have Hm := Lib.hid hm
      clear hm
      by_cases he : n = (m : Int)
      · have hq : powP n = true := (powP_iff n).2 ⟨k, by omega, by rw [Hm.out]; exact he⟩
        have HQ := Lib.hid hq
        clear hq HP
        have heb : (n == (m : Int)) = true := by simpa using he
        clear he
        go_wp2
        go_ret
        exact ⟨ret_bool HQ.out.symm, rfl⟩
      · have hne : (n == (m : Int)) = false := by simpa using he
        have hw : (m : Int) * 2 < 9223372036854775808 := by omega
        go_wp2
        refine ⟨⟨k + 1, by omega, ?_, fun j hj => ?_⟩, by simp [intOf]; omega⟩
        · rw [HS.out]
          simp
        · by_cases hjk : j = k
          · subst hjk; rw [Hm.out]; exact he
          · exact HN.out j (by omega)
end Go.Proofs.Ytkfaaeklkplhnaa
