/- Flags: flags.Holds and the document's Holds. -/
import Derived.Lib.EndianBits
import Derived.Test.YtkfaaeklkplhnaaWRight2
namespace Go.Proofs.Ytkfaaeklkplhnaa
open Go.RowKit

theorem bits_and_u32 (a b : Nat) (ha : a < 2 ^ 32) (hb : b < 2 ^ 32) : bits .and .u32 (a : Int) (b : Int) = ((a &&& b : Nat) : Int) := (bits_nat .u32 32 (by decide) (fun n h0 h1 => by rw [IntKind.wrap_u32]; omega) a b ha hb).1
theorem bits_or_u32 (a b : Nat) (ha : a < 2 ^ 32) (hb : b < 2 ^ 32) : bits .or .u32 (a : Int) (b : Int) = ((a ||| b : Nat) : Int) := (bits_nat .u32 32 (by decide) (fun n h0 h1 => by rw [IntKind.wrap_u32]; omega) a b ha hb).2

set_option maxHeartbeats 1000000 in
theorem holds4_calls (a b : Nat) (ha : a < 2 ^ 32) (hb : b < 2 ^ 32) (w : World) :
    Calls Try.prog 75 #[.int .i64 4, .int .u32 a, .int .u32 b] w fun e W' => e = .returned (.bool (((a &&& b : Nat) : Int) != 0)) ∧ Below w.heap.size w W' := by
  have hab := bits_and_u32 a b ha hb
  go_enter Try.func75, Try.ntmps75
  go_wp2
  go_ret
  exact ⟨rfl, ((Below.refl _ _).alloc (Nat.le_refl _) _).alloc (by simp) _⟩
set_option maxHeartbeats 1000000 in
theorem holds5_calls (a b : Nat) (ha : a < 2 ^ 32) (hb : b < 2 ^ 32) (w : World) :
    Calls Try.prog 75 #[.int .i64 5, .int .u32 a, .int .u32 b] w fun e W' => e = .returned (.bool (((a &&& b : Nat) : Int) == (b : Int))) ∧ Below w.heap.size w W' := by
  have hab := bits_and_u32 a b ha hb
  go_enter Try.func75, Try.ntmps75
  go_wp2
  go_region_calls
  all_goals
    go_wp2
    go_ret
    exact ⟨rfl, (((Below.refl _ _).alloc (Nat.le_refl _) _).alloc (by simp) _).drew⟩
theorem holdsR4_calls (a b : Nat) (ha : a < 2 ^ 32) (hb : b < 2 ^ 32) (w : World) :
    Calls Try.prog 55 #[.int .i64 4, .int .u32 a, .int .u32 b] w fun e W' => e = .returned (.bool (((a &&& b : Nat) : Int) != 0)) ∧ Below w.heap.size w W' := by
  go_enter Try.func55, Try.ntmps55
  go_wp2_with (go_at_call 54; refine (and_calls a b ha hb _).mono ?_; rintro e w1 ⟨rfl, hb1⟩)
  go_ret
  exact ⟨rfl, hb1⟩
theorem holdsR5_calls (a b : Nat) (ha : a < 2 ^ 32) (hb : b < 2 ^ 32) (w : World) :
    Calls Try.prog 55 #[.int .i64 5, .int .u32 a, .int .u32 b] w fun e W' => e = .returned (.bool (((a &&& b : Nat) : Int) == (b : Int))) ∧ Below w.heap.size w W' := by
  go_enter Try.func55, Try.ntmps55
  go_wp2_with (go_at_call 54; refine (and_calls a b ha hb _).mono ?_; rintro e w1 ⟨rfl, hb1⟩)
  go_ret
  exact ⟨rfl, hb1⟩
end Go.Proofs.Ytkfaaeklkplhnaa
