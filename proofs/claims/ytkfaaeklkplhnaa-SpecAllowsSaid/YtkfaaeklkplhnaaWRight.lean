/- Which objects may be: site.Right and the document's Right; flags.Holds and the document's Holds. -/
import Derived.Deep.RegionWith
import Derived.Test.YtkfaaeklkplhnaaWPow
namespace Go.Proofs.Ytkfaaeklkplhnaa
open Go.RowKit

/-- An object, as it is read. -/
structure Ob where
  kind : Int
  cap : Int
  width : Int
  retry : Int
  src : Int
  dst : Int
  i0 : Int
  i1 : Int
  i2 : Int
  i3 : Int
abbrev Ob.cells (o : Ob) : List Value := [.int .i64 o.kind, .int .i64 o.cap, .int .i64 o.width, .int .i64 o.retry, .int .i64 o.src, .int .i64 o.dst, .int .u32 o.i0, .int .u32 o.i1, .int .u32 o.i2, .int .u32 o.i3]
abbrev Ob.agg (o : Ob) : Value := .agg #[.int .i64 o.kind, .int .i64 o.cap, .int .i64 o.width, .int .i64 o.retry, .int .i64 o.src, .int .i64 o.dst, .int .u32 o.i0, .int .u32 o.i1, .int .u32 o.i2, .int .u32 o.i3]
def rightP (o : Ob) : Bool :=
  if o.kind = 1 then decide (1 ≤ o.width ∧ o.width ≤ 4) && (powP o.cap && (decide (o.cap ≤ 64) && (o.retry == 0)))
  else if o.kind = 4 then (o.width == 0) && ((o.cap == 0) && (o.retry == 0))
  else if o.kind = 2 then decide (1 ≤ o.width ∧ o.width ≤ 4) && ((o.cap == 0) && (o.retry == 0))
  else if o.kind = 3 then decide (1 ≤ o.width ∧ o.width ≤ 4) && ((o.cap == 0) && decide (0 ≤ o.retry ∧ o.retry ≤ 8))
  else false

set_option maxRecDepth 100000 in
set_option maxHeartbeats 4000000 in
theorem right_calls (o : Ob) (w : World) :
    Calls Try.prog 71 #[o.agg] w fun e W' => e = .returned (.bool (rightP o)) ∧ Below w.heap.size w W' := by
  obtain ⟨k, c, d, r, s, t, i0, i1, i2, i3⟩ := o
  have hb : ∀ o : Obj, Below w.heap.size w (w.alloc o) := fun o => (Below.refl _ _).alloc (Nat.le_refl _) o
  have HW := fun W => within_calls d 1 4 W
  have HP := fun W => power_calls c W
  have HR := fun W => within_calls r 0 8 W
  simp only [rightP]
  generalize decide (1 ≤ d ∧ d ≤ 4) = wd at HW ⊢
  generalize powP c = pw at HP ⊢
  have hrt0 : r = 0 → decide (0 ≤ r ∧ r ≤ 8) = true := fun h => by subst h; rfl
  generalize decide (0 ≤ r ∧ r ≤ 8) = rt at HR hrt0 ⊢
  by_cases k1 : k = 1
  · subst k1
    cases wd <;> cases pw <;> by_cases h64 : c ≤ 64 <;> cases r0 : (r == 0)
    all_goals
      go_enter Try.func71, Try.ntmps71
      go_wp2_with (first | (go_at_call 85; refine (HW _).mono ?_; rintro e w1 ⟨rfl, rfl⟩) | (go_at_call 86; refine (HP _).mono ?_; rintro e w1 ⟨rfl, rfl⟩))
      go_ret
      exact ⟨ret_bool (by simp [h64]), hb _⟩
  · by_cases k4 : k = 4
    · subst k4
      cases d0 : (d == 0) <;> cases c0 : (c == 0) <;> cases r0 : (r == 0)
      all_goals
        go_enter Try.func71, Try.ntmps71
        go_wp2_with (go_at_call 85; refine (HW _).mono ?_; rintro e w1 ⟨rfl, rfl⟩)
        go_ret
        exact ⟨ret_bool (by simp), hb _⟩
    · by_cases k2 : k = 2
      · subst k2
        cases r0 : (r == 0)
        · have hne : (r != 0) = true := by simpa using r0
          go_enter Try.func71, Try.ntmps71
          go_wp2_with (first | (go_at_call_of 85 (Value.int .i64 d); refine (HW _).mono ?_; rintro e w1 ⟨rfl, rfl⟩) | (go_at_call 85; refine (HR _).mono ?_; rintro e w1 ⟨rfl, rfl⟩))
          go_ret
          exact ⟨ret_bool (by simp), hb _⟩
        · have hne : (r != 0) = false := by simpa using r0
          have hrt : rt = true := hrt0 (by simpa using r0)
          subst hrt
          cases wd <;> cases c0 : (c == 0)
          all_goals
            go_enter Try.func71, Try.ntmps71
            go_wp2_with (first | (go_at_call_of 85 (Value.int .i64 d); refine (HW _).mono ?_; rintro e w1 ⟨rfl, rfl⟩) | (go_at_call 85; refine (HR _).mono ?_; rintro e w1 ⟨rfl, rfl⟩))
            go_ret
            exact ⟨ret_bool (by simp), hb _⟩
      · by_cases k3 : k = 3
        · subst k3
          cases wd <;> cases c0 : (c == 0) <;> cases rt
          all_goals
            go_enter Try.func71, Try.ntmps71
            go_wp2_with (first | (go_at_call_of 85 (Value.int .i64 d); refine (HW _).mono ?_; rintro e w1 ⟨rfl, rfl⟩) | (go_at_call 85; refine (HR _).mono ?_; rintro e w1 ⟨rfl, rfl⟩))
            go_ret
            exact ⟨ret_bool (by simp), hb _⟩
        · go_enter Try.func71, Try.ntmps71
          go_wp2_with (go_at_call 85; refine (HW _).mono ?_; rintro e w1 ⟨rfl, rfl⟩)
          go_ret
          exact ⟨ret_bool (by simp), hb _⟩
attribute [irreducible] rightP
end Go.Proofs.Ytkfaaeklkplhnaa
