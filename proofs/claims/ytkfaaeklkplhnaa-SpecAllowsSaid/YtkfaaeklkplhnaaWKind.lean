/- Items as values: kind, Plain on both sides. -/
import Derived.Test.YtkfaaeklkplhnaaWClip2
namespace Go.Proofs.Ytkfaaeklkplhnaa
open Go.RowKit

/-- The words of the store that an item's row of values leads to are left to 'rv', the row as a slice. -/
abbrev itA (o : Ob) (rv : Value) (v : Vl) : Value := .agg #[.int .i64 o.kind, .int .i64 o.cap, .int .i64 o.width, .int .i64 o.retry, .int .i64 o.src, .int .i64 o.dst, .int .u32 o.i0, .int .u32 o.i1, .int .u32 o.i2, .int .u32 o.i3, rv, .int .u32 v.a, .int .u32 v.b, .int .u32 v.c, .int .u32 v.d]
def kindP (o : Ob) : Int := if rightP o then o.kind else 0
def plainP (k : Int) : Int := if k = 14 ∨ k = 15 then k - 13 else k

set_option maxRecDepth 100000 in
set_option maxHeartbeats 1000000 in
theorem kind_calls (o : Ob) (A : Option Addr) (n c : Nat) (v : Vl) (w : World) :
    Calls Try.prog 45 #[itA o (.slice A n c) v] w fun e W' => e = .returned (.int .i64 (kindP o)) ∧ Below w.heap.size w W' := by
  have hk : kindP o = if rightP o then o.kind else 0 := by unfold kindP; rfl
  have HR := fun W => right_calls o W
  obtain ⟨k, c1, d, r, s, t, i0, i1, i2, i3⟩ := o
  obtain ⟨va, vb, vc, vd⟩ := v
  generalize kindP ⟨k, c1, d, r, s, t, i0, i1, i2, i3⟩ = K at hk ⊢
  generalize rightP ⟨k, c1, d, r, s, t, i0, i1, i2, i3⟩ = R at hk HR
  have HK := Lib.hid hk
  clear hk
  have hb0 : Below w.heap.size w (w.alloc (.cells #[.int .i64 k, .int .i64 c1, .int .i64 d, .int .i64 r, .int .i64 s, .int .i64 t, .int .u32 i0, .int .u32 i1, .int .u32 i2, .int .u32 i3, .slice A n c, .int .u32 va, .int .u32 vb, .int .u32 vc, .int .u32 vd] 116)) := (Below.refl _ _).alloc (Nat.le_refl _) _
  cases R
  all_goals
    go_enter Try.func45, Try.ntmps45
    go_wp2_with fail
    refine (HR _).mono ?_
    rintro e w1 ⟨rfl, hb1⟩
    have hblk := heap_alloc_last w (.cells #[.int .i64 k, .int .i64 c1, .int .i64 d, .int .i64 r, .int .i64 s, .int .i64 t, .int .u32 i0, .int .u32 i1, .int .u32 i2, .int .u32 i3, .slice A n c, .int .u32 va, .int .u32 vb, .int .u32 vc, .int .u32 vd] 116)
    have hblk1 := (hb1.block w.heap.size (by simp)).trans hblk
    have hc0 : w1.cell? ⟨w.heap.size, 0, none⟩ = some (.int .i64 k) := blk_cell hblk1 0
    have hB := hb0.trans (hb1.mono (by simp))
    clear hblk hblk1 hb1 hb0
    go_wp2
    go_ret
    exact ⟨by rw [HK.out]; rfl, hB⟩

theorem ret_i64 {a b : Int} (h : a = b) : Ending.returned (.int .i64 a) = .returned (.int .i64 b) := by rw [h]
theorem plain_calls (k : Int) (w : World) (hw : -9223372036854775808 ≤ k ∧ k ≤ 9223372036854775807) :
    Calls Try.prog 49 #[.int .i64 k] w fun e W' => e = .returned (.int .i64 (plainP k)) ∧ w = W' := by
  by_cases h1 : k = 14
  · subst h1
    go_enter Try.func49, Try.ntmps49
    go_wp2
    go_ret
    exact ⟨rfl, rfl⟩
  · by_cases h2 : k = 15
    · subst h2
      go_enter Try.func49, Try.ntmps49
      go_wp2
      go_ret
      exact ⟨rfl, rfl⟩
    · go_enter Try.func49, Try.ntmps49
      go_wp2
      go_ret
      exact ⟨ret_i64 (by unfold plainP; simp [h1, h2]), rfl⟩
theorem plain2_calls (k : Int) (w : World) (hw : -9223372036854775808 ≤ k ∧ k ≤ 9223372036854775807) :
    Calls Try.prog 51 #[.int .i64 k] w fun e W' => e = .returned (.int .i64 (plainP k)) ∧ w = W' := by
  by_cases h1 : k = 14
  · subst h1
    go_enter Try.func51, Try.ntmps51
    go_wp2
    go_ret
    exact ⟨rfl, rfl⟩
  · by_cases h2 : k = 15
    · subst h2
      go_enter Try.func51, Try.ntmps51
      go_wp2
      go_ret
      exact ⟨rfl, rfl⟩
    · have e1 : (k == 14) = false := by simpa using h1
      have e2 : (k == 15) = false := by simpa using h2
      go_enter Try.func51, Try.ntmps51
      go_wp2
      go_ret
      exact ⟨ret_i64 (by unfold plainP; simp [h1, h2]), rfl⟩
attribute [irreducible] kindP plainP
end Go.Proofs.Ytkfaaeklkplhnaa
