/- Rows and items as the engine has them; what a call of a plain kind makes of an item. -/
import Derived.Test.YtkfaaeklkplhnaaEngG
import Derived.Test.YtkfaaeklkplhnaaWState
namespace Go.Proofs.Ytkfaaeklkplhnaa
open Go.RowKit

abbrev callA (kind obj : Int) (v : Vl) (n : Int) : Value := .agg #[.int .i64 kind, .int .i64 obj, .int .u32 v.a, .int .u32 v.b, .int .u32 v.c, .int .u32 v.d, .int .u32 n]
abbrev resA (f : Int) (v : Vl) : Value := .agg #[.int .i64 f, .int .u32 v.a, .int .u32 v.b, .int .u32 v.c, .int .u32 v.d]
def orP (a b : Int) : Int := IntKind.u32.wrap ((BitVec.ofInt 32 a ||| BitVec.ofInt 32 b).toNat : Int)
def andNotP (a b : Int) : Int := IntKind.u32.wrap ((BitVec.ofInt 32 a &&& ~~~(BitVec.ofInt 32 b)).toNat : Int)
theorem rowV_of (row : List Vl) {x : Vl} {W : World} {g m cap : Nat} {cs : List Value} (h : W.rangeAt g 0 cs) (rest : List Value) (hcs : cs = flatV row ++ x.cells ++ rest) (hm : m = row.length + 1) (h1 : m ≤ cap) (h2 : cap ≤ maxLen) :
    RowV W (.slice (some ⟨g, 0, none⟩) m cap) (row ++ [x]) := by
  subst hcs hm
  refine ⟨some ⟨g, 0, none⟩, cap, by simp, by simpa using h1, by unfold maxLen at h2; omega, (fun h => by cases h), fun a ha => ?_⟩
  cases ha
  refine ⟨rfl, fun j u hu => ?_⟩
  have hf : flatV (row ++ [x]) = flatV row ++ x.cells := by rw [flatV_app, flatV_cons, flatV_nil, List.append_nil]
  rw [hf] at hu
  exact range_app h j u hu
theorem RowV.range {w : World} {A : Option Addr} {n c : Nat} {l : List Vl} (h : RowV w (.slice A n c) l) : n = l.length ∧ n ≤ c ∧ c ≤ 9223372036854775807 ∧ ((A = none ∧ l = [] ∧ c = 0) ∨ ∃ g o, A = some ⟨g, o, none⟩ ∧ w.rangeAt g o (flatV l)) := by
  obtain ⟨A', c', h1, h2, h3, h4, h5⟩ := h
  cases h1
  refine ⟨rfl, h2, h3, ?_⟩
  cases A with
  | none => exact .inl ⟨rfl, h4 rfl⟩
  | some a =>
    obtain ⟨g, o, sp⟩ := a
    obtain ⟨hs, hc⟩ := h5 _ rfl
    cases hs
    exact .inr ⟨g, o, rfl, hc⟩
theorem RowV.mk' {w : World} {g o c : Nat} {l : List Vl} (h1 : l.length ≤ c) (h2 : c ≤ 9223372036854775807) (h : w.rangeAt g o (flatV l)) : RowV w (.slice (some ⟨g, o, none⟩) l.length c) l :=
  ⟨_, c, rfl, h1, h2, (fun h => by cases h), (fun a ha => by cases ha; exact ⟨rfl, h⟩)⟩
set_option maxRecDepth 100000 in
theorem wordI_calls (b : Nat) (cs : List Value) (x : Int) (w : World) (hr : w.rangeAt b 0 cs) (h11 : cs[11]? = some (.int .u32 x)) :
    Calls Try.prog 74 #[.pointer (some ⟨b, 0, none⟩)] w fun e W' => e = .returned (.agg #[.int .u32 x, .int .u32 0, .int .u32 0, .int .u32 0]) ∧ Below w.heap.size w W' := by
  have hr1 : w.rangeAt b 11 [.int .u32 x] := fun j v hv => by
    match j, hv with
    | 0, hv =>
      cases hv
      have := hr 11 _ h11
      rw [Nat.zero_add] at this
      exact this
  refine enterF Try.func74 rfl Try.ntmps74 [(0, .pointer (some ⟨b, 0, none⟩))] (by kernel_rfl) (by kernel_rfl) ?_
  have hR := Rep.startR w b 11 hr1
  obtain ⟨H0, hH0⟩ : ∃ x, x = w.heap.size := ⟨_, rfl⟩
  rw [← hH0] at hR
  intro a hE
  refine wp_seq ?_
  refine enterR (idx := [0]) (by kernel_rfl) ?_
  refine segU hE hR [(0, .op [])] [] [(1, .pointer (some ⟨H0, 0, none⟩))] [⟨H0, 0, [.int .u32 0, .int .u32 0, .int .u32 0, .int .u32 0], 58, true⟩] (H0 + 1) [] (by kernel_rfl) (by kernel_rfl) (by kernel_rfl) trivial ?_
  clear hE hR; intro a u hE hR
  refine opsNil ?_; refine thenN ?_; refine wp_seq ?_
  refine enterR (idx := [0, 1, 2, 3, 4]) (by kernel_rfl) ?_
  refine segU hE hR [(0, .op []), (1, .op []), (2, .op [.r 0 0]), (3, .op []), (4, .op (hks 0 0 4))] [] [] [⟨H0, 0, [.int .u32 x, .int .u32 0, .int .u32 0, .int .u32 0], 58, true⟩] (H0 + 1) [] (by kernel_rfl) (by kernel_rfl) (by kernel_rfl) trivial ?_
  clear hE hR; intro a u hE hR
  refine opsNil ?_; refine thenN ?_; refine wp_ret ?_
  refine retF hE hR (hks 0 0 4) (.agg #[.int .u32 x, .int .u32 0, .int .u32 0, .int .u32 0]) (by kernel_rfl) (by kernel_rfl) (by kernel_rfl) ?_
  exact ⟨rfl, hR.below (by simp)⟩
end Go.Proofs.Ytkfaaeklkplhnaa

