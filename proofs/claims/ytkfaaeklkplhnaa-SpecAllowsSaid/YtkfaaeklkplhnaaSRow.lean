/- SpecAllows: the row. PROVED: Rows.SpecAllowsSaid, without any condition: whatever the objects, the calls, the one call and the answer, the law returns true and every argument reads as it read before. -/
import Derived.Test.YtkfaaeklkplhnaaRows
import Derived.Test.YtkfaaeklkplhnaaSLaw
import Derived.ProofKit
import Derived.Deep.Slices
import Derived.Lib.SmallJoins
import Derived.Laws.IdiomArrays
import Derived.OpenShut
import Derived.DataShut
import Derived.ChangeSame
import Derived.ChangeArms
import Derived.Carry
import Derived.Below
namespace Go.Proofs.Ytkfaaeklkplhnaa
open Go.ChangeShapes Go.WideShapes Go.ChangeAt Go.RowKit Go.Shelf Go.Deep

theorem Try.ownQ : ownKnob Try.prog.godebug = none := by kernel_rfl
theorem Try.laidOutQ : laidOutB Try.prog = true := by kernel_rfl
theorem cellsCall : Try.prog.cellsOf 60 = 7 := by kernel_rfl
theorem cellsRes : Try.prog.cellsOf 63 = 5 := by kernel_rfl
theorem cellsObj : Try.prog.cellsOf 109 = 10 := by kernel_rfl
theorem cellsVal : Try.prog.cellsOf 58 = 4 := by kernel_rfl
theorem cellsFault : Try.prog.cellsOf 61 = 1 := by kernel_rfl
theorem cellsInt : Try.prog.cellsOf 3 = 1 := by kernel_rfl
theorem cellsU32 : Try.prog.cellsOf 25 = 1 := by kernel_rfl

theorem list4 {α : Type} {l : List α} (h : l.length = 4) : ∃ a b c d, l = [a, b, c, d] := by
  match l, h with
  | [a, b, c, d], _ => exact ⟨a, b, c, d, rfl⟩
theorem list5 {α : Type} {l : List α} (h : l.length = 5) : ∃ a b c d e, l = [a, b, c, d, e] := by
  match l, h with
  | [a, b, c, d, e], _ => exact ⟨a, b, c, d, e, rfl⟩
theorem list7 {α : Type} {l : List α} (h : l.length = 7) : ∃ a b c d e f g, l = [a, b, c, d, e, f, g] := by
  match l, h with
  | [a, b, c, d, e, f, g], _ => exact ⟨a, b, c, d, e, f, g, rfl⟩
theorem list10 {α : Type} {l : List α} (h : l.length = 10) : ∃ a b c d e f g i j k, l = [a, b, c, d, e, f, g, i, j, k] := by
  match l, h with
  | [a, b, c, d, e, f, g, i, j, k], _ => exact ⟨a, b, c, d, e, f, g, i, j, k, rfl⟩
theorem in_u32 {n : Int} (h : (Lit.int .u32 n).wf = true) : 0 ≤ n ∧ n < 4294967296 := by
  obtain ⟨h1, h2⟩ := (Lit.wf_int_iff _ _).1 h
  have e1 : IntKind.min .u32 = 0 := by decide
  have e2 : IntKind.max .u32 = 4294967295 := by decide
  omega
theorem in_i64 {n : Int} (h : (Lit.int .i64 n).wf = true) : -9223372036854775808 ≤ n ∧ n ≤ 9223372036854775807 := by
  obtain ⟨h1, h2⟩ := (Lit.wf_int_iff _ _).1 h
  have e1 : IntKind.min .i64 = -9223372036854775808 := by decide
  have e2 : IntKind.max .i64 = 9223372036854775807 := by decide
  omega
section
variable {H : Type} {enc : TypeId × Value → H} {w : World} {base : Nat} {spare : Nat → Bool} {held : Bool}
theorem read_val {fuel : Nat} {cs : List Value} {x : DataW H × List MemPlace} (h : DataW.trod enc Try.prog w base spare held fuel 58 cs = some x) :
    ∃ v : Vl, cs = [.int .u32 v.a, .int .u32 v.b, .int .u32 v.c, .int .u32 v.d] ∧ v.ok := by
  obtain ⟨_, _, _, _, hl, _, _⟩ := DataW.trod_array Try.underlying58 h
  rw [cellsVal] at hl
  obtain ⟨c0, c1, c2, c3, rfl⟩ := list4 hl
  obtain ⟨y0, y1, y2, y3, n, _, h0, h1, h2, h3⟩ := trod_array4 Try.underlying58 cellsU32 h
  obtain ⟨a, ha, _, wa⟩ := DataW.trod_int Try.underlying25 h0
  obtain ⟨b, hb, _⟩ := DataW.trod_int Try.underlying25 h1
  obtain ⟨c, hc, _⟩ := DataW.trod_int Try.underlying25 h2
  obtain ⟨d, hd, _⟩ := DataW.trod_int Try.underlying25 h3
  cases ha; cases hb; cases hc; cases hd
  exact ⟨⟨a, b, c, d⟩, rfl, in_u32 wa⟩
theorem read_call {fuel : Nat} {cs : List Value} {x : DataW H × List MemPlace} (h : DataW.trod enc Try.prog w base spare held fuel 60 cs = some x) :
    ∃ c : Cal, cs = calF c ∧ c.ok := by
  obtain ⟨y0, y1, y2, y3, n, _, hl, h0, h1, h2, h3⟩ := Go.Joins.trod_struct4 Try.underlying60 h
  rw [cellsCall] at hl
  obtain ⟨c0, c1, c2, c3, c4, c5, c6, rfl⟩ := list7 hl
  rw [cellsInt] at h0 h1
  rw [cellsVal] at h2
  rw [cellsU32] at h3
  simp only [List.drop_zero, List.drop_succ_cons, List.take_succ_cons, List.take_zero] at h0 h1 h2 h3
  obtain ⟨a, ha, _, wa⟩ := DataW.trod_int Try.underlying3 h0
  obtain ⟨b, hb, _⟩ := DataW.trod_int Try.underlying3 h1
  obtain ⟨v, hv, hok⟩ := read_val h2
  obtain ⟨d, hd, _⟩ := DataW.trod_int Try.underlying25 h3
  cases ha; cases hb; cases hv; cases hd
  exact ⟨⟨a, b, v, d⟩, rfl, hok, in_i64 wa⟩
theorem read_res {fuel : Nat} {cs : List Value} {x : DataW H × List MemPlace} (h : DataW.trod enc Try.prog w base spare held fuel 63 cs = some x) :
    ∃ (f : Int) (r : Vl), cs = [.int .i64 f, .int .u32 r.a, .int .u32 r.b, .int .u32 r.c, .int .u32 r.d] := by
  obtain ⟨y0, y1, n, _, hl, h0, h1⟩ := trod_struct2 Try.underlying63 h
  rw [cellsRes] at hl
  obtain ⟨c0, c1, c2, c3, c4, rfl⟩ := list5 hl
  rw [cellsFault] at h0
  rw [cellsVal] at h1
  simp only [List.drop_zero, List.drop_succ_cons, List.take_succ_cons, List.take_zero] at h0 h1
  obtain ⟨a, ha, _⟩ := DataW.trod_int Try.underlying61 h0
  obtain ⟨v, hv, _⟩ := read_val h1
  cases ha; cases hv
  exact ⟨a, v, rfl⟩
theorem read_obj {fuel : Nat} {cs : List Value} {x : DataW H × List MemPlace} (h : DataW.trod enc Try.prog w base spare held fuel 109 cs = some x) :
    ∃ o : Ob, cs = obF o ∧ 0 ≤ o.i0 ∧ o.i0 < 4294967296 := by
  obtain ⟨xs, n, _, _, hl, hlen, hf⟩ := DataW.trod_struct Try.underlying109 h
  rw [cellsObj] at hl
  obtain ⟨c0, c1, c2, c3, c4, c5, c6, c7, c8, c9, rfl⟩ := list10 hl
  obtain ⟨y0, y1, y2, y3, y4, y5, y6, rfl⟩ := list7 (l := xs) (by rw [hlen]; rfl)
  have h0 : DataW.trod enc Try.prog w base spare held n 3 (([c0, c1, c2, c3, c4, c5, c6, c7, c8, c9].drop 0).take (Try.prog.cellsOf 3)) = some y0 := hf 0 _ rfl
  have h1 : DataW.trod enc Try.prog w base spare held n 3 (([c0, c1, c2, c3, c4, c5, c6, c7, c8, c9].drop 1).take (Try.prog.cellsOf 3)) = some y1 := hf 1 _ rfl
  have h2 : DataW.trod enc Try.prog w base spare held n 3 (([c0, c1, c2, c3, c4, c5, c6, c7, c8, c9].drop 2).take (Try.prog.cellsOf 3)) = some y2 := hf 2 _ rfl
  have h3 : DataW.trod enc Try.prog w base spare held n 3 (([c0, c1, c2, c3, c4, c5, c6, c7, c8, c9].drop 3).take (Try.prog.cellsOf 3)) = some y3 := hf 3 _ rfl
  have h4 : DataW.trod enc Try.prog w base spare held n 3 (([c0, c1, c2, c3, c4, c5, c6, c7, c8, c9].drop 4).take (Try.prog.cellsOf 3)) = some y4 := hf 4 _ rfl
  have h5 : DataW.trod enc Try.prog w base spare held n 3 (([c0, c1, c2, c3, c4, c5, c6, c7, c8, c9].drop 5).take (Try.prog.cellsOf 3)) = some y5 := hf 5 _ rfl
  have h6 : DataW.trod enc Try.prog w base spare held n 58 (([c0, c1, c2, c3, c4, c5, c6, c7, c8, c9].drop 6).take (Try.prog.cellsOf 58)) = some y6 := hf 6 _ rfl
  rw [cellsInt] at h0 h1 h2 h3 h4 h5
  rw [cellsVal] at h6
  simp only [List.drop_zero, List.drop_succ_cons, List.take_succ_cons, List.take_zero] at h0 h1 h2 h3 h4 h5 h6
  obtain ⟨a0, ha0, _⟩ := DataW.trod_int Try.underlying3 h0
  obtain ⟨a1, ha1, _⟩ := DataW.trod_int Try.underlying3 h1
  obtain ⟨a2, ha2, _⟩ := DataW.trod_int Try.underlying3 h2
  obtain ⟨a3, ha3, _⟩ := DataW.trod_int Try.underlying3 h3
  obtain ⟨a4, ha4, _⟩ := DataW.trod_int Try.underlying3 h4
  obtain ⟨a5, ha5, _⟩ := DataW.trod_int Try.underlying3 h5
  obtain ⟨v, hv, hok⟩ := read_val h6
  cases ha0; cases ha1; cases ha2; cases ha3; cases ha4; cases ha5; cases hv
  exact ⟨⟨a0, a1, a2, a3, a4, a5, v.a, v.b, v.c, v.d⟩, rfl, hok⟩
/-- A slice of such elements: a list of them, laid out flat. -/
theorem flat_of {α : Type} {m : Nat} {F : α → List Value} (hF : ∀ x, (F x).length = m) {g : Nat} : ∀ (l : List α) (o : Nat), (∀ i (h : i < l.length), w.rangeAt g (o + i * m) (F l[i])) → w.rangeAt g o (l.flatMap F)
  | [], o, _ => fun j v hv => by simp at hv
  | x :: l, o, h => by
    rw [List.flatMap_cons]
    have h0 := h 0 (by simp)
    rw [Nat.zero_mul, Nat.add_zero] at h0
    refine range_join h0 ?_
    rw [hF]
    refine flat_of hF l (o + m) fun i hi => ?_
    have h1 := h (i + 1) (by simpa using hi)
    rw [Nat.add_mul, Nat.one_mul, Nat.add_comm (i * m) m, ← Nat.add_assoc] at h1
    exact h1
theorem read_flat {α : Type} [Inhabited α] {T E : TypeId} {m : Nat} (F : α → List Value) (G : α → Prop) (hT : Try.prog.underlying T = some (.slice E)) (hE : Try.prog.cellsOf E = m) (hF : ∀ x, (F x).length = m) (hm0 : 0 < m)
    (hr : ∀ {fuel : Nat} {cs : List Value} {x : DataW H × List MemPlace}, DataW.trod enc Try.prog w base spare held fuel E cs = some x → ∃ a : α, cs = F a ∧ G a)
    {fuel : Nat} {v : Value} {x : DataW H × List MemPlace} (h : DataW.trod enc Try.prog w base spare held fuel T [v] = some x) :
    ∃ (A : Option Addr) (c : Nat) (l : List α), v = .slice A l.length c ∧ (l = [] ∨ ∃ g o, A = some ⟨g, o, none⟩ ∧ w.rangeAt g o (l.flatMap F)) ∧ ∀ a ∈ l, G a := by
  rcases open_slice hT h with ⟨h0, _⟩ | ⟨a, len, cap, mm, n, D, Pl, h0, _, hl, hc, hm, _, hx⟩
  · cases h0
    exact ⟨none, 0, [], rfl, .inl rfl, fun _ h => by cases h⟩
  · cases h0
    rw [hE] at hx
    have hlm : len ≤ mm := by rw [hm]; split <;> omega
    have hst : ∀ i, i < len → ∃ y : α, w.cells? base (a.add (i * m)) m = some (F y) ∧ G y := fun i hi => by
      obtain ⟨cs', h1, h2⟩ := hx i (by omega)
      obtain ⟨y, rfl, hg⟩ := hr h2
      exact ⟨y, h1, hg⟩
    obtain ⟨f, hf⟩ := choose_lt hst
    have hlen : ((List.range len).map f).length = len := by simp
    refine ⟨some a, cap, (List.range len).map f, by rw [hlen], ?_, fun y hy => ?_⟩
    · by_cases h0 : len = 0
      · subst h0
        exact .inl rfl
      · obtain ⟨g, o, s⟩ := a
        have hs : s = none := by
          have h2 := (World.cells?_some (hf 0 (by omega)).1).2.2 0 hm0
          have e0 : (F (f 0))[0]? = some ((F (f 0))[0]'(by rw [hF]; exact hm0)) := List.getElem?_eq_getElem _
          rw [e0, Nat.zero_mul] at h2
          cases s with
          | none => rfl
          | some q =>
            simp only [Addr.add, if_true] at h2
            unfold World.cell? at h2
            simp only [Option.isSome_some, if_true] at h2
            split at h2 <;> cases h2
        subst hs
        refine .inr ⟨g, o, rfl, flat_of hF _ o fun i hi j u hu => ?_⟩
        have hi' : i < len := by simpa using hi
        have e : ((List.range len).map f)[i] = f i := by simp
        rw [e] at hu
        have hj : j < m := by rw [← hF (f i)]; exact (List.getElem?_eq_some_iff.1 hu).1
        have h2 := (World.cells?_some (hf i hi').1).2.2 j hj
        rw [add_flat ⟨g, o, none⟩ rfl, add_flat ⟨g, o + i * m, none⟩ rfl, hu] at h2
        exact h2
    · obtain ⟨i, hi, rfl⟩ := List.mem_map.1 hy
      exact (hf i (List.mem_range.1 hi)).2
end
theorem law_calls (vl vc : Value) (l : List Ob) (lc : List Cal) (w : World) (ck co : Int) (cv : Vl) (cn f : Int) (r : Vl) {Al Ac : Option Addr} {cl cc : Nat} (hvl : vl = .slice Al l.length cl) (hl : l = [] ∨ ∃ g o, Al = some ⟨g, o, none⟩ ∧ w.rangeAt g o (l.flatMap obF)) (hi0 : ∀ o ∈ l, 0 ≤ o.i0 ∧ o.i0 < 4294967296)
    (hvc : vc = .slice Ac lc.length cc) (hc : lc = [] ∨ ∃ g o, Ac = some ⟨g, o, none⟩ ∧ w.rangeAt g o (lc.flatMap calF)) (hcs : ∀ c ∈ lc, c.ok) (hcc : cv.ok ∧ (-9223372036854775808 ≤ ck ∧ ck ≤ 9223372036854775807)) :
    Calls Try.prog 4 #[vl, vc, callA ck co cv cn, resA f r] w fun e W' => e = .returned (.bool true) ∧ Below w.heap.size w W' := by
  subst hvl hvc
  by_cases hbig : 8 < l.length ∨ 60 < lc.length
  · exact law_big w Al cl l Ac cc lc ck co cv cn f r hbig
  · have hob : ObsW w (.slice Al l.length cl) l := ⟨Al, cl, rfl, hl⟩
    rcases hc with rfl | ⟨g, o, rfl, hr⟩
    · exact law_none w Al cl l Ac cc ck co cv cn f r (by omega) hob hi0 hcc
    · exact law_some w Al cl l g o cc lc ck co cv cn f r (by omega) (by omega) hob hi0 hcc hr hcs

set_option maxHeartbeats 2000000 in
set_option maxRecDepth 100000 in
theorem specAllows_lifted (os : Os) (started : os.Started) (H : Type) (enc : TypeId × Value → H) :
    ReturnsInHanded {} Try.checked os 4 .any (Rows.specAllowsSpec.pre6 enc Try.prog Try.f4 Rows.specAllowsRow.domain false) (Rows.specAllowsSpec.post enc Try.prog Try.f4 false true false false) := by
  refine returnsInHanded_of_change (C := Try.checked) Try.ownQ started (by kernel_rfl) Try.func4
    (ChangeSpec.witness6 (enc := enc) (C := Try.checked) false ⟨#[], #[.slice none 0 0, .slice none 0 0, callA 0 0 ⟨0, 0, 0, 0⟩ 0, resA 0 ⟨0, 0, 0, 0⟩], []⟩ 8 (by kernel_rfl) (by kernel_rfl) (by kernel_rfl) (by kernel_rfl)) ?_
  intro W base args ds gs before hval0 hW hcnd _
  have hval : ∀ (j : Nat) t v, Try.f4.params[j]? = some t → args[j]? = some v → Value.okWide Try.prog W .any base t v := hval0
  have hW' := hW
  obtain ⟨p, q, hA0, hV, rfl, hfz, hnd⟩ := hW
  have hA : DataW.TrodAll enc Try.prog W 0 (fun _ => true) true Try.f4.params.toList args.toList ds p := hA0
  rw [Try.params4] at hA hval
  obtain ⟨v0, vs0, d0, ds0, p0, q0, hargs, rfl, rfl, h0, r0⟩ := trodAll_cons hA
  obtain ⟨v1, vs1, d1, ds1, p1, q1, rfl, rfl, rfl, h1, r1⟩ := trodAll_cons r0
  obtain ⟨v2, vs2, d2, ds2, p2, q2, rfl, rfl, rfl, h2, r2⟩ := trodAll_cons r1
  obtain ⟨v3, vs3, d3, ds3, p3, q3, rfl, rfl, rfl, h3, r3⟩ := trodAll_cons r2
  obtain ⟨rfl, rfl, rfl⟩ := trodAll_nil r3
  obtain rfl : args = #[v0, v1, v2, v3] := by cases args; simp_all
  obtain ⟨rfl, rfl⟩ := trodVars_none hV
  have k0 := h0
  have k1 := h1
  have k2 := h2
  have k3 := h3
  have lt0 : ∀ x ∈ p0, x.block < W.heap.size := by obtain ⟨m, hm⟩ := k0; exact DataW.trod_lt m _ _ _ hm
  have lt1 : ∀ x ∈ p1, x.block < W.heap.size := by obtain ⟨m, hm⟩ := k1; exact DataW.trod_lt m _ _ _ hm
  have lt2 : ∀ x ∈ p2, x.block < W.heap.size := by obtain ⟨m, hm⟩ := k2; exact DataW.trod_lt m _ _ _ hm
  have lt3 : ∀ x ∈ p3, x.block < W.heap.size := by obtain ⟨m, hm⟩ := k3; exact DataW.trod_lt m _ _ _ hm
  obtain ⟨fuel0, hf0⟩ := h0
  obtain ⟨fuel1, hf1⟩ := h1
  obtain ⟨fuel2, hf2⟩ := h2
  obtain ⟨fuel3, hf3⟩ := h3
  obtain ⟨A0, n0, c0, rfl⟩ := okWide_slice Try.underlying55 (hval 0 55 v0 rfl rfl)
  obtain ⟨A1, n1, c1, rfl⟩ := okWide_slice Try.underlying56 (hval 1 56 v1 rfl rfl)
  obtain ⟨cs2, rfl, _⟩ := okWide_struct Try.underlying60 (hval 2 60 v2 rfl rfl)
  obtain ⟨cs3, rfl, _⟩ := okWide_struct Try.underlying63 (hval 3 63 v3 rfl rfl)
  have : Inhabited Ob := ⟨⟨0, 0, 0, 0, 0, 0, 0, 0, 0, 0⟩⟩
  have : Inhabited Cal := ⟨⟨0, 0, ⟨0, 0, 0, 0⟩, 0⟩⟩
  obtain ⟨Al, cl, l, hvl, hl, hi0⟩ := read_flat obF (fun o => 0 ≤ o.i0 ∧ o.i0 < 4294967296) Try.underlying55 cellsObj obF_len (by decide) read_obj hf0
  obtain ⟨Ac, cc, lc, hvc, hlc, hcs⟩ := read_flat calF Cal.ok Try.underlying56 cellsCall calF_len (by decide) read_call hf1
  obtain ⟨c, hc2, hcok⟩ := read_call hf2
  obtain ⟨f, r, hr3⟩ := read_res hf3
  obtain ⟨cs2⟩ := cs2
  obtain ⟨cs3⟩ := cs3
  obtain rfl : cs2 = calF c := hc2
  obtain rfl : cs3 = _ := hr3
  clear hA0 hval0
  refine (law_calls _ _ l lc W c.k c.o c.v c.n f r hvl hl hi0 hvc hlc hcs hcok).mono fun e W' ⟨he, bel⟩ => ?_
  subst he
  exact ⟨_, rfl, _, _, _, [], _, [], hW', trodAll_mk1 (shut_bool Try.underlying4 _), (trodAll_cons_mk (Below.trod Try.laidOutQ (by kernel_rfl) (of_decide_eq_true (by kernel_rfl)) k0 bel lt0) (trodAll_cons_mk (Below.trod Try.laidOutQ (by kernel_rfl) (of_decide_eq_true (by kernel_rfl)) k1 bel lt1) (trodAll_cons_mk (Below.trod Try.laidOutQ (by kernel_rfl) (of_decide_eq_true (by kernel_rfl)) k2 bel lt2) (trodAll_cons_mk (Below.trod Try.laidOutQ (by kernel_rfl) (of_decide_eq_true (by kernel_rfl)) k3 bel lt3) trodAll_mk0)))), rfl, bel.frame _, fun h => by cases h⟩

theorem specAllows_holds : Rows.SpecAllowsSaid :=
  OpenClaim.holds_of_wide 4 Try.f4 rfl rfl rfl rfl rfl rfl rfl ⟨rfl, rfl, rfl, rfl, rfl⟩ rfl rfl rfl rfl rfl (by kernel_rfl) Try.func4 (by kernel_rfl)
    (of_decide_eq_true (by kernel_rfl)) (by unfold Func.isWrapper; first | (rw [if_pos (by decide +kernel)]; kernel_rfl) | (rw [if_neg (by decide +kernel)]; exact ⟨rfl, rfl⟩))
    (fun os started H enc _ => specAllows_lifted os started H enc)
end Go.Proofs.Ytkfaaeklkplhnaa
