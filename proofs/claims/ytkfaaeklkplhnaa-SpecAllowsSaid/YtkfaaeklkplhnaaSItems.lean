/- States as lists of items with their rows' slices; what calls make of them. -/
import Derived.Test.YtkfaaeklkplhnaaEngG
import Derived.Test.YtkfaaeklkplhnaaSDoneAll
namespace Go.Proofs.Ytkfaaeklkplhnaa
open Go.RowKit

abbrev IV := Itm × Value
def itF (p : IV) : List Value := itC p.1 p.2
theorem itF_len (p : IV) : (itF p).length = 15 := by
  obtain ⟨⟨o, row, v⟩, rv⟩ := p
  unfold itF itC
  simp
abbrev itms (L : List IV) : List Itm := L.map Prod.fst
theorem itC_eq (x : Itm) (rv : Value) : itC x rv = [.int .i64 x.o.kind, .int .i64 x.o.cap, .int .i64 x.o.width, .int .i64 x.o.retry, .int .i64 x.o.src, .int .i64 x.o.dst, .int .u32 x.o.i0, .int .u32 x.o.i1, .int .u32 x.o.i2, .int .u32 x.o.i3, rv, .int .u32 x.v.a, .int .u32 x.v.b, .int .u32 x.v.c, .int .u32 x.v.d] := by
  unfold itC
  rfl
/-- A state in memory. -/
def ItemsR (w : World) (s : Value) (L : List IV) : Prop :=
  ∃ A c, s = .slice A L.length c ∧ L.length ≤ c ∧ c ≤ 9223372036854775807 ∧ ((A = none ∧ L = [] ∧ c = 0) ∨ ∃ g o, A = some ⟨g, o, none⟩ ∧ w.rangeAt g o (L.flatMap itF)) ∧ ∀ p ∈ L, RowV w p.2 p.1.row
theorem ItemsR.below {w w' : World} {s : Value} {L : List IV} (h : ItemsR w s L) (hb : Below w.heap.size w w') : ItemsR w' s L := by
  obtain ⟨A, c, h1, h2, h3, h4, h5⟩ := h
  refine ⟨A, c, h1, h2, h3, ?_, fun p hp => (h5 p hp).below hb⟩
  rcases h4 with h4 | ⟨g, o, ha, hr⟩
  · exact .inl h4
  · exact .inr ⟨g, o, ha, rangeAt_below hr hb⟩
theorem ItemsR.nil (w : World) : ItemsR w (.slice none 0 0) [] := ⟨none, 0, rfl, Nat.le_refl _, by omega, .inl ⟨rfl, rfl, rfl⟩, fun _ h => by cases h⟩
theorem ItemsR.of_own {w : World} {E : TypeId} {v : Value} {m : Nat} {L : List IV} {ob kn : List KB} {fr : List (World × (Nat → Prop))} {H : Nat} {rl : List Rg} (h : OwnS 15 E v m (L.flatMap itF) ob) (hm : m = L.length) (hR : Rep fr w H (kn ++ ob) rl) (hrow : ∀ p ∈ L, RowV w p.2 p.1.row) : ItemsR w v L := by
  obtain ⟨A, c, rfl, h1, h2, h3⟩ := h.range hR
  subst hm
  refine ⟨A, c, rfl, h1, by unfold maxLen at h2; omega, ?_, hrow⟩
  rcases h3 with ⟨ha, hl, hc⟩ | ⟨g, ha, hr⟩
  · exact .inl ⟨ha, List.eq_nil_of_length_eq_zero hl, hc⟩
  · exact .inr ⟨g, 0, ha, hr⟩
theorem ItemsR.elem {w : World} {A : Option Addr} {n c : Nat} {L : List IV} (h : ItemsR w (.slice A n c) L) {i : Nat} (hi : i < L.length) : ∃ g o, A = some ⟨g, o, none⟩ ∧ w.rangeAt g (o + i * 15) (itC L[i].1 L[i].2) ∧ RowV w L[i].2 L[i].1.row ∧ w.rangeAt g o (L.flatMap itF) := by
  obtain ⟨A', c', h1, h2, h3, h4, h5⟩ := h
  cases h1
  rcases h4 with ⟨_, h, _⟩ | ⟨g, o, ha, hr⟩
  · subst h
    simp at hi
  · exact ⟨g, o, ha, flat_range itF_len hr hi, h5 _ (List.getElem_mem hi), hr⟩
theorem ItemsR.len {w : World} {A : Option Addr} {n c : Nat} {L : List IV} (h : ItemsR w (.slice A n c) L) : n = L.length ∧ n ≤ c ∧ c ≤ 9223372036854775807 := by
  obtain ⟨A', c', h1, h2, h3, h4, h5⟩ := h
  cases h1
  exact ⟨rfl, h2, h3⟩
/-- A row that a callee left stays, whatever the caller's own blocks come to. -/
theorem rowR {fr : List (World × (Nat → Prop))} {u w uD : World} {H Hc : Nat} {kn : List KB} {rl : List Rg} (hR : Rep fr u H kn rl) (hf : (uD, fun k => k < w.heap.size ∨ Hc ≤ k) ∈ fr) {rv0 rv : Value} {l l0 : List Vl} (h0 : RowV w rv0 l0) (h : RowV uD rv l) (hap : Apart rv0 l0 Hc rv l) : RowV u rv l := by
  obtain ⟨A, c, rfl, h2, h3, h4, h5⟩ := h
  refine ⟨A, c, rfl, h2, h3, h4, fun a ha => ⟨(h5 a ha).1, fun j v hv => ?_⟩⟩
  obtain ⟨g, o, sp⟩ := a
  obtain ⟨hs, hc⟩ := h5 _ ha
  cases hs
  subst ha
  refine hR.old hf (p := ⟨g, o + j, none⟩) ?_ (hc j v hv)
  rcases hap with rfl | hap
  · rw [flatV_nil] at hv
    simp at hv
  · rcases hap g o _ _ rfl with ⟨hne, o', n', c', rfl⟩ | hg
    · left
      obtain ⟨_, _, _, hr⟩ := h0.range
      rcases hr with ⟨h, _⟩ | ⟨g', o'', he, hr⟩
      · cases h
      · cases he
        cases l0 with
        | nil => exact absurd rfl hne
        | cons x l0 =>
          rw [flatV_cons] at hr
          exact range_lt hr
    · exact .inr hg
abbrev DoneS (d : Dn) (rv0 : Value) (l0 : List Vl) (w : World) : Ending → World → Prop := fun e W' => ∃ A c, e = .returned (.tuple #[itA d.y.o (.slice A d.y.row.length c) d.y.v, resA d.f d.r, .bool d.ch, .bool d.is]) ∧ Apart rv0 l0 w.heap.size (.slice A d.y.row.length c) d.y.row ∧ RowV W' (.slice A d.y.row.length c) d.y.row ∧ Below w.heap.size w W'
theorem doneS_calls (k : Int) (x : Itm) (rv : Value) (ck co : Int) (cv : Vl) (cn : Int) (w : World) (hrow : RowV w rv x.row) (hv : x.v.ok) (hc : cv.ok) :
    Calls Try.prog 50 #[itA x.o rv x.v, .int .i64 k, callA ck co cv cn] w (DoneS (doneP k x cv) rv x.row w) :=
  (done_calls k x rv ck co cv cn w hrow hv hc).mono fun e W' ⟨rv2, he, hap, hr, hb⟩ => by
    have hr' := hr
    obtain ⟨A, c, rfl, _⟩ := hr
    exact ⟨A, c, he, hap, hr', hb⟩
theorem items_one (L : List IV) {w : World} (h : ∀ p ∈ L, RowV w p.2 p.1.row) : (L.flatMap itF).all (fun u => u.oneCell') = true := by
  rw [List.all_eq_true]
  intro u hu
  obtain ⟨p, hp, hu⟩ := List.mem_flatMap.1 hu
  obtain ⟨A, c, hs, _⟩ := h p hp
  unfold itF at hu
  rw [itC_eq] at hu
  simp at hu
  rcases hu with rfl | rfl | rfl | rfl | rfl | rfl | rfl | rfl | rfl | rfl | rfl | rfl | rfl | rfl | rfl
  all_goals first | rfl | (rw [hs]; rfl)
theorem rowVal_one {x : Itm} {rv : Value} {w : World} (h : RowV w rv x.row) : (itA x.o rv x.v).cells.toList.all (fun u => u.oneCell') = true := by
  obtain ⟨A, c, rfl, _⟩ := h
  rfl
def ItemsOk (l : List Itm) : Prop := ∀ x ∈ l, x.v.ok

/-- What a call makes of a state, and answers. -/
structure DoX where
  l : List Itm
  f : Int
  r : Vl
def kindOk (k : Int) : Bool := decide (1 ≤ k ∧ (k ≤ 9 ∨ k = 16 ∨ k = 17))
def doP (l : List Itm) (kind obj : Int) (cv : Vl) : DoX :=
  if kindOk (plainP kind) = true then
    if 0 ≤ obj ∧ obj < (l.length : Int) then
      match l[obj.toNat]? with
      | some x => if (doneP (plainP kind) x cv).ch then ⟨l.set obj.toNat (doneP (plainP kind) x cv).y, (doneP (plainP kind) x cv).f, (doneP (plainP kind) x cv).r⟩ else ⟨l, (doneP (plainP kind) x cv).f, (doneP (plainP kind) x cv).r⟩
      | none => ⟨l, 4, Vl.z⟩
    else ⟨l, 4, Vl.z⟩
  else ⟨l, 1, Vl.z⟩
theorem plainB_calls (k : Int) (w : World) (hw : -9223372036854775808 ≤ k ∧ k ≤ 9223372036854775807) :
    Calls Try.prog 49 #[.int .i64 k] w fun e W' => e = .returned (.int .i64 (plainP k)) ∧ Below w.heap.size w W' :=
  (plain_calls k w hw).mono fun _ _ ⟨h, e⟩ => ⟨h, e ▸ Below.refl _ _⟩
theorem plain2B_calls (k : Int) (w : World) (hw : -9223372036854775808 ≤ k ∧ k ≤ 9223372036854775807) :
    Calls Try.prog 51 #[.int .i64 k] w fun e W' => e = .returned (.int .i64 (plainP k)) ∧ Below w.heap.size w W' :=
  (plain2_calls k w hw).mono fun _ _ ⟨h, e⟩ => ⟨h, e ▸ Below.refl _ _⟩
end Go.Proofs.Ytkfaaeklkplhnaa
