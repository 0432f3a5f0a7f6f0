/- (spec.Item).done: what a call of a plain kind does to an item, in one sentence. -/
import Derived.Test.YtkfaaeklkplhnaaSDone
namespace Go.Proofs.Ytkfaaeklkplhnaa
open Go.RowKit

abbrev Vl.ok (v : Vl) : Prop := 0 ≤ v.a ∧ v.a < 4294967296
/-- An item behind a call of a plain kind: the item, the fault, the value, whether it changed, whether it is such a call. -/
structure Dn where
  y : Itm
  f : Int
  r : Vl
  ch : Bool
  is : Bool
def doneP (k : Int) (x : Itm) (cv : Vl) : Dn :=
  if k = 1 ∧ kindP x.o = 1 then
    if x.o.cap ≤ (x.row.length : Int) then ⟨x, 6, Vl.z, false, true⟩ else ⟨⟨x.o, x.row ++ [clipP cv x.o.width], x.v⟩, 0, Vl.z, true, true⟩
  else if k = 2 ∧ kindP x.o = 1 then
    match x.row with
    | [] => ⟨x, 7, Vl.z, false, true⟩
    | r :: l => ⟨⟨x.o, l, x.v⟩, 0, r, true, true⟩
  else if k = 3 ∧ (kindP x.o = 2 ∨ kindP x.o = 3) then ⟨⟨x.o, x.row, clipP cv x.o.width⟩, 0, Vl.z, true, true⟩
  else if (k = 4 ∧ kindP x.o = 2) ∨ (k = 5 ∧ kindP x.o = 3) ∨ (k = 6 ∧ kindP x.o = 3) then ⟨x, 0, x.v, false, true⟩
  else if k = 7 ∧ kindP x.o = 4 then ⟨⟨x.o, x.row, ⟨orP x.v.a cv.a, 0, 0, 0⟩⟩, 0, ⟨x.v.a, 0, 0, 0⟩, true, true⟩
  else if k = 8 ∧ kindP x.o = 4 then ⟨⟨x.o, x.row, ⟨andNotP x.v.a cv.a, 0, 0, 0⟩⟩, 0, ⟨x.v.a, 0, 0, 0⟩, true, true⟩
  else if k = 16 ∧ kindP x.o = 4 then
    if ((x.v.a.toNat &&& cv.a.toNat : Nat) : Int) != 0 then ⟨x, 0, ⟨x.v.a, 0, 0, 0⟩, false, true⟩ else ⟨x, 7, Vl.z, false, true⟩
  else if k = 17 ∧ kindP x.o = 4 then
    if ((x.v.a.toNat &&& cv.a.toNat : Nat) : Int) == cv.a then ⟨x, 0, ⟨x.v.a, 0, 0, 0⟩, false, true⟩ else ⟨x, 7, Vl.z, false, true⟩
  else if k = 9 ∧ kindP x.o = 4 then ⟨x, 0, ⟨x.v.a, 0, 0, 0⟩, false, true⟩
  else ⟨x, 12, Vl.z, false, false⟩

theorem kindP_wide {o : Ob} (h : kindP o = 1 ∨ kindP o = 2 ∨ kindP o = 3) : 1 ≤ o.width ∧ o.width ≤ 4 ∧ (kindP o = 1 → o.cap ≤ 64 ∧ 1 ≤ o.cap) := by
  unfold kindP at h ⊢
  by_cases hr : rightP o = true
  · rw [if_pos hr] at h
    simp only [if_pos hr]
    have hr' := hr
    unfold rightP at hr'
    rcases h with h | h | h
    · rw [if_pos h] at hr'
      simp only [Bool.and_eq_true, decide_eq_true_eq] at hr'
      refine ⟨hr'.1.1, hr'.1.2, fun _ => ⟨hr'.2.2.1, ?_⟩⟩
      obtain ⟨k, _, hk⟩ := (powP_iff o.cap).1 hr'.2.1
      have : 0 < 2 ^ k := Nat.two_pow_pos k
      omega
    · rw [if_neg (by omega), if_neg (by omega), if_pos h] at hr'
      simp only [Bool.and_eq_true, decide_eq_true_eq] at hr'
      exact ⟨hr'.1.1, hr'.1.2, fun h1 => by omega⟩
    · rw [if_neg (by omega), if_neg (by omega), if_neg (by omega), if_pos h] at hr'
      simp only [Bool.and_eq_true, decide_eq_true_eq] at hr'
      exact ⟨hr'.1.1, hr'.1.2, fun h1 => by omega⟩
  · rw [if_neg hr] at h
    omega
/-- A row's slice has nothing, or lies where another did that had something, or from B on. -/
def Apart (rv0 : Value) (l0 : List Vl) (B : Nat) (rv : Value) (l : List Vl) : Prop := l = [] ∨ ∀ g o n c, rv = .slice (some ⟨g, o, none⟩) n c → (l0 ≠ [] ∧ ∃ o' n' c', rv0 = .slice (some ⟨g, o', none⟩) n' c') ∨ B ≤ g
theorem Apart.same (rv : Value) (l : List Vl) (B : Nat) : Apart rv l B rv l := by
  by_cases h : l = []
  · exact .inl h
  · exact .inr fun g o n c e => .inl ⟨h, o, n, c, e⟩
abbrev DoneR (d : Dn) (rv0 : Value) (l0 : List Vl) (w : World) : Ending → World → Prop := fun e W' => ∃ rv, e = .returned (.tuple #[itA d.y.o rv d.y.v, resA d.f d.r, .bool d.ch, .bool d.is]) ∧ Apart rv0 l0 w.heap.size rv d.y.row ∧ RowV W' rv d.y.row ∧ Below w.heap.size w W'
theorem done_same {P : Program} {f : FuncId} {args : Array Value} {w : World} {x : Itm} {fl : Int} {r : Vl} {b : Bool} {rv : Value} (hrow : RowV w rv x.row)
    (h : Calls P f args w fun e W' => e = .returned (.tuple #[itA x.o rv x.v, resA fl r, .bool false, .bool b]) ∧ Below w.heap.size w W') : Calls P f args w (DoneR ⟨x, fl, r, false, b⟩ rv x.row w) :=
  h.mono fun _ _ ⟨he, hb⟩ => ⟨rv, he, Apart.same _ _ _, hrow.below hb, hb⟩
theorem done_calls (k : Int) (x : Itm) (rv : Value) (ck co : Int) (cv : Vl) (cn : Int) (w : World) (hrow : RowV w rv x.row) (hv : x.v.ok) (hc : cv.ok) :
    Calls Try.prog 50 #[itA x.o rv x.v, .int .i64 k, callA ck co cv cn] w (DoneR (doneP k x cv) rv x.row w) := by
  obtain ⟨A, n, c, rfl⟩ : ∃ A n c, rv = .slice A n c := by
    obtain ⟨A, c, h, _⟩ := hrow
    exact ⟨_, _, _, h⟩
  obtain ⟨hn, hnc, hcm, hA⟩ := hrow.range
  obtain ⟨o, row, v⟩ := x
  simp only at hn hA hrow hv ⊢
  unfold doneP
  simp only
  by_cases h1 : k = 1 ∧ kindP o = 1
  · rw [if_pos h1]
    obtain ⟨rfl, hk⟩ := h1
    obtain ⟨w1, w2, hcap⟩ := kindP_wide (.inl hk)
    by_cases hf : o.cap ≤ (row.length : Int)
    · rw [if_pos hf]
      exact done_same hrow (done_send_full o v ck co cv cn A n c w hk (by omega))
    · rw [if_neg hf]
      rcases hA with ⟨rfl, rfl, rfl⟩ | ⟨g, off, rfl, hr⟩
      · simp only [List.length_nil] at hn
        subst hn
        exact (done_send_nil o v ck co cv cn w hk (by omega) w2 (hcap hk).2 (hcap hk).1).mono fun e W' ⟨g, cap, he, hg, hr, hb⟩ => ⟨_, he, (.inr fun g' o' n' c' h => by cases h; exact .inr hg), hr, hb⟩
      · subst hn
        exact (done_send_some o v ck co cv cn g off c row hnc w hk (by omega) w2 (by omega) (hcap hk).1 hr).mono fun e W' ⟨g, cap, he, hg, hr, hb⟩ => ⟨_, he, (.inr fun g' o' n' c' h => by cases h; exact .inr hg), hr, hb⟩
  rw [if_neg h1]
  by_cases h2 : k = 2 ∧ kindP o = 1
  · rw [if_pos h2]
    obtain ⟨rfl, hk⟩ := h2
    cases row with
    | nil =>
      simp only [List.length_nil] at hn
      subst hn
      exact done_same (x := ⟨o, [], v⟩) hrow (done_recv_empty o v ck co cv cn A c w hk)
    | cons r l =>
      rcases hA with ⟨_, h, _⟩ | ⟨g, off, rfl, hr⟩
      · cases h
      · simp only [List.length_cons] at hn
        subst hn
        by_cases hc1 : 1 < c
        · refine (done_recv_more o v ck co cv cn g off c r l hnc w hk hr hc1).mono fun e W' ⟨he, hb⟩ => ⟨_, he, (.inr fun g' o' n' c' h => by cases h; exact .inl ⟨by simp, _, _, _, rfl⟩), ?_, hb⟩
          have hr' : w.rangeAt g (off + 4) (flatV l) := by
            rw [flatV_cons] at hr
            exact range_drop hr
          exact RowV.mk' (by omega) (by omega) (rangeAt_below hr' hb)
        · have : l = [] := List.eq_nil_of_length_eq_zero (by omega)
          subst this
          obtain rfl : c = 1 := by simp at hnc; omega
          refine (done_recv_last o v ck co cv cn g off r w hk hr).mono fun e W' ⟨he, hb⟩ => ⟨_, he, (.inr fun g' o' n' c' h => by cases h; exact .inl ⟨by simp, _, _, _, rfl⟩), ?_, hb⟩
          exact RowV.mk' (l := []) (by simp) (by omega) (by rw [flatV_nil]; intro j u hu; simp at hu)
  rw [if_neg h2]
  by_cases h3 : k = 3 ∧ (kindP o = 2 ∨ kindP o = 3)
  · rw [if_pos h3]
    obtain ⟨rfl, hk⟩ := h3
    obtain ⟨w1, w2, _⟩ := kindP_wide (.inr hk)
    rcases hk with hk | hk
    · exact (done_write_four o v ck co cv cn A n c w hk (by omega) w2).mono fun e W' ⟨he, hb⟩ => ⟨_, he, Apart.same _ _ _, hrow.below hb, hb⟩
    · exact (done_write_lock o v ck co cv cn A n c w hk (by omega) w2).mono fun e W' ⟨he, hb⟩ => ⟨_, he, Apart.same _ _ _, hrow.below hb, hb⟩
  rw [if_neg h3]
  by_cases h4 : (k = 4 ∧ kindP o = 2) ∨ (k = 5 ∧ kindP o = 3) ∨ (k = 6 ∧ kindP o = 3)
  · rw [if_pos h4]
    rcases h4 with ⟨rfl, hk⟩ | ⟨rfl, hk⟩ | ⟨rfl, hk⟩
    · exact done_same (x := ⟨o, row, v⟩) hrow (done_read o v ck co cv cn A n c w hk)
    · exact done_same (x := ⟨o, row, v⟩) hrow (done_try o v ck co cv cn A n c w hk)
    · exact done_same (x := ⟨o, row, v⟩) hrow (done_again o v ck co cv cn A n c w hk)
  rw [if_neg h4]
  by_cases h5 : k = 7 ∧ kindP o = 4
  · rw [if_pos h5]
    obtain ⟨rfl, hk⟩ := h5
    exact (done_set o v ck co cv cn A n c w hk).mono fun e W' ⟨he, hb⟩ => ⟨_, he, Apart.same _ _ _, hrow.below hb, hb⟩
  rw [if_neg h5]
  by_cases h6 : k = 8 ∧ kindP o = 4
  · rw [if_pos h6]
    obtain ⟨rfl, hk⟩ := h6
    exact (done_clear o v ck co cv cn A n c w hk).mono fun e W' ⟨he, hb⟩ => ⟨_, he, Apart.same _ _ _, hrow.below hb, hb⟩
  rw [if_neg h6]
  by_cases h7 : k = 16 ∧ kindP o = 4
  · rw [if_pos h7]
    obtain ⟨rfl, hk⟩ := h7
    cases hbit : (((v.a.toNat &&& cv.a.toNat : Nat) : Int) != 0)
    · rw [if_neg (by simp)]
      exact done_same (x := ⟨o, row, v⟩) hrow (done_any_no o v ck co cv cn A n c w hk hv hc hbit)
    · rw [if_pos rfl]
      exact done_same (x := ⟨o, row, v⟩) hrow (done_any_yes o v ck co cv cn A n c w hk hv hc hbit)
  rw [if_neg h7]
  by_cases h8 : k = 17 ∧ kindP o = 4
  · rw [if_pos h8]
    obtain ⟨rfl, hk⟩ := h8
    cases hbit : (((v.a.toNat &&& cv.a.toNat : Nat) : Int) == cv.a)
    · rw [if_neg (by simp)]
      exact done_same (x := ⟨o, row, v⟩) hrow (done_all_no o v ck co cv cn A n c w hk hv hc hbit)
    · rw [if_pos rfl]
      exact done_same (x := ⟨o, row, v⟩) hrow (done_all_yes o v ck co cv cn A n c w hk hv hc hbit)
  rw [if_neg h8]
  by_cases h9 : k = 9 ∧ kindP o = 4
  · rw [if_pos h9]
    obtain ⟨rfl, hk⟩ := h9
    exact done_same (x := ⟨o, row, v⟩) hrow (done_get o v ck co cv cn A n c w hk)
  rw [if_neg h9]
  refine done_same (x := ⟨o, row, v⟩) hrow (done_kind o v ck co cv cn A n c k (kindP o) w rfl ?_)
  refine ⟨h1, h2, fun h => h3 ⟨h.1, .inl h.2⟩, fun h => h3 ⟨h.1, .inr h.2⟩, fun h => h4 (.inl h), fun h => h4 (.inr (.inl h)), fun h => h4 (.inr (.inr h)), h5, h6, h7, h8, h9⟩
end Go.Proofs.Ytkfaaeklkplhnaa
