/- The document's Do in one sentence. -/
import Derived.Test.YtkfaaeklkplhnaaSRef
import Derived.Test.YtkfaaeklkplhnaaSRef2
namespace Go.Proofs.Ytkfaaeklkplhnaa
open Go.RowKit

/-- What items keep to, whatever calls come. -/
def ItemsG (l : List Itm) : Prop := ∀ x ∈ l, x.v.ok ∧ (kindP x.o = 4 → x.v.b = 0 ∧ x.v.c = 0 ∧ x.v.d = 0) ∧ x.row.length ≤ 64
def outP (l : List Itm) (i : Nat) (d : Dn) : DoX := if d.ch then ⟨l.set i d.y, d.f, d.r⟩ else ⟨l, d.f, d.r⟩
theorem kind_split {o : Ob} {k : Int} (h : kindP o = k) (hk : k ≠ 0) : rightP o = true ∧ o.kind = k := by
  unfold kindP at h
  by_cases hr : rightP o = true
  · rw [if_pos hr] at h
    exact ⟨hr, h⟩
  · rw [if_neg hr] at h
    exact absurd h.symm hk
section
variable {P : Program} {f : FuncId} {args : Array Value} {w : World} {L : List IV} {i : Nat} {g off c : Nat}
theorem ref_same {x : Itm} {fl : Int} {r : Vl} {b : Bool} (hs : ItemsR w (.slice (some ⟨g, off, none⟩) L.length c) L)
    (h : Calls P f args w fun e W' => e = .returned (.tuple #[.slice (some ⟨g, off, none⟩) L.length c, resA fl r]) ∧ Below w.heap.size w W') : Calls P f args w (DoR (outP (itms L) i ⟨x, fl, r, false, b⟩) w) :=
  h.mono fun _ _ ⟨he, hb⟩ => ⟨_, L, he, hs.below hb, rfl, hb⟩
theorem ref_chg {y : Itm} {r : Vl} {b : Bool}
    (h : Calls P f args w fun e W' => ∃ s' L', e = .returned (.tuple #[s', resA 0 r]) ∧ ItemsR W' s' L' ∧ itms L' = (itms L).set i y ∧ Below w.heap.size w W') : Calls P f args w (DoR (outP (itms L) i ⟨y, 0, r, true, b⟩) w) := h
end
theorem ref_item (g off c : Nat) (L : List IV) (o : Ob) (row : List Vl) (v : Vl) (ck : Int) (i : Nat) (cv : Vl) (cn : Int) (w : World) (hck : -9223372036854775808 ≤ ck ∧ ck ≤ 9223372036854775807) (hok : kindOk (plainP ck) = true) (hi : i < L.length) (hlen : L.length ≤ 8)
    (HC : ∀ W, Below w.heap.size w W → Calls Try.prog 52 #[.slice (some ⟨g, off, none⟩) L.length c] W (CopyAt L i ⟨o, row, v⟩ W)) (hs : ItemsR w (.slice (some ⟨g, off, none⟩) L.length c) L) (hv : v.ok) (hc : cv.ok) (h4v : kindP o = 4 → v.b = 0 ∧ v.c = 0 ∧ v.d = 0) :
    Calls Try.prog 26 #[.slice (some ⟨g, off, none⟩) L.length c, callA ck (i : Int) cv cn] w (DoR (outP (itms L) i (doneP (plainP ck) ⟨o, row, v⟩ cv)) w) := by
  unfold doneP
  simp only
  by_cases h1 : plainP ck = 1 ∧ kindP o = 1
  · rw [if_pos h1]
    obtain ⟨hK, hk⟩ := h1
    obtain ⟨w1, w2, hcap⟩ := kindP_wide (.inl hk)
    obtain ⟨hr, hkk⟩ := kind_split hk (by decide)
    by_cases hf : o.cap ≤ (row.length : Int)
    · rw [if_pos hf]
      exact ref_same hs (ref_send_full g off c L o row v ck i cv cn w hck hK hi hlen HC hr hkk hf)
    · rw [if_neg hf]
      exact ref_chg (ref_send g off c L o row v ck i cv cn w hck hK hi hlen HC hr hkk (by omega) w2 (by omega) (hcap hk).1)
  rw [if_neg h1]
  by_cases h2 : plainP ck = 2 ∧ kindP o = 1
  · rw [if_pos h2]
    obtain ⟨hK, hk⟩ := h2
    obtain ⟨hr, hkk⟩ := kind_split hk (by decide)
    cases row with
    | nil => exact ref_same hs (ref_recv_empty g off c L o v ck i cv cn w hck hK hi hlen HC hr hkk)
    | cons r l => exact ref_chg (ref_recv g off c L o r l v ck i cv cn w hck hK hi hlen HC hr hkk)
  rw [if_neg h2]
  by_cases h3 : plainP ck = 3 ∧ (kindP o = 2 ∨ kindP o = 3)
  · rw [if_pos h3]
    obtain ⟨hK, hk⟩ := h3
    obtain ⟨w1, w2, _⟩ := kindP_wide (.inr hk)
    rcases hk with hk | hk
    · obtain ⟨hr, hkk⟩ := kind_split hk (by decide)
      exact ref_chg (ref_write_four g off c L o row v ck i cv cn w hck hK hi hlen HC hr hkk (by omega) w2)
    · obtain ⟨hr, hkk⟩ := kind_split hk (by decide)
      exact ref_chg (ref_write_lock g off c L o row v ck i cv cn w hck hK hi hlen HC hr hkk (by omega) w2)
  rw [if_neg h3]
  by_cases h4 : (plainP ck = 4 ∧ kindP o = 2) ∨ (plainP ck = 5 ∧ kindP o = 3) ∨ (plainP ck = 6 ∧ kindP o = 3)
  · rw [if_pos h4]
    rcases h4 with ⟨hK, hk⟩ | ⟨hK, hk⟩ | ⟨hK, hk⟩
    all_goals obtain ⟨hr, hkk⟩ := kind_split hk (by decide)
    · exact ref_same hs (ref_read g off c L o row v ck i cv cn w hck hK hi hlen HC hr hkk)
    · exact ref_same hs (ref_try g off c L o row v ck i cv cn w hck hK hi hlen HC hr hkk)
    · exact ref_same hs (ref_again g off c L o row v ck i cv cn w hck hK hi hlen HC hr hkk)
  rw [if_neg h4]
  by_cases h5 : plainP ck = 7 ∧ kindP o = 4
  · rw [if_pos h5]
    obtain ⟨hK, hk⟩ := h5
    obtain ⟨hr, hkk⟩ := kind_split hk (by decide)
    obtain ⟨e1, e2, e3⟩ := h4v hk
    have h := ref_set g off c L o row v ck i cv cn w hck hK hi hlen HC hr hkk hv hc
    rw [e1, e2, e3] at h
    exact ref_chg h
  rw [if_neg h5]
  by_cases h6 : plainP ck = 8 ∧ kindP o = 4
  · rw [if_pos h6]
    obtain ⟨hK, hk⟩ := h6
    obtain ⟨hr, hkk⟩ := kind_split hk (by decide)
    obtain ⟨e1, e2, e3⟩ := h4v hk
    have h := ref_clear g off c L o row v ck i cv cn w hck hK hi hlen HC hr hkk hv hc
    rw [e1, e2, e3] at h
    exact ref_chg h
  rw [if_neg h6]
  by_cases h7 : plainP ck = 16 ∧ kindP o = 4
  · rw [if_pos h7]
    obtain ⟨hK, hk⟩ := h7
    obtain ⟨hr, hkk⟩ := kind_split hk (by decide)
    cases hbit : (((v.a.toNat &&& cv.a.toNat : Nat) : Int) != 0)
    · rw [if_neg (by simp)]
      exact ref_same hs (ref_any_no g off c L o row v ck i cv cn w hck hK hi hlen HC hr hkk hv hc hbit)
    · rw [if_pos rfl]
      exact ref_same hs (ref_any_yes g off c L o row v ck i cv cn w hck hK hi hlen HC hr hkk hv hc hbit)
  rw [if_neg h7]
  by_cases h8 : plainP ck = 17 ∧ kindP o = 4
  · rw [if_pos h8]
    obtain ⟨hK, hk⟩ := h8
    obtain ⟨hr, hkk⟩ := kind_split hk (by decide)
    cases hbit : (((v.a.toNat &&& cv.a.toNat : Nat) : Int) == cv.a)
    · rw [if_neg (by simp)]
      exact ref_same hs (ref_all_no g off c L o row v ck i cv cn w hck hK hi hlen HC hr hkk hv hc hbit)
    · rw [if_pos rfl]
      exact ref_same hs (ref_all_yes g off c L o row v ck i cv cn w hck hK hi hlen HC hr hkk hv hc hbit)
  rw [if_neg h8]
  by_cases h9 : plainP ck = 9 ∧ kindP o = 4
  · rw [if_pos h9]
    obtain ⟨hK, hk⟩ := h9
    obtain ⟨hr, hkk⟩ := kind_split hk (by decide)
    exact ref_same hs (ref_get g off c L o row v ck i cv cn w hck hK hi hlen HC hr hkk)
  rw [if_neg h9]
  cases hr : rightP o
  · exact ref_same hs (ref_kind0 g off c L i o row v ck cv cn w hck hok hi hlen HC hr)
  · have hkk := kindP_right hr
    rw [hkk] at h1 h2 h3 h4 h5 h6 h7 h8 h9
    refine ref_same hs (ref_kind g off c L i o row v ck cv cn w hck hok hi hlen HC hr ?_)
    exact ⟨h1, h2, fun h => h3 ⟨h.1, .inl h.2⟩, fun h => h3 ⟨h.1, .inr h.2⟩, fun h => h4 (.inl h), fun h => h4 (.inr (.inl h)), fun h => h4 (.inr (.inr h)), h5, h6, h7, h8, h9⟩
theorem ref_do_calls (s : Value) (L : List IV) (ck co : Int) (cv : Vl) (cn : Int) (w : World) (hs : ItemsR w s L) (hok : ItemsG (itms L)) (hc : cv.ok) (hlen : L.length ≤ 8) (hck : -9223372036854775808 ≤ ck ∧ ck ≤ 9223372036854775807) :
    Calls Try.prog 26 #[s, callA ck co cv cn] w (DoR (doP (itms L) ck co cv) w) := by
  have hs' := hs
  obtain ⟨A, c, rfl, h2, h3, h4, h5⟩ := hs
  unfold doP
  by_cases hk : kindOk (plainP ck) = true
  · rw [if_pos hk]
    by_cases ho : 0 ≤ co ∧ co < ((itms L).length : Int)
    · rw [if_pos ho]
      rw [List.length_map] at ho
      obtain ⟨i, rfl⟩ := Int.eq_ofNat_of_zero_le ho.1
      have hi : i < L.length := by omega
      rw [Int.toNat_natCast]
      have hgi : (itms L)[i]? = some L[i].1 := by rw [List.getElem?_map, List.getElem?_eq_getElem hi]; rfl
      rw [hgi]
      simp only
      obtain ⟨g, off, ha, hx, hrow, hrg⟩ := hs'.elem hi
      subst ha
      have hG := hok _ (List.mem_of_getElem? hgi)
      have HC := fun (W : World) (hb : Below w.heap.size w W) => copyAt W g off c L hlen (rangeAt_below hrg hb) (fun p hp => (h5 p hp).below hb) (fun p hp => (hok _ (List.mem_map_of_mem hp)).2.2) i hi
      generalize L[i].1 = x at HC hG ⊢
      obtain ⟨o, row, v⟩ := x
      exact ref_item g off c L o row v ck i cv cn w hck hk hi hlen HC hs' hG.1 hc hG.2.1
    · rw [if_neg ho]
      rw [List.length_map] at ho
      exact (ref_missing A L.length c co ck cv cn w hck hk (by omega)).mono fun e W' ⟨he, hb⟩ => ⟨_, L, he, hs'.below hb, rfl, hb⟩
  · rw [if_neg hk]
    exact (ref_bad A L.length c co ck cv cn w hck (by simpa using hk)).mono fun e W' ⟨he, hb⟩ => ⟨_, L, he, hs'.below hb, rfl, hb⟩
end Go.Proofs.Ytkfaaeklkplhnaa
