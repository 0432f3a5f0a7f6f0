/- The law's calls: what is kept from call to call. -/
import Derived.Test.YtkfaaeklkplhnaaSBackAll
import Derived.Test.YtkfaaeklkplhnaaSAllowsRAll
namespace Go.Proofs.Ytkfaaeklkplhnaa
open Go.RowKit

theorem orP_in (a b : Int) : 0 ≤ orP a b ∧ orP a b < 4294967296 := by unfold orP; rw [IntKind.wrap_u32]; omega
theorem andNotP_in (a b : Int) : 0 ≤ andNotP a b ∧ andNotP a b < 4294967296 := by unfold andNotP; rw [IntKind.wrap_u32]; omega
theorem clipP_ok {v : Vl} (h : v.ok) (n : Int) : (clipP v n).ok := by
  unfold clipP Vl.ok
  simp only
  split <;> first | exact h | omega
def Itm.good (x : Itm) : Prop := x.v.ok ∧ (kindP x.o = 4 → x.v.b = 0 ∧ x.v.c = 0 ∧ x.v.d = 0) ∧ x.row.length ≤ 64
theorem doneP_good (k : Int) {x : Itm} {cv : Vl} (hx : x.good) (hc : cv.ok) : (doneP k x cv).y.good := by
  obtain ⟨h1, h2, h3⟩ := hx
  unfold doneP
  split
  · rename_i hk
    split
    · exact ⟨h1, h2, h3⟩
    · refine ⟨h1, h2, ?_⟩
      have := (kindP_wide (.inl hk.2)).2.2 hk.2
      simp only [List.length_append, List.length_cons, List.length_nil]
      omega
  split
  · split
    · exact ⟨h1, h2, h3⟩
    · rename_i r l hr
      refine ⟨h1, h2, ?_⟩
      rw [hr] at h3
      simp only [List.length_cons] at h3
      simp only
      omega
  split
  · rename_i hk
    exact ⟨clipP_ok hc _, fun h => by simp only at h; omega, h3⟩
  split
  · exact ⟨h1, h2, h3⟩
  split
  · exact ⟨orP_in _ _, fun _ => ⟨rfl, rfl, rfl⟩, h3⟩
  split
  · exact ⟨andNotP_in _ _, fun _ => ⟨rfl, rfl, rfl⟩, h3⟩
  split
  · split <;> exact ⟨h1, h2, h3⟩
  split
  · split <;> exact ⟨h1, h2, h3⟩
  split <;> exact ⟨h1, h2, h3⟩
theorem ItemsG.ok {l : List Itm} (h : ItemsG l) : ItemsOk l := fun x hx => (h x hx).1
theorem doP_good {l : List Itm} {k o : Int} {cv : Vl} (hl : ItemsG l) (hc : cv.ok) : ItemsG (doP l k o cv).l := by
  unfold doP
  split
  · split
    · split
      · rename_i x hx
        split
        · intro y hy
          rcases List.mem_or_eq_of_mem_set hy with hy | rfl
          · exact hl y hy
          · exact doneP_good _ (hl _ (List.mem_of_getElem? hx)) hc
        · exact hl
      · exact hl
    · exact hl
  · exact hl
theorem doP_length (l : List Itm) (k o : Int) (cv : Vl) : (doP l k o cv).l.length = l.length := by
  unfold doP
  split
  · split
    · split
      · split
        · simp
        · rfl
      · rfl
    · rfl
  · rfl
/-- Both sides' states. -/
structure St8 (w : World) (s x : Value) (L M : List IV) : Prop where
  a : ItemsR w s L
  b : ItemsR w x M
  eq : itms M = itms L
  g : ItemsG (itms L)
  len : L.length ≤ 8
  lenM : M.length ≤ 8
/-- A call's fields. -/
structure Cal where
  k : Int
  o : Int
  v : Vl
  n : Int
def Cal.ok (c : Cal) : Prop := c.v.ok ∧ (-9223372036854775808 ≤ c.k ∧ c.k ≤ 9223372036854775807)
def calF (c : Cal) : List Value := [.int .i64 c.k, .int .i64 c.o, .int .u32 c.v.a, .int .u32 c.v.b, .int .u32 c.v.c, .int .u32 c.v.d, .int .u32 c.n]
theorem calF_len (c : Cal) : (calF c).length = 7 := rfl
theorem calAt {w : World} {g o : Nat} {l : List Cal} (h : w.rangeAt g o (l.flatMap calF)) {j : Nat} (hj : j < l.length) {y : Cal} (hy : y = l[j]) : w.rangeAt g (o + j * 7) [.int .i64 y.k, .int .i64 y.o, .int .u32 y.v.a, .int .u32 y.v.b, .int .u32 y.v.c, .int .u32 y.v.d, .int .u32 y.n] := by
  subst hy
  exact flat_range (f := calF) (m := 7) calF_len h hj
theorem do_at {s : Value} {L : List IV} {ck co : Int} {cv : Vl} {cn : Int} {w : World} {d : DoX} (hd : doP (itms L) ck co cv = d) (hs : ItemsR w s L) (hg : ItemsG (itms L)) (hlen : L.length ≤ 8) (hc : cv.ok ∧ (-9223372036854775808 ≤ ck ∧ ck ≤ 9223372036854775807)) :
    Calls Try.prog 25 #[s, callA ck co cv cn] w (DoR d w) := hd ▸ do_calls s L ck co cv cn w hs hg.ok hc.1 hlen hc.2
theorem refdo_at {s x : Value} {L M : List IV} {ck co : Int} {cv : Vl} {cn : Int} {w w0 : World} {d : DoX} (hd : doP (itms L) ck co cv = d) (h8 : St8 w0 s x L M) (hs : ItemsR w x M) (hc : cv.ok ∧ (-9223372036854775808 ≤ ck ∧ ck ≤ 9223372036854775807)) :
    Calls Try.prog 26 #[x, callA ck co cv cn] w (DoR d w) := by
  rw [← h8.eq] at hd
  exact hd ▸ ref_do_calls x M ck co cv cn w hs (h8.eq ▸ h8.g) hc.1 h8.lenM hc.2
theorem al_at {s : Value} {L : List IV} {ck co : Int} {cv : Vl} {cn f : Int} {r : Vl} {w : World} {d : AlX} (hd : allowsP (itms L) ck co cv f r = d) (hs : ItemsR w s L) (hg : ItemsG (itms L)) (hlen : L.length ≤ 8) (hc : cv.ok ∧ (-9223372036854775808 ≤ ck ∧ ck ≤ 9223372036854775807)) :
    Calls Try.prog 27 #[s, callA ck co cv cn, resA f r] w (AlR d w) := hd ▸ allows_calls s L ck co cv cn f r w hs hg.ok hc.1 hlen hc.2
theorem refal_at {s x : Value} {L M : List IV} {ck co : Int} {cv : Vl} {cn f : Int} {r : Vl} {w w0 : World} {d : AlX} (hd : allowsP (itms L) ck co cv f r = d) (h8 : St8 w0 s x L M) (hs : ItemsR w x M) (hc : cv.ok ∧ (-9223372036854775808 ≤ ck ∧ ck ≤ 9223372036854775807)) :
    Calls Try.prog 28 #[x, callA ck co cv cn, resA f r] w (AlR d w) := by
  rw [← h8.eq] at hd
  exact hd ▸ allowsR_calls x M ck co cv cn f r w hs (h8.eq ▸ h8.g) hc.1 h8.lenM hc.2
theorem allowsP_own (l : List Itm) (ck co : Int) (cv : Vl) : allowsP l ck co cv (doP l ck co cv).f (doP l ck co cv).r = ⟨(doP l ck co cv).l, true⟩ := by
  unfold allowsP
  simp [resEq]
theorem allowsP_good {l : List Itm} {k o f : Int} {cv r : Vl} (hl : ItemsG l) (hc : cv.ok) : ItemsG (allowsP l k o cv f r).l := by
  unfold allowsP
  simp only
  split
  · exact doP_good hl hc
  · split
    · exact hl
    · split <;> exact hl
theorem allowsP_length (l : List Itm) (k o f : Int) (cv r : Vl) : (allowsP l k o cv f r).l.length = l.length := by
  unfold allowsP
  simp only
  split
  · exact doP_length _ _ _ _
  · split
    · rfl
    · split <;> rfl
theorem startP_good (o : Ob) (h : 0 ≤ o.i0 ∧ o.i0 < 4294967296) : (startP o).good := by
  refine ⟨?_, fun hk => ?_, by simp⟩
  · show (startV o).ok
    unfold startV
    split
    · exact clipP_ok h _
    · split
      · exact h
      · exact ⟨by decide, by decide⟩
  · have hk' : kindP o = 4 := hk
    show (startV o).b = 0 ∧ (startV o).c = 0 ∧ (startV o).d = 0
    rw [startV_f hk']
    exact ⟨rfl, rfl, rfl⟩
end Go.Proofs.Ytkfaaeklkplhnaa
