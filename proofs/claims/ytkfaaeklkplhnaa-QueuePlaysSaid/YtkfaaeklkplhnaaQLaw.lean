/- The law: waits that come, and tasks that leave. -/
import Derived.Deep.DeepCutAuto
import Derived.Deep.CutRange
import Derived.Deep.RegionHeld3
import Derived.Test.YtkfaaeklkplhnaaQAlive
namespace Go.Proofs.Ytkfaaeklkplhnaa
open Go.RowKit Go.Shelf

/-- What holds at the head of a round: the ring and the list have the same waits; both lie from B on. -/
structure Side (B q : Nat) (w0 w : World) (x : Value) (nodes : List (Nat × Wt)) : Prop where
  ring : Ring w q nodes
  row : RowW w B 34 x (nodes.map Prod.snd)
  low : ∀ c ∈ qBlocks q nodes, B ≤ c
  below : Below B w0 w
  base : B ≤ w0.heap.size

theorem Side.next {B q : Nat} {w0 w w' : World} {x : Value} {nodes : List (Nat × Wt)} (h : Side B q w0 w x nodes) (hb : Below w.heap.size w w') : Side B q w0 w' x nodes :=
  ⟨h.ring.below hb, h.row.below hb, h.low, h.below.trans (hb.mono (Nat.le_trans h.base h.below.size)), h.base⟩

theorem StepsAt.get {w : World} {ad : Addr} {l : List Stp} (h : StepsAt w (some ad) l) (k : Nat) (hk : k < l.length) : w.cell? (ad.add (k * 5)) = some (.bool l[k].gone) ∧ w.cell? ⟨(ad.add (k * 5)).block, (ad.add (k * 5)).off + 1, none⟩ = some (.int .i64 l[k].w.task) ∧
    w.cell? ⟨(ad.add (k * 5)).block, (ad.add (k * 5)).off + 2, none⟩ = some (.int .i64 l[k].w.kind) ∧ w.cell? ⟨(ad.add (k * 5)).block, (ad.add (k * 5)).off + 3, none⟩ = some (.int .i64 l[k].w.obj) ∧ w.cell? ⟨(ad.add (k * 5)).block, (ad.add (k * 5)).off + 4, none⟩ = some (.int .u32 l[k].w.mask) := by
  obtain ⟨ad', e, r⟩ := h k hk
  cases e
  exact r

theorem cellOn {W W' : World} {a : Addr} {v : Value} (h : W.cell? a = some v) (hb : Below W.heap.size W W') : W'.cell? a = some v := (hb.cell (World.block_lt_of_cell? W _ h)).trans h
theorem keep12 {W W' : World} {a0 a1 a2 a3 a4 a5 a6 a7 a8 a9 a10 a11 : Addr} {v0 v1 v2 v3 v4 v5 v6 v7 v8 v9 v10 v11 : Value} (h : W.cell? a0 = some v0 ∧ W.cell? a1 = some v1 ∧ W.cell? a2 = some v2 ∧ W.cell? a3 = some v3 ∧ W.cell? a4 = some v4 ∧ W.cell? a5 = some v5 ∧ W.cell? a6 = some v6 ∧ W.cell? a7 = some v7 ∧ W.cell? a8 = some v8 ∧ W.cell? a9 = some v9 ∧ W.cell? a10 = some v10 ∧ W.cell? a11 = some v11) (hb : Below W.heap.size W W') : W'.cell? a0 = some v0 ∧ W'.cell? a1 = some v1 ∧ W'.cell? a2 = some v2 ∧ W'.cell? a3 = some v3 ∧ W'.cell? a4 = some v4 ∧ W'.cell? a5 = some v5 ∧ W'.cell? a6 = some v6 ∧ W'.cell? a7 = some v7 ∧ W'.cell? a8 = some v8 ∧ W'.cell? a9 = some v9 ∧ W'.cell? a10 = some v10 ∧ W'.cell? a11 = some v11 := by
  obtain ⟨h0, h1, h2, h3, h4, h5, h6, h7, h8, h9, h10, h11⟩ := h
  exact ⟨cellOn h0 hb, cellOn h1 hb, cellOn h2 hb, cellOn h3 hb, cellOn h4 hb, cellOn h5 hb, cellOn h6 hb, cellOn h7 hb, cellOn h8 hb, cellOn h9 hb, cellOn h10 hb, cellOn h11 hb⟩
theorem keep16 {W W' : World} {a0 a1 a2 a3 a4 a5 a6 a7 a8 a9 a10 a11 a12 a13 a14 a15 : Addr} {v0 v1 v2 v3 v4 v5 v6 v7 v8 v9 v10 v11 v12 v13 v14 v15 : Value} (h : W.cell? a0 = some v0 ∧ W.cell? a1 = some v1 ∧ W.cell? a2 = some v2 ∧ W.cell? a3 = some v3 ∧ W.cell? a4 = some v4 ∧ W.cell? a5 = some v5 ∧ W.cell? a6 = some v6 ∧ W.cell? a7 = some v7 ∧ W.cell? a8 = some v8 ∧ W.cell? a9 = some v9 ∧ W.cell? a10 = some v10 ∧ W.cell? a11 = some v11 ∧ W.cell? a12 = some v12 ∧ W.cell? a13 = some v13 ∧ W.cell? a14 = some v14 ∧ W.cell? a15 = some v15) (hb : Below W.heap.size W W') : W'.cell? a0 = some v0 ∧ W'.cell? a1 = some v1 ∧ W'.cell? a2 = some v2 ∧ W'.cell? a3 = some v3 ∧ W'.cell? a4 = some v4 ∧ W'.cell? a5 = some v5 ∧ W'.cell? a6 = some v6 ∧ W'.cell? a7 = some v7 ∧ W'.cell? a8 = some v8 ∧ W'.cell? a9 = some v9 ∧ W'.cell? a10 = some v10 ∧ W'.cell? a11 = some v11 ∧ W'.cell? a12 = some v12 ∧ W'.cell? a13 = some v13 ∧ W'.cell? a14 = some v14 ∧ W'.cell? a15 = some v15 := by
  obtain ⟨h0, h1, h2, h3, h4, h5, h6, h7, h8, h9, h10, h11, h12, h13, h14, h15⟩ := h
  exact ⟨cellOn h0 hb, cellOn h1 hb, cellOn h2 hb, cellOn h3 hb, cellOn h4 hb, cellOn h5 hb, cellOn h6 hb, cellOn h7 hb, cellOn h8 hb, cellOn h9 hb, cellOn h10 hb, cellOn h11 hb, cellOn h12 hb, cellOn h13 hb, cellOn h14 hb, cellOn h15 hb⟩
theorem len_callsN (q : Nat) (l : List (Nat × Wt)) (N : Nat) (hN : N = l.length) (w : World) (hR : Ring w q l) :
    Calls Try.prog 21 #[.pointer (some ⟨q, 0, none⟩)] w fun e W' => e = .returned (.int .i64 N) ∧ w = W' := by
  rw [hN]
  exact len_calls q l w hR
theorem box_on {w w1 : World} {b : Nat} {O : Obj} (h : w.heap[b]? = some O) (hb : Below w.heap.size w w1) : w1.heap[b]? = some O := (hb.block b (Array.getElem?_eq_some_iff.1 h).1).trans h
theorem rowOf {w : World} {base : Nat} {v : Value} {l : List (Nat × Wt)} (h : w.ownsRow base 27 4 v l.length (flatW (l.map Prod.snd))) : RowW w base 27 v (l.map Prod.snd) := by
  unfold RowW
  rw [List.length_map]
  exact h
theorem ofW_few {l : List Wt} {obj : Int} {n : Nat} (h : l.length ≤ n) : (ofW l obj).length ≤ n := by unfold ofW; exact Nat.le_trans (List.length_filter_le _ _) h
theorem same_refl (b1 b2 : Nat) (v1 v2 : Value) (l : List Wt) (w : World) (h1 : RowW w b1 34 v1 l) (h2 : RowW w b2 34 v2 l) :
    Calls Try.prog 16 #[v1, v2] w fun e W' => e = .returned (.bool true) ∧ Below w.heap.size w W' := by
  refine (same_calls b1 b2 v1 v2 l l w h1 h2).mono ?_
  rintro e w' ⟨rfl, hb⟩
  exact ⟨by rw [decide_eq_true rfl], hb⟩

set_option maxRecDepth 100000 in
set_option maxHeartbeats 30000000 in
theorem law_calls (A : Option Addr) (c : Nat) (l : List Stp) (task obj : Int) (w : World) (hst : StepsAt w A l) (hlen : l.length ≤ 9223372036854775807) :
    Calls Try.prog 3 #[.slice A l.length c, .int .i64 task, .int .i64 obj] w fun e W' => e = .returned (.bool true) ∧ Below w.heap.size w W' := by
  by_cases hbig : 100 < l.length
  · have hb : decide (100 < (l.length : Int)) = true := by simp; omega
    go_enter Try.func3, Try.ntmps3
    go_wp2_with (go_at_call 7; refine (alive_calls _).mono ?_; rintro e w1 ⟨rfl, hb1⟩)
    go_ret
    exact ⟨rfl, hb1⟩
  have hsm : l.length ≤ 100 := by omega
  clear hbig
  go_enter Try.func3, Try.ntmps3
  go_wp2
  go_loopw [8, 9] (fun x i wr => ∃ (k : Nat) (nodes : List (Nat × Wt)), k ≤ l.length ∧ i = .int .i64 k ∧ Side w.heap.size w.heap.size w wr x nodes) (fun _ i _ => l.length - (intOf i).toNat)
  case atStart =>
    refine ⟨0, [], Nat.zero_le _, rfl, ⟨Ring.new w, ?_, by rw [qBlocks_eq]; simp, (Below.refl _ _).alloc (Nat.le_refl _) _, Nat.le_refl _⟩⟩
    unfold RowW
    rw [List.map_nil, flatW_nil]
    exact World.ownsRow_nil _ _ _ _
  case round =>
    obtain ⟨k, nodes, hk, rfl, hS⟩ := hrel
    by_cases hlt : k < l.length
    · obtain ⟨ad, rfl, s0, s1, s2, s3, s4⟩ := (hst.below (w' := wr) hS.below) k hlt
      go_upto_if 41 with fail
      go_cut [8, 10, 11, 12, 13, 14, 15, 16, 17] from 31 to 175 (fun s8 s10 s11 s12 s13 s14 s15 s16 s17 wx => ∃ nodes', Side w.heap.size w.heap.size w wx s8 nodes')
      case first =>
        by_cases hg : l[k].gone = true
        · rw [hg] at s0 ⊢
          cases hfd : findW nodes l[k].w.task with
          | none =>
            have hpl := place_none hfd
            go_wp2_with fail
            refine (remove_none w.heap.size nodes l[k].w.task _ hS.ring hfd).mono ?_
            rintro e w1 ⟨rfl, hb1⟩
            have hS1 := hS.next hb1
            clear hS hb1 s0 s1 s2 s3 s4 hfd
            have hS2 := hS1.next ((Below.refl _ w1).alloc (Nat.le_refl _) (.cells #[.int .i64 0, .int .i64 0, .int .i64 0, .int .u32 0] 27))
            obtain ⟨s0, s1, s2, s3, s4⟩ := (hst.below hS1.below).get k hlt
            obtain ⟨t0, t1, t2, t3, t4⟩ := (hst.below hS2.below).get k hlt
            go_wp2_with fail
            refine (removeL_none w.heap.size u8 _ l[k].w.task _ (by rw [hpl]; decide) hS2.row).mono ?_
            rintro e w3 ⟨rfl, hb3⟩
            obtain ⟨c0, c1, c2, c3, f0, f1, f2, f3⟩ := blk4 (own_first hb3)
            have hS3 := hS2.next hb3
            have hlt3 : w1.heap.size < w3.heap.size := by have := hb3.size; simp at this; omega
            have hneq : ∀ W, (binOp .neq 34 (.agg #[.int .i64 0, .int .i64 0, .int .i64 0, .int .u32 0]) (.agg #[.int .i64 0, .int .i64 0, .int .i64 0, .int .u32 0])).run Try.prog W = .ok (.bool false) W := fun W => wait_neq _ (.inr rfl) Wt.z Wt.z W
            clear s0 s1 s2 s3 s4 t0 t1 t2 t3 t4 hb3
            go_wp2_with fail
            go_meet
            exact ⟨nodes, hS3.next ((Below.refl _ w3).alloc (Nat.le_refl _) _)⟩
          | some y =>
            obtain ⟨a, r, rfl, hd, ha, hy⟩ := findW_split' hfd
            have hpl := place_some (r := r) ha hy
            have hka : a.length < ((a ++ y :: r).map Prod.snd).length := by simp
            go_wp2_with fail
            refine (remove_some w.heap.size a r l[k].w.task y _ hS.ring hfd).mono ?_
            rintro e w1 ⟨rfl, hR1, hc1⟩
            have hrow1 := hS.row.chg hc1 (hS.row.not_ring hS.ring (by decide) (by decide))
            have hB1 := hc1.below hS.below hS.below.size hS.low
            have hlow1 : ∀ c ∈ qBlocks w.heap.size (a ++ r), w.heap.size ≤ c := fun c hc => hS.low c (by
              rw [qBlocks_eq, List.map_append] at hc ⊢
              simp only [List.map_cons, List.mem_cons, List.mem_append] at hc ⊢
              rcases hc with h | h | h
              · exact .inl h
              · exact .inr (.inl h)
              · exact .inr (.inr (.inr h)))
            clear hS s0 s1 s2 s3 s4 hfd hc1 hd ha hy
            have hb2 : Below w1.heap.size w1 (w1.alloc (.cells #[.int .i64 y.2.task, .int .i64 y.2.kind, .int .i64 y.2.obj, .int .u32 y.2.mask] 27)) := (Below.refl _ w1).alloc (Nat.le_refl _) _
            have hR2 := hR1.below hb2
            have hrow2 := hrow1.below hb2
            have hB2 := hB1.trans (hb2.mono hB1.size)
            obtain ⟨s0, s1, s2, s3, s4⟩ := (hst.below hB1).get k hlt
            obtain ⟨t0, t1, t2, t3, t4⟩ := (hst.below hB2).get k hlt
            clear hR1 hrow1
            have HL := removeL_some w.heap.size u8 _ l[k].w.task a.length _ hka hpl hrow2 (by have := hR2.ts.few; simp at this ⊢; omega)
            rw [at_place, remove_same] at HL
            clear hpl
            go_wp2_with fail
            refine HL.mono ?_
            rintro e w3 ⟨v3, rfl, hrow3, hb3⟩
            obtain ⟨c0, c1, c2, c3, f0, f1, f2, f3⟩ := blk4 (own_first hb3)
            have hR3 := hR2.below hb3
            have hB3 := hB2.trans (hb3.mono hB2.size)
            have hS3 : Side w.heap.size w.heap.size w w3 v3 (a ++ r) := ⟨hR3, hrow3.lower hB2.size, hlow1, hB3, Nat.le_refl _⟩
            have hlt3 : w1.heap.size < w3.heap.size := by have := hb3.size; simp at this; omega
            have hneq : ∀ W, (binOp .neq 34 (.agg #[.int .i64 y.2.task, .int .i64 y.2.kind, .int .i64 y.2.obj, .int .u32 y.2.mask]) (.agg #[.int .i64 y.2.task, .int .i64 y.2.kind, .int .i64 y.2.obj, .int .u32 y.2.mask])).run Try.prog W = .ok (.bool false) W := fun W => by
              have := wait_neq 34 (.inr rfl) y.2 y.2 W
              simpa using this
            clear s0 s1 s2 s3 s4 t0 t1 t2 t3 t4 hb3 HL hrow2 hR2 hrow3 hB2 hB1 hb2
            go_wp2_with fail
            go_meet
            exact ⟨a ++ r, hS3.next ((Below.refl _ w3).alloc (Nat.le_refl _) _)⟩
        · have hg' : l[k].gone = false := by simpa using hg
          rw [hg'] at s0 ⊢
          clear hg
          by_cases hbad : l[k].w.task < 0 ∨ 16 ≤ l[k].w.task
          · go_wp2_with fail
            refine (add_bad w.heap.size nodes l[k].w _ hS.ring hbad).mono ?_
            rintro e w1 ⟨rfl, hb1⟩
            have hS1 := hS.next hb1
            obtain ⟨t0, t1, t2, t3, t4⟩ := (hst.below hS1.below).get k hlt
            clear hS hb1 s0 s1 s2 s3 s4
            go_wp2_with fail
            refine (addL_bad w.heap.size u8 _ l[k].w _ (by omega) hS1.row).mono ?_
            rintro e w3 ⟨rfl, hb3⟩
            have hS3 := hS1.next hb3
            clear hb3 hS1 t0 t1 t2 t3 t4 hbad
            go_wp2_with fail
            go_meet
            exact ⟨nodes, hS3⟩
          · cases hfd : findW nodes l[k].w.task with
            | some y =>
              obtain ⟨a, r, rfl, hd, ha, hy⟩ := findW_split' hfd
              have hpl := place_some (r := r) ha hy
              go_wp2_with fail
              refine (add_there w.heap.size _ l[k].w y _ hS.ring (by omega) (by omega) hfd).mono ?_
              rintro e w1 ⟨rfl, hb1⟩
              have hS1 := hS.next hb1
              obtain ⟨t0, t1, t2, t3, t4⟩ := (hst.below hS1.below).get k hlt
              clear hS hb1 s0 s1 s2 s3 s4 hfd hd ha hy
              have HL := addL_there w.heap.size u8 _ l[k].w _ (by omega) (by omega) (by rw [hpl]; omega) hS1.row
              clear hpl hbad
              go_wp2_with fail
              refine HL.mono ?_
              rintro e w3 ⟨rfl, hb3⟩
              have hS3 := hS1.next hb3
              clear hb3 hS1 t0 t1 t2 t3 t4 HL
              go_wp2_with fail
              go_meet
              exact ⟨_, hS3⟩
            | none =>
              have hpl := place_none hfd
              go_wp2_with fail
              refine (add_new w.heap.size _ l[k].w _ hS.ring (by omega) (by omega) hfd).mono ?_
              rintro e w1 ⟨rfl, ⟨b1, hb1, hR1⟩, hc1⟩
              have hrow1 := hS.row.chg hc1 (hS.row.not_ring hS.ring (by decide) (by decide))
              have hB1 := hc1.below hS.below hS.below.size hS.low
              have hlow1 := qb_ge (x := l[k].w) hS.low (Nat.le_trans hS.below.size hb1)
              obtain ⟨t0, t1, t2, t3, t4⟩ := (hst.below hB1).get k hlt
              have HL := addL_new w.heap.size u8 _ l[k].w _ (by omega) (by omega) (by rw [hpl]; decide) hrow1 (by have := hS.ring.ts.few; simp at this ⊢; omega)
              clear hS s0 s1 s2 s3 s4 hfd hc1 hpl hbad hrow1
              go_wp2_with fail
              refine HL.mono ?_
              rintro e w3 ⟨v3, rfl, hrow3, hb3⟩
              have hR3 := hR1.below hb3
              have hB3 := hB1.trans (hb3.mono hB1.size)
              have hS3 : Side w.heap.size w.heap.size w w3 v3 (nodes ++ [(b1, l[k].w)]) := ⟨hR3, by rw [List.map_append]; exact hrow3.lower hB1.size, hlow1, hB3, Nat.le_refl _⟩
              clear hb3 HL t0 t1 t2 t3 t4 hR1 hrow3 hR3 hB1
              go_wp2_with fail
              go_meet
              exact ⟨_, hS3⟩
      case rest =>
        obtain ⟨nd, hS1⟩ := hcut
        clear hS s0 s1 s2 s3 s4
        have hfew : (nd.map Prod.snd).length ≤ 1000 := by have := hS1.ring.ts.few; simp at this ⊢; omega
        have HN := next_calls w.heap.size nd task wc hS1.ring
        rw [tell_same] at HN
        obtain ⟨A8, c8, hvl8, _⟩ := hS1.row.slice
        have hvl : ∃ (A : Option Addr) (N c : Nat), u8 = .slice A N c ∧ N = nd.length := ⟨A8, _, c8, hvl8, by rw [List.length_map]⟩
        clear hvl8
        have HL := fun W h => nextL_calls w.heap.size u8 (nd.map Prod.snd) task W h hfew
        cases hnx : nextL (nd.map Prod.snd) task with
        | none =>
          cases hfd : findW nd task with
          | none =>
            have hpl := place_none hfd
            as_aux_lemma =>
              rw [hnx] at HN HL
              simp only [tellL] at HN HL
              go_wp2_with fail
              refine HN.mono ?_
              rintro e w1 ⟨rfl, hb1⟩
              have hS2 := hS1.next hb1
              have hba : Below w1.heap.size w1 (w1.alloc (.cells #[.int .i64 0, .int .i64 0, .int .i64 0, .int .u32 0] 27)) := (Below.refl _ w1).alloc (Nat.le_refl _) _
              have hS3 := hS2.next hba
              go_wp2_with fail
              refine (HL _ hS3.row).mono ?_
              rintro e w3 ⟨rfl, hb3⟩
              have hS4 := hS3.next hb3
              have g1 := own_first hb3
              clear hba hb1 hb3 hS3 hS2
              have hbb : Below w3.heap.size w3 (w3.alloc (.cells #[.int .i64 0, .int .i64 0, .int .i64 0, .int .u32 0] 34)) := (Below.refl _ w3).alloc (Nat.le_refl _) _
              have hS5 := hS4.next hbb
              have g1b := box_on g1 hbb
              go_wp2_with fail
              refine (findq_none w.heap.size nd task _ hS5.ring hfd).mono ?_
              rintro e w5 ⟨rfl, hb5⟩
              have hS6 := hS5.next hb5
              have g2 := own_first hb5
              have g1c := box_on g1b hb5
              clear hbb g1 g1b hb5 hS5 hS4
              have hbc : Below w5.heap.size w5 (w5.alloc (.cells #[.int .i64 0, .int .i64 0, .int .i64 0, .int .u32 0] 27)) := (Below.refl _ w5).alloc (Nat.le_refl _) _
              have hS7 := hS6.next hbc
              have g1d := box_on g1c hbc
              have g2d := box_on g2 hbc
              have g3d := World.alloc_heap_new w5 (.cells #[.int .i64 0, .int .i64 0, .int .i64 0, .int .u32 0] 27)
              clear hbc g1c g2 hS6
              go_wp2_with fail
              refine (place_calls w.heap.size _ _ task _ hS7.row).mono ?_
              rintro e w6 ⟨rfl, rfl⟩
              rw [hpl]
              obtain ⟨W, hW⟩ : ∃ W, W = w5.alloc (.cells #[.int .i64 0, .int .i64 0, .int .i64 0, .int .u32 0] 27) := ⟨_, rfl⟩
              rw [← hW] at g1d g2d g3d hS7 ⊢
              obtain ⟨c0, c1, c2, c3, f0, f1, f2, f3⟩ := blk4 g1d
              obtain ⟨d0, d1, d2, d3, e0, e1, e2, e3⟩ := blk4 g2d
              obtain ⟨p0, p1, p2, p3, q0, q1, q2, q3⟩ := blk4 g3d
              clear g1d g2d g3d hW hfd hnx hpl
              have hn1 : ∀ W, (binOp .neq 34 (.agg #[.int .i64 0, .int .i64 0, .int .i64 0, .int .u32 0]) (.agg #[.int .i64 0, .int .i64 0, .int .i64 0, .int .u32 0])).run Try.prog W = .ok (.bool false) W := fun W => wait_neq 34 (.inr rfl) Wt.z Wt.z W
              obtain ⟨A8, N, c8, hv, hN0⟩ := hvl
              subst hv
              have hN := Lib.hid hN0
              clear hN0
              have hn2 : ∀ W, (binOp .neq 27 (.agg #[.int .i64 0, .int .i64 0, .int .i64 0, .int .u32 0]) (.agg #[.int .i64 0, .int .i64 0, .int .i64 0, .int .u32 0])).run Try.prog W = .ok (.bool false) W := fun W => wait_neq 27 (.inl rfl) Wt.z Wt.z W
              have hSd := hS7.next ((Below.refl _ W).drew)
              clear hS7
              go_wp2_with fail
              have hb0 : Below W.heap.size W W.drew := (Below.refl _ W).drew
              have hHeld0 : (fun W' => W'.cell? ⟨w1.heap.size, 0, none⟩ = some (.int .i64 0) ∧ W'.cell? ⟨w1.heap.size, 1, none⟩ = some (.int .i64 0) ∧ W'.cell? ⟨w1.heap.size, 2, none⟩ = some (.int .i64 0) ∧ W'.cell? ⟨w1.heap.size, 3, none⟩ = some (.int .u32 0) ∧ W'.cell? ⟨w3.heap.size, 0, none⟩ = some (.int .i64 0) ∧ W'.cell? ⟨w3.heap.size, 1, none⟩ = some (.int .i64 0) ∧ W'.cell? ⟨w3.heap.size, 2, none⟩ = some (.int .i64 0) ∧ W'.cell? ⟨w3.heap.size, 3, none⟩ = some (.int .u32 0) ∧ W'.cell? ⟨w5.heap.size, 0, none⟩ = some (.int .i64 0) ∧ W'.cell? ⟨w5.heap.size, 1, none⟩ = some (.int .i64 0) ∧ W'.cell? ⟨w5.heap.size, 2, none⟩ = some (.int .i64 0) ∧ W'.cell? ⟨w5.heap.size, 3, none⟩ = some (.int .u32 0)) W := ⟨c0, c1, c2, c3, d0, d1, d2, d3, p0, p1, p2, p3⟩
              refine wp_region_held_drew (S := (fun W' => W'.cell? ⟨w1.heap.size, 0, none⟩ = some (.int .i64 0) ∧ W'.cell? ⟨w1.heap.size, 1, none⟩ = some (.int .i64 0) ∧ W'.cell? ⟨w1.heap.size, 2, none⟩ = some (.int .i64 0) ∧ W'.cell? ⟨w1.heap.size, 3, none⟩ = some (.int .u32 0) ∧ W'.cell? ⟨w3.heap.size, 0, none⟩ = some (.int .i64 0) ∧ W'.cell? ⟨w3.heap.size, 1, none⟩ = some (.int .i64 0) ∧ W'.cell? ⟨w3.heap.size, 2, none⟩ = some (.int .i64 0) ∧ W'.cell? ⟨w3.heap.size, 3, none⟩ = some (.int .u32 0) ∧ W'.cell? ⟨w5.heap.size, 0, none⟩ = some (.int .i64 0) ∧ W'.cell? ⟨w5.heap.size, 1, none⟩ = some (.int .i64 0) ∧ W'.cell? ⟨w5.heap.size, 2, none⟩ = some (.int .i64 0) ∧ W'.cell? ⟨w5.heap.size, 3, none⟩ = some (.int .u32 0))) (by kernel_rfl) (keep12 hHeld0 hb0) (fun hH0 => ?_)
              as_aux_lemma =>
                refine wpAnyH_take (i := 0) (oi := ?o0a) (v := ?v0a) ?hi0a (by kernel_rfl) (by kernel_rfl) (by kernel_rfl) ?hQ0a (Or.inl ⟨?hw0a, ?hr0a⟩) hH0 ?rest0a
                case hi0a => simp only [List.getElem?_toArray, List.getElem?_cons_zero]; rfl
                case hQ0a => exact fun _ _ _ h => h
                case hw0a => kernel_rfl
                case hr0a => intro w hSw; (try dsimp only at hSw); go_simp; try with_reducible rfl
                try simp only [Act.put, List.setIfInBounds_toArray, List.set_cons_zero, List.set_cons_succ]
                refine wpAnyH_take (i := 1) (oi := ?o1a) (v := ?v1a) ?hi1a (by kernel_rfl) (by kernel_rfl) (by kernel_rfl) ?hQ1a (Or.inl ⟨?hw1a, ?hr1a⟩) hH0 ?rest1a
                case hi1a => simp only [List.getElem?_toArray, List.getElem?_cons_succ, List.getElem?_cons_zero]; rfl
                case hQ1a => exact fun _ _ _ h => h
                case hw1a => kernel_rfl
                case hr1a => intro w hSw; (try dsimp only at hSw); go_simp; try with_reducible rfl
                try simp only [Act.put, List.setIfInBounds_toArray, List.set_cons_zero, List.set_cons_succ]
                refine wpAnyH_take (i := 2) (oi := ?o2a) (v := ?v2a) ?hi2a (by kernel_rfl) (by kernel_rfl) (by kernel_rfl) ?hQ2a (Or.inl ⟨?hw2a, ?hr2a⟩) hH0 ?rest2a
                case hi2a => simp only [List.getElem?_toArray, List.getElem?_cons_succ, List.getElem?_cons_zero]; rfl
                case hQ2a => exact fun _ _ _ h => h
                case hw2a => kernel_rfl
                case hr2a => intro w hSw; (try dsimp only at hSw); go_simp; try with_reducible rfl
                try simp only [Act.put, List.setIfInBounds_toArray, List.set_cons_zero, List.set_cons_succ]
                refine wpAnyH_take (i := 3) (oi := ?o3a) (v := ?v3a) ?hi3a (by kernel_rfl) (by kernel_rfl) (by kernel_rfl) ?hQ3a (Or.inl ⟨?hw3a, ?hr3a⟩) hH0 ?rest3a
                case hi3a => simp only [List.getElem?_toArray, List.getElem?_cons_succ, List.getElem?_cons_zero]; rfl
                case hQ3a => exact fun _ _ _ h => h
                case hw3a => kernel_rfl
                case hr3a => intro w hSw; (try dsimp only at hSw); go_simp; try with_reducible rfl
                try simp only [Act.put, List.setIfInBounds_toArray, List.set_cons_zero, List.set_cons_succ]
                refine wpAnyH_take (i := 4) (oi := ?o4a) (v := ?v4a) ?hi4a (by kernel_rfl) (by kernel_rfl) (by kernel_rfl) ?hQ4a (Or.inl ⟨?hw4a, ?hr4a⟩) hH0 ?rest4a
                case hi4a => simp only [List.getElem?_toArray, List.getElem?_cons_succ, List.getElem?_cons_zero]; rfl
                case hQ4a => exact fun _ _ _ h => h
                case hw4a => kernel_rfl
                case hr4a => intro w hSw; (try dsimp only at hSw); go_simp; try with_reducible rfl
                try simp only [Act.put, List.setIfInBounds_toArray, List.set_cons_zero, List.set_cons_succ]
                refine wpAnyH_take (i := 5) (oi := ?o5a) (v := ?v5a) ?hi5a (by kernel_rfl) (by kernel_rfl) (by kernel_rfl) ?hQ5a (Or.inl ⟨?hw5a, ?hr5a⟩) hH0 ?rest5a
                case hi5a => simp only [List.getElem?_toArray, List.getElem?_cons_succ, List.getElem?_cons_zero]; rfl
                case hQ5a => exact fun _ _ _ h => h
                case hw5a => kernel_rfl
                case hr5a => intro w hSw; (try dsimp only at hSw); go_simp; try with_reducible rfl
                try simp only [Act.put, List.setIfInBounds_toArray, List.set_cons_zero, List.set_cons_succ]
                refine wpAnyH_take (i := 6) (oi := ?o6a) (v := ?v6a) ?hi6a (by kernel_rfl) (by kernel_rfl) (by kernel_rfl) ?hQ6a (Or.inl ⟨?hw6a, ?hr6a⟩) hH0 ?rest6a
                case hi6a => simp only [List.getElem?_toArray, List.getElem?_cons_succ, List.getElem?_cons_zero]; rfl
                case hQ6a => exact fun _ _ _ h => h
                case hw6a => kernel_rfl
                case hr6a => intro w hSw; (try dsimp only at hSw); go_simp; try with_reducible rfl
                try simp only [Act.put, List.setIfInBounds_toArray, List.set_cons_zero, List.set_cons_succ]
                refine wpAnyH_take (i := 7) (oi := ?o7a) (v := ?v7a) ?hi7a (by kernel_rfl) (by kernel_rfl) (by kernel_rfl) ?hQ7a (Or.inl ⟨?hw7a, ?hr7a⟩) hH0 ?rest7a
                case hi7a => simp only [List.getElem?_toArray, List.getElem?_cons_succ, List.getElem?_cons_zero]; rfl
                case hQ7a => exact fun _ _ _ h => h
                case hw7a => kernel_rfl
                case hr7a => intro w hSw; (try dsimp only at hSw); go_simp; try with_reducible rfl
                try simp only [Act.put, List.setIfInBounds_toArray, List.set_cons_zero, List.set_cons_succ]
                refine wpAnyH_take (i := 8) (oi := ?o8a) (v := ?v8a) ?hi8a (by kernel_rfl) (by kernel_rfl) (by kernel_rfl) ?hQ8a (Or.inl ⟨?hw8a, ?hr8a⟩) hH0 ?rest8a
                case hi8a => simp only [List.getElem?_toArray, List.getElem?_cons_succ, List.getElem?_cons_zero]; rfl
                case hQ8a => exact fun _ _ _ h => h
                case hw8a => kernel_rfl
                case hr8a => intro w hSw; (try dsimp only at hSw); go_simp; try with_reducible rfl
                try simp only [Act.put, List.setIfInBounds_toArray, List.set_cons_zero, List.set_cons_succ]
                refine wpAnyH_take (i := 9) (oi := ?o9a) (v := ?v9a) ?hi9a (by kernel_rfl) (by kernel_rfl) (by kernel_rfl) ?hQ9a (Or.inl ⟨?hw9a, ?hr9a⟩) hH0 ?rest9a
                case hi9a => simp only [List.getElem?_toArray, List.getElem?_cons_succ, List.getElem?_cons_zero]; rfl
                case hQ9a => exact fun _ _ _ h => h
                case hw9a => kernel_rfl
                case hr9a => intro w hSw; (try dsimp only at hSw); go_simp; try with_reducible rfl
                try simp only [Act.put, List.setIfInBounds_toArray, List.set_cons_zero, List.set_cons_succ]
                refine wpAnyH_take (i := 10) (oi := ?o10a) (v := ?v10a) ?hi10a (by kernel_rfl) (by kernel_rfl) (by kernel_rfl) ?hQ10a (Or.inl ⟨?hw10a, ?hr10a⟩) hH0 ?rest10a
                case hi10a => simp only [List.getElem?_toArray, List.getElem?_cons_succ, List.getElem?_cons_zero]; rfl
                case hQ10a => exact fun _ _ _ h => h
                case hw10a => kernel_rfl
                case hr10a => intro w hSw; (try dsimp only at hSw); go_simp; try with_reducible rfl
                try simp only [Act.put, List.setIfInBounds_toArray, List.set_cons_zero, List.set_cons_succ]
                refine wpAnyH_take (i := 11) (oi := ?o11a) (v := ?v11a) ?hi11a (by kernel_rfl) (by kernel_rfl) (by kernel_rfl) ?hQ11a (Or.inl ⟨?hw11a, ?hr11a⟩) hH0 ?rest11a
                case hi11a => simp only [List.getElem?_toArray, List.getElem?_cons_succ, List.getElem?_cons_zero]; rfl
                case hQ11a => exact fun _ _ _ h => h
                case hw11a => kernel_rfl
                case hr11a => intro w hSw; (try dsimp only at hSw); go_simp; try with_reducible rfl
                try simp only [Act.put, List.setIfInBounds_toArray, List.set_cons_zero, List.set_cons_succ]
                refine wpAnyH_take (i := 12) (oi := ?o12a) (v := ?v12a) ?hi12a (by kernel_rfl) (by kernel_rfl) (by kernel_rfl) ?hQ12a (Or.inl ⟨?hw12a, ?hr12a⟩) hH0 ?rest12a
                case hi12a => simp only [List.getElem?_toArray, List.getElem?_cons_succ, List.getElem?_cons_zero]; rfl
                case hQ12a => exact fun _ _ _ h => h
                case hw12a => kernel_rfl
                case hr12a => intro w hSw; (try dsimp only at hSw); go_simp; try with_reducible rfl
                try simp only [Act.put, List.setIfInBounds_toArray, List.set_cons_zero, List.set_cons_succ]
                refine wpAnyH_take (i := 13) (oi := ?o13a) (v := ?v13a) ?hi13a (by kernel_rfl) (by kernel_rfl) (by kernel_rfl) ?hQ13a (Or.inl ⟨?hw13a, ?hr13a⟩) hH0 ?rest13a
                case hi13a => simp only [List.getElem?_toArray, List.getElem?_cons_succ, List.getElem?_cons_zero]; rfl
                case hQ13a => exact fun _ _ _ h => h
                case hw13a => kernel_rfl
                case hr13a => intro w hSw; (try dsimp only at hSw); go_simp; try with_reducible rfl
                try simp only [Act.put, List.setIfInBounds_toArray, List.set_cons_zero, List.set_cons_succ]
                refine wpAnyH_take (i := 14) (oi := ?o14a) (v := ?v14a) ?hi14a (by kernel_rfl) (by kernel_rfl) (by kernel_rfl) ?hQ14a (Or.inl ⟨?hw14a, ?hr14a⟩) hH0 ?rest14a
                case hi14a => simp only [List.getElem?_toArray, List.getElem?_cons_succ, List.getElem?_cons_zero]; rfl
                case hQ14a => exact fun _ _ _ h => h
                case hw14a => kernel_rfl
                case hr14a => intro w hSw; (try dsimp only at hSw); go_simp; try with_reducible rfl
                try simp only [Act.put, List.setIfInBounds_toArray, List.set_cons_zero, List.set_cons_succ]
                refine wpAnyH_take (i := 15) (oi := ?o15a) (v := ?v15a) ?hi15a (by kernel_rfl) (by kernel_rfl) (by kernel_rfl) ?hQ15a (Or.inl ⟨?hw15a, ?hr15a⟩) hH0 ?rest15a
                case hi15a => simp only [List.getElem?_toArray, List.getElem?_cons_succ, List.getElem?_cons_zero]; rfl
                case hQ15a => exact fun _ _ _ h => h
                case hw15a => kernel_rfl
                case hr15a => intro w hSw; (try dsimp only at hSw); go_simp; try with_reducible rfl
                try simp only [Act.put, List.setIfInBounds_toArray, List.set_cons_zero, List.set_cons_succ]
                as_aux_lemma =>
                  refine wpAnyH_take (i := 16) (oi := ?o16a) (v := ?v16a) ?hi16a (by kernel_rfl) (by kernel_rfl) (by kernel_rfl) ?hQ16a (Or.inl ⟨?hw16a, ?hr16a⟩) hH0 ?rest16a
                  case hi16a => simp only [List.getElem?_toArray, List.getElem?_cons_succ, List.getElem?_cons_zero]; rfl
                  case hQ16a => exact fun _ _ _ h => h
                  case hw16a => kernel_rfl
                  case hr16a => intro w hSw; (try dsimp only at hSw); go_simp; try with_reducible rfl
                  try simp only [Act.put, List.setIfInBounds_toArray, List.set_cons_zero, List.set_cons_succ]
                  refine wpAnyH_take (i := 17) (oi := ?o17a) (v := undef) ?hi17a (by kernel_rfl) (by kernel_rfl) (by kernel_rfl) ?hQ17a (Or.inr ⟨?hw17a, rfl⟩) hH0 ?rest17a
                  case hi17a => simp only [List.getElem?_toArray, List.getElem?_cons_succ, List.getElem?_cons_zero]; rfl
                  case hQ17a => exact fun _ _ _ h => h
                  case hw17a => kernel_rfl
                  try simp only [Act.put, List.setIfInBounds_toArray, List.set_cons_zero, List.set_cons_succ]
                  refine wpAnyH_take (i := 18) (oi := ?o18a) (v := undef) ?hi18a (by kernel_rfl) (by kernel_rfl) (by kernel_rfl) ?hQ18a (Or.inr ⟨?hw18a, rfl⟩) hH0 ?rest18a
                  case hi18a => simp only [List.getElem?_toArray, List.getElem?_cons_succ, List.getElem?_cons_zero]; rfl
                  case hQ18a => exact fun _ _ _ h => h
                  case hw18a => kernel_rfl
                  try simp only [Act.put, List.setIfInBounds_toArray, List.set_cons_zero, List.set_cons_succ]
                  refine wpAnyH_take (i := 19) (oi := ?o19a) (v := undef) ?hi19a (by kernel_rfl) (by kernel_rfl) (by kernel_rfl) ?hQ19a (Or.inr ⟨?hw19a, rfl⟩) hH0 ?rest19a
                  case hi19a => simp only [List.getElem?_toArray, List.getElem?_cons_succ, List.getElem?_cons_zero]; rfl
                  case hQ19a => exact fun _ _ _ h => h
                  case hw19a => kernel_rfl
                  try simp only [Act.put, List.setIfInBounds_toArray, List.set_cons_zero, List.set_cons_succ]
                  refine wpAnyH_take (i := 20) (oi := ?o20a) (v := undef) ?hi20a (by kernel_rfl) (by kernel_rfl) (by kernel_rfl) ?hQ20a (Or.inr ⟨?hw20a, rfl⟩) hH0 ?rest20a
                  case hi20a => simp only [List.getElem?_toArray, List.getElem?_cons_succ, List.getElem?_cons_zero]; rfl
                  case hQ20a => exact fun _ _ _ h => h
                  case hw20a => kernel_rfl
                  try simp only [Act.put, List.setIfInBounds_toArray, List.set_cons_zero, List.set_cons_succ]
                  refine wpAnyH_take (i := 21) (oi := ?o21a) (v := undef) ?hi21a (by kernel_rfl) (by kernel_rfl) (by kernel_rfl) ?hQ21a (Or.inr ⟨?hw21a, rfl⟩) hH0 ?rest21a
                  case hi21a => simp only [List.getElem?_toArray, List.getElem?_cons_succ, List.getElem?_cons_zero]; rfl
                  case hQ21a => exact fun _ _ _ h => h
                  case hw21a => kernel_rfl
                  try simp only [Act.put, List.setIfInBounds_toArray, List.set_cons_zero, List.set_cons_succ]
                  refine wpAnyH_take (i := 22) (oi := ?o22a) (v := undef) ?hi22a (by kernel_rfl) (by kernel_rfl) (by kernel_rfl) ?hQ22a (Or.inr ⟨?hw22a, rfl⟩) hH0 ?rest22a
                  case hi22a => simp only [List.getElem?_toArray, List.getElem?_cons_succ, List.getElem?_cons_zero]; rfl
                  case hQ22a => exact fun _ _ _ h => h
                  case hw22a => kernel_rfl
                  try simp only [Act.put, List.setIfInBounds_toArray, List.set_cons_zero, List.set_cons_succ]
                  refine wpAnyH_take (i := 23) (oi := ?o23a) (v := ?v23a) ?hi23a (by kernel_rfl) (by kernel_rfl) (by kernel_rfl) ?hQ23a (Or.inl ⟨?hw23a, ?hr23a⟩) hH0 ?rest23a
                  case hi23a => simp only [List.getElem?_toArray, List.getElem?_cons_succ, List.getElem?_cons_zero]; rfl
                  case hQ23a => exact fun _ _ _ h => h
                  case hw23a => kernel_rfl
                  case hr23a => intro w hSw; (try dsimp only at hSw); go_simp; try with_reducible rfl
                  try simp only [Act.put, List.setIfInBounds_toArray, List.set_cons_zero, List.set_cons_succ]
                  refine wpAnyH_take (i := 24) (oi := ?o24a) (v := ?v24a) ?hi24a (by kernel_rfl) (by kernel_rfl) (by kernel_rfl) ?hQ24a (Or.inl ⟨?hw24a, ?hr24a⟩) hH0 ?rest24a
                  case hi24a => simp only [List.getElem?_toArray, List.getElem?_cons_succ, List.getElem?_cons_zero]; rfl
                  case hQ24a => exact fun _ _ _ h => h
                  case hw24a => kernel_rfl
                  case hr24a => intro w hSw; (try dsimp only at hSw); go_simp; try with_reducible rfl
                  try simp only [Act.put, List.setIfInBounds_toArray, List.set_cons_zero, List.set_cons_succ]
                  refine wpAnyH_take (i := 25) (oi := ?o25a) (v := ?v25a) ?hi25a (by kernel_rfl) (by kernel_rfl) (by kernel_rfl) ?hQ25a (Or.inl ⟨?hw25a, ?hr25a⟩) hH0 ?rest25a
                  case hi25a => simp only [List.getElem?_toArray, List.getElem?_cons_succ, List.getElem?_cons_zero]; rfl
                  case hQ25a => exact fun _ _ _ h => h
                  case hw25a => kernel_rfl
                  case hr25a => intro w hSw; (try dsimp only at hSw); go_simp; try with_reducible rfl
                  try simp only [Act.put, List.setIfInBounds_toArray, List.set_cons_zero, List.set_cons_succ]
                  refine wpAnyH_take (i := 26) (oi := ?o26a) (v := ?v26a) ?hi26a (by kernel_rfl) (by kernel_rfl) (by kernel_rfl) ?hQ26a (Or.inl ⟨?hw26a, ?hr26a⟩) hH0 ?rest26a
                  case hi26a => simp only [List.getElem?_toArray, List.getElem?_cons_succ, List.getElem?_cons_zero]; rfl
                  case hQ26a => exact fun _ _ _ h => h
                  case hw26a => kernel_rfl
                  case hr26a => intro w hSw; (try dsimp only at hSw); go_simp; try with_reducible rfl
                  try simp only [Act.put, List.setIfInBounds_toArray, List.set_cons_zero, List.set_cons_succ]
                  refine wpAnyH_take (i := 27) (oi := ?o27a) (v := ?v27a) ?hi27a (by kernel_rfl) (by kernel_rfl) (by kernel_rfl) ?hQ27a (Or.inl ⟨?hw27a, ?hr27a⟩) hH0 ?rest27a
                  case hi27a => simp only [List.getElem?_toArray, List.getElem?_cons_succ, List.getElem?_cons_zero]; rfl
                  case hQ27a => exact fun _ _ _ h => h
                  case hw27a => kernel_rfl
                  case hr27a => intro w hSw; (try dsimp only at hSw); go_simp; try with_reducible rfl
                  try simp only [Act.put, List.setIfInBounds_toArray, List.set_cons_zero, List.set_cons_succ]
                  refine wpAnyH_take (i := 28) (oi := ?o28a) (v := ?v28a) ?hi28a (by kernel_rfl) (by kernel_rfl) (by kernel_rfl) ?hQ28a (Or.inl ⟨?hw28a, ?hr28a⟩) hH0 ?rest28a
                  case hi28a => simp only [List.getElem?_toArray, List.getElem?_cons_succ, List.getElem?_cons_zero]; rfl
                  case hQ28a => exact fun _ _ _ h => h
                  case hw28a => kernel_rfl
                  case hr28a => intro w hSw; (try dsimp only at hSw); go_simp; try with_reducible rfl
                  try simp only [Act.put, List.setIfInBounds_toArray, List.set_cons_zero, List.set_cons_succ]
                  refine wpAnyH_take (i := 29) (oi := ?o29a) (v := ?v29a) ?hi29a (by kernel_rfl) (by kernel_rfl) (by kernel_rfl) ?hQ29a (Or.inl ⟨?hw29a, ?hr29a⟩) hH0 ?rest29a
                  case hi29a => simp only [List.getElem?_toArray, List.getElem?_cons_succ, List.getElem?_cons_zero]; rfl
                  case hQ29a => exact fun _ _ _ h => h
                  case hw29a => kernel_rfl
                  case hr29a => intro w hSw; (try dsimp only at hSw); go_simp; try with_reducible rfl
                  try simp only [Act.put, List.setIfInBounds_toArray, List.set_cons_zero, List.set_cons_succ]
                  refine wpAnyH_take (i := 30) (oi := ?o30a) (v := ?v30a) ?hi30a (by kernel_rfl) (by kernel_rfl) (by kernel_rfl) ?hQ30a (Or.inl ⟨?hw30a, ?hr30a⟩) hH0 ?rest30a
                  case hi30a => simp only [List.getElem?_toArray, List.getElem?_cons_succ, List.getElem?_cons_zero]; rfl
                  case hQ30a => exact fun _ _ _ h => h
                  case hw30a => kernel_rfl
                  case hr30a => intro w hSw; (try dsimp only at hSw); go_simp; try with_reducible rfl
                  try simp only [Act.put, List.setIfInBounds_toArray, List.set_cons_zero, List.set_cons_succ]
                  refine wpAnyH_take (i := 31) (oi := ?o31a) (v := ?v31a) ?hi31a (by kernel_rfl) (by kernel_rfl) (by kernel_rfl) ?hQ31a (Or.inl ⟨?hw31a, ?hr31a⟩) hH0 ?rest31a
                  case hi31a => simp only [List.getElem?_toArray, List.getElem?_cons_succ, List.getElem?_cons_zero]; rfl
                  case hQ31a => exact fun _ _ _ h => h
                  case hw31a => kernel_rfl
                  case hr31a => intro w hSw; (try dsimp only at hSw); go_simp; try with_reducible rfl
                  try simp only [Act.put, List.setIfInBounds_toArray, List.set_cons_zero, List.set_cons_succ]
                  refine wpAnyH_take (i := 32) (oi := ?o32a) (v := ?v32a) ?hi32a (by kernel_rfl) (by kernel_rfl) (by kernel_rfl) ?hQ32a (Or.inl ⟨?hw32a, ?hr32a⟩) hH0 ?rest32a
                  case hi32a => simp only [List.getElem?_toArray, List.getElem?_cons_succ, List.getElem?_cons_zero]; rfl
                  case hQ32a => exact fun _ _ _ h => h
                  case hw32a => kernel_rfl
                  case hr32a => intro w hSw; (try dsimp only at hSw); go_simp; try with_reducible rfl
                  try simp only [Act.put, List.setIfInBounds_toArray, List.set_cons_zero, List.set_cons_succ]
                  refine wpAnyH_take (i := 33) (oi := ?o33a) (v := ?v33a) ?hi33a (by kernel_rfl) (by kernel_rfl) (by kernel_rfl) ?hQ33a (Or.inl ⟨?hw33a, ?hr33a⟩) hH0 ?rest33a
                  case hi33a => simp only [List.getElem?_toArray, List.getElem?_cons_succ, List.getElem?_cons_zero]; rfl
                  case hQ33a => exact fun _ _ _ h => h
                  case hw33a => kernel_rfl
                  case hr33a => intro w hSw; (try dsimp only at hSw); go_simp; try with_reducible rfl
                  try simp only [Act.put, List.setIfInBounds_toArray, List.set_cons_zero, List.set_cons_succ]
                  refine wpAnyH_take (i := 34) (oi := ?o34a) (v := ?v34a) ?hi34a (by kernel_rfl) (by kernel_rfl) (by kernel_rfl) ?hQ34a (Or.inl ⟨?hw34a, ?hr34a⟩) hH0 ?rest34a
                  case hi34a => simp only [List.getElem?_toArray, List.getElem?_cons_succ, List.getElem?_cons_zero]; rfl
                  case hQ34a => exact fun _ _ _ h => h
                  case hw34a => kernel_rfl
                  case hr34a => intro w hSw; (try dsimp only at hSw); go_simp; try with_reducible rfl
                  try simp only [Act.put, List.setIfInBounds_toArray, List.set_cons_zero, List.set_cons_succ]
                  refine wpAnyH_take (i := 35) (oi := ?o35a) (v := ?v35a) ?hi35a (by kernel_rfl) (by kernel_rfl) (by kernel_rfl) ?hQ35a (Or.inl ⟨?hw35a, ?hr35a⟩) hH0 ?rest35a
                  case hi35a => simp only [List.getElem?_toArray, List.getElem?_cons_succ, List.getElem?_cons_zero]; rfl
                  case hQ35a => exact fun _ _ _ h => h
                  case hw35a => kernel_rfl
                  case hr35a => intro w hSw; (try dsimp only at hSw); go_simp; try with_reducible rfl
                  try simp only [Act.put, List.setIfInBounds_toArray, List.set_cons_zero, List.set_cons_succ]
                  as_aux_lemma =>
                    refine wpAnyH_take (i := 38) (oi := ?o38a) (v := ?v38a) ?hi38a (by kernel_rfl) (by kernel_rfl) (by kernel_rfl) ?hQ38a (Or.inl ⟨?hw38a, ?hr38a⟩) hH0 ?rest38a
                    case hi38a => simp only [List.getElem?_toArray, List.getElem?_cons_succ, List.getElem?_cons_zero]; rfl
                    case hQ38a => exact fun _ _ _ h => h
                    case hw38a => kernel_rfl
                    case hr38a => intro w hSw; (try dsimp only at hSw); go_simp; try with_reducible rfl
                    try simp only [Act.put, List.setIfInBounds_toArray, List.set_cons_zero, List.set_cons_succ]
                    refine wpAnyH_ready (rs := [36]) (by kernel_rfl) (by simp) ?_
                    refine AllReadyH.cons rfl (fun K hK => ?_) AllReadyH.nil
                    go_simp
                    refine (list_calls w.heap.size nd _ hSd.ring).mono ?_
                    rintro e wa ⟨va, rfl, hva, hbA⟩
                    have hSa := hSd.next hbA
                    try dsimp only
                    refine hK.out _ _ (keep12 hH0 hbA) (fun hH1 => ?_)
                    clear hK K hH0
                    try simp only [Act.put, List.setIfInBounds_toArray, List.set_cons_zero, List.set_cons_succ]
                    refine wpAnyH_ready (rs := [37]) (by kernel_rfl) (by simp) ?_
                    refine AllReadyH.cons rfl (fun K hK => ?_) AllReadyH.nil
                    go_simp
                    refine (back_calls _ va ((nd).map Prod.snd) _ (rowOf hva) hfew).mono ?_
                    rintro e wb ⟨vb, rfl, hvb, hbB⟩
                    have hSb := hSa.next hbB
                    try dsimp only
                    refine hK.out _ _ (keep12 hH1 hbB) (fun hH2 => ?_)
                    clear hK K hH1
                    try simp only [Act.put, List.setIfInBounds_toArray, List.set_cons_zero, List.set_cons_succ]
                    refine wpAnyH_ready (rs := [39]) (by kernel_rfl) (by simp) ?_
                    refine AllReadyH.cons rfl (fun K hK => ?_) AllReadyH.nil
                    go_simp
                    refine (same_refl _ _ vb _ ((nd).map Prod.snd) _ hvb hSb.row).mono ?_
                    rintro e wc2 ⟨rfl, hbC⟩
                    have hSc := hSb.next hbC
                    try dsimp only
                    refine hK.out _ _ (keep12 hH2 hbC) (fun hH3 => ?_)
                    clear hK K hH2
                    try simp only [Act.put, List.setIfInBounds_toArray, List.set_cons_zero, List.set_cons_succ]
                    refine wpAnyH_take (i := 40) (oi := ?o40a) (v := ?v40a) ?hi40a (by kernel_rfl) (by kernel_rfl) (by kernel_rfl) ?hQ40a (Or.inl ⟨?hw40a, ?hr40a⟩) hH3 ?rest40a
                    case hi40a => simp only [List.getElem?_toArray, List.getElem?_cons_succ, List.getElem?_cons_zero]; rfl
                    case hQ40a => exact fun _ _ _ h => h
                    case hw40a => kernel_rfl
                    case hr40a => intro w hSw; (try dsimp only at hSw); go_simp; try with_reducible rfl
                    try simp only [Act.put, List.setIfInBounds_toArray, List.set_cons_zero, List.set_cons_succ]
                    refine wpAnyH_take (i := 41) (oi := ?o41a) (v := ?v41a) ?hi41a (by kernel_rfl) (by kernel_rfl) (by kernel_rfl) ?hQ41a (Or.inl ⟨?hw41a, ?hr41a⟩) hH3 ?rest41a
                    case hi41a => simp only [List.getElem?_toArray, List.getElem?_cons_succ, List.getElem?_cons_zero]; rfl
                    case hQ41a => exact fun _ _ _ h => h
                    case hw41a => kernel_rfl
                    case hr41a => intro w hSw; (try dsimp only at hSw); go_simp; try with_reducible rfl
                    try simp only [Act.put, List.setIfInBounds_toArray, List.set_cons_zero, List.set_cons_succ]
                    refine wpAnyH_take (i := 42) (oi := ?o42a) (v := ?v42a) ?hi42a (by kernel_rfl) (by kernel_rfl) (by kernel_rfl) ?hQ42a (Or.inl ⟨?hw42a, ?hr42a⟩) hH3 ?rest42a
                    case hi42a => simp only [List.getElem?_toArray, List.getElem?_cons_succ, List.getElem?_cons_zero]; rfl
                    case hQ42a => exact fun _ _ _ h => h
                    case hw42a => kernel_rfl
                    case hr42a => intro w hSw; (try dsimp only at hSw); go_simp; try with_reducible rfl
                    try simp only [Act.put, List.setIfInBounds_toArray, List.set_cons_zero, List.set_cons_succ]
                    refine wpAnyH_take (i := 43) (oi := ?o43a) (v := ?v43a) ?hi43a (by kernel_rfl) (by kernel_rfl) (by kernel_rfl) ?hQ43a (Or.inl ⟨?hw43a, ?hr43a⟩) hH3 ?rest43a
                    case hi43a => simp only [List.getElem?_toArray, List.getElem?_cons_succ, List.getElem?_cons_zero]; rfl
                    case hQ43a => exact fun _ _ _ h => h
                    case hw43a => kernel_rfl
                    case hr43a => intro w hSw; (try dsimp only at hSw); go_simp; try with_reducible rfl
                    try simp only [Act.put, List.setIfInBounds_toArray, List.set_cons_zero, List.set_cons_succ]
                    refine wpAnyH_take (i := 44) (oi := ?o44a) (v := ?v44a) ?hi44a (by kernel_rfl) (by kernel_rfl) (by kernel_rfl) ?hQ44a (Or.inl ⟨?hw44a, ?hr44a⟩) hH3 ?rest44a
                    case hi44a => simp only [List.getElem?_toArray, List.getElem?_cons_succ, List.getElem?_cons_zero]; rfl
                    case hQ44a => exact fun _ _ _ h => h
                    case hw44a => kernel_rfl
                    case hr44a => intro w hSw; (try dsimp only at hSw); go_simp; try with_reducible rfl
                    try simp only [Act.put, List.setIfInBounds_toArray, List.set_cons_zero, List.set_cons_succ]
                    refine wpAnyH_take (i := 47) (oi := ?o47a) (v := ?v47a) ?hi47a (by kernel_rfl) (by kernel_rfl) (by kernel_rfl) ?hQ47a (Or.inl ⟨?hw47a, ?hr47a⟩) hH3 ?rest47a
                    case hi47a => simp only [List.getElem?_toArray, List.getElem?_cons_succ, List.getElem?_cons_zero]; rfl
                    case hQ47a => exact fun _ _ _ h => h
                    case hw47a => kernel_rfl
                    case hr47a => intro w hSw; (try dsimp only at hSw); go_simp; try with_reducible rfl
                    try simp only [Act.put, List.setIfInBounds_toArray, List.set_cons_zero, List.set_cons_succ]
                    refine wpAnyH_take (i := 48) (oi := ?o48a) (v := ?v48a) ?hi48a (by kernel_rfl) (by kernel_rfl) (by kernel_rfl) ?hQ48a (Or.inl ⟨?hw48a, ?hr48a⟩) hH3 ?rest48a
                    case hi48a => simp only [List.getElem?_toArray, List.getElem?_cons_succ, List.getElem?_cons_zero]; rfl
                    case hQ48a => exact fun _ _ _ h => h
                    case hw48a => kernel_rfl
                    case hr48a => intro w hSw; (try dsimp only at hSw); go_simp; try with_reducible rfl
                    try simp only [Act.put, List.setIfInBounds_toArray, List.set_cons_zero, List.set_cons_succ]
                    as_aux_lemma =>
                      refine wpAnyH_ready (rs := [45]) (by kernel_rfl) (by simp) ?_
                      refine AllReadyH.cons rfl (fun K hK => ?_) AllReadyH.nil
                      go_simp
                      refine (of_calls w.heap.size nd obj _ hSc.ring).mono ?_
                      rintro e wd ⟨vd, rfl, hvd, hbD⟩
                      have hSdd := hSc.next hbD
                      try dsimp only
                      refine hK.out _ _ (keep12 hH3 hbD) (fun hH4 => ?_)
                      clear hK K hH3
                      try simp only [Act.put, List.setIfInBounds_toArray, List.set_cons_zero, List.set_cons_succ]
                      refine wpAnyH_ready (rs := [46]) (by kernel_rfl) (by simp) ?_
                      refine AllReadyH.cons rfl (fun K hK => ?_) AllReadyH.nil
                      go_simp
                      refine (back_calls _ vd (ofW ((nd).map Prod.snd) obj) _ hvd (ofW_few hfew)).mono ?_
                      rintro e we ⟨ve, rfl, hve, hbE⟩
                      have hSe := hSdd.next hbE
                      try dsimp only
                      refine hK.out _ _ (keep12 hH4 hbE) (fun hH5 => ?_)
                      clear hK K hH4
                      try simp only [Act.put, List.setIfInBounds_toArray, List.set_cons_zero, List.set_cons_succ]
                      refine wpAnyH_ready (rs := [49]) (by kernel_rfl) (by simp) ?_
                      refine AllReadyH.cons rfl (fun K hK => ?_) AllReadyH.nil
                      go_simp
                      refine (ofL_calls _ _ ((nd).map Prod.snd) obj _ hSe.row hfew).mono ?_
                      rintro e wf ⟨vf, rfl, hvf, hbF⟩
                      have hSf := hSe.next hbF
                      try dsimp only
                      refine hK.out _ _ (keep12 hH5 hbF) (fun hH6 => ?_)
                      clear hK K hH5
                      try simp only [Act.put, List.setIfInBounds_toArray, List.set_cons_zero, List.set_cons_succ]
                      refine wpAnyH_ready (rs := [50]) (by kernel_rfl) (by simp) ?_
                      refine AllReadyH.cons rfl (fun K hK => ?_) AllReadyH.nil
                      go_simp
                      refine (same_refl _ _ ve vf (ofW ((nd).map Prod.snd) obj) _ (hve.below hbF) hvf).mono ?_
                      rintro e wg ⟨rfl, hbG⟩
                      have hSg := hSf.next hbG
                      try dsimp only
                      refine hK.out _ _ (keep12 hH6 hbG) (fun hH7 => ?_)
                      clear hK K hH6
                      try simp only [Act.put, List.setIfInBounds_toArray, List.set_cons_zero, List.set_cons_succ]
                      as_aux_lemma =>
                        refine wpAnyH_take (i := 51) (oi := ?o51a) (v := ?v51a) ?hi51a (by kernel_rfl) (by kernel_rfl) (by kernel_rfl) ?hQ51a (Or.inl ⟨?hw51a, ?hr51a⟩) hH7 ?rest51a
                        case hi51a => simp only [List.getElem?_toArray, List.getElem?_cons_succ, List.getElem?_cons_zero]; rfl
                        case hQ51a => exact fun _ _ _ h => h
                        case hw51a => kernel_rfl
                        case hr51a => intro w hSw; (try dsimp only at hSw); go_simp; try with_reducible rfl
                        try simp only [Act.put, List.setIfInBounds_toArray, List.set_cons_zero, List.set_cons_succ]
                        refine wpAnyH_take (i := 52) (oi := ?o52a) (v := ?v52a) ?hi52a (by kernel_rfl) (by kernel_rfl) (by kernel_rfl) ?hQ52a (Or.inl ⟨?hw52a, ?hr52a⟩) hH7 ?rest52a
                        case hi52a => simp only [List.getElem?_toArray, List.getElem?_cons_succ, List.getElem?_cons_zero]; rfl
                        case hQ52a => exact fun _ _ _ h => h
                        case hw52a => kernel_rfl
                        case hr52a => intro w hSw; (try dsimp only at hSw); go_simp; try with_reducible rfl
                        try simp only [Act.put, List.setIfInBounds_toArray, List.set_cons_zero, List.set_cons_succ]
                        refine wpAnyH_take (i := 53) (oi := ?o53a) (v := ?v53a) ?hi53a (by kernel_rfl) (by kernel_rfl) (by kernel_rfl) ?hQ53a (Or.inl ⟨?hw53a, ?hr53a⟩) hH7 ?rest53a
                        case hi53a => simp only [List.getElem?_toArray, List.getElem?_cons_succ, List.getElem?_cons_zero]; rfl
                        case hQ53a => exact fun _ _ _ h => h
                        case hw53a => kernel_rfl
                        case hr53a => intro w hSw; (try dsimp only at hSw); go_simp; try with_reducible rfl
                        try simp only [Act.put, List.setIfInBounds_toArray, List.set_cons_zero, List.set_cons_succ]
                        refine wpAnyH_take (i := 54) (oi := ?o54a) (v := ?v54a) ?hi54a (by kernel_rfl) (by kernel_rfl) (by kernel_rfl) ?hQ54a (Or.inl ⟨?hw54a, ?hr54a⟩) hH7 ?rest54a
                        case hi54a => simp only [List.getElem?_toArray, List.getElem?_cons_succ, List.getElem?_cons_zero]; rfl
                        case hQ54a => exact fun _ _ _ h => h
                        case hw54a => kernel_rfl
                        case hr54a => intro w hSw; (try dsimp only at hSw); go_simp; try with_reducible rfl
                        try simp only [Act.put, List.setIfInBounds_toArray, List.set_cons_zero, List.set_cons_succ]
                        refine wpAnyH_take (i := 56) (oi := ?o56a) (v := ?v56a) ?hi56a (by kernel_rfl) (by kernel_rfl) (by kernel_rfl) ?hQ56a (Or.inl ⟨?hw56a, ?hr56a⟩) hH7 ?rest56a
                        case hi56a => simp only [List.getElem?_toArray, List.getElem?_cons_succ, List.getElem?_cons_zero]; rfl
                        case hQ56a => exact fun _ _ _ h => h
                        case hw56a => kernel_rfl
                        case hr56a => intro w hSw; (try dsimp only at hSw); go_simp; try with_reducible rfl
                        try simp only [Act.put, List.setIfInBounds_toArray, List.set_cons_zero, List.set_cons_succ]
                        refine wpAnyH_take (i := 57) (oi := ?o57a) (v := ?v57a) ?hi57a (by kernel_rfl) (by kernel_rfl) (by kernel_rfl) ?hQ57a (Or.inl ⟨?hw57a, ?hr57a⟩) hH7 ?rest57a
                        case hi57a => simp only [List.getElem?_toArray, List.getElem?_cons_succ, List.getElem?_cons_zero]; rfl
                        case hQ57a => exact fun _ _ _ h => h
                        case hw57a => kernel_rfl
                        case hr57a => intro w hSw; (try dsimp only at hSw); go_simp; try with_reducible rfl
                        try simp only [Act.put, List.setIfInBounds_toArray, List.set_cons_zero, List.set_cons_succ]
                        refine wpAnyH_ready (rs := [55]) (by kernel_rfl) (by simp) ?_
                        refine AllReadyH.cons rfl (fun K hK => ?_) AllReadyH.nil
                        go_simp
                        refine (len_callsN w.heap.size nd N hN.out _ hSg.ring).mono ?_
                        rintro e wh ⟨rfl, rfl⟩
                        try dsimp only
                        refine hK.out _ _ (hH7) (fun hH8 => ?_)
                        clear hK K hH7
                        try simp only [Act.put, List.setIfInBounds_toArray, List.set_cons_zero, List.set_cons_succ]
                        refine wpAnyH_take (i := 58) (oi := ?o58a) (v := ?v58a) ?hi58a (by kernel_rfl) (by kernel_rfl) (by kernel_rfl) ?hQ58a (Or.inl ⟨?hw58a, ?hr58a⟩) hH8 ?rest58a
                        case hi58a => simp only [List.getElem?_toArray, List.getElem?_cons_succ, List.getElem?_cons_zero]; rfl
                        case hQ58a => exact fun _ _ _ h => h
                        case hw58a => kernel_rfl
                        case hr58a => intro w hSw; (try dsimp only at hSw); go_simp; try with_reducible rfl
                        try simp only [Act.put, List.setIfInBounds_toArray, List.set_cons_zero, List.set_cons_succ]
                        refine wpAnyH_take (i := 59) (oi := ?o59a) (v := ?v59a) ?hi59a (by kernel_rfl) (by kernel_rfl) (by kernel_rfl) ?hQ59a (Or.inl ⟨?hw59a, ?hr59a⟩) hH8 ?rest59a
                        case hi59a => simp only [List.getElem?_toArray, List.getElem?_cons_succ, List.getElem?_cons_zero]; rfl
                        case hQ59a => exact fun _ _ _ h => h
                        case hw59a => kernel_rfl
                        case hr59a => intro w hSw; (try dsimp only at hSw); go_simp; try with_reducible rfl
                        try simp only [Act.put, List.setIfInBounds_toArray, List.set_cons_zero, List.set_cons_succ]
                        refine wpAnyH_done (by kernel_rfl) ?_ _
                        go_wp2_with fail
                        exact ⟨⟨k + 1, nd, by omega, rfl, hSg⟩, by simp [intOf]; omega⟩
          | some y =>
            obtain ⟨a, r, rfl, hd, ha, hy⟩ := findW_split' hfd
            have hpl := place_some (r := r) ha hy
            have hka : a.length < ((a ++ y :: r).map Prod.snd).length := by simp
            clear hd ha hy
            as_aux_lemma =>
              rw [hnx] at HN HL
              simp only [tellL] at HN HL
              go_wp2_with fail
              refine HN.mono ?_
              rintro e w1 ⟨rfl, hb1⟩
              have hS2 := hS1.next hb1
              have hba : Below w1.heap.size w1 (w1.alloc (.cells #[.int .i64 0, .int .i64 0, .int .i64 0, .int .u32 0] 27)) := (Below.refl _ w1).alloc (Nat.le_refl _) _
              have hS3 := hS2.next hba
              go_wp2_with fail
              refine (HL _ hS3.row).mono ?_
              rintro e w3 ⟨rfl, hb3⟩
              have hS4 := hS3.next hb3
              have g1 := own_first hb3
              clear hba hb1 hb3 hS3 hS2
              have hbb : Below w3.heap.size w3 (w3.alloc (.cells #[.int .i64 0, .int .i64 0, .int .i64 0, .int .u32 0] 34)) := (Below.refl _ w3).alloc (Nat.le_refl _) _
              have hS5 := hS4.next hbb
              have g1b := box_on g1 hbb
              go_wp2_with fail
              refine (findq_some w.heap.size (a ++ y :: r) task y _ hS5.ring hfd).mono ?_
              rintro e w5 ⟨rfl, hb5⟩
              have hS6 := hS5.next hb5
              have g2 := own_first hb5
              have g1c := box_on g1b hb5
              clear hbb g1 g1b hb5 hS5 hS4
              have hbc : Below w5.heap.size w5 (w5.alloc (.cells #[.int .i64 y.2.task, .int .i64 y.2.kind, .int .i64 y.2.obj, .int .u32 y.2.mask] 27)) := (Below.refl _ w5).alloc (Nat.le_refl _) _
              have hS7 := hS6.next hbc
              have g1d := box_on g1c hbc
              have g2d := box_on g2 hbc
              have g3d := World.alloc_heap_new w5 (.cells #[.int .i64 y.2.task, .int .i64 y.2.kind, .int .i64 y.2.obj, .int .u32 y.2.mask] 27)
              clear hbc g1c g2 hS6
              go_wp2_with fail
              refine (place_calls w.heap.size _ _ task _ hS7.row).mono ?_
              rintro e w6 ⟨rfl, rfl⟩
              rw [hpl]
              obtain ⟨W, hW⟩ : ∃ W, W = w5.alloc (.cells #[.int .i64 y.2.task, .int .i64 y.2.kind, .int .i64 y.2.obj, .int .u32 y.2.mask] 27) := ⟨_, rfl⟩
              rw [← hW] at g1d g2d g3d hS7 ⊢
              obtain ⟨c0, c1, c2, c3, f0, f1, f2, f3⟩ := blk4 g1d
              obtain ⟨d0, d1, d2, d3, e0, e1, e2, e3⟩ := blk4 g2d
              obtain ⟨p0, p1, p2, p3, q0, q1, q2, q3⟩ := blk4 g3d
              clear g1d g2d g3d hW hfd hnx hpl
              have hn1 : ∀ W, (binOp .neq 34 (.agg #[.int .i64 0, .int .i64 0, .int .i64 0, .int .u32 0]) (.agg #[.int .i64 0, .int .i64 0, .int .i64 0, .int .u32 0])).run Try.prog W = .ok (.bool false) W := fun W => wait_neq 34 (.inr rfl) Wt.z Wt.z W
              obtain ⟨A8, N, c8, hv, hN0⟩ := hvl
              subst hv
              obtain ⟨g, cap, he, a0, a1, a2, a3⟩ := hS7.row.at hka
              rw [at_place] at a0 a1 a2 a3
              have hgW : g < W.heap.size := World.block_lt_of_cell? W _ a0
              have hA8 : A8 = some ⟨g, 0, none⟩ := by injection he
              clear he
              subst hA8
              have hn2 : ∀ W, (binOp .neq 34 (.agg #[.int .i64 y.2.task, .int .i64 y.2.kind, .int .i64 y.2.obj, .int .u32 y.2.mask]) (.agg #[.int .i64 y.2.task, .int .i64 y.2.kind, .int .i64 y.2.obj, .int .u32 y.2.mask])).run Try.prog W = .ok (.bool false) W := fun W => by have := wait_neq 34 (.inr rfl) (y.2) (y.2) W; simpa using this
              have hpos : ((a.length : Int) ≥ 0) := by omega
              have hkb : (a.length : Int) < (N : Int) := by rw [hN0, List.length_append, List.length_cons]; omega
              have hN := Lib.hid hN0
              clear hN0
              have hSd := hS7.next ((Below.refl _ W).drew)
              clear hS7
              go_wp2_with fail
              have hb0 : Below W.heap.size W W.drew := (Below.refl _ W).drew
              have hHeld0 : (fun W' => W'.cell? ⟨w1.heap.size, 0, none⟩ = some (.int .i64 0) ∧ W'.cell? ⟨w1.heap.size, 1, none⟩ = some (.int .i64 0) ∧ W'.cell? ⟨w1.heap.size, 2, none⟩ = some (.int .i64 0) ∧ W'.cell? ⟨w1.heap.size, 3, none⟩ = some (.int .u32 0) ∧ W'.cell? ⟨w3.heap.size, 0, none⟩ = some (.int .i64 0) ∧ W'.cell? ⟨w3.heap.size, 1, none⟩ = some (.int .i64 0) ∧ W'.cell? ⟨w3.heap.size, 2, none⟩ = some (.int .i64 0) ∧ W'.cell? ⟨w3.heap.size, 3, none⟩ = some (.int .u32 0) ∧ W'.cell? ⟨w5.heap.size, 0, none⟩ = some (.int .i64 y.2.task) ∧ W'.cell? ⟨w5.heap.size, 1, none⟩ = some (.int .i64 y.2.kind) ∧ W'.cell? ⟨w5.heap.size, 2, none⟩ = some (.int .i64 y.2.obj) ∧ W'.cell? ⟨w5.heap.size, 3, none⟩ = some (.int .u32 y.2.mask) ∧ W'.cell? ⟨g, a.length * 4, none⟩ = some (.int .i64 y.2.task) ∧ W'.cell? ⟨g, a.length * 4 + 1, none⟩ = some (.int .i64 y.2.kind) ∧ W'.cell? ⟨g, a.length * 4 + 2, none⟩ = some (.int .i64 y.2.obj) ∧ W'.cell? ⟨g, a.length * 4 + 3, none⟩ = some (.int .u32 y.2.mask)) W := ⟨c0, c1, c2, c3, d0, d1, d2, d3, p0, p1, p2, p3, a0, a1, a2, a3⟩
              refine wp_region_held_drew (S := (fun W' => W'.cell? ⟨w1.heap.size, 0, none⟩ = some (.int .i64 0) ∧ W'.cell? ⟨w1.heap.size, 1, none⟩ = some (.int .i64 0) ∧ W'.cell? ⟨w1.heap.size, 2, none⟩ = some (.int .i64 0) ∧ W'.cell? ⟨w1.heap.size, 3, none⟩ = some (.int .u32 0) ∧ W'.cell? ⟨w3.heap.size, 0, none⟩ = some (.int .i64 0) ∧ W'.cell? ⟨w3.heap.size, 1, none⟩ = some (.int .i64 0) ∧ W'.cell? ⟨w3.heap.size, 2, none⟩ = some (.int .i64 0) ∧ W'.cell? ⟨w3.heap.size, 3, none⟩ = some (.int .u32 0) ∧ W'.cell? ⟨w5.heap.size, 0, none⟩ = some (.int .i64 y.2.task) ∧ W'.cell? ⟨w5.heap.size, 1, none⟩ = some (.int .i64 y.2.kind) ∧ W'.cell? ⟨w5.heap.size, 2, none⟩ = some (.int .i64 y.2.obj) ∧ W'.cell? ⟨w5.heap.size, 3, none⟩ = some (.int .u32 y.2.mask) ∧ W'.cell? ⟨g, a.length * 4, none⟩ = some (.int .i64 y.2.task) ∧ W'.cell? ⟨g, a.length * 4 + 1, none⟩ = some (.int .i64 y.2.kind) ∧ W'.cell? ⟨g, a.length * 4 + 2, none⟩ = some (.int .i64 y.2.obj) ∧ W'.cell? ⟨g, a.length * 4 + 3, none⟩ = some (.int .u32 y.2.mask))) (by kernel_rfl) (keep16 hHeld0 hb0) (fun hH0 => ?_)
              as_aux_lemma =>
                refine wpAnyH_take (i := 0) (oi := ?o0b) (v := ?v0b) ?hi0b (by kernel_rfl) (by kernel_rfl) (by kernel_rfl) ?hQ0b (Or.inl ⟨?hw0b, ?hr0b⟩) hH0 ?rest0b
                case hi0b => simp only [List.getElem?_toArray, List.getElem?_cons_zero]; rfl
                case hQ0b => exact fun _ _ _ h => h
                case hw0b => kernel_rfl
                case hr0b => intro w hSw; (try dsimp only at hSw); go_simp; try with_reducible rfl
                try simp only [Act.put, List.setIfInBounds_toArray, List.set_cons_zero, List.set_cons_succ]
                refine wpAnyH_take (i := 1) (oi := ?o1b) (v := ?v1b) ?hi1b (by kernel_rfl) (by kernel_rfl) (by kernel_rfl) ?hQ1b (Or.inl ⟨?hw1b, ?hr1b⟩) hH0 ?rest1b
                case hi1b => simp only [List.getElem?_toArray, List.getElem?_cons_succ, List.getElem?_cons_zero]; rfl
                case hQ1b => exact fun _ _ _ h => h
                case hw1b => kernel_rfl
                case hr1b => intro w hSw; (try dsimp only at hSw); go_simp; try with_reducible rfl
                try simp only [Act.put, List.setIfInBounds_toArray, List.set_cons_zero, List.set_cons_succ]
                refine wpAnyH_take (i := 2) (oi := ?o2b) (v := ?v2b) ?hi2b (by kernel_rfl) (by kernel_rfl) (by kernel_rfl) ?hQ2b (Or.inl ⟨?hw2b, ?hr2b⟩) hH0 ?rest2b
                case hi2b => simp only [List.getElem?_toArray, List.getElem?_cons_succ, List.getElem?_cons_zero]; rfl
                case hQ2b => exact fun _ _ _ h => h
                case hw2b => kernel_rfl
                case hr2b => intro w hSw; (try dsimp only at hSw); go_simp; try with_reducible rfl
                try simp only [Act.put, List.setIfInBounds_toArray, List.set_cons_zero, List.set_cons_succ]
                refine wpAnyH_take (i := 3) (oi := ?o3b) (v := ?v3b) ?hi3b (by kernel_rfl) (by kernel_rfl) (by kernel_rfl) ?hQ3b (Or.inl ⟨?hw3b, ?hr3b⟩) hH0 ?rest3b
                case hi3b => simp only [List.getElem?_toArray, List.getElem?_cons_succ, List.getElem?_cons_zero]; rfl
                case hQ3b => exact fun _ _ _ h => h
                case hw3b => kernel_rfl
                case hr3b => intro w hSw; (try dsimp only at hSw); go_simp; try with_reducible rfl
                try simp only [Act.put, List.setIfInBounds_toArray, List.set_cons_zero, List.set_cons_succ]
                refine wpAnyH_take (i := 4) (oi := ?o4b) (v := ?v4b) ?hi4b (by kernel_rfl) (by kernel_rfl) (by kernel_rfl) ?hQ4b (Or.inl ⟨?hw4b, ?hr4b⟩) hH0 ?rest4b
                case hi4b => simp only [List.getElem?_toArray, List.getElem?_cons_succ, List.getElem?_cons_zero]; rfl
                case hQ4b => exact fun _ _ _ h => h
                case hw4b => kernel_rfl
                case hr4b => intro w hSw; (try dsimp only at hSw); go_simp; try with_reducible rfl
                try simp only [Act.put, List.setIfInBounds_toArray, List.set_cons_zero, List.set_cons_succ]
                refine wpAnyH_take (i := 5) (oi := ?o5b) (v := ?v5b) ?hi5b (by kernel_rfl) (by kernel_rfl) (by kernel_rfl) ?hQ5b (Or.inl ⟨?hw5b, ?hr5b⟩) hH0 ?rest5b
                case hi5b => simp only [List.getElem?_toArray, List.getElem?_cons_succ, List.getElem?_cons_zero]; rfl
                case hQ5b => exact fun _ _ _ h => h
                case hw5b => kernel_rfl
                case hr5b => intro w hSw; (try dsimp only at hSw); go_simp; try with_reducible rfl
                try simp only [Act.put, List.setIfInBounds_toArray, List.set_cons_zero, List.set_cons_succ]
                refine wpAnyH_take (i := 6) (oi := ?o6b) (v := ?v6b) ?hi6b (by kernel_rfl) (by kernel_rfl) (by kernel_rfl) ?hQ6b (Or.inl ⟨?hw6b, ?hr6b⟩) hH0 ?rest6b
                case hi6b => simp only [List.getElem?_toArray, List.getElem?_cons_succ, List.getElem?_cons_zero]; rfl
                case hQ6b => exact fun _ _ _ h => h
                case hw6b => kernel_rfl
                case hr6b => intro w hSw; (try dsimp only at hSw); go_simp; try with_reducible rfl
                try simp only [Act.put, List.setIfInBounds_toArray, List.set_cons_zero, List.set_cons_succ]
                refine wpAnyH_take (i := 7) (oi := ?o7b) (v := ?v7b) ?hi7b (by kernel_rfl) (by kernel_rfl) (by kernel_rfl) ?hQ7b (Or.inl ⟨?hw7b, ?hr7b⟩) hH0 ?rest7b
                case hi7b => simp only [List.getElem?_toArray, List.getElem?_cons_succ, List.getElem?_cons_zero]; rfl
                case hQ7b => exact fun _ _ _ h => h
                case hw7b => kernel_rfl
                case hr7b => intro w hSw; (try dsimp only at hSw); go_simp; try with_reducible rfl
                try simp only [Act.put, List.setIfInBounds_toArray, List.set_cons_zero, List.set_cons_succ]
                refine wpAnyH_take (i := 8) (oi := ?o8b) (v := ?v8b) ?hi8b (by kernel_rfl) (by kernel_rfl) (by kernel_rfl) ?hQ8b (Or.inl ⟨?hw8b, ?hr8b⟩) hH0 ?rest8b
                case hi8b => simp only [List.getElem?_toArray, List.getElem?_cons_succ, List.getElem?_cons_zero]; rfl
                case hQ8b => exact fun _ _ _ h => h
                case hw8b => kernel_rfl
                case hr8b => intro w hSw; (try dsimp only at hSw); go_simp; try with_reducible rfl
                try simp only [Act.put, List.setIfInBounds_toArray, List.set_cons_zero, List.set_cons_succ]
                refine wpAnyH_take (i := 9) (oi := ?o9b) (v := ?v9b) ?hi9b (by kernel_rfl) (by kernel_rfl) (by kernel_rfl) ?hQ9b (Or.inl ⟨?hw9b, ?hr9b⟩) hH0 ?rest9b
                case hi9b => simp only [List.getElem?_toArray, List.getElem?_cons_succ, List.getElem?_cons_zero]; rfl
                case hQ9b => exact fun _ _ _ h => h
                case hw9b => kernel_rfl
                case hr9b => intro w hSw; (try dsimp only at hSw); go_simp; try with_reducible rfl
                try simp only [Act.put, List.setIfInBounds_toArray, List.set_cons_zero, List.set_cons_succ]
                refine wpAnyH_take (i := 10) (oi := ?o10b) (v := ?v10b) ?hi10b (by kernel_rfl) (by kernel_rfl) (by kernel_rfl) ?hQ10b (Or.inl ⟨?hw10b, ?hr10b⟩) hH0 ?rest10b
                case hi10b => simp only [List.getElem?_toArray, List.getElem?_cons_succ, List.getElem?_cons_zero]; rfl
                case hQ10b => exact fun _ _ _ h => h
                case hw10b => kernel_rfl
                case hr10b => intro w hSw; (try dsimp only at hSw); go_simp; try with_reducible rfl
                try simp only [Act.put, List.setIfInBounds_toArray, List.set_cons_zero, List.set_cons_succ]
                refine wpAnyH_take (i := 11) (oi := ?o11b) (v := ?v11b) ?hi11b (by kernel_rfl) (by kernel_rfl) (by kernel_rfl) ?hQ11b (Or.inl ⟨?hw11b, ?hr11b⟩) hH0 ?rest11b
                case hi11b => simp only [List.getElem?_toArray, List.getElem?_cons_succ, List.getElem?_cons_zero]; rfl
                case hQ11b => exact fun _ _ _ h => h
                case hw11b => kernel_rfl
                case hr11b => intro w hSw; (try dsimp only at hSw); go_simp; try with_reducible rfl
                try simp only [Act.put, List.setIfInBounds_toArray, List.set_cons_zero, List.set_cons_succ]
                refine wpAnyH_take (i := 12) (oi := ?o12b) (v := ?v12b) ?hi12b (by kernel_rfl) (by kernel_rfl) (by kernel_rfl) ?hQ12b (Or.inl ⟨?hw12b, ?hr12b⟩) hH0 ?rest12b
                case hi12b => simp only [List.getElem?_toArray, List.getElem?_cons_succ, List.getElem?_cons_zero]; rfl
                case hQ12b => exact fun _ _ _ h => h
                case hw12b => kernel_rfl
                case hr12b => intro w hSw; (try dsimp only at hSw); go_simp; try with_reducible rfl
                try simp only [Act.put, List.setIfInBounds_toArray, List.set_cons_zero, List.set_cons_succ]
                refine wpAnyH_take (i := 13) (oi := ?o13b) (v := ?v13b) ?hi13b (by kernel_rfl) (by kernel_rfl) (by kernel_rfl) ?hQ13b (Or.inl ⟨?hw13b, ?hr13b⟩) hH0 ?rest13b
                case hi13b => simp only [List.getElem?_toArray, List.getElem?_cons_succ, List.getElem?_cons_zero]; rfl
                case hQ13b => exact fun _ _ _ h => h
                case hw13b => kernel_rfl
                case hr13b => intro w hSw; (try dsimp only at hSw); go_simp; try with_reducible rfl
                try simp only [Act.put, List.setIfInBounds_toArray, List.set_cons_zero, List.set_cons_succ]
                refine wpAnyH_take (i := 14) (oi := ?o14b) (v := ?v14b) ?hi14b (by kernel_rfl) (by kernel_rfl) (by kernel_rfl) ?hQ14b (Or.inl ⟨?hw14b, ?hr14b⟩) hH0 ?rest14b
                case hi14b => simp only [List.getElem?_toArray, List.getElem?_cons_succ, List.getElem?_cons_zero]; rfl
                case hQ14b => exact fun _ _ _ h => h
                case hw14b => kernel_rfl
                case hr14b => intro w hSw; (try dsimp only at hSw); go_simp; try with_reducible rfl
                try simp only [Act.put, List.setIfInBounds_toArray, List.set_cons_zero, List.set_cons_succ]
                refine wpAnyH_take (i := 15) (oi := ?o15b) (v := ?v15b) ?hi15b (by kernel_rfl) (by kernel_rfl) (by kernel_rfl) ?hQ15b (Or.inl ⟨?hw15b, ?hr15b⟩) hH0 ?rest15b
                case hi15b => simp only [List.getElem?_toArray, List.getElem?_cons_succ, List.getElem?_cons_zero]; rfl
                case hQ15b => exact fun _ _ _ h => h
                case hw15b => kernel_rfl
                case hr15b => intro w hSw; (try dsimp only at hSw); go_simp; try with_reducible rfl
                try simp only [Act.put, List.setIfInBounds_toArray, List.set_cons_zero, List.set_cons_succ]
                as_aux_lemma =>
                  refine wpAnyH_take (i := 16) (oi := ?o16b) (v := ?v16b) ?hi16b (by kernel_rfl) (by kernel_rfl) (by kernel_rfl) ?hQ16b (Or.inl ⟨?hw16b, ?hr16b⟩) hH0 ?rest16b
                  case hi16b => simp only [List.getElem?_toArray, List.getElem?_cons_succ, List.getElem?_cons_zero]; rfl
                  case hQ16b => exact fun _ _ _ h => h
                  case hw16b => kernel_rfl
                  case hr16b => intro w hSw; (try dsimp only at hSw); go_simp; try with_reducible rfl
                  try simp only [Act.put, List.setIfInBounds_toArray, List.set_cons_zero, List.set_cons_succ]
                  refine wpAnyH_take (i := 17) (oi := ?o17b) (v := ?v17b) ?hi17b (by kernel_rfl) (by kernel_rfl) (by kernel_rfl) ?hQ17b (Or.inl ⟨?hw17b, ?hr17b⟩) hH0 ?rest17b
                  case hi17b => simp only [List.getElem?_toArray, List.getElem?_cons_succ, List.getElem?_cons_zero]; rfl
                  case hQ17b => exact fun _ _ _ h => h
                  case hw17b => kernel_rfl
                  case hr17b => intro w hSw; (try dsimp only at hSw); go_simp; try with_reducible rfl
                  try simp only [Act.put, List.setIfInBounds_toArray, List.set_cons_zero, List.set_cons_succ]
                  refine wpAnyH_take (i := 18) (oi := ?o18b) (v := ?v18b) ?hi18b (by kernel_rfl) (by kernel_rfl) (by kernel_rfl) ?hQ18b (Or.inl ⟨?hw18b, ?hr18b⟩) hH0 ?rest18b
                  case hi18b => simp only [List.getElem?_toArray, List.getElem?_cons_succ, List.getElem?_cons_zero]; rfl
                  case hQ18b => exact fun _ _ _ h => h
                  case hw18b => kernel_rfl
                  case hr18b => intro w hSw; (try dsimp only at hSw); go_simp; try with_reducible rfl
                  try simp only [Act.put, List.setIfInBounds_toArray, List.set_cons_zero, List.set_cons_succ]
                  refine wpAnyH_take (i := 19) (oi := ?o19b) (v := ?v19b) ?hi19b (by kernel_rfl) (by kernel_rfl) (by kernel_rfl) ?hQ19b (Or.inl ⟨?hw19b, ?hr19b⟩) hH0 ?rest19b
                  case hi19b => simp only [List.getElem?_toArray, List.getElem?_cons_succ, List.getElem?_cons_zero]; rfl
                  case hQ19b => exact fun _ _ _ h => h
                  case hw19b => kernel_rfl
                  case hr19b => intro w hSw; (try dsimp only at hSw); go_simp; try with_reducible rfl
                  try simp only [Act.put, List.setIfInBounds_toArray, List.set_cons_zero, List.set_cons_succ]
                  refine wpAnyH_take (i := 20) (oi := ?o20b) (v := ?v20b) ?hi20b (by kernel_rfl) (by kernel_rfl) (by kernel_rfl) ?hQ20b (Or.inl ⟨?hw20b, ?hr20b⟩) hH0 ?rest20b
                  case hi20b => simp only [List.getElem?_toArray, List.getElem?_cons_succ, List.getElem?_cons_zero]; rfl
                  case hQ20b => exact fun _ _ _ h => h
                  case hw20b => kernel_rfl
                  case hr20b => intro w hSw; (try dsimp only at hSw); go_simp; try with_reducible rfl
                  try simp only [Act.put, List.setIfInBounds_toArray, List.set_cons_zero, List.set_cons_succ]
                  refine wpAnyH_take (i := 21) (oi := ?o21b) (v := ?v21b) ?hi21b (by kernel_rfl) (by kernel_rfl) (by kernel_rfl) ?hQ21b (Or.inl ⟨?hw21b, ?hr21b⟩) hH0 ?rest21b
                  case hi21b => simp only [List.getElem?_toArray, List.getElem?_cons_succ, List.getElem?_cons_zero]; rfl
                  case hQ21b => exact fun _ _ _ h => h
                  case hw21b => kernel_rfl
                  case hr21b => intro w hSw; (try dsimp only at hSw); go_simp; try with_reducible rfl
                  try simp only [Act.put, List.setIfInBounds_toArray, List.set_cons_zero, List.set_cons_succ]
                  refine wpAnyH_take (i := 22) (oi := ?o22b) (v := ?v22b) ?hi22b (by kernel_rfl) (by kernel_rfl) (by kernel_rfl) ?hQ22b (Or.inl ⟨?hw22b, ?hr22b⟩) hH0 ?rest22b
                  case hi22b => simp only [List.getElem?_toArray, List.getElem?_cons_succ, List.getElem?_cons_zero]; rfl
                  case hQ22b => exact fun _ _ _ h => h
                  case hw22b => kernel_rfl
                  case hr22b => intro w hSw; (try dsimp only at hSw); go_simp; try with_reducible rfl
                  try simp only [Act.put, List.setIfInBounds_toArray, List.set_cons_zero, List.set_cons_succ]
                  refine wpAnyH_take (i := 23) (oi := ?o23b) (v := ?v23b) ?hi23b (by kernel_rfl) (by kernel_rfl) (by kernel_rfl) ?hQ23b (Or.inl ⟨?hw23b, ?hr23b⟩) hH0 ?rest23b
                  case hi23b => simp only [List.getElem?_toArray, List.getElem?_cons_succ, List.getElem?_cons_zero]; rfl
                  case hQ23b => exact fun _ _ _ h => h
                  case hw23b => kernel_rfl
                  case hr23b => intro w hSw; (try dsimp only at hSw); go_simp; try with_reducible rfl
                  try simp only [Act.put, List.setIfInBounds_toArray, List.set_cons_zero, List.set_cons_succ]
                  refine wpAnyH_take (i := 24) (oi := ?o24b) (v := ?v24b) ?hi24b (by kernel_rfl) (by kernel_rfl) (by kernel_rfl) ?hQ24b (Or.inl ⟨?hw24b, ?hr24b⟩) hH0 ?rest24b
                  case hi24b => simp only [List.getElem?_toArray, List.getElem?_cons_succ, List.getElem?_cons_zero]; rfl
                  case hQ24b => exact fun _ _ _ h => h
                  case hw24b => kernel_rfl
                  case hr24b => intro w hSw; (try dsimp only at hSw); go_simp; try with_reducible rfl
                  try simp only [Act.put, List.setIfInBounds_toArray, List.set_cons_zero, List.set_cons_succ]
                  refine wpAnyH_take (i := 25) (oi := ?o25b) (v := ?v25b) ?hi25b (by kernel_rfl) (by kernel_rfl) (by kernel_rfl) ?hQ25b (Or.inl ⟨?hw25b, ?hr25b⟩) hH0 ?rest25b
                  case hi25b => simp only [List.getElem?_toArray, List.getElem?_cons_succ, List.getElem?_cons_zero]; rfl
                  case hQ25b => exact fun _ _ _ h => h
                  case hw25b => kernel_rfl
                  case hr25b => intro w hSw; (try dsimp only at hSw); go_simp; try with_reducible rfl
                  try simp only [Act.put, List.setIfInBounds_toArray, List.set_cons_zero, List.set_cons_succ]
                  refine wpAnyH_take (i := 26) (oi := ?o26b) (v := ?v26b) ?hi26b (by kernel_rfl) (by kernel_rfl) (by kernel_rfl) ?hQ26b (Or.inl ⟨?hw26b, ?hr26b⟩) hH0 ?rest26b
                  case hi26b => simp only [List.getElem?_toArray, List.getElem?_cons_succ, List.getElem?_cons_zero]; rfl
                  case hQ26b => exact fun _ _ _ h => h
                  case hw26b => kernel_rfl
                  case hr26b => intro w hSw; (try dsimp only at hSw); go_simp; try with_reducible rfl
                  try simp only [Act.put, List.setIfInBounds_toArray, List.set_cons_zero, List.set_cons_succ]
                  refine wpAnyH_take (i := 27) (oi := ?o27b) (v := ?v27b) ?hi27b (by kernel_rfl) (by kernel_rfl) (by kernel_rfl) ?hQ27b (Or.inl ⟨?hw27b, ?hr27b⟩) hH0 ?rest27b
                  case hi27b => simp only [List.getElem?_toArray, List.getElem?_cons_succ, List.getElem?_cons_zero]; rfl
                  case hQ27b => exact fun _ _ _ h => h
                  case hw27b => kernel_rfl
                  case hr27b => intro w hSw; (try dsimp only at hSw); go_simp; try with_reducible rfl
                  try simp only [Act.put, List.setIfInBounds_toArray, List.set_cons_zero, List.set_cons_succ]
                  refine wpAnyH_take (i := 28) (oi := ?o28b) (v := ?v28b) ?hi28b (by kernel_rfl) (by kernel_rfl) (by kernel_rfl) ?hQ28b (Or.inl ⟨?hw28b, ?hr28b⟩) hH0 ?rest28b
                  case hi28b => simp only [List.getElem?_toArray, List.getElem?_cons_succ, List.getElem?_cons_zero]; rfl
                  case hQ28b => exact fun _ _ _ h => h
                  case hw28b => kernel_rfl
                  case hr28b => intro w hSw; (try dsimp only at hSw); go_simp; try with_reducible rfl
                  try simp only [Act.put, List.setIfInBounds_toArray, List.set_cons_zero, List.set_cons_succ]
                  refine wpAnyH_take (i := 29) (oi := ?o29b) (v := undef) ?hi29b (by kernel_rfl) (by kernel_rfl) (by kernel_rfl) ?hQ29b (Or.inr ⟨?hw29b, rfl⟩) hH0 ?rest29b
                  case hi29b => simp only [List.getElem?_toArray, List.getElem?_cons_succ, List.getElem?_cons_zero]; rfl
                  case hQ29b => exact fun _ _ _ h => h
                  case hw29b => kernel_rfl
                  try simp only [Act.put, List.setIfInBounds_toArray, List.set_cons_zero, List.set_cons_succ]
                  refine wpAnyH_take (i := 30) (oi := ?o30b) (v := undef) ?hi30b (by kernel_rfl) (by kernel_rfl) (by kernel_rfl) ?hQ30b (Or.inr ⟨?hw30b, rfl⟩) hH0 ?rest30b
                  case hi30b => simp only [List.getElem?_toArray, List.getElem?_cons_succ, List.getElem?_cons_zero]; rfl
                  case hQ30b => exact fun _ _ _ h => h
                  case hw30b => kernel_rfl
                  try simp only [Act.put, List.setIfInBounds_toArray, List.set_cons_zero, List.set_cons_succ]
                  refine wpAnyH_take (i := 31) (oi := ?o31b) (v := undef) ?hi31b (by kernel_rfl) (by kernel_rfl) (by kernel_rfl) ?hQ31b (Or.inr ⟨?hw31b, rfl⟩) hH0 ?rest31b
                  case hi31b => simp only [List.getElem?_toArray, List.getElem?_cons_succ, List.getElem?_cons_zero]; rfl
                  case hQ31b => exact fun _ _ _ h => h
                  case hw31b => kernel_rfl
                  try simp only [Act.put, List.setIfInBounds_toArray, List.set_cons_zero, List.set_cons_succ]
                  refine wpAnyH_take (i := 32) (oi := ?o32b) (v := ?v32b) ?hi32b (by kernel_rfl) (by kernel_rfl) (by kernel_rfl) ?hQ32b (Or.inl ⟨?hw32b, ?hr32b⟩) hH0 ?rest32b
                  case hi32b => simp only [List.getElem?_toArray, List.getElem?_cons_succ, List.getElem?_cons_zero]; rfl
                  case hQ32b => exact fun _ _ _ h => h
                  case hw32b => kernel_rfl
                  case hr32b => intro w hSw; (try dsimp only at hSw); go_simp; try with_reducible rfl
                  try simp only [Act.put, List.setIfInBounds_toArray, List.set_cons_zero, List.set_cons_succ]
                  refine wpAnyH_take (i := 33) (oi := ?o33b) (v := ?v33b) ?hi33b (by kernel_rfl) (by kernel_rfl) (by kernel_rfl) ?hQ33b (Or.inl ⟨?hw33b, ?hr33b⟩) hH0 ?rest33b
                  case hi33b => simp only [List.getElem?_toArray, List.getElem?_cons_succ, List.getElem?_cons_zero]; rfl
                  case hQ33b => exact fun _ _ _ h => h
                  case hw33b => kernel_rfl
                  case hr33b => intro w hSw; (try dsimp only at hSw); go_simp; try with_reducible rfl
                  try simp only [Act.put, List.setIfInBounds_toArray, List.set_cons_zero, List.set_cons_succ]
                  refine wpAnyH_take (i := 34) (oi := ?o34b) (v := ?v34b) ?hi34b (by kernel_rfl) (by kernel_rfl) (by kernel_rfl) ?hQ34b (Or.inl ⟨?hw34b, ?hr34b⟩) hH0 ?rest34b
                  case hi34b => simp only [List.getElem?_toArray, List.getElem?_cons_succ, List.getElem?_cons_zero]; rfl
                  case hQ34b => exact fun _ _ _ h => h
                  case hw34b => kernel_rfl
                  case hr34b => intro w hSw; (try dsimp only at hSw); go_simp; try with_reducible rfl
                  try simp only [Act.put, List.setIfInBounds_toArray, List.set_cons_zero, List.set_cons_succ]
                  refine wpAnyH_take (i := 35) (oi := ?o35b) (v := ?v35b) ?hi35b (by kernel_rfl) (by kernel_rfl) (by kernel_rfl) ?hQ35b (Or.inl ⟨?hw35b, ?hr35b⟩) hH0 ?rest35b
                  case hi35b => simp only [List.getElem?_toArray, List.getElem?_cons_succ, List.getElem?_cons_zero]; rfl
                  case hQ35b => exact fun _ _ _ h => h
                  case hw35b => kernel_rfl
                  case hr35b => intro w hSw; (try dsimp only at hSw); go_simp; try with_reducible rfl
                  try simp only [Act.put, List.setIfInBounds_toArray, List.set_cons_zero, List.set_cons_succ]
                  as_aux_lemma =>
                    refine wpAnyH_take (i := 38) (oi := ?o38b) (v := ?v38b) ?hi38b (by kernel_rfl) (by kernel_rfl) (by kernel_rfl) ?hQ38b (Or.inl ⟨?hw38b, ?hr38b⟩) hH0 ?rest38b
                    case hi38b => simp only [List.getElem?_toArray, List.getElem?_cons_succ, List.getElem?_cons_zero]; rfl
                    case hQ38b => exact fun _ _ _ h => h
                    case hw38b => kernel_rfl
                    case hr38b => intro w hSw; (try dsimp only at hSw); go_simp; try with_reducible rfl
                    try simp only [Act.put, List.setIfInBounds_toArray, List.set_cons_zero, List.set_cons_succ]
                    refine wpAnyH_ready (rs := [36]) (by kernel_rfl) (by simp) ?_
                    refine AllReadyH.cons rfl (fun K hK => ?_) AllReadyH.nil
                    go_simp
                    refine (list_calls w.heap.size (a ++ y :: r) _ hSd.ring).mono ?_
                    rintro e wa ⟨va, rfl, hva, hbA⟩
                    have hSa := hSd.next hbA
                    try dsimp only
                    refine hK.out _ _ (keep16 hH0 hbA) (fun hH1 => ?_)
                    clear hK K hH0
                    try simp only [Act.put, List.setIfInBounds_toArray, List.set_cons_zero, List.set_cons_succ]
                    refine wpAnyH_ready (rs := [37]) (by kernel_rfl) (by simp) ?_
                    refine AllReadyH.cons rfl (fun K hK => ?_) AllReadyH.nil
                    go_simp
                    refine (back_calls _ va (((a ++ y :: r)).map Prod.snd) _ (rowOf hva) hfew).mono ?_
                    rintro e wb ⟨vb, rfl, hvb, hbB⟩
                    have hSb := hSa.next hbB
                    try dsimp only
                    refine hK.out _ _ (keep16 hH1 hbB) (fun hH2 => ?_)
                    clear hK K hH1
                    try simp only [Act.put, List.setIfInBounds_toArray, List.set_cons_zero, List.set_cons_succ]
                    refine wpAnyH_ready (rs := [39]) (by kernel_rfl) (by simp) ?_
                    refine AllReadyH.cons rfl (fun K hK => ?_) AllReadyH.nil
                    go_simp
                    refine (same_refl _ _ vb _ (((a ++ y :: r)).map Prod.snd) _ hvb hSb.row).mono ?_
                    rintro e wc2 ⟨rfl, hbC⟩
                    have hSc := hSb.next hbC
                    try dsimp only
                    refine hK.out _ _ (keep16 hH2 hbC) (fun hH3 => ?_)
                    clear hK K hH2
                    try simp only [Act.put, List.setIfInBounds_toArray, List.set_cons_zero, List.set_cons_succ]
                    refine wpAnyH_take (i := 40) (oi := ?o40b) (v := ?v40b) ?hi40b (by kernel_rfl) (by kernel_rfl) (by kernel_rfl) ?hQ40b (Or.inl ⟨?hw40b, ?hr40b⟩) hH3 ?rest40b
                    case hi40b => simp only [List.getElem?_toArray, List.getElem?_cons_succ, List.getElem?_cons_zero]; rfl
                    case hQ40b => exact fun _ _ _ h => h
                    case hw40b => kernel_rfl
                    case hr40b => intro w hSw; (try dsimp only at hSw); go_simp; try with_reducible rfl
                    try simp only [Act.put, List.setIfInBounds_toArray, List.set_cons_zero, List.set_cons_succ]
                    refine wpAnyH_take (i := 41) (oi := ?o41b) (v := ?v41b) ?hi41b (by kernel_rfl) (by kernel_rfl) (by kernel_rfl) ?hQ41b (Or.inl ⟨?hw41b, ?hr41b⟩) hH3 ?rest41b
                    case hi41b => simp only [List.getElem?_toArray, List.getElem?_cons_succ, List.getElem?_cons_zero]; rfl
                    case hQ41b => exact fun _ _ _ h => h
                    case hw41b => kernel_rfl
                    case hr41b => intro w hSw; (try dsimp only at hSw); go_simp; try with_reducible rfl
                    try simp only [Act.put, List.setIfInBounds_toArray, List.set_cons_zero, List.set_cons_succ]
                    refine wpAnyH_take (i := 42) (oi := ?o42b) (v := ?v42b) ?hi42b (by kernel_rfl) (by kernel_rfl) (by kernel_rfl) ?hQ42b (Or.inl ⟨?hw42b, ?hr42b⟩) hH3 ?rest42b
                    case hi42b => simp only [List.getElem?_toArray, List.getElem?_cons_succ, List.getElem?_cons_zero]; rfl
                    case hQ42b => exact fun _ _ _ h => h
                    case hw42b => kernel_rfl
                    case hr42b => intro w hSw; (try dsimp only at hSw); go_simp; try with_reducible rfl
                    try simp only [Act.put, List.setIfInBounds_toArray, List.set_cons_zero, List.set_cons_succ]
                    refine wpAnyH_take (i := 43) (oi := ?o43b) (v := ?v43b) ?hi43b (by kernel_rfl) (by kernel_rfl) (by kernel_rfl) ?hQ43b (Or.inl ⟨?hw43b, ?hr43b⟩) hH3 ?rest43b
                    case hi43b => simp only [List.getElem?_toArray, List.getElem?_cons_succ, List.getElem?_cons_zero]; rfl
                    case hQ43b => exact fun _ _ _ h => h
                    case hw43b => kernel_rfl
                    case hr43b => intro w hSw; (try dsimp only at hSw); go_simp; try with_reducible rfl
                    try simp only [Act.put, List.setIfInBounds_toArray, List.set_cons_zero, List.set_cons_succ]
                    refine wpAnyH_take (i := 44) (oi := ?o44b) (v := ?v44b) ?hi44b (by kernel_rfl) (by kernel_rfl) (by kernel_rfl) ?hQ44b (Or.inl ⟨?hw44b, ?hr44b⟩) hH3 ?rest44b
                    case hi44b => simp only [List.getElem?_toArray, List.getElem?_cons_succ, List.getElem?_cons_zero]; rfl
                    case hQ44b => exact fun _ _ _ h => h
                    case hw44b => kernel_rfl
                    case hr44b => intro w hSw; (try dsimp only at hSw); go_simp; try with_reducible rfl
                    try simp only [Act.put, List.setIfInBounds_toArray, List.set_cons_zero, List.set_cons_succ]
                    refine wpAnyH_take (i := 47) (oi := ?o47b) (v := ?v47b) ?hi47b (by kernel_rfl) (by kernel_rfl) (by kernel_rfl) ?hQ47b (Or.inl ⟨?hw47b, ?hr47b⟩) hH3 ?rest47b
                    case hi47b => simp only [List.getElem?_toArray, List.getElem?_cons_succ, List.getElem?_cons_zero]; rfl
                    case hQ47b => exact fun _ _ _ h => h
                    case hw47b => kernel_rfl
                    case hr47b => intro w hSw; (try dsimp only at hSw); go_simp; try with_reducible rfl
                    try simp only [Act.put, List.setIfInBounds_toArray, List.set_cons_zero, List.set_cons_succ]
                    refine wpAnyH_take (i := 48) (oi := ?o48b) (v := ?v48b) ?hi48b (by kernel_rfl) (by kernel_rfl) (by kernel_rfl) ?hQ48b (Or.inl ⟨?hw48b, ?hr48b⟩) hH3 ?rest48b
                    case hi48b => simp only [List.getElem?_toArray, List.getElem?_cons_succ, List.getElem?_cons_zero]; rfl
                    case hQ48b => exact fun _ _ _ h => h
                    case hw48b => kernel_rfl
                    case hr48b => intro w hSw; (try dsimp only at hSw); go_simp; try with_reducible rfl
                    try simp only [Act.put, List.setIfInBounds_toArray, List.set_cons_zero, List.set_cons_succ]
                    as_aux_lemma =>
                      refine wpAnyH_ready (rs := [45]) (by kernel_rfl) (by simp) ?_
                      refine AllReadyH.cons rfl (fun K hK => ?_) AllReadyH.nil
                      go_simp
                      refine (of_calls w.heap.size (a ++ y :: r) obj _ hSc.ring).mono ?_
                      rintro e wd ⟨vd, rfl, hvd, hbD⟩
                      have hSdd := hSc.next hbD
                      try dsimp only
                      refine hK.out _ _ (keep16 hH3 hbD) (fun hH4 => ?_)
                      clear hK K hH3
                      try simp only [Act.put, List.setIfInBounds_toArray, List.set_cons_zero, List.set_cons_succ]
                      refine wpAnyH_ready (rs := [46]) (by kernel_rfl) (by simp) ?_
                      refine AllReadyH.cons rfl (fun K hK => ?_) AllReadyH.nil
                      go_simp
                      refine (back_calls _ vd (ofW (((a ++ y :: r)).map Prod.snd) obj) _ hvd (ofW_few hfew)).mono ?_
                      rintro e we ⟨ve, rfl, hve, hbE⟩
                      have hSe := hSdd.next hbE
                      try dsimp only
                      refine hK.out _ _ (keep16 hH4 hbE) (fun hH5 => ?_)
                      clear hK K hH4
                      try simp only [Act.put, List.setIfInBounds_toArray, List.set_cons_zero, List.set_cons_succ]
                      refine wpAnyH_ready (rs := [49]) (by kernel_rfl) (by simp) ?_
                      refine AllReadyH.cons rfl (fun K hK => ?_) AllReadyH.nil
                      go_simp
                      refine (ofL_calls _ _ (((a ++ y :: r)).map Prod.snd) obj _ hSe.row hfew).mono ?_
                      rintro e wf ⟨vf, rfl, hvf, hbF⟩
                      have hSf := hSe.next hbF
                      try dsimp only
                      refine hK.out _ _ (keep16 hH5 hbF) (fun hH6 => ?_)
                      clear hK K hH5
                      try simp only [Act.put, List.setIfInBounds_toArray, List.set_cons_zero, List.set_cons_succ]
                      refine wpAnyH_ready (rs := [50]) (by kernel_rfl) (by simp) ?_
                      refine AllReadyH.cons rfl (fun K hK => ?_) AllReadyH.nil
                      go_simp
                      refine (same_refl _ _ ve vf (ofW (((a ++ y :: r)).map Prod.snd) obj) _ (hve.below hbF) hvf).mono ?_
                      rintro e wg ⟨rfl, hbG⟩
                      have hSg := hSf.next hbG
                      try dsimp only
                      refine hK.out _ _ (keep16 hH6 hbG) (fun hH7 => ?_)
                      clear hK K hH6
                      try simp only [Act.put, List.setIfInBounds_toArray, List.set_cons_zero, List.set_cons_succ]
                      as_aux_lemma =>
                        refine wpAnyH_take (i := 51) (oi := ?o51b) (v := ?v51b) ?hi51b (by kernel_rfl) (by kernel_rfl) (by kernel_rfl) ?hQ51b (Or.inl ⟨?hw51b, ?hr51b⟩) hH7 ?rest51b
                        case hi51b => simp only [List.getElem?_toArray, List.getElem?_cons_succ, List.getElem?_cons_zero]; rfl
                        case hQ51b => exact fun _ _ _ h => h
                        case hw51b => kernel_rfl
                        case hr51b => intro w hSw; (try dsimp only at hSw); go_simp; try with_reducible rfl
                        try simp only [Act.put, List.setIfInBounds_toArray, List.set_cons_zero, List.set_cons_succ]
                        refine wpAnyH_take (i := 52) (oi := ?o52b) (v := ?v52b) ?hi52b (by kernel_rfl) (by kernel_rfl) (by kernel_rfl) ?hQ52b (Or.inl ⟨?hw52b, ?hr52b⟩) hH7 ?rest52b
                        case hi52b => simp only [List.getElem?_toArray, List.getElem?_cons_succ, List.getElem?_cons_zero]; rfl
                        case hQ52b => exact fun _ _ _ h => h
                        case hw52b => kernel_rfl
                        case hr52b => intro w hSw; (try dsimp only at hSw); go_simp; try with_reducible rfl
                        try simp only [Act.put, List.setIfInBounds_toArray, List.set_cons_zero, List.set_cons_succ]
                        refine wpAnyH_take (i := 53) (oi := ?o53b) (v := ?v53b) ?hi53b (by kernel_rfl) (by kernel_rfl) (by kernel_rfl) ?hQ53b (Or.inl ⟨?hw53b, ?hr53b⟩) hH7 ?rest53b
                        case hi53b => simp only [List.getElem?_toArray, List.getElem?_cons_succ, List.getElem?_cons_zero]; rfl
                        case hQ53b => exact fun _ _ _ h => h
                        case hw53b => kernel_rfl
                        case hr53b => intro w hSw; (try dsimp only at hSw); go_simp; try with_reducible rfl
                        try simp only [Act.put, List.setIfInBounds_toArray, List.set_cons_zero, List.set_cons_succ]
                        refine wpAnyH_take (i := 54) (oi := ?o54b) (v := ?v54b) ?hi54b (by kernel_rfl) (by kernel_rfl) (by kernel_rfl) ?hQ54b (Or.inl ⟨?hw54b, ?hr54b⟩) hH7 ?rest54b
                        case hi54b => simp only [List.getElem?_toArray, List.getElem?_cons_succ, List.getElem?_cons_zero]; rfl
                        case hQ54b => exact fun _ _ _ h => h
                        case hw54b => kernel_rfl
                        case hr54b => intro w hSw; (try dsimp only at hSw); go_simp; try with_reducible rfl
                        try simp only [Act.put, List.setIfInBounds_toArray, List.set_cons_zero, List.set_cons_succ]
                        refine wpAnyH_take (i := 56) (oi := ?o56b) (v := ?v56b) ?hi56b (by kernel_rfl) (by kernel_rfl) (by kernel_rfl) ?hQ56b (Or.inl ⟨?hw56b, ?hr56b⟩) hH7 ?rest56b
                        case hi56b => simp only [List.getElem?_toArray, List.getElem?_cons_succ, List.getElem?_cons_zero]; rfl
                        case hQ56b => exact fun _ _ _ h => h
                        case hw56b => kernel_rfl
                        case hr56b => intro w hSw; (try dsimp only at hSw); go_simp; try with_reducible rfl
                        try simp only [Act.put, List.setIfInBounds_toArray, List.set_cons_zero, List.set_cons_succ]
                        refine wpAnyH_take (i := 57) (oi := ?o57b) (v := ?v57b) ?hi57b (by kernel_rfl) (by kernel_rfl) (by kernel_rfl) ?hQ57b (Or.inl ⟨?hw57b, ?hr57b⟩) hH7 ?rest57b
                        case hi57b => simp only [List.getElem?_toArray, List.getElem?_cons_succ, List.getElem?_cons_zero]; rfl
                        case hQ57b => exact fun _ _ _ h => h
                        case hw57b => kernel_rfl
                        case hr57b => intro w hSw; (try dsimp only at hSw); go_simp; try with_reducible rfl
                        try simp only [Act.put, List.setIfInBounds_toArray, List.set_cons_zero, List.set_cons_succ]
                        refine wpAnyH_ready (rs := [55]) (by kernel_rfl) (by simp) ?_
                        refine AllReadyH.cons rfl (fun K hK => ?_) AllReadyH.nil
                        go_simp
                        refine (len_callsN w.heap.size (a ++ y :: r) N hN.out _ hSg.ring).mono ?_
                        rintro e wh ⟨rfl, rfl⟩
                        try dsimp only
                        refine hK.out _ _ (hH7) (fun hH8 => ?_)
                        clear hK K hH7
                        try simp only [Act.put, List.setIfInBounds_toArray, List.set_cons_zero, List.set_cons_succ]
                        refine wpAnyH_take (i := 58) (oi := ?o58b) (v := ?v58b) ?hi58b (by kernel_rfl) (by kernel_rfl) (by kernel_rfl) ?hQ58b (Or.inl ⟨?hw58b, ?hr58b⟩) hH8 ?rest58b
                        case hi58b => simp only [List.getElem?_toArray, List.getElem?_cons_succ, List.getElem?_cons_zero]; rfl
                        case hQ58b => exact fun _ _ _ h => h
                        case hw58b => kernel_rfl
                        case hr58b => intro w hSw; (try dsimp only at hSw); go_simp; try with_reducible rfl
                        try simp only [Act.put, List.setIfInBounds_toArray, List.set_cons_zero, List.set_cons_succ]
                        refine wpAnyH_take (i := 59) (oi := ?o59b) (v := ?v59b) ?hi59b (by kernel_rfl) (by kernel_rfl) (by kernel_rfl) ?hQ59b (Or.inl ⟨?hw59b, ?hr59b⟩) hH8 ?rest59b
                        case hi59b => simp only [List.getElem?_toArray, List.getElem?_cons_succ, List.getElem?_cons_zero]; rfl
                        case hQ59b => exact fun _ _ _ h => h
                        case hw59b => kernel_rfl
                        case hr59b => intro w hSw; (try dsimp only at hSw); go_simp; try with_reducible rfl
                        try simp only [Act.put, List.setIfInBounds_toArray, List.set_cons_zero, List.set_cons_succ]
                        refine wpAnyH_done (by kernel_rfl) ?_ _
                        go_wp2_with fail
                        exact ⟨⟨k + 1, (a ++ y :: r), by omega, rfl, hSg⟩, by simp [intOf]; omega⟩
        | some z =>
          cases hfd : findW nd task with
          | none =>
            have hpl := place_none hfd
            as_aux_lemma =>
              rw [hnx] at HN HL
              simp only [tellL] at HN HL
              go_wp2_with fail
              refine HN.mono ?_
              rintro e w1 ⟨rfl, hb1⟩
              have hS2 := hS1.next hb1
              have hba : Below w1.heap.size w1 (w1.alloc (.cells #[.int .i64 z.task, .int .i64 z.kind, .int .i64 z.obj, .int .u32 z.mask] 27)) := (Below.refl _ w1).alloc (Nat.le_refl _) _
              have hS3 := hS2.next hba
              go_wp2_with fail
              refine (HL _ hS3.row).mono ?_
              rintro e w3 ⟨rfl, hb3⟩
              have hS4 := hS3.next hb3
              have g1 := own_first hb3
              clear hba hb1 hb3 hS3 hS2
              have hbb : Below w3.heap.size w3 (w3.alloc (.cells #[.int .i64 z.task, .int .i64 z.kind, .int .i64 z.obj, .int .u32 z.mask] 34)) := (Below.refl _ w3).alloc (Nat.le_refl _) _
              have hS5 := hS4.next hbb
              have g1b := box_on g1 hbb
              go_wp2_with fail
              refine (findq_none w.heap.size nd task _ hS5.ring hfd).mono ?_
              rintro e w5 ⟨rfl, hb5⟩
              have hS6 := hS5.next hb5
              have g2 := own_first hb5
              have g1c := box_on g1b hb5
              clear hbb g1 g1b hb5 hS5 hS4
              have hbc : Below w5.heap.size w5 (w5.alloc (.cells #[.int .i64 0, .int .i64 0, .int .i64 0, .int .u32 0] 27)) := (Below.refl _ w5).alloc (Nat.le_refl _) _
              have hS7 := hS6.next hbc
              have g1d := box_on g1c hbc
              have g2d := box_on g2 hbc
              have g3d := World.alloc_heap_new w5 (.cells #[.int .i64 0, .int .i64 0, .int .i64 0, .int .u32 0] 27)
              clear hbc g1c g2 hS6
              go_wp2_with fail
              refine (place_calls w.heap.size _ _ task _ hS7.row).mono ?_
              rintro e w6 ⟨rfl, rfl⟩
              rw [hpl]
              obtain ⟨W, hW⟩ : ∃ W, W = w5.alloc (.cells #[.int .i64 0, .int .i64 0, .int .i64 0, .int .u32 0] 27) := ⟨_, rfl⟩
              rw [← hW] at g1d g2d g3d hS7 ⊢
              obtain ⟨c0, c1, c2, c3, f0, f1, f2, f3⟩ := blk4 g1d
              obtain ⟨d0, d1, d2, d3, e0, e1, e2, e3⟩ := blk4 g2d
              obtain ⟨p0, p1, p2, p3, q0, q1, q2, q3⟩ := blk4 g3d
              clear g1d g2d g3d hW hfd hnx hpl
              have hn1 : ∀ W, (binOp .neq 34 (.agg #[.int .i64 z.task, .int .i64 z.kind, .int .i64 z.obj, .int .u32 z.mask]) (.agg #[.int .i64 z.task, .int .i64 z.kind, .int .i64 z.obj, .int .u32 z.mask])).run Try.prog W = .ok (.bool false) W := fun W => by have := wait_neq 34 (.inr rfl) (z) (z) W; simpa using this
              obtain ⟨A8, N, c8, hv, hN0⟩ := hvl
              subst hv
              have hN := Lib.hid hN0
              clear hN0
              have hn2 : ∀ W, (binOp .neq 27 (.agg #[.int .i64 0, .int .i64 0, .int .i64 0, .int .u32 0]) (.agg #[.int .i64 0, .int .i64 0, .int .i64 0, .int .u32 0])).run Try.prog W = .ok (.bool false) W := fun W => wait_neq 27 (.inl rfl) Wt.z Wt.z W
              have hSd := hS7.next ((Below.refl _ W).drew)
              clear hS7
              go_wp2_with fail
              have hb0 : Below W.heap.size W W.drew := (Below.refl _ W).drew
              have hHeld0 : (fun W' => W'.cell? ⟨w1.heap.size, 0, none⟩ = some (.int .i64 z.task) ∧ W'.cell? ⟨w1.heap.size, 1, none⟩ = some (.int .i64 z.kind) ∧ W'.cell? ⟨w1.heap.size, 2, none⟩ = some (.int .i64 z.obj) ∧ W'.cell? ⟨w1.heap.size, 3, none⟩ = some (.int .u32 z.mask) ∧ W'.cell? ⟨w3.heap.size, 0, none⟩ = some (.int .i64 z.task) ∧ W'.cell? ⟨w3.heap.size, 1, none⟩ = some (.int .i64 z.kind) ∧ W'.cell? ⟨w3.heap.size, 2, none⟩ = some (.int .i64 z.obj) ∧ W'.cell? ⟨w3.heap.size, 3, none⟩ = some (.int .u32 z.mask) ∧ W'.cell? ⟨w5.heap.size, 0, none⟩ = some (.int .i64 0) ∧ W'.cell? ⟨w5.heap.size, 1, none⟩ = some (.int .i64 0) ∧ W'.cell? ⟨w5.heap.size, 2, none⟩ = some (.int .i64 0) ∧ W'.cell? ⟨w5.heap.size, 3, none⟩ = some (.int .u32 0)) W := ⟨c0, c1, c2, c3, d0, d1, d2, d3, p0, p1, p2, p3⟩
              refine wp_region_held_drew (S := (fun W' => W'.cell? ⟨w1.heap.size, 0, none⟩ = some (.int .i64 z.task) ∧ W'.cell? ⟨w1.heap.size, 1, none⟩ = some (.int .i64 z.kind) ∧ W'.cell? ⟨w1.heap.size, 2, none⟩ = some (.int .i64 z.obj) ∧ W'.cell? ⟨w1.heap.size, 3, none⟩ = some (.int .u32 z.mask) ∧ W'.cell? ⟨w3.heap.size, 0, none⟩ = some (.int .i64 z.task) ∧ W'.cell? ⟨w3.heap.size, 1, none⟩ = some (.int .i64 z.kind) ∧ W'.cell? ⟨w3.heap.size, 2, none⟩ = some (.int .i64 z.obj) ∧ W'.cell? ⟨w3.heap.size, 3, none⟩ = some (.int .u32 z.mask) ∧ W'.cell? ⟨w5.heap.size, 0, none⟩ = some (.int .i64 0) ∧ W'.cell? ⟨w5.heap.size, 1, none⟩ = some (.int .i64 0) ∧ W'.cell? ⟨w5.heap.size, 2, none⟩ = some (.int .i64 0) ∧ W'.cell? ⟨w5.heap.size, 3, none⟩ = some (.int .u32 0))) (by kernel_rfl) (keep12 hHeld0 hb0) (fun hH0 => ?_)
              as_aux_lemma =>
                refine wpAnyH_take (i := 0) (oi := ?o0c) (v := ?v0c) ?hi0c (by kernel_rfl) (by kernel_rfl) (by kernel_rfl) ?hQ0c (Or.inl ⟨?hw0c, ?hr0c⟩) hH0 ?rest0c
                case hi0c => simp only [List.getElem?_toArray, List.getElem?_cons_zero]; rfl
                case hQ0c => exact fun _ _ _ h => h
                case hw0c => kernel_rfl
                case hr0c => intro w hSw; (try dsimp only at hSw); go_simp; try with_reducible rfl
                try simp only [Act.put, List.setIfInBounds_toArray, List.set_cons_zero, List.set_cons_succ]
                refine wpAnyH_take (i := 1) (oi := ?o1c) (v := ?v1c) ?hi1c (by kernel_rfl) (by kernel_rfl) (by kernel_rfl) ?hQ1c (Or.inl ⟨?hw1c, ?hr1c⟩) hH0 ?rest1c
                case hi1c => simp only [List.getElem?_toArray, List.getElem?_cons_succ, List.getElem?_cons_zero]; rfl
                case hQ1c => exact fun _ _ _ h => h
                case hw1c => kernel_rfl
                case hr1c => intro w hSw; (try dsimp only at hSw); go_simp; try with_reducible rfl
                try simp only [Act.put, List.setIfInBounds_toArray, List.set_cons_zero, List.set_cons_succ]
                refine wpAnyH_take (i := 2) (oi := ?o2c) (v := ?v2c) ?hi2c (by kernel_rfl) (by kernel_rfl) (by kernel_rfl) ?hQ2c (Or.inl ⟨?hw2c, ?hr2c⟩) hH0 ?rest2c
                case hi2c => simp only [List.getElem?_toArray, List.getElem?_cons_succ, List.getElem?_cons_zero]; rfl
                case hQ2c => exact fun _ _ _ h => h
                case hw2c => kernel_rfl
                case hr2c => intro w hSw; (try dsimp only at hSw); go_simp; try with_reducible rfl
                try simp only [Act.put, List.setIfInBounds_toArray, List.set_cons_zero, List.set_cons_succ]
                refine wpAnyH_take (i := 3) (oi := ?o3c) (v := ?v3c) ?hi3c (by kernel_rfl) (by kernel_rfl) (by kernel_rfl) ?hQ3c (Or.inl ⟨?hw3c, ?hr3c⟩) hH0 ?rest3c
                case hi3c => simp only [List.getElem?_toArray, List.getElem?_cons_succ, List.getElem?_cons_zero]; rfl
                case hQ3c => exact fun _ _ _ h => h
                case hw3c => kernel_rfl
                case hr3c => intro w hSw; (try dsimp only at hSw); go_simp; try with_reducible rfl
                try simp only [Act.put, List.setIfInBounds_toArray, List.set_cons_zero, List.set_cons_succ]
                refine wpAnyH_take (i := 4) (oi := ?o4c) (v := ?v4c) ?hi4c (by kernel_rfl) (by kernel_rfl) (by kernel_rfl) ?hQ4c (Or.inl ⟨?hw4c, ?hr4c⟩) hH0 ?rest4c
                case hi4c => simp only [List.getElem?_toArray, List.getElem?_cons_succ, List.getElem?_cons_zero]; rfl
                case hQ4c => exact fun _ _ _ h => h
                case hw4c => kernel_rfl
                case hr4c => intro w hSw; (try dsimp only at hSw); go_simp; try with_reducible rfl
                try simp only [Act.put, List.setIfInBounds_toArray, List.set_cons_zero, List.set_cons_succ]
                refine wpAnyH_take (i := 5) (oi := ?o5c) (v := ?v5c) ?hi5c (by kernel_rfl) (by kernel_rfl) (by kernel_rfl) ?hQ5c (Or.inl ⟨?hw5c, ?hr5c⟩) hH0 ?rest5c
                case hi5c => simp only [List.getElem?_toArray, List.getElem?_cons_succ, List.getElem?_cons_zero]; rfl
                case hQ5c => exact fun _ _ _ h => h
                case hw5c => kernel_rfl
                case hr5c => intro w hSw; (try dsimp only at hSw); go_simp; try with_reducible rfl
                try simp only [Act.put, List.setIfInBounds_toArray, List.set_cons_zero, List.set_cons_succ]
                refine wpAnyH_take (i := 6) (oi := ?o6c) (v := ?v6c) ?hi6c (by kernel_rfl) (by kernel_rfl) (by kernel_rfl) ?hQ6c (Or.inl ⟨?hw6c, ?hr6c⟩) hH0 ?rest6c
                case hi6c => simp only [List.getElem?_toArray, List.getElem?_cons_succ, List.getElem?_cons_zero]; rfl
                case hQ6c => exact fun _ _ _ h => h
                case hw6c => kernel_rfl
                case hr6c => intro w hSw; (try dsimp only at hSw); go_simp; try with_reducible rfl
                try simp only [Act.put, List.setIfInBounds_toArray, List.set_cons_zero, List.set_cons_succ]
                refine wpAnyH_take (i := 7) (oi := ?o7c) (v := ?v7c) ?hi7c (by kernel_rfl) (by kernel_rfl) (by kernel_rfl) ?hQ7c (Or.inl ⟨?hw7c, ?hr7c⟩) hH0 ?rest7c
                case hi7c => simp only [List.getElem?_toArray, List.getElem?_cons_succ, List.getElem?_cons_zero]; rfl
                case hQ7c => exact fun _ _ _ h => h
                case hw7c => kernel_rfl
                case hr7c => intro w hSw; (try dsimp only at hSw); go_simp; try with_reducible rfl
                try simp only [Act.put, List.setIfInBounds_toArray, List.set_cons_zero, List.set_cons_succ]
                refine wpAnyH_take (i := 8) (oi := ?o8c) (v := ?v8c) ?hi8c (by kernel_rfl) (by kernel_rfl) (by kernel_rfl) ?hQ8c (Or.inl ⟨?hw8c, ?hr8c⟩) hH0 ?rest8c
                case hi8c => simp only [List.getElem?_toArray, List.getElem?_cons_succ, List.getElem?_cons_zero]; rfl
                case hQ8c => exact fun _ _ _ h => h
                case hw8c => kernel_rfl
                case hr8c => intro w hSw; (try dsimp only at hSw); go_simp; try with_reducible rfl
                try simp only [Act.put, List.setIfInBounds_toArray, List.set_cons_zero, List.set_cons_succ]
                refine wpAnyH_take (i := 9) (oi := ?o9c) (v := ?v9c) ?hi9c (by kernel_rfl) (by kernel_rfl) (by kernel_rfl) ?hQ9c (Or.inl ⟨?hw9c, ?hr9c⟩) hH0 ?rest9c
                case hi9c => simp only [List.getElem?_toArray, List.getElem?_cons_succ, List.getElem?_cons_zero]; rfl
                case hQ9c => exact fun _ _ _ h => h
                case hw9c => kernel_rfl
                case hr9c => intro w hSw; (try dsimp only at hSw); go_simp; try with_reducible rfl
                try simp only [Act.put, List.setIfInBounds_toArray, List.set_cons_zero, List.set_cons_succ]
                refine wpAnyH_take (i := 10) (oi := ?o10c) (v := ?v10c) ?hi10c (by kernel_rfl) (by kernel_rfl) (by kernel_rfl) ?hQ10c (Or.inl ⟨?hw10c, ?hr10c⟩) hH0 ?rest10c
                case hi10c => simp only [List.getElem?_toArray, List.getElem?_cons_succ, List.getElem?_cons_zero]; rfl
                case hQ10c => exact fun _ _ _ h => h
                case hw10c => kernel_rfl
                case hr10c => intro w hSw; (try dsimp only at hSw); go_simp; try with_reducible rfl
                try simp only [Act.put, List.setIfInBounds_toArray, List.set_cons_zero, List.set_cons_succ]
                refine wpAnyH_take (i := 11) (oi := ?o11c) (v := ?v11c) ?hi11c (by kernel_rfl) (by kernel_rfl) (by kernel_rfl) ?hQ11c (Or.inl ⟨?hw11c, ?hr11c⟩) hH0 ?rest11c
                case hi11c => simp only [List.getElem?_toArray, List.getElem?_cons_succ, List.getElem?_cons_zero]; rfl
                case hQ11c => exact fun _ _ _ h => h
                case hw11c => kernel_rfl
                case hr11c => intro w hSw; (try dsimp only at hSw); go_simp; try with_reducible rfl
                try simp only [Act.put, List.setIfInBounds_toArray, List.set_cons_zero, List.set_cons_succ]
                refine wpAnyH_take (i := 12) (oi := ?o12c) (v := ?v12c) ?hi12c (by kernel_rfl) (by kernel_rfl) (by kernel_rfl) ?hQ12c (Or.inl ⟨?hw12c, ?hr12c⟩) hH0 ?rest12c
                case hi12c => simp only [List.getElem?_toArray, List.getElem?_cons_succ, List.getElem?_cons_zero]; rfl
                case hQ12c => exact fun _ _ _ h => h
                case hw12c => kernel_rfl
                case hr12c => intro w hSw; (try dsimp only at hSw); go_simp; try with_reducible rfl
                try simp only [Act.put, List.setIfInBounds_toArray, List.set_cons_zero, List.set_cons_succ]
                refine wpAnyH_take (i := 13) (oi := ?o13c) (v := ?v13c) ?hi13c (by kernel_rfl) (by kernel_rfl) (by kernel_rfl) ?hQ13c (Or.inl ⟨?hw13c, ?hr13c⟩) hH0 ?rest13c
                case hi13c => simp only [List.getElem?_toArray, List.getElem?_cons_succ, List.getElem?_cons_zero]; rfl
                case hQ13c => exact fun _ _ _ h => h
                case hw13c => kernel_rfl
                case hr13c => intro w hSw; (try dsimp only at hSw); go_simp; try with_reducible rfl
                try simp only [Act.put, List.setIfInBounds_toArray, List.set_cons_zero, List.set_cons_succ]
                refine wpAnyH_take (i := 14) (oi := ?o14c) (v := ?v14c) ?hi14c (by kernel_rfl) (by kernel_rfl) (by kernel_rfl) ?hQ14c (Or.inl ⟨?hw14c, ?hr14c⟩) hH0 ?rest14c
                case hi14c => simp only [List.getElem?_toArray, List.getElem?_cons_succ, List.getElem?_cons_zero]; rfl
                case hQ14c => exact fun _ _ _ h => h
                case hw14c => kernel_rfl
                case hr14c => intro w hSw; (try dsimp only at hSw); go_simp; try with_reducible rfl
                try simp only [Act.put, List.setIfInBounds_toArray, List.set_cons_zero, List.set_cons_succ]
                refine wpAnyH_take (i := 15) (oi := ?o15c) (v := ?v15c) ?hi15c (by kernel_rfl) (by kernel_rfl) (by kernel_rfl) ?hQ15c (Or.inl ⟨?hw15c, ?hr15c⟩) hH0 ?rest15c
                case hi15c => simp only [List.getElem?_toArray, List.getElem?_cons_succ, List.getElem?_cons_zero]; rfl
                case hQ15c => exact fun _ _ _ h => h
                case hw15c => kernel_rfl
                case hr15c => intro w hSw; (try dsimp only at hSw); go_simp; try with_reducible rfl
                try simp only [Act.put, List.setIfInBounds_toArray, List.set_cons_zero, List.set_cons_succ]
                as_aux_lemma =>
                  refine wpAnyH_take (i := 16) (oi := ?o16c) (v := ?v16c) ?hi16c (by kernel_rfl) (by kernel_rfl) (by kernel_rfl) ?hQ16c (Or.inl ⟨?hw16c, ?hr16c⟩) hH0 ?rest16c
                  case hi16c => simp only [List.getElem?_toArray, List.getElem?_cons_succ, List.getElem?_cons_zero]; rfl
                  case hQ16c => exact fun _ _ _ h => h
                  case hw16c => kernel_rfl
                  case hr16c => intro w hSw; (try dsimp only at hSw); go_simp; try with_reducible rfl
                  try simp only [Act.put, List.setIfInBounds_toArray, List.set_cons_zero, List.set_cons_succ]
                  refine wpAnyH_take (i := 17) (oi := ?o17c) (v := undef) ?hi17c (by kernel_rfl) (by kernel_rfl) (by kernel_rfl) ?hQ17c (Or.inr ⟨?hw17c, rfl⟩) hH0 ?rest17c
                  case hi17c => simp only [List.getElem?_toArray, List.getElem?_cons_succ, List.getElem?_cons_zero]; rfl
                  case hQ17c => exact fun _ _ _ h => h
                  case hw17c => kernel_rfl
                  try simp only [Act.put, List.setIfInBounds_toArray, List.set_cons_zero, List.set_cons_succ]
                  refine wpAnyH_take (i := 18) (oi := ?o18c) (v := undef) ?hi18c (by kernel_rfl) (by kernel_rfl) (by kernel_rfl) ?hQ18c (Or.inr ⟨?hw18c, rfl⟩) hH0 ?rest18c
                  case hi18c => simp only [List.getElem?_toArray, List.getElem?_cons_succ, List.getElem?_cons_zero]; rfl
                  case hQ18c => exact fun _ _ _ h => h
                  case hw18c => kernel_rfl
                  try simp only [Act.put, List.setIfInBounds_toArray, List.set_cons_zero, List.set_cons_succ]
                  refine wpAnyH_take (i := 19) (oi := ?o19c) (v := undef) ?hi19c (by kernel_rfl) (by kernel_rfl) (by kernel_rfl) ?hQ19c (Or.inr ⟨?hw19c, rfl⟩) hH0 ?rest19c
                  case hi19c => simp only [List.getElem?_toArray, List.getElem?_cons_succ, List.getElem?_cons_zero]; rfl
                  case hQ19c => exact fun _ _ _ h => h
                  case hw19c => kernel_rfl
                  try simp only [Act.put, List.setIfInBounds_toArray, List.set_cons_zero, List.set_cons_succ]
                  refine wpAnyH_take (i := 20) (oi := ?o20c) (v := undef) ?hi20c (by kernel_rfl) (by kernel_rfl) (by kernel_rfl) ?hQ20c (Or.inr ⟨?hw20c, rfl⟩) hH0 ?rest20c
                  case hi20c => simp only [List.getElem?_toArray, List.getElem?_cons_succ, List.getElem?_cons_zero]; rfl
                  case hQ20c => exact fun _ _ _ h => h
                  case hw20c => kernel_rfl
                  try simp only [Act.put, List.setIfInBounds_toArray, List.set_cons_zero, List.set_cons_succ]
                  refine wpAnyH_take (i := 21) (oi := ?o21c) (v := undef) ?hi21c (by kernel_rfl) (by kernel_rfl) (by kernel_rfl) ?hQ21c (Or.inr ⟨?hw21c, rfl⟩) hH0 ?rest21c
                  case hi21c => simp only [List.getElem?_toArray, List.getElem?_cons_succ, List.getElem?_cons_zero]; rfl
                  case hQ21c => exact fun _ _ _ h => h
                  case hw21c => kernel_rfl
                  try simp only [Act.put, List.setIfInBounds_toArray, List.set_cons_zero, List.set_cons_succ]
                  refine wpAnyH_take (i := 22) (oi := ?o22c) (v := undef) ?hi22c (by kernel_rfl) (by kernel_rfl) (by kernel_rfl) ?hQ22c (Or.inr ⟨?hw22c, rfl⟩) hH0 ?rest22c
                  case hi22c => simp only [List.getElem?_toArray, List.getElem?_cons_succ, List.getElem?_cons_zero]; rfl
                  case hQ22c => exact fun _ _ _ h => h
                  case hw22c => kernel_rfl
                  try simp only [Act.put, List.setIfInBounds_toArray, List.set_cons_zero, List.set_cons_succ]
                  refine wpAnyH_take (i := 23) (oi := ?o23c) (v := ?v23c) ?hi23c (by kernel_rfl) (by kernel_rfl) (by kernel_rfl) ?hQ23c (Or.inl ⟨?hw23c, ?hr23c⟩) hH0 ?rest23c
                  case hi23c => simp only [List.getElem?_toArray, List.getElem?_cons_succ, List.getElem?_cons_zero]; rfl
                  case hQ23c => exact fun _ _ _ h => h
                  case hw23c => kernel_rfl
                  case hr23c => intro w hSw; (try dsimp only at hSw); go_simp; try with_reducible rfl
                  try simp only [Act.put, List.setIfInBounds_toArray, List.set_cons_zero, List.set_cons_succ]
                  refine wpAnyH_take (i := 24) (oi := ?o24c) (v := ?v24c) ?hi24c (by kernel_rfl) (by kernel_rfl) (by kernel_rfl) ?hQ24c (Or.inl ⟨?hw24c, ?hr24c⟩) hH0 ?rest24c
                  case hi24c => simp only [List.getElem?_toArray, List.getElem?_cons_succ, List.getElem?_cons_zero]; rfl
                  case hQ24c => exact fun _ _ _ h => h
                  case hw24c => kernel_rfl
                  case hr24c => intro w hSw; (try dsimp only at hSw); go_simp; try with_reducible rfl
                  try simp only [Act.put, List.setIfInBounds_toArray, List.set_cons_zero, List.set_cons_succ]
                  refine wpAnyH_take (i := 25) (oi := ?o25c) (v := ?v25c) ?hi25c (by kernel_rfl) (by kernel_rfl) (by kernel_rfl) ?hQ25c (Or.inl ⟨?hw25c, ?hr25c⟩) hH0 ?rest25c
                  case hi25c => simp only [List.getElem?_toArray, List.getElem?_cons_succ, List.getElem?_cons_zero]; rfl
                  case hQ25c => exact fun _ _ _ h => h
                  case hw25c => kernel_rfl
                  case hr25c => intro w hSw; (try dsimp only at hSw); go_simp; try with_reducible rfl
                  try simp only [Act.put, List.setIfInBounds_toArray, List.set_cons_zero, List.set_cons_succ]
                  refine wpAnyH_take (i := 26) (oi := ?o26c) (v := ?v26c) ?hi26c (by kernel_rfl) (by kernel_rfl) (by kernel_rfl) ?hQ26c (Or.inl ⟨?hw26c, ?hr26c⟩) hH0 ?rest26c
                  case hi26c => simp only [List.getElem?_toArray, List.getElem?_cons_succ, List.getElem?_cons_zero]; rfl
                  case hQ26c => exact fun _ _ _ h => h
                  case hw26c => kernel_rfl
                  case hr26c => intro w hSw; (try dsimp only at hSw); go_simp; try with_reducible rfl
                  try simp only [Act.put, List.setIfInBounds_toArray, List.set_cons_zero, List.set_cons_succ]
                  refine wpAnyH_take (i := 27) (oi := ?o27c) (v := ?v27c) ?hi27c (by kernel_rfl) (by kernel_rfl) (by kernel_rfl) ?hQ27c (Or.inl ⟨?hw27c, ?hr27c⟩) hH0 ?rest27c
                  case hi27c => simp only [List.getElem?_toArray, List.getElem?_cons_succ, List.getElem?_cons_zero]; rfl
                  case hQ27c => exact fun _ _ _ h => h
                  case hw27c => kernel_rfl
                  case hr27c => intro w hSw; (try dsimp only at hSw); go_simp; try with_reducible rfl
                  try simp only [Act.put, List.setIfInBounds_toArray, List.set_cons_zero, List.set_cons_succ]
                  refine wpAnyH_take (i := 28) (oi := ?o28c) (v := ?v28c) ?hi28c (by kernel_rfl) (by kernel_rfl) (by kernel_rfl) ?hQ28c (Or.inl ⟨?hw28c, ?hr28c⟩) hH0 ?rest28c
                  case hi28c => simp only [List.getElem?_toArray, List.getElem?_cons_succ, List.getElem?_cons_zero]; rfl
                  case hQ28c => exact fun _ _ _ h => h
                  case hw28c => kernel_rfl
                  case hr28c => intro w hSw; (try dsimp only at hSw); go_simp; try with_reducible rfl
                  try simp only [Act.put, List.setIfInBounds_toArray, List.set_cons_zero, List.set_cons_succ]
                  refine wpAnyH_take (i := 29) (oi := ?o29c) (v := ?v29c) ?hi29c (by kernel_rfl) (by kernel_rfl) (by kernel_rfl) ?hQ29c (Or.inl ⟨?hw29c, ?hr29c⟩) hH0 ?rest29c
                  case hi29c => simp only [List.getElem?_toArray, List.getElem?_cons_succ, List.getElem?_cons_zero]; rfl
                  case hQ29c => exact fun _ _ _ h => h
                  case hw29c => kernel_rfl
                  case hr29c => intro w hSw; (try dsimp only at hSw); go_simp; try with_reducible rfl
                  try simp only [Act.put, List.setIfInBounds_toArray, List.set_cons_zero, List.set_cons_succ]
                  refine wpAnyH_take (i := 30) (oi := ?o30c) (v := ?v30c) ?hi30c (by kernel_rfl) (by kernel_rfl) (by kernel_rfl) ?hQ30c (Or.inl ⟨?hw30c, ?hr30c⟩) hH0 ?rest30c
                  case hi30c => simp only [List.getElem?_toArray, List.getElem?_cons_succ, List.getElem?_cons_zero]; rfl
                  case hQ30c => exact fun _ _ _ h => h
                  case hw30c => kernel_rfl
                  case hr30c => intro w hSw; (try dsimp only at hSw); go_simp; try with_reducible rfl
                  try simp only [Act.put, List.setIfInBounds_toArray, List.set_cons_zero, List.set_cons_succ]
                  refine wpAnyH_take (i := 31) (oi := ?o31c) (v := ?v31c) ?hi31c (by kernel_rfl) (by kernel_rfl) (by kernel_rfl) ?hQ31c (Or.inl ⟨?hw31c, ?hr31c⟩) hH0 ?rest31c
                  case hi31c => simp only [List.getElem?_toArray, List.getElem?_cons_succ, List.getElem?_cons_zero]; rfl
                  case hQ31c => exact fun _ _ _ h => h
                  case hw31c => kernel_rfl
                  case hr31c => intro w hSw; (try dsimp only at hSw); go_simp; try with_reducible rfl
                  try simp only [Act.put, List.setIfInBounds_toArray, List.set_cons_zero, List.set_cons_succ]
                  refine wpAnyH_take (i := 32) (oi := ?o32c) (v := ?v32c) ?hi32c (by kernel_rfl) (by kernel_rfl) (by kernel_rfl) ?hQ32c (Or.inl ⟨?hw32c, ?hr32c⟩) hH0 ?rest32c
                  case hi32c => simp only [List.getElem?_toArray, List.getElem?_cons_succ, List.getElem?_cons_zero]; rfl
                  case hQ32c => exact fun _ _ _ h => h
                  case hw32c => kernel_rfl
                  case hr32c => intro w hSw; (try dsimp only at hSw); go_simp; try with_reducible rfl
                  try simp only [Act.put, List.setIfInBounds_toArray, List.set_cons_zero, List.set_cons_succ]
                  refine wpAnyH_take (i := 33) (oi := ?o33c) (v := ?v33c) ?hi33c (by kernel_rfl) (by kernel_rfl) (by kernel_rfl) ?hQ33c (Or.inl ⟨?hw33c, ?hr33c⟩) hH0 ?rest33c
                  case hi33c => simp only [List.getElem?_toArray, List.getElem?_cons_succ, List.getElem?_cons_zero]; rfl
                  case hQ33c => exact fun _ _ _ h => h
                  case hw33c => kernel_rfl
                  case hr33c => intro w hSw; (try dsimp only at hSw); go_simp; try with_reducible rfl
                  try simp only [Act.put, List.setIfInBounds_toArray, List.set_cons_zero, List.set_cons_succ]
                  refine wpAnyH_take (i := 34) (oi := ?o34c) (v := ?v34c) ?hi34c (by kernel_rfl) (by kernel_rfl) (by kernel_rfl) ?hQ34c (Or.inl ⟨?hw34c, ?hr34c⟩) hH0 ?rest34c
                  case hi34c => simp only [List.getElem?_toArray, List.getElem?_cons_succ, List.getElem?_cons_zero]; rfl
                  case hQ34c => exact fun _ _ _ h => h
                  case hw34c => kernel_rfl
                  case hr34c => intro w hSw; (try dsimp only at hSw); go_simp; try with_reducible rfl
                  try simp only [Act.put, List.setIfInBounds_toArray, List.set_cons_zero, List.set_cons_succ]
                  refine wpAnyH_take (i := 35) (oi := ?o35c) (v := ?v35c) ?hi35c (by kernel_rfl) (by kernel_rfl) (by kernel_rfl) ?hQ35c (Or.inl ⟨?hw35c, ?hr35c⟩) hH0 ?rest35c
                  case hi35c => simp only [List.getElem?_toArray, List.getElem?_cons_succ, List.getElem?_cons_zero]; rfl
                  case hQ35c => exact fun _ _ _ h => h
                  case hw35c => kernel_rfl
                  case hr35c => intro w hSw; (try dsimp only at hSw); go_simp; try with_reducible rfl
                  try simp only [Act.put, List.setIfInBounds_toArray, List.set_cons_zero, List.set_cons_succ]
                  as_aux_lemma =>
                    refine wpAnyH_take (i := 38) (oi := ?o38c) (v := ?v38c) ?hi38c (by kernel_rfl) (by kernel_rfl) (by kernel_rfl) ?hQ38c (Or.inl ⟨?hw38c, ?hr38c⟩) hH0 ?rest38c
                    case hi38c => simp only [List.getElem?_toArray, List.getElem?_cons_succ, List.getElem?_cons_zero]; rfl
                    case hQ38c => exact fun _ _ _ h => h
                    case hw38c => kernel_rfl
                    case hr38c => intro w hSw; (try dsimp only at hSw); go_simp; try with_reducible rfl
                    try simp only [Act.put, List.setIfInBounds_toArray, List.set_cons_zero, List.set_cons_succ]
                    refine wpAnyH_ready (rs := [36]) (by kernel_rfl) (by simp) ?_
                    refine AllReadyH.cons rfl (fun K hK => ?_) AllReadyH.nil
                    go_simp
                    refine (list_calls w.heap.size nd _ hSd.ring).mono ?_
                    rintro e wa ⟨va, rfl, hva, hbA⟩
                    have hSa := hSd.next hbA
                    try dsimp only
                    refine hK.out _ _ (keep12 hH0 hbA) (fun hH1 => ?_)
                    clear hK K hH0
                    try simp only [Act.put, List.setIfInBounds_toArray, List.set_cons_zero, List.set_cons_succ]
                    refine wpAnyH_ready (rs := [37]) (by kernel_rfl) (by simp) ?_
                    refine AllReadyH.cons rfl (fun K hK => ?_) AllReadyH.nil
                    go_simp
                    refine (back_calls _ va ((nd).map Prod.snd) _ (rowOf hva) hfew).mono ?_
                    rintro e wb ⟨vb, rfl, hvb, hbB⟩
                    have hSb := hSa.next hbB
                    try dsimp only
                    refine hK.out _ _ (keep12 hH1 hbB) (fun hH2 => ?_)
                    clear hK K hH1
                    try simp only [Act.put, List.setIfInBounds_toArray, List.set_cons_zero, List.set_cons_succ]
                    refine wpAnyH_ready (rs := [39]) (by kernel_rfl) (by simp) ?_
                    refine AllReadyH.cons rfl (fun K hK => ?_) AllReadyH.nil
                    go_simp
                    refine (same_refl _ _ vb _ ((nd).map Prod.snd) _ hvb hSb.row).mono ?_
                    rintro e wc2 ⟨rfl, hbC⟩
                    have hSc := hSb.next hbC
                    try dsimp only
                    refine hK.out _ _ (keep12 hH2 hbC) (fun hH3 => ?_)
                    clear hK K hH2
                    try simp only [Act.put, List.setIfInBounds_toArray, List.set_cons_zero, List.set_cons_succ]
                    refine wpAnyH_take (i := 40) (oi := ?o40c) (v := ?v40c) ?hi40c (by kernel_rfl) (by kernel_rfl) (by kernel_rfl) ?hQ40c (Or.inl ⟨?hw40c, ?hr40c⟩) hH3 ?rest40c
                    case hi40c => simp only [List.getElem?_toArray, List.getElem?_cons_succ, List.getElem?_cons_zero]; rfl
                    case hQ40c => exact fun _ _ _ h => h
                    case hw40c => kernel_rfl
                    case hr40c => intro w hSw; (try dsimp only at hSw); go_simp; try with_reducible rfl
                    try simp only [Act.put, List.setIfInBounds_toArray, List.set_cons_zero, List.set_cons_succ]
                    refine wpAnyH_take (i := 41) (oi := ?o41c) (v := ?v41c) ?hi41c (by kernel_rfl) (by kernel_rfl) (by kernel_rfl) ?hQ41c (Or.inl ⟨?hw41c, ?hr41c⟩) hH3 ?rest41c
                    case hi41c => simp only [List.getElem?_toArray, List.getElem?_cons_succ, List.getElem?_cons_zero]; rfl
                    case hQ41c => exact fun _ _ _ h => h
                    case hw41c => kernel_rfl
                    case hr41c => intro w hSw; (try dsimp only at hSw); go_simp; try with_reducible rfl
                    try simp only [Act.put, List.setIfInBounds_toArray, List.set_cons_zero, List.set_cons_succ]
                    refine wpAnyH_take (i := 42) (oi := ?o42c) (v := ?v42c) ?hi42c (by kernel_rfl) (by kernel_rfl) (by kernel_rfl) ?hQ42c (Or.inl ⟨?hw42c, ?hr42c⟩) hH3 ?rest42c
                    case hi42c => simp only [List.getElem?_toArray, List.getElem?_cons_succ, List.getElem?_cons_zero]; rfl
                    case hQ42c => exact fun _ _ _ h => h
                    case hw42c => kernel_rfl
                    case hr42c => intro w hSw; (try dsimp only at hSw); go_simp; try with_reducible rfl
                    try simp only [Act.put, List.setIfInBounds_toArray, List.set_cons_zero, List.set_cons_succ]
                    refine wpAnyH_take (i := 43) (oi := ?o43c) (v := ?v43c) ?hi43c (by kernel_rfl) (by kernel_rfl) (by kernel_rfl) ?hQ43c (Or.inl ⟨?hw43c, ?hr43c⟩) hH3 ?rest43c
                    case hi43c => simp only [List.getElem?_toArray, List.getElem?_cons_succ, List.getElem?_cons_zero]; rfl
                    case hQ43c => exact fun _ _ _ h => h
                    case hw43c => kernel_rfl
                    case hr43c => intro w hSw; (try dsimp only at hSw); go_simp; try with_reducible rfl
                    try simp only [Act.put, List.setIfInBounds_toArray, List.set_cons_zero, List.set_cons_succ]
                    refine wpAnyH_take (i := 44) (oi := ?o44c) (v := ?v44c) ?hi44c (by kernel_rfl) (by kernel_rfl) (by kernel_rfl) ?hQ44c (Or.inl ⟨?hw44c, ?hr44c⟩) hH3 ?rest44c
                    case hi44c => simp only [List.getElem?_toArray, List.getElem?_cons_succ, List.getElem?_cons_zero]; rfl
                    case hQ44c => exact fun _ _ _ h => h
                    case hw44c => kernel_rfl
                    case hr44c => intro w hSw; (try dsimp only at hSw); go_simp; try with_reducible rfl
                    try simp only [Act.put, List.setIfInBounds_toArray, List.set_cons_zero, List.set_cons_succ]
                    refine wpAnyH_take (i := 47) (oi := ?o47c) (v := ?v47c) ?hi47c (by kernel_rfl) (by kernel_rfl) (by kernel_rfl) ?hQ47c (Or.inl ⟨?hw47c, ?hr47c⟩) hH3 ?rest47c
                    case hi47c => simp only [List.getElem?_toArray, List.getElem?_cons_succ, List.getElem?_cons_zero]; rfl
                    case hQ47c => exact fun _ _ _ h => h
                    case hw47c => kernel_rfl
                    case hr47c => intro w hSw; (try dsimp only at hSw); go_simp; try with_reducible rfl
                    try simp only [Act.put, List.setIfInBounds_toArray, List.set_cons_zero, List.set_cons_succ]
                    refine wpAnyH_take (i := 48) (oi := ?o48c) (v := ?v48c) ?hi48c (by kernel_rfl) (by kernel_rfl) (by kernel_rfl) ?hQ48c (Or.inl ⟨?hw48c, ?hr48c⟩) hH3 ?rest48c
                    case hi48c => simp only [List.getElem?_toArray, List.getElem?_cons_succ, List.getElem?_cons_zero]; rfl
                    case hQ48c => exact fun _ _ _ h => h
                    case hw48c => kernel_rfl
                    case hr48c => intro w hSw; (try dsimp only at hSw); go_simp; try with_reducible rfl
                    try simp only [Act.put, List.setIfInBounds_toArray, List.set_cons_zero, List.set_cons_succ]
                    as_aux_lemma =>
                      refine wpAnyH_ready (rs := [45]) (by kernel_rfl) (by simp) ?_
                      refine AllReadyH.cons rfl (fun K hK => ?_) AllReadyH.nil
                      go_simp
                      refine (of_calls w.heap.size nd obj _ hSc.ring).mono ?_
                      rintro e wd ⟨vd, rfl, hvd, hbD⟩
                      have hSdd := hSc.next hbD
                      try dsimp only
                      refine hK.out _ _ (keep12 hH3 hbD) (fun hH4 => ?_)
                      clear hK K hH3
                      try simp only [Act.put, List.setIfInBounds_toArray, List.set_cons_zero, List.set_cons_succ]
                      refine wpAnyH_ready (rs := [46]) (by kernel_rfl) (by simp) ?_
                      refine AllReadyH.cons rfl (fun K hK => ?_) AllReadyH.nil
                      go_simp
                      refine (back_calls _ vd (ofW ((nd).map Prod.snd) obj) _ hvd (ofW_few hfew)).mono ?_
                      rintro e we ⟨ve, rfl, hve, hbE⟩
                      have hSe := hSdd.next hbE
                      try dsimp only
                      refine hK.out _ _ (keep12 hH4 hbE) (fun hH5 => ?_)
                      clear hK K hH4
                      try simp only [Act.put, List.setIfInBounds_toArray, List.set_cons_zero, List.set_cons_succ]
                      refine wpAnyH_ready (rs := [49]) (by kernel_rfl) (by simp) ?_
                      refine AllReadyH.cons rfl (fun K hK => ?_) AllReadyH.nil
                      go_simp
                      refine (ofL_calls _ _ ((nd).map Prod.snd) obj _ hSe.row hfew).mono ?_
                      rintro e wf ⟨vf, rfl, hvf, hbF⟩
                      have hSf := hSe.next hbF
                      try dsimp only
                      refine hK.out _ _ (keep12 hH5 hbF) (fun hH6 => ?_)
                      clear hK K hH5
                      try simp only [Act.put, List.setIfInBounds_toArray, List.set_cons_zero, List.set_cons_succ]
                      refine wpAnyH_ready (rs := [50]) (by kernel_rfl) (by simp) ?_
                      refine AllReadyH.cons rfl (fun K hK => ?_) AllReadyH.nil
                      go_simp
                      refine (same_refl _ _ ve vf (ofW ((nd).map Prod.snd) obj) _ (hve.below hbF) hvf).mono ?_
                      rintro e wg ⟨rfl, hbG⟩
                      have hSg := hSf.next hbG
                      try dsimp only
                      refine hK.out _ _ (keep12 hH6 hbG) (fun hH7 => ?_)
                      clear hK K hH6
                      try simp only [Act.put, List.setIfInBounds_toArray, List.set_cons_zero, List.set_cons_succ]
                      as_aux_lemma =>
                        refine wpAnyH_take (i := 51) (oi := ?o51c) (v := ?v51c) ?hi51c (by kernel_rfl) (by kernel_rfl) (by kernel_rfl) ?hQ51c (Or.inl ⟨?hw51c, ?hr51c⟩) hH7 ?rest51c
                        case hi51c => simp only [List.getElem?_toArray, List.getElem?_cons_succ, List.getElem?_cons_zero]; rfl
                        case hQ51c => exact fun _ _ _ h => h
                        case hw51c => kernel_rfl
                        case hr51c => intro w hSw; (try dsimp only at hSw); go_simp; try with_reducible rfl
                        try simp only [Act.put, List.setIfInBounds_toArray, List.set_cons_zero, List.set_cons_succ]
                        refine wpAnyH_take (i := 52) (oi := ?o52c) (v := ?v52c) ?hi52c (by kernel_rfl) (by kernel_rfl) (by kernel_rfl) ?hQ52c (Or.inl ⟨?hw52c, ?hr52c⟩) hH7 ?rest52c
                        case hi52c => simp only [List.getElem?_toArray, List.getElem?_cons_succ, List.getElem?_cons_zero]; rfl
                        case hQ52c => exact fun _ _ _ h => h
                        case hw52c => kernel_rfl
                        case hr52c => intro w hSw; (try dsimp only at hSw); go_simp; try with_reducible rfl
                        try simp only [Act.put, List.setIfInBounds_toArray, List.set_cons_zero, List.set_cons_succ]
                        refine wpAnyH_take (i := 53) (oi := ?o53c) (v := ?v53c) ?hi53c (by kernel_rfl) (by kernel_rfl) (by kernel_rfl) ?hQ53c (Or.inl ⟨?hw53c, ?hr53c⟩) hH7 ?rest53c
                        case hi53c => simp only [List.getElem?_toArray, List.getElem?_cons_succ, List.getElem?_cons_zero]; rfl
                        case hQ53c => exact fun _ _ _ h => h
                        case hw53c => kernel_rfl
                        case hr53c => intro w hSw; (try dsimp only at hSw); go_simp; try with_reducible rfl
                        try simp only [Act.put, List.setIfInBounds_toArray, List.set_cons_zero, List.set_cons_succ]
                        refine wpAnyH_take (i := 54) (oi := ?o54c) (v := ?v54c) ?hi54c (by kernel_rfl) (by kernel_rfl) (by kernel_rfl) ?hQ54c (Or.inl ⟨?hw54c, ?hr54c⟩) hH7 ?rest54c
                        case hi54c => simp only [List.getElem?_toArray, List.getElem?_cons_succ, List.getElem?_cons_zero]; rfl
                        case hQ54c => exact fun _ _ _ h => h
                        case hw54c => kernel_rfl
                        case hr54c => intro w hSw; (try dsimp only at hSw); go_simp; try with_reducible rfl
                        try simp only [Act.put, List.setIfInBounds_toArray, List.set_cons_zero, List.set_cons_succ]
                        refine wpAnyH_take (i := 56) (oi := ?o56c) (v := ?v56c) ?hi56c (by kernel_rfl) (by kernel_rfl) (by kernel_rfl) ?hQ56c (Or.inl ⟨?hw56c, ?hr56c⟩) hH7 ?rest56c
                        case hi56c => simp only [List.getElem?_toArray, List.getElem?_cons_succ, List.getElem?_cons_zero]; rfl
                        case hQ56c => exact fun _ _ _ h => h
                        case hw56c => kernel_rfl
                        case hr56c => intro w hSw; (try dsimp only at hSw); go_simp; try with_reducible rfl
                        try simp only [Act.put, List.setIfInBounds_toArray, List.set_cons_zero, List.set_cons_succ]
                        refine wpAnyH_take (i := 57) (oi := ?o57c) (v := ?v57c) ?hi57c (by kernel_rfl) (by kernel_rfl) (by kernel_rfl) ?hQ57c (Or.inl ⟨?hw57c, ?hr57c⟩) hH7 ?rest57c
                        case hi57c => simp only [List.getElem?_toArray, List.getElem?_cons_succ, List.getElem?_cons_zero]; rfl
                        case hQ57c => exact fun _ _ _ h => h
                        case hw57c => kernel_rfl
                        case hr57c => intro w hSw; (try dsimp only at hSw); go_simp; try with_reducible rfl
                        try simp only [Act.put, List.setIfInBounds_toArray, List.set_cons_zero, List.set_cons_succ]
                        refine wpAnyH_ready (rs := [55]) (by kernel_rfl) (by simp) ?_
                        refine AllReadyH.cons rfl (fun K hK => ?_) AllReadyH.nil
                        go_simp
                        refine (len_callsN w.heap.size nd N hN.out _ hSg.ring).mono ?_
                        rintro e wh ⟨rfl, rfl⟩
                        try dsimp only
                        refine hK.out _ _ (hH7) (fun hH8 => ?_)
                        clear hK K hH7
                        try simp only [Act.put, List.setIfInBounds_toArray, List.set_cons_zero, List.set_cons_succ]
                        refine wpAnyH_take (i := 58) (oi := ?o58c) (v := ?v58c) ?hi58c (by kernel_rfl) (by kernel_rfl) (by kernel_rfl) ?hQ58c (Or.inl ⟨?hw58c, ?hr58c⟩) hH8 ?rest58c
                        case hi58c => simp only [List.getElem?_toArray, List.getElem?_cons_succ, List.getElem?_cons_zero]; rfl
                        case hQ58c => exact fun _ _ _ h => h
                        case hw58c => kernel_rfl
                        case hr58c => intro w hSw; (try dsimp only at hSw); go_simp; try with_reducible rfl
                        try simp only [Act.put, List.setIfInBounds_toArray, List.set_cons_zero, List.set_cons_succ]
                        refine wpAnyH_take (i := 59) (oi := ?o59c) (v := ?v59c) ?hi59c (by kernel_rfl) (by kernel_rfl) (by kernel_rfl) ?hQ59c (Or.inl ⟨?hw59c, ?hr59c⟩) hH8 ?rest59c
                        case hi59c => simp only [List.getElem?_toArray, List.getElem?_cons_succ, List.getElem?_cons_zero]; rfl
                        case hQ59c => exact fun _ _ _ h => h
                        case hw59c => kernel_rfl
                        case hr59c => intro w hSw; (try dsimp only at hSw); go_simp; try with_reducible rfl
                        try simp only [Act.put, List.setIfInBounds_toArray, List.set_cons_zero, List.set_cons_succ]
                        refine wpAnyH_done (by kernel_rfl) ?_ _
                        go_wp2_with fail
                        exact ⟨⟨k + 1, nd, by omega, rfl, hSg⟩, by simp [intOf]; omega⟩
          | some y =>
            obtain ⟨a, r, rfl, hd, ha, hy⟩ := findW_split' hfd
            have hpl := place_some (r := r) ha hy
            have hka : a.length < ((a ++ y :: r).map Prod.snd).length := by simp
            clear hd ha hy
            as_aux_lemma =>
              rw [hnx] at HN HL
              simp only [tellL] at HN HL
              go_wp2_with fail
              refine HN.mono ?_
              rintro e w1 ⟨rfl, hb1⟩
              have hS2 := hS1.next hb1
              have hba : Below w1.heap.size w1 (w1.alloc (.cells #[.int .i64 z.task, .int .i64 z.kind, .int .i64 z.obj, .int .u32 z.mask] 27)) := (Below.refl _ w1).alloc (Nat.le_refl _) _
              have hS3 := hS2.next hba
              go_wp2_with fail
              refine (HL _ hS3.row).mono ?_
              rintro e w3 ⟨rfl, hb3⟩
              have hS4 := hS3.next hb3
              have g1 := own_first hb3
              clear hba hb1 hb3 hS3 hS2
              have hbb : Below w3.heap.size w3 (w3.alloc (.cells #[.int .i64 z.task, .int .i64 z.kind, .int .i64 z.obj, .int .u32 z.mask] 34)) := (Below.refl _ w3).alloc (Nat.le_refl _) _
              have hS5 := hS4.next hbb
              have g1b := box_on g1 hbb
              go_wp2_with fail
              refine (findq_some w.heap.size (a ++ y :: r) task y _ hS5.ring hfd).mono ?_
              rintro e w5 ⟨rfl, hb5⟩
              have hS6 := hS5.next hb5
              have g2 := own_first hb5
              have g1c := box_on g1b hb5
              clear hbb g1 g1b hb5 hS5 hS4
              have hbc : Below w5.heap.size w5 (w5.alloc (.cells #[.int .i64 y.2.task, .int .i64 y.2.kind, .int .i64 y.2.obj, .int .u32 y.2.mask] 27)) := (Below.refl _ w5).alloc (Nat.le_refl _) _
              have hS7 := hS6.next hbc
              have g1d := box_on g1c hbc
              have g2d := box_on g2 hbc
              have g3d := World.alloc_heap_new w5 (.cells #[.int .i64 y.2.task, .int .i64 y.2.kind, .int .i64 y.2.obj, .int .u32 y.2.mask] 27)
              clear hbc g1c g2 hS6
              go_wp2_with fail
              refine (place_calls w.heap.size _ _ task _ hS7.row).mono ?_
              rintro e w6 ⟨rfl, rfl⟩
              rw [hpl]
              obtain ⟨W, hW⟩ : ∃ W, W = w5.alloc (.cells #[.int .i64 y.2.task, .int .i64 y.2.kind, .int .i64 y.2.obj, .int .u32 y.2.mask] 27) := ⟨_, rfl⟩
              rw [← hW] at g1d g2d g3d hS7 ⊢
              obtain ⟨c0, c1, c2, c3, f0, f1, f2, f3⟩ := blk4 g1d
              obtain ⟨d0, d1, d2, d3, e0, e1, e2, e3⟩ := blk4 g2d
              obtain ⟨p0, p1, p2, p3, q0, q1, q2, q3⟩ := blk4 g3d
              clear g1d g2d g3d hW hfd hnx hpl
              have hn1 : ∀ W, (binOp .neq 34 (.agg #[.int .i64 z.task, .int .i64 z.kind, .int .i64 z.obj, .int .u32 z.mask]) (.agg #[.int .i64 z.task, .int .i64 z.kind, .int .i64 z.obj, .int .u32 z.mask])).run Try.prog W = .ok (.bool false) W := fun W => by have := wait_neq 34 (.inr rfl) (z) (z) W; simpa using this
              obtain ⟨A8, N, c8, hv, hN0⟩ := hvl
              subst hv
              obtain ⟨g, cap, he, a0, a1, a2, a3⟩ := hS7.row.at hka
              rw [at_place] at a0 a1 a2 a3
              have hgW : g < W.heap.size := World.block_lt_of_cell? W _ a0
              have hA8 : A8 = some ⟨g, 0, none⟩ := by injection he
              clear he
              subst hA8
              have hn2 : ∀ W, (binOp .neq 34 (.agg #[.int .i64 y.2.task, .int .i64 y.2.kind, .int .i64 y.2.obj, .int .u32 y.2.mask]) (.agg #[.int .i64 y.2.task, .int .i64 y.2.kind, .int .i64 y.2.obj, .int .u32 y.2.mask])).run Try.prog W = .ok (.bool false) W := fun W => by have := wait_neq 34 (.inr rfl) (y.2) (y.2) W; simpa using this
              have hpos : ((a.length : Int) ≥ 0) := by omega
              have hkb : (a.length : Int) < (N : Int) := by rw [hN0, List.length_append, List.length_cons]; omega
              have hN := Lib.hid hN0
              clear hN0
              have hSd := hS7.next ((Below.refl _ W).drew)
              clear hS7
              go_wp2_with fail
              have hb0 : Below W.heap.size W W.drew := (Below.refl _ W).drew
              have hHeld0 : (fun W' => W'.cell? ⟨w1.heap.size, 0, none⟩ = some (.int .i64 z.task) ∧ W'.cell? ⟨w1.heap.size, 1, none⟩ = some (.int .i64 z.kind) ∧ W'.cell? ⟨w1.heap.size, 2, none⟩ = some (.int .i64 z.obj) ∧ W'.cell? ⟨w1.heap.size, 3, none⟩ = some (.int .u32 z.mask) ∧ W'.cell? ⟨w3.heap.size, 0, none⟩ = some (.int .i64 z.task) ∧ W'.cell? ⟨w3.heap.size, 1, none⟩ = some (.int .i64 z.kind) ∧ W'.cell? ⟨w3.heap.size, 2, none⟩ = some (.int .i64 z.obj) ∧ W'.cell? ⟨w3.heap.size, 3, none⟩ = some (.int .u32 z.mask) ∧ W'.cell? ⟨w5.heap.size, 0, none⟩ = some (.int .i64 y.2.task) ∧ W'.cell? ⟨w5.heap.size, 1, none⟩ = some (.int .i64 y.2.kind) ∧ W'.cell? ⟨w5.heap.size, 2, none⟩ = some (.int .i64 y.2.obj) ∧ W'.cell? ⟨w5.heap.size, 3, none⟩ = some (.int .u32 y.2.mask) ∧ W'.cell? ⟨g, a.length * 4, none⟩ = some (.int .i64 y.2.task) ∧ W'.cell? ⟨g, a.length * 4 + 1, none⟩ = some (.int .i64 y.2.kind) ∧ W'.cell? ⟨g, a.length * 4 + 2, none⟩ = some (.int .i64 y.2.obj) ∧ W'.cell? ⟨g, a.length * 4 + 3, none⟩ = some (.int .u32 y.2.mask)) W := ⟨c0, c1, c2, c3, d0, d1, d2, d3, p0, p1, p2, p3, a0, a1, a2, a3⟩
              refine wp_region_held_drew (S := (fun W' => W'.cell? ⟨w1.heap.size, 0, none⟩ = some (.int .i64 z.task) ∧ W'.cell? ⟨w1.heap.size, 1, none⟩ = some (.int .i64 z.kind) ∧ W'.cell? ⟨w1.heap.size, 2, none⟩ = some (.int .i64 z.obj) ∧ W'.cell? ⟨w1.heap.size, 3, none⟩ = some (.int .u32 z.mask) ∧ W'.cell? ⟨w3.heap.size, 0, none⟩ = some (.int .i64 z.task) ∧ W'.cell? ⟨w3.heap.size, 1, none⟩ = some (.int .i64 z.kind) ∧ W'.cell? ⟨w3.heap.size, 2, none⟩ = some (.int .i64 z.obj) ∧ W'.cell? ⟨w3.heap.size, 3, none⟩ = some (.int .u32 z.mask) ∧ W'.cell? ⟨w5.heap.size, 0, none⟩ = some (.int .i64 y.2.task) ∧ W'.cell? ⟨w5.heap.size, 1, none⟩ = some (.int .i64 y.2.kind) ∧ W'.cell? ⟨w5.heap.size, 2, none⟩ = some (.int .i64 y.2.obj) ∧ W'.cell? ⟨w5.heap.size, 3, none⟩ = some (.int .u32 y.2.mask) ∧ W'.cell? ⟨g, a.length * 4, none⟩ = some (.int .i64 y.2.task) ∧ W'.cell? ⟨g, a.length * 4 + 1, none⟩ = some (.int .i64 y.2.kind) ∧ W'.cell? ⟨g, a.length * 4 + 2, none⟩ = some (.int .i64 y.2.obj) ∧ W'.cell? ⟨g, a.length * 4 + 3, none⟩ = some (.int .u32 y.2.mask))) (by kernel_rfl) (keep16 hHeld0 hb0) (fun hH0 => ?_)
              as_aux_lemma =>
                refine wpAnyH_take (i := 0) (oi := ?o0d) (v := ?v0d) ?hi0d (by kernel_rfl) (by kernel_rfl) (by kernel_rfl) ?hQ0d (Or.inl ⟨?hw0d, ?hr0d⟩) hH0 ?rest0d
                case hi0d => simp only [List.getElem?_toArray, List.getElem?_cons_zero]; rfl
                case hQ0d => exact fun _ _ _ h => h
                case hw0d => kernel_rfl
                case hr0d => intro w hSw; (try dsimp only at hSw); go_simp; try with_reducible rfl
                try simp only [Act.put, List.setIfInBounds_toArray, List.set_cons_zero, List.set_cons_succ]
                refine wpAnyH_take (i := 1) (oi := ?o1d) (v := ?v1d) ?hi1d (by kernel_rfl) (by kernel_rfl) (by kernel_rfl) ?hQ1d (Or.inl ⟨?hw1d, ?hr1d⟩) hH0 ?rest1d
                case hi1d => simp only [List.getElem?_toArray, List.getElem?_cons_succ, List.getElem?_cons_zero]; rfl
                case hQ1d => exact fun _ _ _ h => h
                case hw1d => kernel_rfl
                case hr1d => intro w hSw; (try dsimp only at hSw); go_simp; try with_reducible rfl
                try simp only [Act.put, List.setIfInBounds_toArray, List.set_cons_zero, List.set_cons_succ]
                refine wpAnyH_take (i := 2) (oi := ?o2d) (v := ?v2d) ?hi2d (by kernel_rfl) (by kernel_rfl) (by kernel_rfl) ?hQ2d (Or.inl ⟨?hw2d, ?hr2d⟩) hH0 ?rest2d
                case hi2d => simp only [List.getElem?_toArray, List.getElem?_cons_succ, List.getElem?_cons_zero]; rfl
                case hQ2d => exact fun _ _ _ h => h
                case hw2d => kernel_rfl
                case hr2d => intro w hSw; (try dsimp only at hSw); go_simp; try with_reducible rfl
                try simp only [Act.put, List.setIfInBounds_toArray, List.set_cons_zero, List.set_cons_succ]
                refine wpAnyH_take (i := 3) (oi := ?o3d) (v := ?v3d) ?hi3d (by kernel_rfl) (by kernel_rfl) (by kernel_rfl) ?hQ3d (Or.inl ⟨?hw3d, ?hr3d⟩) hH0 ?rest3d
                case hi3d => simp only [List.getElem?_toArray, List.getElem?_cons_succ, List.getElem?_cons_zero]; rfl
                case hQ3d => exact fun _ _ _ h => h
                case hw3d => kernel_rfl
                case hr3d => intro w hSw; (try dsimp only at hSw); go_simp; try with_reducible rfl
                try simp only [Act.put, List.setIfInBounds_toArray, List.set_cons_zero, List.set_cons_succ]
                refine wpAnyH_take (i := 4) (oi := ?o4d) (v := ?v4d) ?hi4d (by kernel_rfl) (by kernel_rfl) (by kernel_rfl) ?hQ4d (Or.inl ⟨?hw4d, ?hr4d⟩) hH0 ?rest4d
                case hi4d => simp only [List.getElem?_toArray, List.getElem?_cons_succ, List.getElem?_cons_zero]; rfl
                case hQ4d => exact fun _ _ _ h => h
                case hw4d => kernel_rfl
                case hr4d => intro w hSw; (try dsimp only at hSw); go_simp; try with_reducible rfl
                try simp only [Act.put, List.setIfInBounds_toArray, List.set_cons_zero, List.set_cons_succ]
                refine wpAnyH_take (i := 5) (oi := ?o5d) (v := ?v5d) ?hi5d (by kernel_rfl) (by kernel_rfl) (by kernel_rfl) ?hQ5d (Or.inl ⟨?hw5d, ?hr5d⟩) hH0 ?rest5d
                case hi5d => simp only [List.getElem?_toArray, List.getElem?_cons_succ, List.getElem?_cons_zero]; rfl
                case hQ5d => exact fun _ _ _ h => h
                case hw5d => kernel_rfl
                case hr5d => intro w hSw; (try dsimp only at hSw); go_simp; try with_reducible rfl
                try simp only [Act.put, List.setIfInBounds_toArray, List.set_cons_zero, List.set_cons_succ]
                refine wpAnyH_take (i := 6) (oi := ?o6d) (v := ?v6d) ?hi6d (by kernel_rfl) (by kernel_rfl) (by kernel_rfl) ?hQ6d (Or.inl ⟨?hw6d, ?hr6d⟩) hH0 ?rest6d
                case hi6d => simp only [List.getElem?_toArray, List.getElem?_cons_succ, List.getElem?_cons_zero]; rfl
                case hQ6d => exact fun _ _ _ h => h
                case hw6d => kernel_rfl
                case hr6d => intro w hSw; (try dsimp only at hSw); go_simp; try with_reducible rfl
                try simp only [Act.put, List.setIfInBounds_toArray, List.set_cons_zero, List.set_cons_succ]
                refine wpAnyH_take (i := 7) (oi := ?o7d) (v := ?v7d) ?hi7d (by kernel_rfl) (by kernel_rfl) (by kernel_rfl) ?hQ7d (Or.inl ⟨?hw7d, ?hr7d⟩) hH0 ?rest7d
                case hi7d => simp only [List.getElem?_toArray, List.getElem?_cons_succ, List.getElem?_cons_zero]; rfl
                case hQ7d => exact fun _ _ _ h => h
                case hw7d => kernel_rfl
                case hr7d => intro w hSw; (try dsimp only at hSw); go_simp; try with_reducible rfl
                try simp only [Act.put, List.setIfInBounds_toArray, List.set_cons_zero, List.set_cons_succ]
                refine wpAnyH_take (i := 8) (oi := ?o8d) (v := ?v8d) ?hi8d (by kernel_rfl) (by kernel_rfl) (by kernel_rfl) ?hQ8d (Or.inl ⟨?hw8d, ?hr8d⟩) hH0 ?rest8d
                case hi8d => simp only [List.getElem?_toArray, List.getElem?_cons_succ, List.getElem?_cons_zero]; rfl
                case hQ8d => exact fun _ _ _ h => h
                case hw8d => kernel_rfl
                case hr8d => intro w hSw; (try dsimp only at hSw); go_simp; try with_reducible rfl
                try simp only [Act.put, List.setIfInBounds_toArray, List.set_cons_zero, List.set_cons_succ]
                refine wpAnyH_take (i := 9) (oi := ?o9d) (v := ?v9d) ?hi9d (by kernel_rfl) (by kernel_rfl) (by kernel_rfl) ?hQ9d (Or.inl ⟨?hw9d, ?hr9d⟩) hH0 ?rest9d
                case hi9d => simp only [List.getElem?_toArray, List.getElem?_cons_succ, List.getElem?_cons_zero]; rfl
                case hQ9d => exact fun _ _ _ h => h
                case hw9d => kernel_rfl
                case hr9d => intro w hSw; (try dsimp only at hSw); go_simp; try with_reducible rfl
                try simp only [Act.put, List.setIfInBounds_toArray, List.set_cons_zero, List.set_cons_succ]
                refine wpAnyH_take (i := 10) (oi := ?o10d) (v := ?v10d) ?hi10d (by kernel_rfl) (by kernel_rfl) (by kernel_rfl) ?hQ10d (Or.inl ⟨?hw10d, ?hr10d⟩) hH0 ?rest10d
                case hi10d => simp only [List.getElem?_toArray, List.getElem?_cons_succ, List.getElem?_cons_zero]; rfl
                case hQ10d => exact fun _ _ _ h => h
                case hw10d => kernel_rfl
                case hr10d => intro w hSw; (try dsimp only at hSw); go_simp; try with_reducible rfl
                try simp only [Act.put, List.setIfInBounds_toArray, List.set_cons_zero, List.set_cons_succ]
                refine wpAnyH_take (i := 11) (oi := ?o11d) (v := ?v11d) ?hi11d (by kernel_rfl) (by kernel_rfl) (by kernel_rfl) ?hQ11d (Or.inl ⟨?hw11d, ?hr11d⟩) hH0 ?rest11d
                case hi11d => simp only [List.getElem?_toArray, List.getElem?_cons_succ, List.getElem?_cons_zero]; rfl
                case hQ11d => exact fun _ _ _ h => h
                case hw11d => kernel_rfl
                case hr11d => intro w hSw; (try dsimp only at hSw); go_simp; try with_reducible rfl
                try simp only [Act.put, List.setIfInBounds_toArray, List.set_cons_zero, List.set_cons_succ]
                refine wpAnyH_take (i := 12) (oi := ?o12d) (v := ?v12d) ?hi12d (by kernel_rfl) (by kernel_rfl) (by kernel_rfl) ?hQ12d (Or.inl ⟨?hw12d, ?hr12d⟩) hH0 ?rest12d
                case hi12d => simp only [List.getElem?_toArray, List.getElem?_cons_succ, List.getElem?_cons_zero]; rfl
                case hQ12d => exact fun _ _ _ h => h
                case hw12d => kernel_rfl
                case hr12d => intro w hSw; (try dsimp only at hSw); go_simp; try with_reducible rfl
                try simp only [Act.put, List.setIfInBounds_toArray, List.set_cons_zero, List.set_cons_succ]
                refine wpAnyH_take (i := 13) (oi := ?o13d) (v := ?v13d) ?hi13d (by kernel_rfl) (by kernel_rfl) (by kernel_rfl) ?hQ13d (Or.inl ⟨?hw13d, ?hr13d⟩) hH0 ?rest13d
                case hi13d => simp only [List.getElem?_toArray, List.getElem?_cons_succ, List.getElem?_cons_zero]; rfl
                case hQ13d => exact fun _ _ _ h => h
                case hw13d => kernel_rfl
                case hr13d => intro w hSw; (try dsimp only at hSw); go_simp; try with_reducible rfl
                try simp only [Act.put, List.setIfInBounds_toArray, List.set_cons_zero, List.set_cons_succ]
                refine wpAnyH_take (i := 14) (oi := ?o14d) (v := ?v14d) ?hi14d (by kernel_rfl) (by kernel_rfl) (by kernel_rfl) ?hQ14d (Or.inl ⟨?hw14d, ?hr14d⟩) hH0 ?rest14d
                case hi14d => simp only [List.getElem?_toArray, List.getElem?_cons_succ, List.getElem?_cons_zero]; rfl
                case hQ14d => exact fun _ _ _ h => h
                case hw14d => kernel_rfl
                case hr14d => intro w hSw; (try dsimp only at hSw); go_simp; try with_reducible rfl
                try simp only [Act.put, List.setIfInBounds_toArray, List.set_cons_zero, List.set_cons_succ]
                refine wpAnyH_take (i := 15) (oi := ?o15d) (v := ?v15d) ?hi15d (by kernel_rfl) (by kernel_rfl) (by kernel_rfl) ?hQ15d (Or.inl ⟨?hw15d, ?hr15d⟩) hH0 ?rest15d
                case hi15d => simp only [List.getElem?_toArray, List.getElem?_cons_succ, List.getElem?_cons_zero]; rfl
                case hQ15d => exact fun _ _ _ h => h
                case hw15d => kernel_rfl
                case hr15d => intro w hSw; (try dsimp only at hSw); go_simp; try with_reducible rfl
                try simp only [Act.put, List.setIfInBounds_toArray, List.set_cons_zero, List.set_cons_succ]
                as_aux_lemma =>
                  refine wpAnyH_take (i := 16) (oi := ?o16d) (v := ?v16d) ?hi16d (by kernel_rfl) (by kernel_rfl) (by kernel_rfl) ?hQ16d (Or.inl ⟨?hw16d, ?hr16d⟩) hH0 ?rest16d
                  case hi16d => simp only [List.getElem?_toArray, List.getElem?_cons_succ, List.getElem?_cons_zero]; rfl
                  case hQ16d => exact fun _ _ _ h => h
                  case hw16d => kernel_rfl
                  case hr16d => intro w hSw; (try dsimp only at hSw); go_simp; try with_reducible rfl
                  try simp only [Act.put, List.setIfInBounds_toArray, List.set_cons_zero, List.set_cons_succ]
                  refine wpAnyH_take (i := 17) (oi := ?o17d) (v := ?v17d) ?hi17d (by kernel_rfl) (by kernel_rfl) (by kernel_rfl) ?hQ17d (Or.inl ⟨?hw17d, ?hr17d⟩) hH0 ?rest17d
                  case hi17d => simp only [List.getElem?_toArray, List.getElem?_cons_succ, List.getElem?_cons_zero]; rfl
                  case hQ17d => exact fun _ _ _ h => h
                  case hw17d => kernel_rfl
                  case hr17d => intro w hSw; (try dsimp only at hSw); go_simp; try with_reducible rfl
                  try simp only [Act.put, List.setIfInBounds_toArray, List.set_cons_zero, List.set_cons_succ]
                  refine wpAnyH_take (i := 18) (oi := ?o18d) (v := ?v18d) ?hi18d (by kernel_rfl) (by kernel_rfl) (by kernel_rfl) ?hQ18d (Or.inl ⟨?hw18d, ?hr18d⟩) hH0 ?rest18d
                  case hi18d => simp only [List.getElem?_toArray, List.getElem?_cons_succ, List.getElem?_cons_zero]; rfl
                  case hQ18d => exact fun _ _ _ h => h
                  case hw18d => kernel_rfl
                  case hr18d => intro w hSw; (try dsimp only at hSw); go_simp; try with_reducible rfl
                  try simp only [Act.put, List.setIfInBounds_toArray, List.set_cons_zero, List.set_cons_succ]
                  refine wpAnyH_take (i := 19) (oi := ?o19d) (v := ?v19d) ?hi19d (by kernel_rfl) (by kernel_rfl) (by kernel_rfl) ?hQ19d (Or.inl ⟨?hw19d, ?hr19d⟩) hH0 ?rest19d
                  case hi19d => simp only [List.getElem?_toArray, List.getElem?_cons_succ, List.getElem?_cons_zero]; rfl
                  case hQ19d => exact fun _ _ _ h => h
                  case hw19d => kernel_rfl
                  case hr19d => intro w hSw; (try dsimp only at hSw); go_simp; try with_reducible rfl
                  try simp only [Act.put, List.setIfInBounds_toArray, List.set_cons_zero, List.set_cons_succ]
                  refine wpAnyH_take (i := 20) (oi := ?o20d) (v := ?v20d) ?hi20d (by kernel_rfl) (by kernel_rfl) (by kernel_rfl) ?hQ20d (Or.inl ⟨?hw20d, ?hr20d⟩) hH0 ?rest20d
                  case hi20d => simp only [List.getElem?_toArray, List.getElem?_cons_succ, List.getElem?_cons_zero]; rfl
                  case hQ20d => exact fun _ _ _ h => h
                  case hw20d => kernel_rfl
                  case hr20d => intro w hSw; (try dsimp only at hSw); go_simp; try with_reducible rfl
                  try simp only [Act.put, List.setIfInBounds_toArray, List.set_cons_zero, List.set_cons_succ]
                  refine wpAnyH_take (i := 21) (oi := ?o21d) (v := ?v21d) ?hi21d (by kernel_rfl) (by kernel_rfl) (by kernel_rfl) ?hQ21d (Or.inl ⟨?hw21d, ?hr21d⟩) hH0 ?rest21d
                  case hi21d => simp only [List.getElem?_toArray, List.getElem?_cons_succ, List.getElem?_cons_zero]; rfl
                  case hQ21d => exact fun _ _ _ h => h
                  case hw21d => kernel_rfl
                  case hr21d => intro w hSw; (try dsimp only at hSw); go_simp; try with_reducible rfl
                  try simp only [Act.put, List.setIfInBounds_toArray, List.set_cons_zero, List.set_cons_succ]
                  refine wpAnyH_take (i := 22) (oi := ?o22d) (v := ?v22d) ?hi22d (by kernel_rfl) (by kernel_rfl) (by kernel_rfl) ?hQ22d (Or.inl ⟨?hw22d, ?hr22d⟩) hH0 ?rest22d
                  case hi22d => simp only [List.getElem?_toArray, List.getElem?_cons_succ, List.getElem?_cons_zero]; rfl
                  case hQ22d => exact fun _ _ _ h => h
                  case hw22d => kernel_rfl
                  case hr22d => intro w hSw; (try dsimp only at hSw); go_simp; try with_reducible rfl
                  try simp only [Act.put, List.setIfInBounds_toArray, List.set_cons_zero, List.set_cons_succ]
                  refine wpAnyH_take (i := 23) (oi := ?o23d) (v := ?v23d) ?hi23d (by kernel_rfl) (by kernel_rfl) (by kernel_rfl) ?hQ23d (Or.inl ⟨?hw23d, ?hr23d⟩) hH0 ?rest23d
                  case hi23d => simp only [List.getElem?_toArray, List.getElem?_cons_succ, List.getElem?_cons_zero]; rfl
                  case hQ23d => exact fun _ _ _ h => h
                  case hw23d => kernel_rfl
                  case hr23d => intro w hSw; (try dsimp only at hSw); go_simp; try with_reducible rfl
                  try simp only [Act.put, List.setIfInBounds_toArray, List.set_cons_zero, List.set_cons_succ]
                  refine wpAnyH_take (i := 24) (oi := ?o24d) (v := ?v24d) ?hi24d (by kernel_rfl) (by kernel_rfl) (by kernel_rfl) ?hQ24d (Or.inl ⟨?hw24d, ?hr24d⟩) hH0 ?rest24d
                  case hi24d => simp only [List.getElem?_toArray, List.getElem?_cons_succ, List.getElem?_cons_zero]; rfl
                  case hQ24d => exact fun _ _ _ h => h
                  case hw24d => kernel_rfl
                  case hr24d => intro w hSw; (try dsimp only at hSw); go_simp; try with_reducible rfl
                  try simp only [Act.put, List.setIfInBounds_toArray, List.set_cons_zero, List.set_cons_succ]
                  refine wpAnyH_take (i := 25) (oi := ?o25d) (v := ?v25d) ?hi25d (by kernel_rfl) (by kernel_rfl) (by kernel_rfl) ?hQ25d (Or.inl ⟨?hw25d, ?hr25d⟩) hH0 ?rest25d
                  case hi25d => simp only [List.getElem?_toArray, List.getElem?_cons_succ, List.getElem?_cons_zero]; rfl
                  case hQ25d => exact fun _ _ _ h => h
                  case hw25d => kernel_rfl
                  case hr25d => intro w hSw; (try dsimp only at hSw); go_simp; try with_reducible rfl
                  try simp only [Act.put, List.setIfInBounds_toArray, List.set_cons_zero, List.set_cons_succ]
                  refine wpAnyH_take (i := 26) (oi := ?o26d) (v := ?v26d) ?hi26d (by kernel_rfl) (by kernel_rfl) (by kernel_rfl) ?hQ26d (Or.inl ⟨?hw26d, ?hr26d⟩) hH0 ?rest26d
                  case hi26d => simp only [List.getElem?_toArray, List.getElem?_cons_succ, List.getElem?_cons_zero]; rfl
                  case hQ26d => exact fun _ _ _ h => h
                  case hw26d => kernel_rfl
                  case hr26d => intro w hSw; (try dsimp only at hSw); go_simp; try with_reducible rfl
                  try simp only [Act.put, List.setIfInBounds_toArray, List.set_cons_zero, List.set_cons_succ]
                  refine wpAnyH_take (i := 27) (oi := ?o27d) (v := ?v27d) ?hi27d (by kernel_rfl) (by kernel_rfl) (by kernel_rfl) ?hQ27d (Or.inl ⟨?hw27d, ?hr27d⟩) hH0 ?rest27d
                  case hi27d => simp only [List.getElem?_toArray, List.getElem?_cons_succ, List.getElem?_cons_zero]; rfl
                  case hQ27d => exact fun _ _ _ h => h
                  case hw27d => kernel_rfl
                  case hr27d => intro w hSw; (try dsimp only at hSw); go_simp; try with_reducible rfl
                  try simp only [Act.put, List.setIfInBounds_toArray, List.set_cons_zero, List.set_cons_succ]
                  refine wpAnyH_take (i := 28) (oi := ?o28d) (v := ?v28d) ?hi28d (by kernel_rfl) (by kernel_rfl) (by kernel_rfl) ?hQ28d (Or.inl ⟨?hw28d, ?hr28d⟩) hH0 ?rest28d
                  case hi28d => simp only [List.getElem?_toArray, List.getElem?_cons_succ, List.getElem?_cons_zero]; rfl
                  case hQ28d => exact fun _ _ _ h => h
                  case hw28d => kernel_rfl
                  case hr28d => intro w hSw; (try dsimp only at hSw); go_simp; try with_reducible rfl
                  try simp only [Act.put, List.setIfInBounds_toArray, List.set_cons_zero, List.set_cons_succ]
                  refine wpAnyH_take (i := 29) (oi := ?o29d) (v := undef) ?hi29d (by kernel_rfl) (by kernel_rfl) (by kernel_rfl) ?hQ29d (Or.inr ⟨?hw29d, rfl⟩) hH0 ?rest29d
                  case hi29d => simp only [List.getElem?_toArray, List.getElem?_cons_succ, List.getElem?_cons_zero]; rfl
                  case hQ29d => exact fun _ _ _ h => h
                  case hw29d => kernel_rfl
                  try simp only [Act.put, List.setIfInBounds_toArray, List.set_cons_zero, List.set_cons_succ]
                  refine wpAnyH_take (i := 30) (oi := ?o30d) (v := undef) ?hi30d (by kernel_rfl) (by kernel_rfl) (by kernel_rfl) ?hQ30d (Or.inr ⟨?hw30d, rfl⟩) hH0 ?rest30d
                  case hi30d => simp only [List.getElem?_toArray, List.getElem?_cons_succ, List.getElem?_cons_zero]; rfl
                  case hQ30d => exact fun _ _ _ h => h
                  case hw30d => kernel_rfl
                  try simp only [Act.put, List.setIfInBounds_toArray, List.set_cons_zero, List.set_cons_succ]
                  refine wpAnyH_take (i := 31) (oi := ?o31d) (v := undef) ?hi31d (by kernel_rfl) (by kernel_rfl) (by kernel_rfl) ?hQ31d (Or.inr ⟨?hw31d, rfl⟩) hH0 ?rest31d
                  case hi31d => simp only [List.getElem?_toArray, List.getElem?_cons_succ, List.getElem?_cons_zero]; rfl
                  case hQ31d => exact fun _ _ _ h => h
                  case hw31d => kernel_rfl
                  try simp only [Act.put, List.setIfInBounds_toArray, List.set_cons_zero, List.set_cons_succ]
                  refine wpAnyH_take (i := 32) (oi := ?o32d) (v := ?v32d) ?hi32d (by kernel_rfl) (by kernel_rfl) (by kernel_rfl) ?hQ32d (Or.inl ⟨?hw32d, ?hr32d⟩) hH0 ?rest32d
                  case hi32d => simp only [List.getElem?_toArray, List.getElem?_cons_succ, List.getElem?_cons_zero]; rfl
                  case hQ32d => exact fun _ _ _ h => h
                  case hw32d => kernel_rfl
                  case hr32d => intro w hSw; (try dsimp only at hSw); go_simp; try with_reducible rfl
                  try simp only [Act.put, List.setIfInBounds_toArray, List.set_cons_zero, List.set_cons_succ]
                  refine wpAnyH_take (i := 33) (oi := ?o33d) (v := ?v33d) ?hi33d (by kernel_rfl) (by kernel_rfl) (by kernel_rfl) ?hQ33d (Or.inl ⟨?hw33d, ?hr33d⟩) hH0 ?rest33d
                  case hi33d => simp only [List.getElem?_toArray, List.getElem?_cons_succ, List.getElem?_cons_zero]; rfl
                  case hQ33d => exact fun _ _ _ h => h
                  case hw33d => kernel_rfl
                  case hr33d => intro w hSw; (try dsimp only at hSw); go_simp; try with_reducible rfl
                  try simp only [Act.put, List.setIfInBounds_toArray, List.set_cons_zero, List.set_cons_succ]
                  refine wpAnyH_take (i := 34) (oi := ?o34d) (v := ?v34d) ?hi34d (by kernel_rfl) (by kernel_rfl) (by kernel_rfl) ?hQ34d (Or.inl ⟨?hw34d, ?hr34d⟩) hH0 ?rest34d
                  case hi34d => simp only [List.getElem?_toArray, List.getElem?_cons_succ, List.getElem?_cons_zero]; rfl
                  case hQ34d => exact fun _ _ _ h => h
                  case hw34d => kernel_rfl
                  case hr34d => intro w hSw; (try dsimp only at hSw); go_simp; try with_reducible rfl
                  try simp only [Act.put, List.setIfInBounds_toArray, List.set_cons_zero, List.set_cons_succ]
                  refine wpAnyH_take (i := 35) (oi := ?o35d) (v := ?v35d) ?hi35d (by kernel_rfl) (by kernel_rfl) (by kernel_rfl) ?hQ35d (Or.inl ⟨?hw35d, ?hr35d⟩) hH0 ?rest35d
                  case hi35d => simp only [List.getElem?_toArray, List.getElem?_cons_succ, List.getElem?_cons_zero]; rfl
                  case hQ35d => exact fun _ _ _ h => h
                  case hw35d => kernel_rfl
                  case hr35d => intro w hSw; (try dsimp only at hSw); go_simp; try with_reducible rfl
                  try simp only [Act.put, List.setIfInBounds_toArray, List.set_cons_zero, List.set_cons_succ]
                  as_aux_lemma =>
                    refine wpAnyH_take (i := 38) (oi := ?o38d) (v := ?v38d) ?hi38d (by kernel_rfl) (by kernel_rfl) (by kernel_rfl) ?hQ38d (Or.inl ⟨?hw38d, ?hr38d⟩) hH0 ?rest38d
                    case hi38d => simp only [List.getElem?_toArray, List.getElem?_cons_succ, List.getElem?_cons_zero]; rfl
                    case hQ38d => exact fun _ _ _ h => h
                    case hw38d => kernel_rfl
                    case hr38d => intro w hSw; (try dsimp only at hSw); go_simp; try with_reducible rfl
                    try simp only [Act.put, List.setIfInBounds_toArray, List.set_cons_zero, List.set_cons_succ]
                    refine wpAnyH_ready (rs := [36]) (by kernel_rfl) (by simp) ?_
                    refine AllReadyH.cons rfl (fun K hK => ?_) AllReadyH.nil
                    go_simp
                    refine (list_calls w.heap.size (a ++ y :: r) _ hSd.ring).mono ?_
                    rintro e wa ⟨va, rfl, hva, hbA⟩
                    have hSa := hSd.next hbA
                    try dsimp only
                    refine hK.out _ _ (keep16 hH0 hbA) (fun hH1 => ?_)
                    clear hK K hH0
                    try simp only [Act.put, List.setIfInBounds_toArray, List.set_cons_zero, List.set_cons_succ]
                    refine wpAnyH_ready (rs := [37]) (by kernel_rfl) (by simp) ?_
                    refine AllReadyH.cons rfl (fun K hK => ?_) AllReadyH.nil
                    go_simp
                    refine (back_calls _ va (((a ++ y :: r)).map Prod.snd) _ (rowOf hva) hfew).mono ?_
                    rintro e wb ⟨vb, rfl, hvb, hbB⟩
                    have hSb := hSa.next hbB
                    try dsimp only
                    refine hK.out _ _ (keep16 hH1 hbB) (fun hH2 => ?_)
                    clear hK K hH1
                    try simp only [Act.put, List.setIfInBounds_toArray, List.set_cons_zero, List.set_cons_succ]
                    refine wpAnyH_ready (rs := [39]) (by kernel_rfl) (by simp) ?_
                    refine AllReadyH.cons rfl (fun K hK => ?_) AllReadyH.nil
                    go_simp
                    refine (same_refl _ _ vb _ (((a ++ y :: r)).map Prod.snd) _ hvb hSb.row).mono ?_
                    rintro e wc2 ⟨rfl, hbC⟩
                    have hSc := hSb.next hbC
                    try dsimp only
                    refine hK.out _ _ (keep16 hH2 hbC) (fun hH3 => ?_)
                    clear hK K hH2
                    try simp only [Act.put, List.setIfInBounds_toArray, List.set_cons_zero, List.set_cons_succ]
                    refine wpAnyH_take (i := 40) (oi := ?o40d) (v := ?v40d) ?hi40d (by kernel_rfl) (by kernel_rfl) (by kernel_rfl) ?hQ40d (Or.inl ⟨?hw40d, ?hr40d⟩) hH3 ?rest40d
                    case hi40d => simp only [List.getElem?_toArray, List.getElem?_cons_succ, List.getElem?_cons_zero]; rfl
                    case hQ40d => exact fun _ _ _ h => h
                    case hw40d => kernel_rfl
                    case hr40d => intro w hSw; (try dsimp only at hSw); go_simp; try with_reducible rfl
                    try simp only [Act.put, List.setIfInBounds_toArray, List.set_cons_zero, List.set_cons_succ]
                    refine wpAnyH_take (i := 41) (oi := ?o41d) (v := ?v41d) ?hi41d (by kernel_rfl) (by kernel_rfl) (by kernel_rfl) ?hQ41d (Or.inl ⟨?hw41d, ?hr41d⟩) hH3 ?rest41d
                    case hi41d => simp only [List.getElem?_toArray, List.getElem?_cons_succ, List.getElem?_cons_zero]; rfl
                    case hQ41d => exact fun _ _ _ h => h
                    case hw41d => kernel_rfl
                    case hr41d => intro w hSw; (try dsimp only at hSw); go_simp; try with_reducible rfl
                    try simp only [Act.put, List.setIfInBounds_toArray, List.set_cons_zero, List.set_cons_succ]
                    refine wpAnyH_take (i := 42) (oi := ?o42d) (v := ?v42d) ?hi42d (by kernel_rfl) (by kernel_rfl) (by kernel_rfl) ?hQ42d (Or.inl ⟨?hw42d, ?hr42d⟩) hH3 ?rest42d
                    case hi42d => simp only [List.getElem?_toArray, List.getElem?_cons_succ, List.getElem?_cons_zero]; rfl
                    case hQ42d => exact fun _ _ _ h => h
                    case hw42d => kernel_rfl
                    case hr42d => intro w hSw; (try dsimp only at hSw); go_simp; try with_reducible rfl
                    try simp only [Act.put, List.setIfInBounds_toArray, List.set_cons_zero, List.set_cons_succ]
                    refine wpAnyH_take (i := 43) (oi := ?o43d) (v := ?v43d) ?hi43d (by kernel_rfl) (by kernel_rfl) (by kernel_rfl) ?hQ43d (Or.inl ⟨?hw43d, ?hr43d⟩) hH3 ?rest43d
                    case hi43d => simp only [List.getElem?_toArray, List.getElem?_cons_succ, List.getElem?_cons_zero]; rfl
                    case hQ43d => exact fun _ _ _ h => h
                    case hw43d => kernel_rfl
                    case hr43d => intro w hSw; (try dsimp only at hSw); go_simp; try with_reducible rfl
                    try simp only [Act.put, List.setIfInBounds_toArray, List.set_cons_zero, List.set_cons_succ]
                    refine wpAnyH_take (i := 44) (oi := ?o44d) (v := ?v44d) ?hi44d (by kernel_rfl) (by kernel_rfl) (by kernel_rfl) ?hQ44d (Or.inl ⟨?hw44d, ?hr44d⟩) hH3 ?rest44d
                    case hi44d => simp only [List.getElem?_toArray, List.getElem?_cons_succ, List.getElem?_cons_zero]; rfl
                    case hQ44d => exact fun _ _ _ h => h
                    case hw44d => kernel_rfl
                    case hr44d => intro w hSw; (try dsimp only at hSw); go_simp; try with_reducible rfl
                    try simp only [Act.put, List.setIfInBounds_toArray, List.set_cons_zero, List.set_cons_succ]
                    refine wpAnyH_take (i := 47) (oi := ?o47d) (v := ?v47d) ?hi47d (by kernel_rfl) (by kernel_rfl) (by kernel_rfl) ?hQ47d (Or.inl ⟨?hw47d, ?hr47d⟩) hH3 ?rest47d
                    case hi47d => simp only [List.getElem?_toArray, List.getElem?_cons_succ, List.getElem?_cons_zero]; rfl
                    case hQ47d => exact fun _ _ _ h => h
                    case hw47d => kernel_rfl
                    case hr47d => intro w hSw; (try dsimp only at hSw); go_simp; try with_reducible rfl
                    try simp only [Act.put, List.setIfInBounds_toArray, List.set_cons_zero, List.set_cons_succ]
                    refine wpAnyH_take (i := 48) (oi := ?o48d) (v := ?v48d) ?hi48d (by kernel_rfl) (by kernel_rfl) (by kernel_rfl) ?hQ48d (Or.inl ⟨?hw48d, ?hr48d⟩) hH3 ?rest48d
                    case hi48d => simp only [List.getElem?_toArray, List.getElem?_cons_succ, List.getElem?_cons_zero]; rfl
                    case hQ48d => exact fun _ _ _ h => h
                    case hw48d => kernel_rfl
                    case hr48d => intro w hSw; (try dsimp only at hSw); go_simp; try with_reducible rfl
                    try simp only [Act.put, List.setIfInBounds_toArray, List.set_cons_zero, List.set_cons_succ]
                    as_aux_lemma =>
                      refine wpAnyH_ready (rs := [45]) (by kernel_rfl) (by simp) ?_
                      refine AllReadyH.cons rfl (fun K hK => ?_) AllReadyH.nil
                      go_simp
                      refine (of_calls w.heap.size (a ++ y :: r) obj _ hSc.ring).mono ?_
                      rintro e wd ⟨vd, rfl, hvd, hbD⟩
                      have hSdd := hSc.next hbD
                      try dsimp only
                      refine hK.out _ _ (keep16 hH3 hbD) (fun hH4 => ?_)
                      clear hK K hH3
                      try simp only [Act.put, List.setIfInBounds_toArray, List.set_cons_zero, List.set_cons_succ]
                      refine wpAnyH_ready (rs := [46]) (by kernel_rfl) (by simp) ?_
                      refine AllReadyH.cons rfl (fun K hK => ?_) AllReadyH.nil
                      go_simp
                      refine (back_calls _ vd (ofW (((a ++ y :: r)).map Prod.snd) obj) _ hvd (ofW_few hfew)).mono ?_
                      rintro e we ⟨ve, rfl, hve, hbE⟩
                      have hSe := hSdd.next hbE
                      try dsimp only
                      refine hK.out _ _ (keep16 hH4 hbE) (fun hH5 => ?_)
                      clear hK K hH4
                      try simp only [Act.put, List.setIfInBounds_toArray, List.set_cons_zero, List.set_cons_succ]
                      refine wpAnyH_ready (rs := [49]) (by kernel_rfl) (by simp) ?_
                      refine AllReadyH.cons rfl (fun K hK => ?_) AllReadyH.nil
                      go_simp
                      refine (ofL_calls _ _ (((a ++ y :: r)).map Prod.snd) obj _ hSe.row hfew).mono ?_
                      rintro e wf ⟨vf, rfl, hvf, hbF⟩
                      have hSf := hSe.next hbF
                      try dsimp only
                      refine hK.out _ _ (keep16 hH5 hbF) (fun hH6 => ?_)
                      clear hK K hH5
                      try simp only [Act.put, List.setIfInBounds_toArray, List.set_cons_zero, List.set_cons_succ]
                      refine wpAnyH_ready (rs := [50]) (by kernel_rfl) (by simp) ?_
                      refine AllReadyH.cons rfl (fun K hK => ?_) AllReadyH.nil
                      go_simp
                      refine (same_refl _ _ ve vf (ofW (((a ++ y :: r)).map Prod.snd) obj) _ (hve.below hbF) hvf).mono ?_
                      rintro e wg ⟨rfl, hbG⟩
                      have hSg := hSf.next hbG
                      try dsimp only
                      refine hK.out _ _ (keep16 hH6 hbG) (fun hH7 => ?_)
                      clear hK K hH6
                      try simp only [Act.put, List.setIfInBounds_toArray, List.set_cons_zero, List.set_cons_succ]
                      as_aux_lemma =>
                        refine wpAnyH_take (i := 51) (oi := ?o51d) (v := ?v51d) ?hi51d (by kernel_rfl) (by kernel_rfl) (by kernel_rfl) ?hQ51d (Or.inl ⟨?hw51d, ?hr51d⟩) hH7 ?rest51d
                        case hi51d => simp only [List.getElem?_toArray, List.getElem?_cons_succ, List.getElem?_cons_zero]; rfl
                        case hQ51d => exact fun _ _ _ h => h
                        case hw51d => kernel_rfl
                        case hr51d => intro w hSw; (try dsimp only at hSw); go_simp; try with_reducible rfl
                        try simp only [Act.put, List.setIfInBounds_toArray, List.set_cons_zero, List.set_cons_succ]
                        refine wpAnyH_take (i := 52) (oi := ?o52d) (v := ?v52d) ?hi52d (by kernel_rfl) (by kernel_rfl) (by kernel_rfl) ?hQ52d (Or.inl ⟨?hw52d, ?hr52d⟩) hH7 ?rest52d
                        case hi52d => simp only [List.getElem?_toArray, List.getElem?_cons_succ, List.getElem?_cons_zero]; rfl
                        case hQ52d => exact fun _ _ _ h => h
                        case hw52d => kernel_rfl
                        case hr52d => intro w hSw; (try dsimp only at hSw); go_simp; try with_reducible rfl
                        try simp only [Act.put, List.setIfInBounds_toArray, List.set_cons_zero, List.set_cons_succ]
                        refine wpAnyH_take (i := 53) (oi := ?o53d) (v := ?v53d) ?hi53d (by kernel_rfl) (by kernel_rfl) (by kernel_rfl) ?hQ53d (Or.inl ⟨?hw53d, ?hr53d⟩) hH7 ?rest53d
                        case hi53d => simp only [List.getElem?_toArray, List.getElem?_cons_succ, List.getElem?_cons_zero]; rfl
                        case hQ53d => exact fun _ _ _ h => h
                        case hw53d => kernel_rfl
                        case hr53d => intro w hSw; (try dsimp only at hSw); go_simp; try with_reducible rfl
                        try simp only [Act.put, List.setIfInBounds_toArray, List.set_cons_zero, List.set_cons_succ]
                        refine wpAnyH_take (i := 54) (oi := ?o54d) (v := ?v54d) ?hi54d (by kernel_rfl) (by kernel_rfl) (by kernel_rfl) ?hQ54d (Or.inl ⟨?hw54d, ?hr54d⟩) hH7 ?rest54d
                        case hi54d => simp only [List.getElem?_toArray, List.getElem?_cons_succ, List.getElem?_cons_zero]; rfl
                        case hQ54d => exact fun _ _ _ h => h
                        case hw54d => kernel_rfl
                        case hr54d => intro w hSw; (try dsimp only at hSw); go_simp; try with_reducible rfl
                        try simp only [Act.put, List.setIfInBounds_toArray, List.set_cons_zero, List.set_cons_succ]
                        refine wpAnyH_take (i := 56) (oi := ?o56d) (v := ?v56d) ?hi56d (by kernel_rfl) (by kernel_rfl) (by kernel_rfl) ?hQ56d (Or.inl ⟨?hw56d, ?hr56d⟩) hH7 ?rest56d
                        case hi56d => simp only [List.getElem?_toArray, List.getElem?_cons_succ, List.getElem?_cons_zero]; rfl
                        case hQ56d => exact fun _ _ _ h => h
                        case hw56d => kernel_rfl
                        case hr56d => intro w hSw; (try dsimp only at hSw); go_simp; try with_reducible rfl
                        try simp only [Act.put, List.setIfInBounds_toArray, List.set_cons_zero, List.set_cons_succ]
                        refine wpAnyH_take (i := 57) (oi := ?o57d) (v := ?v57d) ?hi57d (by kernel_rfl) (by kernel_rfl) (by kernel_rfl) ?hQ57d (Or.inl ⟨?hw57d, ?hr57d⟩) hH7 ?rest57d
                        case hi57d => simp only [List.getElem?_toArray, List.getElem?_cons_succ, List.getElem?_cons_zero]; rfl
                        case hQ57d => exact fun _ _ _ h => h
                        case hw57d => kernel_rfl
                        case hr57d => intro w hSw; (try dsimp only at hSw); go_simp; try with_reducible rfl
                        try simp only [Act.put, List.setIfInBounds_toArray, List.set_cons_zero, List.set_cons_succ]
                        refine wpAnyH_ready (rs := [55]) (by kernel_rfl) (by simp) ?_
                        refine AllReadyH.cons rfl (fun K hK => ?_) AllReadyH.nil
                        go_simp
                        refine (len_callsN w.heap.size (a ++ y :: r) N hN.out _ hSg.ring).mono ?_
                        rintro e wh ⟨rfl, rfl⟩
                        try dsimp only
                        refine hK.out _ _ (hH7) (fun hH8 => ?_)
                        clear hK K hH7
                        try simp only [Act.put, List.setIfInBounds_toArray, List.set_cons_zero, List.set_cons_succ]
                        refine wpAnyH_take (i := 58) (oi := ?o58d) (v := ?v58d) ?hi58d (by kernel_rfl) (by kernel_rfl) (by kernel_rfl) ?hQ58d (Or.inl ⟨?hw58d, ?hr58d⟩) hH8 ?rest58d
                        case hi58d => simp only [List.getElem?_toArray, List.getElem?_cons_succ, List.getElem?_cons_zero]; rfl
                        case hQ58d => exact fun _ _ _ h => h
                        case hw58d => kernel_rfl
                        case hr58d => intro w hSw; (try dsimp only at hSw); go_simp; try with_reducible rfl
                        try simp only [Act.put, List.setIfInBounds_toArray, List.set_cons_zero, List.set_cons_succ]
                        refine wpAnyH_take (i := 59) (oi := ?o59d) (v := ?v59d) ?hi59d (by kernel_rfl) (by kernel_rfl) (by kernel_rfl) ?hQ59d (Or.inl ⟨?hw59d, ?hr59d⟩) hH8 ?rest59d
                        case hi59d => simp only [List.getElem?_toArray, List.getElem?_cons_succ, List.getElem?_cons_zero]; rfl
                        case hQ59d => exact fun _ _ _ h => h
                        case hw59d => kernel_rfl
                        case hr59d => intro w hSw; (try dsimp only at hSw); go_simp; try with_reducible rfl
                        try simp only [Act.put, List.setIfInBounds_toArray, List.set_cons_zero, List.set_cons_succ]
                        refine wpAnyH_done (by kernel_rfl) ?_ _
                        go_wp2_with fail
                        exact ⟨⟨k + 1, (a ++ y :: r), by omega, rfl, hSg⟩, by simp [intOf]; omega⟩
    · go_wp2_with (go_at_call 7; refine (alive_calls _).mono ?_; rintro e w1 ⟨rfl, hb1⟩)
      go_ret
      exact ⟨rfl, hS.below.trans (hb1.mono hS.below.size)⟩
end Go.Proofs.Ytkfaaeklkplhnaa
