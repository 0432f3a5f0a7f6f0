/- The engine: == of structs and arrays of numbers, cell by cell. -/
import Derived.ChangeKeysEq
import Derived.Test.YtkfaaeklkplhnaaEng
namespace Go.Proofs.Ytkfaaeklkplhnaa
open Go.RowKit

def partV (P : Program) (t : TypeId) (cs : Array Value) (off : Nat) : Option Value :=
  match P.underlying t with
  | some (.struct _) => match P.info? t with
    | some i => some (.agg (cs.extract off (off + i.size)))
    | none => none
  | some (.array _ _) => match P.info? t with
    | some i => some (.agg (cs.extract off (off + i.size)))
    | none => none
  | some _ => cs[off]?
  | none => none
theorem partV_sound {P : Program} {t : TypeId} {cs : Array Value} {off : Nat} {v : Value} (h : partV P t cs off = some v) (w : World) : (part t cs off).run P w = .ok v w := by
  unfold partV at h
  split at h
  · rename_i fs hu
    split at h
    · rename_i i hi
      cases h
      simp [part, isAgg, Sem.run_bind, run_underlying hu, sizeOf, typeInfo, hi]
    · cases h
  · rename_i n e hu
    split at h
    · rename_i i hi
      cases h
      simp [part, isAgg, Sem.run_bind, run_underlying hu, sizeOf, typeInfo, hi]
    · cases h
  · rename_i d hns hna hu
    have hagg : (isAgg t).run P w = .ok false w := by
      simp only [isAgg, Sem.run_bind, run_underlying hu, Result.andThen_ok]
      cases d <;> first | rfl | exact absurd hu (hns _) | exact absurd hu (hna _ _)
    simp [part, Sem.run_bind, hagg, h]
  · cases h
def flatEq (P : Program) : Nat → TypeId → Value → Value → Option Bool
  | 0, _, _, _ => none
  | d + 1, t, x, y =>
    match P.underlying t, x, y with
    | some .bool, .bool a, .bool b => some (a == b)
    | some (.int _), .int k a, .int k' b => match decide (k = k') with
      | true => some (a == b)
      | false => none
    | some (.struct fs), .agg xs, .agg ys =>
      match P.stoodInHeld t with
      | true => none
      | false => fs.toList.foldr (fun f acc =>
          match decide (f.name = "_"), partV P f.type xs f.offset, partV P f.type ys f.offset with
          | false, some a, some b => match flatEq P d f.type a b, acc with
            | some r, some q => some (r && q)
            | _, _ => none
          | _, _, _ => none) (some true)
    | some (.array n e), .agg xs, .agg ys =>
      match P.info? e with
      | some i => (List.range n).foldr (fun j acc =>
          match partV P e xs (j * i.size), partV P e ys (j * i.size) with
          | some a, some b => match flatEq P d e a b, acc with
            | some r, some q => some (r && q)
            | _, _ => none
          | _, _ => none) (some true)
      | none => none
    | _, _, _ => none
theorem flatEq_sound {P : Program} : ∀ (d : Nat) {t : TypeId} {x y : Value} {r : Bool}, flatEq P d t x y = some r → ∀ w, (Op.equalIn d t x y).run P w = .ok r w
  | 0, _, _, _, _, h, _ => by cases h
  | d + 1, t, x, y, r, h, w => by
    unfold flatEq at h
    split at h
    · rename_i a b hu
      cases h
      exact run_equalIn_bool' w d t a b hu
    · rename_i k0 k a k' b hu
      split at h
      · rename_i hk
        have := of_decide_eq_true hk
        subst this
        cases h
        exact run_equalIn_int w d t _ _ a b hu
      · cases h
    · rename_i fs xs ys hu
      split at h
      · cases h
      · rename_i hst
        have hf : P.fieldsOf t = fs := by simp [Program.fieldsOf, hu]
        rw [run_equalIn_struct w d t xs ys (by rw [hf]; exact hu) hst, hf]
        clear hf hst hu
        generalize fs.toList = l at h
        induction l generalizing r with
        | nil =>
          simp only [List.foldr_nil, Option.some.injEq] at h
          subst h
          rfl
        | cons f l ih =>
          simp only [List.foldr_cons] at h
          split at h
          · rename_i a b hn ha hb
            split at h
            · rename_i r1 q hr hq
              cases h
              have hname : f.name ≠ "_" := of_decide_eq_false hn
              simp only [Op.eqFields, if_pos hname, Sem.run_bind, partV_sound ha, partV_sound hb, flatEq_sound d hr, Result.andThen_ok]
              cases r1
              · rfl
              · simp only [Bool.not_true, Bool.false_eq_true, if_false, Bool.true_and]
                exact ih q hq
            · cases h
          · cases h
    · rename_i n e xs ys hu
      split at h
      · rename_i i hi
        rw [run_equalIn_array w d xs ys hu hi]
        have hc : P.cellsOf e = i.size := by simp [Program.cellsOf, hi]
        rw [hc]
        generalize List.range n = l at h
        induction l generalizing r with
        | nil =>
          simp only [List.foldr_nil, Option.some.injEq] at h
          subst h
          rfl
        | cons j l ih =>
          simp only [List.foldr_cons] at h
          split at h
          · rename_i a b ha hb
            split at h
            · rename_i r1 q hr hq
              cases h
              simp only [Op.eqItems, Sem.run_bind, partV_sound ha, partV_sound hb, flatEq_sound d hr, Result.andThen_ok]
              cases r1
              · rfl
              · simp only [Bool.not_true, Bool.false_eq_true, if_false, Bool.true_and]
                exact ih q hq
            · cases h
          · cases h
      · cases h
    · cases h
end Go.Proofs.Ytkfaaeklkplhnaa
