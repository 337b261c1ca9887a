/- Arguments that are rows of bytes, rows of numbers. No conditions. -/
import Derived.Test.YtnpbldjbfkpbcaaKda
import Derived.Test.YtnpbldjbfkpbcaaKn
namespace Go.Proofs.Ytnpbldjbfkpbcaa.Vm
open Go.RowKit (wrap64)
set_option linter.unusedSimpArgs false
set_option linter.unusedVariables false

theorem Row.flat {α : Type} {f : α → CV} {H : Hp} {v : CV} {xs : List α} (h : Row (fun _ cs x => cs = [f x]) 1 H v xs) : Sl H 1 v xs.length (xs.map f) := by
  obtain ⟨css, h1, h2, h3⟩ := h
  have e : css = xs.map fun x => [f x] := by
    apply List.ext_getElem?
    intro k
    by_cases hk : k < xs.length
    · have a := List.getElem?_eq_getElem (show k < css.length by omega)
      have b := List.getElem?_eq_getElem hk
      rw [a, List.getElem?_map, b, (h3 k _ _ a b).2]; rfl
    · rw [List.getElem?_eq_none (by omega), List.getElem?_eq_none (by simp; omega)]
  rw [e] at h1
  have e2 : ∀ l : List α, (l.map fun x => [f x]).flatten = l.map f := by
    intro l
    induction l with
    | nil => rfl
    | cons a r ih => simp [ih]
  rw [e2] at h1
  exact h1
section
variable {P : Program} {H : Hp}
theorem arg_bytes {t e : TypeId} {n : Nat} {iv : IV} (hu : P.underlying t = some (.slice e)) (he : P.underlying e = some (.int .u8)) (hls : leafTs P 8 e = some [e]) (hsz : P.cellsOf e = 1) (hp : plainT P n t = true) (ha : aggOf P t = some false)
    (h : ArgTy P H n t iv) : ∃ v xs, iv = .c v ∧ IsB H v xs ∧ xs.length ≤ maxLen := by
  obtain ⟨c, rfl, hl⟩ := h.one hp ha
  obtain ⟨xs, h1, h2⟩ := leaf_row (R := fun _ cs (x : Int) => cs = [.y x]) hu hls hsz (fun cs hl hc => by
    match cs, hl with
    | [a], _ =>
      obtain ⟨m, rfl, _⟩ := Leaf.byte he (hc 0 _ a rfl rfl)
      exact ⟨m, rfl⟩) hl
  exact ⟨c, xs, rfl, h1.flat, h2⟩
theorem arg_ints {t e : TypeId} {n : Nat} {iv : IV} (hu : P.underlying t = some (.slice e)) (he : P.underlying e = some (.int .i64)) (hls : leafTs P 8 e = some [e]) (hsz : P.cellsOf e = 1) (hp : plainT P n t = true) (ha : aggOf P t = some false)
    (h : ArgTy P H n t iv) : ∃ v xs, iv = .c v ∧ IsI H v xs ∧ xs.length ≤ maxLen := by
  obtain ⟨c, rfl, hl⟩ := h.one hp ha
  obtain ⟨xs, h1, h2⟩ := leaf_row (R := fun _ cs (x : Int) => cs = [.i x]) hu hls hsz (fun cs hl hc => by
    match cs, hl with
    | [a], _ =>
      obtain ⟨m, rfl⟩ := leaf_int he (hc 0 _ a rfl rfl)
      exact ⟨m, rfl⟩) hl
  exact ⟨c, xs, rfl, h1.flat, h2⟩
end
/-- What a law says: it is true. -/
def Tru (r : IV × Hp) : Prop := r.1 = .c (.b true)
@[simp] theorem tru_c (X : Hp) : Tru (.c (.b true), X) = True := by simp [Tru]
@[simp] theorem tru_gc (H X : Hp) : Tru (gcRet H (.c (.b true)) X) = True := by simp [Tru]
end Go.Proofs.Ytnpbldjbfkpbcaa.Vm
