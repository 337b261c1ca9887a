import Derived.Test.YtnpbldjbfkpbcaaP2
section
/- Who stands just above, both sides. No conditions. -/
namespace Go.Proofs.Ytnpbldjbfkpbcaa.Vm
open Go.RowKit (wrap64)
set_option linter.unusedSimpArgs false
set_option linter.unusedVariables false

def abvB (bs : List BlkR) (b : Nat) (x : Int) : Bool := decide (x ≠ (b : Int)) && decide ((domF bs x.toNat).length + 1 = (domF bs b).length)
def aboveF (f : FnR) (b : Int) : Int := if rightB f b = true then ((domF f.blocks b.toNat).find? (abvB f.blocks b.toNat)).getD (-1) else -1
theorem domF_mem {bs : List BlkR} {b : Nat} {x : Int} (h : x ∈ domF bs b) : ∃ a : Nat, a < bs.length ∧ x = a ∧ domB bs b a = true := by
  unfold domF domTo at h
  rw [List.mem_map] at h
  obtain ⟨a, ha, rfl⟩ := h
  rw [List.mem_filter, List.mem_range] at ha
  exact ⟨a, ha.1, rfl, ha.2⟩
theorem find_at {p : Int → Bool} {xs : List Int} {i : Nat} (hi : i < xs.length) (h : ∀ j (hj : j < i) (hx : j < xs.length), p xs[j] = false) (hp : p xs[i] = true) : (xs.find? p).getD (-1) = xs[i] := by
  have : xs.find? p = some xs[i] := by
    rw [List.find?_eq_some_iff_getElem]
    exact ⟨hp, i, hi, rfl, fun j hj => by simpa using h j hj (by omega)⟩
  rw [this]; rfl
theorem find_no {p : Int → Bool} {xs : List Int} (h : ∀ j (hx : j < xs.length), p xs[j] = false) : (xs.find? p).getD (-1) = -1 := by
  have : xs.find? p = none := by
    rw [List.find?_eq_none]
    intro x hx
    obtain ⟨j, hj, rfl⟩ := List.getElem_of_mem hx
    rw [h j hj]; simp
  rw [this]; rfl
theorem mem_domF {bs : List BlkR} {b a : Nat} (ha : a < bs.length) (h : domB bs b a = true) : (a : Int) ∈ domF bs b := by
  unfold domF domTo
  rw [List.mem_map]
  exact ⟨a, by rw [List.mem_filter, List.mem_range]; exact ⟨ha, h⟩, rfl⟩
theorem domB_of_mem {bs : List BlkR} {b a : Nat} (h : (a : Int) ∈ domF bs b) : domB bs b a = true := by
  obtain ⟨c, _, e, hc⟩ := domF_mem h
  have : a = c := by omega
  subst this; exact hc
theorem above_any {bs : List BlkR} (hin : InRange bs) {a n : Nat} (ha : a < bs.length) (hn : n < bs.length) (han : a ≠ n) (hd : domB bs n a = true) :
    (!(leftF (fun x => decide (x = (n : Int))) (domF bs n) (domF bs n).length).any fun x => !(inB (a : Int) 0 ((bs.length : Int) - 1) && hasI (domF bs a) x)) = decide ((domF bs a).length + 1 = (domF bs n).length) := by
  have hia : inB (a : Int) 0 ((bs.length : Int) - 1) = true := decide_eq_true (by omega)
  rw [Bool.eq_iff_iff, decide_eq_true_eq, above_iff hin ha hn han hd, Bool.not_eq_true', List.any_eq_false]
  unfold leftF
  rw [List.take_length]
  constructor
  · intro h x hx hdx hxn
    have := h x (by rw [List.mem_filter]; exact ⟨mem_domF hx hdx, by simp; omega⟩)
    simp only [hia, Bool.true_and, Bool.not_eq_true', Bool.not_eq_false] at this
    exact domB_of_mem (hasI_iff.1 this)
  · intro h x hx
    rw [List.mem_filter] at hx
    obtain ⟨y, hy, rfl, hdy⟩ := domF_mem hx.1
    have hyn : y ≠ n := by have := hx.2; simp at this; omega
    have := hasI_iff.2 (mem_domF hy (h y hy hdy hyn))
    simp [hia, this]
end Go.Proofs.Ytnpbldjbfkpbcaa.Vm
end
