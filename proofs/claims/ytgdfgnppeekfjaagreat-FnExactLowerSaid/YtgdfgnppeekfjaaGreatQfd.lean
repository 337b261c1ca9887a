import Derived.Test.YtgdfgnppeekfjaaGreatQfc
section
/- Rows of rows of numbers: one's own, marked, held, compared. Who stands on every way to whom, exactly. No conditions. -/
namespace Go.Proofs.YtgdfgnppeekfjaaGreat.Vm
open Go.RowKit (wrap64)
set_option linter.unusedSimpArgs false
set_option linter.unusedVariables false
def DomsOwn (H : Hp) (bs : List BlkR) (r : IV × Hp) : Prop := ∃ d X', r = (.c (.sl d 0 0 bs.length), X') ∧ Pre H X' ∧ DInv (fun id => id < H.length) d bs.length (domF bs) X'
theorem DInv.own {K : Nat → Prop} {H Y : Hp} {d : Nat} {bs : List BlkR} (h : DInv K d bs.length (domF bs) Y) (hp : Pre H Y) (hd : H.length ≤ d) (hk : ∀ id, id < H.length → K id) : DomsOwn H bs (gcRet H (.c (.sl d 0 0 bs.length)) Y) := by
  have hw := h.weak hk
  obtain ⟨_, cells, h2, h3, h4⟩ := h
  by_cases hf : cells.all flatC = true
  · rw [gcRet_row hp hd h2 rfl hf]
    refine ⟨H.length, _, rfl, ⟨_, rfl⟩, fun id hi => ⟨by omega, by simp; omega⟩, cells, by simp, h3, fun b hb => ?_⟩
    obtain ⟨c, a1, a2, _, _⟩ := h4 b hb
    rcases a2 with ⟨rfl, e⟩ | ⟨o, g, rfl, _⟩
    · refine ⟨.ns, a1, .inl ⟨rfl, e⟩, (fun id ⟨_, _, h⟩ => by cases h), fun b' c' _ _ _ id ⟨_, _, h⟩ => by cases h⟩
    · have := List.all_eq_true.1 hf _ (List.mem_of_getElem? a1)
      cases this
  · have e : gcRet H (.c (.sl d 0 0 bs.length)) Y = (.c (.sl d 0 0 bs.length), Y) := by
      unfold gcRet
      rw [if_pos hp.take, if_neg (by simp [flatV, flatC])]
      simp only [hd, if_true, (rdOb_some.1 h2).1]
      rw [if_neg (by simp [hf])]
    rw [e]
    exact ⟨d, Y, rfl, hp, hw⟩
def RowsI (X : Hp) (v : CV) (n : Nat) (f : Nat → List Int) : Prop := lenOf v = some n ∧ ∀ b, b < n → ∃ id g off c, idxOf 1 v (b : Int) = some (.p id g off) ∧ rdC X id g off = some c ∧ IsI X c (f b)
theorem Pre.rdC {X Y : Hp} (hp : Pre X Y) {id g off : Nat} {c : CV} (h : Vm.rdC X id g off = some c) : Vm.rdC Y id g off = some c := by
  unfold Vm.rdC at h ⊢
  cases ho : Vm.rdOb X id g with
  | none => simp [ho] at h
  | some o => rw [hp.rdOb ho]; rw [ho] at h; exact h
theorem RowsI.pre {X Y : Hp} {v : CV} {n : Nat} {f : Nat → List Int} (h : RowsI X v n f) (hp : Pre X Y) : RowsI Y v n f := by
  refine ⟨h.1, fun b hb => ?_⟩
  obtain ⟨id, g, off, c, h1, h2, h3⟩ := h.2 b hb
  exact ⟨id, g, off, c, h1, Pre.rdC hp h2, h3.pre hp⟩
theorem RowsI.mk {X : Hp} {d n : Nat} {cells : List CV} {f : Nat → List Int} (h : rdOb X d 0 = some ⟨cells, 0, true, 1⟩) (hl : cells.length = n) (hr : ∀ b, b < n → ∃ c, cells[b]? = some c ∧ IsI X c (f b)) : RowsI X (.sl d 0 0 n) n f := by
  refine ⟨rfl, fun b hb => ?_⟩
  obtain ⟨c, h1, h2⟩ := hr b hb
  exact ⟨d, 0, b, c, by simp [idxOf, hb], by rw [rdC_ob h]; exact h1, h2⟩
def sumTo (f : Nat → List Int) : Nat → Nat
  | 0 => 0
  | n + 1 => sumTo f n + (f n).length
def mks (f : Nat → List Int) (b : Nat) : List Int := ups (1 + (sumTo f b : Int)) (f b).length
end Go.Proofs.YtgdfgnppeekfjaaGreat.Vm
end
