/- Laws of the ideal machine that its proofs lean on: objects behind a heap that has grown, slices that hold rows. No conditions. -/
import Derived.Test.YtgdfgnppeekfjaaGreatVmA
namespace Go.Proofs.YtgdfgnppeekfjaaGreat.Vm
open Go.RowKit (wrap64)
/-! ### 1. Objects -/
theorem rdOb_left {X Y : Hp} {id g : Nat} (h : id < X.length) : rdOb (X ++ Y) id g = rdOb X id g := by
  unfold rdOb; rw [List.getElem?_append_left h]
theorem rdOb_right {X Y : Hp} {j g : Nat} : rdOb (X ++ Y) (X.length + j) g = rdOb Y j g := by
  unfold rdOb; rw [List.getElem?_append_right (by omega), Nat.add_sub_cancel_left]
theorem rdOb_lt {X : Hp} {id g : Nat} {o : Ob} (h : rdOb X id g = some o) : id < X.length := by
  unfold rdOb at h
  split at h
  · rename_i o' ho; exact (List.getElem?_eq_some_iff.1 ho).1
  · cases h
theorem rdOb_some {X : Hp} {id g : Nat} {o : Ob} : rdOb X id g = some o ↔ X[id]? = some o ∧ o.g = g := by
  unfold rdOb
  constructor
  · intro h
    split at h
    · rename_i o' ho
      split at h
      · injection h with h; subst h; exact ⟨ho, by assumption⟩
      · cases h
    · cases h
  · rintro ⟨h, rfl⟩
    rw [h]; simp
theorem rdOb_app {X : Hp} (Y : Hp) {id g : Nat} {o : Ob} (h : rdOb X id g = some o) : rdOb (X ++ Y) id g = some o := by rw [rdOb_left (rdOb_lt h)]; exact h
theorem set_right {X Y : Hp} {j : Nat} {o : Ob} : (X ++ Y).set (X.length + j) o = X ++ Y.set j o := by
  rw [List.set_append_right _ _ (by omega), Nat.add_sub_cancel_left]
theorem set_self {X Y : Hp} {o o' : Ob} : (X ++ o :: Y).set X.length o' = X ++ o' :: Y := by
  rw [List.set_append_right _ _ (by omega)]; simp
theorem rdOb_set_ne {X : Hp} {i id g : Nat} {o : Ob} (h : id ≠ i) : rdOb (X.set i o) id g = rdOb X id g := by
  unfold rdOb; rw [List.getElem?_set_ne (Ne.symm h)]
theorem rdOb_set_self {X : Hp} {i g : Nat} {o : Ob} (h : i < X.length) : rdOb (X.set i o) i g = if o.g = g then some o else none := by
  unfold rdOb; rw [List.getElem?_set_self h]
def Pre (H X : Hp) : Prop := ∃ G, X = H ++ G
theorem Pre.refl (H : Hp) : Pre H H := ⟨[], by simp⟩
theorem Pre.trans {H X Y : Hp} (h : Pre H X) (k : Pre X Y) : Pre H Y := by
  obtain ⟨G, rfl⟩ := h; obtain ⟨G', rfl⟩ := k; exact ⟨G ++ G', by simp⟩
theorem Pre.app {H X : Hp} (h : Pre H X) (Y : Hp) : Pre H (X ++ Y) := h.trans ⟨Y, rfl⟩
theorem Pre.set {H X : Hp} (h : Pre H X) {i : Nat} (hi : H.length ≤ i) (o : Ob) : Pre H (X.set i o) := by
  obtain ⟨G, rfl⟩ := h
  exact ⟨G.set (i - H.length) o, by rw [List.set_append_right _ _ hi]⟩
theorem Pre.le {H X : Hp} (h : Pre H X) : H.length ≤ X.length := by obtain ⟨G, rfl⟩ := h; simp
theorem Pre.take {H X : Hp} (h : Pre H X) : X.take H.length = H := by obtain ⟨G, rfl⟩ := h; simp
theorem Pre.rdOb {H X : Hp} (h : Pre H X) {id g : Nat} {o : Ob} (ho : rdOb H id g = some o) : Vm.rdOb X id g = some o := by obtain ⟨G, rfl⟩ := h; exact rdOb_app G ho
theorem gcRet_flat {H H' : Hp} {r : IV} (hp : Pre H H') (hf : flatV r = true) : gcRet H r H' = (r, H) := by
  unfold gcRet; rw [if_pos hp.take, if_pos hf]
theorem gcRet_row {H H' : Hp} {id g len : Nat} {o : Ob} (hp : Pre H H') (hid : H.length ≤ id) (ho : rdOb H' id g = some o) (hrw : o.rw = true) (hf : o.cells.all flatC = true) :
    gcRet H (.c (.sl id g 0 len)) H' = (.c (.sl H.length 0 0 len), H ++ [{ o with g := 0 }]) := by
  obtain ⟨h1, h2⟩ := rdOb_some.1 ho
  unfold gcRet; rw [if_pos hp.take, if_neg (by simp [flatV, flatC])]
  simp only [hid, if_true, h1, h2, hrw, hf, and_self]
/-! ### 2. Slices -/
def Sl (H : Hp) (sz : Nat) (v : CV) (n : Nat) (cs : List CV) : Prop :=
  (v = .ns ∧ n = 0 ∧ cs = []) ∨ ∃ id g off o, v = .sl id g off n ∧ rdOb H id g = some o ∧ o.sz = sz ∧ off + n * sz ≤ o.cells.length ∧ (o.cells.drop off).take (n * sz) = cs
theorem Sl.len {H : Hp} {sz n : Nat} {v : CV} {cs : List CV} (h : Sl H sz v n cs) : cs.length = n * sz := by
  rcases h with ⟨_, rfl, rfl⟩ | ⟨id, g, off, o, _, _, _, h1, rfl⟩
  · simp
  · simp; omega
theorem Sl.pre {H X : Hp} (hp : Pre H X) {sz n : Nat} {v : CV} {cs : List CV} (h : Sl H sz v n cs) : Sl X sz v n cs := by
  rcases h with h | ⟨id, g, off, o, h1, h2, h3⟩
  · exact .inl h
  · exact .inr ⟨id, g, off, o, h1, hp.rdOb h2, h3⟩
theorem Sl.app {H : Hp} (Y : Hp) {sz n : Nat} {v : CV} {cs : List CV} (h : Sl H sz v n cs) : Sl (H ++ Y) sz v n cs := h.pre ⟨Y, rfl⟩
theorem Sl.at_ {H : Hp} {sz n : Nat} {v : CV} {cs : List CV} (h : Sl H sz v n cs) (h0 : 0 < n) : ∃ id g off o, v = .sl id g off n ∧ rdOb H id g = some o ∧
    ∀ k j, k < n → j < sz → off + k * sz + sz ≤ o.cells.length ∧ o.cells[off + k * sz + j]? = cs[k * sz + j]? := by
  rcases h with ⟨_, rfl, _⟩ | ⟨id, g, off, o, h1, h2, h3, h4, rfl⟩
  · omega
  · refine ⟨id, g, off, o, h1, h2, fun k j hk hj => ?_⟩
    have hm : k * sz + sz ≤ n * sz := by rw [← Nat.succ_mul]; exact Nat.mul_le_mul_right _ hk
    refine ⟨by omega, ?_⟩
    rw [List.getElem?_take, if_pos (by omega), List.getElem?_drop, Nat.add_assoc]
/-! ### 3. Steps -/
section
variable {K : Orc} {e : Env} {H : Hp}
end
end Go.Proofs.YtgdfgnppeekfjaaGreat.Vm
