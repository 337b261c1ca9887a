/- Steps of the ideal machine, told so that they can be reckoned. No conditions. -/
import Derived.Test.YtgdfgnppeekfjaaGreatVmK
import Derived.Test.YtgdfgnppeekfjaaGreatVmM
namespace Go.Proofs.YtgdfgnppeekfjaaGreat.Vm
open Go.RowKit (wrap64)
set_option linter.unusedSimpArgs false
set_option linter.unusedVariables false
@[simp] theorem rdOb_r (H L : Hp) (k g : Nat) : rdOb (H ++ L) (H.length + k) g = rdOb L k g := rdOb_right
@[simp] theorem rdOb_r0 (H L : Hp) (g : Nat) : rdOb (H ++ L) H.length g = rdOb L 0 g := by have := @rdOb_right H L 0 g; simpa using this
@[simp] theorem rdOb_c0 (o : Ob) (L : Hp) (g : Nat) : rdOb (o :: L) 0 g = if o.g = g then some o else none := by unfold rdOb; simp
@[simp] theorem rdOb_cs (o : Ob) (L : Hp) (k g : Nat) : rdOb (o :: L) (k + 1) g = rdOb L k g := by unfold rdOb; simp
@[simp] theorem set_r (H L : Hp) (k : Nat) (o : Ob) : (H ++ L).set (H.length + k) o = H ++ L.set k o := set_right
@[simp] theorem set_r0 (H L : Hp) (o : Ob) : (H ++ L).set H.length o = H ++ L.set 0 o := by rw [List.set_append_right _ _ (Nat.le_refl _), Nat.sub_self]
theorem gc_flat (H L : Hp) {r : IV} (h : flatV r = true) : gcRet H r (H ++ L) = (r, H) := gcRet_flat ⟨L, rfl⟩ h
theorem gc_same (H : Hp) {r : IV} (h : flatV r = true) : gcRet H r H = (r, H) := gcRet_flat (Pre.refl H) h
@[simp] theorem gc_same_b (H : Hp) (x : Bool) : gcRet H (.c (.b x)) H = (.c (.b x), H) := gc_same H rfl
@[simp] theorem gc_flat_b (H L : Hp) (x : Bool) : gcRet H (.c (.b x)) (H ++ L) = (.c (.b x), H) := gc_flat H L rfl
@[simp] theorem gc_same_i (H : Hp) (x : Int) : gcRet H (.c (.i x)) H = (.c (.i x), H) := gc_same H rfl
@[simp] theorem gc_flat_i (H L : Hp) (x : Int) : gcRet H (.c (.i x)) (H ++ L) = (.c (.i x), H) := gc_flat H L rfl
@[simp] theorem gc_same_y (H : Hp) (x : Int) : gcRet H (.c (.y x)) H = (.c (.y x), H) := gc_same H rfl
@[simp] theorem gc_flat_y (H L : Hp) (x : Int) : gcRet H (.c (.y x)) (H ++ L) = (.c (.y x), H) := gc_flat H L rfl
@[simp] theorem gc_same_s (H : Hp) (x : ByteArray) : gcRet H (.c (.s x)) H = (.c (.s x), H) := gc_same H rfl
@[simp] theorem gc_flat_s (H L : Hp) (x : ByteArray) : gcRet H (.c (.s x)) (H ++ L) = (.c (.s x), H) := gc_flat H L rfl
@[simp] theorem gc_same_ns (H : Hp)  : gcRet H (.c .ns) H = (.c .ns, H) := gc_same H rfl
@[simp] theorem gc_flat_ns (H L : Hp)  : gcRet H (.c .ns) (H ++ L) = (.c .ns, H) := gc_flat H L rfl
theorem gc_row (H L : Hp) {k g len : Nat} {o : Ob} (ho : rdOb L k g = some o) (hrw : o.rw = true) (hf : o.cells.all flatC = true) :
    gcRet H (.c (.sl (H.length + k) g 0 len)) (H ++ L) = (.c (.sl H.length 0 0 len), H ++ [{ o with g := 0 }]) :=
  gcRet_row ⟨L, rfl⟩ (by omega) (by rw [rdOb_right]; exact ho) hrw hf
/-! ### Rows of numbers -/
def IsI (H : Hp) (v : CV) (xs : List Int) : Prop := Sl H 1 v xs.length (xs.map .i)
theorem IsI.cases {H : Hp} {v : CV} {xs : List Int} (h : IsI H v xs) : (v = .ns ∧ xs = []) ∨ ∃ id g off o, v = .sl id g off xs.length ∧ rdOb H id g = some o ∧ o.sz = 1 ∧ off + xs.length ≤ o.cells.length ∧
    ∀ (k : Nat) (hk : k < xs.length), o.cells[off + k]? = some (.i xs[k]) := by
  rcases h with ⟨h1, h2, h3⟩ | ⟨id, g, off, o, h1, h2, h3, h4, h5⟩
  · exact .inl ⟨h1, List.eq_nil_of_length_eq_zero h2⟩
  · refine .inr ⟨id, g, off, o, h1, h2, h3, by omega, fun k hk => ?_⟩
    have h6 : ((o.cells.drop off).take (xs.length * 1))[k]? = (xs.map CV.i)[k]? := by rw [h5]
    rw [List.getElem?_take, if_pos (by omega), List.getElem?_drop, List.getElem?_map, List.getElem?_eq_getElem hk] at h6
    exact h6
theorem IsI.pre {H X : Hp} (hp : Pre H X) {v : CV} {xs : List Int} (h : IsI H v xs) : IsI X v xs := Sl.pre hp h
theorem IsI.app {H : Hp} (Y : Hp) {v : CV} {xs : List Int} (h : IsI H v xs) : IsI (H ++ Y) v xs := h.pre ⟨Y, rfl⟩
theorem IsI.ns (H : Hp) : IsI H .ns [] := .inl ⟨rfl, rfl, rfl⟩
theorem IsI.mk {H : Hp} {id g off : Nat} {o : Ob} {xs : List Int} (h : rdOb H id g = some o) (hs : o.sz = 1) (hl : off + xs.length ≤ o.cells.length) (hc : (o.cells.drop off).take xs.length = xs.map .i) : IsI H (.sl id g off xs.length) xs :=
  .inr ⟨id, g, off, o, rfl, h, hs, by omega, by rw [Nat.mul_one]; exact hc⟩
end Go.Proofs.YtgdfgnppeekfjaaGreat.Vm
