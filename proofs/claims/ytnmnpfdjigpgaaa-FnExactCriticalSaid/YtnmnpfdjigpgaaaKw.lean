/- Rows of edges: compared, marked, held. No conditions. -/
import Derived.Test.YtnmnpfdjigpgaaaKu
namespace Go.Proofs.Ytnmnpfdjigpgaaa.Vm
open Go.RowKit (wrap64)
set_option linter.unusedSimpArgs false
set_option linter.unusedVariables false
theorem eqEdge_call (H : Hp) {cs cs' : List CV} {a b : ArmR} (ha : armP H cs a) (hb : armP H cs' b) (k : IV × Hp → Prop) : CM 101 [.agg cs, .agg cs'] H k = k (.c (.b (decide (a = b))), H) := by
  cases ha; cases hb
  refine det (cw101 ?_) k
  unfold vf101c
  obtain ⟨a1, a2⟩ := a
  obtain ⟨b1, b2⟩ := b
  by_cases h1 : a1 = b1 <;> by_cases h2 : a2 = b2 <;> simp [armC, h1, h2]
theorem eqEdgeS_call {H : Hp} {v w : CV} {xs ys : List ArmR} (hv : Row armP 2 H v xs) (hw : Row armP 2 H w ys) (hb : xs.length ≤ BIG) (k : IV × Hp → Prop) : CM 52 [.c v, .c w] H k = k (.c (.b (decide (xs = ys))), H) := by
  refine det (cw52 ?_) k
  unfold vf52c
  simp [hv.lenOf, hw.lenOf]
  refine cnd_of (fun hl => ?_) (fun hl => ?_) <;> simp at hl
  · have he : ¬ xs = ys := fun h => hl (by rw [h])
    simp [he]
  · simp
    refine wp_for CM_mono xs.length (fun i s => xs.take i = ys.take i ∧ s.h = H ∧ Env.get s.e 0 = .c v ∧ Env.get s.e 1 = .c w ∧ Env.get s.e 5 = .c (.i i)) (by simp) ?_ ?_
    · rintro i ⟨e, X⟩ hi ⟨ht, rfl, h0, h1, h5⟩
      simp only at h0 h1 h5 hv hw ⊢
      obtain ⟨id, g, off, cs, p1, p2, p3, p4⟩ := Row.get hv hi
      obtain ⟨id', g', off', cs', q1, q2, q3, q4⟩ := Row.get hw (k := i) (by omega)
      unfold vf52b0
      by_cases he : xs[i] = ys[i]
      · simp [h0, h1, h5, hv.lenOf, p1, p2.all p3, q1, q2.all q3, hi, up1 hi hb, eqEdge_call X p4 q4, he]
        exact take_snoc_eq hi (by omega) ht he
      · simp [h0, h1, h5, hv.lenOf, p1, p2.all p3, q1, q2.all q3, hi, up1 hi hb, eqEdge_call X p4 q4, he]
        rintro rfl; exact he rfl
    · rintro ⟨e, X⟩ ⟨ht, rfl, h0, h1, h5⟩
      simp only at h0 h1 h5 hv hw ⊢
      unfold vf52b0
      simp [h0, h1, h5, hv.lenOf]
      rw [List.take_length, hl, List.take_length] at ht
      exact ht

/-- The cells of a row of edges. -/
def edC (xs : List ArmR) : List CV := (xs.map armC).flatten
@[simp] theorem edC_nil : edC [] = [] := rfl
theorem edC_snoc (xs : List ArmR) (a : ArmR) : edC (xs ++ [a]) = edC xs ++ armC a := by simp [edC]
@[simp] theorem edC_len (xs : List ArmR) : (edC xs).length = xs.length * 2 := by
  induction xs with
  | nil => rfl
  | cons a r ih => simp [edC, armC] at ih ⊢; omega
theorem edC_flat (xs : List ArmR) : (edC xs).all flatC = true := by
  induction xs with
  | nil => rfl
  | cons a r ih =>
    have e : edC (a :: r) = .i a.fr :: .i a.v :: edC r := rfl
    rw [e]; simp [flatC] at ih ⊢; exact ih
theorem Own.isE {Y : Hp} {lo : Nat} {w : CV} {n : Nat} {xs : List ArmR} (h : Own Y lo 2 w n (edC xs)) : Row armP 2 Y w xs := by
  rcases h with ⟨rfl, rfl, h⟩ | ⟨id, rfl, h1, h2, h3⟩
  · have : xs = [] := by
      have := congrArg List.length h
      simp at this; exact List.length_eq_zero_iff.1 (by omega)
    subst this
    exact ⟨[], .inl ⟨rfl, rfl, rfl⟩, rfl, fun k cs x h => by simp at h⟩
  · simp at h3
    have h3 : n = xs.length := by omega
    subst h3
    exact Row.mk h2 rfl rfl (by simp) fun k cs x a b => by
      rw [List.getElem?_map, b] at a
      simp at a; subst a
      exact ⟨rfl, rfl⟩
def RowE (H : Hp) (w : CV) (L : Hp) (xs : List ArmR) : Prop := (w = .ns ∧ L = [] ∧ xs = []) ∨ (w = .sl H.length 0 0 xs.length ∧ L = [⟨edC xs, 0, true, 2⟩])
theorem RowE.own {H L : Hp} {w : CV} {xs : List ArmR} (h : RowE H w L xs) : Own (H ++ L) H.length 2 w xs.length (edC xs) := by
  rcases h with ⟨rfl, rfl, rfl⟩ | ⟨rfl, rfl⟩
  · exact .inl ⟨rfl, rfl, rfl⟩
  · exact .inr ⟨_, rfl, Nat.le_refl _, by simp, by simp⟩
theorem RowE.isE {H L : Hp} {w : CV} {xs : List ArmR} (h : RowE H w L xs) : Row armP 2 (H ++ L) w xs := h.own.isE
/-- The marks. -/
def edgs (n : Nat) : List ArmR := (List.range n).map fun (j : Nat) => ⟨1 + 2 * (j : Int), 2 + 2 * (j : Int)⟩
@[simp] theorem edgs_len (n : Nat) : (edgs n).length = n := by simp [edgs]
theorem edgs_get {n j : Nat} (h : j < (edgs n).length) : (edgs n)[j] = ⟨1 + 2 * (j : Int), 2 + 2 * (j : Int)⟩ := by simp [edgs]
theorem edgs_succ (n : Nat) : edgs (n + 1) = edgs n ++ [⟨1 + 2 * (n : Int), 2 + 2 * (n : Int)⟩] := by simp [edgs, List.range_succ]
theorem put2 {A R : List CV} {x y a b : CV} {n : Nat} (hn : A.length = n) : putAt (putAt (A ++ x :: y :: R) n [a]) (n + 1) [b] = A ++ a :: b :: R := by
  subst hn
  have e : putAt (A ++ x :: y :: R) A.length [a] = A ++ a :: y :: R := by rw [putAt_get (by simp)]; simp
  rw [e, putAt_get (by simp)]; simp
theorem markEdgeS_own {Y : Hp} {lo : Nat} {w : CV} {n : Nat} {cells : List CV} (h : Own Y lo 2 w n cells) (hn : n ≤ BIG) :
    ∃ Z, (∀ k : IV × Hp → Prop, CM 53 [.c w, .c (.i 1)] Y k = k (.c (.i (1 + 2 * n)), Z)) ∧ Z.length = Y.length ∧ Low lo Y Z ∧ Own Z lo 2 w n (edC (edgs n)) := by
  rcases h with ⟨rfl, rfl, rfl⟩ | ⟨id, rfl, h1, h2, h3⟩
  · refine ⟨Y, fun k => det (cw53 ?_) k, rfl, fun _ _ _ _ h => h, .inl ⟨rfl, rfl, rfl⟩⟩
    unfold vf53c
    simp
    refine wp_for CM_mono 0 (fun i s => s.h = Y ∧ Env.get s.e 0 = .c .ns ∧ Env.get s.e 1 = .c (.i 1) ∧ Env.get s.e 5 = .c (.i i)) (by simp) (fun i s h => absurd h (by omega)) ?_
    rintro ⟨e, X⟩ ⟨rfl, h0, h1, h5⟩
    simp only at h0 h1 h5 ⊢
    unfold vf53b0
    simp [h0, h1, h5]
  · have hlt := rdOb_lt h2
    refine ⟨Y.set id ⟨edC (edgs n), 0, true, 2⟩, fun k => det (cw53 ?_) k, by simp, fun id' g o hl ho => by rw [rdOb_set_ne (by omega)]; exact ho, .inr ⟨id, rfl, h1, by rw [rdOb_set_self hlt]; simp, by simp⟩⟩
    unfold vf53c
    simp
    obtain ⟨I, hI⟩ : ∃ I : Nat → St → Prop, ∀ i s, I i s ↔ (s.h = Y.set id ⟨edC (edgs i) ++ cells.drop (i * 2), 0, true, 2⟩ ∧ Env.get s.e 0 = .c (.sl id 0 0 n) ∧ Env.get s.e 1 = .c (.i (1 + 2 * i)) ∧ Env.get s.e 5 = .c (.i i)) := ⟨_, fun _ _ => Iff.rfl⟩
    refine wp_for CM_mono n I ((hI _ _).2 ⟨?_, by simp⟩) ?_ ?_
    · have := (rdOb_some.1 h2).1
      simp [edgs]
      rw [List.getElem?_eq_getElem hlt] at this
      injection this with this
      rw [← this]; simp
    · rintro i ⟨e, X⟩ hi hIs
      obtain ⟨hX, h0, h1', h5⟩ := (hI _ _).1 hIs
      simp only at hX h0 h1' h5 ⊢
      have ho : rdOb X id 0 = some ⟨edC (edgs i) ++ cells.drop (i * 2), 0, true, 2⟩ := by rw [hX, rdOb_set_self hlt]; simp
      have hlX : id < X.length := rdOb_lt ho
      have e1 : cells.drop (i * 2) = cells[i * 2]'(by omega) :: cells[i * 2 + 1]'(by omega) :: cells.drop ((i + 1) * 2) := by
        rw [List.drop_eq_getElem_cons (by omega), List.drop_eq_getElem_cons (by omega), show i * 2 + 1 + 1 = (i + 1) * 2 by omega]
      have hp := put2 (A := edC (edgs i)) (R := cells.drop ((i + 1) * 2)) (x := cells[i * 2]'(by omega)) (y := cells[i * 2 + 1]'(by omega)) (a := .i (1 + 2 * (i : Int))) (b := .i (2 + 2 * (i : Int))) (n := i * 2) (by simp)
      rw [← e1] at hp
      obtain ⟨c1, hc1⟩ : ∃ c1, putAt (edC (edgs i) ++ cells.drop (i * 2)) (i * 2) [.i (1 + 2 * (i : Int))] = c1 := ⟨_, rfl⟩
      rw [hc1] at hp
      have hcl : c1.length = n * 2 := by
        rw [← hc1, putAt_get (by simp; omega)]
        simp; omega
      have hl1 : i * 2 + 1 ≤ (edC (edgs i) ++ cells.drop (i * 2)).length := by simp; omega
      generalize hc0 : edC (edgs i) ++ cells.drop (i * 2) = c0 at ho hc1 hl1
      have hw1 : -9223372036854775808 ≤ (1 + 2 * (i : Int)) + 1 ∧ (1 + 2 * (i : Int)) + 1 ≤ 9223372036854775807 := by simp only [BIG] at hn; omega
      have hw2 : -9223372036854775808 ≤ (2 + 2 * (i : Int)) + 1 ∧ (2 + 2 * (i : Int)) + 1 ≤ 9223372036854775807 := by simp only [BIG] at hn; omega
      have e2 : (1 + 2 * (i : Int)) + 1 = 2 + 2 * (i : Int) := by omega
      have hw1' : wrap64 (1 + 2 * (i : Int) + 1) = 2 + 2 * (i : Int) := by rw [wrap64_id hw1, e2]
      unfold vf53b0
      simp [h0, h1', h5, ho, hi, idxOf, hc1, hl1, hw1', rdOb_set_self hlX, hcl, hp, up1 hi hn, wrap64_id hw2, show i * 2 + 1 + 1 ≤ n * 2 by omega]
      clear hw1'
      refine (hI _ _).2 ⟨?_, by simp; omega⟩
      rw [hX, edgs_succ, edC_snoc]; simp [armC]
    · rintro ⟨e, X⟩ hIs
      obtain ⟨hX, h0, h1', h5⟩ := (hI _ _).1 hIs
      simp only at hX h0 h1' h5 ⊢
      have hlen : X.length = Y.length := by rw [hX]; simp
      unfold vf53b0
      simp [h0, h1', h5, gc_nolen hlen (show flatV (.c (.i (1 + 2 * (n : Int)))) = true from rfl)]
      rw [hX, List.drop_eq_nil_of_le (by omega), List.append_nil]
theorem heldEdgeS_call {H : Hp} {v : CV} {n : Nat} (hv : Row armP 2 H v (edgs n)) (hn : n ≤ BIG) (k : IV × Hp → Prop) : CM 54 [.c v, .c (.i 1)] H k = k (.c (.i (1 + 2 * n)), H) := by
  refine det (cw54 ?_) k
  unfold vf54c
  simp
  refine wp_for CM_mono n (fun i s => s.h = H ∧ Env.get s.e 0 = .c v ∧ Env.get s.e 1 = .c (.i (1 + 2 * i)) ∧ Env.get s.e 5 = .c (.i i)) (by simp) ?_ ?_
  · rintro i ⟨e, X⟩ hi ⟨rfl, h0, h1, h5⟩
    simp only at h0 h1 h5 hv ⊢
    obtain ⟨id, g, off, q1, ⟨q2, q3, _⟩, _⟩ := Arms.get hv (k := i) (by simpa using hi)
    rw [edgs_get] at q2 q3
    have hw1 : -9223372036854775808 ≤ (1 + 2 * (i : Int)) + 1 ∧ (1 + 2 * (i : Int)) + 1 ≤ 9223372036854775807 := by simp only [BIG] at hn; omega
    have hw2 : -9223372036854775808 ≤ (2 + 2 * (i : Int)) + 1 ∧ (2 + 2 * (i : Int)) + 1 ≤ 9223372036854775807 := by simp only [BIG] at hn; omega
    have e2 : (1 + 2 * (i : Int)) + 1 = 2 + 2 * (i : Int) := by omega
    have hw1' : wrap64 (1 + 2 * (i : Int) + 1) = 2 + 2 * (i : Int) := by rw [wrap64_id hw1, e2]
    have hl := hv.lenOf
    rw [edgs_len] at hl
    unfold vf54b0
    simp [h0, h1, h5, q1, q2, q3, hi, hl, up1 hi hn, hw1', wrap64_id hw2]
    clear hw1'
    omega
  · rintro ⟨e, X⟩ ⟨rfl, h0, h1, h5⟩
    simp only at h0 h1 h5 hv ⊢
    have hl := hv.lenOf
    rw [edgs_len] at hl
    unfold vf54b0
    simp [h0, h1, h5, hl]
end Go.Proofs.Ytnmnpfdjigpgaaa.Vm
