/- Marks: each number of a copy is written over. Nothing else is touched. No conditions. -/
import Derived.Test.YtnpbldjbfkpbcaaKo
namespace Go.Proofs.Ytnpbldjbfkpbcaa.Vm
open Go.RowKit (wrap64)
set_option linter.unusedSimpArgs false
set_option linter.unusedVariables false

def SimC (a b : CV) : Prop := a = b ∨ ((∃ x, a = .i x) ∧ ∃ y, b = .i y)
theorem SimC.refl (a : CV) : SimC a a := .inl rfl
theorem SimC.trans {a b c : CV} (h : SimC a b) (k : SimC b c) : SimC a c := by
  rcases h with rfl | ⟨h1, h2⟩
  · exact k
  · rcases k with rfl | ⟨_, k2⟩
    · exact .inr ⟨h1, h2⟩
    · exact .inr ⟨h1, k2⟩
theorem SimC.int {x : Int} {b : CV} (h : SimC (.i x) b) : ∃ y, b = .i y := by
  rcases h with rfl | ⟨_, h⟩
  · exact ⟨x, rfl⟩
  · exact h
theorem SimC.sl {id g o n : Nat} {b : CV} (h : SimC (.sl id g o n) b) : b = .sl id g o n := by
  rcases h with rfl | ⟨⟨x, h⟩, _⟩
  · rfl
  · cases h
/-- Cell by cell alike: the same, or numbers. -/
def SimsC (us bs : List CV) : Prop := us.length = bs.length ∧ ∀ (j : Nat) (a b : CV), us[j]? = some a → bs[j]? = some b → SimC a b
theorem SimsC.refl (us : List CV) : SimsC us us := ⟨rfl, fun j a b h k => by rw [h] at k; cases k; exact SimC.refl _⟩
theorem SimsC.trans {us bs cs : List CV} (h : SimsC us bs) (k : SimsC bs cs) : SimsC us cs := by
  refine ⟨h.1.trans k.1, fun j a c ha hc => ?_⟩
  have hj : j < bs.length := by rw [k.1]; exact (List.getElem?_eq_some_iff.1 hc).1
  exact (h.2 j a _ ha (List.getElem?_eq_getElem hj)).trans (k.2 j _ c (List.getElem?_eq_getElem hj) hc)
theorem SimsC.part {us bs : List CV} (h : SimsC us bs) (o n : Nat) : SimsC ((us.drop o).take n) ((bs.drop o).take n) := by
  refine ⟨by simp [h.1], fun j a b ha hb => ?_⟩
  rw [List.getElem?_take] at ha hb
  by_cases hj : j < n
  · rw [if_pos hj, List.getElem?_drop] at ha hb
    exact h.2 _ _ _ ha hb
  · rw [if_neg hj] at ha; cases ha
theorem putAt_get {cs : List CV} {o : Nat} {x : CV} (h : o < cs.length) : putAt cs o [x] = cs.set o x := by
  simp [putAt, List.set_eq_take_append_cons_drop, h]
theorem SimsC.put {cs : List CV} {o : Nat} {y : Int} (h : cs[o]? = some (.i y)) (x : Int) : SimsC cs (putAt cs o [.i x]) := by
  have ho : o < cs.length := (List.getElem?_eq_some_iff.1 h).1
  rw [putAt_get ho]
  refine ⟨by simp, fun j a b ha hb => ?_⟩
  rw [List.getElem?_set] at hb
  split at hb
  · rename_i e
    subst e
    rw [h] at ha
    cases ha
    cases hb
    exact .inr ⟨⟨_, rfl⟩, _, rfl⟩
  · rw [ha] at hb; cases hb; exact SimC.refl _

/-- Only numbers have changed, and only within the bounds. -/
structure IntCh (lo hi : Nat) (Y Z : Hp) : Prop where
  len : Z.length = Y.length
  ob : ∀ id g o, rdOb Y id g = some o → ∃ cs, rdOb Z id g = some ⟨cs, o.g, o.rw, o.sz⟩ ∧ SimsC o.cells cs
  out : ∀ id g o, (id < lo ∨ hi ≤ id) → rdOb Y id g = some o → rdOb Z id g = some o
theorem IntCh.refl (lo hi : Nat) (Y : Hp) : IntCh lo hi Y Y := ⟨rfl, fun _ _ o h => ⟨o.cells, h, SimsC.refl _⟩, fun _ _ _ _ h => h⟩
theorem IntCh.trans {lo hi : Nat} {X Y Z : Hp} (h : IntCh lo hi X Y) (k : IntCh lo hi Y Z) : IntCh lo hi X Z := by
  refine ⟨k.len.trans h.len, fun id g o ho => ?_, fun id g o hl ho => k.out id g o hl (h.out id g o hl ho)⟩
  obtain ⟨cs, h1, h2⟩ := h.ob id g o ho
  obtain ⟨ds, h3, h4⟩ := k.ob id g _ h1
  exact ⟨ds, h3, h2.trans h4⟩
theorem IntCh.put {lo hi : Nat} {Y : Hp} {id g : Nat} {cs : List CV} {rw : Bool} {sz : Nat} {off : Nat} {y : Int} (h : rdOb Y id g = some ⟨cs, g, rw, sz⟩) (hc : cs[off]? = some (.i y)) (hl : lo ≤ id) (hh : id < hi) (x : Int) : IntCh lo hi Y (Y.set id ⟨putAt cs off [.i x], g, rw, sz⟩) := by
  have hlt := rdOb_lt h
  refine ⟨by simp, fun id' g' o ho => ?_, fun id' g' o hl' ho => ?_⟩
  · by_cases e : id' = id
    · subst e
      have e1 := (rdOb_some.1 h).1
      have e2 := (rdOb_some.1 ho).1
      rw [e1] at e2
      injection e2 with e2
      subst e2
      have e3 := (rdOb_some.1 ho).2
      simp only at e3
      subst e3
      exact ⟨putAt cs off [.i x], by rw [rdOb_set_self hlt]; simp, SimsC.put hc x⟩
    · exact ⟨o.cells, by rw [rdOb_set_ne e]; exact ho, SimsC.refl _⟩
  · rw [rdOb_set_ne (by omega)]; exact ho

/-- A row of a copy, seen for its numbers alone. -/
def MRow (P : Hp → List CV → Prop) (sz lo hi : Nat) (Y : Hp) (v : CV) (n : Nat) : Prop :=
  ∃ (id : Nat) (cells : List CV), v = .sl id 0 0 n ∧ lo ≤ id ∧ id < hi ∧ rdOb Y id 0 = some ⟨cells, 0, true, sz⟩ ∧ cells.length = n * sz ∧ ∀ k, k < n → P Y ((cells.drop (k * sz)).take sz)
theorem MRow.ch {P : Hp → List CV → Prop} {sz lo hi : Nat} {Y Z : Hp} {v : CV} {n : Nat} (hP : ∀ us bs, SimsC us bs → P Y us → P Z bs) (hc : IntCh lo hi Y Z) (h : MRow P sz lo hi Y v n) : MRow P sz lo hi Z v n := by
  obtain ⟨id, cells, h1, h2, h3, h4, h5, h6⟩ := h
  obtain ⟨cs, k1, k2⟩ := hc.ob _ _ _ h4
  exact ⟨id, cs, h1, h2, h3, k1, by rw [← k2.1]; exact h5, fun k hk => hP _ _ (k2.part _ _) (h6 k hk)⟩
theorem MRow.lenOf {P : Hp → List CV → Prop} {sz lo hi : Nat} {Y : Hp} {v : CV} {n : Nat} (h : MRow P sz lo hi Y v n) : lenOf v = some n := by
  obtain ⟨id, _, rfl, _⟩ := h; rfl
theorem MRow.cell {P : Hp → List CV → Prop} {sz lo hi : Nat} {Y : Hp} {v : CV} {n : Nat} (h : MRow P sz lo hi Y v n) {k : Nat} (hk : k < n) (j : Nat) (hj : j < sz) (hP : ∀ cs, P Y cs → ∃ y, cs[j]? = some (.i y)) (x : Int) :
    ∃ (id : Nat) (cells : List CV) (Z : Hp), idxOf sz v (k : Int) = some (.p id 0 (k * sz)) ∧ rdOb Y id 0 = some ⟨cells, 0, true, sz⟩ ∧ k * sz + j + 1 ≤ cells.length ∧ Y.set id ⟨putAt cells (k * sz + j) [.i x], 0, true, sz⟩ = Z ∧ IntCh lo hi Y Z := by
  obtain ⟨id, cells, rfl, h2, h3, h4, h5, h6⟩ := h
  obtain ⟨y, hy⟩ := hP _ (h6 k hk)
  rw [List.getElem?_take, if_pos hj, List.getElem?_drop] at hy
  refine ⟨id, cells, _, by simp [idxOf, hk], h4, (List.getElem?_eq_some_iff.1 hy).1, rfl, IntCh.put h4 hy h2 h3 x⟩
/-- A slice within a row's element. -/
theorem MRow.field {P : Hp → List CV → Prop} {sz lo hi : Nat} {Y : Hp} {v : CV} {n : Nat} (h : MRow P sz lo hi Y v n) {k : Nat} (hk : k < n) :
    ∃ (id : Nat) (cs : List CV), idxOf sz v (k : Int) = some (.p id 0 (k * sz)) ∧ P Y cs ∧ ∀ j c, j < sz → cs[j]? = some c → rdC Y id 0 (k * sz + j) = some c := by
  obtain ⟨id, cells, rfl, h2, h3, h4, h5, h6⟩ := h
  refine ⟨id, _, by simp [idxOf, hk], h6 k hk, fun j c hj hc => ?_⟩
  rw [List.getElem?_take, if_pos hj, List.getElem?_drop] at hc
  rw [rdC_ob h4]; exact hc

theorem gc_nolen {Y X : Hp} {r : IV} (hl : X.length = Y.length) (hf : flatV r = true) : gcRet Y r X = (r, X) := by
  unfold gcRet
  rw [List.take_of_length_le (by omega)]
  split
  · rename_i h; rw [h]
  · rfl
def armM (_ : Hp) (cs : List CV) : Prop := ∃ a b : Int, cs = [.i a, .i b]
def insM (_ : Hp) (cs : List CV) : Prop := ∃ a b c d e : Int, cs = [.i a, .i b, .i c, .i d, .i e]
def phiM (lo hi : Nat) (Y : Hp) (cs : List CV) : Prop := ∃ (a : Int) (z : CV) (n : Nat), cs = [.i a, z] ∧ MRow armM 2 lo hi Y z n ∧ n ≤ BIG
def blkM (lo hi : Nat) (Y : Hp) (cs : List CV) : Prop := ∃ (z u : CV) (n m : Nat) (a b c d : Int), cs = [z, u, .i a, .i b, .i c, .i d] ∧ MRow (phiM lo hi) 2 lo hi Y z n ∧ n ≤ BIG ∧ MRow insM 5 lo hi Y u m ∧ m ≤ BIG
theorem MRow.sim {P : Hp → List CV → Prop} {sz lo hi : Nat} {Y : Hp} {v w : CV} {n : Nat} (h : MRow P sz lo hi Y v n) (hs : SimC v w) : w = v := by
  obtain ⟨id, cells, rfl, _⟩ := h
  exact hs.sl
theorem armM.ch {Y Z : Hp} {us bs : List CV} (hs : SimsC us bs) (h : armM Y us) : armM Z bs := by
  obtain ⟨a, b, rfl⟩ := h
  obtain ⟨hl, hs⟩ := hs
  match bs, hl with
  | [x, y], _ =>
    obtain ⟨x', rfl⟩ := (hs 0 _ _ rfl rfl).int
    obtain ⟨y', rfl⟩ := (hs 1 _ _ rfl rfl).int
    exact ⟨_, _, rfl⟩
theorem insM.ch {Y Z : Hp} {us bs : List CV} (hs : SimsC us bs) (h : insM Y us) : insM Z bs := by
  obtain ⟨a, b, c, d, e, rfl⟩ := h
  obtain ⟨hl, hs⟩ := hs
  match bs, hl with
  | [x, y, z, u, w], _ =>
    obtain ⟨x', rfl⟩ := (hs 0 _ _ rfl rfl).int
    obtain ⟨y', rfl⟩ := (hs 1 _ _ rfl rfl).int
    obtain ⟨z', rfl⟩ := (hs 2 _ _ rfl rfl).int
    obtain ⟨u', rfl⟩ := (hs 3 _ _ rfl rfl).int
    obtain ⟨w', rfl⟩ := (hs 4 _ _ rfl rfl).int
    exact ⟨_, _, _, _, _, rfl⟩
theorem phiM.ch {lo hi : Nat} {Y Z : Hp} (hc : IntCh lo hi Y Z) {us bs : List CV} (hs : SimsC us bs) (h : phiM lo hi Y us) : phiM lo hi Z bs := by
  obtain ⟨a, z, n, rfl, h1, h2⟩ := h
  obtain ⟨hl, hs⟩ := hs
  match bs, hl with
  | [x, y], _ =>
    obtain ⟨x', rfl⟩ := (hs 0 _ _ rfl rfl).int
    obtain rfl := h1.sim (hs 1 _ _ rfl rfl)
    exact ⟨_, _, n, rfl, h1.ch (fun _ _ => armM.ch) hc, h2⟩
theorem blkM.ch {lo hi : Nat} {Y Z : Hp} (hc : IntCh lo hi Y Z) {us bs : List CV} (hs : SimsC us bs) (h : blkM lo hi Y us) : blkM lo hi Z bs := by
  obtain ⟨z, u, n, m, a, b, c, d, rfl, h1, h2, h3, h4⟩ := h
  obtain ⟨hl, hs⟩ := hs
  match bs, hl with
  | [z', u', x, y, p, q], _ =>
    obtain rfl := h1.sim (hs 0 _ _ rfl rfl)
    obtain rfl := h3.sim (hs 1 _ _ rfl rfl)
    obtain ⟨x', rfl⟩ := (hs 2 _ _ rfl rfl).int
    obtain ⟨y', rfl⟩ := (hs 3 _ _ rfl rfl).int
    obtain ⟨p', rfl⟩ := (hs 4 _ _ rfl rfl).int
    obtain ⟨q', rfl⟩ := (hs 5 _ _ rfl rfl).int
    exact ⟨_, _, n, m, _, _, _, _, rfl, h1.ch (fun _ _ => phiM.ch hc) hc, h2, h3.ch (fun _ _ => insM.ch) hc, h4⟩
/-- What a mark leaves: a number not far on, and only numbers changed. -/
def MRes (lo hi : Nat) (Y : Hp) (k : Int) (c : Nat) (r : IV × Hp) : Prop := ∃ m Z, r = (.c (.i m), Z) ∧ k ≤ m ∧ m ≤ k + c ∧ IntCh lo hi Y Z
theorem markArmS_weak {lo hi : Nat} {Y : Hp} {v : CV} {n : Nat} {k : Int} (hv : MRow (armM) 2 lo hi Y v n) (hn : n ≤ BIG) (hk : 0 ≤ k) (hk2 : k ≤ 4611686018427387904) : CM 171 [.c v, .c (.i k)] Y (MRes lo hi Y k (2 * n)) := by
  refine cw171 ?_
  unfold vf171c
  simp
  obtain ⟨I, hI⟩ : ∃ I : Nat → St → Prop, ∀ i s, I i s ↔ (∃ m : Int, k ≤ m ∧ m ≤ k + 2 * i ∧ IntCh lo hi Y s.h ∧ Env.get s.e 0 = .c v ∧ Env.get s.e 1 = .c (.i m) ∧ Env.get s.e 5 = .c (.i i)) := ⟨_, fun _ _ => Iff.rfl⟩
  refine wp_for CM_mono n I ((hI _ _).2 ⟨k, Int.le_refl _, by omega, IntCh.refl _ _ _, by simp⟩) ?_ ?_
  · rintro i ⟨e, X⟩ hi' hIs
    obtain ⟨m, hm1, hm2, hc, h0, h1, h5⟩ := (hI _ _).1 hIs
    simp only at hc h0 h1 h5 ⊢
    have hv0 := hv.ch (fun _ _ => armM.ch) hc
    have hni : 2 * i ≤ 2 * n := Nat.mul_le_mul_left _ (by omega)
    have hnb : 2 * n ≤ 2 * BIG := Nat.mul_le_mul_left _ hn
    simp only [BIG] at hni hnb hn
    unfold vf171b0
    obtain ⟨id0, cl0, Z0, hx0, ho0, hl0, hZ0, hc0⟩ := hv0.cell hi' 0 (by omega) (fun cs h => by obtain ⟨a, b, rfl⟩ := h; exact ⟨_, rfl⟩) (m)
    have hl0' := hl0
    try simp only [Nat.add_zero] at hl0' hZ0
    have hw0 : -9223372036854775808 ≤ (m : Int) + 1 ∧ (m : Int) + 1 ≤ 9223372036854775807 := by omega
    have hv1 := hv0.ch (fun _ _ => armM.ch) hc0
    simp [h0, h1, h5, hv0.lenOf, hi', hx0, ho0, hl0', hZ0, wrap64_id hw0]
    obtain ⟨id1, cl1, Z1, hx1, ho1, hl1, hZ1, hc1⟩ := hv1.cell hi' 1 (by omega) (fun cs h => by obtain ⟨a, b, rfl⟩ := h; exact ⟨_, rfl⟩) ((m + 1))
    have e1 : id1 = id0 := by have e := hx1.symm.trans hx0; injection e with e; injection e
    subst e1
    have hl1' := hl1
    try simp only [Nat.add_zero] at hl1' hZ1
    have hw1 : -9223372036854775808 ≤ ((m + 1) : Int) + 1 ∧ ((m + 1) : Int) + 1 ≤ 9223372036854775807 := by omega
    have hv2 := hv1.ch (fun _ _ => armM.ch) hc1
    simp [h0, h1, h5, hv0.lenOf, hi', hx1, ho1, hl1', hZ1, wrap64_id hw1]
    simp [h0, h1, h5, hv0.lenOf, hi', up1 hi' hn]
    exact (hI _ _).2 ⟨((m + 1) + 1), by omega, by omega, ((hc.trans hc0).trans hc1), by simp⟩
  · rintro ⟨e, X⟩ hIs
    obtain ⟨m, hm1, hm2, hc, h0, h1, h5⟩ := (hI _ _).1 hIs
    simp only at hc h0 h1 h5 ⊢
    unfold vf171b0
    simp [h0, h1, h5, hv.lenOf, gc_nolen hc.len (show flatV (.c (.i m)) = true from rfl)]
    exact ⟨m, X, rfl, hm1, hm2, hc⟩
theorem markInsS_weak {lo hi : Nat} {Y : Hp} {v : CV} {n : Nat} {k : Int} (hv : MRow (insM) 5 lo hi Y v n) (hn : n ≤ BIG) (hk : 0 ≤ k) (hk2 : k ≤ 4611686018427387904) : CM 149 [.c v, .c (.i k)] Y (MRes lo hi Y k (5 * n)) := by
  refine cw149 ?_
  unfold vf149c
  simp
  obtain ⟨I, hI⟩ : ∃ I : Nat → St → Prop, ∀ i s, I i s ↔ (∃ m : Int, k ≤ m ∧ m ≤ k + 5 * i ∧ IntCh lo hi Y s.h ∧ Env.get s.e 0 = .c v ∧ Env.get s.e 1 = .c (.i m) ∧ Env.get s.e 5 = .c (.i i)) := ⟨_, fun _ _ => Iff.rfl⟩
  refine wp_for CM_mono n I ((hI _ _).2 ⟨k, Int.le_refl _, by omega, IntCh.refl _ _ _, by simp⟩) ?_ ?_
  · rintro i ⟨e, X⟩ hi' hIs
    obtain ⟨m, hm1, hm2, hc, h0, h1, h5⟩ := (hI _ _).1 hIs
    simp only at hc h0 h1 h5 ⊢
    have hv0 := hv.ch (fun _ _ => insM.ch) hc
    have hni : 5 * i ≤ 5 * n := Nat.mul_le_mul_left _ (by omega)
    have hnb : 5 * n ≤ 5 * BIG := Nat.mul_le_mul_left _ hn
    simp only [BIG] at hni hnb hn
    unfold vf149b0
    obtain ⟨id0, cl0, Z0, hx0, ho0, hl0, hZ0, hc0⟩ := hv0.cell hi' 0 (by omega) (fun cs h => by obtain ⟨a, b, c, d, e, rfl⟩ := h; exact ⟨_, rfl⟩) (m)
    have hl0' := hl0
    try simp only [Nat.add_zero] at hl0' hZ0
    have hw0 : -9223372036854775808 ≤ (m : Int) + 1 ∧ (m : Int) + 1 ≤ 9223372036854775807 := by omega
    have hv1 := hv0.ch (fun _ _ => insM.ch) hc0
    simp [h0, h1, h5, hv0.lenOf, hi', hx0, ho0, hl0', hZ0, wrap64_id hw0]
    obtain ⟨id1, cl1, Z1, hx1, ho1, hl1, hZ1, hc1⟩ := hv1.cell hi' 1 (by omega) (fun cs h => by obtain ⟨a, b, c, d, e, rfl⟩ := h; exact ⟨_, rfl⟩) ((m + 1))
    have e1 : id1 = id0 := by have e := hx1.symm.trans hx0; injection e with e; injection e
    subst e1
    have hl1' := hl1
    try simp only [Nat.add_zero] at hl1' hZ1
    have hw1 : -9223372036854775808 ≤ ((m + 1) : Int) + 1 ∧ ((m + 1) : Int) + 1 ≤ 9223372036854775807 := by omega
    have hv2 := hv1.ch (fun _ _ => insM.ch) hc1
    simp [h0, h1, h5, hv0.lenOf, hi', hx1, ho1, hl1', hZ1, wrap64_id hw1]
    obtain ⟨id2, cl2, Z2, hx2, ho2, hl2, hZ2, hc2⟩ := hv2.cell hi' 2 (by omega) (fun cs h => by obtain ⟨a, b, c, d, e, rfl⟩ := h; exact ⟨_, rfl⟩) (((m + 1) + 1))
    have e2 : id2 = id1 := by have e := hx2.symm.trans hx1; injection e with e; injection e
    subst e2
    have hl2' := hl2
    try simp only [Nat.add_zero] at hl2' hZ2
    have hw2 : -9223372036854775808 ≤ (((m + 1) + 1) : Int) + 1 ∧ (((m + 1) + 1) : Int) + 1 ≤ 9223372036854775807 := by omega
    have hv3 := hv2.ch (fun _ _ => insM.ch) hc2
    simp [h0, h1, h5, hv0.lenOf, hi', hx2, ho2, hl2', hZ2, wrap64_id hw2]
    obtain ⟨id3, cl3, Z3, hx3, ho3, hl3, hZ3, hc3⟩ := hv3.cell hi' 3 (by omega) (fun cs h => by obtain ⟨a, b, c, d, e, rfl⟩ := h; exact ⟨_, rfl⟩) ((((m + 1) + 1) + 1))
    have e3 : id3 = id2 := by have e := hx3.symm.trans hx2; injection e with e; injection e
    subst e3
    have hl3' := hl3
    try simp only [Nat.add_zero] at hl3' hZ3
    have hw3 : -9223372036854775808 ≤ ((((m + 1) + 1) + 1) : Int) + 1 ∧ ((((m + 1) + 1) + 1) : Int) + 1 ≤ 9223372036854775807 := by omega
    have hv4 := hv3.ch (fun _ _ => insM.ch) hc3
    simp [h0, h1, h5, hv0.lenOf, hi', hx3, ho3, hl3', hZ3, wrap64_id hw3]
    obtain ⟨id4, cl4, Z4, hx4, ho4, hl4, hZ4, hc4⟩ := hv4.cell hi' 4 (by omega) (fun cs h => by obtain ⟨a, b, c, d, e, rfl⟩ := h; exact ⟨_, rfl⟩) (((((m + 1) + 1) + 1) + 1))
    have e4 : id4 = id3 := by have e := hx4.symm.trans hx3; injection e with e; injection e
    subst e4
    have hl4' := hl4
    try simp only [Nat.add_zero] at hl4' hZ4
    have hw4 : -9223372036854775808 ≤ (((((m + 1) + 1) + 1) + 1) : Int) + 1 ∧ (((((m + 1) + 1) + 1) + 1) : Int) + 1 ≤ 9223372036854775807 := by omega
    have hv5 := hv4.ch (fun _ _ => insM.ch) hc4
    simp [h0, h1, h5, hv0.lenOf, hi', hx4, ho4, hl4', hZ4, wrap64_id hw4]
    simp [h0, h1, h5, hv0.lenOf, hi', up1 hi' hn]
    exact (hI _ _).2 ⟨(((((m + 1) + 1) + 1) + 1) + 1), by omega, by omega, (((((hc.trans hc0).trans hc1).trans hc2).trans hc3).trans hc4), by simp⟩
  · rintro ⟨e, X⟩ hIs
    obtain ⟨m, hm1, hm2, hc, h0, h1, h5⟩ := (hI _ _).1 hIs
    simp only at hc h0 h1 h5 ⊢
    unfold vf149b0
    simp [h0, h1, h5, hv.lenOf, gc_nolen hc.len (show flatV (.c (.i m)) = true from rfl)]
    exact ⟨m, X, rfl, hm1, hm2, hc⟩
theorem markPhiS_weak {lo hi : Nat} {Y : Hp} {v : CV} {n : Nat} {k : Int} (hv : MRow (phiM lo hi) 2 lo hi Y v n) (hn : n ≤ BIG) (hk : 0 ≤ k) (hk2 : k ≤ 3000000000000000000) : CM 148 [.c v, .c (.i k)] Y (MRes lo hi Y k (2097153 * n)) := by
  refine cw148 ?_
  unfold vf148c
  simp
  obtain ⟨I, hI⟩ : ∃ I : Nat → St → Prop, ∀ i s, I i s ↔ (∃ m : Int, k ≤ m ∧ m ≤ k + 2097153 * i ∧ IntCh lo hi Y s.h ∧ Env.get s.e 0 = .c v ∧ Env.get s.e 1 = .c (.i m) ∧ Env.get s.e 5 = .c (.i i)) := ⟨_, fun _ _ => Iff.rfl⟩
  refine wp_for CM_mono n I ((hI _ _).2 ⟨k, Int.le_refl _, by omega, IntCh.refl _ _ _, by simp⟩) ?_ ?_
  · rintro i ⟨e, X⟩ hi' hIs
    obtain ⟨m, hm1, hm2, hc, h0, h1, h5⟩ := (hI _ _).1 hIs
    simp only at hc h0 h1 h5 ⊢
    have hv0 := hv.ch (fun _ _ => phiM.ch hc) hc
    have hni : 2097153 * i ≤ 2097153 * n := Nat.mul_le_mul_left _ (by omega)
    have hnb : 2097153 * n ≤ 2097153 * BIG := Nat.mul_le_mul_left _ hn
    simp only [BIG] at hni hnb hn
    unfold vf148b0
    obtain ⟨id0, cl0, Z0, hx0, ho0, hl0, hZ0, hc0⟩ := hv0.cell hi' 0 (by omega) (fun cs h => by obtain ⟨a, z, q, rfl, _⟩ := h; exact ⟨_, rfl⟩) (m)
    have hl0' := hl0
    try simp only [Nat.add_zero] at hl0' hZ0
    have hw0 : -9223372036854775808 ≤ (m : Int) + 1 ∧ (m : Int) + 1 ≤ 9223372036854775807 := by omega
    have hv1 := hv0.ch (fun _ _ => phiM.ch hc0) hc0
    simp [h0, h1, h5, hv0.lenOf, hi', hx0, ho0, hl0', hZ0, wrap64_id hw0]
    obtain ⟨id1, cs1, hx1, hP1, hf1⟩ := hv1.field hi'
    obtain ⟨a1, z1, q1, rfl, hz1, hq1⟩ := hP1
    have hr1 := hf1 1 _ (by omega) rfl
    try simp only [Nat.add_zero] at hr1
    have e1 : id1 = id0 := by have e := hx1.symm.trans hx0; injection e with e; injection e
    subst e1
    simp [h0, h1, h5, hv0.lenOf, hi', hx1, hr1]
    refine (markArmS_weak hz1 hq1 (by omega) (by omega)).mono ?_
    rintro _ ⟨m1, Z1, rfl, ha1, hb1, hc1⟩
    have hbd1 : 2 * q1 ≤ 2 * BIG := by first | exact Nat.mul_le_mul_left _ hq1 | omega
    simp only [BIG] at hbd1
    have hv2 := hv1.ch (fun _ _ => phiM.ch hc1) hc1
    simp [h0, h1, h5, hv0.lenOf, hi', up1 hi' hn]
    exact (hI _ _).2 ⟨m1, by omega, by omega, ((hc.trans hc0).trans hc1), by simp⟩
  · rintro ⟨e, X⟩ hIs
    obtain ⟨m, hm1, hm2, hc, h0, h1, h5⟩ := (hI _ _).1 hIs
    simp only at hc h0 h1 h5 ⊢
    unfold vf148b0
    simp [h0, h1, h5, hv.lenOf, gc_nolen hc.len (show flatV (.c (.i m)) = true from rfl)]
    exact ⟨m, X, rfl, hm1, hm2, hc⟩
theorem markBlockS_weak {lo hi : Nat} {Y : Hp} {v : CV} {n : Nat} {k : Int} (hv : MRow (blkM lo hi) 6 lo hi Y v n) (hn : n ≤ BIG) (hk : 0 ≤ k) (hk2 : k ≤ 4) : CM 116 [.c v, .c (.i k)] Y (MRes lo hi Y k (2199029547012 * n)) := by
  refine cw116 ?_
  unfold vf116c
  simp
  obtain ⟨I, hI⟩ : ∃ I : Nat → St → Prop, ∀ i s, I i s ↔ (∃ m : Int, k ≤ m ∧ m ≤ k + 2199029547012 * i ∧ IntCh lo hi Y s.h ∧ Env.get s.e 0 = .c v ∧ Env.get s.e 1 = .c (.i m) ∧ Env.get s.e 5 = .c (.i i)) := ⟨_, fun _ _ => Iff.rfl⟩
  refine wp_for CM_mono n I ((hI _ _).2 ⟨k, Int.le_refl _, by omega, IntCh.refl _ _ _, by simp⟩) ?_ ?_
  · rintro i ⟨e, X⟩ hi' hIs
    obtain ⟨m, hm1, hm2, hc, h0, h1, h5⟩ := (hI _ _).1 hIs
    simp only at hc h0 h1 h5 ⊢
    have hv0 := hv.ch (fun _ _ => blkM.ch hc) hc
    have hni : 2199029547012 * i ≤ 2199029547012 * n := Nat.mul_le_mul_left _ (by omega)
    have hnb : 2199029547012 * n ≤ 2199029547012 * BIG := Nat.mul_le_mul_left _ hn
    simp only [BIG] at hni hnb hn
    unfold vf116b0
    obtain ⟨id0, cs0, hx0, hP0, hf0⟩ := hv0.field hi'
    obtain ⟨z0, u0, q0, p0, a0, b0, c0, d0, rfl, hz0, hq0, hu0, hp0⟩ := hP0
    have hr0 := hf0 0 _ (by omega) rfl
    try simp only [Nat.add_zero] at hr0
    simp [h0, h1, h5, hv0.lenOf, hi', hx0, hr0]
    refine (markPhiS_weak hz0 hq0 (by omega) (by omega)).mono ?_
    rintro _ ⟨m0, Z0, rfl, ha0, hb0, hc0⟩
    have hbd0 : 2097153 * q0 ≤ 2097153 * BIG := by first | exact Nat.mul_le_mul_left _ hq0 | omega
    simp only [BIG] at hbd0
    have hv1 := hv0.ch (fun _ _ => blkM.ch hc0) hc0
    obtain ⟨id1, cs1, hx1, hP1, hf1⟩ := hv1.field hi'
    obtain ⟨z1, u1, q1, p1, a1, b1, c1, d1, rfl, hz1, hq1, hu1, hp1⟩ := hP1
    have hr1 := hf1 1 _ (by omega) rfl
    try simp only [Nat.add_zero] at hr1
    have e1 : id1 = id0 := by have e := hx1.symm.trans hx0; injection e with e; injection e
    subst e1
    simp [h0, h1, h5, hv0.lenOf, hi', hx1, hr1]
    refine (markInsS_weak hu1 hp1 (by omega) (by omega)).mono ?_
    rintro _ ⟨m1, Z1, rfl, ha1, hb1, hc1⟩
    have hbd1 : 5 * p1 ≤ 5 * BIG := by first | exact Nat.mul_le_mul_left _ hp1 | omega
    simp only [BIG] at hbd1
    have hv2 := hv1.ch (fun _ _ => blkM.ch hc1) hc1
    obtain ⟨id2, cl2, Z2, hx2, ho2, hl2, hZ2, hc2⟩ := hv2.cell hi' 2 (by omega) (fun cs h => by obtain ⟨z, u, q, p, a, b, c, d, rfl, _⟩ := h; exact ⟨_, rfl⟩) (m1)
    have e2 : id2 = id1 := by have e := hx2.symm.trans hx1; injection e with e; injection e
    subst e2
    have hl2' := hl2
    try simp only [Nat.add_zero] at hl2' hZ2
    have hw2 : -9223372036854775808 ≤ (m1 : Int) + 1 ∧ (m1 : Int) + 1 ≤ 9223372036854775807 := by omega
    have hv3 := hv2.ch (fun _ _ => blkM.ch hc2) hc2
    simp [h0, h1, h5, hv0.lenOf, hi', hx2, ho2, hl2', hZ2, wrap64_id hw2]
    obtain ⟨id3, cl3, Z3, hx3, ho3, hl3, hZ3, hc3⟩ := hv3.cell hi' 3 (by omega) (fun cs h => by obtain ⟨z, u, q, p, a, b, c, d, rfl, _⟩ := h; exact ⟨_, rfl⟩) ((m1 + 1))
    have e3 : id3 = id2 := by have e := hx3.symm.trans hx2; injection e with e; injection e
    subst e3
    have hl3' := hl3
    try simp only [Nat.add_zero] at hl3' hZ3
    have hw3 : -9223372036854775808 ≤ ((m1 + 1) : Int) + 1 ∧ ((m1 + 1) : Int) + 1 ≤ 9223372036854775807 := by omega
    have hv4 := hv3.ch (fun _ _ => blkM.ch hc3) hc3
    simp [h0, h1, h5, hv0.lenOf, hi', hx3, ho3, hl3', hZ3, wrap64_id hw3]
    obtain ⟨id4, cl4, Z4, hx4, ho4, hl4, hZ4, hc4⟩ := hv4.cell hi' 4 (by omega) (fun cs h => by obtain ⟨z, u, q, p, a, b, c, d, rfl, _⟩ := h; exact ⟨_, rfl⟩) (((m1 + 1) + 1))
    have e4 : id4 = id3 := by have e := hx4.symm.trans hx3; injection e with e; injection e
    subst e4
    have hl4' := hl4
    try simp only [Nat.add_zero] at hl4' hZ4
    have hw4 : -9223372036854775808 ≤ (((m1 + 1) + 1) : Int) + 1 ∧ (((m1 + 1) + 1) : Int) + 1 ≤ 9223372036854775807 := by omega
    have hv5 := hv4.ch (fun _ _ => blkM.ch hc4) hc4
    simp [h0, h1, h5, hv0.lenOf, hi', hx4, ho4, hl4', hZ4, wrap64_id hw4]
    obtain ⟨id5, cl5, Z5, hx5, ho5, hl5, hZ5, hc5⟩ := hv5.cell hi' 5 (by omega) (fun cs h => by obtain ⟨z, u, q, p, a, b, c, d, rfl, _⟩ := h; exact ⟨_, rfl⟩) ((((m1 + 1) + 1) + 1))
    have e5 : id5 = id4 := by have e := hx5.symm.trans hx4; injection e with e; injection e
    subst e5
    have hl5' := hl5
    try simp only [Nat.add_zero] at hl5' hZ5
    have hw5 : -9223372036854775808 ≤ ((((m1 + 1) + 1) + 1) : Int) + 1 ∧ ((((m1 + 1) + 1) + 1) : Int) + 1 ≤ 9223372036854775807 := by omega
    have hv6 := hv5.ch (fun _ _ => blkM.ch hc5) hc5
    simp [h0, h1, h5, hv0.lenOf, hi', hx5, ho5, hl5', hZ5, wrap64_id hw5]
    simp [h0, h1, h5, hv0.lenOf, hi', up1 hi' hn]
    exact (hI _ _).2 ⟨((((m1 + 1) + 1) + 1) + 1), by omega, by omega, ((((((hc.trans hc0).trans hc1).trans hc2).trans hc3).trans hc4).trans hc5), by simp⟩
  · rintro ⟨e, X⟩ hIs
    obtain ⟨m, hm1, hm2, hc, h0, h1, h5⟩ := (hI _ _).1 hIs
    simp only at hc h0 h1 h5 ⊢
    unfold vf116b0
    simp [h0, h1, h5, hv.lenOf, gc_nolen hc.len (show flatV (.c (.i m)) = true from rfl)]
    exact ⟨m, X, rfl, hm1, hm2, hc⟩
end Go.Proofs.Ytnpbldjbfkpbcaa.Vm
