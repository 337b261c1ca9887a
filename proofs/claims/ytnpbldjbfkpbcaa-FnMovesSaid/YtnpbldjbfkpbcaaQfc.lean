import Derived.Test.YtnpbldjbfkpbcaaP2
section
/- Rows copied, one behind the other, and at once: exactly. Two rows marked, apart. No conditions. -/
namespace Go.Proofs.Ytnpbldjbfkpbcaa.Vm
open Go.RowKit (wrap64)
set_option linter.unusedSimpArgs false
set_option linter.unusedVariables false

/-- Nothing else has changed. -/
def Oth (w : CV) (Y Z : Hp) : Prop := ∀ id g o, (∀ n, w ≠ .sl id 0 0 n) → rdOb Y id g = some o → rdOb Z id g = some o
theorem markIntS_x {a : Int} (ha : 0 ≤ a ∧ a ≤ 2305843009213693952) {Y : Hp} {lo : Nat} {w : CV} {n : Nat} {cells : List CV} (h : Own Y lo 1 w n cells) (hn : n ≤ BIG) :
    ∃ Z, (∀ k : IV × Hp → Prop, CM 43 [.c w, .c (.i a)] Y k = k (.c (.i (a + n)), Z)) ∧ Z.length = Y.length ∧ Oth w Y Z ∧ Own Z lo 1 w n ((ups a n).map .i) := by
  rcases h with ⟨rfl, rfl, rfl⟩ | ⟨id, rfl, h1, h2, h3⟩
  · refine ⟨Y, fun k => det (cw43 ?_) k, rfl, fun _ _ _ _ h => h, .inl ⟨rfl, rfl, rfl⟩⟩
    unfold vf43c
    simp
    refine wp_for CM_mono 0 (fun i s => s.h = Y ∧ Env.get s.e 0 = .c .ns ∧ Env.get s.e 1 = .c (.i a) ∧ Env.get s.e 5 = .c (.i i)) (by simp) (fun i s h => absurd h (by omega)) ?_
    rintro ⟨e, X⟩ ⟨rfl, h0, h1, h5⟩
    simp only at h0 h1 h5 ⊢
    unfold vf43b0
    simp [h0, h1, h5]
  · simp at h3
    have hlt := rdOb_lt h2
    refine ⟨Y.set id ⟨(ups a n).map .i, 0, true, 1⟩, fun k => det (cw43 ?_) k, by simp, fun id' g o hl ho => by rw [rdOb_set_ne (by rintro rfl; exact hl _ rfl)]; exact ho, .inr ⟨id, rfl, h1, by rw [rdOb_set_self hlt]; simp, by simp⟩⟩
    unfold vf43c
    simp
    obtain ⟨I, hI⟩ : ∃ I : Nat → St → Prop, ∀ i s, I i s ↔ (s.h = Y.set id ⟨(ups a i).map .i ++ cells.drop i, 0, true, 1⟩ ∧ Env.get s.e 0 = .c (.sl id 0 0 n) ∧ Env.get s.e 1 = .c (.i (a + i)) ∧ Env.get s.e 5 = .c (.i i)) := ⟨_, fun _ _ => Iff.rfl⟩
    refine wp_for CM_mono n I ((hI _ _).2 ⟨?_, by simp⟩) ?_ ?_
    · have := (rdOb_some.1 h2).1
      simp [ups]
      rw [List.getElem?_eq_getElem hlt] at this
      injection this with this
      rw [← this]; simp
    · rintro i ⟨e, X⟩ hi hIs
      obtain ⟨hX, h0, h1', h5⟩ := (hI _ _).1 hIs
      simp only at hX h0 h1' h5 ⊢
      have ho : rdOb X id 0 = some ⟨(ups a i).map .i ++ cells.drop i, 0, true, 1⟩ := by rw [hX, rdOb_set_self hlt]; simp
      have hp : putAt ((ups a i).map .i ++ cells.drop i) i [.i (a + (i : Int))] = (ups a (i + 1)).map .i ++ cells.drop (i + 1) := by
        have e1 : cells.drop i = cells[i]'(by omega) :: cells.drop (i + 1) := List.drop_eq_getElem_cons (by omega)
        have e2 : (cells.drop i).set 0 (.i (a + (i : Int))) = .i (a + (i : Int)) :: cells.drop (i + 1) := by rw [e1]; rfl
        rw [putAt_get (by simp; omega), List.set_append]
        simp [ups, List.range_succ] at e2 ⊢
        exact e2
      have hw1 : -9223372036854775808 ≤ (a + (i : Int)) + 1 ∧ (a + (i : Int)) + 1 ≤ 9223372036854775807 := by simp only [BIG] at hn; omega
      unfold vf43b0
      simp [h0, h1', h5, ho, hi, idxOf, hp, up1 hi hn, wrap64_id hw1, show i + 1 ≤ i + (cells.length - i) by omega]
      refine (hI _ _).2 ⟨?_, by simp; omega⟩
      rw [hX]; simp
    · rintro ⟨e, X⟩ hIs
      obtain ⟨hX, h0, h1', h5⟩ := (hI _ _).1 hIs
      simp only at hX h0 h1' h5 ⊢
      have hlen : X.length = Y.length := by rw [hX]; simp
      unfold vf43b0
      simp [h0, h1', h5, gc_nolen hlen (show flatV (.c (.i (a + (n : Int)))) = true from rfl)]
      rw [hX, List.drop_eq_nil_of_le (by omega), List.append_nil]
theorem markMoveS_x {Y : Hp} {lo : Nat} {w : CV} {n : Nat} {cells : List CV} (h : Own Y lo 2 w n cells) (hn : n ≤ BIG) :
    ∃ Z, (∀ k : IV × Hp → Prop, CM 42 [.c w, .c (.i 1)] Y k = k (.c (.i (1 + 2 * n)), Z)) ∧ Z.length = Y.length ∧ Oth w Y Z ∧ Own Z lo 2 w n (edC (edgs n)) := by
  rcases h with ⟨rfl, rfl, rfl⟩ | ⟨id, rfl, h1, h2, h3⟩
  · refine ⟨Y, fun k => det (cw42 ?_) k, rfl, fun _ _ _ _ h => h, .inl ⟨rfl, rfl, rfl⟩⟩
    unfold vf42c
    simp
    refine wp_for CM_mono 0 (fun i s => s.h = Y ∧ Env.get s.e 0 = .c .ns ∧ Env.get s.e 1 = .c (.i 1) ∧ Env.get s.e 5 = .c (.i i)) (by simp) (fun i s h => absurd h (by omega)) ?_
    rintro ⟨e, X⟩ ⟨rfl, h0, h1, h5⟩
    simp only at h0 h1 h5 ⊢
    unfold vf42b0
    simp [h0, h1, h5]
  · have hlt := rdOb_lt h2
    refine ⟨Y.set id ⟨edC (edgs n), 0, true, 2⟩, fun k => det (cw42 ?_) k, by simp, fun id' g o hl ho => by rw [rdOb_set_ne (by rintro rfl; exact hl _ rfl)]; exact ho, .inr ⟨id, rfl, h1, by rw [rdOb_set_self hlt]; simp, by simp⟩⟩
    unfold vf42c
    simp
    obtain ⟨I, hI⟩ : ∃ I : Nat → St → Prop, ∀ i s, I i s ↔ (s.h = Y.set id ⟨edC (edgs i) ++ cells.drop (i * 2), 0, true, 2⟩ ∧ Env.get s.e 0 = .c (.sl id 0 0 n) ∧ Env.get s.e 1 = .c (.i (1 + 2 * i)) ∧ Env.get s.e 5 = .c (.i i)) := ⟨_, fun _ _ => Iff.rfl⟩
    refine wp_for CM_mono n I ((hI _ _).2 ⟨?_, by simp⟩) ?_ ?_
    · have := (rdOb_some.1 h2).1
      simp [edgs]
      rw [List.getElem?_eq_getElem hlt] at this
      injection this with this
      rw [← this]; simp
    · rintro i ⟨e, X⟩ hi hIs
      obtain ⟨hX, h0, h1', h5⟩ := (hI _ _).1 hIs
      simp only at hX h0 h1' h5 ⊢
      have ho : rdOb X id 0 = some ⟨edC (edgs i) ++ cells.drop (i * 2), 0, true, 2⟩ := by rw [hX, rdOb_set_self hlt]; simp
      have hlX : id < X.length := rdOb_lt ho
      have e1 : cells.drop (i * 2) = cells[i * 2]'(by omega) :: cells[i * 2 + 1]'(by omega) :: cells.drop ((i + 1) * 2) := by
        rw [List.drop_eq_getElem_cons (by omega), List.drop_eq_getElem_cons (by omega), show i * 2 + 1 + 1 = (i + 1) * 2 by omega]
      have hp := put2 (A := edC (edgs i)) (R := cells.drop ((i + 1) * 2)) (x := cells[i * 2]'(by omega)) (y := cells[i * 2 + 1]'(by omega)) (a := .i (1 + 2 * (i : Int))) (b := .i (2 + 2 * (i : Int))) (n := i * 2) (by simp)
      rw [← e1] at hp
      obtain ⟨c1, hc1⟩ : ∃ c1, putAt (edC (edgs i) ++ cells.drop (i * 2)) (i * 2) [.i (1 + 2 * (i : Int))] = c1 := ⟨_, rfl⟩
      rw [hc1] at hp
      have hcl : c1.length = n * 2 := by
        rw [← hc1, putAt_get (by simp; omega)]
        simp; omega
      have hl1 : i * 2 + 1 ≤ (edC (edgs i) ++ cells.drop (i * 2)).length := by simp; omega
      generalize hc0 : edC (edgs i) ++ cells.drop (i * 2) = c0 at ho hc1 hl1
      have hw1 : -9223372036854775808 ≤ (1 + 2 * (i : Int)) + 1 ∧ (1 + 2 * (i : Int)) + 1 ≤ 9223372036854775807 := by simp only [BIG] at hn; omega
      have hw2 : -9223372036854775808 ≤ (2 + 2 * (i : Int)) + 1 ∧ (2 + 2 * (i : Int)) + 1 ≤ 9223372036854775807 := by simp only [BIG] at hn; omega
      have e2 : (1 + 2 * (i : Int)) + 1 = 2 + 2 * (i : Int) := by omega
      have hw1' : wrap64 (1 + 2 * (i : Int) + 1) = 2 + 2 * (i : Int) := by rw [wrap64_id hw1, e2]
      unfold vf42b0
      simp [h0, h1', h5, ho, hi, idxOf, hc1, hl1, hw1', rdOb_set_self hlX, hcl, hp, up1 hi hn, wrap64_id hw2, show i * 2 + 1 + 1 ≤ n * 2 by omega]
      clear hw1'
      refine (hI _ _).2 ⟨?_, by simp; omega⟩
      rw [hX, edgs_succ, edC_snoc]; simp [armC]
    · rintro ⟨e, X⟩ hIs
      obtain ⟨hX, h0, h1', h5⟩ := (hI _ _).1 hIs
      simp only at hX h0 h1' h5 ⊢
      have hlen : X.length = Y.length := by rw [hX]; simp
      unfold vf42b0
      simp [h0, h1', h5, gc_nolen hlen (show flatV (.c (.i (1 + 2 * (n : Int)))) = true from rfl)]
      rw [hX, List.drop_eq_nil_of_le (by omega), List.append_nil]
theorem sl_isI {X : Hp} {n : Nat} {xs : List Int} (hl : xs.length = n) : IsI (X ++ [(⟨xs.map .i, 0, true, 1⟩ : Ob)]) (.sl X.length 0 0 n) xs :=
  hl ▸ IsI.mk (o := ⟨xs.map .i, 0, true, 1⟩) (by simp) rfl (by simp) (by rw [List.drop_zero, List.take_of_length_le (by simp)])
theorem eachF_len (ms : List ArmR) (vs : List Int) : (eachF ms vs).length = vs.length := by
  have h := eachTo_len ms vs ms.length
  unfold eachTo at h; rw [List.take_length] at h; exact h
theorem doF_len (ms : List ArmR) (vs : List Int) : (doF ms vs).length = vs.length := by
  unfold doF; split
  · exact doTo_len _ _ _
  · rfl
theorem sl_own {X : Hp} {n : Nat} {xs : List Int} (hl : xs.length = n) : Own (X ++ [(⟨xs.map .i, 0, true, 1⟩ : Ob)]) X.length 1 (.sl X.length 0 0 n) n (xs.map .i) :=
  hl ▸ .inr ⟨_, rfl, Nat.le_refl _, by simp, by simp⟩
theorem movesEachX_law {H : Hp} {w v : CV} {ms : List ArmR} {xs : List Int} (hw : Arms H w ms) (hm : ms.length ≤ maxLen) (hv : IsI H v xs) (hb : xs.length ≤ maxLen) : CM 7 [.c w, .c v] H fun r => r.1 = .c (.b true) := by
  refine cw7 ?_
  unfold vf7c
  simp [szMoveS_call hw.lenOf hm, hv.lenOf]
  by_cases hx : (1048576 : Int) < xs.length
  · simp [hx]
  simp [hx, szMoveS_call hw.lenOf hm]
  by_cases h : 1048576 < ms.length
  · simp [h]
  have hB : ms.length ≤ BIG := by simp only [BIG]; omega
  have hX : xs.length ≤ BIG := by simp only [BIG]; omega
  have h2 : ¬ ((1048576 : Int) - (ms.length : Int) < 0) := by omega
  simp [h, h2]
  have hF := eachF_len ms xs
  have hFb : (eachF ms xs).length ≤ BIG := by rw [hF]; exact hX
  have arm : ∀ (lo : Nat) (X : Hp) (cs : List CV) (a : ArmR), a ∈ ms → armO lo X cs a → armP X cs a := fun _ _ _ _ _ h => h
  refine (toMoveS_call hw hB).mono ?_
  rintro _ ⟨w1, L1, rfl, ho1⟩
  have r1 := ho1.row (P' := armP) (arm _ _)
  obtain ⟨X1, hX1⟩ : ∃ X1, H ++ L1 = X1 := ⟨_, rfl⟩
  have p1 : Pre H X1 := ⟨_, hX1.symm⟩
  rw [hX1] at r1 ⊢
  simp [toIntS_call (hv.pre p1) hX]
  obtain ⟨X2, hX2⟩ : ∃ X2, X1 ++ [(⟨xs.map .i, 0, true, 1⟩ : Ob)] = X2 := ⟨_, rfl⟩
  have p2 : Pre X1 X2 := ⟨_, hX2.symm⟩
  have i2 := sl_isI (X := X1) (xs := xs) rfl
  rw [hX2] at i2 ⊢
  simp [specEach (Row.pre (fun _ _ => armP.pre) p2 r1) hB i2 hX]
  obtain ⟨X3, hX3⟩ : ∃ X3, X2 ++ [(⟨(eachF ms xs).map .i, 0, true, 1⟩ : Ob)] = X3 := ⟨_, rfl⟩
  have p3 : Pre X2 X3 := ⟨_, hX3.symm⟩
  have i3 := sl_isI (X := X2) hF
  have l3 : X3.length = X2.length + 1 := by rw [← hX3]; simp
  rw [hX3] at i3 ⊢
  have pH3 := p1.trans (p2.trans p3)
  refine (toMoveS_call (Row.pre (fun _ _ => armP.pre) pH3 hw) hB).mono ?_
  rintro _ ⟨w4, L4, rfl, ho4⟩
  have r4 := ho4.row (P' := armP) (arm _ _)
  have m4 := ho4.ownM
  obtain ⟨X4, hX4⟩ : ∃ X4, X3 ++ L4 = X4 := ⟨_, rfl⟩
  have p4 : Pre X3 X4 := ⟨_, hX4.symm⟩
  rw [hX4] at r4 m4 ⊢
  simp [toIntS_call (hv.pre (pH3.trans p4)) hX]
  obtain ⟨X5, hX5⟩ : ∃ X5, X4 ++ [(⟨xs.map .i, 0, true, 1⟩ : Ob)] = X5 := ⟨_, rfl⟩
  have p5 : Pre X4 X5 := ⟨_, hX5.symm⟩
  have i5 := sl_isI (X := X4) (xs := xs) rfl
  have o5 := sl_own (X := X4) (xs := xs) rfl
  have l5 : X5.length = X4.length + 1 := by rw [← hX5]; simp
  rw [hX5] at i5 o5 ⊢
  simp [implEach (Row.pre (fun _ _ => armP.pre) p5 r4) hB i5 (by simp) hX]
  obtain ⟨X6, hX6⟩ : ∃ X6, X5 ++ [(⟨(eachF ms xs).map .i, 0, true, 1⟩ : Ob)] = X6 := ⟨_, rfl⟩
  have p6 : Pre X5 X6 := ⟨_, hX6.symm⟩
  have i6 := sl_isI (X := X5) hF
  have o6 := sl_own (X := X5) hF
  rw [hX6] at i6 o6 ⊢
  have p36 := p4.trans (p5.trans p6)
  simp [eqIntS_call i6 (i3.pre p36) hFb]
  refine (toMoveS_call (Row.pre (fun _ _ => armP.pre) (pH3.trans p36) hw) hB).mono ?_
  rintro _ ⟨w7, L7, rfl, ho7⟩
  have r7 := ho7.row (P' := armP) (arm _ _)
  obtain ⟨X7, hX7⟩ : ∃ X7, X6 ++ L7 = X7 := ⟨_, rfl⟩
  have p7 : Pre X6 X7 := ⟨_, hX7.symm⟩
  rw [hX7] at r7 ⊢
  simp [eqMoveS_call (Row.pre (fun _ _ => armP.pre) (p5.trans (p6.trans p7)) r4) r7 hB, toIntS_call (hv.pre (pH3.trans (p36.trans p7))) hX]
  obtain ⟨X8, hX8⟩ : ∃ X8, X7 ++ [(⟨xs.map .i, 0, true, 1⟩ : Ob)] = X8 := ⟨_, rfl⟩
  have p8 : Pre X7 X8 := ⟨_, hX8.symm⟩
  have i8 := sl_isI (X := X7) (xs := xs) rfl
  rw [hX8] at i8 ⊢
  have p68 := p7.trans p8
  have m4' := m4.keep (Z := X8) fun _ _ _ _ h => (p5.trans (p6.trans p68)).rdOb h
  have o5' := o5.keep (Z := X8) fun _ _ _ _ h => (p6.trans p68).rdOb h
  have o6' := o6.keep (Z := X8) fun _ _ _ _ h => p68.rdOb h
  have hw4 : ∃ j, w4 = .sl j 0 0 ms.length ∧ X3.length ≤ j ∧ j < X4.length := by
    obtain ⟨j, css, q1, q2, q3, _⟩ := ho4
    rw [hX4] at q3
    exact ⟨j, q1, q2, rdOb_lt q3⟩
  obtain ⟨j, hj, hj1, hj2⟩ := hw4
  obtain ⟨Z1, e1, hl1, hz1, _⟩ := markMoveS_x m4' hB
  have ne1 : ∀ id, (id < X3.length ∨ X4.length ≤ id) → ∀ n, w4 ≠ .sl id 0 0 n := fun id hd n hh => by rw [hj] at hh; injection hh; omega
  have o5z := o5'.keep (Z := Z1) fun id g o hi ho => hz1 id g o (ne1 id (.inr hi)) ho
  have ha : (0 : Int) ≤ 1 + 2 * (ms.length : Int) ∧ 1 + 2 * (ms.length : Int) ≤ 2305843009213693952 := by simp only [BIG] at hB; omega
  obtain ⟨Z2, e2, hl2, hz2, _⟩ := markIntS_x ha o5z hX
  have ne2 : ∀ id, id ≠ X4.length → ∀ n, (CV.sl X4.length 0 0 xs.length) ≠ .sl id 0 0 n := fun id hd n hh => by injection hh; omega
  have o6z := o6'.keep (Z := Z2) fun id g o hi ho => hz2 id g o (ne2 id (by omega)) (hz1 id g o (ne1 id (.inr (by omega))) ho)
  have lo2 : Low X3.length X8 Z2 := fun id g o hi ho => hz2 id g o (ne2 id (by have := p4.le; omega)) (hz1 id g o (ne1 id (.inl hi)) ho)
  have pz2 : Pre X3 Z2 := lo2.pre (p36.trans p68) (Nat.le_refl _)
  have hk : ¬ (1 + 2 * (ms.length : Int) + (xs.length : Int) < 0) := by omega
  obtain ⟨Z3, e3, hl3, hlow3, o6y⟩ := markIntS_own o6z hX
  have pz3 : Pre X3 Z3 := hlow3.pre pz2 (p4.trans p5).le
  have hk1 : ¬ (1 + (xs.length : Int) < 0) := by omega
  simp [eqIntS_call (i5.pre (p6.trans p68)) i8 hX, e1, e2, hk, eqIntS_call o6z.isI (i3.pre pz2) hFb, e3, heldIntS_call o6y.isI hX, hk1]
  refine (toMoveS_call (Row.pre (fun _ _ => armP.pre) (pH3.trans pz3) hw) hB).mono ?_
  rintro _ ⟨w9, L9, rfl, ho9⟩
  have r9 := ho9.row (P' := armP) (arm _ _)
  obtain ⟨X9, hX9⟩ : ∃ X9, Z3 ++ L9 = X9 := ⟨_, rfl⟩
  have p9 : Pre Z3 X9 := ⟨_, hX9.symm⟩
  rw [hX9] at r9 ⊢
  simp [toIntS_call (hv.pre (pH3.trans (pz3.trans p9))) hX]
  obtain ⟨Y1, hY1⟩ : ∃ Y1, X9 ++ [(⟨xs.map .i, 0, true, 1⟩ : Ob)] = Y1 := ⟨_, rfl⟩
  have q1 : Pre X9 Y1 := ⟨_, hY1.symm⟩
  have i9 := sl_isI (X := X9) (xs := xs) rfl
  rw [hY1] at i9 ⊢
  simp [implEach (Row.pre (fun _ _ => armP.pre) q1 r9) hB i9 (by simp) hX]
  obtain ⟨Y2, hY2⟩ : ∃ Y2, Y1 ++ [(⟨(eachF ms xs).map .i, 0, true, 1⟩ : Ob)] = Y2 := ⟨_, rfl⟩
  have q2 : Pre Y1 Y2 := ⟨_, hY2.symm⟩
  have i10 := sl_isI (X := Y1) hF
  rw [hY2] at i10 ⊢
  have o6x := o6y.keep (Z := Y2) fun _ _ _ _ h => (p9.trans (q1.trans q2)).rdOb h
  simp [eqIntS_call i10 (i3.pre (pz3.trans (p9.trans (q1.trans q2)))) hFb, heldIntS_call o6x.isI hX, hk1]
theorem movesDoX_law {H : Hp} {w v : CV} {ms : List ArmR} {xs : List Int} (hw : Arms H w ms) (hm : ms.length ≤ maxLen) (hv : IsI H v xs) (hb : xs.length ≤ maxLen) : CM 11 [.c w, .c v] H fun r => r.1 = .c (.b true) := by
  refine cw11 ?_
  unfold vf11c
  simp [szMoveS_call hw.lenOf hm, hv.lenOf]
  by_cases hx : (1048576 : Int) < xs.length
  · simp [hx]
  simp [hx, szMoveS_call hw.lenOf hm]
  by_cases h : 1048576 < ms.length
  · simp [h]
  have hB : ms.length ≤ BIG := by simp only [BIG]; omega
  have hX : xs.length ≤ BIG := by simp only [BIG]; omega
  have h2 : ¬ ((1048576 : Int) - (ms.length : Int) < 0) := by omega
  simp [h, h2]
  have hF := doF_len ms xs
  have hFb : (doF ms xs).length ≤ BIG := by rw [hF]; exact hX
  have arm : ∀ (lo : Nat) (X : Hp) (cs : List CV) (a : ArmR), a ∈ ms → armO lo X cs a → armP X cs a := fun _ _ _ _ _ h => h
  refine (toMoveS_call hw hB).mono ?_
  rintro _ ⟨w1, L1, rfl, ho1⟩
  have r1 := ho1.row (P' := armP) (arm _ _)
  obtain ⟨X1, hX1⟩ : ∃ X1, H ++ L1 = X1 := ⟨_, rfl⟩
  have p1 : Pre H X1 := ⟨_, hX1.symm⟩
  rw [hX1] at r1 ⊢
  simp [toIntS_call (hv.pre p1) hX]
  obtain ⟨X2, hX2⟩ : ∃ X2, X1 ++ [(⟨xs.map .i, 0, true, 1⟩ : Ob)] = X2 := ⟨_, rfl⟩
  have p2 : Pre X1 X2 := ⟨_, hX2.symm⟩
  have i2 := sl_isI (X := X1) (xs := xs) rfl
  rw [hX2] at i2 ⊢
  simp [specDo (Row.pre (fun _ _ => armP.pre) p2 r1) hB i2 hX]
  obtain ⟨X3, hX3⟩ : ∃ X3, X2 ++ [(⟨(doF ms xs).map .i, 0, true, 1⟩ : Ob)] = X3 := ⟨_, rfl⟩
  have p3 : Pre X2 X3 := ⟨_, hX3.symm⟩
  have i3 := sl_isI (X := X2) hF
  have l3 : X3.length = X2.length + 1 := by rw [← hX3]; simp
  rw [hX3] at i3 ⊢
  have pH3 := p1.trans (p2.trans p3)
  refine (toMoveS_call (Row.pre (fun _ _ => armP.pre) pH3 hw) hB).mono ?_
  rintro _ ⟨w4, L4, rfl, ho4⟩
  have r4 := ho4.row (P' := armP) (arm _ _)
  have m4 := ho4.ownM
  obtain ⟨X4, hX4⟩ : ∃ X4, X3 ++ L4 = X4 := ⟨_, rfl⟩
  have p4 : Pre X3 X4 := ⟨_, hX4.symm⟩
  rw [hX4] at r4 m4 ⊢
  simp [toIntS_call (hv.pre (pH3.trans p4)) hX]
  obtain ⟨X5, hX5⟩ : ∃ X5, X4 ++ [(⟨xs.map .i, 0, true, 1⟩ : Ob)] = X5 := ⟨_, rfl⟩
  have p5 : Pre X4 X5 := ⟨_, hX5.symm⟩
  have i5 := sl_isI (X := X4) (xs := xs) rfl
  have o5 := sl_own (X := X4) (xs := xs) rfl
  have l5 : X5.length = X4.length + 1 := by rw [← hX5]; simp
  rw [hX5] at i5 o5 ⊢
  simp [implDo (Row.pre (fun _ _ => armP.pre) p5 r4) hB i5 (by simp) hX]
  obtain ⟨X6, hX6⟩ : ∃ X6, X5 ++ [(⟨(doF ms xs).map .i, 0, true, 1⟩ : Ob)] = X6 := ⟨_, rfl⟩
  have p6 : Pre X5 X6 := ⟨_, hX6.symm⟩
  have i6 := sl_isI (X := X5) hF
  have o6 := sl_own (X := X5) hF
  rw [hX6] at i6 o6 ⊢
  have p36 := p4.trans (p5.trans p6)
  simp [eqIntS_call i6 (i3.pre p36) hFb]
  refine (toMoveS_call (Row.pre (fun _ _ => armP.pre) (pH3.trans p36) hw) hB).mono ?_
  rintro _ ⟨w7, L7, rfl, ho7⟩
  have r7 := ho7.row (P' := armP) (arm _ _)
  obtain ⟨X7, hX7⟩ : ∃ X7, X6 ++ L7 = X7 := ⟨_, rfl⟩
  have p7 : Pre X6 X7 := ⟨_, hX7.symm⟩
  rw [hX7] at r7 ⊢
  simp [eqMoveS_call (Row.pre (fun _ _ => armP.pre) (p5.trans (p6.trans p7)) r4) r7 hB, toIntS_call (hv.pre (pH3.trans (p36.trans p7))) hX]
  obtain ⟨X8, hX8⟩ : ∃ X8, X7 ++ [(⟨xs.map .i, 0, true, 1⟩ : Ob)] = X8 := ⟨_, rfl⟩
  have p8 : Pre X7 X8 := ⟨_, hX8.symm⟩
  have i8 := sl_isI (X := X7) (xs := xs) rfl
  rw [hX8] at i8 ⊢
  have p68 := p7.trans p8
  have m4' := m4.keep (Z := X8) fun _ _ _ _ h => (p5.trans (p6.trans p68)).rdOb h
  have o5' := o5.keep (Z := X8) fun _ _ _ _ h => (p6.trans p68).rdOb h
  have o6' := o6.keep (Z := X8) fun _ _ _ _ h => p68.rdOb h
  have hw4 : ∃ j, w4 = .sl j 0 0 ms.length ∧ X3.length ≤ j ∧ j < X4.length := by
    obtain ⟨j, css, q1, q2, q3, _⟩ := ho4
    rw [hX4] at q3
    exact ⟨j, q1, q2, rdOb_lt q3⟩
  obtain ⟨j, hj, hj1, hj2⟩ := hw4
  obtain ⟨Z1, e1, hl1, hz1, _⟩ := markMoveS_x m4' hB
  have ne1 : ∀ id, (id < X3.length ∨ X4.length ≤ id) → ∀ n, w4 ≠ .sl id 0 0 n := fun id hd n hh => by rw [hj] at hh; injection hh; omega
  have o5z := o5'.keep (Z := Z1) fun id g o hi ho => hz1 id g o (ne1 id (.inr hi)) ho
  have ha : (0 : Int) ≤ 1 + 2 * (ms.length : Int) ∧ 1 + 2 * (ms.length : Int) ≤ 2305843009213693952 := by simp only [BIG] at hB; omega
  obtain ⟨Z2, e2, hl2, hz2, _⟩ := markIntS_x ha o5z hX
  have ne2 : ∀ id, id ≠ X4.length → ∀ n, (CV.sl X4.length 0 0 xs.length) ≠ .sl id 0 0 n := fun id hd n hh => by injection hh; omega
  have o6z := o6'.keep (Z := Z2) fun id g o hi ho => hz2 id g o (ne2 id (by omega)) (hz1 id g o (ne1 id (.inr (by omega))) ho)
  have lo2 : Low X3.length X8 Z2 := fun id g o hi ho => hz2 id g o (ne2 id (by have := p4.le; omega)) (hz1 id g o (ne1 id (.inl hi)) ho)
  have pz2 : Pre X3 Z2 := lo2.pre (p36.trans p68) (Nat.le_refl _)
  have hk : ¬ (1 + 2 * (ms.length : Int) + (xs.length : Int) < 0) := by omega
  obtain ⟨Z3, e3, hl3, hlow3, o6y⟩ := markIntS_own o6z hX
  have pz3 : Pre X3 Z3 := hlow3.pre pz2 (p4.trans p5).le
  have hk1 : ¬ (1 + (xs.length : Int) < 0) := by omega
  simp [eqIntS_call (i5.pre (p6.trans p68)) i8 hX, e1, e2, hk, eqIntS_call o6z.isI (i3.pre pz2) hFb, e3, heldIntS_call o6y.isI hX, hk1]
  refine (toMoveS_call (Row.pre (fun _ _ => armP.pre) (pH3.trans pz3) hw) hB).mono ?_
  rintro _ ⟨w9, L9, rfl, ho9⟩
  have r9 := ho9.row (P' := armP) (arm _ _)
  obtain ⟨X9, hX9⟩ : ∃ X9, Z3 ++ L9 = X9 := ⟨_, rfl⟩
  have p9 : Pre Z3 X9 := ⟨_, hX9.symm⟩
  rw [hX9] at r9 ⊢
  simp [toIntS_call (hv.pre (pH3.trans (pz3.trans p9))) hX]
  obtain ⟨Y1, hY1⟩ : ∃ Y1, X9 ++ [(⟨xs.map .i, 0, true, 1⟩ : Ob)] = Y1 := ⟨_, rfl⟩
  have q1 : Pre X9 Y1 := ⟨_, hY1.symm⟩
  have i9 := sl_isI (X := X9) (xs := xs) rfl
  rw [hY1] at i9 ⊢
  simp [implDo (Row.pre (fun _ _ => armP.pre) q1 r9) hB i9 (by simp) hX]
  obtain ⟨Y2, hY2⟩ : ∃ Y2, Y1 ++ [(⟨(doF ms xs).map .i, 0, true, 1⟩ : Ob)] = Y2 := ⟨_, rfl⟩
  have q2 : Pre Y1 Y2 := ⟨_, hY2.symm⟩
  have i10 := sl_isI (X := Y1) hF
  rw [hY2] at i10 ⊢
  have o6x := o6y.keep (Z := Y2) fun _ _ _ _ h => (p9.trans (q1.trans q2)).rdOb h
  simp [eqIntS_call i10 (i3.pre (pz3.trans (p9.trans (q1.trans q2)))) hFb, heldIntS_call o6x.isI hX, hk1]
end Go.Proofs.Ytnpbldjbfkpbcaa.Vm
end
