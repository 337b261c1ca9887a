import Derived.Test.YtnpbldjbfkpbcaaQhd
section
/- In which order copies may go: exactly. No conditions. -/
namespace Go.Proofs.Ytnpbldjbfkpbcaa.Vm
open Go.RowKit (wrap64)
set_option linter.unusedSimpArgs false
set_option linter.unusedVariables false

def OwnG (lo : Nat) (Z : Hp) (w : CV) (xs : List ArmR) : Prop := (w = .ns ∧ xs = []) ∨ ∃ b g, w = .sl b g 0 xs.length ∧ lo ≤ b ∧ MvO Z b g xs []
theorem OwnG.row {lo : Nat} {Z : Hp} {w : CV} {xs : List ArmR} (h : OwnG lo Z w xs) : Arms Z w xs := by
  rcases h with ⟨rfl, rfl⟩ | ⟨b, g, rfl, _, h⟩
  · exact Row.ns
  · exact h.row
theorem OwnG.keep {lo : Nat} {Y Z : Hp} {w : CV} {xs : List ArmR} (h : OwnG lo Y w xs) (hk : ∀ id g o, lo ≤ id → rdOb Y id g = some o → rdOb Z id g = some o) : OwnG lo Z w xs := by
  rcases h with h | ⟨b, g, h1, h2, h3⟩
  · exact .inl h
  · exact .inr ⟨b, g, h1, h2, hk _ _ _ h2 h3⟩
theorem markMoveS_o {Y : Hp} {lo : Nat} {w : CV} {xs : List ArmR} (h : OwnG lo Y w xs) (hn : xs.length ≤ BIG) :
    ∃ Z, (∀ k : IV × Hp → Prop, CM 42 [.c w, .c (.i 1)] Y k = k (.c (.i (1 + 2 * xs.length)), Z)) ∧ Z.length = Y.length ∧ Low lo Y Z ∧ OwnG lo Z w (edgs xs.length) := by
  obtain ⟨n, hnn⟩ : ∃ n, n = xs.length := ⟨_, rfl⟩
  rw [← hnn] at hn ⊢
  rcases h with ⟨rfl, rfl⟩ | ⟨id, gg, rfl, h1, h2⟩
  · obtain rfl : n = 0 := hnn
    refine ⟨Y, fun k => det (cw42 ?_) k, rfl, fun _ _ _ _ h => h, .inl ⟨rfl, rfl⟩⟩
    unfold vf42c
    simp
    refine wp_for CM_mono 0 (fun i s => s.h = Y ∧ Env.get s.e 0 = .c .ns ∧ Env.get s.e 1 = .c (.i 1) ∧ Env.get s.e 5 = .c (.i i)) (by simp) (fun i s h => absurd h (by omega)) ?_
    rintro ⟨e, X⟩ ⟨rfl, h0, h1, h5⟩
    simp only at h0 h1 h5 ⊢
    unfold vf42b0
    simp [h0, h1, h5]
  · obtain ⟨cells, hcells⟩ : ∃ cells, edC xs ++ [] = cells := ⟨_, rfl⟩
    have h3 : cells.length = n * 2 := by rw [← hcells, hnn]; simp
    have h2' : rdOb Y id gg = some ⟨edC xs ++ [], gg, true, 2⟩ := h2
    rw [hcells] at h2'
    clear h2
    have h2 := h2'
    rw [← hnn]
    have hlt := rdOb_lt h2
    refine ⟨Y.set id ⟨edC (edgs n), gg, true, 2⟩, fun k => det (cw42 ?_) k, by simp, fun id' g o hl ho => by rw [rdOb_set_ne (by omega)]; exact ho, .inr ⟨id, gg, by simp, h1, by show rdOb _ _ _ = _; rw [rdOb_set_self hlt]; simp⟩⟩
    unfold vf42c
    simp
    obtain ⟨I, hI⟩ : ∃ I : Nat → St → Prop, ∀ i s, I i s ↔ (s.h = Y.set id ⟨edC (edgs i) ++ cells.drop (i * 2), gg, true, 2⟩ ∧ Env.get s.e 0 = .c (.sl id gg 0 n) ∧ Env.get s.e 1 = .c (.i (1 + 2 * i)) ∧ Env.get s.e 5 = .c (.i i)) := ⟨_, fun _ _ => Iff.rfl⟩
    refine wp_for CM_mono n I ((hI _ _).2 ⟨?_, by simp⟩) ?_ ?_
    · have := (rdOb_some.1 h2).1
      simp [edgs]
      rw [List.getElem?_eq_getElem hlt] at this
      injection this with this
      rw [← this]; simp
    · rintro i ⟨e, X⟩ hi hIs
      obtain ⟨hX, h0, h1', h5⟩ := (hI _ _).1 hIs
      simp only at hX h0 h1' h5 ⊢
      have ho : rdOb X id gg = some ⟨edC (edgs i) ++ cells.drop (i * 2), gg, true, 2⟩ := by rw [hX, rdOb_set_self hlt]; simp
      have hlX : id < X.length := rdOb_lt ho
      have e1 : cells.drop (i * 2) = cells[i * 2]'(by omega) :: cells[i * 2 + 1]'(by omega) :: cells.drop ((i + 1) * 2) := by
        rw [List.drop_eq_getElem_cons (by omega), List.drop_eq_getElem_cons (by omega), show i * 2 + 1 + 1 = (i + 1) * 2 by omega]
      have hp := put2 (A := edC (edgs i)) (R := cells.drop ((i + 1) * 2)) (x := cells[i * 2]'(by omega)) (y := cells[i * 2 + 1]'(by omega)) (a := .i (1 + 2 * (i : Int))) (b := .i (2 + 2 * (i : Int))) (n := i * 2) (by simp)
      rw [← e1] at hp
      obtain ⟨c1, hc1⟩ : ∃ c1, putAt (edC (edgs i) ++ cells.drop (i * 2)) (i * 2) [.i (1 + 2 * (i : Int))] = c1 := ⟨_, rfl⟩
      rw [hc1] at hp
      have hcl : c1.length = n * 2 := by
        rw [← hc1, putAt_get (by simp; omega)]
        simp; omega
      have hl1 : i * 2 + 1 ≤ (edC (edgs i) ++ cells.drop (i * 2)).length := by simp; omega
      generalize hc0 : edC (edgs i) ++ cells.drop (i * 2) = c0 at ho hc1 hl1
      have hw1 : -9223372036854775808 ≤ (1 + 2 * (i : Int)) + 1 ∧ (1 + 2 * (i : Int)) + 1 ≤ 9223372036854775807 := by simp only [BIG] at hn; omega
      have hw2 : -9223372036854775808 ≤ (2 + 2 * (i : Int)) + 1 ∧ (2 + 2 * (i : Int)) + 1 ≤ 9223372036854775807 := by simp only [BIG] at hn; omega
      have e2 : (1 + 2 * (i : Int)) + 1 = 2 + 2 * (i : Int) := by omega
      have hw1' : wrap64 (1 + 2 * (i : Int) + 1) = 2 + 2 * (i : Int) := by rw [wrap64_id hw1, e2]
      unfold vf42b0
      simp [h0, h1', h5, ho, hi, idxOf, hc1, hl1, hw1', rdOb_set_self hlX, hcl, hp, up1 hi hn, wrap64_id hw2, show i * 2 + 1 + 1 ≤ n * 2 by omega]
      clear hw1'
      refine (hI _ _).2 ⟨?_, by simp; omega⟩
      rw [hX, edgs_succ, edC_snoc]; simp [armC]
    · rintro ⟨e, X⟩ hIs
      obtain ⟨hX, h0, h1', h5⟩ := (hI _ _).1 hIs
      simp only at hX h0 h1' h5 ⊢
      have hlen : X.length = Y.length := by rw [hX]; simp
      unfold vf42b0
      simp [h0, h1', h5, gc_nolen hlen (show flatV (.c (.i (1 + 2 * (n : Int)))) = true from rfl)]
      rw [hX, List.drop_eq_nil_of_le (by omega), List.append_nil]

def seqX (n : Int) (ms : List ArmR) : List ArmR := if movesB n ms = true then seqF n 60 (leftM idM ms ms.length) [] else []
theorem seqF_le (n : Int) : ∀ (f : Nat) (left out : List ArmR), (seqF n f left out).length ≤ out.length + f := by
  intro f
  induction f with
  | zero => intro left out; exact Nat.le_refl _
  | succ f ih =>
    intro left out
    unfold seqF
    split
    · omega
    · split
      · have := ih (left.eraseIdx (findI (frB left) left).toNat) (out ++ [left.getD (findI (frB left) left).toNat ⟨0, 0⟩])
        simp at this; simp; omega
      · have := ih (left.map (turnM n (left.getD 0 ⟨0, 0⟩).fr)) (out ++ [⟨n, (left.getD 0 ⟨0, 0⟩).fr⟩])
        simp at this; simp; omega
theorem seqX_le (n : Int) (ms : List ArmR) : (seqX n ms).length ≤ BIG := by
  have := seqF_le n 60 (leftM idM ms ms.length) []
  unfold seqX
  split
  · simp only [BIG]; simp at this; omega
  · simp
def SeqO (H : Hp) (ms : List ArmR) (n : Int) (r : IV × Hp) : Prop := ∃ w Z, r = (.tup [(false, [w]), (false, [.b (movesB n ms)])], Z) ∧ Pre H Z ∧ OwnG H.length Z w (seqX n ms)
theorem implSeqX {H : Hp} {id0 g0 off0 n0 : Nat} {ms : List ArmR} {n : Int} (hw : Arms H (.sl id0 g0 off0 n0) ms) (hb : ms.length ≤ BIG) : CM 18 [.c (.sl id0 g0 off0 n0), .c (.i n)] H (SeqO H ms n) := by
  cases hok : movesB n ms with
  | true =>
    refine (implSeq hw hb hok).mono ?_
    rintro _ ⟨Z, b, g, rfl, h1, h2, h3⟩
    exact ⟨_, Z, by rw [hok], h1, .inr ⟨b, g, by unfold seqX; rw [if_pos hok], h2, by unfold seqX; rw [if_pos hok]; exact h3⟩⟩
  | false =>
    refine cw18 ?_
    unfold vf18c
    simp [implMoves hw hb, hok]
    exact ⟨.ns, H, by rw [hok]; exact gcRet_flat (Pre.refl _) rfl, Pre.refl _, .inl ⟨rfl, by unfold seqX; rw [hok]; simp⟩⟩
def SeqS (H : Hp) (ms : List ArmR) (n : Int) (r : IV × Hp) : Prop := ∃ w Z, r = (.tup [(false, [w]), (false, [.b (movesB n ms)])], Z) ∧ Pre H Z ∧ Arms Z w (seqX n ms)
theorem specSeqX {H : Hp} {w : CV} {ms : List ArmR} {n : Int} (hw : Arms H w ms) (hb : ms.length ≤ BIG) : CM 19 [.c w, .c (.i n)] H (SeqS H ms n) := by
  refine cw19 ?_
  unfold vf19c
  cases hok : movesB n ms with
  | true =>
    simp [specMoves hw hb, hok]
    refine (specSeq0 hw hok).mono ?_
    rintro _ ⟨Z, b, g, rfl, h1, h3⟩
    simp [gc_tup3 (w := .sl b g 0 (seqF n 60 (leftM idM ms ms.length) []).length) rfl]
    exact ⟨_, Z, by rw [hok], h1, by unfold seqX; rw [if_pos hok]; exact h3.row⟩
  | false =>
    simp [specMoves hw hb, hok, gc_tup3 (w := .sl H.length 0 0 0) rfl]
    refine ⟨_, _, by rw [hok], ⟨_, rfl⟩, ?_⟩
    have e : seqX n ms = [] := by unfold seqX; rw [hok]; simp
    rw [e]
    have hm : MvO (H ++ [(⟨[], 0, true, 2⟩ : Ob)]) H.length 0 [] [] := by show rdOb _ _ _ = _; simp
    exact hm.row
theorem sequenceX_law {H : Hp} {w : CV} {ms : List ArmR} {n : Int} (hw : Arms H w ms) (hm : ms.length ≤ maxLen) : CM 12 [.c w, .c (.i n)] H fun r => r.1 = .c (.b true) := by
  refine cw12 ?_
  unfold vf12c
  simp [szMoveS_call hw.lenOf hm]
  by_cases h : 1048576 < ms.length
  · simp [h]
  have hB : ms.length ≤ BIG := by simp only [BIG]; omega
  have h2 : ¬ ((1048576 : Int) - (ms.length : Int) < 0) := by omega
  simp [h, h2]
  have hF := seqX_le n ms
  have arm : ∀ (lo : Nat) (X : Hp) (cs : List CV) (a : ArmR), a ∈ ms → armO lo X cs a → armP X cs a := fun _ _ _ _ _ h => h
  refine (toMoveS_call hw hB).mono ?_
  rintro _ ⟨w1, L1, rfl, ho1⟩
  have r1 := ho1.row (P' := armP) (arm _ _)
  obtain ⟨X1, hX1⟩ : ∃ X1, H ++ L1 = X1 := ⟨_, rfl⟩
  have p1 : Pre H X1 := ⟨_, hX1.symm⟩
  rw [hX1] at r1 ⊢
  simp
  refine (specSeqX r1 hB).mono ?_
  rintro _ ⟨w3, X3, rfl, p2, r3⟩
  have pH3 := p1.trans p2
  simp
  refine (toMoveS_call (Row.pre (fun _ _ => armP.pre) pH3 hw) hB).mono ?_
  rintro _ ⟨w4, L4, rfl, ho4⟩
  have r4 := ho4.row (P' := armP) (arm _ _)
  have m4 := ho4.ownM
  obtain ⟨X4, hX4⟩ : ∃ X4, X3 ++ L4 = X4 := ⟨_, rfl⟩
  have p4 : Pre X3 X4 := ⟨_, hX4.symm⟩
  have hw4 : ∃ j, w4 = .sl j 0 0 ms.length ∧ X3.length ≤ j ∧ j < X4.length := by
    obtain ⟨j, css, q1, q2, q3, _⟩ := ho4
    rw [hX4] at q3
    exact ⟨j, q1, q2, rdOb_lt q3⟩
  obtain ⟨j, rfl, hj1, hj2⟩ := hw4
  rw [hX4] at r4 m4 ⊢
  simp
  refine (implSeqX r4 hB).mono ?_
  rintro _ ⟨w6, X6, rfl, p6, o6⟩
  have p36 := p4.trans p6
  simp [eqMoveS_call o6.row (Row.pre (fun _ _ => armP.pre) p36 r3) hF]
  refine (toMoveS_call (Row.pre (fun _ _ => armP.pre) (pH3.trans p36) hw) hB).mono ?_
  rintro _ ⟨w7, L7, rfl, ho7⟩
  have r7 := ho7.row (P' := armP) (arm _ _)
  obtain ⟨X7, hX7⟩ : ∃ X7, X6 ++ L7 = X7 := ⟨_, rfl⟩
  have p7 : Pre X6 X7 := ⟨_, hX7.symm⟩
  rw [hX7] at r7 ⊢
  have m4' := m4.keep (Z := X7) fun _ _ _ _ h => (p6.trans p7).rdOb h
  have o6' := o6.keep (Z := X7) fun _ _ _ _ h => p7.rdOb h
  obtain ⟨Z1, e1, hl1, hz1, _⟩ := markMoveS_x m4' hB
  have ne1 : ∀ id, (id < X3.length ∨ X4.length ≤ id) → ∀ n, (CV.sl j 0 0 ms.length) ≠ .sl id 0 0 n := fun id hd n hh => by injection hh; omega
  have o6z := o6'.keep (Z := Z1) fun id g o hi ho => hz1 id g o (ne1 id (.inr hi)) ho
  have lo1 : Low X3.length X7 Z1 := fun id g o hi ho => hz1 id g o (ne1 id (.inl hi)) ho
  have pz1 : Pre X3 Z1 := lo1.pre (p36.trans p7) (Nat.le_refl _)
  have hk : ¬ (1 + 2 * (ms.length : Int) < 0) := by omega
  obtain ⟨Z3, e3, hl3, hlow3, o6y⟩ := markMoveS_o o6z hF
  have pz3 : Pre X3 Z3 := hlow3.pre pz1 p4.le
  have hk1 : ¬ (1 + 2 * ((seqX n ms).length : Int) < 0) := by omega
  have hF2 : (seqX n ms).length ≤ BIG := hF
  simp [eqMoveS_call (Row.pre (fun _ _ => armP.pre) (p6.trans p7) r4) r7 hB, e1, hk, eqMoveS_call o6z.row (Row.pre (fun _ _ => armP.pre) pz1 r3) hF, e3, heldMoveS_call o6y.row hF2, hk1]
  refine (toMoveS_call (Row.pre (fun _ _ => armP.pre) (pH3.trans pz3) hw) hB).mono ?_
  rintro _ ⟨w9, L9, rfl, ho9⟩
  have r9 := ho9.row (P' := armP) (arm _ _)
  obtain ⟨j9, rfl⟩ := ho9.sl
  obtain ⟨X9, hX9⟩ : ∃ X9, Z3 ++ L9 = X9 := ⟨_, rfl⟩
  have p9 : Pre Z3 X9 := ⟨_, hX9.symm⟩
  rw [hX9] at r9 ⊢
  simp
  refine (implSeqX r9 hB).mono ?_
  rintro _ ⟨w10, X10, rfl, p10, o10⟩
  have o6x := o6y.keep (Z := X10) fun _ _ _ _ h => (p9.trans p10).rdOb h
  simp [eqMoveS_call o10.row (Row.pre (fun _ _ => armP.pre) (pz3.trans (p9.trans p10)) r3) hF, heldMoveS_call o6x.row hF2, hk1]
end Go.Proofs.Ytnpbldjbfkpbcaa.Vm
end
