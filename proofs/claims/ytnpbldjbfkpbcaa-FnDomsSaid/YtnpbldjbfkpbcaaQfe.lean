import Derived.Test.YtnpbldjbfkpbcaaQfd
section
/- Who stands on every way to whom: the law, exactly. No conditions. -/
namespace Go.Proofs.Ytnpbldjbfkpbcaa.Vm
open Go.RowKit (wrap64)
set_option linter.unusedSimpArgs false
set_option linter.unusedVariables false

def OwnRows (lo : Nat) (w : CV) (n : Nat) (g : Nat → List Int) (X : Hp) : Prop := (w = .ns ∧ n = 0) ∨ ∃ d, w = .sl d 0 0 n ∧ DInv (fun id => id < lo) d n g X
theorem OwnRows.rowsI {lo : Nat} {w : CV} {n : Nat} {g : Nat → List Int} {X : Hp} (h : OwnRows lo w n g X) : RowsI X w n g := by
  rcases h with ⟨rfl, rfl⟩ | ⟨d, rfl, h⟩
  · exact ⟨rfl, fun b hb => absurd hb (by omega)⟩
  · exact h.rowsI
theorem DInv.keepHi {lo d n : Nat} {f : Nat → List Int} {Y Z : Hp} (h : DInv (fun id => id < lo) d n f Y) (hl : Y.length ≤ Z.length) (hk : ∀ id g o, lo ≤ id → rdOb Y id g = some o → rdOb Z id g = some o) : DInv (fun id => id < lo) d n f Z := by
  obtain ⟨h1, cells, h2, h3, h4⟩ := h
  have hd : lo ≤ d := by
    by_cases hlt : d < lo
    · exact absurd rfl (h1 d hlt).1
    · omega
  refine ⟨fun id hi => ⟨(h1 id hi).1, by have := (h1 id hi).2; omega⟩, cells, hk _ _ _ hd h2, h3, fun b hb => ?_⟩
  obtain ⟨c, a1, a2, a3, a4⟩ := h4 b hb
  exact ⟨c, a1, a2.keep fun id g o hi ho => hk _ _ _ (by have := (a3 id hi).1; omega) ho, a3, a4⟩
theorem OwnRows.keep {lo : Nat} {w : CV} {n : Nat} {g : Nat → List Int} {Y Z : Hp} (h : OwnRows lo w n g Y) (hl : Y.length ≤ Z.length) (hk : ∀ id g o, lo ≤ id → rdOb Y id g = some o → rdOb Z id g = some o) : OwnRows lo w n g Z := by
  rcases h with h | ⟨d, rfl, h⟩
  · exact .inl h
  · exact .inr ⟨d, rfl, h.keepHi hl hk⟩
def domN (f : FnR) : Nat := if shapeB f = true then f.blocks.length else 0
theorem implDomsX {H : Hp} {v : CV} {f : FnR} (hv : Blocks H v f.blocks) (hb : f.blocks.length ≤ BIG) : CM 46 [.agg [v, .i f.values]] H fun r => ∃ w X', r = (.c w, X') ∧ Pre H X' ∧ OwnRows H.length w (domN f) (domF f.blocks) X' := by
  cases hs : shapeB f with
  | false =>
    rw [implDoms_no hv hb hs]
    exact ⟨_, _, rfl, Pre.refl _, .inl ⟨rfl, by simp [domN, hs]⟩⟩
  | true =>
    refine (implDomsOwn (m := f.values) hv hb hs).mono ?_
    rintro _ ⟨d, X', rfl, hp, hD⟩
    refine ⟨_, _, rfl, hp, .inr ⟨d, by simp [domN, hs], by simpa [domN, hs] using hD⟩⟩
theorem specDomsX {H : Hp} {v : CV} {f : FnR} (hv : Blocks H v f.blocks) (hb : f.blocks.length ≤ BIG) : CM 47 [.agg [v, .i f.values]] H fun r => ∃ w X', r = (.c w, X') ∧ Pre H X' ∧ RowsI X' w (domN f) (domF f.blocks) := by
  refine cw47 ?_
  unfold vf47c
  cases hs : shapeB f with
  | false =>
    simp [specShape (hv.app _) hb, hs]
    rw [gcRet_row ⟨_, rfl⟩ (by simp) (o := ⟨[], 0, true, 1⟩) (by simp) rfl (by simp)]
    exact ⟨_, _, rfl, ⟨_, rfl⟩, by simp [domN, hs]; exact ⟨rfl, fun b hb => absurd hb (by omega)⟩⟩
  | true =>
    simp [specShape (hv.app _) hb, hs]
    refine (specDoms (m := f.values) (hv.app _) (shape_range hs) hb (shape_pos hs)).mono ?_
    rintro _ ⟨d, X, cells, rfl, hp, h1, h2, h3⟩
    have hpH : Pre H X := Pre.trans ⟨_, rfl⟩ hp
    obtain ⟨w, X', e1, e2, e3⟩ := gcRows hpH h1 h2 h3
    simp [e1]
    exact ⟨_, _, ⟨rfl, rfl⟩, e2, by simpa [domN, hs] using e3⟩
theorem markRows {lo : Nat} {w : CV} {n : Nat} {g : Nat → List Int} {Y : Hp} (h : OwnRows lo w n g Y) (hn : n ≤ BIG) (hf : ∀ b, b < n → (g b).length ≤ BIG) :
    CM 70 [.c w, .c (.i 1)] Y fun r => ∃ Z, r = (.c (.i (1 + (sumTo g n : Int))), Z) ∧ Z.length = Y.length ∧ Low lo Y Z ∧ OwnRows lo w n (mks g) Z := by
  rcases h with ⟨rfl, rfl⟩ | ⟨d, rfl, h⟩
  · refine cw70 ?_
    unfold vf70c
    simp
    refine wp_for CM_mono 0 (fun i s => s.h = Y ∧ Env.get s.e 0 = .c .ns ∧ Env.get s.e 1 = .c (.i 1) ∧ Env.get s.e 5 = .c (.i i)) (by simp) (fun i s h => absurd h (by omega)) ?_
    rintro ⟨e, X⟩ ⟨rfl, h0, h1, h5⟩
    simp only at h0 h1 h5 ⊢
    unfold vf70b0
    simp [h0, h1, h5]
    exact ⟨X, ⟨by simp [sumTo], rfl⟩, rfl, fun _ _ _ _ h => h, .inl ⟨rfl, rfl⟩⟩
  · refine (markIntSS_call h hn hf).mono ?_
    rintro _ ⟨Z, rfl, e1, e2, e3⟩
    exact ⟨Z, rfl, e1, e2, .inr ⟨d, rfl, e3⟩⟩
theorem domN_le (f : FnR) (hb : f.blocks.length ≤ BIG) : domN f ≤ BIG := by unfold domN; split <;> omega
theorem domsX_law {H : Hp} {cs : List CV} {f : FnR} (hf : fnP maxLen H cs f) : CM 14 [.agg cs] H fun r => r.1 = .c (.b true) := by
  obtain ⟨z, rfl, hz⟩ := id hf
  refine cw14 ?_
  unfold vf14c
  obtain ⟨X1, hX1⟩ : ∃ X1, H ++ [(⟨[z, .i f.values], 0, true, 2⟩ : Ob)] = X1 := ⟨_, rfl⟩
  have hp1 : Pre H X1 := ⟨_, hX1.symm⟩
  have hb1 : rdOb X1 H.length 0 = some ⟨[z, .i f.values], 0, true, 2⟩ := by rw [← hX1]; simp
  have hf1 := hf.pre hp1
  simp [hX1, rdN_ob hb1, szFn_call hf1]
  by_cases hs : szFnF f 1048576 < 0
  · simp [hs]
  · have hS := sz_small (Int.not_lt.1 hs)
    have hN := domN_le f hS.1
    have hF : ∀ b, b < domN f → (domF f.blocks b).length ≤ BIG := fun b _ => domF_le hS.1 b
    have hlt : ¬ (1 + (sumTo (domF f.blocks) (domN f) : Int) < 0) := by omega
    simp [hs, rdN_ob hb1]
    refine (toFn_call _ (hf1.small hS)).mono ?_
    rintro _ ⟨c1, L1, rfl, ho1⟩
    obtain ⟨z1, rfl, h1, _⟩ := ho1.p hS
    obtain ⟨X2, hX2⟩ : ∃ X2, X1 ++ L1 = X2 := ⟨_, rfl⟩
    have hp2 : Pre X1 X2 := ⟨_, hX2.symm⟩
    rw [hX2] at h1 ⊢
    simp
    refine (specDomsX h1 hS.1).mono ?_
    rintro _ ⟨w3, X3, rfl, hp3, hw3⟩
    have hb3 := (hp2.trans hp3).rdOb hb1
    simp [rdN_ob hb3]
    refine (toFn_call _ ((hf1.pre (hp2.trans hp3)).small hS)).mono ?_
    rintro _ ⟨c2, L2, rfl, ho2⟩
    have hm2 := ho2.m hS
    obtain ⟨z2, rfl, h2, _⟩ := ho2.p hS
    obtain ⟨X4, hX4⟩ : ∃ X4, X3 ++ L2 = X4 := ⟨_, rfl⟩
    have hp4 : Pre X3 X4 := ⟨_, hX4.symm⟩
    rw [hX4] at h2 hm2 ⊢
    obtain ⟨X5, hX5⟩ : ∃ X5, X4 ++ [(⟨[z2, .i f.values], 0, true, 2⟩ : Ob)] = X5 := ⟨_, rfl⟩
    have hp5 : Pre X4 X5 := ⟨_, hX5.symm⟩
    have h5 : rdOb X5 X4.length 0 = some ⟨[z2, .i f.values], 0, true, 2⟩ := by rw [← hX5]; simp
    have h2' := Blocks.pre hp5 h2
    simp [putAt, hX5, rdN_ob h5]
    refine (implDomsX h2' hS.1).mono ?_
    rintro _ ⟨w6, X6, rfl, hp6, hg6⟩
    have hp36 := hp4.trans (hp5.trans hp6)
    have hb6 := hp36.rdOb hb3
    have h6 := hp6.rdOb h5
    simp [eqIntSS_call hg6.rowsI (hw3.pre hp36) hN hF, rdN_ob h6, rdN_ob hb6]
    refine (toFn_call _ ((hf1.pre (hp2.trans (hp3.trans hp36))).small hS)).mono ?_
    rintro _ ⟨c3, L3, rfl, ho3⟩
    obtain ⟨z3, rfl, h3, _⟩ := ho3.p hS
    obtain ⟨X7, hX7⟩ : ∃ X7, X6 ++ L3 = X7 := ⟨_, rfl⟩
    have hp7 : Pre X6 X7 := ⟨_, hX7.symm⟩
    rw [hX7] at h3 ⊢
    have h7 := hp7.rdOb h6
    have hb7 := hp7.rdOb hb6
    simp [eqFn_call _ (a := f) (b := f) ⟨_, rfl, Blocks.pre hp7 (Blocks.pre hp6 h2'), hS.1⟩ ⟨_, rfl, h3, hS.1⟩, h7, h6, rdN_ob h7]
    obtain ⟨G7, hG7⟩ : ∃ G, X7 = X4 ++ G := hp5.trans (hp6.trans hp7)
    have hm7 := hm2.app G7
    rw [← hG7] at hm7
    refine (markFn_weak hm7 (hp5.trans (hp6.trans hp7)).le hp4.le).mono ?_
    rintro _ ⟨k, Z, L4, rfl, hk, hZ⟩
    have hg7 := hg6.keep (Z := X7) hp7.le fun _ _ _ _ h => hp7.rdOb h
    have hZl : X7.length ≤ (Z ++ L4).length := by have := hZ.len; simp; omega
    have hgZ := hg7.keep (Z := Z ++ L4) hZl fun id g o hl ho => rdOb_app _ (hZ.out id g o (.inr (Nat.le_trans hp5.le hl)) ho)
    have hp37 := hp36.trans hp7
    have hpZ : Pre X3 (Z ++ L4) := (hZ.low.pre hp37 (Nat.le_refl _)).app L4
    obtain ⟨Y1, hY1⟩ : ∃ Y1, Z ++ L4 = Y1 := ⟨_, rfl⟩
    rw [hY1] at hgZ hpZ ⊢
    simp [show ¬ k < 0 by omega, eqIntSS_call hgZ.rowsI (hw3.pre hpZ) hN hF]
    refine (markRows hgZ hN hF).mono ?_
    rintro _ ⟨Y2, rfl, _, hlow, hg2⟩
    have hpY2 : Pre X3 Y2 := hlow.pre hpZ (hp4.trans hp5).le
    have hbY := hpY2.rdOb hb3
    simp [heldIntSS_call hg2.rowsI hN hF, hlt, rdN_ob hbY]
    refine (toFn_call _ ((hf1.pre (hp2.trans (hp3.trans hpY2))).small hS)).mono ?_
    rintro _ ⟨c5, L5, rfl, ho5⟩
    obtain ⟨z5, rfl, h5', _⟩ := ho5.p hS
    obtain ⟨Y3, hY3⟩ : ∃ Y3, Y2 ++ L5 = Y3 := ⟨_, rfl⟩
    have hpY3 : Pre Y2 Y3 := ⟨_, hY3.symm⟩
    rw [hY3] at h5' ⊢
    simp
    refine (implDomsX h5' hS.1).mono ?_
    rintro _ ⟨w8, Y4, rfl, hpY4, hh4⟩
    have hg4 := hg2.keep (Z := Y4) (hpY3.trans hpY4).le fun _ _ _ _ h => (hpY3.trans hpY4).rdOb h
    simp [eqIntSS_call hh4.rowsI (hw3.pre (hpY2.trans (hpY3.trans hpY4))) hN hF, heldIntSS_call hg4.rowsI hN hF, hlt]
end Go.Proofs.Ytnpbldjbfkpbcaa.Vm
end
