import Derived.Test.YtgdfgnppeekfjaaGreatP11
import Derived.Test.YtgdfgnppeekfjaaGreatP1
section
/- The exact law of Lower. No conditions. -/
namespace Go.Proofs.YtgdfgnppeekfjaaGreat.Vm
open Go.RowKit (wrap64)
set_option linter.unusedSimpArgs false
set_option linter.unusedVariables false
set_option maxRecDepth 100000 in
theorem lowerX_law {H : Hp} {cs : List CV} {f : FnR} (hf : fnP maxLen H cs f) : CM 15 [.agg cs] H fun r => r.1 = .c (.b true) := by
  obtain ⟨z, rfl, hz⟩ := id hf
  refine cw15 ?_
  unfold vf15c
  obtain ⟨X1, hX1⟩ : ∃ X1, H ++ [(⟨[z, .i f.values], 0, true, 2⟩ : Ob)] = X1 := ⟨_, rfl⟩
  have hp1 : Pre H X1 := ⟨_, hX1.symm⟩
  have hb1 : rdOb X1 H.length 0 = some ⟨[z, .i f.values], 0, true, 2⟩ := by rw [← hX1]; simp
  have hf1 := hf.pre hp1
  simp [hX1, rdN_ob hb1, szFn_call hf1]
  by_cases hs : szFnF f 1048576 < 0
  · simp [hs]
  · have hS := sz_small (Int.not_lt.1 hs)
    obtain ⟨d, hd⟩ : ∃ d, lower0 f = d := ⟨_, rfl⟩
    obtain ⟨ok, hok⟩ : ∃ ok, lowerOk f = ok := ⟨_, rfl⟩
    have hle : d.blocks.length ≤ BIG := by rw [← hd]; exact lower0_le hS.1
    simp [hs, rdN_ob hb1]
    refine (toFn_call _ (hf1.small hS)).mono ?_
    rintro _ ⟨c1, L1, rfl, ho1⟩
    obtain ⟨z1, rfl, h1, _⟩ := ho1.p hS
    obtain ⟨X2, hX2⟩ : ∃ X2, X1 ++ L1 = X2 := ⟨_, rfl⟩
    have hp2 : Pre X1 X2 := ⟨_, hX2.symm⟩
    rw [hX2] at h1 ⊢
    simp
    refine (specLower h1 hS.1).mono ?_
    rw [hd, hok]
    rintro _ ⟨w0, L2, rfl, hw0⟩
    obtain ⟨X3, hX3⟩ : ∃ X3, X2 ++ L2 = X3 := ⟨_, rfl⟩
    have hp3 : Pre X2 X3 := ⟨_, hX3.symm⟩
    rw [hX3] at hw0 ⊢
    obtain ⟨X4, hX4⟩ : ∃ X4, X3 ++ [(⟨[w0, .i d.values], 0, true, 2⟩ : Ob)] = X4 := ⟨_, rfl⟩
    have hp4 : Pre X3 X4 := ⟨_, hX4.symm⟩
    have l4 : X4.length = X3.length + 1 := by rw [← hX4]; simp
    have hW4 : Blocks X4 w0 d.blocks := (Tree.blocks hw0).pre hp4
    have hw4 : rdOb X4 X3.length 0 = some ⟨[w0, .i d.values], 0, true, 2⟩ := by rw [← hX4]; simp
    have hb4 := (hp2.trans (hp3.trans hp4)).rdOb hb1
    have hf4 := hf1.pre (hp2.trans (hp3.trans hp4))
    simp [putAt, hX4, rdN_ob hb4]
    refine (toFn_call _ (hf4.small hS)).mono ?_
    rintro _ ⟨c2, L3, rfl, ho2⟩
    have hm2 := ho2.m hS
    obtain ⟨z2, rfl, h2, _⟩ := ho2.p hS
    obtain ⟨X5, hX5⟩ : ∃ X5, X4 ++ L3 = X5 := ⟨_, rfl⟩
    have hp5 : Pre X4 X5 := ⟨_, hX5.symm⟩
    rw [hX5] at h2 hm2 ⊢
    obtain ⟨X6, hX6⟩ : ∃ X6, X5 ++ [(⟨[z2, .i f.values], 0, true, 2⟩ : Ob)] = X6 := ⟨_, rfl⟩
    have hp6 : Pre X5 X6 := ⟨_, hX6.symm⟩
    have hx6 : rdOb X6 X5.length 0 = some ⟨[z2, .i f.values], 0, true, 2⟩ := by rw [← hX6]; simp
    have h26 : Blocks X6 z2 f.blocks := Blocks.pre hp6 h2
    simp [putAt, hX6, rdN_ob hx6]
    refine (implLower h26 hS.1).mono ?_
    rw [hd, hok]
    rintro _ ⟨g0, L4, rfl, hg0⟩
    obtain ⟨X7, hX7⟩ : ∃ X7, X6 ++ L4 = X7 := ⟨_, rfl⟩
    have hp7 : Pre X6 X7 := ⟨_, hX7.symm⟩
    rw [hX7] at hg0 ⊢
    have hG7 : Tree (fun i => X6.length ≤ i ∧ i < X7.length) X7 g0 d.blocks := FRow.bound hg0
    obtain ⟨X8, hX8⟩ : ∃ X8, X7 ++ [(⟨[g0, .i d.values], 0, true, 2⟩ : Ob)] = X8 := ⟨_, rfl⟩
    have hp8 : Pre X7 X8 := ⟨_, hX8.symm⟩
    have l8 : X8.length = X7.length + 1 := by rw [← hX8]; simp
    have hg8 : rdOb X8 X7.length 0 = some ⟨[g0, .i d.values], 0, true, 2⟩ := by rw [← hX8]; simp
    have hG8 := hG7.fr blkF_st (Frm.pre hp8)
    have hp48 := hp5.trans (hp6.trans (hp7.trans hp8))
    have hw8 := hp48.rdOb hw4
    have hb8 := hp48.rdOb hb4
    have hx8 := (hp7.trans hp8).rdOb hx6
    have hf8 := hf4.pre hp48
    have hW8 := hW4.pre hp48
    simp [putAt, hX8, rdN_ob hg8, rdN_ob hw8, eqFn_call _ (a := d) (b := d) ⟨_, rfl, Tree.blocks hG8, hle⟩ ⟨_, rfl, hW8, hle⟩, rdN_ob hx8, rdN_ob hb8]
    refine (toFn_call _ (hf8.small hS)).mono ?_
    rintro _ ⟨c3, L5, rfl, ho3⟩
    obtain ⟨z3, rfl, h3, _⟩ := ho3.p hS
    obtain ⟨X9, hX9⟩ : ∃ X9, X8 ++ L5 = X9 := ⟨_, rfl⟩
    have hp9 : Pre X8 X9 := ⟨_, hX9.symm⟩
    rw [hX9] at h3 ⊢
    have hx9 := hp9.rdOb hx8
    have h29 : Blocks X9 z2 f.blocks := Blocks.pre ((hp7.trans hp8).trans hp9) h26
    simp [eqFn_call _ (a := f) (b := f) ⟨_, rfl, h29, hS.1⟩ ⟨_, rfl, h3, hS.1⟩, hx9, hx8, rdN_ob hx9]
    have hp59 := hp6.trans (hp7.trans (hp8.trans hp9))
    obtain ⟨G9, hG9⟩ : ∃ G, X9 = X5 ++ G := id hp59
    have hm9 := hm2.app G9
    rw [← hG9] at hm9
    refine (markFn_weak hm9 hp59.le hp5.le).mono ?_
    rintro _ ⟨k, Z, L6, rfl, hk, hZ⟩
    have hl5 := hp5.le
    have hl6 := hp6.le
    have hl7 := hp7.le
    have hl9 := hp9.le
    have hfrZ : ∀ id g o, (id < X4.length ∨ X5.length ≤ id) → rdOb X9 id g = some o → rdOb (Z ++ L6) id g = some o := fun id g o h ho => rdOb_app _ (hZ.out id g o h ho)
    have hFZ : Frm (fun i => X5.length ≤ i) X9 (Z ++ L6) := by
      intro i hi hG
      have h := hfrZ i _ _ (.inr hG) (rdOb_some.2 ⟨List.getElem?_eq_getElem hi, rfl⟩)
      rw [(rdOb_some.1 h).1, List.getElem?_eq_getElem hi]
    have hpZ : Pre X4 (Z ++ L6) := (hZ.low.pre (hp5.trans hp59) (Nat.le_refl _)).app L6
    obtain ⟨Y1, hY1⟩ : ∃ Y1, Z ++ L6 = Y1 := ⟨_, rfl⟩
    rw [hY1] at hfrZ hFZ hpZ ⊢
    have hgY := hfrZ _ _ _ (.inr (by omega)) (hp9.rdOb hg8)
    have hwY := hpZ.rdOb hw4
    have hbY := hpZ.rdOb hb4
    have hGY : Tree (fun i => X6.length ≤ i ∧ i < X7.length) Y1 g0 d.blocks := (hG8.fr blkF_st (Frm.pre hp9)).fr blkF_st (hFZ.mono fun i hi => by omega)
    have hWY := hW4.pre hpZ
    have hlY : X7.length ≤ Y1.length := by have := rdOb_lt hgY; omega
    simp [show ¬ k < 0 by omega, rdN_ob hgY, rdN_ob hwY, eqFn_call _ (a := d) (b := d) ⟨_, rfl, Tree.blocks hGY, hle⟩ ⟨_, rfl, hWY, hle⟩]
    refine (markFn_own hGY hle (fun i hi => by omega)).mono ?_
    rintro _ ⟨m, Z2, L7, ys, rfl, hm1, hm3, hZ2, hZl, hGZ, hyl, hhd⟩
    have hF2 : Frm (fun i => ¬ (X6.length ≤ i ∧ i < X7.length)) Y1 (Z2 ++ L7) := hZ2.trans (Frm.app _ _ _)
    have hpY2 : Pre X4 (Z2 ++ L7) := (hF2.mono fun i (hi : i < X4.length) => by omega).cut hpZ
    obtain ⟨Y2, hY2⟩ : ∃ Y2, Z2 ++ L7 = Y2 := ⟨_, rfl⟩
    rw [hY2] at hF2 hpY2 hGZ ⊢
    have hg2 := hF2.ob (by omega) hgY
    have hw2 := hpY2.rdOb hw4
    have hbY2 := hpY2.rdOb hb4
    have hym : ys.length ≤ BIG := by omega
    have hheld := fun H (hv : Blocks H g0 ys) => heldFn_at (n := d.values) hv hym hhd hm3
    simp [rdN_ob hg2, hheld _ (Tree.blocks hGZ), show ¬ m < 0 by omega, rdN_ob hbY2]
    refine (toFn_call _ ((hf4.pre hpY2).small hS)).mono ?_
    rintro _ ⟨c5, L8, rfl, ho5⟩
    obtain ⟨z5, rfl, h5, _⟩ := ho5.p hS
    obtain ⟨Y3, hY3⟩ : ∃ Y3, Y2 ++ L8 = Y3 := ⟨_, rfl⟩
    have hpY3 : Pre Y2 Y3 := ⟨_, hY3.symm⟩
    rw [hY3] at h5 ⊢
    simp
    refine (implLower h5 hS.1).mono ?_
    rw [hd, hok]
    rintro _ ⟨h0, L9, rfl, hh0⟩
    obtain ⟨Y4, hY4⟩ : ∃ Y4, Y3 ++ L9 = Y4 := ⟨_, rfl⟩
    have hpY4 : Pre Y3 Y4 := ⟨_, hY4.symm⟩
    rw [hY4] at hh0 ⊢
    obtain ⟨Y5, hY5⟩ : ∃ Y5, Y4 ++ [(⟨[h0, .i d.values], 0, true, 2⟩ : Ob)] = Y5 := ⟨_, rfl⟩
    have hpY5 : Pre Y4 Y5 := ⟨_, hY5.symm⟩
    have hh5 : rdOb Y5 Y4.length 0 = some ⟨[h0, .i d.values], 0, true, 2⟩ := by rw [← hY5]; simp
    have hp25 := hpY3.trans (hpY4.trans hpY5)
    have hg5 := hp25.rdOb hg2
    have hw5 := hp25.rdOb hw2
    simp [putAt, hY5, rdN_ob hh5, rdN_ob hw5, eqFn_call _ (a := d) (b := d) ⟨_, rfl, (Tree.blocks hh0).pre hpY5, hle⟩ ⟨_, rfl, hW4.pre (hpY2.trans hp25), hle⟩, rdN_ob hg5, hheld _ ((Tree.blocks hGZ).pre hp25), show ¬ m < 0 by omega]
end Go.Proofs.YtgdfgnppeekfjaaGreat.Vm
end
