import Derived.Test.YtnapgdlfeadhaaaQua
import Derived.Test.YtnapgdlfeadhaaaQy
section
/- The law of critical edges. No conditions. -/
namespace Go.Proofs.Ytnapgdlfeadhaaa.Vm
open Go.RowKit (wrap64)
set_option linter.unusedSimpArgs false
set_option linter.unusedVariables false

theorem crit0_mem {f : FnR} {a : ArmR} (h : a ∈ crit0 f) : shapeB f = true ∧ ∃ i k : Nat, a = ⟨i, k⟩ ∧ i < f.blocks.length ∧ k < f.blocks.length ∧ (k : Int) ∈ succsAt f.blocks i ∧ (succsAt f.blocks i).length = 2 ∧ hot f.blocks k = true := by
  cases hsh : shapeB f with
  | false => unfold crit0 at h; rw [hsh] at h; simp at h
  | true =>
    unfold crit0 at h
    rw [if_pos hsh] at h
    unfold critTo at h
    rw [List.mem_flatMap] at h
    obtain ⟨i, hi, h⟩ := h
    rw [List.mem_range] at hi
    unfold critAt at h
    by_cases h2 : 1 < (succsAt f.blocks i).length
    · rw [if_pos h2] at h
      unfold critIn at h
      rw [List.take_length, List.mem_map] at h
      obtain ⟨k, hk, rfl⟩ := h
      rw [List.mem_filter] at hk
      have hr := shape_range hsh i k hk.1
      have h3 := succsAt_two f.blocks i
      refine ⟨rfl, i, k.toNat, by rw [Int.toNat_of_nonneg hr.1], hi, by omega, by rw [Int.toNat_of_nonneg hr.1]; exact hk.1, by omega, by rw [Int.toNat_of_nonneg hr.1]; exact hk.2⟩
    · rw [if_neg h2] at h; cases h
theorem arm_at {X : Hp} {w : CV} {xs : List ArmR} (h : Arms X w xs) {k : Nat} (hk : k < xs.length) : ∃ id g off, idxOf 2 w (k : Int) = some (.p id g off) ∧ rdN X id g off 2 = some [.i xs[k].fr, .i xs[k].v] ∧ id < X.length := by
  obtain ⟨id, g, off, h1, ⟨_, _, h2⟩, _, _, h3⟩ := Arms.get h hk
  exact ⟨id, g, off, h1, h2, h3⟩
set_option maxRecDepth 100000 in
theorem critical_law {H : Hp} {v : CV} {xs : List Int} (hv : IsB H v xs) : CM 3 [.c v] H Tru := by
  refine cw3 ?_
  unfold vf3c
  by_cases hbig : 1048576 < xs.length
  · simp [big_call hv.lenOf, hbig]
  have hb : xs.length ≤ BIG := by simp only [BIG]; omega
  simp [big_call hv.lenOf, hbig]
  refine (drawCritical_call hv hb).mono ?_
  rintro _ ⟨X, w, m, bs, rfl, hfl, hp, hB, hbl, h0⟩
  obtain ⟨X1, hX1⟩ : ∃ X1, X ++ [(⟨[w, .i m], 0, true, 2⟩ : Ob)] = X1 := ⟨_, rfl⟩
  have hB1 : Blocks X1 w bs := by rw [← hX1]; exact hB.app _
  have hF1 : rdOb X1 X.length 0 = some ⟨[w, .i m], 0, true, 2⟩ := by rw [← hX1]; simp
  obtain ⟨f, hf⟩ : ∃ f : FnR, f = ⟨bs, m⟩ := ⟨_, rfl⟩
  obtain rfl : bs = f.blocks := by rw [hf]
  obtain rfl : m = f.values := by rw [hf]
  clear hf
  obtain ⟨w4, L4, hw4, e4⟩ := implCrit0 (f := f) hB1 hbl
  obtain ⟨X2, hX2⟩ : ∃ X2, X1 ++ L4 = X2 := ⟨_, rfl⟩
  have hp2 : Pre X1 X2 := ⟨_, hX2.symm⟩
  have hA2 : Arms X2 w4 (crit0 f) := by have := hw4.isE; rw [hX2] at this; exact this
  obtain ⟨w5, L5, hw5, e5⟩ := specCrit0 (f := f) (hB1.pre hp2) hbl
  obtain ⟨X3, hX3⟩ : ∃ X3, X2 ++ L5 = X3 := ⟨_, rfl⟩
  have hp3 : Pre X2 X3 := ⟨_, hX3.symm⟩
  have hC3 : Arms X3 w5 (crit0 f) := by have := hw5.isE; rw [hX3] at this; exact this
  have hA3 := Arms.pre hp3 hA2
  have hF3 := (hp2.trans hp3).rdOb hF1
  have hB3 := hB1.pre (hp2.trans hp3)
  have hle := crit0_small (f := f)
  have hwform : ∃ d g n, w = .sl d g 0 n ∨ True := ⟨0, 0, 0, .inr trivial⟩
  have hcw : cellsOf (.c w) = some [w] := by
    cases w <;> simp [flatC] at hfl <;> rfl
  simp [putD0', hX1, rdN_ob hF1, e4, hX2, rdN_ob (hp2.rdOb hF1), e5, hX3, hA3.lenOf, hC3.lenOf]
  obtain ⟨I, hI⟩ : ∃ I : Nat → St → Prop, ∀ i st, I i st ↔ (Pre X3 st.h ∧ Env.get st.e 3 = .c (.p X.length 0 0) ∧ Env.get st.e 4 = .c w4 ∧ Env.get st.e 5 = .c w5 ∧ Env.get st.e 6 = .c (.i i)) := ⟨_, fun _ _ => Iff.rfl⟩
  refine wp_for CM_mono (crit0 f).length I ((hI _ _).2 ⟨Pre.refl _, by simp⟩) ?_ ?_
  · rintro i ⟨e, Y⟩ hi hIs
    obtain ⟨hY, E3, E4, E5, E6⟩ := (hI _ _).1 hIs
    simp only at hY E3 E4 E5 E6 ⊢
    obtain ⟨hsh, a, b, hab, ha, hbb, hmem, hlen, hhot⟩ := crit0_mem (List.getElem_mem hi)
    obtain ⟨id1, g1, off1, q1, q2, q3⟩ := arm_at (Arms.pre hY hA3) hi
    rw [hab] at q2
    simp only at q2
    obtain ⟨Y1, hY1⟩ : ∃ Y1, Y ++ [(⟨[.i a, .i b], 0, true, 2⟩ : Ob)] = Y1 := ⟨_, rfl⟩
    have hpY1 : Pre Y Y1 := ⟨_, hY1.symm⟩
    have hY1' := hY.trans hpY1
    have h7 : rdOb Y1 Y.length 0 = some ⟨[.i a, .i b], 0, true, 2⟩ := by rw [← hY1]; simp
    obtain ⟨id2, g2, off2, r1, r2, r3⟩ := arm_at (Arms.pre hY1' hC3) hi
    rw [hab] at r2
    simp only at r2
    obtain ⟨wS, LS, hS, eS⟩ := implSuccs0 (f := f) (b := (a : Int)) (hB3.pre hY1') hbl
    rw [succs0_at hsh ha] at hS
    obtain ⟨Y2, hY2⟩ : ∃ Y2, Y1 ++ LS = Y2 := ⟨_, rfl⟩
    have hpY2 : Pre Y1 Y2 := ⟨_, hY2.symm⟩
    have hl2 : lenOf wS = some 2 := by have := hS.len; rw [hlen] at this; exact this
    have h72 := hpY2.rdOb h7
    have hF2' := (hY1'.trans hpY2).rdOb hF3
    obtain ⟨wT, LT, hT, eT⟩ := implSuccs0 (f := f) (b := (a : Int)) (hB3.pre (hY1'.trans hpY2)) hbl
    rw [succs0_at hsh ha] at hT
    obtain ⟨Y3, hY3⟩ : ∃ Y3, Y2 ++ LT = Y3 := ⟨_, rfl⟩
    have hpY3 : Pre Y2 Y3 := ⟨_, hY3.symm⟩
    have hTI := hT.isI
    rw [hY3] at hTI
    have h73 := hpY3.rdOb h72
    have hF3' := hpY3.rdOb hF2'
    have hk7 : rdOb Y3 Y.length 0 = rdOb Y2 Y.length 0 := by rw [h73, h72]
    have hw : hasI (succsAt f.blocks a) b = true := hasI_iff.2 hmem
    obtain ⟨wP, LP, hP, eP⟩ := implPreds0 (f := f) (b := (b : Int)) (hB3.pre ((hY1'.trans hpY2).trans hpY3)) hbl
    rw [preds0_at hsh hbb] at hP
    obtain ⟨Y4, hY4⟩ : ∃ Y4, Y3 ++ LP = Y4 := ⟨_, rfl⟩
    have hpY4 : Pre Y3 Y4 := ⟨_, hY4.symm⟩
    have hlP : lenOf wP = some (predsF f.blocks b).length := hP.len
    have h74 := hpY4.rdOb h73
    have hF4' := hpY4.rdOb hF3'
    have hp4 := (((hY1'.trans hpY2).trans hpY3).trans hpY4)
    obtain ⟨i0, g0, off0, wp, wu, s1, s2, _, sp, _⟩ := Blocks.get (hB3.pre hp4) hbb
    have hpl := sp.lenOf
    have heq : (decide ([CV.i a, CV.i b] = [CV.i a, CV.i b]) != true) = false := by simp
    unfold vf3b0
    by_cases hpr : 1 < (predsF f.blocks b).length
    · have hn2 : ¬ (((predsF f.blocks b).length : Int) < 2) := by omega
      simp [E3, E4, E5, E6, (Arms.pre hY hA3).lenOf, hi, q1, q2, put22, hY1, rdN_ob h7, r1, r2, allInt, rdN_ob (hY1'.rdOb hF3), rdC_ob h7, eS, hY2, hl2, rdN_ob hF2', rdC_ob h72, eT, hY3, hk7, rdC_ob h73, within_call hTI (succsAt_le _ _), hw, rdN_ob hF3', eP, hY4, hlP, hn2, up1 hi hle]
      exact (hI _ _).2 ⟨hp4, by simp [E3, E4, E5]⟩
    · have hn2 : (((predsF f.blocks b).length : Int) < 2) := by omega
      have hph : ¬ (f.blocks[b].phis.length = 0) := by
        unfold hot at hhot
        rw [decide_eq_false hpr, Bool.false_or, decide_eq_true_eq] at hhot
        unfold phisAt at hhot
        rw [Int.toNat_natCast, List.getElem?_eq_getElem hbb] at hhot
        simp only at hhot
        omega
      have hph' : ¬ ((f.blocks[b].phis.length : Int) = 0) := by omega
      have hph'' : ¬ f.blocks[b].phis = [] := fun h => hph (by rw [h]; rfl)
      simp [E3, E4, E5, E6, (Arms.pre hY hA3).lenOf, hi, q1, q2, put22, hY1, rdN_ob h7, r1, r2, allInt, rdN_ob (hY1'.rdOb hF3), rdC_ob h7, eS, hY2, hl2, rdN_ob hF2', rdC_ob h72, eT, hY3, hk7, rdC_ob h73, within_call hTI (succsAt_le _ _), hw, rdN_ob hF3', eP, hY4, hlP, hn2, rdC_ob hF4', rdC_ob h74, s1, s2.1, hpl, hph', hph'', up1 hi hle]
      exact (hI _ _).2 ⟨hp4, by simp [E3, E4, E5]⟩
  · rintro ⟨e, Y⟩ hIs
    obtain ⟨hY, E3, E4, E5, E6⟩ := (hI _ _).1 hIs
    simp only at hY E3 E4 E5 E6 ⊢
    have hlA := (Arms.pre hY hA3).lenOf
    unfold vf3b0
    cases hsh : shapeB f with
    | true => simp [E3, E4, E5, E6, hlA, rdN_ob (hY.rdOb hF3), specShape (hB3.pre hY) hbl, hsh]
    | false =>
      have h0 : crit0 f = [] := by unfold crit0; rw [hsh]; simp
      rw [h0] at hlA E6
      have hlA' : lenOf w4 = some 0 := hlA
      simp [E3, E4, E5, E6, hlA', rdN_ob (hY.rdOb hF3), specShape (hB3.pre hY) hbl, hsh]
end Go.Proofs.Ytnapgdlfeadhaaa.Vm
end
