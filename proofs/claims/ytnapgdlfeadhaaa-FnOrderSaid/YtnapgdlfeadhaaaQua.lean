import Derived.Test.YtnapgdlfeadhaaaQrr
section
/- The laws of who follows whom, and of the order. No conditions. -/
namespace Go.Proofs.Ytnapgdlfeadhaaa.Vm
open Go.RowKit (wrap64)
set_option linter.unusedSimpArgs false
set_option linter.unusedVariables false

theorem succs0_mem {f : FnR} {b s : Int} (h : s ∈ succs0 f b) : shapeB f = true ∧ ∃ k : Nat, b = k ∧ k < f.blocks.length ∧ s ∈ succsAt f.blocks k := by
  cases hr : rightB f b with
  | false => unfold succs0 at h; rw [hr] at h; simp at h
  | true =>
    obtain ⟨k, rfl, hk⟩ := right_nat hr
    have hsh : shapeB f = true := by unfold rightB at hr; rw [Bool.and_eq_true] at hr; exact hr.1
    rw [succs0_at hsh hk] at h
    exact ⟨hsh, k, rfl, hk, h⟩
theorem preds0_at {f : FnR} (hsh : shapeB f = true) {b : Nat} (hb : b < f.blocks.length) : preds0 f b = predsF f.blocks b := by
  unfold preds0
  rw [if_pos (by unfold rightB inB; rw [hsh]; simp; omega)]
theorem preds0_mem {f : FnR} {b s : Int} (h : s ∈ preds0 f b) : shapeB f = true ∧ ∃ k : Nat, b = k ∧ k < f.blocks.length ∧ s ∈ predsF f.blocks k := by
  cases hr : rightB f b with
  | false => unfold preds0 at h; rw [hr] at h; simp at h
  | true =>
    obtain ⟨k, rfl, hk⟩ := right_nat hr
    have hsh : shapeB f = true := by unfold rightB at hr; rw [Bool.and_eq_true] at hr; exact hr.1
    rw [preds0_at hsh hk] at h
    exact ⟨hsh, k, rfl, hk, h⟩
theorem range_asc : ∀ (n : Nat) (p : Nat → Bool), ((List.range n).filter p).Pairwise (· < ·) := fun n p => List.Pairwise.filter p List.pairwise_lt_range
theorem preds_asc (bs : List BlkR) (b : Int) {i : Nat} (hi : i + 1 < (predsF bs b).length) : (predsF bs b)[i] < (predsF bs b)[i + 1] := by
  unfold predsF predsTo at hi ⊢
  rw [List.length_map] at hi
  rw [List.getElem_map, List.getElem_map]
  have := List.pairwise_iff_getElem.1 (range_asc bs.length fun j => hasI (succsAt bs j) b) i (i + 1) (by omega) hi (by omega)
  omega
theorem succs0_two (f : FnR) (b : Int) : (succs0 f b).length ≤ 2 := by
  unfold succs0; split
  · exact succsF_le _
  · simp
set_option maxRecDepth 100000 in
theorem graph_law {H : Hp} {v : CV} {xs : List Int} (hv : IsB H v xs) : CM 4 [.c v] H Tru := by
  refine cw4 ?_
  unfold vf4c
  by_cases hbig : 1048576 < xs.length
  · simp [big_call hv.lenOf, hbig]
  have hb : xs.length ≤ BIG := by simp only [BIG]; omega
  simp [big_call hv.lenOf, hbig]
  refine (drawSuccs_call hv hb).mono ?_
  rintro _ ⟨X, w, m, bs, b, rfl, ⟨d, g, rfl⟩, hp, hB, hbl, h0, hn1, hn2⟩
  obtain ⟨X1, hX1⟩ : ∃ X1, X ++ [(⟨[.sl d g 0 bs.length, .i m], 0, true, 2⟩ : Ob)] = X1 := ⟨_, rfl⟩
  have hp1 : Pre X X1 := ⟨_, hX1.symm⟩
  have hB1 : Blocks X1 (.sl d g 0 bs.length) bs := (hB _ (Hi.refl _ _)).pre hp1
  have hF1 : rdOb X1 X.length 0 = some ⟨[.sl d g 0 bs.length, .i m], 0, true, 2⟩ := by rw [← hX1]; simp
  have hvX := Sl.pre (hp.trans hp1) hv
  obtain ⟨f, hf⟩ : ∃ f : FnR, f = ⟨bs, m⟩ := ⟨_, rfl⟩
  obtain rfl : bs = f.blocks := by rw [hf]
  obtain rfl : m = f.values := by rw [hf]
  clear hf
  obtain ⟨vv, hvv⟩ : ∃ vv, CV.sl d g 0 f.blocks.length = vv := ⟨_, rfl⟩
  rw [hvv] at hX1 hB1 hF1
  obtain ⟨w5, L5, hw5, e5⟩ := implSuccs0 (f := f) (b := b) hB1 hbl
  obtain ⟨X2, hX2⟩ : ∃ X2, X1 ++ L5 = X2 := ⟨_, rfl⟩
  have hp2 : Pre X1 X2 := ⟨_, hX2.symm⟩
  have hI2 := hw5.isI
  rw [hX2] at hI2
  obtain ⟨w6, L6, hw6, e6⟩ := specSuccs0 (f := f) (b := b) (hB1.pre hp2) hbl
  obtain ⟨X3, hX3⟩ : ∃ X3, X2 ++ L6 = X3 := ⟨_, rfl⟩
  have hp3 : Pre X2 X3 := ⟨_, hX3.symm⟩
  have hJ3 := hw6.isI
  rw [hX3] at hJ3
  have hI3 := Sl.pre hp3 hI2
  have hle := succs0_le f b
  have hF3 := (hp2.trans hp3).rdOb hF1
  have hB3 := hB1.pre (hp2.trans hp3)
  simp [hvv, putD0', hX1, rdN_ob hF1, e5, hX2, rdN_ob (hp2.rdOb hF1), e6, hX3, sameInts_call hI3 hJ3 hle]
  obtain ⟨I, hI⟩ : ∃ I : Nat → St → Prop, ∀ i st, I i st ↔ (Pre X3 st.h ∧ Env.get st.e 0 = .c v ∧ Env.get st.e 3 = .c (.p X.length 0 0) ∧ Env.get st.e 4 = .c (.i b) ∧ Env.get st.e 5 = .c w5 ∧ Env.get st.e 6 = .c (.i i)) := ⟨_, fun _ _ => Iff.rfl⟩
  refine wp_for CM_mono (succs0 f b).length I ((hI _ _).2 ⟨Pre.refl _, by simp⟩) ?_ ?_
  · rintro i ⟨e, Y⟩ hi hIs
    obtain ⟨hY, E0, E3, E4, E5, E6⟩ := (hI _ _).1 hIs
    simp only at hY E0 E3 E4 E5 E6 ⊢
    have hIY := Sl.pre hY hI3
    obtain ⟨id1, g1, off1, o1, q1, q2, q3⟩ := at_id hIY hi
    obtain ⟨hsh, k, rfl, hk, hs⟩ := succs0_mem (List.getElem_mem hi)
    obtain ⟨s, hse⟩ : ∃ s, (succs0 f k)[i] = s := ⟨_, rfl⟩
    rw [hse] at q3 hs
    have hrg := shape_range hsh k s hs
    obtain ⟨sn, rfl, hsn⟩ : ∃ sn : Nat, s = sn ∧ sn < f.blocks.length := ⟨s.toNat, by omega, by omega⟩
    obtain ⟨wp, Lp, hP, ep⟩ := implPreds0 (f := f) (b := (sn : Int)) (hB3.pre hY) hbl
    rw [preds0_at hsh hsn] at hP
    obtain ⟨Z, hZ⟩ : ∃ Z, Y ++ Lp = Z := ⟨_, rfl⟩
    have hpZ : Pre Y Z := ⟨_, hZ.symm⟩
    have hPI := hP.isI
    rw [hZ] at hPI
    have hw : hasI (predsF f.blocks sn) k = true := hasI_iff.2 (preds_mem hk hs)
    have hpl : (predsF f.blocks sn).length ≤ BIG := Nat.le_trans (predsTo_le _ _ _) hbl
    unfold vf4b0
    simp [E0, E3, E4, E5, E6, hIY.lenOf, hi, rdN_ob (hY.rdOb hF3), q1, rdC_ob q2, q3, ep, hZ, within_call hPI hpl, hw, up1 hi hle]
    exact (hI _ _).2 ⟨hY.trans hpZ, by simp [E0, E3, E4, E5]⟩
  · rintro ⟨e, Y⟩ hIs
    obtain ⟨hY, E0, E3, E4, E5, E6⟩ := (hI _ _).1 hIs
    simp only at hY E0 E3 E4 E5 E6 ⊢
    have hIY := Sl.pre hY hI3
    unfold vf4b0
    simp [E0, E3, E4, E5, E6, hIY.lenOf]
    refine (drawPreds_call (Sl.pre ((hp2.trans hp3).trans hY) hvX) hb).mono ?_
    rintro _ ⟨V, w', m', cs, c, rfl, ⟨d', g', rfl⟩, hpV, hBV, hcl, hc0, hm1, hm2⟩
    obtain ⟨V1, hV1⟩ : ∃ V1, V ++ [(⟨[.sl d' g' 0 cs.length, .i m'], 0, true, 2⟩ : Ob)] = V1 := ⟨_, rfl⟩
    have hpV1 : Pre V V1 := ⟨_, hV1.symm⟩
    have hBV1 : Blocks V1 (.sl d' g' 0 cs.length) cs := (hBV _ (Hi.refl _ _)).pre hpV1
    have hFV1 : rdOb V1 V.length 0 = some ⟨[.sl d' g' 0 cs.length, .i m'], 0, true, 2⟩ := by rw [← hV1]; simp
    obtain ⟨f', hf'⟩ : ∃ f' : FnR, f' = ⟨cs, m'⟩ := ⟨_, rfl⟩
    obtain rfl : cs = f'.blocks := by rw [hf']
    obtain rfl : m' = f'.values := by rw [hf']
    clear hf'
    obtain ⟨vw, hvw⟩ : ∃ vw, CV.sl d' g' 0 f'.blocks.length = vw := ⟨_, rfl⟩
    rw [hvw] at hV1 hBV1 hFV1
    have hIV1 := Sl.pre (hpV.trans hpV1) hIY
    obtain ⟨w7, L7, hw7, e7⟩ := implPreds0 (f := f') (b := c) hBV1 hcl
    obtain ⟨V2, hV2⟩ : ∃ V2, V1 ++ L7 = V2 := ⟨_, rfl⟩
    have hpV2 : Pre V1 V2 := ⟨_, hV2.symm⟩
    have hA2 := hw7.isI
    rw [hV2] at hA2
    obtain ⟨w8, L8, hw8, e8⟩ := specPreds0 (f := f') (b := c) (hBV1.pre hpV2) hcl
    obtain ⟨V3, hV3⟩ : ∃ V3, V2 ++ L8 = V3 := ⟨_, rfl⟩
    have hpV3 : Pre V2 V3 := ⟨_, hV3.symm⟩
    have hA3' := hw8.isI
    rw [hV3] at hA3'
    have hA3 := Sl.pre hpV3 hA2
    have hle' := preds0_le (f := f') (b := c) hcl
    have hFV3 := (hpV2.trans hpV3).rdOb hFV1
    have hBV3 := hBV1.pre (hpV2.trans hpV3)
    have hIV3 := Sl.pre (hpV2.trans hpV3) hIV1
    simp [hvw, putD0', hV1, rdN_ob hFV1, e7, hV2, rdN_ob (hpV2.rdOb hFV1), e8, hV3, sameInts_call hA3 hA3' hle', E0, E3, E4, E5, E6]
    obtain ⟨J, hJ⟩ : ∃ J : Nat → St → Prop, ∀ i st, J i st ↔ (Pre V3 st.h ∧ Env.get st.e 5 = .c w5 ∧ Env.get st.e 7 = .c (.p V.length 0 0) ∧ Env.get st.e 8 = .c (.i c) ∧ Env.get st.e 9 = .c w7 ∧ Env.get st.e 10 = .c (.i i)) := ⟨_, fun _ _ => Iff.rfl⟩
    refine wp_for CM_mono (preds0 f' c).length J ((hJ _ _).2 ⟨Pre.refl _, by simp [E5]⟩) ?_ ?_
    · rintro i ⟨e2, Z⟩ hi hJs
      obtain ⟨hZ, E5, E7, E8, E9, E10⟩ := (hJ _ _).1 hJs
      simp only at hZ E5 E7 E8 E9 E10 ⊢
      have hAZ := Sl.pre hZ hA3
      obtain ⟨id1, g1, off1, o1, q1, q2, q3⟩ := at_id hAZ hi
      obtain ⟨hsh, k, rfl, hk, hs⟩ := preds0_mem (List.getElem_mem hi)
      have hp0 := preds0_at hsh hk
      obtain ⟨s, hse⟩ : ∃ s, (preds0 f' k)[i] = s := ⟨_, rfl⟩
      rw [hse] at q3 hs
      obtain ⟨sn, rfl, hsn, hsm⟩ := mem_preds hs
      obtain ⟨wp, Lp, hP, ep⟩ := implSuccs0 (f := f') (b := (sn : Int)) (hBV3.pre hZ) hcl
      rw [succs0_at hsh hsn] at hP
      obtain ⟨W, hW⟩ : ∃ W, Z ++ Lp = W := ⟨_, rfl⟩
      have hpW : Pre Z W := ⟨_, hW.symm⟩
      have hPI := hP.isI
      rw [hW] at hPI
      have hw : hasI (succsAt f'.blocks sn) k = true := hasI_iff.2 hsm
      have hAW := Sl.pre hpW hAZ
      have hkeep : rdOb W id1 g1 = rdOb Z id1 g1 := by rw [hpW.rdOb q2, q2]
      have q2' := hpW.rdOb q2
      have hib : i ≤ 2000000 := by simp only [BIG] at hle'; omega
      unfold vf4b1
      by_cases hi0 : i = 0
      · subst hi0
        have q1' : idxOf 1 w7 0 = some (.p id1 g1 off1) := q1
        have w01 : wrap64 1 = 1 := wrap64_id (by omega)
        simp [E5, E7, E8, E9, E10, hAZ.lenOf, hi, rdN_ob (hZ.rdOb hFV3), q1', rdC_ob q2, q3, ep, hW, within_call hPI (succsAt_le _ _), hw, w01]
        exact (hJ _ _).2 ⟨hZ.trans hpW, by simp [E5, E7, E8, E9]⟩
      · obtain ⟨j, rfl⟩ : ∃ j, i = j + 1 := ⟨i - 1, by omega⟩
        obtain ⟨id2, g2, off2, o2, r1, r2, r3⟩ := at_id hAW (show j < (preds0 f' k).length by omega)
        have hasc : (preds0 f' k)[j] < (preds0 f' k)[j + 1] := by
          have := preds_asc f'.blocks k (i := j) (by rw [← hp0]; exact hi)
          simpa only [hp0] using this
        rw [hse] at hasc
        have hi' : ((j : Int) + 1 < ((preds0 f' k).length : Int)) := by omega
        rw [show ((j + 1 : Nat) : Int) = (j : Int) + 1 by omega] at q1 E10
        obtain ⟨y, hy⟩ : ∃ y, (preds0 f' k)[j] = y := ⟨_, rfl⟩
        rw [hy] at hasc r3
        have hno : ¬ ((sn : Int) ≤ y) := by omega
        obtain ⟨id3, g3, off3, o3, t1, t2, t3⟩ := at_id hAW hi
        rw [show ((j + 1 : Nat) : Int) = (j : Int) + 1 by omega] at t1
        rw [q1] at t1
        simp [E5, E7, E8, E9, E10, hAZ.lenOf, hi', rdN_ob (hZ.rdOb hFV3), q1, rdC_ob q2, rdC_ob q2', q3, ep, hW, within_call hPI (succsAt_le _ _), hw, r1, rdC_ob r2, r3, hno, show (0 : Int) < (j : Int) + 1 by omega,
          wrap64_id (show -9223372036854775808 ≤ (j : Int) ∧ (j : Int) ≤ 9223372036854775807 by omega), wrap64_id (show -9223372036854775808 ≤ (j : Int) + 1 + 1 ∧ (j : Int) + 1 + 1 ≤ 9223372036854775807 by omega)]
        exact (hJ _ _).2 ⟨hZ.trans hpW, by simp [E5, E7, E8, E9]⟩
    · rintro ⟨e2, Z⟩ hJs
      obtain ⟨hZ, E5, E7, E8, E9, E10⟩ := (hJ _ _).1 hJs
      simp only at hZ E5 E7 E8 E9 E10 ⊢
      have hAZ := Sl.pre hZ hA3
      have hIZ := Sl.pre hZ hIV3
      have h2 : ((succs0 f b).length : Int) ≤ 2 := by have := succs0_two f b; omega
      unfold vf4b1
      simp [E5, E7, E8, E9, E10, hAZ.lenOf, hIZ.lenOf, h2]
end Go.Proofs.Ytnapgdlfeadhaaa.Vm
end
