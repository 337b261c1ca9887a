import Derived.Test.YtnapgdlfeadhaaaQrp
section
/- The law of the way of drawn runs. No conditions. -/
namespace Go.Proofs.Ytnapgdlfeadhaaa.Vm
open Go.RowKit (wrap64)
set_option linter.unusedSimpArgs false
set_option linter.unusedVariables false

theorem succs0_at {f : FnR} (hsh : shapeB f = true) {b : Nat} (hb : b < f.blocks.length) : succs0 f b = succsAt f.blocks b := by
  unfold succs0
  rw [if_pos (by unfold rightB inB; rw [hsh]; simp; omega), succsAt_eq hb]
  simp [List.getD_eq_getElem?_getD, hb]
theorem at_id {X : Hp} {w : CV} {xs : List Int} (h : IsI X w xs) {k : Nat} (hk : k < xs.length) : ∃ id g off o, idxOf 1 w (k : Int) = some (.p id g off) ∧ rdOb X id g = some o ∧ o.cells[off]? = some (.i xs[k]) := h.get hk
set_option maxRecDepth 100000 in
theorem path_law {H : Hp} {v : CV} {xs : List Int} (hv : IsB H v xs) : CM 9 [.c v] H Tru := by
  refine cw9 ?_
  unfold vf9c
  by_cases hbig : 1048576 < xs.length
  · simp [big_call hv.lenOf, hbig]
  have hb : xs.length ≤ BIG := by simp only [BIG]; omega
  simp [big_call hv.lenOf, hbig]
  refine (drawPath_call hv hb).mono ?_
  rintro _ ⟨X, w, m, bs, rv, reads, n, rfl, ⟨d, g, rfl⟩, hp, hB, hbl, h0, hO, _, hrl, hn1, hn2⟩
  obtain ⟨X1, hX1⟩ : ∃ X1, X ++ [(⟨[.sl d g 0 bs.length, .i m], 0, true, 2⟩ : Ob)] = X1 := ⟨_, rfl⟩
  have hp1 : Pre X X1 := ⟨_, hX1.symm⟩
  have hB1 : Blocks X1 (.sl d g 0 bs.length) bs := (hB _ (Hi.refl _ _)).pre hp1
  have hF1 : rdOb X1 X.length 0 = some ⟨[.sl d g 0 bs.length, .i m], 0, true, 2⟩ := by rw [← hX1]; simp
  have hR1 : IsI X1 rv reads := Sl.pre hp1 hO.isI
  have hrb : reads.length ≤ BIG := by simp only [BIG]; omega
  obtain ⟨f, hf⟩ : ∃ f : FnR, f = ⟨bs, m⟩ := ⟨_, rfl⟩
  obtain rfl : bs = f.blocks := by rw [hf]
  obtain rfl : m = f.values := by rw [hf]
  clear hf
  obtain ⟨vv, hvv⟩ : ∃ vv, CV.sl d g 0 f.blocks.length = vv := ⟨_, rfl⟩
  rw [hvv] at hX1 hB1 hF1
  obtain ⟨q, hq⟩ : ∃ q, runW f reads n = q := ⟨_, rfl⟩
  have hpl := (runW_told f reads n).2
  rw [hq] at hpl
  rcases hO.form with rfl | ⟨i1, g1, n1, rfl⟩
  all_goals
    simp [hvv, putD0', hX1, rdN_ob hF1]
    refine (implPath hB1 hbl hR1).mono ?_
    rw [hq]
    rintro _ ⟨pv, L2, rfl, hP2⟩
    obtain ⟨X2, hX2⟩ : ∃ X2, X1 ++ L2 = X2 := ⟨_, rfl⟩
    have hp2 : Pre X1 X2 := ⟨_, hX2.symm⟩
    have hI2 := hP2.isI
    rw [hX2] at hI2 ⊢
    simp [rdN_ob (hp2.rdOb hF1)]
    refine (specPath (hB1.pre hp2) hbl (Sl.pre hp2 hR1) hrb).mono ?_
    rw [hq]
    rintro _ ⟨sv, L3, rfl, hS3⟩
    obtain ⟨X3, hX3⟩ : ∃ X3, X2 ++ L3 = X3 := ⟨_, rfl⟩
    have hp3 : Pre X2 X3 := ⟨_, hX3.symm⟩
    have hJ3 := hS3.isI
    rw [hX3] at hJ3 ⊢
    have hI3 := Sl.pre hp3 hI2
    have hF3 := (hp2.trans hp3).rdOb hF1
    simp [sameInts_call hI3 hJ3 hpl, rdN_ob hF3]
    refine (implRun (hB1.pre (hp2.trans hp3)) hbl (Sl.pre (hp2.trans hp3) hR1)).mono ?_
    rw [hq]
    rintro _ ⟨X4, tI, rfl, hp4, _, _⟩
    have hI4 := Sl.pre hp4 hI3
    have hF4 := hp4.rdOb hF3
    have hB4 := hB1.pre ((hp2.trans hp3).trans hp4)
    rcases runW_code f reads n with ⟨hc, hno⟩ | ⟨hc, hsh, hn0⟩
    · rw [hq] at hc
      have hbad := runW_bad (reads := reads) hno
      rw [hq] at hbad
      have hl0 : lenOf pv = some 0 := by have := hI4.lenOf; rw [hbad] at this; exact this
      simp [hc, hl0]
    · rw [hq] at hc
      have hc3 : ¬ q.1 = 3 := by rcases hc with h | h | h <;> omega
      obtain ⟨r, e1, e2, e3⟩ := runW_way hsh reads hn0
      rw [hq] at e1 e3
      obtain ⟨p, hpe⟩ : ∃ p : List Int, 0 :: r = p := ⟨_, rfl⟩
      have hp0 : 0 < p.length := by rw [← hpe]; simp
      have hp00 : p[0]'hp0 = 0 := by simp [← hpe]
      have hlast : q.1 = 0 → (f.blocks.getD (p[p.length - 1]'(by omega)).toNat blk0).term.kind = 3 := by
        intro h
        have := e3 h
        rw [List.getLast_eq_getElem] at this
        simpa [hpe] using this
      rw [hpe] at e1 e2
      clear e3
      rw [e1] at hI4 hpl
      simp [hc3]
      obtain ⟨I, hI⟩ : ∃ I : Nat → St → Prop, ∀ i st, I i st ↔ (Pre X4 st.h ∧ Env.get st.e 3 = .c (.p X.length 0 0) ∧ Env.get st.e 6 = .c pv ∧ Env.get st.e 8 = .c (.i q.1) ∧ Env.get st.e 10 = .c (.i ((i : Int) + 1))) := ⟨_, fun _ _ => Iff.rfl⟩
      refine wp_for CM_mono (p.length - 1) I ((hI _ _).2 ⟨Pre.refl _, by simp⟩) ?_ ?_
      · rintro j ⟨e, Y⟩ hj hIs
        obtain ⟨hY, E3, E6, E8, E10⟩ := (hI _ _).1 hIs
        simp only at hY E3 E6 E8 E10 ⊢
        have hi : j + 1 < p.length := by omega
        have hIY := Sl.pre hY hI4
        obtain ⟨ha0, ha1⟩ := e2.1 (p[j]'(by omega)) (List.getElem_mem _)
        obtain ⟨b, hb', hbl'⟩ : ∃ b : Nat, p[j]'(by omega) = b ∧ b < f.blocks.length := ⟨(p[j]'(by omega)).toNat, by omega, by omega⟩
        have hmem := e2.2 j hi
        rw [hb'] at hmem
        simp only [Int.toNat_natCast] at hmem
        obtain ⟨id1, g1', off1, o1, q1, q2, q3⟩ := at_id hIY (show j < p.length by omega)
        rw [hb'] at q3
        obtain ⟨id2, g2', off2, o2, r1, r2, r3⟩ := at_id hIY hi
        rw [show ((j + 1 : Nat) : Int) = (j : Int) + 1 by omega] at r1
        obtain ⟨wS, LS, hS, eS⟩ := implSuccs0 (f := f) (b := (b : Int)) (hB4.pre hY) hbl
        rw [succs0_at hsh hbl'] at hS
        obtain ⟨Z, hZ⟩ : ∃ Z, Y ++ LS = Z := ⟨_, rfl⟩
        have hpZ : Pre Y Z := ⟨_, hZ.symm⟩
        have hSI := hS.isI
        rw [hZ] at hSI
        have hw : hasI (succsAt f.blocks b) p[j + 1] = true := hasI_iff.2 hmem
        have hk2 : rdOb Z id2 g2' = rdOb Y id2 g2' := by rw [hpZ.rdOb r2, r2]
        have hFY := hY.rdOb hF4
        have hlt : ((j : Int) + 1 < (p.length : Int)) := by omega
        have hjb : j ≤ 2000000 := by simp only [BIG] at hpl; omega
        unfold vf9b0
        simp [E3, E6, E8, E10, hIY.lenOf, hlt, wrap64_id (show -9223372036854775808 ≤ (j : Int) ∧ (j : Int) ≤ 9223372036854775807 by omega), rdN_ob hFY, q1, rdC_ob q2, q3, eS, hZ, r1, hk2, rdC_ob (hpZ.rdOb r2), r3, within_call hSI (succsAt_le _ _), hw, wrap64_id (show -9223372036854775808 ≤ (j : Int) + 1 + 1 ∧ (j : Int) + 1 + 1 ≤ 9223372036854775807 by omega)]
        exact (hI _ _).2 ⟨hY.trans hpZ, by simp [E3, E6, E8]⟩
      · rintro ⟨e, Y⟩ hIs
        obtain ⟨hY, E3, E6, E8, E10⟩ := (hI _ _).1 hIs
        simp only at hY E3 E6 E8 E10 ⊢
        rw [show ((p.length - 1 : Nat) : Int) + 1 = (p.length : Int) by omega] at E10
        have hIY := Sl.pre hY hI4
        have hFY := hY.rdOb hF4
        obtain ⟨id1, g1', off1, o1, q1, q2, q3⟩ := at_id hIY hp0
        obtain ⟨id2, g2', off2, o2, r1, r2, r3⟩ := at_id hIY (show p.length - 1 < p.length by omega)
        obtain ⟨ha0, ha1⟩ := e2.1 (p[p.length - 1]'(by omega)) (List.getElem_mem _)
        obtain ⟨b, hb', hbl'⟩ : ∃ b : Nat, p[p.length - 1]'(by omega) = b ∧ b < f.blocks.length := ⟨(p[p.length - 1]'(by omega)).toNat, by omega, by omega⟩
        rw [hb'] at r3 hlast
        rw [hp00] at q3
        rw [show ((p.length - 1 : Nat) : Int) = (p.length : Int) - 1 by omega] at r1
        obtain ⟨i3, g3, off3, w3, u3, s1, s2, _⟩ := Blocks.get (hB4.pre hY) hbl'
        have hlp : (0 < (p.length : Int)) := by omega
        have hpb : p.length ≤ 2000000 := by simp only [BIG] at hpl; omega
        have q1' : idxOf 1 pv 0 = some (.p id1 g1' off1) := q1
        unfold vf9b0
        by_cases hz : q.1 = 0
        · have hk := hlast hz
          simp only [Int.toNat_natCast] at hk
          rw [blk_at hbl'] at hk
          simp [E3, E6, E8, E10, hIY.lenOf, hlp, hp0, q1', rdC_ob q2, q3, hz, rdC_ob hFY, wrap64_id (show -9223372036854775808 ≤ (p.length : Int) - 1 ∧ (p.length : Int) - 1 ≤ 9223372036854775807 by omega), r1, rdC_ob r2, r3, s1, s2.2.2.1, hk]
        · simp [E3, E6, E8, E10, hIY.lenOf, hlp, hp0, q1', rdC_ob q2, q3, hz]
end Go.Proofs.Ytnapgdlfeadhaaa.Vm
end
