import Derived.Test.YtgdfgnppeekfjaaGreatQce
section
/- The arms of a block: the specification's side. No conditions. -/
namespace Go.Proofs.YtgdfgnppeekfjaaGreat.Vm
open Go.RowKit (wrap64)
set_option linter.unusedSimpArgs false
set_option linter.unusedVariables false
set_option maxRecDepth 100000 in
theorem specArms {H : Hp} {v : CV} {f : FnR} (hv : Blocks H v f.blocks) (hsh : shapeB f = true) (k : IV × Hp → Prop) :
    CM 96 [.agg [v, .i f.values]] H k = k (.c (.b (pB (ArmsRight f.blocks))), H) := by
  refine det (cw96 ?_) k
  unfold vf96c
  obtain ⟨s1, s2, s3, s4⟩ := shape_len hsh
  obtain ⟨X, hX⟩ : ∃ X, H ++ [(⟨[v, .i f.values], 0, true, 2⟩ : Ob)] = X := ⟨_, rfl⟩
  have hp : Pre H X := ⟨_, hX.symm⟩
  have hB : rdOb X H.length 0 = some ⟨[v, .i f.values], 0, true, 2⟩ := by rw [← hX]; simp
  have hvX := Blocks.pre hp hv
  have hl := hvX.lenOf
  have hbb : f.blocks.length ≤ BIG := by simp only [BIG]; omega
  simp [hX]
  obtain ⟨I, hI⟩ : ∃ I : Nat → St → Prop, ∀ i st, I i st ↔ ((∀ j (hj : j < f.blocks.length), j < i → ∀ p ∈ f.blocks[j].phis, sortI (fromsF p) = predsF f.blocks j) ∧ Pre X st.h ∧
      Env.get st.e 1 = .c (.p H.length 0 0) ∧ Env.get st.e 3 = .c (.i i)) := ⟨_, fun _ _ => Iff.rfl⟩
  refine wp_for CM_mono f.blocks.length I ((hI _ _).2 ⟨by simp, Pre.refl _, by simp⟩) ?_ ?_
  · rintro i ⟨e, Y⟩ hi hIs
    obtain ⟨hdone, hY, e1, e3⟩ := (hI _ _).1 hIs
    simp only at hY e1 e3 ⊢
    have hmem : f.blocks[i] ∈ f.blocks := List.getElem_mem hi
    have hlens := shape_lens hsh hmem
    have hBY := hY.rdOb hB
    have hvY := hvX.pre hY
    obtain ⟨pw, L, hpw, hcall⟩ := specPreds (m := f.values) (b := (i : Int)) hvY hbb
    obtain ⟨Y2, hY2⟩ : ∃ Y2, Y ++ L = Y2 := ⟨_, rfl⟩
    have hpwI := hpw.isI
    have hpY2 : Pre Y Y2 := ⟨_, hY2.symm⟩
    rw [hY2] at hpwI
    have hB2 := hpY2.rdOb hBY
    have hplen := hpwI.lenOf
    have hpb : (predsF f.blocks i).length ≤ BIG := by have := predsTo_le f.blocks i f.blocks.length; unfold predsF; omega
    unfold vf96b2
    simp [e1, e3, hi, rdC_ob hBY, rdN_ob hBY, hl, hcall, hY2]
    obtain ⟨J, hJ⟩ : ∃ J : Nat → St → Prop, ∀ j st, J j st ↔ ((∀ p ∈ f.blocks[i].phis.take j, sortI (fromsF p) = predsF f.blocks i) ∧ st.h = Y2 ∧
        Env.get st.e 1 = .c (.p H.length 0 0) ∧ Env.get st.e 3 = .c (.i i) ∧ Env.get st.e 4 = .c pw ∧ Env.get st.e 5 = .c (.i j)) := ⟨_, fun _ _ => Iff.rfl⟩
    have hv2 := hvY.pre hpY2
    obtain ⟨i0, g0, off0, w, u, q1, q2, _, qp, _, qpl, _, _, _⟩ := Blocks.get hv2 hi
    have hpl := qp.lenOf
    refine wp_for CM_mono f.blocks[i].phis.length J ((hJ _ _).2 ⟨by simp, rfl, by simp [e1, e3]⟩) ?_ ?_
    · rintro j ⟨e', Z⟩ hj hJs
      obtain ⟨hdj, hZ, e1, e3, e4, e5⟩ := (hJ _ _).1 hJs
      simp only at hZ e1 e3 e4 e5 ⊢
      subst hZ
      obtain ⟨id2, g2, off2, w2, r1, r2, _, qa, _⟩ := Phis.get qp hj
      obtain ⟨ph, hph⟩ : ∃ ph, f.blocks[i].phis[j] = ph := ⟨_, rfl⟩
      have hphB := shape_phi hsh hmem (List.getElem_mem hj)
      rw [hph] at r2 hphB qa
      obtain ⟨_, hal, _⟩ := phi_vals hphB
      have hiff := arms_iff (bs := f.blocks) (b := i) hphB
      have hall := qa.lenOf
      have hbad : ¬ sortI (fromsF ph) = predsF f.blocks i → pB (ArmsRight f.blocks) = false := fun h => pB_false fun hc => h (hc i hi ph (hph ▸ List.getElem_mem hj))
      unfold vf96b1
      by_cases hlen : ph.arms.length = (predsF f.blocks i).length
      · have hlen' : (ph.arms.length : Int) = ((predsF f.blocks i).length : Int) := by omega
        simp [e1, e3, e4, e5, rdC_ob hB2, q1, q2.1, hpl, hj, r1, r2.2, hall, hplen, hlen']
        obtain ⟨K, hK⟩ : ∃ K : Nat → St → Prop, ∀ k st, K k st ↔ ((∀ a ∈ ph.arms.take k, hasI (predsF f.blocks i) a.fr = true) ∧ st.h = Z ∧
            Env.get st.e 1 = .c (.p H.length 0 0) ∧ Env.get st.e 3 = .c (.i i) ∧ Env.get st.e 4 = .c pw ∧ Env.get st.e 5 = .c (.i j) ∧ Env.get st.e 6 = .c w2 ∧ Env.get st.e 7 = .c (.i k)) := ⟨_, fun _ _ => Iff.rfl⟩
        refine wp_for CM_mono ph.arms.length K ((hK _ _).2 ⟨by simp, rfl, by simp [e1, e3, e4, e5]⟩) ?_ ?_
        · rintro k ⟨e2, W⟩ hk hKs
          obtain ⟨hdk, hW, e1, e3, e4, e5, e6, e7⟩ := (hK _ _).1 hKs
          simp only at hW e1 e3 e4 e5 e6 e7 ⊢
          subst hW
          obtain ⟨id3, g3, off3, m1, ⟨m2, m3, m4⟩, m5, m6, m7⟩ := Arms.get qa hk
          unfold vf96b0
          cases hh : hasI (predsF f.blocks i) ph.arms[k].fr with
          | true =>
            simp [e1, e3, e4, e5, e6, e7, hall, hk, m1, m2, l3Has_call hpwI hpb, hh, up1 hk (show ph.arms.length ≤ BIG by simp only [BIG]; omega)]
            refine (hK _ _).2 ⟨?_, rfl, by simp [e1, e3, e4, e5, e6]⟩
            intro a ha
            rw [List.take_succ_eq_append_getElem hk] at ha
            rcases List.mem_append.1 ha with h | h
            · exact hdk a h
            · simp at h; rw [h]; exact hh
          | false =>
            have hbd := hbad fun hc => by
              have := (hiff.1 hc).2 _ (List.getElem_mem hk)
              rw [hh] at this; cases this
            simp [e1, e3, e4, e5, e6, e7, hall, hk, m1, m2, l3Has_call hpwI hpb, hh]
            rw [gcRet_flat ((hp.trans hY).trans hpY2) rfl, hbd]
        · rintro ⟨e2, W⟩ hKs
          obtain ⟨hdk, hW, e1, e3, e4, e5, e6, e7⟩ := (hK _ _).1 hKs
          simp only at hW e1 e3 e4 e5 e6 e7 ⊢
          subst hW
          rw [List.take_length] at hdk
          unfold vf96b0
          simp [e1, e3, e4, e5, e6, e7, hall, up1 hj qpl]
          refine (hJ _ _).2 ⟨?_, rfl, by simp [e1, e3, e4]⟩
          intro p hp'
          rw [List.take_succ_eq_append_getElem hj] at hp'
          rcases List.mem_append.1 hp' with h | h
          · exact hdj p h
          · simp at h; rw [h, hph]; exact hiff.2 ⟨hlen, hdk⟩
      · have hbd := hbad fun hc => hlen (hiff.1 hc).1
        have hlen' : ¬ (ph.arms.length : Int) = ((predsF f.blocks i).length : Int) := by omega
        simp [e1, e3, e4, e5, rdC_ob hB2, q1, q2.1, hpl, hj, r1, r2.2, hall, hplen, hlen']
        rw [gcRet_flat ((hp.trans hY).trans hpY2) rfl, hbd]
    · rintro ⟨e', Z⟩ hJs
      obtain ⟨hdj, hZ, e1, e3, e4, e5⟩ := (hJ _ _).1 hJs
      simp only at hZ e1 e3 e4 e5 ⊢
      subst hZ
      rw [List.take_length] at hdj
      unfold vf96b1
      simp [e1, e3, e4, e5, rdC_ob hB2, q1, q2.1, hpl, up1 hi hbb]
      refine (hI _ _).2 ⟨?_, hY.trans hpY2, by simp [e1]⟩
      intro j hj hji
      by_cases ej : j = i
      · subst ej; exact hdj
      · exact hdone j hj (by omega)
  · rintro ⟨e, Y⟩ hIs
    obtain ⟨hdone, hY, e1, e3⟩ := (hI _ _).1 hIs
    simp only at hY e1 e3 ⊢
    have hyes : ArmsRight f.blocks := fun j hj => hdone j hj hj
    unfold vf96b2
    simp [e1, e3, rdC_ob (hY.rdOb hB), hl]
    rw [gcRet_flat (hp.trans hY) rfl, pB_true hyes]
end Go.Proofs.YtgdfgnppeekfjaaGreat.Vm
end
