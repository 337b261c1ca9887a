import Derived.Test.YtgdfgnppeekfjaaGreatQcd
section
/- The arms of a block: the program's side. No conditions. -/
namespace Go.Proofs.YtgdfgnppeekfjaaGreat.Vm
open Go.RowKit (wrap64)
set_option linter.unusedSimpArgs false
set_option linter.unusedVariables false

noncomputable def pB (p : Prop) : Bool := @decide p (Classical.propDecidable p)
theorem pB_true {p : Prop} (h : p) : pB p = true := by unfold pB; simp [h]
theorem pB_false {p : Prop} (h : ¬ p) : pB p = false := by unfold pB; simp [h]
def ArmsRight (bs : List BlkR) : Prop := ∀ j (hj : j < bs.length), ∀ p ∈ bs[j].phis, sortI (fromsF p) = predsF bs j
theorem asc_eq : ∀ (B A : List Int), A.Pairwise (· < ·) → B.Pairwise (· < ·) → (∀ x ∈ A, x ∈ B) → B.length ≤ A.length → A = B := by
  intro B
  induction B with
  | nil =>
    intro A _ _ h _
    cases A with
    | nil => rfl
    | cons a r => exact absurd (h a (by simp)) (by simp)
  | cons b B ih =>
    intro A hA hB h hl
    cases A with
    | nil => simp at hl
    | cons a A =>
      rw [List.pairwise_cons] at hA hB
      have hab : a = b ∨ b < a := by
        rcases List.mem_cons.1 (h a (by simp)) with e | e
        · exact .inl e
        · exact .inr (hB.1 _ e)
      have ht : A = B := by
        refine ih A hA.2 hB.2 (fun x hx => ?_) (by simpa using hl)
        have hax := hA.1 x hx
        rcases List.mem_cons.1 (h x (by simp [hx])) with e | e
        · omega
        · exact e
      subst ht
      rcases hab with e | e
      · rw [e]
      · rcases List.mem_cons.1 (h a (by simp)) with e2 | e2
        · rw [e2]
        · exact absurd (hA.1 a e2) (by omega)
theorem preds_asc (bs : List BlkR) (b : Int) : (predsF bs b).Pairwise (· < ·) := by
  unfold predsF predsTo
  rw [List.pairwise_map]
  exact (List.Pairwise.filter _ List.pairwise_lt_range).imp (fun h => by omega)
theorem froms_apart {n m : Int} {p : PhiR} (h : phiB n m p = true) : (fromsF p).Pairwise (· ≠ ·) := by
  unfold phiB armsB at h
  simp only [Bool.and_eq_true, List.all_eq_true, List.mem_range] at h
  unfold fromsF
  rw [List.pairwise_map, List.pairwise_iff_getElem]
  intro i j hi hj hij
  have := h.2 j hj
  rw [armB_at hj] at this
  simp only [Bool.and_eq_true, Bool.not_eq_true', List.any_eq_false, decide_eq_true_eq] at this
  exact this.2 _ (List.mem_take_iff_getElem.2 ⟨i, by omega, rfl⟩)
theorem arms_iff {bs : List BlkR} {b : Int} {n m : Int} {p : PhiR} (h : phiB n m p = true) : sortI (fromsF p) = predsF bs b ↔ (p.arms.length = (predsF bs b).length ∧ ∀ a ∈ p.arms, hasI (predsF bs b) a.fr = true) := by
  have hperm : (sortI (fromsF p)).Perm (fromsF p) := List.mergeSort_perm _ _
  constructor
  · intro e
    refine ⟨by rw [← e]; simp [fromsF], fun a ha => ?_⟩
    rw [hasI_iff, ← e]
    exact hperm.mem_iff.2 (List.mem_map.2 ⟨a, ha, rfl⟩)
  · rintro ⟨h1, h2⟩
    have hs : (sortI (fromsF p)).Pairwise (· ≤ ·) := by
      have := List.pairwise_mergeSort (le := fun x y : Int => decide (x ≤ y)) (fun a b c h1 h2 => by simp at *; omega) (fun a b => by simp; omega) (fromsF p)
      exact this.imp (fun h => by simpa using h)
    have hn : (sortI (fromsF p)).Pairwise (· ≠ ·) := hperm.symm.pairwise (froms_apart h) (fun h => Ne.symm h)
    refine asc_eq _ _ ?_ (preds_asc bs b) ?_ ?_
    · have := hs.and hn
      exact this.imp (fun h => by omega)
    · intro x hx
      obtain ⟨a, ha, rfl⟩ := List.mem_map.1 (hperm.mem_iff.1 hx)
      exact hasI_iff.1 (h2 a ha)
    · rw [sortI_len]; simp [fromsF, h1]

set_option maxRecDepth 100000 in
theorem implArms {H : Hp} {v : CV} {f : FnR} (hv : Blocks H v f.blocks) (hsh : shapeB f = true) (k : IV × Hp → Prop) :
    CM 87 [.agg [v, .i f.values]] H k = k (.c (.b (pB (¬ ArmsRight f.blocks))), H) := by
  refine det (cw87 ?_) k
  unfold vf87c
  obtain ⟨s1, s2, s3, s4⟩ := shape_len hsh
  obtain ⟨X, hX⟩ : ∃ X, H ++ [(⟨[v, .i f.values], 0, true, 2⟩ : Ob)] = X := ⟨_, rfl⟩
  have hp : Pre H X := ⟨_, hX.symm⟩
  have hB : rdOb X H.length 0 = some ⟨[v, .i f.values], 0, true, 2⟩ := by rw [← hX]; simp
  have hl := hv.lenOf
  have hbb : f.blocks.length ≤ BIG := by simp only [BIG]; omega
  simp [hX, rdC_ob hB, hl]
  obtain ⟨I, hI⟩ : ∃ I : Nat → St → Prop, ∀ i st, I i st ↔ ((∀ j (hj : j < f.blocks.length), j < i → ∀ p ∈ f.blocks[j].phis, sortI (fromsF p) = predsF f.blocks j) ∧ Pre X st.h ∧
      Env.get st.e 1 = .c (.p H.length 0 0) ∧ Env.get st.e 12 = .c v ∧ Env.get st.e 13 = .c (.i f.blocks.length) ∧ Env.get st.e 14 = .c (.i i)) := ⟨_, fun _ _ => Iff.rfl⟩
  refine wp_for CM_mono f.blocks.length I ((hI _ _).2 ⟨by simp, Pre.refl _, by simp⟩) ?_ ?_
  · rintro i ⟨e, Y⟩ hi hIs
    obtain ⟨hdone, hY, e1, e12, e13, e14⟩ := (hI _ _).1 hIs
    simp only at hY e1 e12 e13 e14 ⊢
    have hmem : f.blocks[i] ∈ f.blocks := List.getElem_mem hi
    have hlens := shape_lens hsh hmem
    obtain ⟨i0, g0, off0, w, u, q1, _, q2, qp, ql, qpl, qll, _, _⟩ := Blocks.get hv hi
    have hHY := hp.trans hY
    obtain ⟨GY, hGY⟩ := id hHY
    have q2' := q2 GY
    rw [← hGY] at q2'
    obtain ⟨t, ht⟩ : ∃ t, f.blocks[i].term = t := ⟨_, rfl⟩
    rw [ht] at q2'
    obtain ⟨Y1, hY1⟩ : ∃ Y1, Y ++ [(⟨[w, u, .i t.kind, .i t.a, .i t.to, .i t.els], 0, true, 6⟩ : Ob)] = Y1 := ⟨_, rfl⟩
    have hpY1 : Pre X Y1 := by rw [← hY1]; exact hY.app _
    have h5 : rdOb Y1 Y.length 0 = some ⟨[w, u, .i t.kind, .i t.a, .i t.to, .i t.els], 0, true, 6⟩ := by rw [← hY1]; simp
    have hBY := hpY1.rdOb hB
    have hvY := Blocks.pre (hp.trans hpY1) hv
    obtain ⟨pw, L, hpw, hcall⟩ := implPreds (m := f.values) (b := (i : Int)) hvY hbb
    obtain ⟨Y2, hY2⟩ : ∃ Y2, Y1 ++ L = Y2 := ⟨_, rfl⟩
    have hpwI := hpw.isI
    have hpY2 : Pre Y1 Y2 := ⟨_, hY2.symm⟩
    rw [hY2] at hpwI
    have h52 := hpY2.rdOb h5
    have hpl := qp.lenOf
    unfold vf87b2
    simp [e1, e12, e13, e14, hi, q1, q2'.2.2.2.2.2.2.2.2.2.2, put66c, hY1, rdN_ob hBY, hcall, hY2, rdC_ob h52, hpl]
    obtain ⟨J, hJ⟩ : ∃ J : Nat → St → Prop, ∀ j st, J j st ↔ ((∀ p ∈ f.blocks[i].phis.take j, sortI (fromsF p) = predsF f.blocks i) ∧ Pre Y2 st.h ∧
        Env.get st.e 1 = .c (.p H.length 0 0) ∧ Env.get st.e 12 = .c v ∧ Env.get st.e 13 = .c (.i f.blocks.length) ∧ Env.get st.e 14 = .c (.i i) ∧ Env.get st.e 5 = .c pw ∧ Env.get st.e 23 = .c w ∧ Env.get st.e 24 = .c (.i f.blocks[i].phis.length) ∧ Env.get st.e 25 = .c (.i j)) := ⟨_, fun _ _ => Iff.rfl⟩
    refine wp_for CM_mono f.blocks[i].phis.length J ((hJ _ _).2 ⟨by simp, Pre.refl _, by simp [e1, e12, e13, e14]⟩) ?_ ?_
    · rintro j ⟨e', Z⟩ hj hJs
      obtain ⟨hdj, hZ, e1, e12, e13, e14, e5, e23, e24, e25⟩ := (hJ _ _).1 hJs
      simp only at hZ e1 e12 e13 e14 e5 e23 e24 e25 ⊢
      obtain ⟨id2, g2, off2, w2, r1, _, r2, qa, _⟩ := Phis.get qp hj
      have hHZ := (hHY.trans (hY1 ▸ ⟨_, rfl⟩ : Pre Y Y1)).trans (hpY2.trans hZ)
      obtain ⟨GZ, hGZ⟩ := id hHZ
      have r2' := r2 GZ
      rw [← hGZ] at r2'
      obtain ⟨ph, hph⟩ : ∃ ph, f.blocks[i].phis[j] = ph := ⟨_, rfl⟩
      have hphB := shape_phi hsh hmem (List.getElem_mem hj)
      rw [hph] at r2' hphB qa
      obtain ⟨_, hal, _⟩ := phi_vals hphB
      obtain ⟨Z1, hZ1⟩ : ∃ Z1, Z ++ [(⟨[.i ph.d, w2], 0, true, 2⟩ : Ob)] = Z1 := ⟨_, rfl⟩
      have h7 : rdOb Z1 Z.length 0 = some ⟨[.i ph.d, w2], 0, true, 2⟩ := by rw [← hZ1]; simp
      obtain ⟨Z2, hZ2⟩ : ∃ Z2, Z1 ++ [(⟨[], 0, true, 1⟩ : Ob)] = Z2 := ⟨_, rfl⟩
      have hpZ1 : Pre Z Z1 := ⟨_, hZ1.symm⟩
      have hpZ2 : Pre Z1 Z2 := ⟨_, hZ2.symm⟩
      have h72 := hpZ2.rdOb h7
      have hlZ2 : Z2.length = Z1.length + 1 := by rw [← hZ2]; simp
      have h8 : rdOb Z2 Z1.length 0 = some ⟨[], 0, true, 1⟩ := by rw [← hZ2]; simp
      have hall := qa.lenOf
      have hfl : (fromsF ph).length = ph.arms.length := by simp [fromsF]
      unfold vf87b1
      simp [e1, e12, e13, e14, e5, e23, e24, e25, hj, r1, r2'.2.2, putD0, hZ1, hZ2, rdC_ob h72, hall]
      obtain ⟨K, hK⟩ : ∃ K : Nat → St → Prop, ∀ k st, K k st ↔ (Pre Z1 st.h ∧ (∃ g, rdOb st.h Z1.length g = some ⟨((fromsF ph).take k).map .i, g, true, 1⟩ ∧ Env.get st.e 8 = .c (.sl Z1.length g 0 k)) ∧
          Env.get st.e 1 = .c (.p H.length 0 0) ∧ Env.get st.e 12 = .c v ∧ Env.get st.e 13 = .c (.i f.blocks.length) ∧ Env.get st.e 14 = .c (.i i) ∧ Env.get st.e 5 = .c pw ∧ Env.get st.e 23 = .c w ∧ Env.get st.e 24 = .c (.i f.blocks[i].phis.length) ∧ Env.get st.e 25 = .c (.i j) ∧
          Env.get st.e 31 = .c w2 ∧ Env.get st.e 32 = .c (.i ph.arms.length) ∧ Env.get st.e 33 = .c (.i k)) := ⟨_, fun _ _ => Iff.rfl⟩
      refine wp_for CM_mono ph.arms.length K ((hK _ _).2 ⟨hpZ2, ⟨0, by simpa using h8, by simp⟩, by simp [e1, e12, e13, e14, e5, e23, e24, e25]⟩) ?_ ?_
      · rintro k ⟨e2, W⟩ hk hKs
        obtain ⟨hW, ⟨g, ho, e8⟩, e1, e12, e13, e14, e5, e23, e24, e25, e31, e32, e33⟩ := (hK _ _).1 hKs
        simp only at hW ho e8 e1 e12 e13 e14 e5 e23 e24 e25 e31 e32 e33 ⊢
        obtain ⟨id3, g3, off3, m1, ⟨m2, m3, m4⟩, m5, m6, m7⟩ := Arms.get (qa.pre ((hHZ.trans hpZ1).trans hW)) hk
        have hfk : (fromsF ph).take (k + 1) = (fromsF ph).take k ++ [ph.arms[k].fr] := by
          rw [List.take_succ_eq_append_getElem (by omega)]; simp [fromsF]
        have hlt := rdOb_lt ho
        have hkl : ((fromsF ph).take k).length = k := by rw [List.length_take]; omega
        obtain ⟨W1, hW1⟩ : ∃ W1, W ++ [(⟨[.i ph.arms[k].fr, .i ph.arms[k].v], 0, true, 2⟩ : Ob)] = W1 := ⟨_, rfl⟩
        have hpW1 : Pre W W1 := ⟨_, hW1.symm⟩
        have h10 : rdOb W1 W.length 0 = some ⟨[.i ph.arms[k].fr, .i ph.arms[k].v], 0, true, 2⟩ := by rw [← hW1]; simp
        have ho1 := hpW1.rdOb ho
        unfold vf87b0
        simp [e8, e1, e12, e13, e14, e5, e23, e24, e25, e31, e32, e33, hk, m1, m4, putD0, hW1, rdC_ob h10, srcOf, putL0]
        rw [app_own (cs := ((fromsF ph).take k).map .i) (rdOb_app _ ho1) (by simp; omega) (by simp) (by simp; simp only [LIM]; omega)]
        simp [e8, e1, e12, e13, e14, e5, e23, e24, e25, e31, e32, e33, up1 hk (show ph.arms.length ≤ BIG by simp only [BIG]; omega)]
        refine (hK _ _).2 ⟨((hW.trans hpW1).app _).set (by simp) _, ⟨g + 1, ?_, by simp⟩, by simp [e1, e12, e13, e14, e5, e23, e24, e25, e31, e32]⟩
        have := hpW1.le
        rw [rdOb_set_self (by simp; omega)]
        simp [hfk]
      · rintro ⟨e2, W⟩ hKs
        obtain ⟨hW, ⟨g, ho, e8⟩, e1, e12, e13, e14, e5, e23, e24, e25, e31, e32, e33⟩ := (hK _ _).1 hKs
        simp only at hW ho e8 e1 e12 e13 e14 e5 e23 e24 e25 e31 e32 e33 ⊢
        rw [← hfl, List.take_length] at ho
        rw [← hfl] at e8
        have hlt := rdOb_lt ho
        have hpS : Pre Z1 (W.set Z1.length ⟨(sortI (fromsF ph)).map .i, g, true, 1⟩) := hW.set (by omega) _
        have hI1 : IsI (W.set Z1.length ⟨(sortI (fromsF ph)).map .i, g, true, 1⟩) (.sl Z1.length g 0 (sortI (fromsF ph)).length) (sortI (fromsF ph)) :=
          IsI.mk (o := ⟨(sortI (fromsF ph)).map .i, g, true, 1⟩) (by rw [rdOb_set_self hlt]; simp) rfl (by simp) (by rw [List.drop_zero, List.take_of_length_le (by simp)])
        rw [sortI_len] at hI1
        have hI2 := IsI.pre ((hZ.trans hpZ1).trans hpS) hpwI
        have hbl : (sortI (fromsF ph)).length ≤ BIG := by rw [sortI_len, hfl]; simp only [BIG]; omega
        unfold vf87b0
        by_cases hs : sortI (fromsF ph) = predsF f.blocks i
        · simp [e8, e1, e12, e13, e14, e5, e23, e24, e25, e31, e32, e33, sort_call ho (by rw [hfl]; simp only [LIM]; omega), equalInt hI1 hI2 hbl, decide_eq_true hs, up1 hj qpl]
          refine (hJ _ _).2 ⟨?_, (hZ.trans hpZ1).trans hpS, by simp [e1, e12, e13, e14, e5, e23, e24]⟩
          intro p hp'
          rw [List.take_succ_eq_append_getElem hj] at hp'
          rcases List.mem_append.1 hp' with h | h
          · exact hdj p h
          · simp at h; rw [h, hph]; exact hs
        · have hno : ¬ ArmsRight f.blocks := fun hc => hs (hc i hi ph (hph ▸ List.getElem_mem hj))
          simp [e8, e1, e12, e13, e14, e5, e23, e24, e25, e31, e32, e33, sort_call ho (by rw [hfl]; simp only [LIM]; omega), equalInt hI1 hI2 hbl, hs]
          rw [gcRet_flat ((hHZ.trans hpZ1).trans hpS) rfl, pB_true hno]
    · rintro ⟨e', Z⟩ hJs
      obtain ⟨hdj, hZ, e1, e12, e13, e14, e5, e23, e24, e25⟩ := (hJ _ _).1 hJs
      simp only at hZ e1 e12 e13 e14 e5 e23 e24 e25 ⊢
      rw [List.take_length] at hdj
      unfold vf87b1
      simp [e1, e12, e13, e14, e5, e23, e24, e25, up1 hi hbb]
      refine (hI _ _).2 ⟨?_, hpY1.trans (hpY2.trans hZ), by simp [e1, e12, e13]⟩
      intro j hj hji
      by_cases ej : j = i
      · subst ej; exact hdj
      · exact hdone j hj (by omega)
  · rintro ⟨e, Y⟩ hIs
    obtain ⟨hdone, hY, e1, e12, e13, e14⟩ := (hI _ _).1 hIs
    simp only at hY e1 e12 e13 e14 ⊢
    have hyes : ¬ ¬ ArmsRight f.blocks := fun hc => hc fun j hj => hdone j hj hj
    unfold vf87b2
    simp [e1, e12, e13, e14]
    rw [gcRet_flat (hp.trans hY) rfl, pB_false hyes]
end Go.Proofs.YtgdfgnppeekfjaaGreat.Vm
end
