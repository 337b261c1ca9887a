import Derived.Test.YtgdfgnppeekfjaaGreatQcv
section
/- Used: the specification's side. No conditions. -/
namespace Go.Proofs.YtgdfgnppeekfjaaGreat.Vm
open Go.RowKit (wrap64)
set_option linter.unusedSimpArgs false
set_option linter.unusedVariables false
set_option maxRecDepth 100000 in
theorem specUsedL {H : Hp} {v : CV} {f : FnR} (hv : Blocks H v f.blocks) (hb : f.blocks.length ≤ BIG) (hsh : shapeB f = true) (k : IV × Hp → Prop) :
    CM 107 [.agg [v, .i f.values]] H k = k (.c (.sl H.length 0 0 f.values.toNat), H ++ [⟨(usedW f).map .b, 0, true, 1⟩]) := by
  refine det (cw107 ?_) k
  unfold vf107c
  obtain ⟨s1, s2, s3, s4⟩ := shape_len hsh
  obtain ⟨X, hX⟩ : ∃ X, H ++ [(⟨[v, .i f.values], 0, true, 2⟩ : Ob)] = X := ⟨_, rfl⟩
  have hp : Pre H X := ⟨_, hX.symm⟩
  have hB : rdOb X H.length 0 = some ⟨[v, .i f.values], 0, true, 2⟩ := by rw [← hX]; simp
  have hvX := Blocks.pre hp hv
  have hm1 : (0 ≤ f.values ∧ f.values ≤ (LIM : Int)) = True := eq_true ⟨s3, by simp only [LIM]; omega⟩
  obtain ⟨X1, hX1⟩ : ∃ X1, X ++ [(⟨List.replicate f.values.toNat (.b false), 0, true, 1⟩ : Ob)] = X1 := ⟨_, rfl⟩
  have hp1 : Pre X X1 := ⟨_, hX1.symm⟩
  have hlX : X.length = H.length + 1 := by rw [← hX]; simp
  have hU1 : rdOb X1 X.length 0 = some (UsOb (List.replicate f.values.toNat false)) := by rw [← hX1]; simp [UsOb]
  simp [hX, rdN_ob hB, rdC_ob hB, hm1, hX1]
  obtain ⟨O, hO⟩ : ∃ O : Nat → St → Prop, ∀ n st, O n st ↔ (∃ us, Pre X st.h ∧ rdOb st.h X.length 0 = some (UsOb us) ∧ us.length = f.values.toNat ∧ (∀ j : Nat, us.getD j false = true → UsedP f.blocks j) ∧ cf us ≤ n ∧
      Env.get st.e 1 = .c (.p H.length 0 0) ∧ Env.get st.e 3 = .c (.sl X.length 0 0 f.values.toNat)) := ⟨_, fun _ _ => Iff.rfl⟩
  refine wp_loop CM_mono O (k := f.values.toNat) ((hO _ _).2 ⟨_, hp1, hU1, by simp, fun j hj => ?_, by rw [cf_reps]; exact Nat.le_refl _, by simp⟩) ?_
  · rw [List.getD_eq_getElem?_getD, List.getElem?_replicate] at hj
    split at hj <;> simp at hj
  · rintro n ⟨e, Y⟩ hOs
    obtain ⟨us, hY, hUY, hul, hs, hcf, e1, e3⟩ := (hO _ _).1 hOs
    simp only at hY hUY e1 e3 ⊢
    have hBY := hY.rdOb hB
    have hrc := round_call hvX hb hsh hY (Nat.le_refl _) hUY hul hs
    rw [hul] at hrc
    unfold vf107b0
    simp [e1, e3, rdN_ob hBY]
    refine hrc.mono ?_
    rintro _ ⟨u2, m2, Y2, rfl, hY2, hU2, hR2, hc2⟩
    have hlen := hR2.len
    cases m2 with
    | true =>
      have := hR2.yes rfl
      simp [e1, e3]
      exact ⟨n - 1, by omega, (hO _ _).2 ⟨u2, hY2, hU2, by omega, hR2.snd, by omega, by simp [e1, e3]⟩⟩
    | false =>
      have hno := hR2.no rfl
      have hfin := used_done hul hs (hc2 rfl)
      rw [hno, hfin] at hU2
      simp [e1, e3]
      rw [gcRet_row (o := UsOb (usedW f)) (hp.trans hY2) (by omega) hU2 rfl (by simp [UsOb, flatC])]
      simp [UsOb]
set_option maxRecDepth 100000 in
theorem specUsed {H : Hp} {v : CV} {f : FnR} (hv : Blocks H v f.blocks) (hb : f.blocks.length ≤ BIG) :
    ∃ w L, RowB H w L (used0 f) ∧ ∀ k : IV × Hp → Prop, CM 38 [.agg [v, .i f.values]] H k = k (.c w, H ++ L) := by
  obtain ⟨X, hX⟩ : ∃ X, H ++ [(⟨[v, .i f.values], 0, true, 2⟩ : Ob)] = X := ⟨_, rfl⟩
  have hp : Pre H X := ⟨_, hX.symm⟩
  have hB : rdOb X H.length 0 = some ⟨[v, .i f.values], 0, true, 2⟩ := by rw [← hX]; simp
  have hvX := Blocks.pre hp hv
  have hlX : X.length = H.length + 1 := by rw [← hX]; simp
  by_cases hck : checkF f = 0
  · obtain ⟨hsh, _, _, _, _⟩ := check_well hck
    have hu0 : used0 f = usedW f := by unfold used0; rw [if_pos hck]
    refine ⟨.sl H.length 0 0 (usedW f).length, [⟨(usedW f).map .b, 0, true, 1⟩], .inr ⟨by rw [hu0], by rw [hu0]⟩, fun k => det (cw38 ?_) k⟩
    unfold vf38c
    simp [hX, rdN_ob hB, specCheck hvX hb, hck, specUsedL hvX hb hsh]
    rw [gcRet_row (o := UsOb (usedW f)) (hp.app _) (by omega) (by simp [UsOb]) rfl (by simp [UsOb, flatC])]
    simp [UsOb, usedW_len]
  · have hu0 : used0 f = [] := by unfold used0; rw [if_neg hck]
    refine ⟨.sl H.length 0 0 0, [⟨[], 0, true, 1⟩], .inr ⟨by rw [hu0]; rfl, by rw [hu0]; rfl⟩, fun k => det (cw38 ?_) k⟩
    unfold vf38c
    simp [hX, rdN_ob hB, specCheck hvX hb, hck]
    rw [gcRet_row (o := ⟨[], 0, true, 1⟩) (hp.app _) (by omega) (by simp) rfl (by simp)]
theorem used0_le {f : FnR} (hb : f.blocks.length ≤ BIG) : (used0 f).length ≤ BIG := by
  unfold used0
  split
  · rename_i h
    obtain ⟨hsh, _⟩ := check_well h
    obtain ⟨s1, s2, s3, s4⟩ := shape_len hsh
    rw [usedW_len]; simp only [BIG]; omega
  · simp
end Go.Proofs.YtgdfgnppeekfjaaGreat.Vm
end
