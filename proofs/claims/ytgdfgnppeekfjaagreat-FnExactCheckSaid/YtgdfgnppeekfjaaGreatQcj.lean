import Derived.Test.YtgdfgnppeekfjaaGreatQcf
import Derived.Test.YtgdfgnppeekfjaaGreatQci
import Derived.Test.YtgdfgnppeekfjaaGreatP2
section
/- Check, both sides. No conditions. -/
namespace Go.Proofs.YtgdfgnppeekfjaaGreat.Vm
open Go.RowKit (wrap64)
set_option linter.unusedSimpArgs false
set_option linter.unusedVariables false
theorem cf_any : ∀ l : List Bool, (l.any fun y => decide (false = y)) = decide (0 < cf l) := by
  intro l
  induction l with
  | nil => simp [cf]
  | cons a r ih => cases a <;> simp [cf] at ih ⊢ <;> omega
def phis0 (bs : List BlkR) : Nat := match bs with
  | [] => 0
  | b :: _ => b.phis.length
theorem phis0_eq {bs : List BlkR} (h : 0 < bs.length) : phis0 bs = (bs[0]).phis.length := by
  cases bs with
  | nil => simp at h
  | cons b r => rfl
noncomputable def checkW (f : FnR) : Int :=
  if decide (0 < cf (seenF f.blocks)) = true then 2
  else if 0 < phis0 f.blocks ∨ 0 < (predsF f.blocks 0).length then 3
  else if pB (ArmsRight f.blocks) = false then 4
  else if ((madeF f).any fun n => decide (1 < n)) = true then 5
  else if pB (TakenOk f.blocks) = false then 6 else 0
noncomputable def checkF (f : FnR) : Int := if shapeB f = true ∧ copiesB f.blocks = false then checkW f else 1
theorem pB_not (p : Prop) : pB (¬ p) = !pB p := by
  by_cases h : p
  · rw [pB_true h, pB_false (by simpa using h)]; rfl
  · rw [pB_false h, pB_true h]; rfl
theorem check1 (H : Hp) (x : Int) (k : IV × Hp → Prop) : CM 90 [.c (.i x)] H k = k (.c (.b (decide (1 < x))), H) := by
  refine det (cw90 ?_) k
  unfold vf90c
  simp
theorem blkZ {X : Hp} {v : CV} {bs : List BlkR} (hv : Blocks X v bs) (h0 : 0 < bs.length) : ∃ id g off w, idxOf 6 v 0 = some (.p id g off) ∧ rdC X id g off = some w ∧ lenOf w = some (phis0 bs) := by
  obtain ⟨id, g, off, w, u, q1, q2, _, qp, _⟩ := Blocks.get hv h0
  exact ⟨id, g, off, w, q1, q2.1, by rw [phis0_eq h0]; exact qp.lenOf⟩
set_option maxRecDepth 100000 in
theorem implCheck {H : Hp} {v : CV} {f : FnR} (hv : Blocks H v f.blocks) (hb : f.blocks.length ≤ BIG) (k : IV × Hp → Prop) :
    CM 26 [.agg [v, .i f.values]] H k = k (.c (.i (checkF f)), H) := by
  refine det (cw26 ?_) k
  unfold vf26c
  obtain ⟨X, hX⟩ : ∃ X, H ++ [(⟨[v, .i f.values], 0, true, 2⟩ : Ob)] = X := ⟨_, rfl⟩
  have hp : Pre H X := ⟨_, hX.symm⟩
  have hB : rdOb X H.length 0 = some ⟨[v, .i f.values], 0, true, 2⟩ := by rw [← hX]; simp
  have hvX := Blocks.pre hp hv
  cases hsh : shapeB f with
  | false =>
    have : checkF f = 1 := by unfold checkF; simp [hsh]
    simp [hX, rdN_ob hB, implShape hvX hb, hsh, this]
    rw [gcRet_flat hp rfl]
  | true =>
    cases hco : copiesB f.blocks with
    | true =>
      have : checkF f = 1 := by unfold checkF; simp [hco]
      simp [hX, rdN_ob hB, implShape hvX hb, hsh, implCopies hvX hb, hco, this]
      rw [gcRet_flat hp rfl]
    | false =>
      have hck : checkF f = checkW f := by unfold checkF; simp [hsh, hco]
      have h0 : 0 < f.blocks.length := shape_pos hsh
      have hin : InRange f.blocks := shape_range hsh
      simp [hX, rdN_ob hB, implShape hvX hb, hsh, implCopies hvX hb, hco]
      rw [hck]
      refine (implOrder (m := f.values) hvX hin hb h0).mono ?_
      rintro _ ⟨o, g, s, gs, X2, rfl, hp2, _, _, _, hs⟩
      have hB2 := hp2.rdOb hB
      have hv2 := hvX.pre hp2
      have hpH := hp.trans hp2
      have hsl : (seenF f.blocks).length = f.blocks.length := (walk0_ok h0).1
      have hIL : IsL X2 (.sl s gs 0 f.blocks.length) (seenF f.blocks) := by
        have := IsL.mk (off := 0) (xs := seenF f.blocks) hs rfl (by simp) (by rw [List.drop_zero, List.take_of_length_le (by simp)])
        rwa [hsl] at this
      have hcb := fun k => containsBool (x := false) hIL (by omega) k
      simp only [cf_any] at hcb
      by_cases hcf : 0 < cf (seenF f.blocks)
      · have : checkW f = 2 := by unfold checkW; simp [hcf]
        simp [hcb, hcf, this]
        rw [gcRet_flat hpH rfl]
      · obtain ⟨id0, g0, off0, w0, z1, z2, z3⟩ := blkZ hv2 h0
        by_cases hph : 0 < phis0 f.blocks
        · have : checkW f = 3 := by unfold checkW; simp [hcf, hph]
          simp [hcb, hcf, rdC_ob hB2, z1, z2, z3, hph, this]
          rw [gcRet_flat hpH rfl]
        · obtain ⟨pw, L, hpw, hcall⟩ := implPreds (m := f.values) (b := 0) hv2 hb
          obtain ⟨X3, hX3⟩ : ∃ X3, X2 ++ L = X3 := ⟨_, rfl⟩
          have hp3 : Pre X2 X3 := ⟨_, hX3.symm⟩
          have hpwI := hpw.isI
          rw [hX3] at hpwI
          have hplen := hpwI.lenOf
          have hB3 := hp3.rdOb hB2
          have hv3 := hv2.pre hp3
          have hpH3 := hpH.trans hp3
          by_cases hpr : 0 < (predsF f.blocks 0).length
          · have : checkW f = 3 := by unfold checkW; simp [hcf, hpr]
            simp [hcb, hcf, rdC_ob hB2, rdN_ob hB2, z1, z2, z3, hph, hcall, hX3, hplen, hpr, this]
            rw [gcRet_flat hpH3 rfl]
          · simp [hcb, hcf, rdC_ob hB2, rdN_ob hB2, z1, z2, z3, hph, hcall, hX3, hplen, hpr, rdN_ob hB3, implArms hv3 hsh, pB_not]
            cases har : pB (ArmsRight f.blocks) with
            | false =>
              have : checkW f = 4 := by unfold checkW; simp [hcf, hph, hpr, har]
              simp [this]
              rw [gcRet_flat hpH3 rfl]
            | true =>
              obtain ⟨X4, hX4⟩ : ∃ X4, X3 ++ [(⟨(madeF f).map .i, 0, true, 1⟩ : Ob)] = X4 := ⟨_, rfl⟩
              have hp4 : Pre X3 X4 := ⟨_, hX4.symm⟩
              have hml : (madeF f).length = f.values.toNat := by unfold madeF; rw [ticksB_len]; simp
              have h4 : rdOb X4 X3.length 0 = some ⟨(madeF f).map .i, 0, true, 1⟩ := by rw [← hX4]; simp
              have hMI : IsI X4 (.sl X3.length 0 0 f.values.toNat) (madeF f) := by
                have := IsI.mk (off := 0) (xs := madeF f) h4 rfl (by simp) (by rw [List.drop_zero, List.take_of_length_le (by simp)])
                rwa [hml] at this
              obtain ⟨s1, s2, s3, s4⟩ := shape_len hsh
              have hcf2 := fun k => containsFInt hMI (by rw [hml]; simp only [BIG]; omega) (fid := 90) (caps := []) (fun n => decide (1 < n)) (fun x _ k => check1 X4 x k) k
              have hB4 := hp4.rdOb hB3
              have hv4 := hv3.pre hp4
              have hpH4 := hpH3.trans hp4
              simp [rdN_ob hB3, implMade hv3 hsh, hX4, hcf2]
              cases hma : (madeF f).any fun n => decide (1 < n) with
              | true =>
                have : checkW f = 5 := by unfold checkW; simp [hcf, hph, hpr, har, hma]
                simp [this]
                rw [gcRet_flat hpH4 rfl]
              | false =>
                simp [rdN_ob hB4, implTaken hv4 hsh, pB_not]
                cases hta : pB (TakenOk f.blocks) with
                | false =>
                  have : checkW f = 6 := by unfold checkW; simp [hcf, hph, hpr, har, hma, hta]
                  simp [this]
                  rw [gcRet_flat hpH4 rfl]
                | true =>
                  have : checkW f = 0 := by unfold checkW; simp [hcf, hph, hpr, har, hma, hta]
                  simp [this]
                  rw [gcRet_flat hpH4 rfl]
set_option maxRecDepth 100000 in
theorem specCheck {H : Hp} {v : CV} {f : FnR} (hv : Blocks H v f.blocks) (hb : f.blocks.length ≤ BIG) (k : IV × Hp → Prop) :
    CM 29 [.agg [v, .i f.values]] H k = k (.c (.i (checkF f)), H) := by
  refine det (cw29 ?_) k
  unfold vf29c
  obtain ⟨X, hX⟩ : ∃ X, H ++ [(⟨[v, .i f.values], 0, true, 2⟩ : Ob)] = X := ⟨_, rfl⟩
  have hp : Pre H X := ⟨_, hX.symm⟩
  have hB : rdOb X H.length 0 = some ⟨[v, .i f.values], 0, true, 2⟩ := by rw [← hX]; simp
  have hvX := Blocks.pre hp hv
  cases hsh : shapeB f with
  | false =>
    have : checkF f = 1 := by unfold checkF; simp [hsh]
    simp [hX, rdN_ob hB, specShape hvX hb, hsh, this]
    rw [gcRet_flat hp rfl]
  | true =>
    cases hco : copiesB f.blocks with
    | true =>
      have : checkF f = 1 := by unfold checkF; simp [hco]
      simp [hX, rdN_ob hB, specShape hvX hb, hsh, specCopies hvX hb, hco, this]
      rw [gcRet_flat hp rfl]
    | false =>
      have hck : checkF f = checkW f := by unfold checkF; simp [hsh, hco]
      have h0 : 0 < f.blocks.length := shape_pos hsh
      have hin : InRange f.blocks := shape_range hsh
      have hok := walk0_ok h0
      have hol : (ordF f.blocks).length = (walk0 f.blocks).2.length := by unfold ordF; simp
      have hocf : (ordF f.blocks).length + cf (seenF f.blocks) = f.blocks.length := by unfold seenF; omega
      obtain ⟨X2, hX2⟩ : ∃ X2, X ++ [(⟨(ordF f.blocks).map .i, 0, true, 1⟩ : Ob)] = X2 := ⟨_, rfl⟩
      have hp2 : Pre X X2 := ⟨_, hX2.symm⟩
      have hB2 := hp2.rdOb hB
      have hv2 := hvX.pre hp2
      have hpH := hp.trans hp2
      have hl2 := hv2.lenOf
      rw [hck]
      by_cases hcf : 0 < cf (seenF f.blocks)
      · have : checkW f = 2 := by unfold checkW; simp [hcf]
        have hne : ¬ ((ordF f.blocks).length : Int) = (f.blocks.length : Int) := by omega
        simp [hX, rdN_ob hB, rdC_ob hB, specShape hvX hb, hsh, specCopies hvX hb, hco, specOrderL hvX hin hb h0, hX2, rdC_ob hB2, hB, hB2, hl2, hne, this]
        rw [gcRet_flat hpH rfl]
      · have heq : ((ordF f.blocks).length : Int) = (f.blocks.length : Int) := by omega
        obtain ⟨id0, g0, off0, w0, z1, z2, z3⟩ := blkZ hv2 h0
        by_cases hph : 0 < phis0 f.blocks
        · have : checkW f = 3 := by unfold checkW; simp [hcf, hph]
          simp [hX, rdN_ob hB, rdC_ob hB, specShape hvX hb, hsh, specCopies hvX hb, hco, specOrderL hvX hin hb h0, hX2, rdC_ob hB2, hB, hB2, hl2, heq, z1, z2, z3, hph, this]
          rw [gcRet_flat hpH rfl]
        · obtain ⟨pw, L, hpw, hcall⟩ := specPreds (m := f.values) (b := 0) hv2 hb
          obtain ⟨X3, hX3⟩ : ∃ X3, X2 ++ L = X3 := ⟨_, rfl⟩
          have hp3 : Pre X2 X3 := ⟨_, hX3.symm⟩
          have hpwI := hpw.isI
          rw [hX3] at hpwI
          have hplen := hpwI.lenOf
          have hB3 := hp3.rdOb hB2
          have hv3 := hv2.pre hp3
          have hpH3 := hpH.trans hp3
          by_cases hpr : 0 < (predsF f.blocks 0).length
          · have : checkW f = 3 := by unfold checkW; simp [hcf, hpr]
            simp [hX, rdN_ob hB, rdC_ob hB, specShape hvX hb, hsh, specCopies hvX hb, hco, specOrderL hvX hin hb h0, hX2, rdC_ob hB2, hB, hB2, rdN_ob hB2, hl2, heq, z1, z2, z3, hph, hcall, hX3, hplen, hpr, this]
            rw [gcRet_flat hpH3 rfl]
          · simp [hX, rdN_ob hB, rdC_ob hB, specShape hvX hb, hsh, specCopies hvX hb, hco, specOrderL hvX hin hb h0, hX2, rdC_ob hB2, hB, hB2, rdN_ob hB2, hl2, heq, z1, z2, z3, hph, hcall, hX3, hplen, hpr, rdN_ob hB3, specArms hv3 hsh]
            cases har : pB (ArmsRight f.blocks) with
            | false =>
              have : checkW f = 4 := by unfold checkW; simp [hcf, hph, hpr, har]
              simp [this]
              rw [gcRet_flat hpH3 rfl]
            | true =>
              obtain ⟨X4, hX4⟩ : ∃ X4, X3 ++ [(⟨(madeF f).map .i, 0, true, 1⟩ : Ob)] = X4 := ⟨_, rfl⟩
              have hp4 : Pre X3 X4 := ⟨_, hX4.symm⟩
              have hml : (madeF f).length = f.values.toNat := by unfold madeF; rw [ticksB_len]; simp
              have h4 : rdOb X4 X3.length 0 = some ⟨(madeF f).map .i, 0, true, 1⟩ := by rw [← hX4]; simp
              have hMI : IsI X4 (.sl X3.length 0 0 f.values.toNat) (madeF f) := by
                have := IsI.mk (off := 0) (xs := madeF f) h4 rfl (by simp) (by rw [List.drop_zero, List.take_of_length_le (by simp)])
                rwa [hml] at this
              obtain ⟨s1, s2, s3, s4⟩ := shape_len hsh
              have hmb : (madeF f).length ≤ BIG := by rw [hml]; simp only [BIG]; omega
              have hMl := hMI.lenOf
              have hB4 := hp4.rdOb hB3
              have hv4 := hv3.pre hp4
              have hpH4 := hpH3.trans hp4
              have hseen : ∀ b, b < f.blocks.length → (seenF f.blocks).getD b false = true := by
                intro b hb'
                have hsl : (seenF f.blocks).length = f.blocks.length := hok.1
                have hany := cf_any (seenF f.blocks)
                rw [decide_eq_false hcf, List.any_eq_false] at hany
                have hlt : b < (seenF f.blocks).length := by omega
                have := hany _ (List.getElem_mem hlt)
                rw [List.getD_eq_getElem?_getD, List.getElem?_eq_getElem hlt]
                cases hx : (seenF f.blocks)[b] with
                | true => rfl
                | false => rw [hx] at this; simp at this
              simp [rdN_ob hB3, specMade5 hv3 hsh, hX4]
              obtain ⟨I, hI⟩ : ∃ I : Nat → St → Prop, ∀ i st, I i st ↔ ((∀ j (hj : j < (madeF f).length), j < i → ¬ 1 < (madeF f)[j]) ∧ st.h = X4 ∧
                  Env.get st.e 1 = .c (.p H.length 0 0) ∧ Env.get st.e 3 = .c (.sl X3.length 0 0 f.values.toNat) ∧ Env.get st.e 4 = .c (.i i)) := ⟨_, fun _ _ => Iff.rfl⟩
              refine wp_for CM_mono (madeF f).length I ((hI _ _).2 ⟨by simp, rfl, by simp⟩) ?_ ?_
              · rintro i ⟨e, Y⟩ hi hIs
                obtain ⟨hdone, hY, e1, e3, e4⟩ := (hI _ _).1 hIs
                simp only at hY e1 e3 e4 ⊢
                subst hY
                obtain ⟨id3, g3, off3, p1, p2⟩ := hMI.at_ hi
                have hiv : (i : Int) < f.values.toNat := by omega
                unfold vf29b0
                by_cases hx : 1 < (madeF f)[i]
                · have hma : ((madeF f).any fun n => decide (1 < n)) = true := List.any_eq_true.2 ⟨_, List.getElem_mem hi, decide_eq_true hx⟩
                  have : checkW f = 5 := by unfold checkW; simp [hcf, hph, hpr, har, hma]
                  simp [e1, e3, e4, hml ▸ hi, show max f.values 0 = f.values by omega, show (i : Int) < f.values by omega, p1, p2, hx, this]
                  rw [gcRet_flat hpH4 rfl]
                · simp [e1, e3, e4, hml ▸ hi, show max f.values 0 = f.values by omega, show (i : Int) < f.values by omega, p1, p2, hx, up1 hi hmb]
                  refine (hI _ _).2 ⟨?_, rfl, by simp [e1, e3]⟩
                  intro j hj hji
                  by_cases ej : j = i
                  · subst ej; exact hx
                  · exact hdone j hj (by omega)
              · rintro ⟨e, Y⟩ hIs
                obtain ⟨hdone, hY, e1, e3, e4⟩ := (hI _ _).1 hIs
                simp only at hY e1 e3 e4 ⊢
                subst hY
                have hma : ((madeF f).any fun n => decide (1 < n)) = false := by
                  rw [List.any_eq_false]
                  intro x hx
                  obtain ⟨j, hj, rfl⟩ := List.getElem_of_mem hx
                  simpa using hdone j hj hj
                unfold vf29b0
                simp [e1, e3, e4, hml, rdN_ob hB4, specTaken hv4 hsh hseen]
                cases hta : pB (TakenOk f.blocks) with
                | false =>
                  have : checkW f = 6 := by unfold checkW; simp [hcf, hph, hpr, har, hma, hta]
                  simp [this]
                  rw [gcRet_flat hpH4 rfl]
                | true =>
                  have : checkW f = 0 := by unfold checkW; simp [hcf, hph, hpr, har, hma, hta]
                  simp [this]
                  rw [gcRet_flat hpH4 rfl]
end Go.Proofs.YtgdfgnppeekfjaaGreat.Vm
end
