import Derived.Test.YtgdfgnppeekfjaaGreatQct
import Derived.Test.YtgdfgnppeekfjaaGreatQcm
section
/- Used: the program's side. No conditions. -/
namespace Go.Proofs.YtgdfgnppeekfjaaGreat.Vm
open Go.RowKit (wrap64)
set_option linter.unusedSimpArgs false
set_option linter.unusedVariables false
noncomputable def used0 (f : FnR) : List Bool := if checkF f = 0 then usedW f else []
theorem usedW_len (f : FnR) : (usedW f).length = f.values.toNat := by simp [usedW]
theorem cf_reps (n : Nat) : cf (List.replicate n false) = n := by unfold cf; rw [List.count_replicate]; simp
set_option maxRecDepth 100000 in
theorem implUsed {H : Hp} {v : CV} {f : FnR} (hv : Blocks H v f.blocks) (hb : f.blocks.length ≤ BIG) :
    ∃ w L, RowB H w L (used0 f) ∧ ∀ k : IV × Hp → Prop, CM 39 [.agg [v, .i f.values]] H k = k (.c w, H ++ L) := by
  obtain ⟨X, hX⟩ : ∃ X, H ++ [(⟨[v, .i f.values], 0, true, 2⟩ : Ob)] = X := ⟨_, rfl⟩
  have hp : Pre H X := ⟨_, hX.symm⟩
  have hB : rdOb X H.length 0 = some ⟨[v, .i f.values], 0, true, 2⟩ := by rw [← hX]; simp
  have hvX := Blocks.pre hp hv
  by_cases hck : checkF f = 0
  · obtain ⟨hsh, _, _, _, _⟩ := check_well hck
    obtain ⟨s1, s2, s3, s4⟩ := shape_len hsh
    have hu0 : used0 f = usedW f := by unfold used0; rw [if_pos hck]
    refine ⟨.sl H.length 0 0 (usedW f).length, [⟨(usedW f).map .b, 0, true, 1⟩], .inr ⟨by rw [hu0], by rw [hu0]⟩, fun k => det (cw39 ?_) k⟩
    unfold vf39c
    have hm1 : (0 ≤ f.values ∧ f.values ≤ (LIM : Int)) = True := eq_true ⟨s3, by simp only [LIM]; omega⟩
    obtain ⟨X1, hX1⟩ : ∃ X1, X ++ [(⟨List.replicate f.values.toNat (.b false), 0, true, 1⟩ : Ob)] = X1 := ⟨_, rfl⟩
    have hp1 : Pre X X1 := ⟨_, hX1.symm⟩
    have hlX : X.length = H.length + 1 := by rw [← hX]; simp
    have hU1 : rdOb X1 X.length 0 = some (UsOb (List.replicate f.values.toNat false)) := by rw [← hX1]; simp [UsOb]
    have hB1 := hp1.rdOb hB
    have hl := hv.lenOf
    simp [hX, rdN_ob hB, rdC_ob hB, implCheck hvX hb, hck, hm1, hX1]
    obtain ⟨O, hO⟩ : ∃ O : Nat → St → Prop, ∀ n st, O n st ↔ (∃ us m, Pre X st.h ∧ rdOb st.h X.length 0 = some (UsOb us) ∧ us.length = f.values.toNat ∧ (∀ j : Nat, us.getD j false = true → UsedP f.blocks j) ∧ (m = false → ∀ b ∈ f.blocks, ClosedB us b) ∧ cf us + (if m = true then 1 else 0) ≤ n ∧
        Env.get st.e 1 = .c (.p H.length 0 0) ∧ Env.get st.e 3 = .c (.sl X.length 0 0 f.values.toNat) ∧ Env.get st.e 4 = .c (.b m)) := ⟨_, fun _ _ => Iff.rfl⟩
    refine wp_loop CM_mono O (k := f.values.toNat + 1) ((hO _ _).2 ⟨_, true, hp1, hU1, by simp, fun j hj => ?_, fun h => (by cases h), by rw [cf_reps]; simp, by simp⟩) ?_
    · rw [List.getD_eq_getElem?_getD, List.getElem?_replicate] at hj
      split at hj <;> simp at hj
    · rintro n ⟨e, Y⟩ hOs
      obtain ⟨us, m, hY, hUY, hul, hs, hc, hcf, e1, e3, e4⟩ := (hO _ _).1 hOs
      simp only at hY hUY e1 e3 e4 ⊢
      have hBY := hY.rdOb hB
      unfold vf39b1
      cases m with
      | false =>
        have hfin := used_done hul hs (hc rfl)
        simp [e1, e3, e4]
        rw [hfin] at hUY
        rw [gcRet_row (o := UsOb (usedW f)) (hp.trans hY) (by omega) hUY rfl (by simp [UsOb, flatC])]
        simp [UsOb, usedW_len]
      | true =>
        simp [e1, e3, e4, rdC_ob hBY, hl]
        obtain ⟨I, hI⟩ : ∃ I : Nat → St → Prop, ∀ i st, I i st ↔ (∃ ui m, Pre X st.h ∧ rdOb st.h X.length 0 = some (UsOb ui) ∧ Rnd f.blocks us ui m ∧ (m = false → ∀ b ∈ f.blocks.take i, ClosedB us b) ∧
            Env.get st.e 1 = .c (.p H.length 0 0) ∧ Env.get st.e 3 = .c (.sl X.length 0 0 f.values.toNat) ∧ Env.get st.e 4 = .c (.b m) ∧ Env.get st.e 15 = .c v ∧ Env.get st.e 16 = .c (.i f.blocks.length) ∧ Env.get st.e 17 = .c (.i i)) := ⟨_, fun _ _ => Iff.rfl⟩
        refine wp_for CM_mono f.blocks.length I ((hI _ _).2 ⟨us, false, hY, hUY, Rnd.refl hs, fun _ => by simp, by simp [e1, e3]⟩) ?_ ?_
        · rintro i ⟨e', Z⟩ hi hIs
          obtain ⟨ui, m, hZ, hUZ, hR, hc, e1, e3, e4, e15, e16, e17⟩ := (hI _ _).1 hIs
          simp only at hZ hUZ e1 e3 e4 e15 e16 e17 ⊢
          have hmem : f.blocks[i] ∈ f.blocks := List.getElem_mem hi
          obtain ⟨i0, g0, off0, w, u, q1, _, q2, qp, ql, qpl, qll, _, _⟩ := Blocks.get hvX hi
          obtain ⟨GY, hGY⟩ := id hZ
          have q2' := q2 GY
          rw [← hGY] at q2'
          obtain ⟨t, ht⟩ : ∃ t, f.blocks[i].term = t := ⟨_, rfl⟩
          rw [ht] at q2'
          have huil : ui.length = us.length := hR.len
          obtain ⟨Z1, hZ1⟩ : ∃ Z1, Z ++ [(⟨[w, u, .i t.kind, .i t.a, .i t.to, .i t.els], 0, true, 6⟩ : Ob)] = Z1 := ⟨_, rfl⟩
          have hpZ1 : Pre Z Z1 := ⟨_, hZ1.symm⟩
          have h6 : rdOb Z1 Z.length 0 = some ⟨[w, u, .i t.kind, .i t.a, .i t.to, .i t.els], 0, true, 6⟩ := by rw [← hZ1]; simp
          have hU1 := hpZ1.rdOb hUZ
          unfold vf39b0
          simp [e1, e3, e4, e15, e16, e17, hi, q1, q2'.2.2.2.2.2.2.2.2.2.2, put66c, hZ1, rdN_ob h6]
          have hub := useBlock_call hsh hmem qp ql qpl qll (hZ.trans hpZ1) (uid := X.length) (Nat.le_refl _) hU1 (by omega) hR.snd ht
          rw [show ui.length = f.values.toNat by omega] at hub
          refine hub.mono ?_
          rintro _ ⟨u2, m2, Z2, rfl, hZ2, hU2, hR2, hc2⟩
          have hRn := hR.trans hR2
          have hcl : (m || m2) = false → ∀ b ∈ f.blocks.take (i + 1), ClosedB us b := fun h => by
            rw [Bool.or_eq_false_iff] at h
            exact all_take hi (hc h.1) (by rw [← hR.no h.1]; exact hc2 h.2)
          cases m2 with
          | true =>
            rw [Bool.or_true] at hRn hcl
            simp [e1, e3, e4, e15, e16, e17, up1 hi hb]
            exact (hI _ _).2 ⟨u2, true, hZ2, hU2, hRn, hcl, by simp [e1, e3, e15, e16]⟩
          | false =>
            rw [Bool.or_false] at hRn hcl
            simp [e1, e3, e4, e15, e16, e17, up1 hi hb]
            exact (hI _ _).2 ⟨u2, m, hZ2, hU2, hRn, hcl, by simp [e1, e3, e4, e15, e16]⟩
        · rintro ⟨e', Z⟩ hIs
          obtain ⟨ui, m, hZ, hUZ, hR, hc, e1, e3, e4, e15, e16, e17⟩ := (hI _ _).1 hIs
          simp only at hZ hUZ e1 e3 e4 e15 e16 e17 ⊢
          rw [List.take_length] at hc
          unfold vf39b0
          simp [e1, e3, e4, e15, e16, e17]
          simp at hcf
          have hlen := hR.len
          cases m with
          | true =>
            have := hR.yes rfl
            exact ⟨n - 1, by omega, (hO _ _).2 ⟨ui, true, hZ, hUZ, by omega, hR.snd, fun h => (by cases h), by simp; omega, by simp [e1, e3, e4]⟩⟩
          | false =>
            have hno := hR.no rfl
            exact ⟨n - 1, by omega, (hO _ _).2 ⟨ui, false, hZ, hUZ, by omega, hR.snd, fun _ => (by rw [hno]; exact hc rfl), by rw [hno]; simp; omega, by simp [e1, e3, e4]⟩⟩
  · have hu0 : used0 f = [] := by unfold used0; rw [if_neg hck]
    refine ⟨.ns, [], .inl ⟨rfl, rfl, hu0⟩, fun k => det (cw39 ?_) k⟩
    unfold vf39c
    simp [hX, rdN_ob hB, implCheck hvX hb, hck]
    rw [gcRet_flat hp rfl]
end Go.Proofs.YtgdfgnppeekfjaaGreat.Vm
end
