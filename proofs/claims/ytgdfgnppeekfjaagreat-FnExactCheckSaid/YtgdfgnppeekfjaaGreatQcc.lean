import Derived.Test.YtgdfgnppeekfjaaGreatQcb
section
/- How often a value is made: the program's side. No conditions. -/
namespace Go.Proofs.YtgdfgnppeekfjaaGreat.Vm
open Go.RowKit (wrap64)
set_option linter.unusedSimpArgs false
set_option linter.unusedVariables false

theorem put66c (a b c d e f p q r s t u : CV) : putAt [a, b, c, d, e, f] 0 [p, q, r, s, t, u] = [p, q, r, s, t, u] := rfl
set_option maxRecDepth 100000 in
theorem implMade {H : Hp} {v : CV} {f : FnR} (hv : Blocks H v f.blocks) (hsh : shapeB f = true) (k : IV × Hp → Prop) :
    CM 89 [.agg [v, .i f.values]] H k = k (.c (.sl H.length 0 0 f.values.toNat), H ++ [⟨(madeF f).map .i, 0, true, 1⟩]) := by
  refine det (cw89 ?_) k
  unfold vf89c
  obtain ⟨s1, s2, s3, s4⟩ := shape_len hsh
  obtain ⟨X, hX⟩ : ∃ X, H ++ [(⟨[v, .i f.values], 0, true, 2⟩ : Ob)] = X := ⟨_, rfl⟩
  have hp : Pre H X := ⟨_, hX.symm⟩
  have hB : rdOb X H.length 0 = some ⟨[v, .i f.values], 0, true, 2⟩ := by rw [← hX]; simp
  have hlX : X.length = H.length + 1 := by rw [← hX]; simp
  have hl := hv.lenOf
  have hm1 : (0 ≤ f.values ∧ f.values ≤ (LIM : Int)) = True := eq_true ⟨s3, by simp only [LIM]; omega⟩
  have hbb : f.blocks.length ≤ BIG := by simp only [BIG]; omega
  obtain ⟨X1, hX1⟩ : ∃ X1, X ++ [(⟨List.replicate f.values.toNat (.i 0), 0, true, 1⟩ : Ob)] = X1 := ⟨_, rfl⟩
  have hp1 : Pre H X1 := by rw [← hX1]; exact hp.app _
  have hB1 : rdOb X1 H.length 0 = some ⟨[v, .i f.values], 0, true, 2⟩ := by rw [← hX1]; exact rdOb_app _ hB
  have hN1 : rdOb X1 X.length 0 = some ⟨(List.replicate f.values.toNat (0 : Int)).map .i, 0, true, 1⟩ := by rw [← hX1]; simp
  simp [hX, rdC_ob hB, hm1, hX1, rdC_ob hB1, hl]
  obtain ⟨I, hI⟩ : ∃ I : Nat → St → Prop, ∀ i st, I i st ↔ (Pre H st.h ∧ rdOb st.h X.length 0 = some ⟨((f.blocks.take i).foldl tickB (List.replicate f.values.toNat 0)).map .i, 0, true, 1⟩ ∧ Bd ((f.blocks.take i).foldl tickB (List.replicate f.values.toNat 0)) (48 * i) ∧
      Env.get st.e 3 = .c (.sl X.length 0 0 f.values.toNat) ∧ Env.get st.e 15 = .c v ∧ Env.get st.e 16 = .c (.i f.blocks.length) ∧ Env.get st.e 17 = .c (.i i)) := ⟨_, fun _ _ => Iff.rfl⟩
  refine wp_for CM_mono f.blocks.length I ((hI _ _).2 ⟨hp1, hN1, by simpa using Bd.zero _, by simp⟩) ?_ ?_
  · rintro i ⟨e, Y⟩ hi hIs
    obtain ⟨hY, hN, hbd, e3, e15, e16, e17⟩ := (hI _ _).1 hIs
    simp only at hY hN e3 e15 e16 e17 ⊢
    have hsucc := fold_succ tickB (List.replicate f.values.toNat 0) hi
    have hvl := ticksB_len (f.blocks.take i) (List.replicate f.values.toNat 0)
    obtain ⟨vs, hvs⟩ : ∃ vs, (f.blocks.take i).foldl tickB (List.replicate f.values.toNat 0) = vs := ⟨_, rfl⟩
    rw [hvs] at hN hsucc hbd hvl
    rw [List.length_replicate] at hvl
    have hmem : f.blocks[i] ∈ f.blocks := List.getElem_mem hi
    have hlens := shape_lens hsh hmem
    obtain ⟨i0, g0, off0, w, u, q1, _, q2, qp, ql, qpl, qll, _, _⟩ := Blocks.get hv hi
    obtain ⟨GY, hGY⟩ := id hY
    have q2' := q2 GY
    rw [← hGY] at q2'
    obtain ⟨t, ht⟩ : ∃ t, f.blocks[i].term = t := ⟨_, rfl⟩
    rw [ht] at q2'
    obtain ⟨Y1, hY1⟩ : ∃ Y1, Y ++ [(⟨[w, u, .i t.kind, .i t.a, .i t.to, .i t.els], 0, true, 6⟩ : Ob)] = Y1 := ⟨_, rfl⟩
    have hpY1 : Pre H Y1 := by rw [← hY1]; exact hY.app _
    have hNY1 : rdOb Y1 X.length 0 = some ⟨vs.map .i, 0, true, 1⟩ := by rw [← hY1]; exact rdOb_app _ hN
    have h5 : rdOb Y1 Y.length 0 = some ⟨[w, u, .i t.kind, .i t.a, .i t.to, .i t.els], 0, true, 6⟩ := by rw [← hY1]; simp
    have hYl : X.length < Y.length := rdOb_lt hN
    have hpl := qp.lenOf
    have hll := ql.lenOf
    unfold vf89b2
    simp [e3, e15, e16, e17, hi, q1, q2'.2.2.2.2.2.2.2.2.2.2, put66c, hY1, rdC_ob h5, hpl]
    obtain ⟨J, hJ⟩ : ∃ J : Nat → St → Prop, ∀ j st, J j st ↔ (Pre H st.h ∧ rdOb st.h X.length 0 = some ⟨((f.blocks[i].phis.take j).foldl (fun ws p => tick ws p.d) vs).map .i, 0, true, 1⟩ ∧ Bd ((f.blocks[i].phis.take j).foldl (fun ws p => tick ws p.d) vs) (48 * i + j) ∧
        rdOb st.h Y.length 0 = some ⟨[w, u, .i t.kind, .i t.a, .i t.to, .i t.els], 0, true, 6⟩ ∧ Env.get st.e 5 = .c (.p Y.length 0 0) ∧
        Env.get st.e 3 = .c (.sl X.length 0 0 f.values.toNat) ∧ Env.get st.e 15 = .c v ∧ Env.get st.e 16 = .c (.i f.blocks.length) ∧ Env.get st.e 17 = .c (.i i) ∧ Env.get st.e 22 = .c w ∧ Env.get st.e 23 = .c (.i f.blocks[i].phis.length) ∧ Env.get st.e 24 = .c (.i j)) := ⟨_, fun _ _ => Iff.rfl⟩
    refine wp_for CM_mono f.blocks[i].phis.length J ((hJ _ _).2 ⟨hpY1, hNY1, hbd, h5, by simp [e3, e15, e16, e17]⟩) ?_ ?_
    · rintro j ⟨e', Z⟩ hj hJs
      obtain ⟨hZ, hNZ, hbd, h5, e5, e3, e15, e16, e17, e22, e23, e24⟩ := (hJ _ _).1 hJs
      simp only at hZ hNZ h5 e5 e3 e15 e16 e17 e22 e23 e24 ⊢
      have hsu := fold_succ (fun ws (p : PhiR) => tick ws p.d) vs hj
      have hwl := ticks_len (f.blocks[i].phis.take j) vs
      obtain ⟨ws, hws⟩ : ∃ ws, (f.blocks[i].phis.take j).foldl (fun ws p => tick ws p.d) vs = ws := ⟨_, rfl⟩
      rw [hws] at hNZ hbd hsu hwl
      obtain ⟨id2, g2, off2, w2, r1, _, r2, _⟩ := Phis.get qp hj
      obtain ⟨GZ, hGZ⟩ := id hZ
      have r2' := r2 GZ
      rw [← hGZ] at r2'
      obtain ⟨ph, hph⟩ : ∃ ph, f.blocks[i].phis[j] = ph := ⟨_, rfl⟩
      obtain ⟨hvd, _⟩ := phi_vals (shape_phi hsh hmem (List.getElem_mem hj))
      rw [hph] at r2' hvd hsu
      obtain ⟨kd, hkd, hkn⟩ := val_nat hvd
      obtain ⟨Z1, hZ1⟩ : ∃ Z1, Z ++ [(⟨[.i ph.d, w2], 0, true, 2⟩ : Ob)] = Z1 := ⟨_, rfl⟩
      have h7 : rdOb Z1 Z.length 0 = some ⟨[.i ph.d, w2], 0, true, 2⟩ := by rw [← hZ1]; simp
      have hNZ1 : rdOb Z1 X.length 0 = some ⟨ws.map .i, 0, true, 1⟩ := by rw [← hZ1]; exact rdOb_app _ hNZ
      have h51 : rdOb Z1 Y.length 0 = some ⟨[w, u, .i t.kind, .i t.a, .i t.to, .i t.els], 0, true, 6⟩ := by rw [← hZ1]; exact rdOb_app _ h5
      have hpZ1 : Pre H Z1 := by rw [← hZ1]; exact hZ.app _
      have hgw : ws[kd]? = some (ws.getD kd 0) := by simp [List.getD_eq_getElem?_getD, show kd < ws.length by omega]
      have hb1 := hbd kd
      have hbd' := hbd.tick ph.d
      have htk : tick ws ph.d = ws.set kd (ws.getD kd 0 + 1) := by unfold tick; rw [hkd]; simp
      obtain ⟨z, hz⟩ : ∃ z, ws.getD kd 0 = z := ⟨_, rfl⟩
      rw [hz] at hgw hb1 htk
      have hzb : 0 ≤ z ∧ z ≤ 1000 := by omega
      have hix : idxOf 1 (.sl X.length 0 0 f.values.toNat) ph.d = some (.p X.length 0 kd) := by rw [hkd]; exact idx1 hkn
      unfold vf89b0
      simp [e5, e3, e15, e16, e17, e22, e23, e24, hj, r1, r2'.2.2, putD0, hZ1, rdC_ob h7, hix, rdC_ob hNZ1, hgw, hNZ1, show ws.length = f.values.toNat by omega, show kd + 1 ≤ f.values.toNat by omega, int_put (xs := ws) (i := kd) (by omega), up1 hj qpl, wrap64_id (show -9223372036854775808 ≤ z + 1 ∧ z + 1 ≤ 9223372036854775807 by omega)]
      refine (hJ _ _).2 ⟨hpZ1.set (by omega) _, ?_, ?_, ?_, by simp [e5, e3, e15, e16, e17, e22, e23]⟩
      · simp only; rw [hsu, htk, rdOb_set_self (rdOb_lt hNZ1)]; simp
      · rw [hsu]; exact hbd'
      · simp only; rw [rdOb_set_ne (by omega)]; exact h51
    · rintro ⟨e', Z⟩ hJs
      obtain ⟨hZ, hNZ, hbd, h5, e5, e3, e15, e16, e17, e22, e23, e24⟩ := (hJ _ _).1 hJs
      simp only at hZ hNZ h5 e5 e3 e15 e16 e17 e22 e23 e24 ⊢
      rw [List.take_length] at hNZ hbd
      have hwl := ticks_len f.blocks[i].phis vs
      obtain ⟨ws, hws⟩ : ∃ ws, f.blocks[i].phis.foldl (fun ws p => tick ws p.d) vs = ws := ⟨_, rfl⟩
      rw [hws] at hNZ hbd hwl
      unfold vf89b0
      simp [e5, e3, e15, e16, e17, e22, e23, e24, rdC_ob h5, hll]
      obtain ⟨L, hL⟩ : ∃ L : Nat → St → Prop, ∀ j st, L j st ↔ (Pre H st.h ∧ rdOb st.h X.length 0 = some ⟨((f.blocks[i].list.take j).foldl tickI ws).map .i, 0, true, 1⟩ ∧ Bd ((f.blocks[i].list.take j).foldl tickI ws) (48 * i + 24 + j) ∧
          Env.get st.e 3 = .c (.sl X.length 0 0 f.values.toNat) ∧ Env.get st.e 15 = .c v ∧ Env.get st.e 16 = .c (.i f.blocks.length) ∧ Env.get st.e 17 = .c (.i i) ∧ Env.get st.e 37 = .c u ∧ Env.get st.e 38 = .c (.i f.blocks[i].list.length) ∧ Env.get st.e 39 = .c (.i j)) := ⟨_, fun _ _ => Iff.rfl⟩
      refine wp_for CM_mono f.blocks[i].list.length L ((hL _ _).2 ⟨hZ, hNZ, hbd.mono (by omega), by simp [e3, e15, e16, e17]⟩) ?_ ?_
      · rintro j ⟨e2, W⟩ hj hLs
        obtain ⟨hW, hNW, hbd, e3, e15, e16, e17, e37, e38, e39⟩ := (hL _ _).1 hLs
        simp only at hW hNW e3 e15 e16 e17 e37 e38 e39 ⊢
        have hsu := fold_succ tickI ws hj
        have hul := ticksI_len (f.blocks[i].list.take j) ws
        obtain ⟨us, hus⟩ : ∃ us, (f.blocks[i].list.take j).foldl tickI ws = us := ⟨_, rfl⟩
        rw [hus] at hNW hbd hsu hul
        obtain ⟨id2, g2, off2, r1, _, r2, _⟩ := List5.get ql hj
        obtain ⟨GW, hGW⟩ := id hW
        have r2' := r2 GW
        rw [← hGW] at r2'
        obtain ⟨x, hx⟩ : ∃ x, f.blocks[i].list[j] = x := ⟨_, rfl⟩
        have hxB : insB x f.values = true := by rw [← hx]; exact shape_ins hsh hmem (List.getElem_mem hj)
        rw [hx] at r2' hsu
        obtain ⟨W1, hW1⟩ : ∃ W1, W ++ [(⟨[.i x.op, .i x.d, .i x.a, .i x.b, .i x.n], 0, true, 5⟩ : Ob)] = W1 := ⟨_, rfl⟩
        have h9 : rdOb W1 W.length 0 = some ⟨[.i x.op, .i x.d, .i x.a, .i x.b, .i x.n], 0, true, 5⟩ := by rw [← hW1]; simp
        have hNW1 : rdOb W1 X.length 0 = some ⟨us.map .i, 0, true, 1⟩ := by rw [← hW1]; exact rdOb_app _ hNW
        have hpW1 : Pre H W1 := by rw [← hW1]; exact hW.app _
        have hbd' := hbd.tickI x
        unfold vf89b1
        by_cases hd : 0 ≤ insDefF x
        · obtain ⟨kd, hkd, hkn⟩ := ins_def hxB hd
          have hgw : us[kd]? = some (us.getD kd 0) := by simp [List.getD_eq_getElem?_getD, show kd < us.length by omega]
          have hb1 := hbd kd
          have htk : tickI us x = us.set kd (us.getD kd 0 + 1) := by unfold tickI; rw [if_pos hd]; unfold tick; rw [hkd]; simp
          obtain ⟨z, hz⟩ : ∃ z, us.getD kd 0 = z := ⟨_, rfl⟩
          rw [hz] at hgw hb1 htk
          have hzb : 0 ≤ z ∧ z ≤ 1000 := by omega
          simp [e3, e15, e16, e17, e37, e38, e39, hj, r1, r2'.2.2.2.2.2, put5, hW1, rdN_ob h9, implInsDef, hkd, idx1 hkn, rdC_ob hNW1, hgw, hNW1, show us.length = f.values.toNat by omega, show kd + 1 ≤ f.values.toNat by omega, int_put (xs := us) (i := kd) (by omega), up1 hj qll, wrap64_id (show -9223372036854775808 ≤ z + 1 ∧ z + 1 ≤ 9223372036854775807 by omega)]
          refine (hL _ _).2 ⟨hpW1.set (by omega) _, ?_, ?_, by simp [e3, e15, e16, e17, e37, e38]⟩
          · simp only; rw [hsu, htk, rdOb_set_self (rdOb_lt hNW1)]; simp
          · rw [hsu]; exact hbd'
        · have htk : tickI us x = us := by unfold tickI; rw [if_neg hd]
          simp [e3, e15, e16, e17, e37, e38, e39, hj, r1, r2'.2.2.2.2.2, put5, hW1, rdN_ob h9, implInsDef, hd, up1 hj qll]
          refine (hL _ _).2 ⟨hpW1, ?_, ?_, by simp [e3, e15, e16, e17, e37, e38]⟩
          · rw [hsu, htk]; exact hNW1
          · rw [hsu]; exact hbd'
      · rintro ⟨e2, W⟩ hLs
        obtain ⟨hW, hNW, hbd, e3, e15, e16, e17, e37, e38, e39⟩ := (hL _ _).1 hLs
        simp only at hW hNW e3 e15 e16 e17 e37 e38 e39 ⊢
        rw [List.take_length] at hNW hbd
        have htb : tickB vs f.blocks[i] = f.blocks[i].list.foldl tickI ws := by unfold tickB; rw [hws]
        unfold vf89b1
        simp [e3, e15, e16, e17, e37, e38, e39, up1 hi hbb]
        refine (hI _ _).2 ⟨hW, ?_, ?_, by simp [e3, e15, e16]⟩
        · rw [hsucc, htb]; exact hNW
        · rw [hsucc, htb]; exact hbd.mono (by omega)
  · rintro ⟨e, Y⟩ hIs
    obtain ⟨hY, hN, hbd, e3, e15, e16, e17⟩ := (hI _ _).1 hIs
    simp only at hY hN e3 e15 e16 e17 ⊢
    rw [List.take_length] at hN
    unfold vf89b2
    simp [e3, e15, e16, e17]
    rw [gcRet_row hY hp.le hN rfl (by simp [flatC])]
    rfl
end Go.Proofs.YtgdfgnppeekfjaaGreat.Vm
end
