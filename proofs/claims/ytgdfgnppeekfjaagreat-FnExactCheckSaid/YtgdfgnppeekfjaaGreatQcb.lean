import Derived.Test.YtgdfgnppeekfjaaGreatQca
import Derived.Test.YtgdfgnppeekfjaaGreatP2
import Derived.Test.YtgdfgnppeekfjaaGreatP3
import Derived.Test.YtgdfgnppeekfjaaGreatP4
section
/- How often a value is made: both sides. No conditions. -/
namespace Go.Proofs.YtgdfgnppeekfjaaGreat.Vm
open Go.RowKit (wrap64)
set_option linter.unusedSimpArgs false
set_option linter.unusedVariables false

def Bd (vs : List Int) (K : Nat) : Prop := ∀ j : Nat, 0 ≤ vs.getD j 0 ∧ vs.getD j 0 ≤ (K : Int)
theorem Bd.tick {vs : List Int} {K : Nat} (h : Bd vs K) (d : Int) : Bd (tick vs d) (K + 1) := by
  intro j
  unfold Vm.tick
  rw [List.getD_eq_getElem?_getD, List.getElem?_set]
  have h1 := h j
  have h2 := h d.toNat
  by_cases e : d.toNat = j
  · rw [if_pos e]
    split
    · simp only [Option.getD_some]; omega
    · simp; omega
  · rw [if_neg e, ← List.getD_eq_getElem?_getD]; omega
theorem Bd.mono {vs : List Int} {K K' : Nat} (h : Bd vs K) (hk : K ≤ K') : Bd vs K' := fun j => by have := h j; omega
theorem Bd.tickI {vs : List Int} {K : Nat} (h : Bd vs K) (x : InsR) : Bd (tickI vs x) (K + 1) := by
  unfold Vm.tickI; split
  · exact h.tick _
  · exact h.mono (by omega)
theorem Bd.zero (n : Nat) : Bd (List.replicate n 0) 0 := fun j => by
  rw [List.getD_eq_getElem?_getD, List.getElem?_replicate]; split <;> simp
theorem ins_def {x : InsR} {m : Int} (h : insB x m = true) (hd : 0 ≤ insDefF x) : ∃ k : Nat, insDefF x = k ∧ k < m.toNat := by
  unfold insDefF at hd ⊢
  cases hm : makesF x.op with
  | false => rw [hm] at hd; simp at hd
  | true =>
    simp only [if_true]
    have hv : valB x.d m = true := by
      rcases ins_kinds h with hw | ⟨hw, hop⟩
      · exact (insB_word h hw).1
      · unfold insB at h
        rw [hw] at h
        unfold makesF at hm
        rcases hop with e | e | e | e | e | e <;> rw [e] at h hm <;> simp [wordOk, inB] at h hm
        · exact h.1.1
        · exact h.1.1.1
        · exact h.1.1.1
        · exact h.1.1.1
    exact val_nat hv
set_option maxRecDepth 100000 in
theorem specMade5 {H : Hp} {v : CV} {f : FnR} (hv : Blocks H v f.blocks) (hsh : shapeB f = true) (k : IV × Hp → Prop) :
    CM 97 [.agg [v, .i f.values]] H k = k (.c (.sl H.length 0 0 f.values.toNat), H ++ [⟨(madeF f).map .i, 0, true, 1⟩]) := by
  refine det (cw97 ?_) k
  unfold vf97c
  obtain ⟨s1, s2, s3, s4⟩ := shape_len hsh
  obtain ⟨X, hX⟩ : ∃ X, H ++ [(⟨[v, .i f.values], 0, true, 2⟩ : Ob)] = X := ⟨_, rfl⟩
  have hp : Pre H X := ⟨_, hX.symm⟩
  have hB : rdOb X H.length 0 = some ⟨[v, .i f.values], 0, true, 2⟩ := by rw [← hX]; simp
  have hlX : X.length = H.length + 1 := by rw [← hX]; simp
  have hvX := Blocks.pre hp hv
  have hl := hvX.lenOf
  have hm1 : (0 ≤ f.values ∧ f.values ≤ (LIM : Int)) = True := eq_true ⟨s3, by simp only [LIM]; omega⟩
  have hbb : f.blocks.length ≤ BIG := by simp only [BIG]; omega
  have hzz : List.replicate f.values.toNat (CV.i 0) = (List.replicate f.values.toNat (0 : Int)).map .i := by simp
  simp [hX, rdC_ob hB, hm1]
  obtain ⟨I, hI⟩ : ∃ I : Nat → St → Prop, ∀ i st, I i st ↔ (st.h = X ++ [⟨((f.blocks.take i).foldl tickB (List.replicate f.values.toNat 0)).map .i, 0, true, 1⟩] ∧ Bd ((f.blocks.take i).foldl tickB (List.replicate f.values.toNat 0)) (48 * i) ∧
      Env.get st.e 1 = .c (.p H.length 0 0) ∧ Env.get st.e 3 = .c (.sl X.length 0 0 f.values.toNat) ∧ Env.get st.e 4 = .c (.i i)) := ⟨_, fun _ _ => Iff.rfl⟩
  refine wp_for CM_mono f.blocks.length I ((hI _ _).2 ⟨by simp, by simpa using Bd.zero _, by simp⟩) ?_ ?_
  · rintro i ⟨e, Y⟩ hi hIs
    obtain ⟨hY, hbd, e1, e3, e4⟩ := (hI _ _).1 hIs
    simp only at hY e1 e3 e4 ⊢
    have hsucc := fold_succ tickB (List.replicate f.values.toNat 0) hi
    have hvl := ticksB_len (f.blocks.take i) (List.replicate f.values.toNat 0)
    obtain ⟨vs, hvs⟩ : ∃ vs, (f.blocks.take i).foldl tickB (List.replicate f.values.toNat 0) = vs := ⟨_, rfl⟩
    rw [hvs] at hY hsucc hbd hvl
    rw [List.length_replicate] at hvl
    have hmem : f.blocks[i] ∈ f.blocks := List.getElem_mem hi
    have hlens := shape_lens hsh hmem
    have hBY : rdOb Y H.length 0 = some ⟨[v, .i f.values], 0, true, 2⟩ := by rw [hY]; exact rdOb_app _ hB
    unfold vf97b2
    simp [e1, e3, e4, rdC_ob hBY, hl, hi]
    obtain ⟨J, hJ⟩ : ∃ J : Nat → St → Prop, ∀ j st, J j st ↔ (st.h = X ++ [⟨((f.blocks[i].phis.take j).foldl (fun ws p => tick ws p.d) vs).map .i, 0, true, 1⟩] ∧ Bd ((f.blocks[i].phis.take j).foldl (fun ws p => tick ws p.d) vs) (48 * i + j) ∧
        Env.get st.e 1 = .c (.p H.length 0 0) ∧ Env.get st.e 3 = .c (.sl X.length 0 0 f.values.toNat) ∧ Env.get st.e 4 = .c (.i i) ∧ Env.get st.e 5 = .c (.i j)) := ⟨_, fun _ _ => Iff.rfl⟩
    refine wp_for CM_mono f.blocks[i].phis.length J ((hJ _ _).2 ⟨hY, hbd, by simp [e1, e3, e4]⟩) ?_ ?_
    · rintro j ⟨e', Z⟩ hj hJs
      obtain ⟨hZ, hbd, e1, e3, e4, e5⟩ := (hJ _ _).1 hJs
      simp only at hZ e1 e3 e4 e5 ⊢
      have hsu := fold_succ (fun ws (p : PhiR) => tick ws p.d) vs hj
      have hwl := ticks_len (f.blocks[i].phis.take j) vs
      obtain ⟨ws, hws⟩ : ∃ ws, (f.blocks[i].phis.take j).foldl (fun ws p => tick ws p.d) vs = ws := ⟨_, rfl⟩
      rw [hws] at hZ hbd hsu hwl
      have hpZ : Pre X Z := ⟨_, hZ⟩
      have hBZ := hpZ.rdOb hB
      have hvZ := hvX.pre hpZ
      obtain ⟨id, g, off, w, u, q1, q2, _, qp, _, qpl, _, _, _⟩ := Blocks.get hvZ hi
      obtain ⟨id2, g2, off2, w2, r1, r2, _⟩ := Phis.get qp hj
      obtain ⟨hvd, _⟩ := phi_vals (shape_phi hsh hmem (List.getElem_mem hj))
      obtain ⟨kd, hkd, hkn⟩ := val_nat hvd
      have hNZ : rdOb Z X.length 0 = some ⟨ws.map .i, 0, true, 1⟩ := by rw [hZ]; simp
      have hgw : ws[kd]? = some (ws.getD kd 0) := by simp [List.getD_eq_getElem?_getD, show kd < ws.length by omega]
      have hb1 := hbd kd
      have hbd' := hbd.tick (f.blocks[i].phis[j].d)
      have htk : tick ws f.blocks[i].phis[j].d = ws.set kd (ws.getD kd 0 + 1) := by unfold tick; rw [hkd]; simp
      obtain ⟨z, hz⟩ : ∃ z, ws.getD kd 0 = z := ⟨_, rfl⟩
      rw [hz] at hgw hb1 htk
      have hset : Z.set X.length ⟨(ws.map .i).set kd (.i (z + 1)), 0, true, 1⟩ = X ++ [⟨(ws.set kd (z + 1)).map .i, 0, true, 1⟩] := by rw [hZ, set_self]; simp
      have hzb : 0 ≤ z ∧ z ≤ 1000 := by omega
      have hpl := qp.lenOf
      unfold vf97b0
      simp [e1, e3, e4, e5, rdC_ob hBZ, q1, q2.1, hpl, hj, r1, r2.1, hkd, idx1 hkn, rdC_ob hNZ, hgw, hNZ, show ws.length = f.values.toNat by omega, show kd + 1 ≤ f.values.toNat by omega, int_put (xs := ws) (i := kd) (by omega), hset, up1 hj qpl, wrap64_id (show -9223372036854775808 ≤ z + 1 ∧ z + 1 ≤ 9223372036854775807 by omega)]
      refine (hJ _ _).2 ⟨?_, ?_, by simp [e1, e3, e4]⟩
      · rw [hsu, htk]; simp
      · rw [hsu]; exact hbd'
    · rintro ⟨e', Z⟩ hJs
      obtain ⟨hZ, hbd, e1, e3, e4, e5⟩ := (hJ _ _).1 hJs
      simp only at hZ e1 e3 e4 e5 ⊢
      rw [List.take_length] at hZ hbd
      have hwl := ticks_len f.blocks[i].phis vs
      obtain ⟨ws, hws⟩ : ∃ ws, f.blocks[i].phis.foldl (fun ws p => tick ws p.d) vs = ws := ⟨_, rfl⟩
      rw [hws] at hZ hbd hwl
      have hpZ : Pre X Z := ⟨_, hZ⟩
      have hBZ := hpZ.rdOb hB
      have hvZ := hvX.pre hpZ
      obtain ⟨id, g, off, w, u, q1, q2, _, qp, _, qpl, _, _, _⟩ := Blocks.get hvZ hi
      have hpl := qp.lenOf
      unfold vf97b0
      simp [e1, e3, e4, e5, rdC_ob hBZ, q1, q2.1, hpl]
      obtain ⟨L, hL⟩ : ∃ L : Nat → St → Prop, ∀ j st, L j st ↔ (st.h = X ++ [⟨((f.blocks[i].list.take j).foldl tickI ws).map .i, 0, true, 1⟩] ∧ Bd ((f.blocks[i].list.take j).foldl tickI ws) (48 * i + 24 + j) ∧
          Env.get st.e 1 = .c (.p H.length 0 0) ∧ Env.get st.e 3 = .c (.sl X.length 0 0 f.values.toNat) ∧ Env.get st.e 4 = .c (.i i) ∧ Env.get st.e 6 = .c (.i j)) := ⟨_, fun _ _ => Iff.rfl⟩
      refine wp_for CM_mono f.blocks[i].list.length L ((hL _ _).2 ⟨hZ, hbd.mono (by omega), by simp [e1, e3, e4]⟩) ?_ ?_
      · rintro j ⟨e2, W⟩ hj hLs
        obtain ⟨hW, hbd, e1, e3, e4, e6⟩ := (hL _ _).1 hLs
        simp only at hW e1 e3 e4 e6 ⊢
        have hsu := fold_succ tickI ws hj
        have hul := ticksI_len (f.blocks[i].list.take j) ws
        obtain ⟨us, hus⟩ : ∃ us, (f.blocks[i].list.take j).foldl tickI ws = us := ⟨_, rfl⟩
        rw [hus] at hW hbd hsu hul
        have hpW : Pre X W := ⟨_, hW⟩
        have hBW := hpW.rdOb hB
        have hvW := hvX.pre hpW
        obtain ⟨id, g, off, w, u, q1, q2, _, _, ql, _, qll, _, _⟩ := Blocks.get hvW hi
        obtain ⟨id2, g2, off2, r1, ⟨_, _, _, _, _, r2⟩, _⟩ := List5.get ql hj
        obtain ⟨x, hx⟩ : ∃ x, f.blocks[i].list[j] = x := ⟨_, rfl⟩
        have hxB : insB x f.values = true := by rw [← hx]; exact shape_ins hsh hmem (List.getElem_mem hj)
        rw [hx] at r2 hsu
        have hNW : rdOb W X.length 0 = some ⟨us.map .i, 0, true, 1⟩ := by rw [hW]; simp
        have hbd' := hbd.tickI x
        have hll := ql.lenOf
        unfold vf97b1
        by_cases hd : 0 ≤ insDefF x
        · obtain ⟨kd, hkd, hkn⟩ := ins_def hxB hd
          have hgw : us[kd]? = some (us.getD kd 0) := by simp [List.getD_eq_getElem?_getD, show kd < us.length by omega]
          have hb1 := hbd kd
          have htk : tickI us x = us.set kd (us.getD kd 0 + 1) := by unfold tickI; rw [if_pos hd]; unfold tick; rw [hkd]; simp
          obtain ⟨z, hz⟩ : ∃ z, us.getD kd 0 = z := ⟨_, rfl⟩
          rw [hz] at hgw hb1 htk
          have hset : W.set X.length ⟨(us.map .i).set kd (.i (z + 1)), 0, true, 1⟩ = X ++ [⟨(us.set kd (z + 1)).map .i, 0, true, 1⟩] := by rw [hW, set_self]; simp
          have hzb : 0 ≤ z ∧ z ≤ 1000 := by omega
          simp [e1, e3, e4, e6, rdC_ob hBW, q1, q2.2.1, hll, hj, r1, r2, specInsDef, hkd, idx1 hkn, rdC_ob hNW, hgw, hNW, show us.length = f.values.toNat by omega, show kd + 1 ≤ f.values.toNat by omega, int_put (xs := us) (i := kd) (by omega), hset, up1 hj qll, wrap64_id (show -9223372036854775808 ≤ z + 1 ∧ z + 1 ≤ 9223372036854775807 by omega)]
          refine (hL _ _).2 ⟨?_, ?_, by simp [e1, e3, e4]⟩
          · rw [hsu, htk]; simp
          · rw [hsu]; exact hbd'
        · have htk : tickI us x = us := by unfold tickI; rw [if_neg hd]
          simp [e1, e3, e4, e6, rdC_ob hBW, q1, q2.2.1, hll, hj, r1, r2, specInsDef, hd, up1 hj qll]
          refine (hL _ _).2 ⟨?_, ?_, by simp [e1, e3, e4]⟩
          · rw [hsu, htk]; exact hW
          · rw [hsu]; exact hbd'
      · rintro ⟨e2, W⟩ hLs
        obtain ⟨hW, hbd, e1, e3, e4, e6⟩ := (hL _ _).1 hLs
        simp only at hW e1 e3 e4 e6 ⊢
        rw [List.take_length] at hW hbd
        have hpW : Pre X W := ⟨_, hW⟩
        have hBW := hpW.rdOb hB
        have hvW := hvX.pre hpW
        obtain ⟨id, g, off, w, u, q1, q2, _, _, ql, _, qll, _, _⟩ := Blocks.get hvW hi
        have hll := ql.lenOf
        have htb : tickB vs f.blocks[i] = f.blocks[i].list.foldl tickI ws := by unfold tickB; rw [hws]
        unfold vf97b1
        simp [e1, e3, e4, e6, rdC_ob hBW, q1, q2.2.1, hll, up1 hi hbb]
        refine (hI _ _).2 ⟨?_, ?_, by simp [e1, e3]⟩
        · rw [hsucc, htb]; exact hW
        · rw [hsucc, htb]; exact hbd.mono (by omega)
  · rintro ⟨e, Y⟩ hIs
    obtain ⟨hY, hbd, e1, e3, e4⟩ := (hI _ _).1 hIs
    simp only at hY e1 e3 e4 ⊢
    rw [List.take_length] at hY
    have hBY : rdOb Y H.length 0 = some ⟨[v, .i f.values], 0, true, 2⟩ := by rw [hY]; exact rdOb_app _ hB
    have hN : rdOb Y X.length 0 = some ⟨(madeF f).map .i, 0, true, 1⟩ := by rw [hY]; unfold madeF; simp
    unfold vf97b2
    simp [e1, e3, e4, rdC_ob hBY, hl]
    rw [gcRet_row (hp.trans ⟨_, hY⟩) hp.le hN rfl (by simp [flatC])]
end Go.Proofs.YtgdfgnppeekfjaaGreat.Vm
end
