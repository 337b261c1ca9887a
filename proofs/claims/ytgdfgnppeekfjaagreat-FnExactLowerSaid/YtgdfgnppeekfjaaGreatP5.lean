import Derived.Test.YtgdfgnppeekfjaaGreatP2
import Derived.Test.YtgdfgnppeekfjaaGreatQze
import Derived.Test.YtgdfgnppeekfjaaGreatP4
import Derived.Test.YtgdfgnppeekfjaaGreatP3
import Derived.Test.YtgdfgnppeekfjaaGreatQgo
section
/- The look: what it looks for, plain; copies and how often a value is made, both sides. No conditions. -/
namespace Go.Proofs.YtgdfgnppeekfjaaGreat.Vm
open Go.RowKit (wrap64)
set_option linter.unusedSimpArgs false
set_option linter.unusedVariables false
/-! ### Plain -/
def copiesB (bs : List BlkR) : Bool := bs.any fun b => b.list.any fun x => decide (x.op = 25)
def tick (vs : List Int) (d : Int) : List Int := vs.set d.toNat (vs.getD d.toNat 0 + 1)
def tickI (vs : List Int) (x : InsR) : List Int := if 0 ≤ insDefF x then tick vs (insDefF x) else vs
def tickB (vs : List Int) (b : BlkR) : List Int := b.list.foldl tickI (b.phis.foldl (fun ws p => tick ws p.d) vs)
def madeF (f : FnR) : List Int := f.blocks.foldl tickB (List.replicate f.values.toNat 0)
def fromsF (p : PhiR) : List Int := p.arms.map (·.fr)
def homeF (bs : List BlkR) (v : Int) : Int × Int := defGo v bs 0
def atB (bs : List BlkR) (v : Int) (b : Nat) (i : Int) : Bool := if (homeF bs v).1 = b then decide ((homeF bs v).2 < i) else hasI (domF bs b) (homeF bs v).1
theorem tick_len (vs : List Int) (d : Int) : (tick vs d).length = vs.length := by simp [tick]
theorem tickI_len (vs : List Int) (x : InsR) : (tickI vs x).length = vs.length := by unfold tickI; split <;> simp [tick_len]
theorem ticks_len : ∀ (ps : List PhiR) (vs : List Int), (ps.foldl (fun ws p => tick ws p.d) vs).length = vs.length := by
  intro ps
  induction ps with
  | nil => intro vs; rfl
  | cons p r ih => intro vs; rw [List.foldl_cons, ih, tick_len]
theorem ticksI_len : ∀ (xs : List InsR) (vs : List Int), (xs.foldl tickI vs).length = vs.length := by
  intro xs
  induction xs with
  | nil => intro vs; rfl
  | cons p r ih => intro vs; rw [List.foldl_cons, ih, tickI_len]
theorem tickB_len (vs : List Int) (b : BlkR) : (tickB vs b).length = vs.length := by unfold tickB; rw [ticksI_len, ticks_len]
theorem ticksB_len : ∀ (bs : List BlkR) (vs : List Int), (bs.foldl tickB vs).length = vs.length := by
  intro bs
  induction bs with
  | nil => intro vs; rfl
  | cons p r ih => intro vs; rw [List.foldl_cons, ih, tickB_len]
theorem fold_succ {α β : Type} (f : β → α → β) (x0 : β) {xs : List α} {i : Nat} (hi : i < xs.length) : (xs.take (i + 1)).foldl f x0 = f ((xs.take i).foldl f x0) xs[i] := by
  rw [List.take_succ_eq_append_getElem hi, List.foldl_append]; rfl
theorem any_yes {α : Type} {p : α → Bool} {xs : List α} {i : Nat} (hi : i < xs.length) (h : p xs[i] = true) : xs.any p = true := by
  rw [List.any_eq_true]; exact ⟨_, List.getElem_mem hi, h⟩
/-! ### Copies -/
theorem copy1 {H : Hp} (x : InsR) (k : IV × Hp → Prop) : CM 151 [.agg [.i x.op, .i x.d, .i x.a, .i x.b, .i x.n]] H k = k (.c (.b (decide (x.op = 25))), H) := by
  refine det (cw151 ?_) k
  unfold vf151c
  simp
theorem copy2 {H : Hp} {cs : List CV} {b : BlkR} (hP : blkP BIG H cs b) (k : IV × Hp → Prop) : CM 150 [.agg cs] H k = k (.c (.b (b.list.any fun x => decide (x.op = 25))), H) := by
  obtain ⟨w, u, rfl, h1, h2, h3, h4⟩ := hP
  refine det (cw150 ?_) k
  unfold vf150c
  simp [trmC]
  have h2' : List5 (H ++ [(⟨[w, u, .i b.term.kind, .i b.term.a, .i b.term.to, .i b.term.els], 0, true, 6⟩ : Ob)]) u b.list := h2.pre (fun _ _ => insP.pre) ⟨_, rfl⟩
  rw [containsIns h2' h4 (fid := 151) (caps := []) (fun x => decide (x.op = 25)) (fun i hi cs hcs k => by
    have hcs : cs = insC b.list[i] := hcs
    subst hcs
    exact copy1 _ k)]
  simp
theorem implCopies {H : Hp} {v : CV} {bs : List BlkR} {m : Int} (hv : Blocks H v bs) (hb : bs.length ≤ BIG) (k : IV × Hp → Prop) : CM 85 [.agg [v, .i m]] H k = k (.c (.b (copiesB bs)), H) := by
  refine det (cw85 ?_) k
  unfold vf85c
  simp
  rw [containsBlk (hv.app _) hb (fid := 150) (caps := []) (fun b => b.list.any fun x => decide (x.op = 25)) (fun i hi cs hcs k => copy2 hcs k)]
  simp [copiesB]
theorem specCopies {H : Hp} {v : CV} {bs : List BlkR} {m : Int} (hv : Blocks H v bs) (hb : bs.length ≤ BIG) (k : IV × Hp → Prop) : CM 93 [.agg [v, .i m]] H k = k (.c (.b (copiesB bs)), H) := by
  refine det (cw93 ?_) k
  unfold vf93c
  obtain ⟨X, hX⟩ : ∃ X, H ++ [(⟨[v, .i m], 0, true, 2⟩ : Ob)] = X := ⟨_, rfl⟩
  have hp : Pre H X := ⟨_, hX.symm⟩
  have hB : rdOb X H.length 0 = some ⟨[v, .i m], 0, true, 2⟩ := by rw [← hX]; simp
  have hvX := Blocks.pre hp hv
  have hl := hvX.lenOf
  simp [hX]
  refine wp_for CM_mono bs.length (fun i s => (∀ j (hj : j < i) (hx : j < bs.length), (bs[j].list.any fun x => decide (x.op = 25)) = false) ∧ s.h = X ∧ Env.get s.e 1 = .c (.p H.length 0 0) ∧ Env.get s.e 3 = .c (.i i)) (by simp) ?_ ?_
  · rintro i ⟨e, Y⟩ hi ⟨ht, rfl, e1, e3⟩
    simp only at e1 e3 hB hvX hp ⊢
    obtain ⟨id, g, off, w, u, q1, q2, _, _, q3, _, q4, _, _⟩ := Blocks.get hvX hi
    have hlu := q3.lenOf
    unfold vf93b1
    simp [e1, e3, rdC_ob hB, hl, hi]
    refine wp_for CM_mono bs[i].list.length (fun j s => (∀ k (hk : k < j) (hx : k < bs[i].list.length), ¬ bs[i].list[k].op = 25) ∧ s.h = Y ∧ Env.get s.e 1 = .c (.p H.length 0 0) ∧ Env.get s.e 3 = .c (.i i) ∧ Env.get s.e 4 = .c (.i j)) (by simp [e1, e3]) ?_ ?_
    · rintro j ⟨e', Z⟩ hj ⟨ht2, rfl, e1, e3, e4⟩
      simp only at e1 e3 e4 hB hvX hp q1 q2 q3 ⊢
      obtain ⟨id2, g2, off2, r1, ⟨r2, _⟩, _⟩ := List5.get q3 hj
      unfold vf93b0
      by_cases hop : bs[i].list[j].op = 25
      · have hany : copiesB bs = true := any_yes hi (any_yes hj (by simp [hop]))
        simp [e1, e3, e4, rdC_ob hB, q1, q2.2.1, hlu, hj, r1, r2, hop, hany]
        rw [gcRet_flat hp rfl]
      · simp [e1, e3, e4, rdC_ob hB, q1, q2.2.1, hlu, hj, r1, r2, hop, up1 hj q4]
        intro k hk hx
        by_cases ek : k = j
        · subst ek; exact hop
        · exact ht2 k (by omega) hx
    · rintro ⟨e', Z⟩ ⟨ht2, rfl, e1, e3, e4⟩
      simp only at e1 e3 e4 hB q1 q2 ⊢
      unfold vf93b0
      simp [e1, e3, e4, rdC_ob hB, q1, q2.2.1, hlu, up1 hi hb]
      intro j hj hx
      by_cases ej : j = i
      · subst ej
        intro x hx2
        obtain ⟨k, hk, rfl⟩ := List.getElem_of_mem hx2
        exact ht2 k hk hk
      · have := ht j (by omega) hx
        rw [List.any_eq_false] at this
        intro x hx2
        simpa using this x hx2
  · rintro ⟨e, Y⟩ ⟨ht, rfl, e1, e3⟩
    simp only at e1 e3 hB hvX hp ⊢
    have hno : copiesB bs = false := by
      unfold copiesB
      rw [List.any_eq_false]
      intro b hb
      obtain ⟨j, hj, rfl⟩ := List.getElem_of_mem hb
      rw [ht j hj hj]; simp
    unfold vf93b1
    simp [e1, e3, rdC_ob hB, hl, hno]
    rw [gcRet_flat hp rfl]
end Go.Proofs.YtgdfgnppeekfjaaGreat.Vm
end
section
/- How often a value is made: both sides. No conditions. -/
namespace Go.Proofs.YtgdfgnppeekfjaaGreat.Vm
open Go.RowKit (wrap64)
set_option linter.unusedSimpArgs false
set_option linter.unusedVariables false
def Bd (vs : List Int) (K : Nat) : Prop := ∀ j : Nat, 0 ≤ vs.getD j 0 ∧ vs.getD j 0 ≤ (K : Int)
theorem Bd.tick {vs : List Int} {K : Nat} (h : Bd vs K) (d : Int) : Bd (tick vs d) (K + 1) := by
  intro j
  unfold Vm.tick
  rw [List.getD_eq_getElem?_getD, List.getElem?_set]
  have h1 := h j
  have h2 := h d.toNat
  by_cases e : d.toNat = j
  · rw [if_pos e]
    split
    · simp only [Option.getD_some]; omega
    · simp; omega
  · rw [if_neg e, ← List.getD_eq_getElem?_getD]; omega
theorem Bd.mono {vs : List Int} {K K' : Nat} (h : Bd vs K) (hk : K ≤ K') : Bd vs K' := fun j => by have := h j; omega
theorem Bd.tickI {vs : List Int} {K : Nat} (h : Bd vs K) (x : InsR) : Bd (tickI vs x) (K + 1) := by
  unfold Vm.tickI; split
  · exact h.tick _
  · exact h.mono (by omega)
theorem Bd.zero (n : Nat) : Bd (List.replicate n 0) 0 := fun j => by
  rw [List.getD_eq_getElem?_getD, List.getElem?_replicate]; split <;> simp
theorem ins_def {x : InsR} {m : Int} (h : insB x m = true) (hd : 0 ≤ insDefF x) : ∃ k : Nat, insDefF x = k ∧ k < m.toNat := by
  unfold insDefF at hd ⊢
  cases hm : makesF x.op with
  | false => rw [hm] at hd; simp at hd
  | true =>
    simp only [if_true]
    have hv : valB x.d m = true := by
      rcases ins_kinds h with hw | ⟨hw, hop⟩
      · exact (insB_word h hw).1
      · unfold insB at h
        rw [hw] at h
        unfold makesF at hm
        rcases hop with e | e | e | e | e | e <;> rw [e] at h hm <;> simp [wordOk, inB] at h hm
        · exact h.1.1
        · exact h.1.1.1
        · exact h.1.1.1
        · exact h.1.1.1
    exact val_nat hv
set_option maxRecDepth 100000 in
theorem specMade5 {H : Hp} {v : CV} {f : FnR} (hv : Blocks H v f.blocks) (hsh : shapeB f = true) (k : IV × Hp → Prop) :
    CM 97 [.agg [v, .i f.values]] H k = k (.c (.sl H.length 0 0 f.values.toNat), H ++ [⟨(madeF f).map .i, 0, true, 1⟩]) := by
  refine det (cw97 ?_) k
  unfold vf97c
  obtain ⟨s1, s2, s3, s4⟩ := shape_len hsh
  obtain ⟨X, hX⟩ : ∃ X, H ++ [(⟨[v, .i f.values], 0, true, 2⟩ : Ob)] = X := ⟨_, rfl⟩
  have hp : Pre H X := ⟨_, hX.symm⟩
  have hB : rdOb X H.length 0 = some ⟨[v, .i f.values], 0, true, 2⟩ := by rw [← hX]; simp
  have hlX : X.length = H.length + 1 := by rw [← hX]; simp
  have hvX := Blocks.pre hp hv
  have hl := hvX.lenOf
  have hm1 : (0 ≤ f.values ∧ f.values ≤ (LIM : Int)) = True := eq_true ⟨s3, by simp only [LIM]; omega⟩
  have hbb : f.blocks.length ≤ BIG := by simp only [BIG]; omega
  have hzz : List.replicate f.values.toNat (CV.i 0) = (List.replicate f.values.toNat (0 : Int)).map .i := by simp
  simp [hX, rdC_ob hB, hm1]
  obtain ⟨I, hI⟩ : ∃ I : Nat → St → Prop, ∀ i st, I i st ↔ (st.h = X ++ [⟨((f.blocks.take i).foldl tickB (List.replicate f.values.toNat 0)).map .i, 0, true, 1⟩] ∧ Bd ((f.blocks.take i).foldl tickB (List.replicate f.values.toNat 0)) (48 * i) ∧
      Env.get st.e 1 = .c (.p H.length 0 0) ∧ Env.get st.e 3 = .c (.sl X.length 0 0 f.values.toNat) ∧ Env.get st.e 4 = .c (.i i)) := ⟨_, fun _ _ => Iff.rfl⟩
  refine wp_for CM_mono f.blocks.length I ((hI _ _).2 ⟨by simp, by simpa using Bd.zero _, by simp⟩) ?_ ?_
  · rintro i ⟨e, Y⟩ hi hIs
    obtain ⟨hY, hbd, e1, e3, e4⟩ := (hI _ _).1 hIs
    simp only at hY e1 e3 e4 ⊢
    have hsucc := fold_succ tickB (List.replicate f.values.toNat 0) hi
    have hvl := ticksB_len (f.blocks.take i) (List.replicate f.values.toNat 0)
    obtain ⟨vs, hvs⟩ : ∃ vs, (f.blocks.take i).foldl tickB (List.replicate f.values.toNat 0) = vs := ⟨_, rfl⟩
    rw [hvs] at hY hsucc hbd hvl
    rw [List.length_replicate] at hvl
    have hmem : f.blocks[i] ∈ f.blocks := List.getElem_mem hi
    have hlens := shape_lens hsh hmem
    have hBY : rdOb Y H.length 0 = some ⟨[v, .i f.values], 0, true, 2⟩ := by rw [hY]; exact rdOb_app _ hB
    unfold vf97b2
    simp [e1, e3, e4, rdC_ob hBY, hl, hi]
    obtain ⟨J, hJ⟩ : ∃ J : Nat → St → Prop, ∀ j st, J j st ↔ (st.h = X ++ [⟨((f.blocks[i].phis.take j).foldl (fun ws p => tick ws p.d) vs).map .i, 0, true, 1⟩] ∧ Bd ((f.blocks[i].phis.take j).foldl (fun ws p => tick ws p.d) vs) (48 * i + j) ∧
        Env.get st.e 1 = .c (.p H.length 0 0) ∧ Env.get st.e 3 = .c (.sl X.length 0 0 f.values.toNat) ∧ Env.get st.e 4 = .c (.i i) ∧ Env.get st.e 5 = .c (.i j)) := ⟨_, fun _ _ => Iff.rfl⟩
    refine wp_for CM_mono f.blocks[i].phis.length J ((hJ _ _).2 ⟨hY, hbd, by simp [e1, e3, e4]⟩) ?_ ?_
    · rintro j ⟨e', Z⟩ hj hJs
      obtain ⟨hZ, hbd, e1, e3, e4, e5⟩ := (hJ _ _).1 hJs
      simp only at hZ e1 e3 e4 e5 ⊢
      have hsu := fold_succ (fun ws (p : PhiR) => tick ws p.d) vs hj
      have hwl := ticks_len (f.blocks[i].phis.take j) vs
      obtain ⟨ws, hws⟩ : ∃ ws, (f.blocks[i].phis.take j).foldl (fun ws p => tick ws p.d) vs = ws := ⟨_, rfl⟩
      rw [hws] at hZ hbd hsu hwl
      have hpZ : Pre X Z := ⟨_, hZ⟩
      have hBZ := hpZ.rdOb hB
      have hvZ := hvX.pre hpZ
      obtain ⟨id, g, off, w, u, q1, q2, _, qp, _, qpl, _, _, _⟩ := Blocks.get hvZ hi
      obtain ⟨id2, g2, off2, w2, r1, r2, _⟩ := Phis.get qp hj
      obtain ⟨hvd, _⟩ := phi_vals (shape_phi hsh hmem (List.getElem_mem hj))
      obtain ⟨kd, hkd, hkn⟩ := val_nat hvd
      have hNZ : rdOb Z X.length 0 = some ⟨ws.map .i, 0, true, 1⟩ := by rw [hZ]; simp
      have hgw : ws[kd]? = some (ws.getD kd 0) := by simp [List.getD_eq_getElem?_getD, show kd < ws.length by omega]
      have hb1 := hbd kd
      have hbd' := hbd.tick (f.blocks[i].phis[j].d)
      have htk : tick ws f.blocks[i].phis[j].d = ws.set kd (ws.getD kd 0 + 1) := by unfold tick; rw [hkd]; simp
      obtain ⟨z, hz⟩ : ∃ z, ws.getD kd 0 = z := ⟨_, rfl⟩
      rw [hz] at hgw hb1 htk
      have hset : Z.set X.length ⟨(ws.map .i).set kd (.i (z + 1)), 0, true, 1⟩ = X ++ [⟨(ws.set kd (z + 1)).map .i, 0, true, 1⟩] := by rw [hZ, set_self]; simp
      have hzb : 0 ≤ z ∧ z ≤ 1000 := by omega
      have hpl := qp.lenOf
      unfold vf97b0
      simp [e1, e3, e4, e5, rdC_ob hBZ, q1, q2.1, hpl, hj, r1, r2.1, hkd, idx1 hkn, rdC_ob hNZ, hgw, hNZ, show ws.length = f.values.toNat by omega, show kd + 1 ≤ f.values.toNat by omega, int_put (xs := ws) (i := kd) (by omega), hset, up1 hj qpl, wrap64_id (show -9223372036854775808 ≤ z + 1 ∧ z + 1 ≤ 9223372036854775807 by omega)]
      refine (hJ _ _).2 ⟨?_, ?_, by simp [e1, e3, e4]⟩
      · rw [hsu, htk]; simp
      · rw [hsu]; exact hbd'
    · rintro ⟨e', Z⟩ hJs
      obtain ⟨hZ, hbd, e1, e3, e4, e5⟩ := (hJ _ _).1 hJs
      simp only at hZ e1 e3 e4 e5 ⊢
      rw [List.take_length] at hZ hbd
      have hwl := ticks_len f.blocks[i].phis vs
      obtain ⟨ws, hws⟩ : ∃ ws, f.blocks[i].phis.foldl (fun ws p => tick ws p.d) vs = ws := ⟨_, rfl⟩
      rw [hws] at hZ hbd hwl
      have hpZ : Pre X Z := ⟨_, hZ⟩
      have hBZ := hpZ.rdOb hB
      have hvZ := hvX.pre hpZ
      obtain ⟨id, g, off, w, u, q1, q2, _, qp, _, qpl, _, _, _⟩ := Blocks.get hvZ hi
      have hpl := qp.lenOf
      unfold vf97b0
      simp [e1, e3, e4, e5, rdC_ob hBZ, q1, q2.1, hpl]
      obtain ⟨L, hL⟩ : ∃ L : Nat → St → Prop, ∀ j st, L j st ↔ (st.h = X ++ [⟨((f.blocks[i].list.take j).foldl tickI ws).map .i, 0, true, 1⟩] ∧ Bd ((f.blocks[i].list.take j).foldl tickI ws) (48 * i + 24 + j) ∧
          Env.get st.e 1 = .c (.p H.length 0 0) ∧ Env.get st.e 3 = .c (.sl X.length 0 0 f.values.toNat) ∧ Env.get st.e 4 = .c (.i i) ∧ Env.get st.e 6 = .c (.i j)) := ⟨_, fun _ _ => Iff.rfl⟩
      refine wp_for CM_mono f.blocks[i].list.length L ((hL _ _).2 ⟨hZ, hbd.mono (by omega), by simp [e1, e3, e4]⟩) ?_ ?_
      · rintro j ⟨e2, W⟩ hj hLs
        obtain ⟨hW, hbd, e1, e3, e4, e6⟩ := (hL _ _).1 hLs
        simp only at hW e1 e3 e4 e6 ⊢
        have hsu := fold_succ tickI ws hj
        have hul := ticksI_len (f.blocks[i].list.take j) ws
        obtain ⟨us, hus⟩ : ∃ us, (f.blocks[i].list.take j).foldl tickI ws = us := ⟨_, rfl⟩
        rw [hus] at hW hbd hsu hul
        have hpW : Pre X W := ⟨_, hW⟩
        have hBW := hpW.rdOb hB
        have hvW := hvX.pre hpW
        obtain ⟨id, g, off, w, u, q1, q2, _, _, ql, _, qll, _, _⟩ := Blocks.get hvW hi
        obtain ⟨id2, g2, off2, r1, ⟨_, _, _, _, _, r2⟩, _⟩ := List5.get ql hj
        obtain ⟨x, hx⟩ : ∃ x, f.blocks[i].list[j] = x := ⟨_, rfl⟩
        have hxB : insB x f.values = true := by rw [← hx]; exact shape_ins hsh hmem (List.getElem_mem hj)
        rw [hx] at r2 hsu
        have hNW : rdOb W X.length 0 = some ⟨us.map .i, 0, true, 1⟩ := by rw [hW]; simp
        have hbd' := hbd.tickI x
        have hll := ql.lenOf
        unfold vf97b1
        by_cases hd : 0 ≤ insDefF x
        · obtain ⟨kd, hkd, hkn⟩ := ins_def hxB hd
          have hgw : us[kd]? = some (us.getD kd 0) := by simp [List.getD_eq_getElem?_getD, show kd < us.length by omega]
          have hb1 := hbd kd
          have htk : tickI us x = us.set kd (us.getD kd 0 + 1) := by unfold tickI; rw [if_pos hd]; unfold tick; rw [hkd]; simp
          obtain ⟨z, hz⟩ : ∃ z, us.getD kd 0 = z := ⟨_, rfl⟩
          rw [hz] at hgw hb1 htk
          have hset : W.set X.length ⟨(us.map .i).set kd (.i (z + 1)), 0, true, 1⟩ = X ++ [⟨(us.set kd (z + 1)).map .i, 0, true, 1⟩] := by rw [hW, set_self]; simp
          have hzb : 0 ≤ z ∧ z ≤ 1000 := by omega
          simp [e1, e3, e4, e6, rdC_ob hBW, q1, q2.2.1, hll, hj, r1, r2, specInsDef, hkd, idx1 hkn, rdC_ob hNW, hgw, hNW, show us.length = f.values.toNat by omega, show kd + 1 ≤ f.values.toNat by omega, int_put (xs := us) (i := kd) (by omega), hset, up1 hj qll, wrap64_id (show -9223372036854775808 ≤ z + 1 ∧ z + 1 ≤ 9223372036854775807 by omega)]
          refine (hL _ _).2 ⟨?_, ?_, by simp [e1, e3, e4]⟩
          · rw [hsu, htk]; simp
          · rw [hsu]; exact hbd'
        · have htk : tickI us x = us := by unfold tickI; rw [if_neg hd]
          simp [e1, e3, e4, e6, rdC_ob hBW, q1, q2.2.1, hll, hj, r1, r2, specInsDef, hd, up1 hj qll]
          refine (hL _ _).2 ⟨?_, ?_, by simp [e1, e3, e4]⟩
          · rw [hsu, htk]; exact hW
          · rw [hsu]; exact hbd'
      · rintro ⟨e2, W⟩ hLs
        obtain ⟨hW, hbd, e1, e3, e4, e6⟩ := (hL _ _).1 hLs
        simp only at hW e1 e3 e4 e6 ⊢
        rw [List.take_length] at hW hbd
        have hpW : Pre X W := ⟨_, hW⟩
        have hBW := hpW.rdOb hB
        have hvW := hvX.pre hpW
        obtain ⟨id, g, off, w, u, q1, q2, _, _, ql, _, qll, _, _⟩ := Blocks.get hvW hi
        have hll := ql.lenOf
        have htb : tickB vs f.blocks[i] = f.blocks[i].list.foldl tickI ws := by unfold tickB; rw [hws]
        unfold vf97b1
        simp [e1, e3, e4, e6, rdC_ob hBW, q1, q2.2.1, hll, up1 hi hbb]
        refine (hI _ _).2 ⟨?_, ?_, by simp [e1, e3]⟩
        · rw [hsucc, htb]; exact hW
        · rw [hsucc, htb]; exact hbd.mono (by omega)
  · rintro ⟨e, Y⟩ hIs
    obtain ⟨hY, hbd, e1, e3, e4⟩ := (hI _ _).1 hIs
    simp only at hY e1 e3 e4 ⊢
    rw [List.take_length] at hY
    have hBY : rdOb Y H.length 0 = some ⟨[v, .i f.values], 0, true, 2⟩ := by rw [hY]; exact rdOb_app _ hB
    have hN : rdOb Y X.length 0 = some ⟨(madeF f).map .i, 0, true, 1⟩ := by rw [hY]; unfold madeF; simp
    unfold vf97b2
    simp [e1, e3, e4, rdC_ob hBY, hl]
    rw [gcRet_row (hp.trans ⟨_, hY⟩) hp.le hN rfl (by simp [flatC])]
end Go.Proofs.YtgdfgnppeekfjaaGreat.Vm
end
section
/- How often a value is made: the program's side. No conditions. -/
namespace Go.Proofs.YtgdfgnppeekfjaaGreat.Vm
open Go.RowKit (wrap64)
set_option linter.unusedSimpArgs false
set_option linter.unusedVariables false
theorem put66c (a b c d e f p q r s t u : CV) : putAt [a, b, c, d, e, f] 0 [p, q, r, s, t, u] = [p, q, r, s, t, u] := rfl
set_option maxRecDepth 100000 in
theorem implMade {H : Hp} {v : CV} {f : FnR} (hv : Blocks H v f.blocks) (hsh : shapeB f = true) (k : IV × Hp → Prop) :
    CM 89 [.agg [v, .i f.values]] H k = k (.c (.sl H.length 0 0 f.values.toNat), H ++ [⟨(madeF f).map .i, 0, true, 1⟩]) := by
  refine det (cw89 ?_) k
  unfold vf89c
  obtain ⟨s1, s2, s3, s4⟩ := shape_len hsh
  obtain ⟨X, hX⟩ : ∃ X, H ++ [(⟨[v, .i f.values], 0, true, 2⟩ : Ob)] = X := ⟨_, rfl⟩
  have hp : Pre H X := ⟨_, hX.symm⟩
  have hB : rdOb X H.length 0 = some ⟨[v, .i f.values], 0, true, 2⟩ := by rw [← hX]; simp
  have hlX : X.length = H.length + 1 := by rw [← hX]; simp
  have hl := hv.lenOf
  have hm1 : (0 ≤ f.values ∧ f.values ≤ (LIM : Int)) = True := eq_true ⟨s3, by simp only [LIM]; omega⟩
  have hbb : f.blocks.length ≤ BIG := by simp only [BIG]; omega
  obtain ⟨X1, hX1⟩ : ∃ X1, X ++ [(⟨List.replicate f.values.toNat (.i 0), 0, true, 1⟩ : Ob)] = X1 := ⟨_, rfl⟩
  have hp1 : Pre H X1 := by rw [← hX1]; exact hp.app _
  have hB1 : rdOb X1 H.length 0 = some ⟨[v, .i f.values], 0, true, 2⟩ := by rw [← hX1]; exact rdOb_app _ hB
  have hN1 : rdOb X1 X.length 0 = some ⟨(List.replicate f.values.toNat (0 : Int)).map .i, 0, true, 1⟩ := by rw [← hX1]; simp
  simp [hX, rdC_ob hB, hm1, hX1, rdC_ob hB1, hl]
  obtain ⟨I, hI⟩ : ∃ I : Nat → St → Prop, ∀ i st, I i st ↔ (Pre H st.h ∧ rdOb st.h X.length 0 = some ⟨((f.blocks.take i).foldl tickB (List.replicate f.values.toNat 0)).map .i, 0, true, 1⟩ ∧ Bd ((f.blocks.take i).foldl tickB (List.replicate f.values.toNat 0)) (48 * i) ∧
      Env.get st.e 3 = .c (.sl X.length 0 0 f.values.toNat) ∧ Env.get st.e 15 = .c v ∧ Env.get st.e 16 = .c (.i f.blocks.length) ∧ Env.get st.e 17 = .c (.i i)) := ⟨_, fun _ _ => Iff.rfl⟩
  refine wp_for CM_mono f.blocks.length I ((hI _ _).2 ⟨hp1, hN1, by simpa using Bd.zero _, by simp⟩) ?_ ?_
  · rintro i ⟨e, Y⟩ hi hIs
    obtain ⟨hY, hN, hbd, e3, e15, e16, e17⟩ := (hI _ _).1 hIs
    simp only at hY hN e3 e15 e16 e17 ⊢
    have hsucc := fold_succ tickB (List.replicate f.values.toNat 0) hi
    have hvl := ticksB_len (f.blocks.take i) (List.replicate f.values.toNat 0)
    obtain ⟨vs, hvs⟩ : ∃ vs, (f.blocks.take i).foldl tickB (List.replicate f.values.toNat 0) = vs := ⟨_, rfl⟩
    rw [hvs] at hN hsucc hbd hvl
    rw [List.length_replicate] at hvl
    have hmem : f.blocks[i] ∈ f.blocks := List.getElem_mem hi
    have hlens := shape_lens hsh hmem
    obtain ⟨i0, g0, off0, w, u, q1, _, q2, qp, ql, qpl, qll, _, _⟩ := Blocks.get hv hi
    obtain ⟨GY, hGY⟩ := id hY
    have q2' := q2 GY
    rw [← hGY] at q2'
    obtain ⟨t, ht⟩ : ∃ t, f.blocks[i].term = t := ⟨_, rfl⟩
    rw [ht] at q2'
    obtain ⟨Y1, hY1⟩ : ∃ Y1, Y ++ [(⟨[w, u, .i t.kind, .i t.a, .i t.to, .i t.els], 0, true, 6⟩ : Ob)] = Y1 := ⟨_, rfl⟩
    have hpY1 : Pre H Y1 := by rw [← hY1]; exact hY.app _
    have hNY1 : rdOb Y1 X.length 0 = some ⟨vs.map .i, 0, true, 1⟩ := by rw [← hY1]; exact rdOb_app _ hN
    have h5 : rdOb Y1 Y.length 0 = some ⟨[w, u, .i t.kind, .i t.a, .i t.to, .i t.els], 0, true, 6⟩ := by rw [← hY1]; simp
    have hYl : X.length < Y.length := rdOb_lt hN
    have hpl := qp.lenOf
    have hll := ql.lenOf
    unfold vf89b2
    simp [e3, e15, e16, e17, hi, q1, q2'.2.2.2.2.2.2.2.2.2.2, put66c, hY1, rdC_ob h5, hpl]
    obtain ⟨J, hJ⟩ : ∃ J : Nat → St → Prop, ∀ j st, J j st ↔ (Pre H st.h ∧ rdOb st.h X.length 0 = some ⟨((f.blocks[i].phis.take j).foldl (fun ws p => tick ws p.d) vs).map .i, 0, true, 1⟩ ∧ Bd ((f.blocks[i].phis.take j).foldl (fun ws p => tick ws p.d) vs) (48 * i + j) ∧
        rdOb st.h Y.length 0 = some ⟨[w, u, .i t.kind, .i t.a, .i t.to, .i t.els], 0, true, 6⟩ ∧ Env.get st.e 5 = .c (.p Y.length 0 0) ∧
        Env.get st.e 3 = .c (.sl X.length 0 0 f.values.toNat) ∧ Env.get st.e 15 = .c v ∧ Env.get st.e 16 = .c (.i f.blocks.length) ∧ Env.get st.e 17 = .c (.i i) ∧ Env.get st.e 22 = .c w ∧ Env.get st.e 23 = .c (.i f.blocks[i].phis.length) ∧ Env.get st.e 24 = .c (.i j)) := ⟨_, fun _ _ => Iff.rfl⟩
    refine wp_for CM_mono f.blocks[i].phis.length J ((hJ _ _).2 ⟨hpY1, hNY1, hbd, h5, by simp [e3, e15, e16, e17]⟩) ?_ ?_
    · rintro j ⟨e', Z⟩ hj hJs
      obtain ⟨hZ, hNZ, hbd, h5, e5, e3, e15, e16, e17, e22, e23, e24⟩ := (hJ _ _).1 hJs
      simp only at hZ hNZ h5 e5 e3 e15 e16 e17 e22 e23 e24 ⊢
      have hsu := fold_succ (fun ws (p : PhiR) => tick ws p.d) vs hj
      have hwl := ticks_len (f.blocks[i].phis.take j) vs
      obtain ⟨ws, hws⟩ : ∃ ws, (f.blocks[i].phis.take j).foldl (fun ws p => tick ws p.d) vs = ws := ⟨_, rfl⟩
      rw [hws] at hNZ hbd hsu hwl
      obtain ⟨id2, g2, off2, w2, r1, _, r2, _⟩ := Phis.get qp hj
      obtain ⟨GZ, hGZ⟩ := id hZ
      have r2' := r2 GZ
      rw [← hGZ] at r2'
      obtain ⟨ph, hph⟩ : ∃ ph, f.blocks[i].phis[j] = ph := ⟨_, rfl⟩
      obtain ⟨hvd, _⟩ := phi_vals (shape_phi hsh hmem (List.getElem_mem hj))
      rw [hph] at r2' hvd hsu
      obtain ⟨kd, hkd, hkn⟩ := val_nat hvd
      obtain ⟨Z1, hZ1⟩ : ∃ Z1, Z ++ [(⟨[.i ph.d, w2], 0, true, 2⟩ : Ob)] = Z1 := ⟨_, rfl⟩
      have h7 : rdOb Z1 Z.length 0 = some ⟨[.i ph.d, w2], 0, true, 2⟩ := by rw [← hZ1]; simp
      have hNZ1 : rdOb Z1 X.length 0 = some ⟨ws.map .i, 0, true, 1⟩ := by rw [← hZ1]; exact rdOb_app _ hNZ
      have h51 : rdOb Z1 Y.length 0 = some ⟨[w, u, .i t.kind, .i t.a, .i t.to, .i t.els], 0, true, 6⟩ := by rw [← hZ1]; exact rdOb_app _ h5
      have hpZ1 : Pre H Z1 := by rw [← hZ1]; exact hZ.app _
      have hgw : ws[kd]? = some (ws.getD kd 0) := by simp [List.getD_eq_getElem?_getD, show kd < ws.length by omega]
      have hb1 := hbd kd
      have hbd' := hbd.tick ph.d
      have htk : tick ws ph.d = ws.set kd (ws.getD kd 0 + 1) := by unfold tick; rw [hkd]; simp
      obtain ⟨z, hz⟩ : ∃ z, ws.getD kd 0 = z := ⟨_, rfl⟩
      rw [hz] at hgw hb1 htk
      have hzb : 0 ≤ z ∧ z ≤ 1000 := by omega
      have hix : idxOf 1 (.sl X.length 0 0 f.values.toNat) ph.d = some (.p X.length 0 kd) := by rw [hkd]; exact idx1 hkn
      unfold vf89b0
      simp [e5, e3, e15, e16, e17, e22, e23, e24, hj, r1, r2'.2.2, putD0, hZ1, rdC_ob h7, hix, rdC_ob hNZ1, hgw, hNZ1, show ws.length = f.values.toNat by omega, show kd + 1 ≤ f.values.toNat by omega, int_put (xs := ws) (i := kd) (by omega), up1 hj qpl, wrap64_id (show -9223372036854775808 ≤ z + 1 ∧ z + 1 ≤ 9223372036854775807 by omega)]
      refine (hJ _ _).2 ⟨hpZ1.set (by omega) _, ?_, ?_, ?_, by simp [e5, e3, e15, e16, e17, e22, e23]⟩
      · simp only; rw [hsu, htk, rdOb_set_self (rdOb_lt hNZ1)]; simp
      · rw [hsu]; exact hbd'
      · simp only; rw [rdOb_set_ne (by omega)]; exact h51
    · rintro ⟨e', Z⟩ hJs
      obtain ⟨hZ, hNZ, hbd, h5, e5, e3, e15, e16, e17, e22, e23, e24⟩ := (hJ _ _).1 hJs
      simp only at hZ hNZ h5 e5 e3 e15 e16 e17 e22 e23 e24 ⊢
      rw [List.take_length] at hNZ hbd
      have hwl := ticks_len f.blocks[i].phis vs
      obtain ⟨ws, hws⟩ : ∃ ws, f.blocks[i].phis.foldl (fun ws p => tick ws p.d) vs = ws := ⟨_, rfl⟩
      rw [hws] at hNZ hbd hwl
      unfold vf89b0
      simp [e5, e3, e15, e16, e17, e22, e23, e24, rdC_ob h5, hll]
      obtain ⟨L, hL⟩ : ∃ L : Nat → St → Prop, ∀ j st, L j st ↔ (Pre H st.h ∧ rdOb st.h X.length 0 = some ⟨((f.blocks[i].list.take j).foldl tickI ws).map .i, 0, true, 1⟩ ∧ Bd ((f.blocks[i].list.take j).foldl tickI ws) (48 * i + 24 + j) ∧
          Env.get st.e 3 = .c (.sl X.length 0 0 f.values.toNat) ∧ Env.get st.e 15 = .c v ∧ Env.get st.e 16 = .c (.i f.blocks.length) ∧ Env.get st.e 17 = .c (.i i) ∧ Env.get st.e 37 = .c u ∧ Env.get st.e 38 = .c (.i f.blocks[i].list.length) ∧ Env.get st.e 39 = .c (.i j)) := ⟨_, fun _ _ => Iff.rfl⟩
      refine wp_for CM_mono f.blocks[i].list.length L ((hL _ _).2 ⟨hZ, hNZ, hbd.mono (by omega), by simp [e3, e15, e16, e17]⟩) ?_ ?_
      · rintro j ⟨e2, W⟩ hj hLs
        obtain ⟨hW, hNW, hbd, e3, e15, e16, e17, e37, e38, e39⟩ := (hL _ _).1 hLs
        simp only at hW hNW e3 e15 e16 e17 e37 e38 e39 ⊢
        have hsu := fold_succ tickI ws hj
        have hul := ticksI_len (f.blocks[i].list.take j) ws
        obtain ⟨us, hus⟩ : ∃ us, (f.blocks[i].list.take j).foldl tickI ws = us := ⟨_, rfl⟩
        rw [hus] at hNW hbd hsu hul
        obtain ⟨id2, g2, off2, r1, _, r2, _⟩ := List5.get ql hj
        obtain ⟨GW, hGW⟩ := id hW
        have r2' := r2 GW
        rw [← hGW] at r2'
        obtain ⟨x, hx⟩ : ∃ x, f.blocks[i].list[j] = x := ⟨_, rfl⟩
        have hxB : insB x f.values = true := by rw [← hx]; exact shape_ins hsh hmem (List.getElem_mem hj)
        rw [hx] at r2' hsu
        obtain ⟨W1, hW1⟩ : ∃ W1, W ++ [(⟨[.i x.op, .i x.d, .i x.a, .i x.b, .i x.n], 0, true, 5⟩ : Ob)] = W1 := ⟨_, rfl⟩
        have h9 : rdOb W1 W.length 0 = some ⟨[.i x.op, .i x.d, .i x.a, .i x.b, .i x.n], 0, true, 5⟩ := by rw [← hW1]; simp
        have hNW1 : rdOb W1 X.length 0 = some ⟨us.map .i, 0, true, 1⟩ := by rw [← hW1]; exact rdOb_app _ hNW
        have hpW1 : Pre H W1 := by rw [← hW1]; exact hW.app _
        have hbd' := hbd.tickI x
        unfold vf89b1
        by_cases hd : 0 ≤ insDefF x
        · obtain ⟨kd, hkd, hkn⟩ := ins_def hxB hd
          have hgw : us[kd]? = some (us.getD kd 0) := by simp [List.getD_eq_getElem?_getD, show kd < us.length by omega]
          have hb1 := hbd kd
          have htk : tickI us x = us.set kd (us.getD kd 0 + 1) := by unfold tickI; rw [if_pos hd]; unfold tick; rw [hkd]; simp
          obtain ⟨z, hz⟩ : ∃ z, us.getD kd 0 = z := ⟨_, rfl⟩
          rw [hz] at hgw hb1 htk
          have hzb : 0 ≤ z ∧ z ≤ 1000 := by omega
          simp [e3, e15, e16, e17, e37, e38, e39, hj, r1, r2'.2.2.2.2.2, put5, hW1, rdN_ob h9, implInsDef, hkd, idx1 hkn, rdC_ob hNW1, hgw, hNW1, show us.length = f.values.toNat by omega, show kd + 1 ≤ f.values.toNat by omega, int_put (xs := us) (i := kd) (by omega), up1 hj qll, wrap64_id (show -9223372036854775808 ≤ z + 1 ∧ z + 1 ≤ 9223372036854775807 by omega)]
          refine (hL _ _).2 ⟨hpW1.set (by omega) _, ?_, ?_, by simp [e3, e15, e16, e17, e37, e38]⟩
          · simp only; rw [hsu, htk, rdOb_set_self (rdOb_lt hNW1)]; simp
          · rw [hsu]; exact hbd'
        · have htk : tickI us x = us := by unfold tickI; rw [if_neg hd]
          simp [e3, e15, e16, e17, e37, e38, e39, hj, r1, r2'.2.2.2.2.2, put5, hW1, rdN_ob h9, implInsDef, hd, up1 hj qll]
          refine (hL _ _).2 ⟨hpW1, ?_, ?_, by simp [e3, e15, e16, e17, e37, e38]⟩
          · rw [hsu, htk]; exact hNW1
          · rw [hsu]; exact hbd'
      · rintro ⟨e2, W⟩ hLs
        obtain ⟨hW, hNW, hbd, e3, e15, e16, e17, e37, e38, e39⟩ := (hL _ _).1 hLs
        simp only at hW hNW e3 e15 e16 e17 e37 e38 e39 ⊢
        rw [List.take_length] at hNW hbd
        have htb : tickB vs f.blocks[i] = f.blocks[i].list.foldl tickI ws := by unfold tickB; rw [hws]
        unfold vf89b1
        simp [e3, e15, e16, e17, e37, e38, e39, up1 hi hbb]
        refine (hI _ _).2 ⟨hW, ?_, ?_, by simp [e3, e15, e16]⟩
        · rw [hsucc, htb]; exact hNW
        · rw [hsucc, htb]; exact hbd.mono (by omega)
  · rintro ⟨e, Y⟩ hIs
    obtain ⟨hY, hN, hbd, e3, e15, e16, e17⟩ := (hI _ _).1 hIs
    simp only at hY hN e3 e15 e16 e17 ⊢
    rw [List.take_length] at hN
    unfold vf89b2
    simp [e3, e15, e16, e17]
    rw [gcRet_row hY hp.le hN rfl (by simp [flatC])]
    rfl
end Go.Proofs.YtgdfgnppeekfjaaGreat.Vm
end
section
/- Flags looked for, rows of numbers compared and sorted; the arms of a block, both sides. No conditions. -/
namespace Go.Proofs.YtgdfgnppeekfjaaGreat.Vm
open Go.RowKit (wrap64)
set_option linter.unusedSimpArgs false
set_option linter.unusedVariables false
theorem indexBool {H : Hp} {v : CV} {xs : List Bool} {x : Bool} (hv : IsL H v xs) (hb : xs.length ≤ BIG) (k : IV × Hp → Prop) :
    CM 152 [.c v, .c (.b x)] H k = k (.c (.i (findI (fun y => decide (x = y)) xs)), H) := by
  refine det (cw152 ?_) k
  unfold vf152c
  simp [hv.lenOf]
  refine wp_for CM_mono xs.length (fun i s => (∀ j (hj : j < i) (hx : j < xs.length), decide (x = xs[j]) = false) ∧ s.h = H ∧ Env.get s.e 0 = .c v ∧ Env.get s.e 1 = .c (.b x) ∧ Env.get s.e 7 = .c (.i xs.length) ∧ Env.get s.e 8 = .c (.i i)) (by simp) ?_ ?_
  · rintro i ⟨e, X⟩ hi ⟨ht, rfl, h0, h1, h7, h8⟩
    simp only at h0 h1 h7 h8 hv ⊢
    obtain ⟨id, g, off, q1, q2⟩ := hv.at_ hi
    unfold vf152b0
    cases hpx : decide (x = xs[i]) with
    | false =>
      have hne : ¬ x = xs[i] := of_decide_eq_false hpx
      have hfin : ∀ j, j < i + 1 → ∀ (hx : j < xs.length), ¬ x = xs[j] := by
        intro j hj hx
        by_cases e : j = i
        · subst e; exact hne
        · exact of_decide_eq_false (ht j (by omega) hx)
      cases hy : xs[i] <;> cases x <;> simp [hy] at hne <;> simp [h0, h1, h7, h8, q1, q2, hi, up1 hi hb, hy] <;> (intro j hj hx; simpa using hfin j hj hx)
    | true =>
      have he : x = xs[i] := of_decide_eq_true hpx
      have hfs := findI_some hi (p := fun y => decide (x = y)) (fun j hj => ht j hj (by omega)) hpx
      rw [hfs]
      cases hy : xs[i] <;> cases x <;> simp [hy] at he <;> simp [h0, h1, h7, h8, q1, q2, hi, up1 hi hb, hy]
  · rintro ⟨e, X⟩ ⟨ht, rfl, h0, h1, h7, h8⟩
    simp only at h0 h1 h7 h8 ⊢
    unfold vf152b0
    simp [h0, h1, h7, h8, findI_none (p := fun y => decide (x = y)) (fun j hj => ht j hj hj)]
theorem containsBool {H : Hp} {v : CV} {xs : List Bool} {x : Bool} (hv : IsL H v xs) (hb : xs.length ≤ BIG) (k : IV × Hp → Prop) :
    CM 86 [.c v, .c (.b x)] H k = k (.c (.b (xs.any fun y => decide (x = y))), H) := by
  refine det (cw86 ?_) k
  unfold vf86c
  have e : decide (0 ≤ findI (fun y => decide (x = y)) xs) = xs.any fun y => decide (x = y) := by
    cases h : xs.any (fun y => decide (x = y)) with
    | true => exact decide_eq_true (findI_nonneg.2 h)
    | false => exact decide_eq_false fun hc => by rw [findI_nonneg.1 hc] at h; cases h
  simp [indexBool hv hb, e]
theorem equalInt {H : Hp} {v w : CV} {xs ys : List Int} (hv : IsI H v xs) (hw : IsI H w ys) (hb : xs.length ≤ BIG) (k : IV × Hp → Prop) : CM 153 [.c v, .c w] H k = k (.c (.b (decide (xs = ys))), H) := by
  refine det (cw153 ?_) k
  unfold vf153c
  simp [hv.lenOf, hw.lenOf]
  by_cases hl : xs.length = ys.length
  · simp [hl, hv.lenOf]
    refine wp_for CM_mono xs.length (fun i s => xs.take i = ys.take i ∧ s.h = H ∧ Env.get s.e 0 = .c v ∧ Env.get s.e 1 = .c w ∧ Env.get s.e 12 = .c (.i xs.length) ∧ Env.get s.e 13 = .c (.i i)) (by simp [hl]) ?_ ?_
    · rintro i ⟨e, X⟩ hi ⟨ht, rfl, h0, h1, h12, h13⟩
      simp only at h0 h1 h12 h13 hv hw ⊢
      obtain ⟨id, g, off, q1, q2⟩ := hv.at_ hi
      obtain ⟨id', g', off', p1, p2⟩ := hw.at_ (show i < ys.length by omega)
      unfold vf153b0
      by_cases he : xs[i] = ys[i]
      · simp [h0, h1, h12, h13, q1, q2, p1, p2, hi, up1 hi hb, he]
        exact take_snoc_eq hi (by omega) ht he
      · have hne : xs ≠ ys := fun e => he (by subst e; rfl)
        simp [h0, h1, h12, h13, q1, q2, p1, p2, hi, he, hne]
    · rintro ⟨e, X⟩ ⟨ht, rfl, h0, h1, h12, h13⟩
      simp only at h0 h1 h12 h13 ⊢
      rw [List.take_length] at ht
      rw [hl, List.take_length] at ht
      unfold vf153b0
      simp [h0, h1, h12, h13, ht]
  · have : xs ≠ ys := fun e => hl (by rw [e])
    have hl' : ¬ (xs.length : Int) = ys.length := by omega
    simp [hl, this]
theorem sort_call {H : Hp} {id g : Nat} {xs : List Int} (ho : rdOb H id g = some ⟨xs.map .i, g, true, 1⟩) (hb : xs.length ≤ LIM) (k : IV × Hp → Prop) :
    CM 132 [.c (.sl id g 0 xs.length)] H k = k (.tup [], H.set id ⟨(sortI xs).map .i, g, true, 1⟩) := by
  have hM : M 132 = none := by rfl
  refine det ?_ k
  refine callD_of XK_mono ?_
  unfold bodyD
  rw [hM]
  refine ⟨rfl, .inr ⟨id, g, 0, _, xs, rfl, ho, rfl, rfl, by simp, by simp [List.take_of_length_le], hb, ?_⟩⟩
  simp [putAt, List.drop_of_length_le]
end Go.Proofs.YtgdfgnppeekfjaaGreat.Vm
end
section
/- The arms of a block: the program's side. No conditions. -/
namespace Go.Proofs.YtgdfgnppeekfjaaGreat.Vm
open Go.RowKit (wrap64)
set_option linter.unusedSimpArgs false
set_option linter.unusedVariables false
noncomputable def pB (p : Prop) : Bool := @decide p (Classical.propDecidable p)
theorem pB_true {p : Prop} (h : p) : pB p = true := by unfold pB; simp [h]
theorem pB_false {p : Prop} (h : ¬ p) : pB p = false := by unfold pB; simp [h]
def ArmsRight (bs : List BlkR) : Prop := ∀ j (hj : j < bs.length), ∀ p ∈ bs[j].phis, sortI (fromsF p) = predsF bs j
theorem asc_eq : ∀ (B A : List Int), A.Pairwise (· < ·) → B.Pairwise (· < ·) → (∀ x ∈ A, x ∈ B) → B.length ≤ A.length → A = B := by
  intro B
  induction B with
  | nil =>
    intro A _ _ h _
    cases A with
    | nil => rfl
    | cons a r => exact absurd (h a (by simp)) (by simp)
  | cons b B ih =>
    intro A hA hB h hl
    cases A with
    | nil => simp at hl
    | cons a A =>
      rw [List.pairwise_cons] at hA hB
      have hab : a = b ∨ b < a := by
        rcases List.mem_cons.1 (h a (by simp)) with e | e
        · exact .inl e
        · exact .inr (hB.1 _ e)
      have ht : A = B := by
        refine ih A hA.2 hB.2 (fun x hx => ?_) (by simpa using hl)
        have hax := hA.1 x hx
        rcases List.mem_cons.1 (h x (by simp [hx])) with e | e
        · omega
        · exact e
      subst ht
      rcases hab with e | e
      · rw [e]
      · rcases List.mem_cons.1 (h a (by simp)) with e2 | e2
        · rw [e2]
        · exact absurd (hA.1 a e2) (by omega)
theorem preds_asc (bs : List BlkR) (b : Int) : (predsF bs b).Pairwise (· < ·) := by
  unfold predsF predsTo
  rw [List.pairwise_map]
  exact (List.Pairwise.filter _ List.pairwise_lt_range).imp (fun h => by omega)
theorem froms_apart {n m : Int} {p : PhiR} (h : phiB n m p = true) : (fromsF p).Pairwise (· ≠ ·) := by
  unfold phiB armsB at h
  simp only [Bool.and_eq_true, List.all_eq_true, List.mem_range] at h
  unfold fromsF
  rw [List.pairwise_map, List.pairwise_iff_getElem]
  intro i j hi hj hij
  have := h.2 j hj
  rw [armB_at hj] at this
  simp only [Bool.and_eq_true, Bool.not_eq_true', List.any_eq_false, decide_eq_true_eq] at this
  exact this.2 _ (List.mem_take_iff_getElem.2 ⟨i, by omega, rfl⟩)
theorem arms_iff {bs : List BlkR} {b : Int} {n m : Int} {p : PhiR} (h : phiB n m p = true) : sortI (fromsF p) = predsF bs b ↔ (p.arms.length = (predsF bs b).length ∧ ∀ a ∈ p.arms, hasI (predsF bs b) a.fr = true) := by
  have hperm : (sortI (fromsF p)).Perm (fromsF p) := List.mergeSort_perm _ _
  constructor
  · intro e
    refine ⟨by rw [← e]; simp [fromsF], fun a ha => ?_⟩
    rw [hasI_iff, ← e]
    exact hperm.mem_iff.2 (List.mem_map.2 ⟨a, ha, rfl⟩)
  · rintro ⟨h1, h2⟩
    have hs : (sortI (fromsF p)).Pairwise (· ≤ ·) := by
      have := List.pairwise_mergeSort (le := fun x y : Int => decide (x ≤ y)) (fun a b c h1 h2 => by simp at *; omega) (fun a b => by simp; omega) (fromsF p)
      exact this.imp (fun h => by simpa using h)
    have hn : (sortI (fromsF p)).Pairwise (· ≠ ·) := hperm.symm.pairwise (froms_apart h) (fun h => Ne.symm h)
    refine asc_eq _ _ ?_ (preds_asc bs b) ?_ ?_
    · have := hs.and hn
      exact this.imp (fun h => by omega)
    · intro x hx
      obtain ⟨a, ha, rfl⟩ := List.mem_map.1 (hperm.mem_iff.1 hx)
      exact hasI_iff.1 (h2 a ha)
    · rw [sortI_len]; simp [fromsF, h1]
set_option maxRecDepth 100000 in
theorem implArms {H : Hp} {v : CV} {f : FnR} (hv : Blocks H v f.blocks) (hsh : shapeB f = true) (k : IV × Hp → Prop) :
    CM 87 [.agg [v, .i f.values]] H k = k (.c (.b (pB (¬ ArmsRight f.blocks))), H) := by
  refine det (cw87 ?_) k
  unfold vf87c
  obtain ⟨s1, s2, s3, s4⟩ := shape_len hsh
  obtain ⟨X, hX⟩ : ∃ X, H ++ [(⟨[v, .i f.values], 0, true, 2⟩ : Ob)] = X := ⟨_, rfl⟩
  have hp : Pre H X := ⟨_, hX.symm⟩
  have hB : rdOb X H.length 0 = some ⟨[v, .i f.values], 0, true, 2⟩ := by rw [← hX]; simp
  have hl := hv.lenOf
  have hbb : f.blocks.length ≤ BIG := by simp only [BIG]; omega
  simp [hX, rdC_ob hB, hl]
  obtain ⟨I, hI⟩ : ∃ I : Nat → St → Prop, ∀ i st, I i st ↔ ((∀ j (hj : j < f.blocks.length), j < i → ∀ p ∈ f.blocks[j].phis, sortI (fromsF p) = predsF f.blocks j) ∧ Pre X st.h ∧
      Env.get st.e 1 = .c (.p H.length 0 0) ∧ Env.get st.e 12 = .c v ∧ Env.get st.e 13 = .c (.i f.blocks.length) ∧ Env.get st.e 14 = .c (.i i)) := ⟨_, fun _ _ => Iff.rfl⟩
  refine wp_for CM_mono f.blocks.length I ((hI _ _).2 ⟨by simp, Pre.refl _, by simp⟩) ?_ ?_
  · rintro i ⟨e, Y⟩ hi hIs
    obtain ⟨hdone, hY, e1, e12, e13, e14⟩ := (hI _ _).1 hIs
    simp only at hY e1 e12 e13 e14 ⊢
    have hmem : f.blocks[i] ∈ f.blocks := List.getElem_mem hi
    have hlens := shape_lens hsh hmem
    obtain ⟨i0, g0, off0, w, u, q1, _, q2, qp, ql, qpl, qll, _, _⟩ := Blocks.get hv hi
    have hHY := hp.trans hY
    obtain ⟨GY, hGY⟩ := id hHY
    have q2' := q2 GY
    rw [← hGY] at q2'
    obtain ⟨t, ht⟩ : ∃ t, f.blocks[i].term = t := ⟨_, rfl⟩
    rw [ht] at q2'
    obtain ⟨Y1, hY1⟩ : ∃ Y1, Y ++ [(⟨[w, u, .i t.kind, .i t.a, .i t.to, .i t.els], 0, true, 6⟩ : Ob)] = Y1 := ⟨_, rfl⟩
    have hpY1 : Pre X Y1 := by rw [← hY1]; exact hY.app _
    have h5 : rdOb Y1 Y.length 0 = some ⟨[w, u, .i t.kind, .i t.a, .i t.to, .i t.els], 0, true, 6⟩ := by rw [← hY1]; simp
    have hBY := hpY1.rdOb hB
    have hvY := Blocks.pre (hp.trans hpY1) hv
    obtain ⟨pw, L, hpw, hcall⟩ := implPreds (m := f.values) (b := (i : Int)) hvY hbb
    obtain ⟨Y2, hY2⟩ : ∃ Y2, Y1 ++ L = Y2 := ⟨_, rfl⟩
    have hpwI := hpw.isI
    have hpY2 : Pre Y1 Y2 := ⟨_, hY2.symm⟩
    rw [hY2] at hpwI
    have h52 := hpY2.rdOb h5
    have hpl := qp.lenOf
    unfold vf87b2
    simp [e1, e12, e13, e14, hi, q1, q2'.2.2.2.2.2.2.2.2.2.2, put66c, hY1, rdN_ob hBY, hcall, hY2, rdC_ob h52, hpl]
    obtain ⟨J, hJ⟩ : ∃ J : Nat → St → Prop, ∀ j st, J j st ↔ ((∀ p ∈ f.blocks[i].phis.take j, sortI (fromsF p) = predsF f.blocks i) ∧ Pre Y2 st.h ∧
        Env.get st.e 1 = .c (.p H.length 0 0) ∧ Env.get st.e 12 = .c v ∧ Env.get st.e 13 = .c (.i f.blocks.length) ∧ Env.get st.e 14 = .c (.i i) ∧ Env.get st.e 5 = .c pw ∧ Env.get st.e 23 = .c w ∧ Env.get st.e 24 = .c (.i f.blocks[i].phis.length) ∧ Env.get st.e 25 = .c (.i j)) := ⟨_, fun _ _ => Iff.rfl⟩
    refine wp_for CM_mono f.blocks[i].phis.length J ((hJ _ _).2 ⟨by simp, Pre.refl _, by simp [e1, e12, e13, e14]⟩) ?_ ?_
    · rintro j ⟨e', Z⟩ hj hJs
      obtain ⟨hdj, hZ, e1, e12, e13, e14, e5, e23, e24, e25⟩ := (hJ _ _).1 hJs
      simp only at hZ e1 e12 e13 e14 e5 e23 e24 e25 ⊢
      obtain ⟨id2, g2, off2, w2, r1, _, r2, qa, _⟩ := Phis.get qp hj
      have hHZ := (hHY.trans (hY1 ▸ ⟨_, rfl⟩ : Pre Y Y1)).trans (hpY2.trans hZ)
      obtain ⟨GZ, hGZ⟩ := id hHZ
      have r2' := r2 GZ
      rw [← hGZ] at r2'
      obtain ⟨ph, hph⟩ : ∃ ph, f.blocks[i].phis[j] = ph := ⟨_, rfl⟩
      have hphB := shape_phi hsh hmem (List.getElem_mem hj)
      rw [hph] at r2' hphB qa
      obtain ⟨_, hal, _⟩ := phi_vals hphB
      obtain ⟨Z1, hZ1⟩ : ∃ Z1, Z ++ [(⟨[.i ph.d, w2], 0, true, 2⟩ : Ob)] = Z1 := ⟨_, rfl⟩
      have h7 : rdOb Z1 Z.length 0 = some ⟨[.i ph.d, w2], 0, true, 2⟩ := by rw [← hZ1]; simp
      obtain ⟨Z2, hZ2⟩ : ∃ Z2, Z1 ++ [(⟨[], 0, true, 1⟩ : Ob)] = Z2 := ⟨_, rfl⟩
      have hpZ1 : Pre Z Z1 := ⟨_, hZ1.symm⟩
      have hpZ2 : Pre Z1 Z2 := ⟨_, hZ2.symm⟩
      have h72 := hpZ2.rdOb h7
      have hlZ2 : Z2.length = Z1.length + 1 := by rw [← hZ2]; simp
      have h8 : rdOb Z2 Z1.length 0 = some ⟨[], 0, true, 1⟩ := by rw [← hZ2]; simp
      have hall := qa.lenOf
      have hfl : (fromsF ph).length = ph.arms.length := by simp [fromsF]
      unfold vf87b1
      simp [e1, e12, e13, e14, e5, e23, e24, e25, hj, r1, r2'.2.2, putD0, hZ1, hZ2, rdC_ob h72, hall]
      obtain ⟨K, hK⟩ : ∃ K : Nat → St → Prop, ∀ k st, K k st ↔ (Pre Z1 st.h ∧ (∃ g, rdOb st.h Z1.length g = some ⟨((fromsF ph).take k).map .i, g, true, 1⟩ ∧ Env.get st.e 8 = .c (.sl Z1.length g 0 k)) ∧
          Env.get st.e 1 = .c (.p H.length 0 0) ∧ Env.get st.e 12 = .c v ∧ Env.get st.e 13 = .c (.i f.blocks.length) ∧ Env.get st.e 14 = .c (.i i) ∧ Env.get st.e 5 = .c pw ∧ Env.get st.e 23 = .c w ∧ Env.get st.e 24 = .c (.i f.blocks[i].phis.length) ∧ Env.get st.e 25 = .c (.i j) ∧
          Env.get st.e 31 = .c w2 ∧ Env.get st.e 32 = .c (.i ph.arms.length) ∧ Env.get st.e 33 = .c (.i k)) := ⟨_, fun _ _ => Iff.rfl⟩
      refine wp_for CM_mono ph.arms.length K ((hK _ _).2 ⟨hpZ2, ⟨0, by simpa using h8, by simp⟩, by simp [e1, e12, e13, e14, e5, e23, e24, e25]⟩) ?_ ?_
      · rintro k ⟨e2, W⟩ hk hKs
        obtain ⟨hW, ⟨g, ho, e8⟩, e1, e12, e13, e14, e5, e23, e24, e25, e31, e32, e33⟩ := (hK _ _).1 hKs
        simp only at hW ho e8 e1 e12 e13 e14 e5 e23 e24 e25 e31 e32 e33 ⊢
        obtain ⟨id3, g3, off3, m1, ⟨m2, m3, m4⟩, m5, m6, m7⟩ := Arms.get (qa.pre ((hHZ.trans hpZ1).trans hW)) hk
        have hfk : (fromsF ph).take (k + 1) = (fromsF ph).take k ++ [ph.arms[k].fr] := by
          rw [List.take_succ_eq_append_getElem (by omega)]; simp [fromsF]
        have hlt := rdOb_lt ho
        have hkl : ((fromsF ph).take k).length = k := by rw [List.length_take]; omega
        obtain ⟨W1, hW1⟩ : ∃ W1, W ++ [(⟨[.i ph.arms[k].fr, .i ph.arms[k].v], 0, true, 2⟩ : Ob)] = W1 := ⟨_, rfl⟩
        have hpW1 : Pre W W1 := ⟨_, hW1.symm⟩
        have h10 : rdOb W1 W.length 0 = some ⟨[.i ph.arms[k].fr, .i ph.arms[k].v], 0, true, 2⟩ := by rw [← hW1]; simp
        have ho1 := hpW1.rdOb ho
        unfold vf87b0
        simp [e8, e1, e12, e13, e14, e5, e23, e24, e25, e31, e32, e33, hk, m1, m4, putD0, hW1, rdC_ob h10, srcOf, putL0]
        rw [app_own (cs := ((fromsF ph).take k).map .i) (rdOb_app _ ho1) (by simp; omega) (by simp) (by simp; simp only [LIM]; omega)]
        simp [e8, e1, e12, e13, e14, e5, e23, e24, e25, e31, e32, e33, up1 hk (show ph.arms.length ≤ BIG by simp only [BIG]; omega)]
        refine (hK _ _).2 ⟨((hW.trans hpW1).app _).set (by simp) _, ⟨g + 1, ?_, by simp⟩, by simp [e1, e12, e13, e14, e5, e23, e24, e25, e31, e32]⟩
        have := hpW1.le
        rw [rdOb_set_self (by simp; omega)]
        simp [hfk]
      · rintro ⟨e2, W⟩ hKs
        obtain ⟨hW, ⟨g, ho, e8⟩, e1, e12, e13, e14, e5, e23, e24, e25, e31, e32, e33⟩ := (hK _ _).1 hKs
        simp only at hW ho e8 e1 e12 e13 e14 e5 e23 e24 e25 e31 e32 e33 ⊢
        rw [← hfl, List.take_length] at ho
        rw [← hfl] at e8
        have hlt := rdOb_lt ho
        have hpS : Pre Z1 (W.set Z1.length ⟨(sortI (fromsF ph)).map .i, g, true, 1⟩) := hW.set (by omega) _
        have hI1 : IsI (W.set Z1.length ⟨(sortI (fromsF ph)).map .i, g, true, 1⟩) (.sl Z1.length g 0 (sortI (fromsF ph)).length) (sortI (fromsF ph)) :=
          IsI.mk (o := ⟨(sortI (fromsF ph)).map .i, g, true, 1⟩) (by rw [rdOb_set_self hlt]; simp) rfl (by simp) (by rw [List.drop_zero, List.take_of_length_le (by simp)])
        rw [sortI_len] at hI1
        have hI2 := IsI.pre ((hZ.trans hpZ1).trans hpS) hpwI
        have hbl : (sortI (fromsF ph)).length ≤ BIG := by rw [sortI_len, hfl]; simp only [BIG]; omega
        unfold vf87b0
        by_cases hs : sortI (fromsF ph) = predsF f.blocks i
        · simp [e8, e1, e12, e13, e14, e5, e23, e24, e25, e31, e32, e33, sort_call ho (by rw [hfl]; simp only [LIM]; omega), equalInt hI1 hI2 hbl, decide_eq_true hs, up1 hj qpl]
          refine (hJ _ _).2 ⟨?_, (hZ.trans hpZ1).trans hpS, by simp [e1, e12, e13, e14, e5, e23, e24]⟩
          intro p hp'
          rw [List.take_succ_eq_append_getElem hj] at hp'
          rcases List.mem_append.1 hp' with h | h
          · exact hdj p h
          · simp at h; rw [h, hph]; exact hs
        · have hno : ¬ ArmsRight f.blocks := fun hc => hs (hc i hi ph (hph ▸ List.getElem_mem hj))
          simp [e8, e1, e12, e13, e14, e5, e23, e24, e25, e31, e32, e33, sort_call ho (by rw [hfl]; simp only [LIM]; omega), equalInt hI1 hI2 hbl, hs]
          rw [gcRet_flat ((hHZ.trans hpZ1).trans hpS) rfl, pB_true hno]
    · rintro ⟨e', Z⟩ hJs
      obtain ⟨hdj, hZ, e1, e12, e13, e14, e5, e23, e24, e25⟩ := (hJ _ _).1 hJs
      simp only at hZ e1 e12 e13 e14 e5 e23 e24 e25 ⊢
      rw [List.take_length] at hdj
      unfold vf87b1
      simp [e1, e12, e13, e14, e5, e23, e24, e25, up1 hi hbb]
      refine (hI _ _).2 ⟨?_, hpY1.trans (hpY2.trans hZ), by simp [e1, e12, e13]⟩
      intro j hj hji
      by_cases ej : j = i
      · subst ej; exact hdj
      · exact hdone j hj (by omega)
  · rintro ⟨e, Y⟩ hIs
    obtain ⟨hdone, hY, e1, e12, e13, e14⟩ := (hI _ _).1 hIs
    simp only at hY e1 e12 e13 e14 ⊢
    have hyes : ¬ ¬ ArmsRight f.blocks := fun hc => hc fun j hj => hdone j hj hj
    unfold vf87b2
    simp [e1, e12, e13, e14]
    rw [gcRet_flat (hp.trans hY) rfl, pB_false hyes]
end Go.Proofs.YtgdfgnppeekfjaaGreat.Vm
end
section
/- The arms of a block: the specification's side. No conditions. -/
namespace Go.Proofs.YtgdfgnppeekfjaaGreat.Vm
open Go.RowKit (wrap64)
set_option linter.unusedSimpArgs false
set_option linter.unusedVariables false
set_option maxRecDepth 100000 in
theorem specArms {H : Hp} {v : CV} {f : FnR} (hv : Blocks H v f.blocks) (hsh : shapeB f = true) (k : IV × Hp → Prop) :
    CM 96 [.agg [v, .i f.values]] H k = k (.c (.b (pB (ArmsRight f.blocks))), H) := by
  refine det (cw96 ?_) k
  unfold vf96c
  obtain ⟨s1, s2, s3, s4⟩ := shape_len hsh
  obtain ⟨X, hX⟩ : ∃ X, H ++ [(⟨[v, .i f.values], 0, true, 2⟩ : Ob)] = X := ⟨_, rfl⟩
  have hp : Pre H X := ⟨_, hX.symm⟩
  have hB : rdOb X H.length 0 = some ⟨[v, .i f.values], 0, true, 2⟩ := by rw [← hX]; simp
  have hvX := Blocks.pre hp hv
  have hl := hvX.lenOf
  have hbb : f.blocks.length ≤ BIG := by simp only [BIG]; omega
  simp [hX]
  obtain ⟨I, hI⟩ : ∃ I : Nat → St → Prop, ∀ i st, I i st ↔ ((∀ j (hj : j < f.blocks.length), j < i → ∀ p ∈ f.blocks[j].phis, sortI (fromsF p) = predsF f.blocks j) ∧ Pre X st.h ∧
      Env.get st.e 1 = .c (.p H.length 0 0) ∧ Env.get st.e 3 = .c (.i i)) := ⟨_, fun _ _ => Iff.rfl⟩
  refine wp_for CM_mono f.blocks.length I ((hI _ _).2 ⟨by simp, Pre.refl _, by simp⟩) ?_ ?_
  · rintro i ⟨e, Y⟩ hi hIs
    obtain ⟨hdone, hY, e1, e3⟩ := (hI _ _).1 hIs
    simp only at hY e1 e3 ⊢
    have hmem : f.blocks[i] ∈ f.blocks := List.getElem_mem hi
    have hlens := shape_lens hsh hmem
    have hBY := hY.rdOb hB
    have hvY := hvX.pre hY
    obtain ⟨pw, L, hpw, hcall⟩ := specPreds (m := f.values) (b := (i : Int)) hvY hbb
    obtain ⟨Y2, hY2⟩ : ∃ Y2, Y ++ L = Y2 := ⟨_, rfl⟩
    have hpwI := hpw.isI
    have hpY2 : Pre Y Y2 := ⟨_, hY2.symm⟩
    rw [hY2] at hpwI
    have hB2 := hpY2.rdOb hBY
    have hplen := hpwI.lenOf
    have hpb : (predsF f.blocks i).length ≤ BIG := by have := predsTo_le f.blocks i f.blocks.length; unfold predsF; omega
    unfold vf96b2
    simp [e1, e3, hi, rdC_ob hBY, rdN_ob hBY, hl, hcall, hY2]
    obtain ⟨J, hJ⟩ : ∃ J : Nat → St → Prop, ∀ j st, J j st ↔ ((∀ p ∈ f.blocks[i].phis.take j, sortI (fromsF p) = predsF f.blocks i) ∧ st.h = Y2 ∧
        Env.get st.e 1 = .c (.p H.length 0 0) ∧ Env.get st.e 3 = .c (.i i) ∧ Env.get st.e 4 = .c pw ∧ Env.get st.e 5 = .c (.i j)) := ⟨_, fun _ _ => Iff.rfl⟩
    have hv2 := hvY.pre hpY2
    obtain ⟨i0, g0, off0, w, u, q1, q2, _, qp, _, qpl, _, _, _⟩ := Blocks.get hv2 hi
    have hpl := qp.lenOf
    refine wp_for CM_mono f.blocks[i].phis.length J ((hJ _ _).2 ⟨by simp, rfl, by simp [e1, e3]⟩) ?_ ?_
    · rintro j ⟨e', Z⟩ hj hJs
      obtain ⟨hdj, hZ, e1, e3, e4, e5⟩ := (hJ _ _).1 hJs
      simp only at hZ e1 e3 e4 e5 ⊢
      subst hZ
      obtain ⟨id2, g2, off2, w2, r1, r2, _, qa, _⟩ := Phis.get qp hj
      obtain ⟨ph, hph⟩ : ∃ ph, f.blocks[i].phis[j] = ph := ⟨_, rfl⟩
      have hphB := shape_phi hsh hmem (List.getElem_mem hj)
      rw [hph] at r2 hphB qa
      obtain ⟨_, hal, _⟩ := phi_vals hphB
      have hiff := arms_iff (bs := f.blocks) (b := i) hphB
      have hall := qa.lenOf
      have hbad : ¬ sortI (fromsF ph) = predsF f.blocks i → pB (ArmsRight f.blocks) = false := fun h => pB_false fun hc => h (hc i hi ph (hph ▸ List.getElem_mem hj))
      unfold vf96b1
      by_cases hlen : ph.arms.length = (predsF f.blocks i).length
      · have hlen' : (ph.arms.length : Int) = ((predsF f.blocks i).length : Int) := by omega
        simp [e1, e3, e4, e5, rdC_ob hB2, q1, q2.1, hpl, hj, r1, r2.2, hall, hplen, hlen']
        obtain ⟨K, hK⟩ : ∃ K : Nat → St → Prop, ∀ k st, K k st ↔ ((∀ a ∈ ph.arms.take k, hasI (predsF f.blocks i) a.fr = true) ∧ st.h = Z ∧
            Env.get st.e 1 = .c (.p H.length 0 0) ∧ Env.get st.e 3 = .c (.i i) ∧ Env.get st.e 4 = .c pw ∧ Env.get st.e 5 = .c (.i j) ∧ Env.get st.e 6 = .c w2 ∧ Env.get st.e 7 = .c (.i k)) := ⟨_, fun _ _ => Iff.rfl⟩
        refine wp_for CM_mono ph.arms.length K ((hK _ _).2 ⟨by simp, rfl, by simp [e1, e3, e4, e5]⟩) ?_ ?_
        · rintro k ⟨e2, W⟩ hk hKs
          obtain ⟨hdk, hW, e1, e3, e4, e5, e6, e7⟩ := (hK _ _).1 hKs
          simp only at hW e1 e3 e4 e5 e6 e7 ⊢
          subst hW
          obtain ⟨id3, g3, off3, m1, ⟨m2, m3, m4⟩, m5, m6, m7⟩ := Arms.get qa hk
          unfold vf96b0
          cases hh : hasI (predsF f.blocks i) ph.arms[k].fr with
          | true =>
            simp [e1, e3, e4, e5, e6, e7, hall, hk, m1, m2, l3Has_call hpwI hpb, hh, up1 hk (show ph.arms.length ≤ BIG by simp only [BIG]; omega)]
            refine (hK _ _).2 ⟨?_, rfl, by simp [e1, e3, e4, e5, e6]⟩
            intro a ha
            rw [List.take_succ_eq_append_getElem hk] at ha
            rcases List.mem_append.1 ha with h | h
            · exact hdk a h
            · simp at h; rw [h]; exact hh
          | false =>
            have hbd := hbad fun hc => by
              have := (hiff.1 hc).2 _ (List.getElem_mem hk)
              rw [hh] at this; cases this
            simp [e1, e3, e4, e5, e6, e7, hall, hk, m1, m2, l3Has_call hpwI hpb, hh]
            rw [gcRet_flat ((hp.trans hY).trans hpY2) rfl, hbd]
        · rintro ⟨e2, W⟩ hKs
          obtain ⟨hdk, hW, e1, e3, e4, e5, e6, e7⟩ := (hK _ _).1 hKs
          simp only at hW e1 e3 e4 e5 e6 e7 ⊢
          subst hW
          rw [List.take_length] at hdk
          unfold vf96b0
          simp [e1, e3, e4, e5, e6, e7, hall, up1 hj qpl]
          refine (hJ _ _).2 ⟨?_, rfl, by simp [e1, e3, e4]⟩
          intro p hp'
          rw [List.take_succ_eq_append_getElem hj] at hp'
          rcases List.mem_append.1 hp' with h | h
          · exact hdj p h
          · simp at h; rw [h, hph]; exact hiff.2 ⟨hlen, hdk⟩
      · have hbd := hbad fun hc => hlen (hiff.1 hc).1
        have hlen' : ¬ (ph.arms.length : Int) = ((predsF f.blocks i).length : Int) := by omega
        simp [e1, e3, e4, e5, rdC_ob hB2, q1, q2.1, hpl, hj, r1, r2.2, hall, hplen, hlen']
        rw [gcRet_flat ((hp.trans hY).trans hpY2) rfl, hbd]
    · rintro ⟨e', Z⟩ hJs
      obtain ⟨hdj, hZ, e1, e3, e4, e5⟩ := (hJ _ _).1 hJs
      simp only at hZ e1 e3 e4 e5 ⊢
      subst hZ
      rw [List.take_length] at hdj
      unfold vf96b1
      simp [e1, e3, e4, e5, rdC_ob hB2, q1, q2.1, hpl, up1 hi hbb]
      refine (hI _ _).2 ⟨?_, hY.trans hpY2, by simp [e1]⟩
      intro j hj hji
      by_cases ej : j = i
      · subst ej; exact hdj
      · exact hdone j hj (by omega)
  · rintro ⟨e, Y⟩ hIs
    obtain ⟨hdone, hY, e1, e3⟩ := (hI _ _).1 hIs
    simp only at hY e1 e3 ⊢
    have hyes : ArmsRight f.blocks := fun j hj => hdone j hj hj
    unfold vf96b2
    simp [e1, e3, rdC_ob (hY.rdOb hB), hl]
    rw [gcRet_flat (hp.trans hY) rfl, pB_true hyes]
end Go.Proofs.YtgdfgnppeekfjaaGreat.Vm
end
section
/- What a block takes was made: the program's side. No conditions. -/
namespace Go.Proofs.YtgdfgnppeekfjaaGreat.Vm
open Go.RowKit (wrap64)
set_option linter.unusedSimpArgs false
set_option linter.unusedVariables false
structure DomsIn (X : Hp) (d : Nat) (bs : List BlkR) : Prop where
  ob : ∃ cells, rdOb X d 0 = some ⟨cells, 0, true, 1⟩ ∧ cells.length = bs.length ∧ ∀ b, b < bs.length → ∃ c, cells[b]? = some c ∧ IsI X c (domF bs b)
theorem DomsIn.pre {X Y : Hp} (hp : Pre X Y) {d : Nat} {bs : List BlkR} (h : DomsIn X d bs) : DomsIn Y d bs := by
  obtain ⟨cells, h1, h2, h3⟩ := h.ob
  refine ⟨cells, hp.rdOb h1, h2, fun b hb => ?_⟩
  obtain ⟨c, a, b⟩ := h3 b hb
  exact ⟨c, a, IsI.pre hp b⟩
theorem among_in {X : Hp} {d : Nat} {bs : List BlkR} (h : DomsIn X d bs) (hb : bs.length ≤ BIG) (a b : Int) (k : IV × Hp → Prop) :
    CM 103 [.c (.sl d 0 0 bs.length), .c (.i a), .c (.i b)] X k = k (.c (.b (inB b 0 ((bs.length : Int) - 1) && hasI (domF bs b.toNat) a)), X) := by
  obtain ⟨cells, h1, h2, h3⟩ := h.ob
  exact among_call h1 h2 h3 hb a b k
theorem at_call {Z : Hp} {v : CV} {f : FnR} {d : Nat} {x i : Int} {b : Nat} (hv : Blocks Z v f.blocks) (hsh : shapeB f = true) (hD : DomsIn Z d f.blocks) (hb : b < f.blocks.length) (k : IV × Hp → Prop) :
    CM 203 [.agg [v, .i f.values, .sl d 0 0 f.blocks.length], .c (.i x), .c (.i b), .c (.i i)] Z k = k (.c (.b (atB f.blocks x b i)), Z) := by
  refine det (cw203 ?_) k
  unfold vf203c
  obtain ⟨s1, s2, s3, s4⟩ := shape_len hsh
  have hbb : f.blocks.length ≤ BIG := by simp only [BIG]; omega
  obtain ⟨X, hX⟩ : ∃ X, Z ++ [(⟨[v, .i f.values, .sl d 0 0 f.blocks.length], 0, true, 3⟩ : Ob)] = X := ⟨_, rfl⟩
  have hp : Pre Z X := ⟨_, hX.symm⟩
  have hB : rdOb X Z.length 0 = some ⟨[v, .i f.values, .sl d 0 0 f.blocks.length], 0, true, 3⟩ := by rw [← hX]; simp
  have hda : defAtF f x = homeF f.blocks x := by unfold defAtF homeF; rw [if_pos hsh]
  have hib : inB (b : Int) 0 ((f.blocks.length : Int) - 1) = true := decide_eq_true (by omega)
  obtain ⟨h, hh⟩ : ∃ h, homeF f.blocks x = h := ⟨_, rfl⟩
  obtain ⟨h1, h2⟩ := h
  by_cases he : h1 = (b : Int)
  · have : atB f.blocks x b i = decide (h2 < i) := by unfold atB; rw [hh]; simp [he]
    simp [hX, rdN_ob hB, implDefAt (Blocks.pre hp hv) hbb, hda, hh, he, this]
    rw [gcRet_flat hp rfl]
  · have : atB f.blocks x b i = hasI (domF f.blocks b) h1 := by unfold atB; rw [hh]; simp [he]
    simp [hX, rdN_ob hB, rdC_ob hB, implDefAt (Blocks.pre hp hv) hbb, hda, hh, he, this, among_in (hD.pre hp) hbb, hib]
    rw [gcRet_flat hp rfl]
theorem not_at1 {Z : Hp} {v : CV} {f : FnR} {d lid kid iid : Nat} {x : Int} {b i : Nat} (hv : Blocks Z v f.blocks) (hsh : shapeB f = true) (hD : DomsIn Z d f.blocks) (hb : b < f.blocks.length)
    (h1 : rdOb Z lid 0 = some ⟨[v, .i f.values, .sl d 0 0 f.blocks.length], 0, true, 3⟩) (h2 : rdOb Z kid 0 = some ⟨[.i b], 0, true, 1⟩) (h3 : rdOb Z iid 0 = some ⟨[.i i], 0, true, 1⟩) (k : IV × Hp → Prop) :
    CM 202 [.c (.i x), .c (.p lid 0 0), .c (.p kid 0 0), .c (.p iid 0 0)] Z k = k (.c (.b (!atB f.blocks x b i)), Z) := by
  refine det (cw202 ?_) k
  unfold vf202c
  simp [rdN_ob h1, rdC_ob h2, rdC_ob h3, at_call hv hsh hD hb]
theorem not_at2 {Z : Hp} {v : CV} {f : FnR} {d lid kid xid n : Nat} {x : Int} {b : Nat} {w u a1 a2 a3 a4 : CV} (hv : Blocks Z v f.blocks) (hsh : shapeB f = true) (hD : DomsIn Z d f.blocks) (hb : b < f.blocks.length) (hu : lenOf u = some n)
    (h1 : rdOb Z lid 0 = some ⟨[v, .i f.values, .sl d 0 0 f.blocks.length], 0, true, 3⟩) (h2 : rdOb Z kid 0 = some ⟨[.i b], 0, true, 1⟩) (h3 : rdOb Z xid 0 = some ⟨[w, u, a1, a2, a3, a4], 0, true, 6⟩) (k : IV × Hp → Prop) :
    CM 204 [.c (.i x), .c (.p lid 0 0), .c (.p kid 0 0), .c (.p xid 0 0)] Z k = k (.c (.b (!atB f.blocks x b n)), Z) := by
  refine det (cw204 ?_) k
  unfold vf204c
  simp [rdN_ob h1, rdC_ob h2, rdC_ob h3, hu, at_call hv hsh hD hb]
def PhisOk (bs : List BlkR) (b : BlkR) : Prop := ∀ p ∈ b.phis, ∀ a ∈ p.arms, hasI (domF bs a.fr.toNat) (homeF bs a.v).1 = true
def ListOk (bs : List BlkR) (b : BlkR) (j : Nat) : Prop := ∀ i (hi : i < b.list.length), (usesF b.list[i]).any (fun x => !atB bs x j i) = false
def BlkOk (bs : List BlkR) (j : Nat) : Prop := ∀ hj : j < bs.length, PhisOk bs bs[j] ∧ ListOk bs bs[j] j ∧ (tusesF bs[j].term).any (fun x => !atB bs x j bs[j].list.length) = false
set_option maxRecDepth 100000 in
theorem blockWell_call {H : Hp} {v : CV} {f : FnR} {d i : Nat} (hv : Blocks H v f.blocks) (hsh : shapeB f = true) (hD : DomsIn H d f.blocks) (hi : i < f.blocks.length) (k : IV × Hp → Prop) :
    CM 155 [.agg [v, .i f.values, .sl d 0 0 f.blocks.length], .c (.i i)] H k = k (.c (.b (pB (BlkOk f.blocks i))), H) := by
  refine det (cw155 ?_) k
  unfold vf155c
  obtain ⟨s1, s2, s3, s4⟩ := shape_len hsh
  have hbb : f.blocks.length ≤ BIG := by simp only [BIG]; omega
  obtain ⟨X, hX⟩ : ∃ X, H ++ [(⟨[v, .i f.values, .sl d 0 0 f.blocks.length], 0, true, 3⟩ : Ob), ⟨[.i i], 0, true, 1⟩] = X := ⟨_, rfl⟩
  have hp : Pre H X := ⟨_, hX.symm⟩
  have hB : rdOb X H.length 0 = some ⟨[v, .i f.values, .sl d 0 0 f.blocks.length], 0, true, 3⟩ := by rw [← hX]; simp
  have hC : rdOb X (H.length + 1) 0 = some ⟨[.i i], 0, true, 1⟩ := by rw [← hX]; simp
  have hmem : f.blocks[i] ∈ f.blocks := List.getElem_mem hi
  have hlens := shape_lens hsh hmem
  obtain ⟨i0, g0, off0, w, u, q1, _, q2, qp, ql, qpl, qll, _, _⟩ := Blocks.get hv hi
  obtain ⟨GY, hGY⟩ := id hp
  have q2' := q2 GY
  rw [← hGY] at q2'
  obtain ⟨t, ht⟩ : ∃ t, f.blocks[i].term = t := ⟨_, rfl⟩
  rw [ht] at q2'
  obtain ⟨Y, hY⟩ : ∃ Y, X ++ [(⟨[w, u, .i t.kind, .i t.a, .i t.to, .i t.els], 0, true, 6⟩ : Ob)] = Y := ⟨_, rfl⟩
  have hpY : Pre X Y := ⟨_, hY.symm⟩
  have h5 : rdOb Y X.length 0 = some ⟨[w, u, .i t.kind, .i t.a, .i t.to, .i t.els], 0, true, 6⟩ := by rw [← hY]; simp
  have hpl := qp.lenOf
  have hll := ql.lenOf
  simp [hX, rdC_ob hB, rdC_ob hC, q1, q2'.2.2.2.2.2.2.2.2.2.2, put66c, hY, rdC_ob h5, hpl]
  obtain ⟨I, hI⟩ : ∃ I : Nat → St → Prop, ∀ j st, I j st ↔ ((∀ p ∈ f.blocks[i].phis.take j, ∀ a ∈ p.arms, hasI (domF f.blocks a.fr.toNat) (homeF f.blocks a.v).1 = true) ∧ Pre Y st.h ∧
      Env.get st.e 2 = .c (.p H.length 0 0) ∧ Env.get st.e 3 = .c (.p (H.length + 1) 0 0) ∧ Env.get st.e 5 = .c (.p X.length 0 0) ∧ Env.get st.e 21 = .c w ∧ Env.get st.e 22 = .c (.i f.blocks[i].phis.length) ∧ Env.get st.e 23 = .c (.i j)) := ⟨_, fun _ _ => Iff.rfl⟩
  refine wp_for CM_mono f.blocks[i].phis.length I ((hI _ _).2 ⟨by simp, Pre.refl _, by simp⟩) ?_ ?_
  · rintro j ⟨e, Z⟩ hj hIs
    obtain ⟨hdj, hZ, e2, e3, e5, e21, e22, e23⟩ := (hI _ _).1 hIs
    simp only at hZ e2 e3 e5 e21 e22 e23 ⊢
    obtain ⟨id2, g2, off2, w2, r1, _, r2, qa, _⟩ := Phis.get qp hj
    have hHZ := (hp.trans hpY).trans hZ
    obtain ⟨GZ, hGZ⟩ := id hHZ
    have r2' := r2 GZ
    rw [← hGZ] at r2'
    obtain ⟨ph, hph⟩ : ∃ ph, f.blocks[i].phis[j] = ph := ⟨_, rfl⟩
    have hphB := shape_phi hsh hmem (List.getElem_mem hj)
    rw [hph] at r2' hphB qa
    obtain ⟨_, hal, harm⟩ := phi_vals hphB
    obtain ⟨Z1, hZ1⟩ : ∃ Z1, Z ++ [(⟨[.i ph.d, w2], 0, true, 2⟩ : Ob)] = Z1 := ⟨_, rfl⟩
    have h7 : rdOb Z1 Z.length 0 = some ⟨[.i ph.d, w2], 0, true, 2⟩ := by rw [← hZ1]; simp
    have hpZ1 : Pre Z Z1 := ⟨_, hZ1.symm⟩
    have hall := qa.lenOf
    unfold vf155b1
    simp [e2, e3, e5, e21, e22, e23, hj, r1, r2'.2.2, putD0, hZ1, rdC_ob h7, hall]
    obtain ⟨K, hK⟩ : ∃ K : Nat → St → Prop, ∀ k st, K k st ↔ ((∀ a ∈ ph.arms.take k, hasI (domF f.blocks a.fr.toNat) (homeF f.blocks a.v).1 = true) ∧ Pre Y st.h ∧
        Env.get st.e 2 = .c (.p H.length 0 0) ∧ Env.get st.e 3 = .c (.p (H.length + 1) 0 0) ∧ Env.get st.e 5 = .c (.p X.length 0 0) ∧ Env.get st.e 21 = .c w ∧ Env.get st.e 22 = .c (.i f.blocks[i].phis.length) ∧ Env.get st.e 23 = .c (.i j) ∧
        Env.get st.e 28 = .c w2 ∧ Env.get st.e 29 = .c (.i ph.arms.length) ∧ Env.get st.e 30 = .c (.i k)) := ⟨_, fun _ _ => Iff.rfl⟩
    refine wp_for CM_mono ph.arms.length K ((hK _ _).2 ⟨by simp, hZ.trans hpZ1, by simp [e2, e3, e5, e21, e22, e23]⟩) ?_ ?_
    · rintro k ⟨e', W⟩ hk hKs
      obtain ⟨hdk, hW, e2, e3, e5, e21, e22, e23, e28, e29, e30⟩ := (hK _ _).1 hKs
      simp only at hW e2 e3 e5 e21 e22 e23 e28 e29 e30 ⊢
      have hHW := (hp.trans hpY).trans hW
      obtain ⟨id3, g3, off3, m1, ⟨m2, m3, m4⟩, m5, m6, m7⟩ := Arms.get (qa.pre hHW) hk
      obtain ⟨hfr, _⟩ := harm k hk
      obtain ⟨a, ha⟩ : ∃ a, ph.arms[k] = a := ⟨_, rfl⟩
      rw [ha] at m2 m3 m4 hfr
      obtain ⟨W1, hW1⟩ : ∃ W1, W ++ [(⟨[.i a.fr, .i a.v], 0, true, 2⟩ : Ob)] = W1 := ⟨_, rfl⟩
      have hpW1 : Pre W W1 := ⟨_, hW1.symm⟩
      have h9 : rdOb W1 W.length 0 = some ⟨[.i a.fr, .i a.v], 0, true, 2⟩ := by rw [← hW1]; simp
      have hpX1 := (hpY.trans hW).trans hpW1
      have hBW := hpX1.rdOb hB
      have hda : defAtF f a.v = homeF f.blocks a.v := by unfold defAtF homeF; rw [if_pos hsh]
      have hvW := Blocks.pre (hp.trans hpX1) hv
      have hDW := hD.pre (hp.trans hpX1)
      unfold vf155b0
      cases hh : hasI (domF f.blocks a.fr.toNat) (homeF f.blocks a.v).1 with
      | true =>
        simp [e2, e3, e5, e21, e22, e23, e28, e29, e30, hk, m1, m4, putD0, hW1, rdC_ob h9, rdN_ob hBW, rdC_ob hBW, implDefAt hvW hbb, hda, among_in hDW hbb, hfr, hh, up1 hk (show ph.arms.length ≤ BIG by simp only [BIG]; omega)]
        refine (hK _ _).2 ⟨?_, hW.trans hpW1, by simp [e2, e3, e5, e21, e22, e23, e28, e29]⟩
        intro x hx
        rw [List.take_succ_eq_append_getElem hk] at hx
        rcases List.mem_append.1 hx with h | h
        · exact hdk x h
        · simp at h; rw [h, ha]; exact hh
      | false =>
        have hno : ¬ BlkOk f.blocks i := fun hc => by
          have := (hc hi).1 ph (hph ▸ List.getElem_mem hj) a (ha ▸ List.getElem_mem hk)
          rw [hh] at this; cases this
        simp [e2, e3, e5, e21, e22, e23, e28, e29, e30, hk, m1, m4, putD0, hW1, rdC_ob h9, rdN_ob hBW, rdC_ob hBW, implDefAt hvW hbb, hda, among_in hDW hbb, hfr, hh]
        rw [gcRet_flat (hp.trans hpX1) rfl, pB_false hno]
    · rintro ⟨e', W⟩ hKs
      obtain ⟨hdk, hW, e2, e3, e5, e21, e22, e23, e28, e29, e30⟩ := (hK _ _).1 hKs
      simp only at hW e2 e3 e5 e21 e22 e23 e28 e29 e30 ⊢
      rw [List.take_length] at hdk
      unfold vf155b0
      simp [e2, e3, e5, e21, e22, e23, e28, e29, e30, up1 hj qpl]
      refine (hI _ _).2 ⟨?_, hW, by simp [e2, e3, e5, e21, e22]⟩
      intro p hp'
      rw [List.take_succ_eq_append_getElem hj] at hp'
      rcases List.mem_append.1 hp' with h | h
      · exact hdj p h
      · simp at h; rw [h, hph]; exact hdk
  · rintro ⟨e, Z⟩ hIs
    obtain ⟨hdj, hZ, e2, e3, e5, e21, e22, e23⟩ := (hI _ _).1 hIs
    simp only at hZ e2 e3 e5 e21 e22 e23 ⊢
    rw [List.take_length] at hdj
    have h5Z := hZ.rdOb h5
    unfold vf155b1
    simp [e2, e3, e5, e21, e22, e23, rdC_ob h5Z, hll]
    obtain ⟨J, hJ⟩ : ∃ J : Nat → St → Prop, ∀ j st, J j st ↔ ((∀ k (hk : k < f.blocks[i].list.length), k < j → (usesF f.blocks[i].list[k]).any (fun x => !atB f.blocks x i k) = false) ∧ Pre Y st.h ∧
        Env.get st.e 2 = .c (.p H.length 0 0) ∧ Env.get st.e 3 = .c (.p (H.length + 1) 0 0) ∧ Env.get st.e 5 = .c (.p X.length 0 0) ∧ Env.get st.e 52 = .c u ∧ Env.get st.e 53 = .c (.i f.blocks[i].list.length) ∧ Env.get st.e 54 = .c (.i j)) := ⟨_, fun _ _ => Iff.rfl⟩
    refine wp_for CM_mono f.blocks[i].list.length J ((hJ _ _).2 ⟨by simp, hZ, by simp [e2, e3, e5]⟩) ?_ ?_
    · rintro j ⟨e', W⟩ hj hJs
      obtain ⟨hdl, hW, e2, e3, e5, e52, e53, e54⟩ := (hJ _ _).1 hJs
      simp only at hW e2 e3 e5 e52 e53 e54 ⊢
      obtain ⟨id2, g2, off2, r1, _, r2, _⟩ := List5.get ql hj
      have hHW := (hp.trans hpY).trans hW
      obtain ⟨GW, hGW⟩ := id hHW
      have r2' := r2 GW
      rw [← hGW] at r2'
      obtain ⟨x, hx⟩ : ∃ x, f.blocks[i].list[j] = x := ⟨_, rfl⟩
      rw [hx] at r2'
      obtain ⟨W1, hW1⟩ : ∃ W1, W ++ [(⟨[.i j], 0, true, 1⟩ : Ob), ⟨[.i x.op, .i x.d, .i x.a, .i x.b, .i x.n], 0, true, 5⟩] = W1 := ⟨_, rfl⟩
      have hpW1 : Pre W W1 := ⟨_, hW1.symm⟩
      have h12 : rdOb W1 W.length 0 = some ⟨[.i j], 0, true, 1⟩ := by rw [← hW1]; simp
      have h13 : rdOb W1 (W.length + 1) 0 = some ⟨[.i x.op, .i x.d, .i x.a, .i x.b, .i x.n], 0, true, 5⟩ := by rw [← hW1]; simp
      obtain ⟨uw, L, hw, hcall⟩ := implUses W1 x
      obtain ⟨W2, hW2⟩ : ∃ W2, W1 ++ L = W2 := ⟨_, rfl⟩
      have hwI := hw.isI
      have hpW2 : Pre W1 W2 := ⟨_, hW2.symm⟩
      rw [hW2] at hwI
      have hpX2 := ((hpY.trans hW).trans hpW1).trans hpW2
      have hBW := hpX2.rdOb hB
      have hCW := hpX2.rdOb hC
      have h12W := hpW2.rdOb h12
      have hvW := Blocks.pre (hp.trans hpX2) hv
      have hDW := hD.pre (hp.trans hpX2)
      have hcf := fun k => containsFInt hwI (Nat.le_trans (usesF_le x) (by simp [BIG])) (fid := 202) (caps := [.p H.length 0 0, .p (H.length + 1) 0 0, .p W.length 0 0]) (fun y => !atB f.blocks y i j)
        (fun y _ k => not_at1 hvW hsh hDW hi hBW hCW h12W k) k
      unfold vf155b2
      cases hh : (usesF x).any (fun y => !atB f.blocks y i j) with
      | false =>
        simp [e2, e3, e5, e52, e53, e54, hj, r1, r2'.2.2.2.2.2, put5, putL0, hW1, rdN_ob h13, hcall, hW2, hcf, hh, up1 hj qll]
        refine (hJ _ _).2 ⟨?_, (hW.trans hpW1).trans hpW2, by simp [e2, e3, e5, e52, e53]⟩
        intro k hk hkj
        by_cases ek : k = j
        · subst ek; rw [hx]; exact hh
        · exact hdl k hk (by omega)
      | true =>
        have hno : ¬ BlkOk f.blocks i := fun hc => by
          have := (hc hi).2.1 j hj
          rw [hx, hh] at this; cases this
        simp [e2, e3, e5, e52, e53, e54, hj, r1, r2'.2.2.2.2.2, put5, putL0, hW1, rdN_ob h13, hcall, hW2, hcf, hh]
        rw [gcRet_flat (hp.trans hpX2) rfl, pB_false hno]
    · rintro ⟨e', W⟩ hJs
      obtain ⟨hdl, hW, e2, e3, e5, e52, e53, e54⟩ := (hJ _ _).1 hJs
      simp only at hW e2 e3 e5 e52 e53 e54 ⊢
      have h5W := hW.rdOb h5
      obtain ⟨uw, L, hw, hcall⟩ := implTUses W t
      obtain ⟨W2, hW2⟩ : ∃ W2, W ++ L = W2 := ⟨_, rfl⟩
      have hwI := hw.isI
      have hpW2 : Pre W W2 := ⟨_, hW2.symm⟩
      rw [hW2] at hwI
      have hpX2 := (hpY.trans hW).trans hpW2
      have hBW := hpX2.rdOb hB
      have hCW := hpX2.rdOb hC
      have h5W2 := hpW2.rdOb h5W
      have hvW := Blocks.pre (hp.trans hpX2) hv
      have hDW := hD.pre (hp.trans hpX2)
      have hcf := fun k => containsFInt hwI (Nat.le_trans (tusesF_le t) (by simp [BIG])) (fid := 204) (caps := [.p H.length 0 0, .p (H.length + 1) 0 0, .p X.length 0 0]) (fun y => !atB f.blocks y i f.blocks[i].list.length)
        (fun y _ k => not_at2 hvW hsh hDW hi hll hBW hCW h5W2 k) k
      have hres : pB (BlkOk f.blocks i) = !(tusesF t).any (fun y => !atB f.blocks y i f.blocks[i].list.length) := by
        cases hh : (tusesF t).any (fun y => !atB f.blocks y i f.blocks[i].list.length) with
        | false => rw [pB_true]; rfl; exact fun _ => ⟨hdj, fun k hk => hdl k hk hk, by rw [ht]; exact hh⟩
        | true =>
          rw [pB_false]; rfl
          intro hc
          have := (hc hi).2.2
          rw [ht, hh] at this; cases this
      unfold vf155b2
      simp [e2, e3, e5, e52, e53, e54, rdN_ob h5W, hcall, hW2, hcf]
      rw [gcRet_flat (hp.trans hpX2) rfl, hres]
end Go.Proofs.YtgdfgnppeekfjaaGreat.Vm
end
section
/- Whether a value is taken where it was not made: the program's side. No conditions. -/
namespace Go.Proofs.YtgdfgnppeekfjaaGreat.Vm
open Go.RowKit (wrap64)
set_option linter.unusedSimpArgs false
set_option linter.unusedVariables false
def TakenOk (bs : List BlkR) : Prop := ∀ j, BlkOk bs j
theorem DomsRes.mk' {Y : Hp} {d : Nat} {bs : List BlkR} {cells : List CV} (h1 : rdOb Y d 0 = some ⟨cells, 0, true, 1⟩) (h2 : cells.length = bs.length) (h3 : ∀ b, b < bs.length → ∃ c, cells[b]? = some c ∧ IsI Y c (domF bs b)) : DomsIn Y d bs := ⟨cells, h1, h2, h3⟩
theorem putB3 (a b c d e x : CV) : putAt (putAt [a, b, c] 0 [d, e]) 2 [x] = [d, e, x] := rfl
theorem putB3l (a b c d e : CV) : (putAt [a, b, c] 0 [d, e]).length = 3 := rfl
theorem putB3m (a b c d e f : CV) : putAt [a, b, c] 0 [d, e, f] = [d, e, f] := rfl
theorem putB3n (a b c d e : CV) : putAt [a, b, c] 0 [d, e] = [d, e, c] := rfl
theorem putB3o (a b c x : CV) : putAt [a, b, c] 2 [x] = [a, b, x] := rfl
theorem IsI.set_other {X : Hp} {c : CV} {xs : List Int} (h : IsI X c xs) {lid : Nat} {o : Ob} (ho : rdOb X lid 0 = some o) (hs : o.sz ≠ 1) (o' : Ob) : IsI (X.set lid o') c xs := by
  rcases h with ⟨h1, h2, h3⟩ | ⟨id, g, off, ob, h1, h2, h3, h4⟩
  · exact .inl ⟨h1, h2, h3⟩
  · refine .inr ⟨id, g, off, ob, h1, ?_, h3, h4⟩
    have hne : id ≠ lid := fun e => by
      subst e
      have a := (rdOb_some.1 ho).1
      have b := (rdOb_some.1 h2).1
      rw [a] at b; injection b with b; subst b; exact hs h3
    rw [rdOb_set_ne hne]; exact h2
set_option maxRecDepth 100000 in
theorem implTaken {H : Hp} {v : CV} {f : FnR} (hv : Blocks H v f.blocks) (hsh : shapeB f = true) (k : IV × Hp → Prop) :
    CM 91 [.agg [v, .i f.values]] H k = k (.c (.b (pB (¬ TakenOk f.blocks))), H) := by
  refine det (cw91 ?_) k
  unfold vf91c
  obtain ⟨s1, s2, s3, s4⟩ := shape_len hsh
  have hbb : f.blocks.length ≤ BIG := by simp only [BIG]; omega
  obtain ⟨X, hX⟩ : ∃ X, H ++ [(⟨[v, .i f.values], 0, true, 2⟩ : Ob)] = X := ⟨_, rfl⟩
  have hp : Pre H X := ⟨_, hX.symm⟩
  have hB : rdOb X H.length 0 = some ⟨[v, .i f.values], 0, true, 2⟩ := by rw [← hX]; simp
  unfold vf91r0 vf91t0
  simp [hX, rdN_ob hB]
  refine ⟨?_, ?_⟩
  · refine (implDoms (m := f.values) (hv.pre hp) hbb hsh).mono ?_
    rintro _ ⟨d, X2, cells, rfl, hp2, h1, h2, h3⟩
    obtain ⟨Y, hY⟩ : ∃ Y, X2 ++ [(⟨[v, .i f.values, .sl d 0 0 f.blocks.length], 0, true, 3⟩ : Ob)] = Y := ⟨_, rfl⟩
    have hq : Pre X2 Y := ⟨_, hY.symm⟩
    have hlook : rdOb Y X2.length 0 = some ⟨[v, .i f.values, .sl d 0 0 f.blocks.length], 0, true, 3⟩ := by rw [← hY]; simp
    obtain ⟨lid, hlid⟩ : ∃ lid, X2.length = lid := ⟨_, rfl⟩
    have hDY : DomsIn Y d f.blocks := (DomsRes.mk' h1 h2 h3).pre hq
    have hpY : Pre H Y := (hp.trans hp2).trans hq
    have hvY := Blocks.pre hpY hv
    have hl := hvY.lenOf
    have hBY := (hp2.trans hq).rdOb hB
    rw [hlid] at hlook
    have hbk : rdOb (X2 ++ [(⟨[.ns, .i 0, .ns], 0, true, 3⟩ : Ob)]) lid 0 = some ⟨[.ns, .i 0, .ns], 0, true, 3⟩ := by rw [← hlid]; simp
    have hbB : rdOb (X2 ++ [(⟨[.ns, .i 0, .ns], 0, true, 3⟩ : Ob)]) H.length 0 = some ⟨[v, .i f.values], 0, true, 2⟩ := rdOb_app _ (hp2.rdOb hB)
    simp [hp2.rdOb hB, hB, hbB, hbk, putB3, putB3l, putB3m, hY, hlid, hBY, rdC_ob hBY, hl]
    obtain ⟨I, hI⟩ : ∃ I : Nat → St → Prop, ∀ i st, I i st ↔ ((∀ j, j < i → BlkOk f.blocks j) ∧ st.h = Y ∧
        Env.get st.e 3 = .c (.p lid 0 0) ∧ Env.get st.e 11 = .c (.i f.blocks.length) ∧ Env.get st.e 12 = .c (.i i)) := ⟨_, fun _ _ => Iff.rfl⟩
    refine wp_for CM_mono f.blocks.length I ((hI _ _).2 ⟨by simp, rfl, by simp [hlid]⟩) ?_ ?_
    · rintro i ⟨e, Z⟩ hi hIs
      obtain ⟨hdone, hZ, e3, e11, e12⟩ := (hI _ _).1 hIs
      simp only at hZ e3 e11 e12 ⊢
      subst hZ
      unfold vf91b0
      by_cases hok : BlkOk f.blocks i
      · simp [e3, e11, e12, hi, rdN_ob hlook, blockWell_call hvY hsh hDY hi, pB_true hok, up1 hi hbb]
        refine (hI _ _).2 ⟨?_, rfl, by simp [e3, e11]⟩
        intro j hj
        by_cases ej : j = i
        · subst ej; exact hok
        · exact hdone j (by omega)
      · have hno : ¬ TakenOk f.blocks := fun hc => hok (hc i)
        simp [e3, e11, e12, hi, rdN_ob hlook, blockWell_call hvY hsh hDY hi, pB_false hok]
        rw [gcRet_flat hpY rfl, pB_true hno]
    · rintro ⟨e, Z⟩ hIs
      obtain ⟨hdone, hZ, e3, e11, e12⟩ := (hI _ _).1 hIs
      simp only at hZ e3 e11 e12 ⊢
      subst hZ
      have hyes : ¬ ¬ TakenOk f.blocks := fun hc => hc fun j hj => hdone j hj hj
      unfold vf91b0
      simp [e3, e11, e12]
      rw [gcRet_flat hpY rfl, pB_false hyes]
  · refine ⟨(rdOb_app _ hB).trans hB.symm, ?_⟩
    refine (implDoms (m := f.values) ((hv.pre hp).app _) hbb hsh).mono ?_
    rintro _ ⟨d, X2, cells, rfl, hp2, h1, h2, h3⟩
    obtain ⟨lid, hlid⟩ : ∃ lid, X.length = lid := ⟨_, rfl⟩
    have hbl : rdOb X2 X.length 0 = some ⟨[.ns, .i 0, .ns], 0, true, 3⟩ := hp2.rdOb (by simp)
    have hlt := rdOb_lt hbl
    have hpX2 : Pre X X2 := Pre.trans ⟨_, rfl⟩ hp2
    obtain ⟨Y, hY⟩ : ∃ Y, X2.set X.length ⟨[v, .i f.values, .sl d 0 0 f.blocks.length], 0, true, 3⟩ = Y := ⟨_, rfl⟩
    have hpXY : Pre X Y := by rw [← hY]; exact hpX2.set (by omega) _
    have hlook : rdOb Y X.length 0 = some ⟨[v, .i f.values, .sl d 0 0 f.blocks.length], 0, true, 3⟩ := by rw [← hY, rdOb_set_self hlt]; simp
    have hDY : DomsIn Y d f.blocks := by
      rw [← hY]
      refine ⟨cells, ?_, h2, fun b hb => ?_⟩
      · have hne : d ≠ X.length := fun e => by rw [e, hbl] at h1; simp at h1
        rw [rdOb_set_ne hne]; exact h1
      · obtain ⟨c, a1, a2⟩ := h3 b hb
        exact ⟨c, a1, a2.set_other hbl (by decide) _⟩
    have hpY : Pre H Y := hp.trans hpXY
    have hvY := Blocks.pre hpY hv
    have hl := hvY.lenOf
    have hBY := hpXY.rdOb hB
    rw [hlid] at hlook hbl hY
    simp [hpX2.rdOb hB, rdOb_app _ hB, hB, putB3, putB3l, putB3m, putB3n, putB3o, hlid, hbl, hY, hBY, rdC_ob hBY, hl]
    obtain ⟨I, hI⟩ : ∃ I : Nat → St → Prop, ∀ i st, I i st ↔ ((∀ j, j < i → BlkOk f.blocks j) ∧ st.h = Y ∧
        Env.get st.e 3 = .c (.p lid 0 0) ∧ Env.get st.e 11 = .c (.i f.blocks.length) ∧ Env.get st.e 12 = .c (.i i)) := ⟨_, fun _ _ => Iff.rfl⟩
    refine wp_for CM_mono f.blocks.length I ((hI _ _).2 ⟨by simp, rfl, by simp [hlid]⟩) ?_ ?_
    · rintro i ⟨e, Z⟩ hi hIs
      obtain ⟨hdone, hZ, e3, e11, e12⟩ := (hI _ _).1 hIs
      simp only at hZ e3 e11 e12 ⊢
      subst hZ
      unfold vf91b0
      by_cases hok : BlkOk f.blocks i
      · simp [e3, e11, e12, hi, rdN_ob hlook, blockWell_call hvY hsh hDY hi, pB_true hok, up1 hi hbb]
        refine (hI _ _).2 ⟨?_, rfl, by simp [e3, e11]⟩
        intro j hj
        by_cases ej : j = i
        · subst ej; exact hok
        · exact hdone j (by omega)
      · have hno : ¬ TakenOk f.blocks := fun hc => hok (hc i)
        simp [e3, e11, e12, hi, rdN_ob hlook, blockWell_call hvY hsh hDY hi, pB_false hok]
        rw [gcRet_flat hpY rfl, pB_true hno]
    · rintro ⟨e, Z⟩ hIs
      obtain ⟨hdone, hZ, e3, e11, e12⟩ := (hI _ _).1 hIs
      simp only at hZ e3 e11 e12 ⊢
      subst hZ
      have hyes : ¬ ¬ TakenOk f.blocks := fun hc => hc fun j hj => hdone j hj hj
      unfold vf91b0
      simp [e3, e11, e12]
      rw [gcRet_flat hpY rfl, pB_false hyes]
end Go.Proofs.YtgdfgnppeekfjaaGreat.Vm
end
section
/- Whether a value is taken where it was not made: the specification's side. No conditions. -/
namespace Go.Proofs.YtgdfgnppeekfjaaGreat.Vm
open Go.RowKit (wrap64)
set_option linter.unusedSimpArgs false
set_option linter.unusedVariables false
theorem hasI_neg (bs : List BlkR) (b : Nat) {h : Int} (hh : h < 0) : hasI (domF bs b) h = false := by
  cases e : hasI (domF bs b) h with
  | false => rfl
  | true =>
    obtain ⟨a, _, ha, _⟩ := domF_mem (hasI_iff.1 e)
    omega
theorem arm_eq {bs : List BlkR} (hin : InRange bs) {b : Nat} (hb : b < bs.length) (hs : (seenF bs).getD b false = true) (x : Int) : atB bs x b bs[b].list.length = hasI (domF bs b) (homeF bs x).1 := by
  unfold atB
  by_cases he : (homeF bs x).1 = (b : Int)
  · rw [if_pos he, he, (hasI_dom hin hb hb).2 (Dom.self ((seen_rch hin hb).1 hs))]
    refine decide_eq_true ?_
    rcases defGo_spec x bs 0 with ⟨h1, h2⟩ | ⟨i, hi, h1, h2⟩
    · change (homeF bs x).1 = -1 at h2; omega
    · change (homeF bs x).1 = _ at h1
      have : i = b := by omega
      subst this
      rcases h2 with ⟨h2, _⟩ | ⟨n, hn, h2, _⟩
      · change (homeF bs x).2 = _ at h2; omega
      · change (homeF bs x).2 = _ at h2; omega
  · rw [if_neg he]
theorem known_call {Z : Hp} {v : CV} {f : FnR} {d : Nat} {x i : Int} {b : Nat} (hv : Blocks Z v f.blocks) (hsh : shapeB f = true) (hD : DomsIn Z d f.blocks) (hb : b < f.blocks.length) (k : IV × Hp → Prop) :
    CM 160 [.agg [v, .i f.values], .c (.sl d 0 0 f.blocks.length), .c (.i x), .c (.i b), .c (.i i)] Z k = k (.c (.b (atB f.blocks x b i)), Z) := by
  refine det (cw160 ?_) k
  unfold vf160c
  obtain ⟨s1, s2, s3, s4⟩ := shape_len hsh
  have hbb : f.blocks.length ≤ BIG := by simp only [BIG]; omega
  obtain ⟨X, hX⟩ : ∃ X, Z ++ [(⟨[v, .i f.values], 0, true, 2⟩ : Ob)] = X := ⟨_, rfl⟩
  have hp : Pre Z X := ⟨_, hX.symm⟩
  have hB : rdOb X Z.length 0 = some ⟨[v, .i f.values], 0, true, 2⟩ := by rw [← hX]; simp
  have hcall := fun k => specDefAt (m := f.values) (v := x) (Blocks.pre hp hv) hbb (fun b hb x hx hm => (insB_d (shape_ins hsh hb hx) hm).1) k
  obtain ⟨h, hh⟩ : ∃ h, homeF f.blocks x = h := ⟨_, rfl⟩
  have hh' : defGo x f.blocks 0 = h := hh
  rw [hh'] at hcall
  obtain ⟨h1, h2⟩ := h
  obtain ⟨cells, d1, d2, d3⟩ := (hD.pre hp).ob
  obtain ⟨c, c1, c2⟩ := d3 b hb
  by_cases he : h1 = (b : Int)
  · have : atB f.blocks x b i = decide (h2 < i) := by unfold atB; rw [hh]; simp [he]
    simp [hX, rdN_ob hB, hcall, he, this]
    rw [gcRet_flat hp rfl]
  · have h0 : atB f.blocks x b i = hasI (domF f.blocks b) h1 := by unfold atB; rw [hh]; simp [he]
    by_cases hn : 0 ≤ h1
    · simp [hX, rdN_ob hB, hcall, he, h0, hn, idxOf, hb, rdC_ob d1, c1, l3Has_call c2 (domF_le hbb b)]
      rw [gcRet_flat hp rfl]
    · rw [hasI_neg _ _ (by omega)] at h0
      simp [hX, rdN_ob hB, hcall, he, h0, hn]
      rw [gcRet_flat hp rfl]
theorem notAny {p : Int → Bool} {xs : List Int} {k : Nat} (hk : k < xs.length) (h : p xs[k] = false) : xs.any (fun x => !p x) = true := List.any_eq_true.2 ⟨_, List.getElem_mem hk, by simp [h]⟩
theorem anyNone {p : Int → Bool} {xs : List Int} (h : ∀ k (hk : k < xs.length), p xs[k] = true) : xs.any (fun x => !p x) = false := by
  rw [List.any_eq_false]
  intro x hx
  obtain ⟨k, hk, rfl⟩ := List.getElem_of_mem hx
  simp [h k hk]
set_option maxRecDepth 100000 in
theorem specTaken {H : Hp} {v : CV} {f : FnR} (hv : Blocks H v f.blocks) (hsh : shapeB f = true) (hseen : ∀ b, b < f.blocks.length → (seenF f.blocks).getD b false = true) (k : IV × Hp → Prop) :
    CM 98 [.agg [v, .i f.values]] H k = k (.c (.b (pB (TakenOk f.blocks))), H) := by
  refine det (cw98 ?_) k
  unfold vf98c
  obtain ⟨s1, s2, s3, s4⟩ := shape_len hsh
  have hbb : f.blocks.length ≤ BIG := by simp only [BIG]; omega
  have hin : InRange f.blocks := shape_range hsh
  obtain ⟨X, hX⟩ : ∃ X, H ++ [(⟨[v, .i f.values], 0, true, 2⟩ : Ob)] = X := ⟨_, rfl⟩
  have hp : Pre H X := ⟨_, hX.symm⟩
  have hB : rdOb X H.length 0 = some ⟨[v, .i f.values], 0, true, 2⟩ := by rw [← hX]; simp
  simp [hX, rdN_ob hB]
  refine (specDoms (m := f.values) (hv.pre hp) hin hbb (by omega)).mono ?_
  rintro _ ⟨d, X1, cells, rfl, hp1, d1, d2, d3⟩
  have hD : DomsIn X1 d f.blocks := DomsRes.mk' d1 d2 d3
  have hpH : Pre H X1 := hp.trans hp1
  have hB1 := hp1.rdOb hB
  have hv1 := Blocks.pre hpH hv
  have hl := hv1.lenOf
  simp
  obtain ⟨I, hI⟩ : ∃ I : Nat → St → Prop, ∀ i st, I i st ↔ ((∀ j, j < i → BlkOk f.blocks j) ∧ Pre X1 st.h ∧
      Env.get st.e 1 = .c (.p H.length 0 0) ∧ Env.get st.e 3 = .c (.sl d 0 0 f.blocks.length) ∧ Env.get st.e 4 = .c (.i i)) := ⟨_, fun _ _ => Iff.rfl⟩
  refine wp_for CM_mono f.blocks.length I ((hI _ _).2 ⟨by simp, Pre.refl _, by simp⟩) ?_ ?_
  · rintro i ⟨e, Y⟩ hi hIs
    obtain ⟨hdone, hY, e1, e3, e4⟩ := (hI _ _).1 hIs
    simp only at hY e1 e3 e4 ⊢
    have hmem : f.blocks[i] ∈ f.blocks := List.getElem_mem hi
    have hlens := shape_lens hsh hmem
    have hBY := hY.rdOb hB1
    have hvY := hv1.pre hY
    obtain ⟨i0, g0, off0, w, u, q1, q1', q2, qp, ql, qpl, qll, _, _⟩ := Blocks.get hvY hi
    have q2' := q2 []
    rw [List.append_nil] at q2'
    obtain ⟨t, ht⟩ : ∃ t, f.blocks[i].term = t := ⟨_, rfl⟩
    rw [ht] at q2'
    obtain ⟨Y1, hY1⟩ : ∃ Y1, Y ++ [(⟨[w, u, .i t.kind, .i t.a, .i t.to, .i t.els], 0, true, 6⟩ : Ob)] = Y1 := ⟨_, rfl⟩
    have hpY1 : Pre Y Y1 := ⟨_, hY1.symm⟩
    have h5 : rdOb Y1 Y.length 0 = some ⟨[w, u, .i t.kind, .i t.a, .i t.to, .i t.els], 0, true, 6⟩ := by rw [← hY1]; simp
    have hpl := qp.lenOf
    have hll := ql.lenOf
    have hbad : ¬ BlkOk f.blocks i → pB (TakenOk f.blocks) = false := fun h => pB_false fun hc => h (hc i)
    unfold vf98b5
    simp [e1, e3, e4, hi, rdC_ob hBY, hl, q1, q2'.2.2.2.2.2.2.2.2.2.2, put66c, hY1]
    obtain ⟨J, hJ⟩ : ∃ J : Nat → St → Prop, ∀ j st, J j st ↔ ((∀ k (hk : k < f.blocks[i].list.length), k < j → (usesF f.blocks[i].list[k]).any (fun x => !atB f.blocks x i k) = false) ∧ Pre Y1 st.h ∧
        Env.get st.e 1 = .c (.p H.length 0 0) ∧ Env.get st.e 3 = .c (.sl d 0 0 f.blocks.length) ∧ Env.get st.e 4 = .c (.i i) ∧ Env.get st.e 5 = .c (.p Y.length 0 0) ∧ Env.get st.e 6 = .c (.i j)) := ⟨_, fun _ _ => Iff.rfl⟩
    refine wp_for CM_mono f.blocks[i].list.length J ((hJ _ _).2 ⟨by simp, Pre.refl _, by simp [e1, e3, e4]⟩) ?_ ?_
    · rintro j ⟨e', Z⟩ hj hJs
      obtain ⟨hdl, hZ, e1, e3, e4, e5, e6⟩ := (hJ _ _).1 hJs
      simp only at hZ e1 e3 e4 e5 e6 ⊢
      have h5Z := hZ.rdOb h5
      obtain ⟨id2, g2, off2, r1, _, r2, _⟩ := List5.get (List5.pre (hpY1.trans hZ) ql) hj
      have r2' := r2 []
      rw [List.append_nil] at r2'
      obtain ⟨x, hx⟩ : ∃ x, f.blocks[i].list[j] = x := ⟨_, rfl⟩
      rw [hx] at r2'
      obtain ⟨uw, L, hw, hcall⟩ := specUses Z x
      obtain ⟨Z2, hZ2⟩ : ∃ Z2, Z ++ L = Z2 := ⟨_, rfl⟩
      have hwI := hw.isI
      have hpZ2 : Pre Z Z2 := ⟨_, hZ2.symm⟩
      rw [hZ2] at hwI
      have hpA : Pre X1 Z2 := ((hY.trans hpY1).trans hZ).trans hpZ2
      have hBZ := hpA.rdOb hB1
      have hvZ := hv1.pre hpA
      have hDZ := hD.pre hpA
      have hwl := hwI.lenOf
      have hul := usesF_le x
      unfold vf98b1
      simp [e1, e3, e4, e5, e6, rdC_ob h5Z, hll, hj, r1, r2'.2.2.2.2.2, hcall, hZ2]
      obtain ⟨K, hK⟩ : ∃ K : Nat → St → Prop, ∀ k st, K k st ↔ ((∀ m (hm : m < (usesF x).length), m < k → atB f.blocks (usesF x)[m] i j = true) ∧ st.h = Z2 ∧
          Env.get st.e 1 = .c (.p H.length 0 0) ∧ Env.get st.e 3 = .c (.sl d 0 0 f.blocks.length) ∧ Env.get st.e 4 = .c (.i i) ∧ Env.get st.e 5 = .c (.p Y.length 0 0) ∧ Env.get st.e 6 = .c (.i j) ∧ Env.get st.e 7 = .c uw ∧ Env.get st.e 8 = .c (.i k)) := ⟨_, fun _ _ => Iff.rfl⟩
      refine wp_for CM_mono (usesF x).length K ((hK _ _).2 ⟨by simp, rfl, by simp [e1, e3, e4, e5, e6]⟩) ?_ ?_
      · rintro k ⟨e2, W⟩ hk hKs
        obtain ⟨hdu, hW, e1, e3, e4, e5, e6, e7, e8⟩ := (hK _ _).1 hKs
        simp only at hW e1 e3 e4 e5 e6 e7 e8 ⊢
        subst hW
        obtain ⟨id3, g3, off3, p1, p2⟩ := hwI.at_ hk
        unfold vf98b0
        cases hat : atB f.blocks (usesF x)[k] i j with
        | true =>
          simp [e1, e3, e4, e5, e6, e7, e8, hwl, hk, rdN_ob hBZ, p1, p2, known_call hvZ hsh hDZ hi, hat, up1 hk (show (usesF x).length ≤ BIG by simp only [BIG]; omega)]
          refine (hK _ _).2 ⟨?_, rfl, by simp [e1, e3, e4, e5, e6, e7]⟩
          intro m hm hmk
          by_cases em : m = k
          · subst em; exact hat
          · exact hdu m hm (by omega)
        | false =>
          have hb := hbad fun hc => by
            have := (hc hi).2.1 j hj
            rw [hx, notAny hk (p := fun y => atB f.blocks y i j) hat] at this; cases this
          simp [e1, e3, e4, e5, e6, e7, e8, hwl, hk, rdN_ob hBZ, p1, p2, known_call hvZ hsh hDZ hi, hat]
          rw [gcRet_flat (hpH.trans hpA) rfl, hb]
      · rintro ⟨e2, W⟩ hKs
        obtain ⟨hdu, hW, e1, e3, e4, e5, e6, e7, e8⟩ := (hK _ _).1 hKs
        simp only at hW e1 e3 e4 e5 e6 e7 e8 ⊢
        subst hW
        unfold vf98b0
        simp [e1, e3, e4, e5, e6, e7, e8, hwl, up1 hj qll]
        refine (hJ _ _).2 ⟨?_, hZ.trans hpZ2, by simp [e1, e3, e4, e5]⟩
        intro m hm hmj
        by_cases em : m = j
        · subst em; rw [hx]; exact anyNone (p := fun y => atB f.blocks y i m) fun q hq => hdu q hq hq
        · exact hdl m hm (by omega)
    · rintro ⟨e', Z⟩ hJs
      obtain ⟨hdl, hZ, e1, e3, e4, e5, e6⟩ := (hJ _ _).1 hJs
      simp only at hZ e1 e3 e4 e5 e6 ⊢
      have h5Z := hZ.rdOb h5
      obtain ⟨uw, L, hw, hcall⟩ := specTUses Z t
      obtain ⟨Z2, hZ2⟩ : ∃ Z2, Z ++ L = Z2 := ⟨_, rfl⟩
      have hwI := hw.isI
      have hpZ2 : Pre Z Z2 := ⟨_, hZ2.symm⟩
      rw [hZ2] at hwI
      have hpA : Pre X1 Z2 := ((hY.trans hpY1).trans hZ).trans hpZ2
      have hBZ := hpA.rdOb hB1
      have hvZ := hv1.pre hpA
      have hDZ := hD.pre hpA
      have h5A := hpZ2.rdOb h5Z
      have hwl := hwI.lenOf
      have hul := tusesF_le t
      unfold vf98b1
      simp [e1, e3, e4, e5, e6, rdC_ob h5Z, rdN_ob h5Z, hll, hcall, hZ2]
      obtain ⟨K, hK⟩ : ∃ K : Nat → St → Prop, ∀ k st, K k st ↔ ((∀ m (hm : m < (tusesF t).length), m < k → atB f.blocks (tusesF t)[m] i f.blocks[i].list.length = true) ∧ st.h = Z2 ∧
          Env.get st.e 1 = .c (.p H.length 0 0) ∧ Env.get st.e 3 = .c (.sl d 0 0 f.blocks.length) ∧ Env.get st.e 4 = .c (.i i) ∧ Env.get st.e 5 = .c (.p Y.length 0 0) ∧ Env.get st.e 9 = .c uw ∧ Env.get st.e 10 = .c (.i k)) := ⟨_, fun _ _ => Iff.rfl⟩
      refine wp_for CM_mono (tusesF t).length K ((hK _ _).2 ⟨by simp, rfl, by simp [e1, e3, e4, e5]⟩) ?_ ?_
      · rintro k ⟨e2, W⟩ hk hKs
        obtain ⟨hdu, hW, e1, e3, e4, e5, e9, e10⟩ := (hK _ _).1 hKs
        simp only at hW e1 e3 e4 e5 e9 e10 ⊢
        subst hW
        obtain ⟨id3, g3, off3, p1, p2⟩ := hwI.at_ hk
        unfold vf98b2
        cases hat : atB f.blocks (tusesF t)[k] i f.blocks[i].list.length with
        | true =>
          simp [e1, e3, e4, e5, e9, e10, hwl, hk, rdN_ob hBZ, rdC_ob h5A, hll, p1, p2, known_call hvZ hsh hDZ hi, hat, up1 hk (show (tusesF t).length ≤ BIG by simp only [BIG]; omega)]
          refine (hK _ _).2 ⟨?_, rfl, by simp [e1, e3, e4, e5, e9]⟩
          intro m hm hmk
          by_cases em : m = k
          · subst em; exact hat
          · exact hdu m hm (by omega)
        | false =>
          have hb := hbad fun hc => by
            have := (hc hi).2.2
            rw [ht, notAny hk (p := fun y => atB f.blocks y i f.blocks[i].list.length) hat] at this; cases this
          simp [e1, e3, e4, e5, e9, e10, hwl, hk, rdN_ob hBZ, rdC_ob h5A, hll, p1, p2, known_call hvZ hsh hDZ hi, hat]
          rw [gcRet_flat (hpH.trans hpA) rfl, hb]
      · rintro ⟨e2, W⟩ hKs
        obtain ⟨hdu, hW, e1, e3, e4, e5, e9, e10⟩ := (hK _ _).1 hKs
        simp only at hW e1 e3 e4 e5 e9 e10 ⊢
        subst hW
        have hterm : (tusesF f.blocks[i].term).any (fun x => !atB f.blocks x i f.blocks[i].list.length) = false := by
          rw [ht]; exact anyNone (p := fun y => atB f.blocks y i f.blocks[i].list.length) fun q hq => hdu q hq hq
        have hlist : ListOk f.blocks f.blocks[i] i := fun q hq => hdl q hq hq
        unfold vf98b2
        simp [e1, e3, e4, e5, e9, e10, hwl]
        have hqp := Phis.pre ((hpY1.trans hZ).trans hpZ2) qp
        obtain ⟨A, hA⟩ : ∃ A : Nat → St → Prop, ∀ j st, A j st ↔ ((∀ p ∈ f.blocks[i].phis.take j, ∀ a ∈ p.arms, hasI (domF f.blocks a.fr.toNat) (homeF f.blocks a.v).1 = true) ∧ Pre W st.h ∧
            Env.get st.e 1 = .c (.p H.length 0 0) ∧ Env.get st.e 3 = .c (.sl d 0 0 f.blocks.length) ∧ Env.get st.e 4 = .c (.i i) ∧ Env.get st.e 5 = .c (.p Y.length 0 0) ∧ Env.get st.e 11 = .c (.i j)) := ⟨_, fun _ _ => Iff.rfl⟩
        refine wp_for CM_mono f.blocks[i].phis.length A ((hA _ _).2 ⟨by simp, Pre.refl _, by simp [e1, e3, e4, e5]⟩) ?_ ?_
        · rintro j ⟨e', V⟩ hj hAs
          obtain ⟨hdp, hV, e1, e3, e4, e5, e11⟩ := (hA _ _).1 hAs
          simp only at hV e1 e3 e4 e5 e11 ⊢
          obtain ⟨id2, g2, off2, w2, r1, r2, _, qa, _⟩ := Phis.get (Phis.pre hV hqp) hj
          obtain ⟨ph, hph⟩ : ∃ ph, f.blocks[i].phis[j] = ph := ⟨_, rfl⟩
          have hphB := shape_phi hsh hmem (List.getElem_mem hj)
          rw [hph] at r2 hphB qa
          obtain ⟨_, hal, harm⟩ := phi_vals hphB
          have hall := qa.lenOf
          have h5V := hV.rdOb h5A
          unfold vf98b4
          simp [e1, e3, e4, e5, e11, rdC_ob h5V, hpl, hj]
          obtain ⟨B, hBd⟩ : ∃ B : Nat → St → Prop, ∀ k st, B k st ↔ ((∀ a ∈ ph.arms.take k, hasI (domF f.blocks a.fr.toNat) (homeF f.blocks a.v).1 = true) ∧ Pre V st.h ∧
              Env.get st.e 1 = .c (.p H.length 0 0) ∧ Env.get st.e 3 = .c (.sl d 0 0 f.blocks.length) ∧ Env.get st.e 4 = .c (.i i) ∧ Env.get st.e 5 = .c (.p Y.length 0 0) ∧ Env.get st.e 11 = .c (.i j) ∧ Env.get st.e 12 = .c (.i k)) := ⟨_, fun _ _ => Iff.rfl⟩
          refine wp_for CM_mono ph.arms.length B ((hBd _ _).2 ⟨by simp, Pre.refl _, by simp [e1, e3, e4, e5, e11]⟩) ?_ ?_
          · rintro k ⟨e2, U⟩ hk hBs
            obtain ⟨hda, hU, e1, e3, e4, e5, e11, e12⟩ := (hBd _ _).1 hBs
            simp only at hU e1 e3 e4 e5 e11 e12 ⊢
            obtain ⟨hfr, _⟩ := harm k hk
            obtain ⟨id3, g3, off3, m1, ⟨m2, m3, m4⟩, m5, m6, m7⟩ := Arms.get (qa.pre hU) hk
            have r2U := hU.rdC r2.2.1
            obtain ⟨a, ha⟩ : ∃ a, ph.arms[k] = a := ⟨_, rfl⟩
            rw [ha] at m2 m3 m4 hfr
            obtain ⟨fb, hfb, hfbl⟩ : ∃ fb : Nat, a.fr = fb ∧ fb < f.blocks.length := by
              have := of_decide_eq_true hfr
              exact ⟨a.fr.toNat, by omega, by omega⟩
            obtain ⟨U1, hU1⟩ : ∃ U1, U ++ [(⟨[.i a.fr, .i a.v], 0, true, 2⟩ : Ob)] = U1 := ⟨_, rfl⟩
            have hpU1 : Pre U U1 := ⟨_, hU1.symm⟩
            have h13 : rdOb U1 U.length 0 = some ⟨[.i fb, .i a.v], 0, true, 2⟩ := by rw [← hU1, hfb]; simp
            have h5U := hU.rdOb h5V
            have hpB : Pre X1 U1 := ((hpA.trans hV).trans hU).trans hpU1
            have hBU := hpB.rdOb hB1
            have hvU := hv1.pre hpB
            have hDU := hD.pre hpB
            obtain ⟨ib, gb, offb, wb, ub, z1, z2, _, _, zl, _, zll, _, _⟩ := Blocks.get hvU hfbl
            have hzl := zl.lenOf
            have hae := arm_eq hin hfbl (hseen fb hfbl) a.v
            have htn : a.fr.toNat = fb := by omega
            unfold vf98b3
            cases hh : hasI (domF f.blocks fb) (homeF f.blocks a.v).1 with
            | true =>
              rw [hh] at hae
              simp [e1, e3, e4, e5, e11, e12, rdC_ob h5U, r1, r2U, hall, hk, m1, m4, putD0, hU1, rdN_ob hBU, rdC_ob hBU, rdC_ob h13, z1, z2.2.1, hzl, known_call hvU hsh hDU hfbl, hae, up1 hk (show ph.arms.length ≤ BIG by simp only [BIG]; omega)]
              refine (hBd _ _).2 ⟨?_, hU.trans hpU1, by simp [e1, e3, e4, e5, e11]⟩
              intro y hy
              rw [List.take_succ_eq_append_getElem hk] at hy
              rcases List.mem_append.1 hy with h | h
              · exact hda y h
              · simp at h; rw [h, ha, htn]; exact hh
            | false =>
              rw [hh] at hae
              have hb := hbad fun hc => by
                have := (hc hi).1 ph (hph ▸ List.getElem_mem hj) a (ha ▸ List.getElem_mem hk)
                rw [htn, hh] at this; cases this
              simp [e1, e3, e4, e5, e11, e12, rdC_ob h5U, r1, r2U, hall, hk, m1, m4, putD0, hU1, rdN_ob hBU, rdC_ob hBU, rdC_ob h13, z1, z2.2.1, hzl, known_call hvU hsh hDU hfbl, hae]
              rw [gcRet_flat (hpH.trans hpB) rfl, hb]
          · rintro ⟨e2, U⟩ hBs
            obtain ⟨hda, hU, e1, e3, e4, e5, e11, e12⟩ := (hBd _ _).1 hBs
            simp only at hU e1 e3 e4 e5 e11 e12 ⊢
            rw [List.take_length] at hda
            have h5U := hU.rdOb h5V
            have r2U := hU.rdC r2.2.1
            unfold vf98b3
            simp [e1, e3, e4, e5, e11, e12, rdC_ob h5U, r1, r2U, hall, up1 hj qpl]
            refine (hA _ _).2 ⟨?_, hV.trans hU, by simp [e1, e3, e4, e5]⟩
            intro p hp'
            rw [List.take_succ_eq_append_getElem hj] at hp'
            rcases List.mem_append.1 hp' with h | h
            · exact hdp p h
            · simp at h; rw [h, hph]; exact hda
        · rintro ⟨e', V⟩ hAs
          obtain ⟨hdp, hV, e1, e3, e4, e5, e11⟩ := (hA _ _).1 hAs
          simp only at hV e1 e3 e4 e5 e11 ⊢
          rw [List.take_length] at hdp
          have h5V := hV.rdOb h5A
          unfold vf98b4
          simp [e1, e3, e4, e5, e11, rdC_ob h5V, hpl, up1 hi hbb]
          refine (hI _ _).2 ⟨?_, hpA.trans hV, by simp [e1, e3]⟩
          intro j hj
          by_cases ej : j = i
          · subst ej; exact fun _ => ⟨hdp, hlist, hterm⟩
          · exact hdone j (by omega)
  · rintro ⟨e, Y⟩ hIs
    obtain ⟨hdone, hY, e1, e3, e4⟩ := (hI _ _).1 hIs
    simp only at hY e1 e3 e4 ⊢
    have hyes : TakenOk f.blocks := fun j hj => hdone j hj hj
    unfold vf98b5
    simp [e1, e3, e4, rdC_ob (hY.rdOb hB1), hl]
    rw [gcRet_flat (hpH.trans hY) rfl, pB_true hyes]
end Go.Proofs.YtgdfgnppeekfjaaGreat.Vm
end
section
/- Check, both sides. No conditions. -/
namespace Go.Proofs.YtgdfgnppeekfjaaGreat.Vm
open Go.RowKit (wrap64)
set_option linter.unusedSimpArgs false
set_option linter.unusedVariables false
theorem cf_any : ∀ l : List Bool, (l.any fun y => decide (false = y)) = decide (0 < cf l) := by
  intro l
  induction l with
  | nil => simp [cf]
  | cons a r ih => cases a <;> simp [cf] at ih ⊢ <;> omega
def phis0 (bs : List BlkR) : Nat := match bs with
  | [] => 0
  | b :: _ => b.phis.length
theorem phis0_eq {bs : List BlkR} (h : 0 < bs.length) : phis0 bs = (bs[0]).phis.length := by
  cases bs with
  | nil => simp at h
  | cons b r => rfl
noncomputable def checkW (f : FnR) : Int :=
  if decide (0 < cf (seenF f.blocks)) = true then 2
  else if 0 < phis0 f.blocks ∨ 0 < (predsF f.blocks 0).length then 3
  else if pB (ArmsRight f.blocks) = false then 4
  else if ((madeF f).any fun n => decide (1 < n)) = true then 5
  else if pB (TakenOk f.blocks) = false then 6 else 0
noncomputable def checkF (f : FnR) : Int := if shapeB f = true ∧ copiesB f.blocks = false then checkW f else 1
theorem pB_not (p : Prop) : pB (¬ p) = !pB p := by
  by_cases h : p
  · rw [pB_true h, pB_false (by simpa using h)]; rfl
  · rw [pB_false h, pB_true h]; rfl
theorem check1 (H : Hp) (x : Int) (k : IV × Hp → Prop) : CM 90 [.c (.i x)] H k = k (.c (.b (decide (1 < x))), H) := by
  refine det (cw90 ?_) k
  unfold vf90c
  simp
theorem blkZ {X : Hp} {v : CV} {bs : List BlkR} (hv : Blocks X v bs) (h0 : 0 < bs.length) : ∃ id g off w, idxOf 6 v 0 = some (.p id g off) ∧ rdC X id g off = some w ∧ lenOf w = some (phis0 bs) := by
  obtain ⟨id, g, off, w, u, q1, q2, _, qp, _⟩ := Blocks.get hv h0
  exact ⟨id, g, off, w, q1, q2.1, by rw [phis0_eq h0]; exact qp.lenOf⟩
set_option maxRecDepth 100000 in
theorem implCheck {H : Hp} {v : CV} {f : FnR} (hv : Blocks H v f.blocks) (hb : f.blocks.length ≤ BIG) (k : IV × Hp → Prop) :
    CM 26 [.agg [v, .i f.values]] H k = k (.c (.i (checkF f)), H) := by
  refine det (cw26 ?_) k
  unfold vf26c
  obtain ⟨X, hX⟩ : ∃ X, H ++ [(⟨[v, .i f.values], 0, true, 2⟩ : Ob)] = X := ⟨_, rfl⟩
  have hp : Pre H X := ⟨_, hX.symm⟩
  have hB : rdOb X H.length 0 = some ⟨[v, .i f.values], 0, true, 2⟩ := by rw [← hX]; simp
  have hvX := Blocks.pre hp hv
  cases hsh : shapeB f with
  | false =>
    have : checkF f = 1 := by unfold checkF; simp [hsh]
    simp [hX, rdN_ob hB, implShape hvX hb, hsh, this]
    rw [gcRet_flat hp rfl]
  | true =>
    cases hco : copiesB f.blocks with
    | true =>
      have : checkF f = 1 := by unfold checkF; simp [hco]
      simp [hX, rdN_ob hB, implShape hvX hb, hsh, implCopies hvX hb, hco, this]
      rw [gcRet_flat hp rfl]
    | false =>
      have hck : checkF f = checkW f := by unfold checkF; simp [hsh, hco]
      have h0 : 0 < f.blocks.length := shape_pos hsh
      have hin : InRange f.blocks := shape_range hsh
      simp [hX, rdN_ob hB, implShape hvX hb, hsh, implCopies hvX hb, hco]
      rw [hck]
      refine (implOrder (m := f.values) hvX hin hb h0).mono ?_
      rintro _ ⟨o, g, s, gs, X2, rfl, hp2, _, _, _, hs⟩
      have hB2 := hp2.rdOb hB
      have hv2 := hvX.pre hp2
      have hpH := hp.trans hp2
      have hsl : (seenF f.blocks).length = f.blocks.length := (walk0_ok h0).1
      have hIL : IsL X2 (.sl s gs 0 f.blocks.length) (seenF f.blocks) := by
        have := IsL.mk (off := 0) (xs := seenF f.blocks) hs rfl (by simp) (by rw [List.drop_zero, List.take_of_length_le (by simp)])
        rwa [hsl] at this
      have hcb := fun k => containsBool (x := false) hIL (by omega) k
      simp only [cf_any] at hcb
      by_cases hcf : 0 < cf (seenF f.blocks)
      · have : checkW f = 2 := by unfold checkW; simp [hcf]
        simp [hcb, hcf, this]
        rw [gcRet_flat hpH rfl]
      · obtain ⟨id0, g0, off0, w0, z1, z2, z3⟩ := blkZ hv2 h0
        by_cases hph : 0 < phis0 f.blocks
        · have : checkW f = 3 := by unfold checkW; simp [hcf, hph]
          simp [hcb, hcf, rdC_ob hB2, z1, z2, z3, hph, this]
          rw [gcRet_flat hpH rfl]
        · obtain ⟨pw, L, hpw, hcall⟩ := implPreds (m := f.values) (b := 0) hv2 hb
          obtain ⟨X3, hX3⟩ : ∃ X3, X2 ++ L = X3 := ⟨_, rfl⟩
          have hp3 : Pre X2 X3 := ⟨_, hX3.symm⟩
          have hpwI := hpw.isI
          rw [hX3] at hpwI
          have hplen := hpwI.lenOf
          have hB3 := hp3.rdOb hB2
          have hv3 := hv2.pre hp3
          have hpH3 := hpH.trans hp3
          by_cases hpr : 0 < (predsF f.blocks 0).length
          · have : checkW f = 3 := by unfold checkW; simp [hcf, hpr]
            simp [hcb, hcf, rdC_ob hB2, rdN_ob hB2, z1, z2, z3, hph, hcall, hX3, hplen, hpr, this]
            rw [gcRet_flat hpH3 rfl]
          · simp [hcb, hcf, rdC_ob hB2, rdN_ob hB2, z1, z2, z3, hph, hcall, hX3, hplen, hpr, rdN_ob hB3, implArms hv3 hsh, pB_not]
            cases har : pB (ArmsRight f.blocks) with
            | false =>
              have : checkW f = 4 := by unfold checkW; simp [hcf, hph, hpr, har]
              simp [this]
              rw [gcRet_flat hpH3 rfl]
            | true =>
              obtain ⟨X4, hX4⟩ : ∃ X4, X3 ++ [(⟨(madeF f).map .i, 0, true, 1⟩ : Ob)] = X4 := ⟨_, rfl⟩
              have hp4 : Pre X3 X4 := ⟨_, hX4.symm⟩
              have hml : (madeF f).length = f.values.toNat := by unfold madeF; rw [ticksB_len]; simp
              have h4 : rdOb X4 X3.length 0 = some ⟨(madeF f).map .i, 0, true, 1⟩ := by rw [← hX4]; simp
              have hMI : IsI X4 (.sl X3.length 0 0 f.values.toNat) (madeF f) := by
                have := IsI.mk (off := 0) (xs := madeF f) h4 rfl (by simp) (by rw [List.drop_zero, List.take_of_length_le (by simp)])
                rwa [hml] at this
              obtain ⟨s1, s2, s3, s4⟩ := shape_len hsh
              have hcf2 := fun k => containsFInt hMI (by rw [hml]; simp only [BIG]; omega) (fid := 90) (caps := []) (fun n => decide (1 < n)) (fun x _ k => check1 X4 x k) k
              have hB4 := hp4.rdOb hB3
              have hv4 := hv3.pre hp4
              have hpH4 := hpH3.trans hp4
              simp [rdN_ob hB3, implMade hv3 hsh, hX4, hcf2]
              cases hma : (madeF f).any fun n => decide (1 < n) with
              | true =>
                have : checkW f = 5 := by unfold checkW; simp [hcf, hph, hpr, har, hma]
                simp [this]
                rw [gcRet_flat hpH4 rfl]
              | false =>
                simp [rdN_ob hB4, implTaken hv4 hsh, pB_not]
                cases hta : pB (TakenOk f.blocks) with
                | false =>
                  have : checkW f = 6 := by unfold checkW; simp [hcf, hph, hpr, har, hma, hta]
                  simp [this]
                  rw [gcRet_flat hpH4 rfl]
                | true =>
                  have : checkW f = 0 := by unfold checkW; simp [hcf, hph, hpr, har, hma, hta]
                  simp [this]
                  rw [gcRet_flat hpH4 rfl]
set_option maxRecDepth 100000 in
theorem specCheck {H : Hp} {v : CV} {f : FnR} (hv : Blocks H v f.blocks) (hb : f.blocks.length ≤ BIG) (k : IV × Hp → Prop) :
    CM 29 [.agg [v, .i f.values]] H k = k (.c (.i (checkF f)), H) := by
  refine det (cw29 ?_) k
  unfold vf29c
  obtain ⟨X, hX⟩ : ∃ X, H ++ [(⟨[v, .i f.values], 0, true, 2⟩ : Ob)] = X := ⟨_, rfl⟩
  have hp : Pre H X := ⟨_, hX.symm⟩
  have hB : rdOb X H.length 0 = some ⟨[v, .i f.values], 0, true, 2⟩ := by rw [← hX]; simp
  have hvX := Blocks.pre hp hv
  cases hsh : shapeB f with
  | false =>
    have : checkF f = 1 := by unfold checkF; simp [hsh]
    simp [hX, rdN_ob hB, specShape hvX hb, hsh, this]
    rw [gcRet_flat hp rfl]
  | true =>
    cases hco : copiesB f.blocks with
    | true =>
      have : checkF f = 1 := by unfold checkF; simp [hco]
      simp [hX, rdN_ob hB, specShape hvX hb, hsh, specCopies hvX hb, hco, this]
      rw [gcRet_flat hp rfl]
    | false =>
      have hck : checkF f = checkW f := by unfold checkF; simp [hsh, hco]
      have h0 : 0 < f.blocks.length := shape_pos hsh
      have hin : InRange f.blocks := shape_range hsh
      have hok := walk0_ok h0
      have hol : (ordF f.blocks).length = (walk0 f.blocks).2.length := by unfold ordF; simp
      have hocf : (ordF f.blocks).length + cf (seenF f.blocks) = f.blocks.length := by unfold seenF; omega
      obtain ⟨X2, hX2⟩ : ∃ X2, X ++ [(⟨(ordF f.blocks).map .i, 0, true, 1⟩ : Ob)] = X2 := ⟨_, rfl⟩
      have hp2 : Pre X X2 := ⟨_, hX2.symm⟩
      have hB2 := hp2.rdOb hB
      have hv2 := hvX.pre hp2
      have hpH := hp.trans hp2
      have hl2 := hv2.lenOf
      rw [hck]
      by_cases hcf : 0 < cf (seenF f.blocks)
      · have : checkW f = 2 := by unfold checkW; simp [hcf]
        have hne : ¬ ((ordF f.blocks).length : Int) = (f.blocks.length : Int) := by omega
        simp [hX, rdN_ob hB, rdC_ob hB, specShape hvX hb, hsh, specCopies hvX hb, hco, specOrderL hvX hin hb h0, hX2, rdC_ob hB2, hB, hB2, hl2, hne, this]
        rw [gcRet_flat hpH rfl]
      · have heq : ((ordF f.blocks).length : Int) = (f.blocks.length : Int) := by omega
        obtain ⟨id0, g0, off0, w0, z1, z2, z3⟩ := blkZ hv2 h0
        by_cases hph : 0 < phis0 f.blocks
        · have : checkW f = 3 := by unfold checkW; simp [hcf, hph]
          simp [hX, rdN_ob hB, rdC_ob hB, specShape hvX hb, hsh, specCopies hvX hb, hco, specOrderL hvX hin hb h0, hX2, rdC_ob hB2, hB, hB2, hl2, heq, z1, z2, z3, hph, this]
          rw [gcRet_flat hpH rfl]
        · obtain ⟨pw, L, hpw, hcall⟩ := specPreds (m := f.values) (b := 0) hv2 hb
          obtain ⟨X3, hX3⟩ : ∃ X3, X2 ++ L = X3 := ⟨_, rfl⟩
          have hp3 : Pre X2 X3 := ⟨_, hX3.symm⟩
          have hpwI := hpw.isI
          rw [hX3] at hpwI
          have hplen := hpwI.lenOf
          have hB3 := hp3.rdOb hB2
          have hv3 := hv2.pre hp3
          have hpH3 := hpH.trans hp3
          by_cases hpr : 0 < (predsF f.blocks 0).length
          · have : checkW f = 3 := by unfold checkW; simp [hcf, hpr]
            simp [hX, rdN_ob hB, rdC_ob hB, specShape hvX hb, hsh, specCopies hvX hb, hco, specOrderL hvX hin hb h0, hX2, rdC_ob hB2, hB, hB2, rdN_ob hB2, hl2, heq, z1, z2, z3, hph, hcall, hX3, hplen, hpr, this]
            rw [gcRet_flat hpH3 rfl]
          · simp [hX, rdN_ob hB, rdC_ob hB, specShape hvX hb, hsh, specCopies hvX hb, hco, specOrderL hvX hin hb h0, hX2, rdC_ob hB2, hB, hB2, rdN_ob hB2, hl2, heq, z1, z2, z3, hph, hcall, hX3, hplen, hpr, rdN_ob hB3, specArms hv3 hsh]
            cases har : pB (ArmsRight f.blocks) with
            | false =>
              have : checkW f = 4 := by unfold checkW; simp [hcf, hph, hpr, har]
              simp [this]
              rw [gcRet_flat hpH3 rfl]
            | true =>
              obtain ⟨X4, hX4⟩ : ∃ X4, X3 ++ [(⟨(madeF f).map .i, 0, true, 1⟩ : Ob)] = X4 := ⟨_, rfl⟩
              have hp4 : Pre X3 X4 := ⟨_, hX4.symm⟩
              have hml : (madeF f).length = f.values.toNat := by unfold madeF; rw [ticksB_len]; simp
              have h4 : rdOb X4 X3.length 0 = some ⟨(madeF f).map .i, 0, true, 1⟩ := by rw [← hX4]; simp
              have hMI : IsI X4 (.sl X3.length 0 0 f.values.toNat) (madeF f) := by
                have := IsI.mk (off := 0) (xs := madeF f) h4 rfl (by simp) (by rw [List.drop_zero, List.take_of_length_le (by simp)])
                rwa [hml] at this
              obtain ⟨s1, s2, s3, s4⟩ := shape_len hsh
              have hmb : (madeF f).length ≤ BIG := by rw [hml]; simp only [BIG]; omega
              have hMl := hMI.lenOf
              have hB4 := hp4.rdOb hB3
              have hv4 := hv3.pre hp4
              have hpH4 := hpH3.trans hp4
              have hseen : ∀ b, b < f.blocks.length → (seenF f.blocks).getD b false = true := by
                intro b hb'
                have hsl : (seenF f.blocks).length = f.blocks.length := hok.1
                have hany := cf_any (seenF f.blocks)
                rw [decide_eq_false hcf, List.any_eq_false] at hany
                have hlt : b < (seenF f.blocks).length := by omega
                have := hany _ (List.getElem_mem hlt)
                rw [List.getD_eq_getElem?_getD, List.getElem?_eq_getElem hlt]
                cases hx : (seenF f.blocks)[b] with
                | true => rfl
                | false => rw [hx] at this; simp at this
              simp [rdN_ob hB3, specMade5 hv3 hsh, hX4]
              obtain ⟨I, hI⟩ : ∃ I : Nat → St → Prop, ∀ i st, I i st ↔ ((∀ j (hj : j < (madeF f).length), j < i → ¬ 1 < (madeF f)[j]) ∧ st.h = X4 ∧
                  Env.get st.e 1 = .c (.p H.length 0 0) ∧ Env.get st.e 3 = .c (.sl X3.length 0 0 f.values.toNat) ∧ Env.get st.e 4 = .c (.i i)) := ⟨_, fun _ _ => Iff.rfl⟩
              refine wp_for CM_mono (madeF f).length I ((hI _ _).2 ⟨by simp, rfl, by simp⟩) ?_ ?_
              · rintro i ⟨e, Y⟩ hi hIs
                obtain ⟨hdone, hY, e1, e3, e4⟩ := (hI _ _).1 hIs
                simp only at hY e1 e3 e4 ⊢
                subst hY
                obtain ⟨id3, g3, off3, p1, p2⟩ := hMI.at_ hi
                have hiv : (i : Int) < f.values.toNat := by omega
                unfold vf29b0
                by_cases hx : 1 < (madeF f)[i]
                · have hma : ((madeF f).any fun n => decide (1 < n)) = true := List.any_eq_true.2 ⟨_, List.getElem_mem hi, decide_eq_true hx⟩
                  have : checkW f = 5 := by unfold checkW; simp [hcf, hph, hpr, har, hma]
                  simp [e1, e3, e4, hml ▸ hi, show max f.values 0 = f.values by omega, show (i : Int) < f.values by omega, p1, p2, hx, this]
                  rw [gcRet_flat hpH4 rfl]
                · simp [e1, e3, e4, hml ▸ hi, show max f.values 0 = f.values by omega, show (i : Int) < f.values by omega, p1, p2, hx, up1 hi hmb]
                  refine (hI _ _).2 ⟨?_, rfl, by simp [e1, e3]⟩
                  intro j hj hji
                  by_cases ej : j = i
                  · subst ej; exact hx
                  · exact hdone j hj (by omega)
              · rintro ⟨e, Y⟩ hIs
                obtain ⟨hdone, hY, e1, e3, e4⟩ := (hI _ _).1 hIs
                simp only at hY e1 e3 e4 ⊢
                subst hY
                have hma : ((madeF f).any fun n => decide (1 < n)) = false := by
                  rw [List.any_eq_false]
                  intro x hx
                  obtain ⟨j, hj, rfl⟩ := List.getElem_of_mem hx
                  simpa using hdone j hj hj
                unfold vf29b0
                simp [e1, e3, e4, hml, rdN_ob hB4, specTaken hv4 hsh hseen]
                cases hta : pB (TakenOk f.blocks) with
                | false =>
                  have : checkW f = 6 := by unfold checkW; simp [hcf, hph, hpr, har, hma, hta]
                  simp [this]
                  rw [gcRet_flat hpH4 rfl]
                | true =>
                  have : checkW f = 0 := by unfold checkW; simp [hcf, hph, hpr, har, hma, hta]
                  simp [this]
                  rw [gcRet_flat hpH4 rfl]
end Go.Proofs.YtgdfgnppeekfjaaGreat.Vm
end
