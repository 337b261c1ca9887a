import Derived.Test.YtgdfgnppeekfjaaGreatQce
import Derived.Test.YtgdfgnppeekfjaaGreatQgo
section
/- What a block takes was made: the program's side. No conditions. -/
namespace Go.Proofs.YtgdfgnppeekfjaaGreat.Vm
open Go.RowKit (wrap64)
set_option linter.unusedSimpArgs false
set_option linter.unusedVariables false

structure DomsIn (X : Hp) (d : Nat) (bs : List BlkR) : Prop where
  ob : ∃ cells, rdOb X d 0 = some ⟨cells, 0, true, 1⟩ ∧ cells.length = bs.length ∧ ∀ b, b < bs.length → ∃ c, cells[b]? = some c ∧ IsI X c (domF bs b)
theorem DomsIn.pre {X Y : Hp} (hp : Pre X Y) {d : Nat} {bs : List BlkR} (h : DomsIn X d bs) : DomsIn Y d bs := by
  obtain ⟨cells, h1, h2, h3⟩ := h.ob
  refine ⟨cells, hp.rdOb h1, h2, fun b hb => ?_⟩
  obtain ⟨c, a, b⟩ := h3 b hb
  exact ⟨c, a, IsI.pre hp b⟩
theorem among_in {X : Hp} {d : Nat} {bs : List BlkR} (h : DomsIn X d bs) (hb : bs.length ≤ BIG) (a b : Int) (k : IV × Hp → Prop) :
    CM 103 [.c (.sl d 0 0 bs.length), .c (.i a), .c (.i b)] X k = k (.c (.b (inB b 0 ((bs.length : Int) - 1) && hasI (domF bs b.toNat) a)), X) := by
  obtain ⟨cells, h1, h2, h3⟩ := h.ob
  exact among_call h1 h2 h3 hb a b k
theorem at_call {Z : Hp} {v : CV} {f : FnR} {d : Nat} {x i : Int} {b : Nat} (hv : Blocks Z v f.blocks) (hsh : shapeB f = true) (hD : DomsIn Z d f.blocks) (hb : b < f.blocks.length) (k : IV × Hp → Prop) :
    CM 203 [.agg [v, .i f.values, .sl d 0 0 f.blocks.length], .c (.i x), .c (.i b), .c (.i i)] Z k = k (.c (.b (atB f.blocks x b i)), Z) := by
  refine det (cw203 ?_) k
  unfold vf203c
  obtain ⟨s1, s2, s3, s4⟩ := shape_len hsh
  have hbb : f.blocks.length ≤ BIG := by simp only [BIG]; omega
  obtain ⟨X, hX⟩ : ∃ X, Z ++ [(⟨[v, .i f.values, .sl d 0 0 f.blocks.length], 0, true, 3⟩ : Ob)] = X := ⟨_, rfl⟩
  have hp : Pre Z X := ⟨_, hX.symm⟩
  have hB : rdOb X Z.length 0 = some ⟨[v, .i f.values, .sl d 0 0 f.blocks.length], 0, true, 3⟩ := by rw [← hX]; simp
  have hda : defAtF f x = homeF f.blocks x := by unfold defAtF homeF; rw [if_pos hsh]
  have hib : inB (b : Int) 0 ((f.blocks.length : Int) - 1) = true := decide_eq_true (by omega)
  obtain ⟨h, hh⟩ : ∃ h, homeF f.blocks x = h := ⟨_, rfl⟩
  obtain ⟨h1, h2⟩ := h
  by_cases he : h1 = (b : Int)
  · have : atB f.blocks x b i = decide (h2 < i) := by unfold atB; rw [hh]; simp [he]
    simp [hX, rdN_ob hB, implDefAt (Blocks.pre hp hv) hbb, hda, hh, he, this]
    rw [gcRet_flat hp rfl]
  · have : atB f.blocks x b i = hasI (domF f.blocks b) h1 := by unfold atB; rw [hh]; simp [he]
    simp [hX, rdN_ob hB, rdC_ob hB, implDefAt (Blocks.pre hp hv) hbb, hda, hh, he, this, among_in (hD.pre hp) hbb, hib]
    rw [gcRet_flat hp rfl]
theorem not_at1 {Z : Hp} {v : CV} {f : FnR} {d lid kid iid : Nat} {x : Int} {b i : Nat} (hv : Blocks Z v f.blocks) (hsh : shapeB f = true) (hD : DomsIn Z d f.blocks) (hb : b < f.blocks.length)
    (h1 : rdOb Z lid 0 = some ⟨[v, .i f.values, .sl d 0 0 f.blocks.length], 0, true, 3⟩) (h2 : rdOb Z kid 0 = some ⟨[.i b], 0, true, 1⟩) (h3 : rdOb Z iid 0 = some ⟨[.i i], 0, true, 1⟩) (k : IV × Hp → Prop) :
    CM 202 [.c (.i x), .c (.p lid 0 0), .c (.p kid 0 0), .c (.p iid 0 0)] Z k = k (.c (.b (!atB f.blocks x b i)), Z) := by
  refine det (cw202 ?_) k
  unfold vf202c
  simp [rdN_ob h1, rdC_ob h2, rdC_ob h3, at_call hv hsh hD hb]
theorem not_at2 {Z : Hp} {v : CV} {f : FnR} {d lid kid xid n : Nat} {x : Int} {b : Nat} {w u a1 a2 a3 a4 : CV} (hv : Blocks Z v f.blocks) (hsh : shapeB f = true) (hD : DomsIn Z d f.blocks) (hb : b < f.blocks.length) (hu : lenOf u = some n)
    (h1 : rdOb Z lid 0 = some ⟨[v, .i f.values, .sl d 0 0 f.blocks.length], 0, true, 3⟩) (h2 : rdOb Z kid 0 = some ⟨[.i b], 0, true, 1⟩) (h3 : rdOb Z xid 0 = some ⟨[w, u, a1, a2, a3, a4], 0, true, 6⟩) (k : IV × Hp → Prop) :
    CM 204 [.c (.i x), .c (.p lid 0 0), .c (.p kid 0 0), .c (.p xid 0 0)] Z k = k (.c (.b (!atB f.blocks x b n)), Z) := by
  refine det (cw204 ?_) k
  unfold vf204c
  simp [rdN_ob h1, rdC_ob h2, rdC_ob h3, hu, at_call hv hsh hD hb]

def PhisOk (bs : List BlkR) (b : BlkR) : Prop := ∀ p ∈ b.phis, ∀ a ∈ p.arms, hasI (domF bs a.fr.toNat) (homeF bs a.v).1 = true
def ListOk (bs : List BlkR) (b : BlkR) (j : Nat) : Prop := ∀ i (hi : i < b.list.length), (usesF b.list[i]).any (fun x => !atB bs x j i) = false
def BlkOk (bs : List BlkR) (j : Nat) : Prop := ∀ hj : j < bs.length, PhisOk bs bs[j] ∧ ListOk bs bs[j] j ∧ (tusesF bs[j].term).any (fun x => !atB bs x j bs[j].list.length) = false
set_option maxRecDepth 100000 in
theorem blockWell_call {H : Hp} {v : CV} {f : FnR} {d i : Nat} (hv : Blocks H v f.blocks) (hsh : shapeB f = true) (hD : DomsIn H d f.blocks) (hi : i < f.blocks.length) (k : IV × Hp → Prop) :
    CM 155 [.agg [v, .i f.values, .sl d 0 0 f.blocks.length], .c (.i i)] H k = k (.c (.b (pB (BlkOk f.blocks i))), H) := by
  refine det (cw155 ?_) k
  unfold vf155c
  obtain ⟨s1, s2, s3, s4⟩ := shape_len hsh
  have hbb : f.blocks.length ≤ BIG := by simp only [BIG]; omega
  obtain ⟨X, hX⟩ : ∃ X, H ++ [(⟨[v, .i f.values, .sl d 0 0 f.blocks.length], 0, true, 3⟩ : Ob), ⟨[.i i], 0, true, 1⟩] = X := ⟨_, rfl⟩
  have hp : Pre H X := ⟨_, hX.symm⟩
  have hB : rdOb X H.length 0 = some ⟨[v, .i f.values, .sl d 0 0 f.blocks.length], 0, true, 3⟩ := by rw [← hX]; simp
  have hC : rdOb X (H.length + 1) 0 = some ⟨[.i i], 0, true, 1⟩ := by rw [← hX]; simp
  have hmem : f.blocks[i] ∈ f.blocks := List.getElem_mem hi
  have hlens := shape_lens hsh hmem
  obtain ⟨i0, g0, off0, w, u, q1, _, q2, qp, ql, qpl, qll, _, _⟩ := Blocks.get hv hi
  obtain ⟨GY, hGY⟩ := id hp
  have q2' := q2 GY
  rw [← hGY] at q2'
  obtain ⟨t, ht⟩ : ∃ t, f.blocks[i].term = t := ⟨_, rfl⟩
  rw [ht] at q2'
  obtain ⟨Y, hY⟩ : ∃ Y, X ++ [(⟨[w, u, .i t.kind, .i t.a, .i t.to, .i t.els], 0, true, 6⟩ : Ob)] = Y := ⟨_, rfl⟩
  have hpY : Pre X Y := ⟨_, hY.symm⟩
  have h5 : rdOb Y X.length 0 = some ⟨[w, u, .i t.kind, .i t.a, .i t.to, .i t.els], 0, true, 6⟩ := by rw [← hY]; simp
  have hpl := qp.lenOf
  have hll := ql.lenOf
  simp [hX, rdC_ob hB, rdC_ob hC, q1, q2'.2.2.2.2.2.2.2.2.2.2, put66c, hY, rdC_ob h5, hpl]
  obtain ⟨I, hI⟩ : ∃ I : Nat → St → Prop, ∀ j st, I j st ↔ ((∀ p ∈ f.blocks[i].phis.take j, ∀ a ∈ p.arms, hasI (domF f.blocks a.fr.toNat) (homeF f.blocks a.v).1 = true) ∧ Pre Y st.h ∧
      Env.get st.e 2 = .c (.p H.length 0 0) ∧ Env.get st.e 3 = .c (.p (H.length + 1) 0 0) ∧ Env.get st.e 5 = .c (.p X.length 0 0) ∧ Env.get st.e 21 = .c w ∧ Env.get st.e 22 = .c (.i f.blocks[i].phis.length) ∧ Env.get st.e 23 = .c (.i j)) := ⟨_, fun _ _ => Iff.rfl⟩
  refine wp_for CM_mono f.blocks[i].phis.length I ((hI _ _).2 ⟨by simp, Pre.refl _, by simp⟩) ?_ ?_
  · rintro j ⟨e, Z⟩ hj hIs
    obtain ⟨hdj, hZ, e2, e3, e5, e21, e22, e23⟩ := (hI _ _).1 hIs
    simp only at hZ e2 e3 e5 e21 e22 e23 ⊢
    obtain ⟨id2, g2, off2, w2, r1, _, r2, qa, _⟩ := Phis.get qp hj
    have hHZ := (hp.trans hpY).trans hZ
    obtain ⟨GZ, hGZ⟩ := id hHZ
    have r2' := r2 GZ
    rw [← hGZ] at r2'
    obtain ⟨ph, hph⟩ : ∃ ph, f.blocks[i].phis[j] = ph := ⟨_, rfl⟩
    have hphB := shape_phi hsh hmem (List.getElem_mem hj)
    rw [hph] at r2' hphB qa
    obtain ⟨_, hal, harm⟩ := phi_vals hphB
    obtain ⟨Z1, hZ1⟩ : ∃ Z1, Z ++ [(⟨[.i ph.d, w2], 0, true, 2⟩ : Ob)] = Z1 := ⟨_, rfl⟩
    have h7 : rdOb Z1 Z.length 0 = some ⟨[.i ph.d, w2], 0, true, 2⟩ := by rw [← hZ1]; simp
    have hpZ1 : Pre Z Z1 := ⟨_, hZ1.symm⟩
    have hall := qa.lenOf
    unfold vf155b1
    simp [e2, e3, e5, e21, e22, e23, hj, r1, r2'.2.2, putD0, hZ1, rdC_ob h7, hall]
    obtain ⟨K, hK⟩ : ∃ K : Nat → St → Prop, ∀ k st, K k st ↔ ((∀ a ∈ ph.arms.take k, hasI (domF f.blocks a.fr.toNat) (homeF f.blocks a.v).1 = true) ∧ Pre Y st.h ∧
        Env.get st.e 2 = .c (.p H.length 0 0) ∧ Env.get st.e 3 = .c (.p (H.length + 1) 0 0) ∧ Env.get st.e 5 = .c (.p X.length 0 0) ∧ Env.get st.e 21 = .c w ∧ Env.get st.e 22 = .c (.i f.blocks[i].phis.length) ∧ Env.get st.e 23 = .c (.i j) ∧
        Env.get st.e 28 = .c w2 ∧ Env.get st.e 29 = .c (.i ph.arms.length) ∧ Env.get st.e 30 = .c (.i k)) := ⟨_, fun _ _ => Iff.rfl⟩
    refine wp_for CM_mono ph.arms.length K ((hK _ _).2 ⟨by simp, hZ.trans hpZ1, by simp [e2, e3, e5, e21, e22, e23]⟩) ?_ ?_
    · rintro k ⟨e', W⟩ hk hKs
      obtain ⟨hdk, hW, e2, e3, e5, e21, e22, e23, e28, e29, e30⟩ := (hK _ _).1 hKs
      simp only at hW e2 e3 e5 e21 e22 e23 e28 e29 e30 ⊢
      have hHW := (hp.trans hpY).trans hW
      obtain ⟨id3, g3, off3, m1, ⟨m2, m3, m4⟩, m5, m6, m7⟩ := Arms.get (qa.pre hHW) hk
      obtain ⟨hfr, _⟩ := harm k hk
      obtain ⟨a, ha⟩ : ∃ a, ph.arms[k] = a := ⟨_, rfl⟩
      rw [ha] at m2 m3 m4 hfr
      obtain ⟨W1, hW1⟩ : ∃ W1, W ++ [(⟨[.i a.fr, .i a.v], 0, true, 2⟩ : Ob)] = W1 := ⟨_, rfl⟩
      have hpW1 : Pre W W1 := ⟨_, hW1.symm⟩
      have h9 : rdOb W1 W.length 0 = some ⟨[.i a.fr, .i a.v], 0, true, 2⟩ := by rw [← hW1]; simp
      have hpX1 := (hpY.trans hW).trans hpW1
      have hBW := hpX1.rdOb hB
      have hda : defAtF f a.v = homeF f.blocks a.v := by unfold defAtF homeF; rw [if_pos hsh]
      have hvW := Blocks.pre (hp.trans hpX1) hv
      have hDW := hD.pre (hp.trans hpX1)
      unfold vf155b0
      cases hh : hasI (domF f.blocks a.fr.toNat) (homeF f.blocks a.v).1 with
      | true =>
        simp [e2, e3, e5, e21, e22, e23, e28, e29, e30, hk, m1, m4, putD0, hW1, rdC_ob h9, rdN_ob hBW, rdC_ob hBW, implDefAt hvW hbb, hda, among_in hDW hbb, hfr, hh, up1 hk (show ph.arms.length ≤ BIG by simp only [BIG]; omega)]
        refine (hK _ _).2 ⟨?_, hW.trans hpW1, by simp [e2, e3, e5, e21, e22, e23, e28, e29]⟩
        intro x hx
        rw [List.take_succ_eq_append_getElem hk] at hx
        rcases List.mem_append.1 hx with h | h
        · exact hdk x h
        · simp at h; rw [h, ha]; exact hh
      | false =>
        have hno : ¬ BlkOk f.blocks i := fun hc => by
          have := (hc hi).1 ph (hph ▸ List.getElem_mem hj) a (ha ▸ List.getElem_mem hk)
          rw [hh] at this; cases this
        simp [e2, e3, e5, e21, e22, e23, e28, e29, e30, hk, m1, m4, putD0, hW1, rdC_ob h9, rdN_ob hBW, rdC_ob hBW, implDefAt hvW hbb, hda, among_in hDW hbb, hfr, hh]
        rw [gcRet_flat (hp.trans hpX1) rfl, pB_false hno]
    · rintro ⟨e', W⟩ hKs
      obtain ⟨hdk, hW, e2, e3, e5, e21, e22, e23, e28, e29, e30⟩ := (hK _ _).1 hKs
      simp only at hW e2 e3 e5 e21 e22 e23 e28 e29 e30 ⊢
      rw [List.take_length] at hdk
      unfold vf155b0
      simp [e2, e3, e5, e21, e22, e23, e28, e29, e30, up1 hj qpl]
      refine (hI _ _).2 ⟨?_, hW, by simp [e2, e3, e5, e21, e22]⟩
      intro p hp'
      rw [List.take_succ_eq_append_getElem hj] at hp'
      rcases List.mem_append.1 hp' with h | h
      · exact hdj p h
      · simp at h; rw [h, hph]; exact hdk
  · rintro ⟨e, Z⟩ hIs
    obtain ⟨hdj, hZ, e2, e3, e5, e21, e22, e23⟩ := (hI _ _).1 hIs
    simp only at hZ e2 e3 e5 e21 e22 e23 ⊢
    rw [List.take_length] at hdj
    have h5Z := hZ.rdOb h5
    unfold vf155b1
    simp [e2, e3, e5, e21, e22, e23, rdC_ob h5Z, hll]
    obtain ⟨J, hJ⟩ : ∃ J : Nat → St → Prop, ∀ j st, J j st ↔ ((∀ k (hk : k < f.blocks[i].list.length), k < j → (usesF f.blocks[i].list[k]).any (fun x => !atB f.blocks x i k) = false) ∧ Pre Y st.h ∧
        Env.get st.e 2 = .c (.p H.length 0 0) ∧ Env.get st.e 3 = .c (.p (H.length + 1) 0 0) ∧ Env.get st.e 5 = .c (.p X.length 0 0) ∧ Env.get st.e 52 = .c u ∧ Env.get st.e 53 = .c (.i f.blocks[i].list.length) ∧ Env.get st.e 54 = .c (.i j)) := ⟨_, fun _ _ => Iff.rfl⟩
    refine wp_for CM_mono f.blocks[i].list.length J ((hJ _ _).2 ⟨by simp, hZ, by simp [e2, e3, e5]⟩) ?_ ?_
    · rintro j ⟨e', W⟩ hj hJs
      obtain ⟨hdl, hW, e2, e3, e5, e52, e53, e54⟩ := (hJ _ _).1 hJs
      simp only at hW e2 e3 e5 e52 e53 e54 ⊢
      obtain ⟨id2, g2, off2, r1, _, r2, _⟩ := List5.get ql hj
      have hHW := (hp.trans hpY).trans hW
      obtain ⟨GW, hGW⟩ := id hHW
      have r2' := r2 GW
      rw [← hGW] at r2'
      obtain ⟨x, hx⟩ : ∃ x, f.blocks[i].list[j] = x := ⟨_, rfl⟩
      rw [hx] at r2'
      obtain ⟨W1, hW1⟩ : ∃ W1, W ++ [(⟨[.i j], 0, true, 1⟩ : Ob), ⟨[.i x.op, .i x.d, .i x.a, .i x.b, .i x.n], 0, true, 5⟩] = W1 := ⟨_, rfl⟩
      have hpW1 : Pre W W1 := ⟨_, hW1.symm⟩
      have h12 : rdOb W1 W.length 0 = some ⟨[.i j], 0, true, 1⟩ := by rw [← hW1]; simp
      have h13 : rdOb W1 (W.length + 1) 0 = some ⟨[.i x.op, .i x.d, .i x.a, .i x.b, .i x.n], 0, true, 5⟩ := by rw [← hW1]; simp
      obtain ⟨uw, L, hw, hcall⟩ := implUses W1 x
      obtain ⟨W2, hW2⟩ : ∃ W2, W1 ++ L = W2 := ⟨_, rfl⟩
      have hwI := hw.isI
      have hpW2 : Pre W1 W2 := ⟨_, hW2.symm⟩
      rw [hW2] at hwI
      have hpX2 := ((hpY.trans hW).trans hpW1).trans hpW2
      have hBW := hpX2.rdOb hB
      have hCW := hpX2.rdOb hC
      have h12W := hpW2.rdOb h12
      have hvW := Blocks.pre (hp.trans hpX2) hv
      have hDW := hD.pre (hp.trans hpX2)
      have hcf := fun k => containsFInt hwI (Nat.le_trans (usesF_le x) (by simp [BIG])) (fid := 202) (caps := [.p H.length 0 0, .p (H.length + 1) 0 0, .p W.length 0 0]) (fun y => !atB f.blocks y i j)
        (fun y _ k => not_at1 hvW hsh hDW hi hBW hCW h12W k) k
      unfold vf155b2
      cases hh : (usesF x).any (fun y => !atB f.blocks y i j) with
      | false =>
        simp [e2, e3, e5, e52, e53, e54, hj, r1, r2'.2.2.2.2.2, put5, putL0, hW1, rdN_ob h13, hcall, hW2, hcf, hh, up1 hj qll]
        refine (hJ _ _).2 ⟨?_, (hW.trans hpW1).trans hpW2, by simp [e2, e3, e5, e52, e53]⟩
        intro k hk hkj
        by_cases ek : k = j
        · subst ek; rw [hx]; exact hh
        · exact hdl k hk (by omega)
      | true =>
        have hno : ¬ BlkOk f.blocks i := fun hc => by
          have := (hc hi).2.1 j hj
          rw [hx, hh] at this; cases this
        simp [e2, e3, e5, e52, e53, e54, hj, r1, r2'.2.2.2.2.2, put5, putL0, hW1, rdN_ob h13, hcall, hW2, hcf, hh]
        rw [gcRet_flat (hp.trans hpX2) rfl, pB_false hno]
    · rintro ⟨e', W⟩ hJs
      obtain ⟨hdl, hW, e2, e3, e5, e52, e53, e54⟩ := (hJ _ _).1 hJs
      simp only at hW e2 e3 e5 e52 e53 e54 ⊢
      have h5W := hW.rdOb h5
      obtain ⟨uw, L, hw, hcall⟩ := implTUses W t
      obtain ⟨W2, hW2⟩ : ∃ W2, W ++ L = W2 := ⟨_, rfl⟩
      have hwI := hw.isI
      have hpW2 : Pre W W2 := ⟨_, hW2.symm⟩
      rw [hW2] at hwI
      have hpX2 := (hpY.trans hW).trans hpW2
      have hBW := hpX2.rdOb hB
      have hCW := hpX2.rdOb hC
      have h5W2 := hpW2.rdOb h5W
      have hvW := Blocks.pre (hp.trans hpX2) hv
      have hDW := hD.pre (hp.trans hpX2)
      have hcf := fun k => containsFInt hwI (Nat.le_trans (tusesF_le t) (by simp [BIG])) (fid := 204) (caps := [.p H.length 0 0, .p (H.length + 1) 0 0, .p X.length 0 0]) (fun y => !atB f.blocks y i f.blocks[i].list.length)
        (fun y _ k => not_at2 hvW hsh hDW hi hll hBW hCW h5W2 k) k
      have hres : pB (BlkOk f.blocks i) = !(tusesF t).any (fun y => !atB f.blocks y i f.blocks[i].list.length) := by
        cases hh : (tusesF t).any (fun y => !atB f.blocks y i f.blocks[i].list.length) with
        | false => rw [pB_true]; rfl; exact fun _ => ⟨hdj, fun k hk => hdl k hk hk, by rw [ht]; exact hh⟩
        | true =>
          rw [pB_false]; rfl
          intro hc
          have := (hc hi).2.2
          rw [ht, hh] at this; cases this
      unfold vf155b2
      simp [e2, e3, e5, e52, e53, e54, rdN_ob h5W, hcall, hW2, hcf]
      rw [gcRet_flat (hp.trans hpX2) rfl, hres]
end Go.Proofs.YtgdfgnppeekfjaaGreat.Vm
end
