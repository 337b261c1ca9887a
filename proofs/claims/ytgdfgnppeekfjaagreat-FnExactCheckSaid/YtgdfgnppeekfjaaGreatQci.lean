import Derived.Test.YtgdfgnppeekfjaaGreatQch
import Derived.Test.YtgdfgnppeekfjaaGreatP2
section
/- Whether a value is taken where it was not made: the specification's side. No conditions. -/
namespace Go.Proofs.YtgdfgnppeekfjaaGreat.Vm
open Go.RowKit (wrap64)
set_option linter.unusedSimpArgs false
set_option linter.unusedVariables false
theorem hasI_neg (bs : List BlkR) (b : Nat) {h : Int} (hh : h < 0) : hasI (domF bs b) h = false := by
  cases e : hasI (domF bs b) h with
  | false => rfl
  | true =>
    obtain ⟨a, _, ha, _⟩ := domF_mem (hasI_iff.1 e)
    omega
theorem arm_eq {bs : List BlkR} (hin : InRange bs) {b : Nat} (hb : b < bs.length) (hs : (seenF bs).getD b false = true) (x : Int) : atB bs x b bs[b].list.length = hasI (domF bs b) (homeF bs x).1 := by
  unfold atB
  by_cases he : (homeF bs x).1 = (b : Int)
  · rw [if_pos he, he, (hasI_dom hin hb hb).2 (Dom.self ((seen_rch hin hb).1 hs))]
    refine decide_eq_true ?_
    rcases defGo_spec x bs 0 with ⟨h1, h2⟩ | ⟨i, hi, h1, h2⟩
    · change (homeF bs x).1 = -1 at h2; omega
    · change (homeF bs x).1 = _ at h1
      have : i = b := by omega
      subst this
      rcases h2 with ⟨h2, _⟩ | ⟨n, hn, h2, _⟩
      · change (homeF bs x).2 = _ at h2; omega
      · change (homeF bs x).2 = _ at h2; omega
  · rw [if_neg he]
theorem known_call {Z : Hp} {v : CV} {f : FnR} {d : Nat} {x i : Int} {b : Nat} (hv : Blocks Z v f.blocks) (hsh : shapeB f = true) (hD : DomsIn Z d f.blocks) (hb : b < f.blocks.length) (k : IV × Hp → Prop) :
    CM 160 [.agg [v, .i f.values], .c (.sl d 0 0 f.blocks.length), .c (.i x), .c (.i b), .c (.i i)] Z k = k (.c (.b (atB f.blocks x b i)), Z) := by
  refine det (cw160 ?_) k
  unfold vf160c
  obtain ⟨s1, s2, s3, s4⟩ := shape_len hsh
  have hbb : f.blocks.length ≤ BIG := by simp only [BIG]; omega
  obtain ⟨X, hX⟩ : ∃ X, Z ++ [(⟨[v, .i f.values], 0, true, 2⟩ : Ob)] = X := ⟨_, rfl⟩
  have hp : Pre Z X := ⟨_, hX.symm⟩
  have hB : rdOb X Z.length 0 = some ⟨[v, .i f.values], 0, true, 2⟩ := by rw [← hX]; simp
  have hcall := fun k => specDefAt (m := f.values) (v := x) (Blocks.pre hp hv) hbb (fun b hb x hx hm => (insB_d (shape_ins hsh hb hx) hm).1) k
  obtain ⟨h, hh⟩ : ∃ h, homeF f.blocks x = h := ⟨_, rfl⟩
  have hh' : defGo x f.blocks 0 = h := hh
  rw [hh'] at hcall
  obtain ⟨h1, h2⟩ := h
  obtain ⟨cells, d1, d2, d3⟩ := (hD.pre hp).ob
  obtain ⟨c, c1, c2⟩ := d3 b hb
  by_cases he : h1 = (b : Int)
  · have : atB f.blocks x b i = decide (h2 < i) := by unfold atB; rw [hh]; simp [he]
    simp [hX, rdN_ob hB, hcall, he, this]
    rw [gcRet_flat hp rfl]
  · have h0 : atB f.blocks x b i = hasI (domF f.blocks b) h1 := by unfold atB; rw [hh]; simp [he]
    by_cases hn : 0 ≤ h1
    · simp [hX, rdN_ob hB, hcall, he, h0, hn, idxOf, hb, rdC_ob d1, c1, l3Has_call c2 (domF_le hbb b)]
      rw [gcRet_flat hp rfl]
    · rw [hasI_neg _ _ (by omega)] at h0
      simp [hX, rdN_ob hB, hcall, he, h0, hn]
      rw [gcRet_flat hp rfl]
theorem notAny {p : Int → Bool} {xs : List Int} {k : Nat} (hk : k < xs.length) (h : p xs[k] = false) : xs.any (fun x => !p x) = true := List.any_eq_true.2 ⟨_, List.getElem_mem hk, by simp [h]⟩
theorem anyNone {p : Int → Bool} {xs : List Int} (h : ∀ k (hk : k < xs.length), p xs[k] = true) : xs.any (fun x => !p x) = false := by
  rw [List.any_eq_false]
  intro x hx
  obtain ⟨k, hk, rfl⟩ := List.getElem_of_mem hx
  simp [h k hk]
set_option maxRecDepth 100000 in
theorem specTaken {H : Hp} {v : CV} {f : FnR} (hv : Blocks H v f.blocks) (hsh : shapeB f = true) (hseen : ∀ b, b < f.blocks.length → (seenF f.blocks).getD b false = true) (k : IV × Hp → Prop) :
    CM 98 [.agg [v, .i f.values]] H k = k (.c (.b (pB (TakenOk f.blocks))), H) := by
  refine det (cw98 ?_) k
  unfold vf98c
  obtain ⟨s1, s2, s3, s4⟩ := shape_len hsh
  have hbb : f.blocks.length ≤ BIG := by simp only [BIG]; omega
  have hin : InRange f.blocks := shape_range hsh
  obtain ⟨X, hX⟩ : ∃ X, H ++ [(⟨[v, .i f.values], 0, true, 2⟩ : Ob)] = X := ⟨_, rfl⟩
  have hp : Pre H X := ⟨_, hX.symm⟩
  have hB : rdOb X H.length 0 = some ⟨[v, .i f.values], 0, true, 2⟩ := by rw [← hX]; simp
  simp [hX, rdN_ob hB]
  refine (specDoms (m := f.values) (hv.pre hp) hin hbb (by omega)).mono ?_
  rintro _ ⟨d, X1, cells, rfl, hp1, d1, d2, d3⟩
  have hD : DomsIn X1 d f.blocks := DomsRes.mk' d1 d2 d3
  have hpH : Pre H X1 := hp.trans hp1
  have hB1 := hp1.rdOb hB
  have hv1 := Blocks.pre hpH hv
  have hl := hv1.lenOf
  simp
  obtain ⟨I, hI⟩ : ∃ I : Nat → St → Prop, ∀ i st, I i st ↔ ((∀ j, j < i → BlkOk f.blocks j) ∧ Pre X1 st.h ∧
      Env.get st.e 1 = .c (.p H.length 0 0) ∧ Env.get st.e 3 = .c (.sl d 0 0 f.blocks.length) ∧ Env.get st.e 4 = .c (.i i)) := ⟨_, fun _ _ => Iff.rfl⟩
  refine wp_for CM_mono f.blocks.length I ((hI _ _).2 ⟨by simp, Pre.refl _, by simp⟩) ?_ ?_
  · rintro i ⟨e, Y⟩ hi hIs
    obtain ⟨hdone, hY, e1, e3, e4⟩ := (hI _ _).1 hIs
    simp only at hY e1 e3 e4 ⊢
    have hmem : f.blocks[i] ∈ f.blocks := List.getElem_mem hi
    have hlens := shape_lens hsh hmem
    have hBY := hY.rdOb hB1
    have hvY := hv1.pre hY
    obtain ⟨i0, g0, off0, w, u, q1, q1', q2, qp, ql, qpl, qll, _, _⟩ := Blocks.get hvY hi
    have q2' := q2 []
    rw [List.append_nil] at q2'
    obtain ⟨t, ht⟩ : ∃ t, f.blocks[i].term = t := ⟨_, rfl⟩
    rw [ht] at q2'
    obtain ⟨Y1, hY1⟩ : ∃ Y1, Y ++ [(⟨[w, u, .i t.kind, .i t.a, .i t.to, .i t.els], 0, true, 6⟩ : Ob)] = Y1 := ⟨_, rfl⟩
    have hpY1 : Pre Y Y1 := ⟨_, hY1.symm⟩
    have h5 : rdOb Y1 Y.length 0 = some ⟨[w, u, .i t.kind, .i t.a, .i t.to, .i t.els], 0, true, 6⟩ := by rw [← hY1]; simp
    have hpl := qp.lenOf
    have hll := ql.lenOf
    have hbad : ¬ BlkOk f.blocks i → pB (TakenOk f.blocks) = false := fun h => pB_false fun hc => h (hc i)
    unfold vf98b5
    simp [e1, e3, e4, hi, rdC_ob hBY, hl, q1, q2'.2.2.2.2.2.2.2.2.2.2, put66c, hY1]
    obtain ⟨J, hJ⟩ : ∃ J : Nat → St → Prop, ∀ j st, J j st ↔ ((∀ k (hk : k < f.blocks[i].list.length), k < j → (usesF f.blocks[i].list[k]).any (fun x => !atB f.blocks x i k) = false) ∧ Pre Y1 st.h ∧
        Env.get st.e 1 = .c (.p H.length 0 0) ∧ Env.get st.e 3 = .c (.sl d 0 0 f.blocks.length) ∧ Env.get st.e 4 = .c (.i i) ∧ Env.get st.e 5 = .c (.p Y.length 0 0) ∧ Env.get st.e 6 = .c (.i j)) := ⟨_, fun _ _ => Iff.rfl⟩
    refine wp_for CM_mono f.blocks[i].list.length J ((hJ _ _).2 ⟨by simp, Pre.refl _, by simp [e1, e3, e4]⟩) ?_ ?_
    · rintro j ⟨e', Z⟩ hj hJs
      obtain ⟨hdl, hZ, e1, e3, e4, e5, e6⟩ := (hJ _ _).1 hJs
      simp only at hZ e1 e3 e4 e5 e6 ⊢
      have h5Z := hZ.rdOb h5
      obtain ⟨id2, g2, off2, r1, _, r2, _⟩ := List5.get (List5.pre (hpY1.trans hZ) ql) hj
      have r2' := r2 []
      rw [List.append_nil] at r2'
      obtain ⟨x, hx⟩ : ∃ x, f.blocks[i].list[j] = x := ⟨_, rfl⟩
      rw [hx] at r2'
      obtain ⟨uw, L, hw, hcall⟩ := specUses Z x
      obtain ⟨Z2, hZ2⟩ : ∃ Z2, Z ++ L = Z2 := ⟨_, rfl⟩
      have hwI := hw.isI
      have hpZ2 : Pre Z Z2 := ⟨_, hZ2.symm⟩
      rw [hZ2] at hwI
      have hpA : Pre X1 Z2 := ((hY.trans hpY1).trans hZ).trans hpZ2
      have hBZ := hpA.rdOb hB1
      have hvZ := hv1.pre hpA
      have hDZ := hD.pre hpA
      have hwl := hwI.lenOf
      have hul := usesF_le x
      unfold vf98b1
      simp [e1, e3, e4, e5, e6, rdC_ob h5Z, hll, hj, r1, r2'.2.2.2.2.2, hcall, hZ2]
      obtain ⟨K, hK⟩ : ∃ K : Nat → St → Prop, ∀ k st, K k st ↔ ((∀ m (hm : m < (usesF x).length), m < k → atB f.blocks (usesF x)[m] i j = true) ∧ st.h = Z2 ∧
          Env.get st.e 1 = .c (.p H.length 0 0) ∧ Env.get st.e 3 = .c (.sl d 0 0 f.blocks.length) ∧ Env.get st.e 4 = .c (.i i) ∧ Env.get st.e 5 = .c (.p Y.length 0 0) ∧ Env.get st.e 6 = .c (.i j) ∧ Env.get st.e 7 = .c uw ∧ Env.get st.e 8 = .c (.i k)) := ⟨_, fun _ _ => Iff.rfl⟩
      refine wp_for CM_mono (usesF x).length K ((hK _ _).2 ⟨by simp, rfl, by simp [e1, e3, e4, e5, e6]⟩) ?_ ?_
      · rintro k ⟨e2, W⟩ hk hKs
        obtain ⟨hdu, hW, e1, e3, e4, e5, e6, e7, e8⟩ := (hK _ _).1 hKs
        simp only at hW e1 e3 e4 e5 e6 e7 e8 ⊢
        subst hW
        obtain ⟨id3, g3, off3, p1, p2⟩ := hwI.at_ hk
        unfold vf98b0
        cases hat : atB f.blocks (usesF x)[k] i j with
        | true =>
          simp [e1, e3, e4, e5, e6, e7, e8, hwl, hk, rdN_ob hBZ, p1, p2, known_call hvZ hsh hDZ hi, hat, up1 hk (show (usesF x).length ≤ BIG by simp only [BIG]; omega)]
          refine (hK _ _).2 ⟨?_, rfl, by simp [e1, e3, e4, e5, e6, e7]⟩
          intro m hm hmk
          by_cases em : m = k
          · subst em; exact hat
          · exact hdu m hm (by omega)
        | false =>
          have hb := hbad fun hc => by
            have := (hc hi).2.1 j hj
            rw [hx, notAny hk (p := fun y => atB f.blocks y i j) hat] at this; cases this
          simp [e1, e3, e4, e5, e6, e7, e8, hwl, hk, rdN_ob hBZ, p1, p2, known_call hvZ hsh hDZ hi, hat]
          rw [gcRet_flat (hpH.trans hpA) rfl, hb]
      · rintro ⟨e2, W⟩ hKs
        obtain ⟨hdu, hW, e1, e3, e4, e5, e6, e7, e8⟩ := (hK _ _).1 hKs
        simp only at hW e1 e3 e4 e5 e6 e7 e8 ⊢
        subst hW
        unfold vf98b0
        simp [e1, e3, e4, e5, e6, e7, e8, hwl, up1 hj qll]
        refine (hJ _ _).2 ⟨?_, hZ.trans hpZ2, by simp [e1, e3, e4, e5]⟩
        intro m hm hmj
        by_cases em : m = j
        · subst em; rw [hx]; exact anyNone (p := fun y => atB f.blocks y i m) fun q hq => hdu q hq hq
        · exact hdl m hm (by omega)
    · rintro ⟨e', Z⟩ hJs
      obtain ⟨hdl, hZ, e1, e3, e4, e5, e6⟩ := (hJ _ _).1 hJs
      simp only at hZ e1 e3 e4 e5 e6 ⊢
      have h5Z := hZ.rdOb h5
      obtain ⟨uw, L, hw, hcall⟩ := specTUses Z t
      obtain ⟨Z2, hZ2⟩ : ∃ Z2, Z ++ L = Z2 := ⟨_, rfl⟩
      have hwI := hw.isI
      have hpZ2 : Pre Z Z2 := ⟨_, hZ2.symm⟩
      rw [hZ2] at hwI
      have hpA : Pre X1 Z2 := ((hY.trans hpY1).trans hZ).trans hpZ2
      have hBZ := hpA.rdOb hB1
      have hvZ := hv1.pre hpA
      have hDZ := hD.pre hpA
      have h5A := hpZ2.rdOb h5Z
      have hwl := hwI.lenOf
      have hul := tusesF_le t
      unfold vf98b1
      simp [e1, e3, e4, e5, e6, rdC_ob h5Z, rdN_ob h5Z, hll, hcall, hZ2]
      obtain ⟨K, hK⟩ : ∃ K : Nat → St → Prop, ∀ k st, K k st ↔ ((∀ m (hm : m < (tusesF t).length), m < k → atB f.blocks (tusesF t)[m] i f.blocks[i].list.length = true) ∧ st.h = Z2 ∧
          Env.get st.e 1 = .c (.p H.length 0 0) ∧ Env.get st.e 3 = .c (.sl d 0 0 f.blocks.length) ∧ Env.get st.e 4 = .c (.i i) ∧ Env.get st.e 5 = .c (.p Y.length 0 0) ∧ Env.get st.e 9 = .c uw ∧ Env.get st.e 10 = .c (.i k)) := ⟨_, fun _ _ => Iff.rfl⟩
      refine wp_for CM_mono (tusesF t).length K ((hK _ _).2 ⟨by simp, rfl, by simp [e1, e3, e4, e5]⟩) ?_ ?_
      · rintro k ⟨e2, W⟩ hk hKs
        obtain ⟨hdu, hW, e1, e3, e4, e5, e9, e10⟩ := (hK _ _).1 hKs
        simp only at hW e1 e3 e4 e5 e9 e10 ⊢
        subst hW
        obtain ⟨id3, g3, off3, p1, p2⟩ := hwI.at_ hk
        unfold vf98b2
        cases hat : atB f.blocks (tusesF t)[k] i f.blocks[i].list.length with
        | true =>
          simp [e1, e3, e4, e5, e9, e10, hwl, hk, rdN_ob hBZ, rdC_ob h5A, hll, p1, p2, known_call hvZ hsh hDZ hi, hat, up1 hk (show (tusesF t).length ≤ BIG by simp only [BIG]; omega)]
          refine (hK _ _).2 ⟨?_, rfl, by simp [e1, e3, e4, e5, e9]⟩
          intro m hm hmk
          by_cases em : m = k
          · subst em; exact hat
          · exact hdu m hm (by omega)
        | false =>
          have hb := hbad fun hc => by
            have := (hc hi).2.2
            rw [ht, notAny hk (p := fun y => atB f.blocks y i f.blocks[i].list.length) hat] at this; cases this
          simp [e1, e3, e4, e5, e9, e10, hwl, hk, rdN_ob hBZ, rdC_ob h5A, hll, p1, p2, known_call hvZ hsh hDZ hi, hat]
          rw [gcRet_flat (hpH.trans hpA) rfl, hb]
      · rintro ⟨e2, W⟩ hKs
        obtain ⟨hdu, hW, e1, e3, e4, e5, e9, e10⟩ := (hK _ _).1 hKs
        simp only at hW e1 e3 e4 e5 e9 e10 ⊢
        subst hW
        have hterm : (tusesF f.blocks[i].term).any (fun x => !atB f.blocks x i f.blocks[i].list.length) = false := by
          rw [ht]; exact anyNone (p := fun y => atB f.blocks y i f.blocks[i].list.length) fun q hq => hdu q hq hq
        have hlist : ListOk f.blocks f.blocks[i] i := fun q hq => hdl q hq hq
        unfold vf98b2
        simp [e1, e3, e4, e5, e9, e10, hwl]
        have hqp := Phis.pre ((hpY1.trans hZ).trans hpZ2) qp
        obtain ⟨A, hA⟩ : ∃ A : Nat → St → Prop, ∀ j st, A j st ↔ ((∀ p ∈ f.blocks[i].phis.take j, ∀ a ∈ p.arms, hasI (domF f.blocks a.fr.toNat) (homeF f.blocks a.v).1 = true) ∧ Pre W st.h ∧
            Env.get st.e 1 = .c (.p H.length 0 0) ∧ Env.get st.e 3 = .c (.sl d 0 0 f.blocks.length) ∧ Env.get st.e 4 = .c (.i i) ∧ Env.get st.e 5 = .c (.p Y.length 0 0) ∧ Env.get st.e 11 = .c (.i j)) := ⟨_, fun _ _ => Iff.rfl⟩
        refine wp_for CM_mono f.blocks[i].phis.length A ((hA _ _).2 ⟨by simp, Pre.refl _, by simp [e1, e3, e4, e5]⟩) ?_ ?_
        · rintro j ⟨e', V⟩ hj hAs
          obtain ⟨hdp, hV, e1, e3, e4, e5, e11⟩ := (hA _ _).1 hAs
          simp only at hV e1 e3 e4 e5 e11 ⊢
          obtain ⟨id2, g2, off2, w2, r1, r2, _, qa, _⟩ := Phis.get (Phis.pre hV hqp) hj
          obtain ⟨ph, hph⟩ : ∃ ph, f.blocks[i].phis[j] = ph := ⟨_, rfl⟩
          have hphB := shape_phi hsh hmem (List.getElem_mem hj)
          rw [hph] at r2 hphB qa
          obtain ⟨_, hal, harm⟩ := phi_vals hphB
          have hall := qa.lenOf
          have h5V := hV.rdOb h5A
          unfold vf98b4
          simp [e1, e3, e4, e5, e11, rdC_ob h5V, hpl, hj]
          obtain ⟨B, hBd⟩ : ∃ B : Nat → St → Prop, ∀ k st, B k st ↔ ((∀ a ∈ ph.arms.take k, hasI (domF f.blocks a.fr.toNat) (homeF f.blocks a.v).1 = true) ∧ Pre V st.h ∧
              Env.get st.e 1 = .c (.p H.length 0 0) ∧ Env.get st.e 3 = .c (.sl d 0 0 f.blocks.length) ∧ Env.get st.e 4 = .c (.i i) ∧ Env.get st.e 5 = .c (.p Y.length 0 0) ∧ Env.get st.e 11 = .c (.i j) ∧ Env.get st.e 12 = .c (.i k)) := ⟨_, fun _ _ => Iff.rfl⟩
          refine wp_for CM_mono ph.arms.length B ((hBd _ _).2 ⟨by simp, Pre.refl _, by simp [e1, e3, e4, e5, e11]⟩) ?_ ?_
          · rintro k ⟨e2, U⟩ hk hBs
            obtain ⟨hda, hU, e1, e3, e4, e5, e11, e12⟩ := (hBd _ _).1 hBs
            simp only at hU e1 e3 e4 e5 e11 e12 ⊢
            obtain ⟨hfr, _⟩ := harm k hk
            obtain ⟨id3, g3, off3, m1, ⟨m2, m3, m4⟩, m5, m6, m7⟩ := Arms.get (qa.pre hU) hk
            have r2U := hU.rdC r2.2.1
            obtain ⟨a, ha⟩ : ∃ a, ph.arms[k] = a := ⟨_, rfl⟩
            rw [ha] at m2 m3 m4 hfr
            obtain ⟨fb, hfb, hfbl⟩ : ∃ fb : Nat, a.fr = fb ∧ fb < f.blocks.length := by
              have := of_decide_eq_true hfr
              exact ⟨a.fr.toNat, by omega, by omega⟩
            obtain ⟨U1, hU1⟩ : ∃ U1, U ++ [(⟨[.i a.fr, .i a.v], 0, true, 2⟩ : Ob)] = U1 := ⟨_, rfl⟩
            have hpU1 : Pre U U1 := ⟨_, hU1.symm⟩
            have h13 : rdOb U1 U.length 0 = some ⟨[.i fb, .i a.v], 0, true, 2⟩ := by rw [← hU1, hfb]; simp
            have h5U := hU.rdOb h5V
            have hpB : Pre X1 U1 := ((hpA.trans hV).trans hU).trans hpU1
            have hBU := hpB.rdOb hB1
            have hvU := hv1.pre hpB
            have hDU := hD.pre hpB
            obtain ⟨ib, gb, offb, wb, ub, z1, z2, _, _, zl, _, zll, _, _⟩ := Blocks.get hvU hfbl
            have hzl := zl.lenOf
            have hae := arm_eq hin hfbl (hseen fb hfbl) a.v
            have htn : a.fr.toNat = fb := by omega
            unfold vf98b3
            cases hh : hasI (domF f.blocks fb) (homeF f.blocks a.v).1 with
            | true =>
              rw [hh] at hae
              simp [e1, e3, e4, e5, e11, e12, rdC_ob h5U, r1, r2U, hall, hk, m1, m4, putD0, hU1, rdN_ob hBU, rdC_ob hBU, rdC_ob h13, z1, z2.2.1, hzl, known_call hvU hsh hDU hfbl, hae, up1 hk (show ph.arms.length ≤ BIG by simp only [BIG]; omega)]
              refine (hBd _ _).2 ⟨?_, hU.trans hpU1, by simp [e1, e3, e4, e5, e11]⟩
              intro y hy
              rw [List.take_succ_eq_append_getElem hk] at hy
              rcases List.mem_append.1 hy with h | h
              · exact hda y h
              · simp at h; rw [h, ha, htn]; exact hh
            | false =>
              rw [hh] at hae
              have hb := hbad fun hc => by
                have := (hc hi).1 ph (hph ▸ List.getElem_mem hj) a (ha ▸ List.getElem_mem hk)
                rw [htn, hh] at this; cases this
              simp [e1, e3, e4, e5, e11, e12, rdC_ob h5U, r1, r2U, hall, hk, m1, m4, putD0, hU1, rdN_ob hBU, rdC_ob hBU, rdC_ob h13, z1, z2.2.1, hzl, known_call hvU hsh hDU hfbl, hae]
              rw [gcRet_flat (hpH.trans hpB) rfl, hb]
          · rintro ⟨e2, U⟩ hBs
            obtain ⟨hda, hU, e1, e3, e4, e5, e11, e12⟩ := (hBd _ _).1 hBs
            simp only at hU e1 e3 e4 e5 e11 e12 ⊢
            rw [List.take_length] at hda
            have h5U := hU.rdOb h5V
            have r2U := hU.rdC r2.2.1
            unfold vf98b3
            simp [e1, e3, e4, e5, e11, e12, rdC_ob h5U, r1, r2U, hall, up1 hj qpl]
            refine (hA _ _).2 ⟨?_, hV.trans hU, by simp [e1, e3, e4, e5]⟩
            intro p hp'
            rw [List.take_succ_eq_append_getElem hj] at hp'
            rcases List.mem_append.1 hp' with h | h
            · exact hdp p h
            · simp at h; rw [h, hph]; exact hda
        · rintro ⟨e', V⟩ hAs
          obtain ⟨hdp, hV, e1, e3, e4, e5, e11⟩ := (hA _ _).1 hAs
          simp only at hV e1 e3 e4 e5 e11 ⊢
          rw [List.take_length] at hdp
          have h5V := hV.rdOb h5A
          unfold vf98b4
          simp [e1, e3, e4, e5, e11, rdC_ob h5V, hpl, up1 hi hbb]
          refine (hI _ _).2 ⟨?_, hpA.trans hV, by simp [e1, e3]⟩
          intro j hj
          by_cases ej : j = i
          · subst ej; exact fun _ => ⟨hdp, hlist, hterm⟩
          · exact hdone j (by omega)
  · rintro ⟨e, Y⟩ hIs
    obtain ⟨hdone, hY, e1, e3, e4⟩ := (hI _ _).1 hIs
    simp only at hY e1 e3 e4 ⊢
    have hyes : TakenOk f.blocks := fun j hj => hdone j hj hj
    unfold vf98b5
    simp [e1, e3, e4, rdC_ob (hY.rdOb hB1), hl]
    rw [gcRet_flat (hpH.trans hY) rfl, pB_true hyes]
end Go.Proofs.YtgdfgnppeekfjaaGreat.Vm
end
