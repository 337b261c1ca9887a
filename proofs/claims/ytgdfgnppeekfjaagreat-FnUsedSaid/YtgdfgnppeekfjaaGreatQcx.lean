import Derived.Test.YtgdfgnppeekfjaaGreatQcw
import Derived.Test.YtgdfgnppeekfjaaGreatQrn
import Derived.Test.YtgdfgnppeekfjaaGreatP2
section
/- The law of what is used. No conditions. -/
namespace Go.Proofs.YtgdfgnppeekfjaaGreat.Vm
open Go.RowKit (wrap64)
set_option linter.unusedSimpArgs false
set_option linter.unusedVariables false
theorem usedW_at {f : FnR} {k : Nat} (hk : k < (usedW f).length) : (usedW f)[k] = pB (UsedP f.blocks k) := by simp [usedW]
set_option maxRecDepth 100000 in
theorem used_law {H : Hp} {v : CV} {xs : List Int} (hv : IsB H v xs) : CM 7 [.c v] H Tru := by
  refine cw7 ?_
  unfold vf7c
  by_cases hbig : 1048576 < xs.length
  · simp [big_call hv.lenOf, hbig]
  have hb : xs.length ≤ BIG := by simp only [BIG]; omega
  simp [big_call hv.lenOf, hbig]
  refine (drawUsed_call hv hb).mono ?_
  rintro _ ⟨X, w, m, bs, rfl, hfl, hp, hB, hbl, h0⟩
  obtain ⟨X1, hX1⟩ : ∃ X1, X ++ [(⟨[w, .i m], 0, true, 2⟩ : Ob)] = X1 := ⟨_, rfl⟩
  have hB1 : Blocks X1 w bs := by rw [← hX1]; exact hB.app _
  have hF1 : rdOb X1 X.length 0 = some ⟨[w, .i m], 0, true, 2⟩ := by rw [← hX1]; simp
  obtain ⟨f, hf⟩ : ∃ f : FnR, f = ⟨bs, m⟩ := ⟨_, rfl⟩
  obtain rfl : bs = f.blocks := by rw [hf]
  obtain rfl : m = f.values := by rw [hf]
  clear hf
  have hcw : cellsOf (.c w) = some [w] := by
    cases w <;> simp [flatC] at hfl <;> rfl
  obtain ⟨w4, L4, hw4, e4'⟩ := implUsed (f := f) hB1 hbl
  obtain ⟨X2, hX2⟩ : ∃ X2, X1 ++ L4 = X2 := ⟨_, rfl⟩
  have hp2 : Pre X1 X2 := ⟨_, hX2.symm⟩
  have hA2 : IsL X2 w4 (used0 f) := by have := hw4.isL; rw [hX2] at this; exact this
  obtain ⟨w5, L5, hw5, e5'⟩ := specUsed (f := f) (hB1.pre hp2) hbl
  obtain ⟨X3, hX3⟩ : ∃ X3, X2 ++ L5 = X3 := ⟨_, rfl⟩
  have hp3 : Pre X2 X3 := ⟨_, hX3.symm⟩
  have hC3 : IsL X3 w5 (used0 f) := by have := hw5.isL; rw [hX3] at this; exact this
  have hA3 : IsL X3 w4 (used0 f) := Sl.pre hp3 hA2
  have hF3 := (hp2.trans hp3).rdOb hF1
  have hB3 := hB1.pre (hp2.trans hp3)
  have hlA : lenOf w4 = some (used0 f).length := Sl.lenOf hA3
  have hlC : lenOf w5 = some (used0 f).length := Sl.lenOf hC3
  have hle := used0_le (f := f) hbl
  have hlb := hB3.lenOf
  simp [putD0', hX1, rdN_ob hF1, e4', hX2, rdN_ob (hp2.rdOb hF1), e5', hX3, hlA, hlC]
  obtain ⟨I, hI⟩ : ∃ I : Nat → St → Prop, ∀ i st, I i st ↔ (st.h = X3 ∧ Env.get st.e 3 = .c (.p X.length 0 0) ∧ Env.get st.e 4 = .c w4 ∧ Env.get st.e 5 = .c w5 ∧ Env.get st.e 6 = .c (.i i)) := ⟨_, fun _ _ => Iff.rfl⟩
  refine wp_for CM_mono (used0 f).length I ((hI _ _).2 ⟨rfl, by simp⟩) ?_ ?_
  · rintro i ⟨e, Y⟩ hi hIs
    obtain ⟨hY, e3, e4, e5, e6⟩ := (hI _ _).1 hIs
    simp only at hY e3 e4 e5 e6 ⊢
    subst hY
    obtain ⟨id, g, off, p1, p2⟩ := hA3.at_ hi
    obtain ⟨id', g', off', p3, p4⟩ := hC3.at_ hi
    obtain ⟨bv, hbv⟩ : ∃ bv, (used0 f)[i] = bv := ⟨_, rfl⟩
    rw [hbv] at p2 p4
    unfold vf7b0
    cases bv <;> simp [e3, e4, e5, e6, hlA, hi, p1, p2, p3, p4, up1 hi hle] <;> exact (hI _ _).2 ⟨rfl, by simp [e3, e4, e5]⟩
  · rintro ⟨e, Y⟩ hIs
    obtain ⟨hY, e3, e4, e5, e6⟩ := (hI _ _).1 hIs
    simp only at hY e3 e4 e5 e6 ⊢
    subst hY
    unfold vf7b0
    simp [e3, e4, e5, e6, hlA]
    by_cases hz : (used0 f).length = 0
    · obtain ⟨J, hJ⟩ : ∃ J : Nat → St → Prop, ∀ i st, J i st ↔ (st.h = Y ∧ Env.get st.e 3 = .c (.p X.length 0 0) ∧ Env.get st.e 4 = .c w4 ∧ Env.get st.e 7 = .c (.i 0)) := ⟨_, fun _ _ => Iff.rfl⟩
      have hz' : used0 f = [] := List.length_eq_zero_iff.1 hz
      have hlA0 : lenOf w4 = some 0 := by rw [hlA, hz]
      refine wp_for CM_mono 0 J ((hJ _ _).2 ⟨rfl, by simp [e3, e4]⟩) (fun k st hk => absurd hk (by omega)) ?_
      rintro ⟨e', Z⟩ hJs
      obtain ⟨hZ, e3, e4, e7⟩ := (hJ _ _).1 hJs
      simp only at hZ e3 e4 e7 ⊢
      subst hZ
      unfold vf7b3
      by_cases hck : checkF f = 0
      · simp [e3, e4, e7, rdC_ob hF3, rdN_ob hF3, hlb, h0, hlA0, implCheck hB3 hbl, hck]
      · simp [e3, e4, e7, rdC_ob hF3, rdN_ob hF3, hlb, h0, hlA0, implCheck hB3 hbl, hck]
    · have hck : checkF f = 0 := by
        apply Classical.byContradiction
        intro h
        apply hz
        unfold used0; rw [if_neg h]; rfl
      obtain ⟨hsh, _, _, _, _⟩ := check_well hck
      have hu0 : used0 f = usedW f := by unfold used0; rw [if_pos hck]
      have hun : (used0 f).length = f.values.toNat := by rw [hu0, usedW_len]
      have hpos : 0 < (used0 f).length := by omega
      have hget : ∀ (Z : Hp) (k : Nat), Pre Y Z → k < f.values.toNat → ∃ id g off, idxOf 1 w4 (k : Int) = some (.p id g off) ∧ rdC Z id g off = some (.b (pB (UsedP f.blocks k))) := by
        intro Z k hZ hk
        have hAZ : IsL Z w4 (used0 f) := Sl.pre hZ hA3
        obtain ⟨id, g, off, p1, p2⟩ := hAZ.at_ (show k < (used0 f).length by omega)
        refine ⟨id, g, off, p1, ?_⟩
        rw [p2]
        simp only [hu0, usedW_at]
      obtain ⟨J, hJ⟩ : ∃ J : Nat → St → Prop, ∀ i st, J i st ↔ (Pre Y st.h ∧ Env.get st.e 3 = .c (.p X.length 0 0) ∧ Env.get st.e 4 = .c w4 ∧ Env.get st.e 7 = .c (.i i)) := ⟨_, fun _ _ => Iff.rfl⟩
      refine wp_for CM_mono f.blocks.length J ((hJ _ _).2 ⟨Pre.refl _, by simp [e3, e4]⟩) ?_ ?_
      · rintro i ⟨e', Z⟩ hi hJs
        obtain ⟨hZ, e3, e4, e7⟩ := (hJ _ _).1 hJs
        simp only at hZ e3 e4 e7 ⊢
        have hmem : f.blocks[i] ∈ f.blocks := List.getElem_mem hi
        obtain ⟨b, hbb⟩ : ∃ b, f.blocks[i] = b := ⟨_, rfl⟩
        have hFZ := hZ.rdOb hF3
        obtain ⟨i0, g0, off0, w0, u0, q1, q2, q3, qp, ql, qpl, qll, _, _⟩ := Blocks.get hB3 hi
        rw [hbb] at q2 q3 ql qll hmem
        have hll := ql.lenOf
        have hblk : ∀ W, Pre Y W → rdC W i0 g0 (off0 + 1) = some u0 ∧ rdN W i0 g0 (off0 + 2) 4 = some [.i b.term.kind, .i b.term.a, .i b.term.to, .i b.term.els] := by
          rintro W ⟨G, rfl⟩
          have := q3 G
          exact ⟨this.2.1, by simp_all [BlkAt]⟩
        unfold vf7b3
        simp [e3, e4, e7, rdC_ob hFZ, hlb, hi, hlA, hpos]
        obtain ⟨K, hK⟩ : ∃ K : Nat → St → Prop, ∀ j st, K j st ↔ (Pre Y st.h ∧ Env.get st.e 3 = .c (.p X.length 0 0) ∧ Env.get st.e 4 = .c w4 ∧ Env.get st.e 7 = .c (.i i) ∧ Env.get st.e 8 = .c (.i j)) := ⟨_, fun _ _ => Iff.rfl⟩
        refine wp_for CM_mono b.list.length K ((hK _ _).2 ⟨hZ, by simp [e3, e4, e7]⟩) ?_ ?_
        · rintro j ⟨e2, W⟩ hj hKs
          obtain ⟨hW, e3, e4, e7, e8⟩ := (hK _ _).1 hKs
          simp only at hW e3 e4 e7 e8 ⊢
          have hFW := hW.rdOb hF3
          obtain ⟨id2, g2, off2, r1, _, r2, _⟩ := List5.get (List5.pre hW ql) hj
          have r2' := r2 []
          rw [List.append_nil] at r2'
          obtain ⟨x, hx⟩ : ∃ x, b.list[j] = x := ⟨_, rfl⟩
          have hxm : x ∈ b.list := hx ▸ List.getElem_mem hj
          have hxB := shape_ins hsh hmem hxm
          rw [hx] at r2'
          obtain ⟨W1, hW1⟩ : ∃ W1, W ++ [(⟨[.i x.op, .i x.d, .i x.a, .i x.b, .i x.n], 0, true, 5⟩ : Ob)] = W1 := ⟨_, rfl⟩
          have hpW1 : Pre W W1 := ⟨_, hW1.symm⟩
          have h9 : rdOb W1 W.length 0 = some ⟨[.i x.op, .i x.d, .i x.a, .i x.b, .i x.n], 0, true, 5⟩ := by rw [← hW1]; simp
          obtain ⟨uw, L, hw, hcall⟩ := implUses W1 x
          obtain ⟨W2, hW2⟩ : ∃ W2, W1 ++ L = W2 := ⟨_, rfl⟩
          have hwI := hw.isI
          have hpW2 : Pre W1 W2 := ⟨_, hW2.symm⟩
          rw [hW2] at hwI
          have h92 := hpW2.rdOb h9
          have hwl := hwI.lenOf
          have hpYW := (hW.trans hpW1).trans hpW2
          have hvx := uses_vals hsh hmem hxm
          have hul := usesF_le x
          unfold vf7b2
          simp [e3, e4, e7, e8, rdC_ob hFW, q1, (hblk W hW).1, hll, hj, r1, r2'.2.2.2.2.2, put5, hW1, rdN_ob h9, hcall, hW2, rdN_ob h92, implInsDef]
          obtain ⟨T, hT⟩ : ∃ T : Nat → St → Prop, ∀ k st, T k st ↔ (st.h = W2 ∧ Env.get st.e 3 = .c (.p X.length 0 0) ∧ Env.get st.e 4 = .c w4 ∧ Env.get st.e 7 = .c (.i i) ∧ Env.get st.e 8 = .c (.i j) ∧ Env.get st.e 9 = .c (.p W.length 0 0) ∧ Env.get st.e 10 = .c uw ∧ Env.get st.e 11 = .c (.i (insDefF x)) ∧ Env.get st.e 12 = .c (.i k)) := ⟨_, fun _ _ => Iff.rfl⟩
          refine wp_for CM_mono (usesF x).length T ((hT _ _).2 ⟨rfl, by simp [e3, e4, e7, e8]⟩) ?_ ?_
          · rintro k ⟨e5, U⟩ hk hTs
            obtain ⟨hU, e3, e4, e7, e8, e9, e10, e11, e12⟩ := (hT _ _).1 hTs
            simp only at hU e3 e4 e7 e8 e9 e10 e11 e12 ⊢
            subst hU
            obtain ⟨id3, g3, off3, p1, p2⟩ := hwI.at_ hk
            obtain ⟨y, hy⟩ : ∃ y, (usesF x)[k] = y := ⟨_, rfl⟩
            have hym : y ∈ usesF x := hy ▸ List.getElem_mem hk
            rw [hy] at p2
            obtain ⟨ku, hku, hkn⟩ := hvx y hym
            obtain ⟨ida, ga, offa, n1, n2⟩ := hget U ku hpYW hkn
            rw [hku] at p2
            have hyes : UsedP f.blocks y → rdC U ida ga offa = some (.b true) := fun h => by rw [hku] at h; rw [n2, pB_true h]
            have hup := up1 hk (show (usesF x).length ≤ BIG by simp only [BIG]; omega)
            have hend : ∀ e'' : Env, (Env.get e'' 3 = .c (.p X.length 0 0) ∧ Env.get e'' 4 = .c w4 ∧ Env.get e'' 7 = .c (.i i) ∧ Env.get e'' 8 = .c (.i j) ∧ Env.get e'' 9 = .c (.p W.length 0 0) ∧ Env.get e'' 10 = .c uw ∧ Env.get e'' 11 = .c (.i (insDefF x)) ∧ Env.get e'' 12 = .c (.i (k + 1 : Nat))) → T (k + 1) ⟨e'', U⟩ := fun e'' he => (hT _ _).2 ⟨rfl, he⟩
            unfold vf7b1
            cases h23 : decide (x.op = 23) with
            | true =>
              have n3 := hyes (.stay hmem hxm (by unfold keepsF; rw [h23]; simp) hym)
              simp [e3, e4, e7, e8, e9, e10, e11, e12, hwl, hk, rdC_ob h92, h23, p1, p2, n1, n3, hup]
              exact hend _ (by simp [e3, e4, e7, e8, e9, e10, e11])
            | false =>
              cases h22 : decide (x.op = 22) with
              | true =>
                have n3 := hyes (.stay hmem hxm (by unfold keepsF; rw [h22]; simp) hym)
                simp [e3, e4, e7, e8, e9, e10, e11, e12, hwl, hk, rdC_ob h92, h23, h22, p1, p2, n1, n3, hup]
                exact hend _ (by simp [e3, e4, e7, e8, e9, e10, e11])
              | false =>
                by_cases hd : 0 ≤ insDefF x
                · obtain ⟨kd, hk1, hk2⟩ := ins_def hxB hd
                  obtain ⟨idb, gb, offb, o1, o2⟩ := hget U kd hpYW hk2
                  rw [hk1] at e11
                  by_cases hus : UsedP f.blocks (kd : Int)
                  · rw [pB_true hus] at o2
                    have n3 := hyes (.make hmem hxm hd (by rw [hk1]; exact hus) hym)
                    simp [e3, e4, e7, e8, e9, e10, e11, e12, hwl, hk, rdC_ob h92, h23, h22, o1, o2, p1, p2, n1, n3, hup]
                    exact hend _ (by simp [e3, e4, e7, e8, e9, e10, e11, hk1])
                  · rw [pB_false hus] at o2
                    simp [e3, e4, e7, e8, e9, e10, e11, e12, hwl, hk, rdC_ob h92, h23, h22, o1, o2, hup]
                    exact hend _ (by simp [e3, e4, e7, e8, e9, e10, e11, hk1])
                · simp [e3, e4, e7, e8, e9, e10, e11, e12, hwl, hk, rdC_ob h92, h23, h22, hd, hup]
                  exact hend _ (by simp [e3, e4, e7, e8, e9, e10, e11])
          · rintro ⟨e5, U⟩ hTs
            obtain ⟨hU, e3, e4, e7, e8, e9, e10, e11, e12⟩ := (hT _ _).1 hTs
            simp only at hU e3 e4 e7 e8 e9 e10 e11 e12 ⊢
            subst hU
            unfold vf7b1
            simp [e3, e4, e7, e8, e9, e10, e11, e12, hwl, up1 hj qll]
            exact (hK _ _).2 ⟨hpYW, by simp [e3, e4, e7]⟩
        · rintro ⟨e2, W⟩ hKs
          obtain ⟨hW, e3, e4, e7, e8⟩ := (hK _ _).1 hKs
          simp only at hW e3 e4 e7 e8 ⊢
          have hFW := hW.rdOb hF3
          obtain ⟨t, ht⟩ : ∃ t, b.term = t := ⟨_, rfl⟩
          have hb4 := (hblk W hW).2
          rw [ht] at hb4
          obtain ⟨tw, L, hw, hcall⟩ := implTUses W t
          obtain ⟨W2, hW2⟩ : ∃ W2, W ++ L = W2 := ⟨_, rfl⟩
          have hwI := hw.isI
          have hpW2 : Pre W W2 := ⟨_, hW2.symm⟩
          rw [hW2] at hwI
          have hwl := hwI.lenOf
          have hvt := tuses_vals hsh hmem
          rw [ht] at hvt
          unfold vf7b2
          by_cases hz2 : 0 < (tusesF t).length
          · obtain ⟨id3, g3, off3, p1, p2⟩ := hwI.at_ hz2
            obtain ⟨y, hy⟩ : ∃ y, (tusesF t)[0] = y := ⟨_, rfl⟩
            have hym : y ∈ tusesF t := hy ▸ List.getElem_mem hz2
            rw [hy] at p2
            obtain ⟨ku, hku, hkn⟩ := hvt y hym
            obtain ⟨ida, ga, offa, n1, n2⟩ := hget W2 ku (hW.trans hpW2) hkn
            rw [hku] at p2
            have huu : UsedP f.blocks (ku : Int) := by rw [← hku]; exact .term hmem (by rw [ht]; exact hym)
            rw [pB_true huu] at n2
            have p1' : idxOf 1 tw 0 = some (.p id3 g3 off3) := p1
            simp [e3, e4, e7, e8, rdC_ob hFW, q1, (hblk W hW).1, hll, hb4, hcall, hW2, hwl, hz2, p1', p2, n1, n2, up1 hi hbl]
            exact (hJ _ _).2 ⟨hW.trans hpW2, by simp [e3, e4]⟩
          · simp [e3, e4, e7, e8, rdC_ob hFW, q1, (hblk W hW).1, hll, hb4, hcall, hW2, hwl, hz2, up1 hi hbl]
            exact (hJ _ _).2 ⟨hW.trans hpW2, by simp [e3, e4]⟩
      · rintro ⟨e', Z⟩ hJs
        obtain ⟨hZ, e3, e4, e7⟩ := (hJ _ _).1 hJs
        simp only at hZ e3 e4 e7 ⊢
        have hFZ := hZ.rdOb hF3
        unfold vf7b3
        simp [e3, e4, e7, rdC_ob hFZ, rdN_ob hFZ, hlb, implCheck (hB3.pre hZ) hbl, hck]
end Go.Proofs.YtgdfgnppeekfjaaGreat.Vm
end
