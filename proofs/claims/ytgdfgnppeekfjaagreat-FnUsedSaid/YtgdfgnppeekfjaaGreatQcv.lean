import Derived.Test.YtgdfgnppeekfjaaGreatQcu
section
/- A round of what is used: the specification's side. No conditions. -/
namespace Go.Proofs.YtgdfgnppeekfjaaGreat.Vm
open Go.RowKit (wrap64)
set_option linter.unusedSimpArgs false
set_option linter.unusedVariables false
def RoundRes (H : Hp) (bs : List BlkR) (uid : Nat) (us : List Bool) (r : IV × Hp) : Prop :=
  ∃ us' m Y, r = (.c (.b m), Y) ∧ Pre H Y ∧ rdOb Y uid 0 = some (UsOb us') ∧ Rnd bs us us' m ∧ (m = false → ∀ b ∈ bs, ClosedB us b)
theorem RoundRes.gc {H X Y : Hp} {bs : List BlkR} {uid : Nat} {us us' : List Bool} {m : Bool} (hX : Pre H X) (ho : rdOb X uid 0 = some (UsOb us)) (hY : Pre H Y) (hU : rdOb Y uid 0 = some (UsOb us'))
    (hR : Rnd bs us us' m) (hc : m = false → ∀ b ∈ bs, ClosedB us b) : RoundRes H bs uid us (gcRet X (.c (.b m)) Y) := by
  unfold gcRet
  split
  · rename_i h
    have hp : Pre X Y := ⟨Y.drop X.length, by have := List.take_append_drop X.length Y; rw [h] at this; exact this.symm⟩
    have := hp.rdOb ho
    rw [hU] at this
    refine ⟨us', m, X, ?_, hX, by rw [ho, ← this], hR, hc⟩
    rw [if_pos (show flatV (.c (.b m)) = true from rfl)]
  · exact ⟨us', m, Y, rfl, hY, hU, hR, hc⟩
set_option maxRecDepth 100000 in
theorem round_call {H X : Hp} {v : CV} {f : FnR} (hv : Blocks H v f.blocks) (hbb : f.blocks.length ≤ BIG) (hsh : shapeB f = true) (hp : Pre H X) {uid : Nat} (hu : H.length ≤ uid) {us : List Bool}
    (ho : rdOb X uid 0 = some (UsOb us)) (hl : us.length = f.values.toNat) (hs : ∀ j : Nat, us.getD j false = true → UsedP f.blocks j) :
    CM 166 [.agg [v, .i f.values], .c (.sl uid 0 0 us.length)] X (RoundRes H f.blocks uid us) := by
  refine cw166 ?_
  unfold vf166c
  have hlt := rdOb_lt ho
  obtain ⟨X1, hX1⟩ : ∃ X1, X ++ [(⟨[v, .i f.values], 0, true, 2⟩ : Ob)] = X1 := ⟨_, rfl⟩
  have hp1 : Pre X X1 := ⟨_, hX1.symm⟩
  have hB1 : rdOb X1 X.length 0 = some ⟨[v, .i f.values], 0, true, 2⟩ := by rw [← hX1]; simp
  have hU1 := hp1.rdOb ho
  have hne : X.length ≠ uid := by omega
  have hvl := hv.lenOf
  simp [hX1]
  obtain ⟨I, hI⟩ : ∃ I : Nat → St → Prop, ∀ i st, I i st ↔ (∃ ui m, Pre H st.h ∧ rdOb st.h uid 0 = some (UsOb ui) ∧ Rnd f.blocks us ui m ∧ (m = false → ∀ b ∈ f.blocks.take i, ClosedB us b) ∧ rdOb st.h X.length 0 = some ⟨[v, .i f.values], 0, true, 2⟩ ∧
      Env.get st.e 1 = .c (.sl uid 0 0 us.length) ∧ Env.get st.e 2 = .c (.p X.length 0 0) ∧ Env.get st.e 5 = .c (.b m) ∧ Env.get st.e 6 = .c (.i i)) := ⟨_, fun _ _ => Iff.rfl⟩
  refine wp_for CM_mono f.blocks.length I ((hI _ _).2 ⟨us, false, hp.trans hp1, hU1, Rnd.refl hs, fun _ => by simp, hB1, by simp⟩) ?_ ?_
  · rintro i ⟨e, Z⟩ hi hIs
    obtain ⟨ui, m, hZ, hU, hR, hc, hBZ, e1, e2, e5, e6⟩ := (hI _ _).1 hIs
    simp only at hZ hU hBZ e1 e2 e5 e6 ⊢
    have hmem : f.blocks[i] ∈ f.blocks := List.getElem_mem hi
    obtain ⟨b, hb⟩ : ∃ b, f.blocks[i] = b := ⟨_, rfl⟩
    obtain ⟨i0, g0, off0, w, u, q1, _, q2, qp, ql, qpl, qll, _, _⟩ := Blocks.get hv hi
    obtain ⟨GZ, hGZ⟩ := id hZ
    have q2' := q2 GZ
    rw [← hGZ] at q2'
    rw [hb] at q2' qp ql qpl qll hmem
    obtain ⟨t, ht⟩ : ∃ t, b.term = t := ⟨_, rfl⟩
    rw [ht] at q2'
    obtain ⟨Z1, hZ1⟩ : ∃ Z1, Z ++ [(⟨[w, u, .i t.kind, .i t.a, .i t.to, .i t.els], 0, true, 6⟩ : Ob)] = Z1 := ⟨_, rfl⟩
    have hpZ1 : Pre Z Z1 := ⟨_, hZ1.symm⟩
    have h7 : rdOb Z1 Z.length 0 = some ⟨[w, u, .i t.kind, .i t.a, .i t.to, .i t.els], 0, true, 6⟩ := by rw [← hZ1]; simp
    have hU1 := hpZ1.rdOb hU
    have hltZ := rdOb_lt hU
    have hltB := rdOb_lt hBZ
    have hne7 : Z.length ≠ uid := by omega
    have hpl := qp.lenOf
    have hll := ql.lenOf
    unfold vf166b3
    simp [e1, e2, e5, e6, rdC_ob hBZ, hvl, hi, q1, q2'.2.2.2.2.2.2.2.2.2.2, put66c, hZ1]
    obtain ⟨J, hJ⟩ : ∃ J : Nat → St → Prop, ∀ j st, J j st ↔ (∃ ui m, Pre H st.h ∧ rdOb st.h uid 0 = some (UsOb ui) ∧ Rnd f.blocks us ui m ∧ (m = false → (∀ b ∈ f.blocks.take i, ClosedB us b) ∧ ∀ x ∈ b.list.take j, InsOk us x) ∧ rdOb st.h X.length 0 = some ⟨[v, .i f.values], 0, true, 2⟩ ∧ rdOb st.h Z.length 0 = some ⟨[w, u, .i t.kind, .i t.a, .i t.to, .i t.els], 0, true, 6⟩ ∧
            Env.get st.e 1 = .c (.sl uid 0 0 us.length) ∧ Env.get st.e 2 = .c (.p X.length 0 0) ∧ Env.get st.e 5 = .c (.b m) ∧ Env.get st.e 6 = .c (.i i) ∧ Env.get st.e 7 = .c (.p Z.length 0 0) ∧ Env.get st.e 8 = .c (.i j)) := ⟨_, fun _ _ => Iff.rfl⟩
    refine wp_for CM_mono b.list.length J ((hJ _ _).2 ⟨ui, m, hZ.trans hpZ1, hU1, hR, fun h => ⟨hc h, by simp⟩, hpZ1.rdOb hBZ, h7, by simp [e1, e2, e5, e6]⟩) ?_ ?_
    · rintro j ⟨e', W⟩ hj hJs
      obtain ⟨ui, m, hW, hUW, hR, hc, hBW, h7W, e1, e2, e5, e6, e7, e8⟩ := (hJ _ _).1 hJs
      simp only at hW hUW hBW h7W e1 e2 e5 e6 e7 e8 ⊢
      obtain ⟨id2, g2, off2, r1, _, r2, _⟩ := List5.get (List5.pre hW ql) hj
      have r2' := r2 []
      rw [List.append_nil] at r2'
      obtain ⟨x, hx⟩ : ∃ x, b.list[j] = x := ⟨_, rfl⟩
      have hxm : x ∈ b.list := hx ▸ List.getElem_mem hj
      have hxB := shape_ins hsh hmem hxm
      rw [hx] at r2'
      have hul : ui.length = us.length := hR.len
      obtain ⟨uw, L, hw, hcall⟩ := specUses W x
      obtain ⟨W2, hW2⟩ : ∃ W2, W ++ L = W2 := ⟨_, rfl⟩
      have hwI := hw.isI
      have hpW2 : Pre W W2 := ⟨_, hW2.symm⟩
      rw [hW2] at hwI
      have hU2 := hpW2.rdOb hUW
      have hvx := uses_vals hsh hmem hxm
      have hua := fun k => specMark hU2 hwI (by rw [hul, hl]; exact hvx) (Nat.le_trans (usesF_le x) (by simp [BIG])) k
      rw [hul] at hua
      obtain ⟨W3, hW3⟩ : ∃ W3, W2.set uid (UsOb (markAll ui (usesF x))) = W3 := ⟨_, rfl⟩
      have hU3 : rdOb W3 uid 0 = some (UsOb (markAll ui (usesF x))) := by rw [← hW3, rdOb_set_self (rdOb_lt hU2)]; simp [UsOb]
      have hpH3 : Pre H W3 := by rw [← hW3]; exact (hW.trans hpW2).set hu _
      have hB3 : rdOb W3 X.length 0 = some ⟨[v, .i f.values], 0, true, 2⟩ := by rw [← hW3, rdOb_set_ne hne]; exact hpW2.rdOb hBW
      have h73 : rdOb W3 Z.length 0 = some ⟨[w, u, .i t.kind, .i t.a, .i t.to, .i t.els], 0, true, 6⟩ := by rw [← hW3, rdOb_set_ne hne7]; exact hpW2.rdOb h7W
      have hgo : (keepsF x.op = true ∨ (0 ≤ insDefF x ∧ Us ui (insDefF x))) → Rnd f.blocks us (markAll ui (usesF x)) (m || moreF ui (usesF x)) := fun hk => hR.mark (by rw [hl]; exact hvx) (fun v hv => by
        rcases hk with hk | ⟨hd, hk⟩
        · exact .stay hmem hxm hk hv
        · refine .make hmem hxm hd ?_ hv
          obtain ⟨k, h1, _⟩ := ins_def hxB hd
          unfold Us at hk
          rw [h1, Int.toNat_natCast] at hk
          rw [h1]; exact hR.snd k hk)
      have hcl : moreF ui (usesF x) = false → m = false → (∀ b ∈ f.blocks.take i, ClosedB us b) ∧ ∀ x ∈ b.list.take (j + 1), InsOk us x := fun h1 h2 => by
        refine ⟨(hc h2).1, all_take hj (hc h2).2 ?_⟩
        rw [hx, ← hR.no h2]; exact fun _ => moreF_no h1
      have hskip : ¬ (keepsF x.op = true ∨ (0 ≤ insDefF x ∧ Us ui (insDefF x))) → m = false → (∀ b ∈ f.blocks.take i, ClosedB us b) ∧ ∀ x ∈ b.list.take (j + 1), InsOk us x := fun h1 h2 => by
        refine ⟨(hc h2).1, all_take hj (hc h2).2 ?_⟩
        rw [hx, ← hR.no h2]; exact fun hk => absurd hk h1
      have hfin : ∀ (e'' : Env), (keepsF x.op = true ∨ (0 ≤ insDefF x ∧ Us ui (insDefF x))) → (Env.get e'' 1 = .c (.sl uid 0 0 us.length) ∧ Env.get e'' 2 = .c (.p X.length 0 0) ∧ Env.get e'' 5 = .c (.b (m || moreF ui (usesF x))) ∧ Env.get e'' 6 = .c (.i i) ∧ Env.get e'' 7 = .c (.p Z.length 0 0) ∧ Env.get e'' 8 = .c (.i (j + 1 : Nat))) → J (j + 1) ⟨e'', W3⟩ := fun e'' hk he => (hJ _ _).2 ⟨_, _, hpH3, hU3, hgo hk, fun hf => by
          rw [Bool.or_eq_false_iff] at hf; exact hcl hf.2 hf.1, hB3, h73, he⟩
      unfold vf166b0
      cases h21 : decide (x.op = 21) with
      | true => 
        cases hmo : moreF ui (usesF x) <;>
        · simp [e1, e2, e5, e6, e7, e8, hll, hj, rdC_ob h7W, r1, r2'.1, r2'.2.2.2.2.2, specInsDef, h21, hcall, hW2, hua, hmo, hW3, up1 hj qll]
          exact hfin _ (.inl (by unfold keepsF; rw [h21]; simp)) (by rw [hmo]; simp [e1, e2, e5, e6, e7])
      | false =>
        cases h22 : decide (x.op = 22) with
        | true => 
          cases hmo : moreF ui (usesF x) <;>
          · simp [e1, e2, e5, e6, e7, e8, hll, hj, rdC_ob h7W, r1, r2'.1, r2'.2.2.2.2.2, specInsDef, h21, h22, hcall, hW2, hua, hmo, hW3, up1 hj qll]
            exact hfin _ (.inl (by unfold keepsF; rw [h22]; simp)) (by rw [hmo]; simp [e1, e2, e5, e6, e7])
        | false =>
          cases h23 : decide (x.op = 23) with
          | true => 
            cases hmo : moreF ui (usesF x) <;>
            · simp [e1, e2, e5, e6, e7, e8, hll, hj, rdC_ob h7W, r1, r2'.1, r2'.2.2.2.2.2, specInsDef, h21, h22, h23, hcall, hW2, hua, hmo, hW3, up1 hj qll]
              exact hfin _ (.inl (by unfold keepsF; rw [h23]; simp)) (by rw [hmo]; simp [e1, e2, e5, e6, e7])
          | false =>
            by_cases hd : 0 ≤ insDefF x
            · obtain ⟨k, hk1, hk2⟩ := ins_def hxB hd
              have hrd := rdU hUW (k := k) (by omega)
              have hix : idxOf 1 (.sl uid 0 0 us.length) (k : Int) = some (.p uid 0 k) := idx1 (by omega)
              have hkp : keepsF x.op = false := by unfold keepsF; rw [h21, h22, h23]; rfl
              cases hb0 : ui.getD k false with
              | true =>
                rw [hb0] at hrd
                have hus : Us ui (insDefF x) := by unfold Us; rw [hk1, Int.toNat_natCast]; exact hb0
                cases hmo : moreF ui (usesF x) <;>
                · simp [e1, e2, e5, e6, e7, e8, hll, hj, rdC_ob h7W, r1, r2'.1, r2'.2.2.2.2.2, specInsDef, h21, h22, h23, hk1, hix, hrd, hcall, hW2, hua, hmo, hW3, up1 hj qll]
                  exact hfin _ (.inr ⟨hd, hus⟩) (by rw [hmo]; simp [e1, e2, e5, e6, e7])
              | false =>
                rw [hb0] at hrd
                have hno : ¬ (keepsF x.op = true ∨ (0 ≤ insDefF x ∧ Us ui (insDefF x))) := fun h => by
                  rcases h with h | ⟨_, h⟩
                  · rw [hkp] at h; cases h
                  · unfold Us at h; rw [hk1, Int.toNat_natCast, hb0] at h; cases h
                simp [e1, e2, e5, e6, e7, e8, hll, hj, rdC_ob h7W, r1, r2'.1, r2'.2.2.2.2.2, specInsDef, h21, h22, h23, hk1, hix, hrd, up1 hj qll]
                exact (hJ _ _).2 ⟨ui, m, hW, hUW, hR, hskip hno, hBW, h7W, by simp [e1, e2, e5, e6, e7]⟩
            · have hkp : keepsF x.op = false := by unfold keepsF; rw [h21, h22, h23]; rfl
              have hno : ¬ (keepsF x.op = true ∨ (0 ≤ insDefF x ∧ Us ui (insDefF x))) := fun h => by
                rcases h with h | ⟨h, _⟩
                · rw [hkp] at h; cases h
                · exact hd h
              simp [e1, e2, e5, e6, e7, e8, hll, hj, rdC_ob h7W, r1, r2'.1, r2'.2.2.2.2.2, specInsDef, h21, h22, h23, hd, up1 hj qll]
              exact (hJ _ _).2 ⟨ui, m, hW, hUW, hR, hskip hno, hBW, h7W, by simp [e1, e2, e5, e6, e7]⟩
    · rintro ⟨e', W⟩ hJs
      obtain ⟨ui, m, hW, hUW, hR, hc, hBW, h7W, e1, e2, e5, e6, e7, e8⟩ := (hJ _ _).1 hJs
      simp only at hW hUW hBW h7W e1 e2 e5 e6 e7 e8 ⊢
      rw [List.take_length] at hc
      unfold vf166b0
      simp [e1, e2, e5, e6, e7, e8, rdC_ob h7W, hll]
      obtain ⟨A, hA⟩ : ∃ A : Nat → St → Prop, ∀ j st, A j st ↔ (∃ ui m, Pre H st.h ∧ rdOb st.h uid 0 = some (UsOb ui) ∧ Rnd f.blocks us ui m ∧ (m = false → ((∀ b ∈ f.blocks.take i, ClosedB us b) ∧ (∀ x ∈ b.list, InsOk us x)) ∧ ∀ p ∈ b.phis.take j, PhiOk us p) ∧ rdOb st.h X.length 0 = some ⟨[v, .i f.values], 0, true, 2⟩ ∧ rdOb st.h Z.length 0 = some ⟨[w, u, .i t.kind, .i t.a, .i t.to, .i t.els], 0, true, 6⟩ ∧
              Env.get st.e 1 = .c (.sl uid 0 0 us.length) ∧ Env.get st.e 2 = .c (.p X.length 0 0) ∧ Env.get st.e 5 = .c (.b m) ∧ Env.get st.e 6 = .c (.i i) ∧ Env.get st.e 7 = .c (.p Z.length 0 0) ∧ Env.get st.e 11 = .c (.i j)) := ⟨_, fun _ _ => Iff.rfl⟩
      refine wp_for CM_mono b.phis.length A ((hA _ _).2 ⟨ui, m, hW, hUW, hR, fun h => ⟨hc h, by simp⟩, hBW, h7W, by simp [e1, e2, e5, e6, e7]⟩) ?_ ?_
      · rintro j ⟨e', W⟩ hj hAs
        obtain ⟨ui, m, hW, hUW, hR, hc, hBW, h7W, e1, e2, e5, e6, e7, e11⟩ := (hA _ _).1 hAs
        simp only at hW hUW hBW h7W e1 e2 e5 e6 e7 e11 ⊢
        obtain ⟨id2, g2, off2, w2, r1, r2, _, qa, _⟩ := Phis.get (Phis.pre hW qp) hj
        obtain ⟨ph, hph⟩ : ∃ ph, b.phis[j] = ph := ⟨_, rfl⟩
        have hpm : ph ∈ b.phis := hph ▸ List.getElem_mem hj
        have hphB := shape_phi hsh hmem hpm
        rw [hph] at r2 qa
        obtain ⟨hvd, hal, harm⟩ := phi_vals hphB
        obtain ⟨kd, hkd, hkn⟩ := val_nat hvd
        have hul : ui.length = us.length := hR.len
        have hall := qa.lenOf
        have hrd := rdU hUW (k := kd) (by omega)
        have hix : idxOf 1 (.sl uid 0 0 us.length) ph.d = some (.p uid 0 kd) := by rw [hkd]; exact idx1 (by omega)
        unfold vf166b2
        simp [e1, e2, e5, e6, e7, e11, rdC_ob h7W, hpl, hj]
        cases hm : ui.getD kd false with
        | false =>
          rw [hm] at hrd
          obtain ⟨K, hK⟩ : ∃ K : Nat → St → Prop, ∀ k st, K k st ↔ (st.h = W ∧ Env.get st.e 1 = .c (.sl uid 0 0 us.length) ∧ Env.get st.e 2 = .c (.p X.length 0 0) ∧ Env.get st.e 5 = .c (.b m) ∧ Env.get st.e 6 = .c (.i i) ∧ Env.get st.e 7 = .c (.p Z.length 0 0) ∧ Env.get st.e 11 = .c (.i j) ∧ Env.get st.e 12 = .c (.i 0)) := ⟨_, fun _ _ => Iff.rfl⟩
          refine wp_for CM_mono 0 K ((hK _ _).2 ⟨rfl, by simp [e1, e2, e5, e6, e7, e11]⟩) (fun k st hk => absurd hk (by omega)) ?_
          rintro ⟨e2', U⟩ hKs
          obtain ⟨hU, e1, e2, e5, e6, e7, e11, e12⟩ := (hK _ _).1 hKs
          simp only at hU e1 e2 e5 e6 e7 e11 e12 ⊢
          subst hU
          have hdone : m = false → ((∀ b ∈ f.blocks.take i, ClosedB us b) ∧ (∀ x ∈ b.list, InsOk us x)) ∧ ∀ p ∈ b.phis.take (j + 1), PhiOk us p := fun hf => by
            refine ⟨(hc hf).1, all_take hj (hc hf).2 ?_⟩
            rw [hph]
            intro hd
            unfold Us at hd
            rw [hkd, Int.toNat_natCast, ← hR.no hf, hm] at hd
            cases hd
          unfold vf166b1
          by_cases h0 : 0 < ph.arms.length
          · simp [e1, e2, e5, e6, e7, e11, e12, rdC_ob h7W, r1, r2.1, r2.2.1, hall, h0, hix, hrd, up1 hj qpl]
            exact (hA _ _).2 ⟨ui, m, hW, hUW, hR, hdone, hBW, h7W, by simp [e1, e2, e5, e6, e7]⟩
          · simp [e1, e2, e5, e6, e7, e11, e12, rdC_ob h7W, r1, r2.1, r2.2.1, hall, h0, hix, hrd, up1 hj qpl]
            exact (hA _ _).2 ⟨ui, m, hW, hUW, hR, hdone, hBW, h7W, by simp [e1, e2, e5, e6, e7]⟩
        | true =>
          have hud : UsedP f.blocks ph.d := by rw [hkd]; exact hR.snd kd hm
          obtain ⟨K, hK⟩ : ∃ K : Nat → St → Prop, ∀ k st, K k st ↔ (∃ ui m, ui.getD kd false = true ∧ Pre H st.h ∧ rdOb st.h uid 0 = some (UsOb ui) ∧ Rnd f.blocks us ui m ∧ (m = false → (((∀ b ∈ f.blocks.take i, ClosedB us b) ∧ (∀ x ∈ b.list, InsOk us x)) ∧ ∀ p ∈ b.phis.take j, PhiOk us p) ∧ ∀ a ∈ ph.arms.take k, Us us a.v) ∧ rdOb st.h X.length 0 = some ⟨[v, .i f.values], 0, true, 2⟩ ∧ rdOb st.h Z.length 0 = some ⟨[w, u, .i t.kind, .i t.a, .i t.to, .i t.els], 0, true, 6⟩ ∧
              Env.get st.e 1 = .c (.sl uid 0 0 us.length) ∧ Env.get st.e 2 = .c (.p X.length 0 0) ∧ Env.get st.e 5 = .c (.b m) ∧ Env.get st.e 6 = .c (.i i) ∧ Env.get st.e 7 = .c (.p Z.length 0 0) ∧ Env.get st.e 11 = .c (.i j) ∧ Env.get st.e 12 = .c (.i k)) := ⟨_, fun _ _ => Iff.rfl⟩
          refine wp_for CM_mono ph.arms.length K ((hK _ _).2 ⟨ui, m, hm, hW, hUW, hR, fun h => ⟨hc h, by simp⟩, hBW, h7W, by simp [e1, e2, e5, e6, e7, e11]⟩) ?_ ?_
          · rintro k ⟨e2', U⟩ hk hKs
            obtain ⟨uk, mk, hmk, hU, hUU, hRk, hck, hBU, h7U, e1, e2, e5, e6, e7, e11, e12⟩ := (hK _ _).1 hKs
            simp only at hU hUU hBU h7U e1 e2 e5 e6 e7 e11 e12 ⊢
            obtain ⟨id2, g2, off2, w2, r1, r2, _, qa, _⟩ := Phis.get (Phis.pre hU qp) hj
            rw [hph] at r2 qa
            have hall := qa.lenOf
            obtain ⟨id3, g3, off3, m1, ⟨m2, m3, m4⟩, m5, m6, m7⟩ := Arms.get qa hk
            obtain ⟨a, ha⟩ : ∃ a, ph.arms[k] = a := ⟨_, rfl⟩
            have hamem : a ∈ ph.arms := ha ▸ List.getElem_mem hk
            have hav := (harm k hk).2
            rw [ha] at m2 m3 m4 hav
            have hukl : uk.length = us.length := hRk.len
            have hrd := rdU hUU (k := kd) (by omega)
            rw [hmk] at hrd
            obtain ⟨W2, hW2⟩ : ∃ W2, U ++ [(⟨[.i a.v], 0, true, 1⟩ : Ob)] = W2 := ⟨_, rfl⟩
            have hpW2 : Pre U W2 := ⟨_, hW2.symm⟩
            have hrow : IsI W2 (.sl U.length 0 0 1) [a.v] := one_row (by rw [← hW2]; simp)
            have hU2 := hpW2.rdOb hUU
            have hvals : Vals uk.length [a.v] := fun v hv => by
              simp at hv; subst hv
              obtain ⟨c, h1, h2⟩ := val_nat hav
              exact ⟨c, h1, by omega⟩
            have hua := fun k => specMark hU2 hrow hvals (by simp [BIG]) k
            rw [hukl] at hua
            have hRn := hRk.mark (vs := [a.v]) (by rw [← hukl]; exact hvals) (fun v hv => by simp at hv; rw [hv]; exact .phi hmem hpm hud hamem)
            have hmk2 : (markAll uk [a.v]).getD kd false = true := by rw [markAll_get, hmk]; rfl
            obtain ⟨W3, hW3⟩ : ∃ W3, W2.set uid (UsOb (markAll uk [a.v])) = W3 := ⟨_, rfl⟩
            have hU3 : rdOb W3 uid 0 = some (UsOb (markAll uk [a.v])) := by rw [← hW3, rdOb_set_self (rdOb_lt hU2)]; simp [UsOb]
            have hB3 : rdOb W3 X.length 0 = some ⟨[v, .i f.values], 0, true, 2⟩ := by rw [← hW3, rdOb_set_ne hne]; exact hpW2.rdOb hBU
            have h73 : rdOb W3 Z.length 0 = some ⟨[w, u, .i t.kind, .i t.a, .i t.to, .i t.els], 0, true, 6⟩ := by rw [← hW3, rdOb_set_ne hne7]; exact hpW2.rdOb h7U
            have hpH3 : Pre H W3 := by rw [← hW3]; exact (hU.trans hpW2).set hu _
            have hcl : moreF uk [a.v] = false → mk = false → (((∀ b ∈ f.blocks.take i, ClosedB us b) ∧ (∀ x ∈ b.list, InsOk us x)) ∧ ∀ p ∈ b.phis.take j, PhiOk us p) ∧ ∀ a ∈ ph.arms.take (k + 1), Us us a.v := fun h1 h2 => by
              refine ⟨(hck h2).1, all_take (P := fun a : ArmR => Us us a.v) hk (hck h2).2 ?_⟩
              rw [ha, ← hRk.no h2]; exact moreF_no h1 _ (by simp)
            unfold vf166b1
            cases hmo : moreF uk [a.v] with
            | true =>
              rw [hmo, Bool.or_true] at hRn
              simp [e1, e2, e5, e6, e7, e11, e12, rdC_ob h7U, r1, r2.1, r2.2.1, hall, hk, hix, hrd, m1, m3, putL0, hW2, hua, hmo, hW3, up1 hk (show ph.arms.length ≤ BIG by simp only [BIG]; omega)]
              exact (hK _ _).2 ⟨_, true, hmk2, hpH3, hU3, hRn, (fun h => by cases h), hB3, h73, by simp [e1, e2, e6, e7, e11]⟩
            | false =>
              rw [hmo, Bool.or_false] at hRn
              simp [e1, e2, e5, e6, e7, e11, e12, rdC_ob h7U, r1, r2.1, r2.2.1, hall, hk, hix, hrd, m1, m3, putL0, hW2, hua, hmo, hW3, up1 hk (show ph.arms.length ≤ BIG by simp only [BIG]; omega)]
              exact (hK _ _).2 ⟨_, mk, hmk2, hpH3, hU3, hRn, hcl hmo, hB3, h73, by simp [e1, e2, e5, e6, e7, e11]⟩
          · rintro ⟨e2', U⟩ hKs
            obtain ⟨uk, mk, hmk, hU, hUU, hRk, hck, hBU, h7U, e1, e2, e5, e6, e7, e11, e12⟩ := (hK _ _).1 hKs
            simp only at hU hUU hBU h7U e1 e2 e5 e6 e7 e11 e12 ⊢
            rw [List.take_length] at hck
            obtain ⟨id2, g2, off2, w2, r1, r2, _, qa, _⟩ := Phis.get (Phis.pre hU qp) hj
            rw [hph] at r2 qa
            have hall := qa.lenOf
            unfold vf166b1
            simp [e1, e2, e5, e6, e7, e11, e12, rdC_ob h7U, r1, r2.1, r2.2.1, hall, up1 hj qpl]
            exact (hA _ _).2 ⟨uk, mk, hU, hUU, hRk, fun hf => ⟨(hck hf).1.1, all_take hj (hck hf).1.2 (by rw [hph]; exact fun _ => (hck hf).2)⟩, hBU, h7U, by simp [e1, e2, e5, e6, e7]⟩
      · rintro ⟨e', W⟩ hAs
        obtain ⟨ui, m, hW, hUW, hR, hc, hBW, h7W, e1, e2, e5, e6, e7, e11⟩ := (hA _ _).1 hAs
        simp only at hW hUW hBW h7W e1 e2 e5 e6 e7 e11 ⊢
        rw [List.take_length] at hc
        have hul : ui.length = us.length := hR.len
        obtain ⟨tw, L, hw, hcall⟩ := specTUses W t
        obtain ⟨W2, hW2⟩ : ∃ W2, W ++ L = W2 := ⟨_, rfl⟩
        have hwI := hw.isI
        have hpW2 : Pre W W2 := ⟨_, hW2.symm⟩
        rw [hW2] at hwI
        have hU2 := hpW2.rdOb hUW
        have hvt := tuses_vals hsh hmem
        rw [ht] at hvt
        have hua := fun k => specMark hU2 hwI (by rw [hul, hl]; exact hvt) (Nat.le_trans (tusesF_le t) (by simp [BIG])) k
        rw [hul] at hua
        have hRn := hR.mark (vs := tusesF t) (by rw [hl]; exact hvt) (fun v hv => .term hmem (by rw [ht]; exact hv))
        obtain ⟨W3, hW3⟩ : ∃ W3, W2.set uid (UsOb (markAll ui (tusesF t))) = W3 := ⟨_, rfl⟩
        have hU3 : rdOb W3 uid 0 = some (UsOb (markAll ui (tusesF t))) := by rw [← hW3, rdOb_set_self (rdOb_lt hU2)]; simp [UsOb]
        have hB3 : rdOb W3 X.length 0 = some ⟨[v, .i f.values], 0, true, 2⟩ := by rw [← hW3, rdOb_set_ne hne]; exact hpW2.rdOb hBW
        have hpH3 : Pre H W3 := by rw [← hW3]; exact (hW.trans hpW2).set hu _
        have hcl : (m || moreF ui (tusesF t)) = false → ∀ b ∈ f.blocks.take (i + 1), ClosedB us b := fun h => by
          rw [Bool.or_eq_false_iff] at h
          refine all_take hi (hc h.1).1.1 ?_
          rw [hb]
          exact ⟨by rw [ht, ← hR.no h.1]; exact moreF_no h.2, (hc h.1).2, (hc h.1).1.2⟩
        unfold vf166b2
        cases hmo : moreF ui (tusesF t) with
        | true =>
          rw [hmo, Bool.or_true] at hRn hcl
          simp [e1, e2, e5, e6, e7, e11, rdC_ob h7W, rdN_ob h7W, hpl, hcall, hW2, hua, hmo, hW3, up1 hi hbb]
          exact (hI _ _).2 ⟨_, true, hpH3, hU3, hRn, hcl, hB3, by simp [e1, e2]⟩
        | false =>
          rw [hmo, Bool.or_false] at hRn hcl
          simp [e1, e2, e5, e6, e7, e11, rdC_ob h7W, rdN_ob h7W, hpl, hcall, hW2, hua, hmo, hW3, up1 hi hbb]
          exact (hI _ _).2 ⟨_, m, hpH3, hU3, hRn, hcl, hB3, by simp [e1, e2, e5]⟩
  · rintro ⟨e, Z⟩ hIs
    obtain ⟨ui, m, hZ, hU, hR, hc, hBZ, e1, e2, e5, e6⟩ := (hI _ _).1 hIs
    simp only at hZ hU hBZ e1 e2 e5 e6 ⊢
    rw [List.take_length] at hc
    unfold vf166b3
    simp [e1, e2, e5, e6, rdC_ob hBZ, hvl]
    exact RoundRes.gc hp ho hZ hU hR hc
end Go.Proofs.YtgdfgnppeekfjaaGreat.Vm
end
