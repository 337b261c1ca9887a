import Derived.Test.YtgdfgnppeekfjaaGreatQcs
section
/- One block's round of what is used: the program's side, the walk. No conditions. -/
namespace Go.Proofs.YtgdfgnppeekfjaaGreat.Vm
open Go.RowKit (wrap64)
set_option linter.unusedSimpArgs false
set_option linter.unusedVariables false
def BlkRes (H : Hp) (bs : List BlkR) (uid : Nat) (us : List Bool) (b : BlkR) (r : IV × Hp) : Prop :=
  ∃ us' m Y, r = (.c (.b m), Y) ∧ Pre H Y ∧ rdOb Y uid 0 = some (UsOb us') ∧ Rnd bs us us' m ∧ (m = false → ClosedB us b)
theorem BlkRes.gc {H X Y : Hp} {bs : List BlkR} {uid : Nat} {us us' : List Bool} {b : BlkR} {m : Bool} (hX : Pre H X) (ho : rdOb X uid 0 = some (UsOb us)) (hY : Pre H Y) (hU : rdOb Y uid 0 = some (UsOb us'))
    (hR : Rnd bs us us' m) (hc : m = false → ClosedB us b) : BlkRes H bs uid us b (gcRet X (.c (.b m)) Y) := by
  unfold gcRet
  split
  · rename_i h
    have hp : Pre X Y := ⟨Y.drop X.length, by have := List.take_append_drop X.length Y; rw [h] at this; exact this.symm⟩
    have := hp.rdOb ho
    rw [hU] at this
    refine ⟨us', m, X, ?_, hX, by rw [ho, ← this], hR, hc⟩
    rw [if_pos (show flatV (.c (.b m)) = true from rfl)]
  · exact ⟨us', m, Y, rfl, hY, hU, hR, hc⟩
def TermOk (us : List Bool) (b : BlkR) : Prop := ∀ v ∈ tusesF b.term, Us us v
def PhiOk (us : List Bool) (p : PhiR) : Prop := Us us p.d → ∀ a ∈ p.arms, Us us a.v
def InsOk (us : List Bool) (x : InsR) : Prop := (keepsF x.op = true ∨ (0 ≤ insDefF x ∧ Us us (insDefF x))) → ∀ v ∈ usesF x, Us us v
theorem one_row {X : Hp} {id : Nat} {x : Int} (h : rdOb X id 0 = some ⟨[.i x], 0, true, 1⟩) : IsI X (.sl id 0 0 1) [x] := IsI.mk (xs := [x]) (off := 0) h rfl (by simp) (by simp)
theorem all_take {α : Type} {P : α → Prop} {xs : List α} {i : Nat} (hi : i < xs.length) (h : ∀ x ∈ xs.take i, P x) (hx : P xs[i]) : ∀ x ∈ xs.take (i + 1), P x := by
  intro x h1
  rw [List.take_succ_eq_append_getElem hi] at h1
  rcases List.mem_append.1 h1 with h2 | h2
  · exact h x h2
  · simp at h2; rw [h2]; exact hx
set_option maxRecDepth 100000 in
theorem useBlock_call {H X : Hp} {f : FnR} (hsh : shapeB f = true) {b : BlkR} (hb : b ∈ f.blocks) {w u : CV} (qp : Phis H w b.phis) (ql : List5 H u b.list) (qpl : b.phis.length ≤ BIG) (qll : b.list.length ≤ BIG) (hp : Pre H X) {uid : Nat} (hu : H.length ≤ uid) {us : List Bool}
    (ho : rdOb X uid 0 = some (UsOb us)) (hl : us.length = f.values.toNat) (hs : ∀ j : Nat, us.getD j false = true → UsedP f.blocks j) {t : TrmR} (ht : b.term = t) :
    CM 108 [.c (.sl uid 0 0 us.length), .agg [w, u, .i t.kind, .i t.a, .i t.to, .i t.els]] X (BlkRes H f.blocks uid us b) := by
  refine cw108 ?_
  unfold vf108c
  have hlt := rdOb_lt ho
  obtain ⟨X1, hX1⟩ : ∃ X1, X ++ [(⟨[w, u, .i t.kind, .i t.a, .i t.to, .i t.els], 0, true, 6⟩ : Ob)] = X1 := ⟨_, rfl⟩
  have hp1 : Pre X X1 := ⟨_, hX1.symm⟩
  have hB1 : rdOb X1 X.length 0 = some ⟨[w, u, .i t.kind, .i t.a, .i t.to, .i t.els], 0, true, 6⟩ := by rw [← hX1]; simp
  obtain ⟨tw, L, hw, hcall⟩ := implTUses X1 t
  obtain ⟨X2, hX2⟩ : ∃ X2, X1 ++ L = X2 := ⟨_, rfl⟩
  have hp2 : Pre X1 X2 := ⟨_, hX2.symm⟩
  have hwI := hw.isI
  rw [hX2] at hwI
  have ho2 := (hp1.trans hp2).rdOb ho
  have hv2 := tuses_vals hsh hb
  rw [ht] at hv2
  have hu2 := fun k => implUseAll ho2 hwI (by rw [hl]; exact hv2) (Nat.le_trans (tusesF_le t) (by simp [BIG])) k
  have hpl := qp.lenOf
  have hll := ql.lenOf
  have hne : X.length ≠ uid := by omega
  have hR0 : Rnd f.blocks us (markAll us (tusesF t)) (false || moreF us (tusesF t)) := (Rnd.refl hs).mark (by rw [hl]; exact hv2) (fun v hv => .term hb (by rw [ht]; exact hv))
  rw [Bool.false_or] at hR0
  have hT0 : moreF us (tusesF t) = false → TermOk us b := fun h => by unfold TermOk; rw [ht]; exact moreF_no h
  obtain ⟨X3, hX3⟩ : ∃ X3, X2.set uid (UsOb (markAll us (tusesF t))) = X3 := ⟨_, rfl⟩
  have hU3 : rdOb X3 uid 0 = some (UsOb (markAll us (tusesF t))) := by rw [← hX3, rdOb_set_self (rdOb_lt ho2)]; simp [UsOb]
  have hB3 : rdOb X3 X.length 0 = some ⟨[w, u, .i t.kind, .i t.a, .i t.to, .i t.els], 0, true, 6⟩ := by rw [← hX3, rdOb_set_ne hne]; exact hp2.rdOb hB1
  have hp3 : Pre H X3 := by rw [← hX3]; exact ((hp.trans hp1).trans hp2).set hu _
  obtain ⟨m0, hm0⟩ : ∃ m0, moreF us (tusesF t) = m0 := ⟨_, rfl⟩
  rw [hm0] at hR0 hT0
  simp [hX1, rdN_ob hB1, hcall, hX2, hu2, hm0, hX3, rdC_ob hB3, hpl]
  obtain ⟨I, hI⟩ : ∃ I : Nat → St → Prop, ∀ j st, I j st ↔ (∃ ui m, Pre H st.h ∧ rdOb st.h uid 0 = some (UsOb ui) ∧ Rnd f.blocks us ui m ∧ (m = false → TermOk us b ∧ ∀ p ∈ b.phis.take j, PhiOk us p) ∧
      rdOb st.h X.length 0 = some ⟨[w, u, .i t.kind, .i t.a, .i t.to, .i t.els], 0, true, 6⟩ ∧ Env.get st.e 0 = .c (.sl uid 0 0 us.length) ∧ Env.get st.e 3 = .c (.p X.length 0 0) ∧ Env.get st.e 5 = .c (.b m) ∧ Env.get st.e 19 = .c w ∧ Env.get st.e 20 = .c (.i b.phis.length) ∧ Env.get st.e 21 = .c (.i j)) := ⟨_, fun _ _ => Iff.rfl⟩
  refine wp_for CM_mono b.phis.length I ((hI _ _).2 ⟨_, m0, hp3, hU3, hR0, fun h => ⟨hT0 h, by simp⟩, hB3, by simp⟩) ?_ ?_
  · rintro j ⟨e, Z⟩ hj hIs
    obtain ⟨ui, m, hZ, hU, hR, hc, hBZ, e0, e3, e5, e19, e20, e21⟩ := (hI _ _).1 hIs
    simp only at hZ hU hBZ e0 e3 e5 e19 e20 e21 ⊢
    obtain ⟨id2, g2, off2, w2, r1, _, r2, qa, _⟩ := Phis.get qp hj
    obtain ⟨GZ, hGZ⟩ := id hZ
    have r2' := r2 GZ
    rw [← hGZ] at r2'
    obtain ⟨ph, hph⟩ : ∃ ph, b.phis[j] = ph := ⟨_, rfl⟩
    have hmem : ph ∈ b.phis := hph ▸ List.getElem_mem hj
    have hphB := shape_phi hsh hb hmem
    rw [hph] at r2' qa
    obtain ⟨hvd, hal, harm⟩ := phi_vals hphB
    obtain ⟨kd, hkd, hkn⟩ := val_nat hvd
    have hul : ui.length = us.length := hR.len
    obtain ⟨Z1, hZ1⟩ : ∃ Z1, Z ++ [(⟨[.i ph.d, w2], 0, true, 2⟩ : Ob)] = Z1 := ⟨_, rfl⟩
    have hpZ1 : Pre Z Z1 := ⟨_, hZ1.symm⟩
    have h7 : rdOb Z1 Z.length 0 = some ⟨[.i ph.d, w2], 0, true, 2⟩ := by rw [← hZ1]; simp
    have hU1 := hpZ1.rdOb hU
    have hrd := rdU hU1 (k := kd) (by omega)
    have hix : idxOf 1 (.sl uid 0 0 us.length) ph.d = some (.p uid 0 kd) := by rw [hkd]; exact idx1 (by omega)
    have hall := qa.lenOf
    have hnext : ∀ ui' m' (Y : Hp) (e' : Env), Pre H Y → rdOb Y uid 0 = some (UsOb ui') → Rnd f.blocks us ui' m' → (m' = false → TermOk us b ∧ ∀ p ∈ b.phis.take (j + 1), PhiOk us p) → rdOb Y X.length 0 = some ⟨[w, u, .i t.kind, .i t.a, .i t.to, .i t.els], 0, true, 6⟩ →
        Env.get e' 0 = .c (.sl uid 0 0 us.length) ∧ Env.get e' 3 = .c (.p X.length 0 0) ∧ Env.get e' 5 = .c (.b m') ∧ Env.get e' 19 = .c w ∧ Env.get e' 20 = .c (.i b.phis.length) ∧ Env.get e' 21 = .c (.i (j + 1 : Nat)) → I (j + 1) ⟨e', Y⟩ :=
      fun ui' m' Y e' h1 h2 h3 h4 h5 h6 => (hI _ _).2 ⟨ui', m', h1, h2, h3, h4, h5, h6⟩
    unfold vf108b1
    cases hm : ui.getD kd false with
    | false =>
      rw [hm] at hrd
      simp [e0, e3, e5, e19, e20, e21, hj, r1, r2'.2.2, putD0, hZ1, rdC_ob h7, hix, hrd, up1 hj qpl]
      refine hnext ui m _ _ (hZ.trans hpZ1) hU1 hR (fun hf => ⟨(hc hf).1, all_take hj (hc hf).2 ?_⟩) (hpZ1.rdOb hBZ) (by simp [e0, e3, e5, e19, e20])
      rw [hph]
      intro hd
      unfold Us at hd
      rw [hkd, Int.toNat_natCast, ← hR.no hf, hm] at hd
      cases hd
    | true =>
      rw [hm] at hrd
      have hud : UsedP f.blocks ph.d := by rw [hkd]; exact hR.snd kd hm
      simp [e0, e3, e5, e19, e20, e21, hj, r1, r2'.2.2, putD0, hZ1, rdC_ob h7, hix, hrd, hall]
      obtain ⟨K, hK⟩ : ∃ K : Nat → St → Prop, ∀ k st, K k st ↔ (∃ uk mk, Pre H st.h ∧ rdOb st.h uid 0 = some (UsOb uk) ∧ Rnd f.blocks us uk mk ∧ (mk = false → (TermOk us b ∧ ∀ p ∈ b.phis.take j, PhiOk us p) ∧ ∀ a ∈ ph.arms.take k, Us us a.v) ∧
          rdOb st.h X.length 0 = some ⟨[w, u, .i t.kind, .i t.a, .i t.to, .i t.els], 0, true, 6⟩ ∧ Env.get st.e 0 = .c (.sl uid 0 0 us.length) ∧ Env.get st.e 3 = .c (.p X.length 0 0) ∧ Env.get st.e 5 = .c (.b mk) ∧ Env.get st.e 19 = .c w ∧ Env.get st.e 20 = .c (.i b.phis.length) ∧ Env.get st.e 21 = .c (.i j) ∧
          Env.get st.e 32 = .c w2 ∧ Env.get st.e 33 = .c (.i ph.arms.length) ∧ Env.get st.e 34 = .c (.i k)) := ⟨_, fun _ _ => Iff.rfl⟩
      refine wp_for CM_mono ph.arms.length K ((hK _ _).2 ⟨ui, m, hZ.trans hpZ1, hU1, hR, fun hf => ⟨hc hf, by simp⟩, hpZ1.rdOb hBZ, by simp [e0, e3, e5, e19, e20, e21]⟩) ?_ ?_
      · rintro k ⟨e2, W⟩ hk hKs
        obtain ⟨uk, mk, hW, hUW, hRk, hck, hBW, e0, e3, e5, e19, e20, e21, e32, e33, e34⟩ := (hK _ _).1 hKs
        simp only at hW hUW hBW e0 e3 e5 e19 e20 e21 e32 e33 e34 ⊢
        obtain ⟨id3, g3, off3, m1, ⟨m2, m3, m4⟩, m5, m6, m7⟩ := Arms.get (qa.pre hW) hk
        obtain ⟨a, ha⟩ : ∃ a, ph.arms[k] = a := ⟨_, rfl⟩
        have hamem : a ∈ ph.arms := ha ▸ List.getElem_mem hk
        have hav := (harm k hk).2
        rw [ha] at m2 m3 m4 hav
        obtain ⟨W1, hW1⟩ : ∃ W1, W ++ [(⟨[.i a.fr, .i a.v], 0, true, 2⟩ : Ob)] = W1 := ⟨_, rfl⟩
        have hpW1 : Pre W W1 := ⟨_, hW1.symm⟩
        have h9 : rdOb W1 W.length 0 = some ⟨[.i a.fr, .i a.v], 0, true, 2⟩ := by rw [← hW1]; simp
        obtain ⟨W2, hW2⟩ : ∃ W2, W1 ++ [(⟨[.i a.v], 0, true, 1⟩ : Ob)] = W2 := ⟨_, rfl⟩
        have hpW2 : Pre W1 W2 := ⟨_, hW2.symm⟩
        have hrow : IsI W2 (.sl W1.length 0 0 1) [a.v] := one_row (by rw [← hW2]; simp)
        have hU2 := (hpW1.trans hpW2).rdOb hUW
        have hukl : uk.length = us.length := hRk.len
        have hvals : Vals uk.length [a.v] := fun v hv => by
          simp at hv; subst hv
          obtain ⟨c, h1, h2⟩ := val_nat hav
          exact ⟨c, h1, by omega⟩
        have hua := fun k => implUseAll hU2 hrow hvals (by simp [BIG]) k
        rw [hukl] at hua
        have hRn := hRk.mark (vs := [a.v]) (by rw [← hukl]; exact hvals) (fun v hv => by simp at hv; rw [hv]; exact .phi hb hmem hud hamem)
        obtain ⟨W3, hW3⟩ : ∃ W3, W2.set uid (UsOb (markAll uk [a.v])) = W3 := ⟨_, rfl⟩
        have hU3 : rdOb W3 uid 0 = some (UsOb (markAll uk [a.v])) := by rw [← hW3, rdOb_set_self (rdOb_lt hU2)]; simp [UsOb]
        have hB3 : rdOb W3 X.length 0 = some ⟨[w, u, .i t.kind, .i t.a, .i t.to, .i t.els], 0, true, 6⟩ := by rw [← hW3, rdOb_set_ne hne]; exact (hpW1.trans hpW2).rdOb hBW
        have hpH3 : Pre H W3 := by rw [← hW3]; exact ((hW.trans hpW1).trans hpW2).set hu _
        have hcl : moreF uk [a.v] = false → mk = false → (TermOk us b ∧ ∀ p ∈ b.phis.take j, PhiOk us p) ∧ ∀ a ∈ ph.arms.take (k + 1), Us us a.v := fun h1 h2 => by
          refine ⟨(hck h2).1, all_take (P := fun a : ArmR => Us us a.v) hk (hck h2).2 ?_⟩
          rw [ha, ← hRk.no h2]; exact moreF_no h1 _ (by simp)
        unfold vf108b0
        cases hmo : moreF uk [a.v] with
        | true =>
          rw [hmo, Bool.or_true] at hRn
          simp [e0, e3, e5, e19, e20, e21, e32, e33, e34, hk, m1, m4, putD0, putL0, hW1, rdC_ob h9, hW2, hua, hmo, hW3, up1 hk (show ph.arms.length ≤ BIG by simp only [BIG]; omega)]
          exact (hK _ _).2 ⟨_, true, hpH3, hU3, hRn, (fun h => by cases h), hB3, by simp [e0, e3, e19, e20, e21, e32, e33]⟩
        | false =>
          rw [hmo, Bool.or_false] at hRn
          simp [e0, e3, e5, e19, e20, e21, e32, e33, e34, hk, m1, m4, putD0, putL0, hW1, rdC_ob h9, hW2, hua, hmo, hW3, up1 hk (show ph.arms.length ≤ BIG by simp only [BIG]; omega)]
          exact (hK _ _).2 ⟨_, mk, hpH3, hU3, hRn, hcl hmo, hB3, by simp [e0, e3, e5, e19, e20, e21, e32, e33]⟩
      · rintro ⟨e2, W⟩ hKs
        obtain ⟨uk, mk, hW, hUW, hRk, hck, hBW, e0, e3, e5, e19, e20, e21, e32, e33, e34⟩ := (hK _ _).1 hKs
        simp only at hW hUW hBW e0 e3 e5 e19 e20 e21 e32 e33 e34 ⊢
        rw [List.take_length] at hck
        unfold vf108b0
        simp [e0, e3, e5, e19, e20, e21, e32, e33, e34, up1 hj qpl]
        exact hnext uk mk _ _ hW hUW hRk (fun hf => ⟨(hck hf).1.1, all_take hj (hck hf).1.2 (by rw [hph]; exact fun _ => (hck hf).2)⟩) hBW (by simp [e0, e3, e5, e19, e20])
  · rintro ⟨e, Z⟩ hIs
    obtain ⟨ui, m, hZ, hU, hR, hc, hBZ, e0, e3, e5, e19, e20, e21⟩ := (hI _ _).1 hIs
    simp only at hZ hU hBZ e0 e3 e5 e19 e20 e21 ⊢
    rw [List.take_length] at hc
    unfold vf108b1
    simp [e0, e3, e5, e19, e20, e21, rdC_ob hBZ, hll]
    obtain ⟨J, hJ⟩ : ∃ J : Nat → St → Prop, ∀ j st, J j st ↔ (∃ ui m, Pre H st.h ∧ rdOb st.h uid 0 = some (UsOb ui) ∧ Rnd f.blocks us ui m ∧ (m = false → (TermOk us b ∧ ∀ p ∈ b.phis, PhiOk us p) ∧ ∀ x ∈ b.list.take j, InsOk us x) ∧
        Env.get st.e 0 = .c (.sl uid 0 0 us.length) ∧ Env.get st.e 5 = .c (.b m) ∧ Env.get st.e 46 = .c u ∧ Env.get st.e 47 = .c (.i b.list.length) ∧ Env.get st.e 48 = .c (.i j)) := ⟨_, fun _ _ => Iff.rfl⟩
    refine wp_for CM_mono b.list.length J ((hJ _ _).2 ⟨ui, m, hZ, hU, hR, fun h => ⟨hc h, by simp⟩, by simp [e0, e5]⟩) ?_ ?_
    · rintro j ⟨e', W⟩ hj hJs
      obtain ⟨ui, m, hW, hUW, hR, hc, e0, e5, e46, e47, e48⟩ := (hJ _ _).1 hJs
      simp only at hW hUW e0 e5 e46 e47 e48 ⊢
      obtain ⟨id2, g2, off2, r1, _, r2, _⟩ := List5.get ql hj
      obtain ⟨GW, hGW⟩ := id hW
      have r2' := r2 GW
      rw [← hGW] at r2'
      obtain ⟨x, hx⟩ : ∃ x, b.list[j] = x := ⟨_, rfl⟩
      have hmem : x ∈ b.list := hx ▸ List.getElem_mem hj
      have hxB := shape_ins hsh hb hmem
      rw [hx] at r2'
      have hul : ui.length = us.length := hR.len
      obtain ⟨W1, hW1⟩ : ∃ W1, W ++ [(⟨[.i x.op, .i x.d, .i x.a, .i x.b, .i x.n], 0, true, 5⟩ : Ob)] = W1 := ⟨_, rfl⟩
      have hpW1 : Pre W W1 := ⟨_, hW1.symm⟩
      have h11 : rdOb W1 W.length 0 = some ⟨[.i x.op, .i x.d, .i x.a, .i x.b, .i x.n], 0, true, 5⟩ := by rw [← hW1]; simp
      have hU1 := hpW1.rdOb hUW
      obtain ⟨uw, L, hw, hcall⟩ := implUses W1 x
      obtain ⟨W2, hW2⟩ : ∃ W2, W1 ++ L = W2 := ⟨_, rfl⟩
      have hwI := hw.isI
      have hpW2 : Pre W1 W2 := ⟨_, hW2.symm⟩
      rw [hW2] at hwI
      have hU2 := hpW2.rdOb hU1
      have hvx := uses_vals hsh hb hmem
      have hua := fun k => implUseAll hU2 hwI (by rw [hul, hl]; exact hvx) (Nat.le_trans (usesF_le x) (by simp [BIG])) k
      rw [hul] at hua
      obtain ⟨W3, hW3⟩ : ∃ W3, W2.set uid (UsOb (markAll ui (usesF x))) = W3 := ⟨_, rfl⟩
      have hU3 : rdOb W3 uid 0 = some (UsOb (markAll ui (usesF x))) := by rw [← hW3, rdOb_set_self (rdOb_lt hU2)]; simp [UsOb]
      have hpH3 : Pre H W3 := by rw [← hW3]; exact ((hW.trans hpW1).trans hpW2).set hu _
      have hgo : (keepsF x.op = true ∨ (0 ≤ insDefF x ∧ Us ui (insDefF x))) → Rnd f.blocks us (markAll ui (usesF x)) (m || moreF ui (usesF x)) := fun hk => hR.mark (by rw [hl]; exact hvx) (fun v hv => by
        rcases hk with hk | ⟨hd, hk⟩
        · exact .stay hb hmem hk hv
        · refine .make hb hmem hd ?_ hv
          obtain ⟨k, h1, _⟩ := ins_def hxB hd
          unfold Us at hk
          rw [h1, Int.toNat_natCast] at hk
          rw [h1]; exact hR.snd k hk)
      have hcl : moreF ui (usesF x) = false → m = false → (TermOk us b ∧ ∀ p ∈ b.phis, PhiOk us p) ∧ ∀ x ∈ b.list.take (j + 1), InsOk us x := fun h1 h2 => by
        refine ⟨(hc h2).1, all_take hj (hc h2).2 ?_⟩
        rw [hx, ← hR.no h2]; exact fun _ => moreF_no h1
      have hskip : ¬ (keepsF x.op = true ∨ (0 ≤ insDefF x ∧ Us ui (insDefF x))) → m = false → (TermOk us b ∧ ∀ p ∈ b.phis, PhiOk us p) ∧ ∀ x ∈ b.list.take (j + 1), InsOk us x := fun h1 h2 => by
        refine ⟨(hc h2).1, all_take hj (hc h2).2 ?_⟩
        rw [hx, ← hR.no h2]; exact fun hk => absurd hk h1
      have hfin : ∀ (e'' : Env), (keepsF x.op = true ∨ (0 ≤ insDefF x ∧ Us ui (insDefF x))) → (Env.get e'' 0 = .c (.sl uid 0 0 us.length) ∧ Env.get e'' 5 = .c (.b (m || moreF ui (usesF x))) ∧ Env.get e'' 46 = .c u ∧ Env.get e'' 47 = .c (.i b.list.length) ∧ Env.get e'' 48 = .c (.i (j + 1 : Nat))) → J (j + 1) ⟨e'', W3⟩ := fun e'' hk he => (hJ _ _).2 ⟨_, _, hpH3, hU3, hgo hk, fun hf => by
          rw [Bool.or_eq_false_iff] at hf; exact hcl hf.2 hf.1, he⟩
      unfold vf108b2
      cases hkp : keepsF x.op with
      | true =>
        cases hmo : moreF ui (usesF x) <;>
        · simp [e0, e5, e46, e47, e48, hj, r1, r2'.2.2.2.2.2, put5, hW1, rdN_ob h11, rdC_ob h11, implInsDef, keeps_call, hkp, hcall, hW2, hua, hmo, hW3, up1 hj qll]
          exact hfin _ (.inl hkp) (by rw [hmo]; simp [e0, e5, e46, e47])
      | false =>
        by_cases hd : 0 ≤ insDefF x
        · obtain ⟨k, hk1, hk2⟩ := ins_def hxB hd
          have hrd := rdU hU1 (k := k) (by omega)
          have hix : idxOf 1 (.sl uid 0 0 us.length) (k : Int) = some (.p uid 0 k) := idx1 (by omega)
          cases hb0 : ui.getD k false with
          | true =>
            rw [hb0] at hrd
            have hus : Us ui (insDefF x) := by unfold Us; rw [hk1, Int.toNat_natCast]; exact hb0
            cases hmo : moreF ui (usesF x) <;>
            · simp [e0, e5, e46, e47, e48, hj, r1, r2'.2.2.2.2.2, put5, hW1, rdN_ob h11, rdC_ob h11, implInsDef, keeps_call, hkp, hk1, hix, hrd, hcall, hW2, hua, hmo, hW3, up1 hj qll]
              exact hfin _ (.inr ⟨hd, hus⟩) (by rw [hmo]; simp [e0, e5, e46, e47])
          | false =>
            rw [hb0] at hrd
            have hno : ¬ (keepsF x.op = true ∨ (0 ≤ insDefF x ∧ Us ui (insDefF x))) := fun h => by
              rcases h with h | ⟨_, h⟩
              · rw [hkp] at h; cases h
              · unfold Us at h; rw [hk1, Int.toNat_natCast, hb0] at h; cases h
            simp [e0, e5, e46, e47, e48, hj, r1, r2'.2.2.2.2.2, put5, hW1, rdN_ob h11, rdC_ob h11, implInsDef, keeps_call, hkp, hk1, hix, hrd, up1 hj qll]
            exact (hJ _ _).2 ⟨ui, m, hW.trans hpW1, hU1, hR, hskip hno, by simp [e0, e5, e46, e47]⟩
        · have hno : ¬ (keepsF x.op = true ∨ (0 ≤ insDefF x ∧ Us ui (insDefF x))) := fun h => by
            rcases h with h | ⟨h, _⟩
            · rw [hkp] at h; cases h
            · exact hd h
          simp [e0, e5, e46, e47, e48, hj, r1, r2'.2.2.2.2.2, put5, hW1, rdN_ob h11, rdC_ob h11, implInsDef, keeps_call, hkp, hd, up1 hj qll]
          exact (hJ _ _).2 ⟨ui, m, hW.trans hpW1, hU1, hR, hskip hno, by simp [e0, e5, e46, e47]⟩
    · rintro ⟨e', W⟩ hJs
      obtain ⟨ui, m, hW, hUW, hR, hc, e0, e5, e46, e47, e48⟩ := (hJ _ _).1 hJs
      simp only at hW hUW e0 e5 e46 e47 e48 ⊢
      rw [List.take_length] at hc
      unfold vf108b2
      simp [e0, e5, e46, e47, e48]
      exact BlkRes.gc hp ho hW hUW hR fun hf => ⟨(hc hf).1.1, (hc hf).1.2, (hc hf).2⟩
end Go.Proofs.YtgdfgnppeekfjaaGreat.Vm
end
