/- The order of the blocks, on the other side. No conditions. -/
import Derived.Test.YtnmnpfdjigpgaaaKs
namespace Go.Proofs.Ytnmnpfdjigpgaaa.Vm
open Go.RowKit (wrap64)
set_option linter.unusedSimpArgs false
set_option linter.unusedVariables false
theorem specOrderL {H : Hp} {v : CV} {bs : List BlkR} {m : Int} (hv : Blocks H v bs) (hin : InRange bs) (hb : bs.length ≤ BIG) (h0 : 0 < bs.length) (k : IV × Hp → Prop) :
    CM 98 [.agg [v, .i m]] H k = k (.c (.sl H.length 0 0 (ordF bs).length), H ++ [⟨(ordF bs).map .i, 0, true, 1⟩]) := by
  refine det (cw98 ?_) k
  unfold vf98c
  have hlim : bs.length ≤ LIM := by simp only [BIG] at hb; simp only [LIM]; omega
  simp [(hv.app _).lenOf, hv.lenOf, hlim, falses_flat]
  unfold vf98t0
  have hb1 : ∀ L, rdOb (H ++ ⟨[v, .i m], 0, true, 2⟩ :: L) H.length 0 = some ⟨[v, .i m], 0, true, 2⟩ := by intro L; simp
  simp [(hv.app _).lenOf, hv.lenOf, hlim, falses_flat]
  obtain ⟨k1, k2, k3⟩ := walk0_ok h0
  refine ⟨?_, ?_⟩
  · obtain ⟨X1, hX1⟩ : ∃ X1, H ++ [(⟨[v, .i m], 0, true, 2⟩ : Ob), ⟨List.replicate bs.length (.b false), 0, true, 1⟩, ⟨[], 0, true, 1⟩] = X1 := ⟨_, rfl⟩
    have hl1 : X1.length = H.length + 3 := by rw [← hX1]; simp
    have hp1 : Pre H X1 := ⟨_, hX1.symm⟩
    have hs1 : rdOb X1 (H.length + 1) 0 = some ⟨(List.replicate bs.length false).map .b, 0, true, 1⟩ := by rw [← hX1]; simp
    have ho1 : rdOb X1 (H.length + 2) 0 = some ⟨[], 0, true, 1⟩ := by rw [← hX1]; simp
    rw [hX1]
    have hw : ∀ id, IsOut (.sl (H.length + 2) 0 0 0) id → H.length ≤ id ∧ id ≠ H.length + 1 := fun id ⟨_, _, h⟩ => by cases h; omega
    have hwalk := specWalk (m := m) hv hin hb bs.length (X := X1) (s := H.length + 1) (gs := 0) (b := 0) (w := .sl (H.length + 2) 0 0 0) (seen := List.replicate bs.length false) (out := []) hp1 (by omega) hw hs1 (by simp) (.inr ⟨_, _, rfl, ho1⟩) h0 (getD_falses h0) (by rw [cf_falses]; exact Nat.le_refl _) (by rw [cf_falses]; simpa using hb)
    refine CM.mono hwalk ?_
    rintro _ ⟨w', X2, rfl, hW⟩
    have hout := hW.out
    have hown := hW.own
    have hpre := hW.pre
    change OutR X2 w' (walk0 bs).2 at hout
    rcases hout with ⟨_, h⟩ | ⟨o, g, rfl, ho⟩
    · rw [h] at k3; exact absurd k3 (by simp)
    · have hoo : H.length ≤ o := by
        rcases hown o ⟨g, _, rfl⟩ with ⟨_, _, h⟩ | h
        · cases h; omega
        · omega
      have hlt := rdOb_lt ho
      have hlen2 : (walk0 bs).2.length ≤ BIG := by omega
      have hw2 : -9223372036854775807 ≤ ((walk0 bs).2.length : Int) ∧ ((walk0 bs).2.length : Int) ≤ 9223372036854775807 := bigI hlen2
      generalize hxs : (walk0 bs).2 = xs at *
      have hrev : ordF bs = xs.reverse := by unfold ordF; rw [hxs]
      simp [wn1 hw2]
      obtain ⟨I, hI⟩ : ∃ I : Nat → St → Prop, ∀ i st, I i st ↔ (∃ g4, Pre X2 st.h ∧ rdOb st.h X2.length g4 = some ⟨(xs.reverse.take i).map .i, g4, true, 1⟩ ∧ Env.get st.e 3 = .c (.sl o g 0 xs.length) ∧ Env.get st.e 4 = .c (.sl X2.length g4 0 i) ∧ Env.get st.e 5 = .c (.i ((xs.length : Int) - 1 - i))) := ⟨_, fun _ _ => Iff.rfl⟩
      refine wp_for CM_mono xs.length I ((hI _ _).2 ⟨0, ⟨_, rfl⟩, by simp, by simp⟩) ?_ ?_
      · rintro i ⟨e, Y⟩ hi hIs
        obtain ⟨g4, hp, h4, e3, e4, e5⟩ := (hI _ _).1 hIs
        simp only at hp h4 e3 e4 e5 ⊢
        obtain ⟨j, hj, hj2⟩ : ∃ j : Nat, (xs.length : Int) - 1 - i = j ∧ j = xs.length - 1 - i := ⟨xs.length - 1 - i, by omega, rfl⟩
        rw [hj] at e5
        have hjn : j < xs.length := by omega
        have hwj : -9223372036854775807 ≤ (j : Int) ∧ (j : Int) ≤ 9223372036854775807 := by simp only [BIG] at hlen2; omega
        have hoY := hp.rdOb ho
        have hYl := rdOb_lt h4
        have htk : xs.reverse.take (i + 1) = xs.reverse.take i ++ [xs[j]] := by
          rw [List.take_succ_eq_append_getElem (by simpa using hi), List.getElem_reverse]
          congr 2
          subst hj2; rfl
        unfold vf98b0
        simp [e3, e4, e5, idxOf, hjn, rdC_ob hoY, srcOf, putAt]
        rw [app_own (cs := (xs.reverse.take i).map .i) (rdOb_app _ h4) (by simp; omega) (by simp) (by simp; simp only [BIG] at hlen2; simp only [LIM]; omega)]
        simp [e3, e4, e5, wn1 hwj]
        refine (hI _ _).2 ⟨g4 + 1, (hp.app _).set (Nat.le_refl _) _, ?_, by simp; omega⟩
        rw [rdOb_set_self (by simp; omega), htk]
        simp
      · rintro ⟨e, Y⟩ hIs
        obtain ⟨g4, hp, h4, e3, e4, e5⟩ := (hI _ _).1 hIs
        simp only at hp h4 e3 e4 e5 ⊢
        rw [List.take_of_length_le (by simp)] at h4
        unfold vf98b0
        simp [e3, e4, e5, show ¬ ((xs.length : Int) ≤ (xs.length : Int) - 1) by omega]
        rw [gcRet_row (hpre.trans hp) hpre.le h4 rfl (by simp [flatC])]
        simp [hrev]
  · obtain ⟨X1, hX1⟩ : ∃ X1, H ++ [(⟨[v, .i m], 0, true, 2⟩ : Ob), ⟨[], 0, true, 1⟩, ⟨List.replicate bs.length (.b false), 0, true, 1⟩] = X1 := ⟨_, rfl⟩
    have hl1 : X1.length = H.length + 3 := by rw [← hX1]; simp
    have hp1 : Pre H X1 := ⟨_, hX1.symm⟩
    have hs1 : rdOb X1 (H.length + 2) 0 = some ⟨(List.replicate bs.length false).map .b, 0, true, 1⟩ := by rw [← hX1]; simp
    have ho1 : rdOb X1 (H.length + 1) 0 = some ⟨[], 0, true, 1⟩ := by rw [← hX1]; simp
    rw [hX1]
    have hw : ∀ id, IsOut (.sl (H.length + 1) 0 0 0) id → H.length ≤ id ∧ id ≠ H.length + 2 := fun id ⟨_, _, h⟩ => by cases h; omega
    have hwalk := specWalk (m := m) hv hin hb bs.length (X := X1) (s := H.length + 2) (gs := 0) (b := 0) (w := .sl (H.length + 1) 0 0 0) (seen := List.replicate bs.length false) (out := []) hp1 (by omega) hw hs1 (by simp) (.inr ⟨_, _, rfl, ho1⟩) h0 (getD_falses h0) (by rw [cf_falses]; exact Nat.le_refl _) (by rw [cf_falses]; simpa using hb)
    refine CM.mono hwalk ?_
    rintro _ ⟨w', X2, rfl, hW⟩
    have hout := hW.out
    have hown := hW.own
    have hpre := hW.pre
    change OutR X2 w' (walk0 bs).2 at hout
    rcases hout with ⟨_, h⟩ | ⟨o, g, rfl, ho⟩
    · rw [h] at k3; exact absurd k3 (by simp)
    · have hoo : H.length ≤ o := by
        rcases hown o ⟨g, _, rfl⟩ with ⟨_, _, h⟩ | h
        · cases h; omega
        · omega
      have hlt := rdOb_lt ho
      have hlen2 : (walk0 bs).2.length ≤ BIG := by omega
      have hw2 : -9223372036854775807 ≤ ((walk0 bs).2.length : Int) ∧ ((walk0 bs).2.length : Int) ≤ 9223372036854775807 := bigI hlen2
      generalize hxs : (walk0 bs).2 = xs at *
      have hrev : ordF bs = xs.reverse := by unfold ordF; rw [hxs]
      simp [wn1 hw2]
      obtain ⟨I, hI⟩ : ∃ I : Nat → St → Prop, ∀ i st, I i st ↔ (∃ g4, Pre X2 st.h ∧ rdOb st.h X2.length g4 = some ⟨(xs.reverse.take i).map .i, g4, true, 1⟩ ∧ Env.get st.e 3 = .c (.sl o g 0 xs.length) ∧ Env.get st.e 4 = .c (.sl X2.length g4 0 i) ∧ Env.get st.e 5 = .c (.i ((xs.length : Int) - 1 - i))) := ⟨_, fun _ _ => Iff.rfl⟩
      refine wp_for CM_mono xs.length I ((hI _ _).2 ⟨0, ⟨_, rfl⟩, by simp, by simp⟩) ?_ ?_
      · rintro i ⟨e, Y⟩ hi hIs
        obtain ⟨g4, hp, h4, e3, e4, e5⟩ := (hI _ _).1 hIs
        simp only at hp h4 e3 e4 e5 ⊢
        obtain ⟨j, hj, hj2⟩ : ∃ j : Nat, (xs.length : Int) - 1 - i = j ∧ j = xs.length - 1 - i := ⟨xs.length - 1 - i, by omega, rfl⟩
        rw [hj] at e5
        have hjn : j < xs.length := by omega
        have hwj : -9223372036854775807 ≤ (j : Int) ∧ (j : Int) ≤ 9223372036854775807 := by simp only [BIG] at hlen2; omega
        have hoY := hp.rdOb ho
        have hYl := rdOb_lt h4
        have htk : xs.reverse.take (i + 1) = xs.reverse.take i ++ [xs[j]] := by
          rw [List.take_succ_eq_append_getElem (by simpa using hi), List.getElem_reverse]
          congr 2
          subst hj2; rfl
        unfold vf98b0
        simp [e3, e4, e5, idxOf, hjn, rdC_ob hoY, srcOf, putAt]
        rw [app_own (cs := (xs.reverse.take i).map .i) (rdOb_app _ h4) (by simp; omega) (by simp) (by simp; simp only [BIG] at hlen2; simp only [LIM]; omega)]
        simp [e3, e4, e5, wn1 hwj]
        refine (hI _ _).2 ⟨g4 + 1, (hp.app _).set (Nat.le_refl _) _, ?_, by simp; omega⟩
        rw [rdOb_set_self (by simp; omega), htk]
        simp
      · rintro ⟨e, Y⟩ hIs
        obtain ⟨g4, hp, h4, e3, e4, e5⟩ := (hI _ _).1 hIs
        simp only at hp h4 e3 e4 e5 ⊢
        rw [List.take_of_length_le (by simp)] at h4
        unfold vf98b0
        simp [e3, e4, e5, show ¬ ((xs.length : Int) ≤ (xs.length : Int) - 1) by omega]
        rw [gcRet_row (hpre.trans hp) hpre.le h4 rfl (by simp [flatC])]
        simp [hrev]

def order0 (f : FnR) : List Int := if shapeB f = true then ordF f.blocks else []
theorem specOrder0 {H : Hp} {v : CV} {f : FnR} (hv : Blocks H v f.blocks) (hb : f.blocks.length ≤ BIG) :
    ∃ w L, RowRes H w L (order0 f) ∧ ∀ k : IV × Hp → Prop, CM 43 [.agg [v, .i f.values]] H k = k (.c w, H ++ L) := by
  cases hsh : shapeB f with
  | false =>
    refine ⟨.sl H.length 0 0 0, [⟨[], 0, true, 1⟩], .inr ⟨by simp [order0, hsh], by simp [order0, hsh]⟩, fun k => det (cw43 ?_) k⟩
    unfold vf43c
    simp [specShape (hv.app _) hb, hsh]
    rw [gcRet_row ⟨[⟨[v, .i f.values], 0, true, 2⟩, ⟨[], 0, true, 1⟩], rfl⟩ (by simp) (o := ⟨[], 0, true, 1⟩) (by simp) rfl rfl]
  | true =>
    refine ⟨.sl H.length 0 0 (ordF f.blocks).length, [⟨(ordF f.blocks).map .i, 0, true, 1⟩], .inr ⟨by simp [order0, hsh], by simp [order0, hsh]⟩, fun k => det (cw43 ?_) k⟩
    unfold vf43c
    simp [specShape (hv.app _) hb, hsh, specOrderL (hv.app _) (shape_range hsh) hb (shape_pos hsh)]
    rw [gcRet_row ⟨[⟨[v, .i f.values], 0, true, 2⟩, ⟨(ordF f.blocks).map .i, 0, true, 1⟩], rfl⟩ (by simp) (o := ⟨(ordF f.blocks).map .i, 0, true, 1⟩) (by simp) rfl (by simp [flatC])]
theorem implOrder0 {H : Hp} {v : CV} {f : FnR} (hv : Blocks H v f.blocks) (hb : f.blocks.length ≤ BIG) :
    ∃ w L, RowRes H w L (order0 f) ∧ ∀ k : IV × Hp → Prop, CM 44 [.agg [v, .i f.values]] H k = k (.c w, H ++ L) := by
  cases hsh : shapeB f with
  | false =>
    refine ⟨.ns, [], .inl ⟨rfl, rfl, by simp [order0, hsh]⟩, fun k => det (cw44 ?_) k⟩
    unfold vf44c
    simp [implShape (hv.app _) hb, hsh]
  | true =>
    refine ⟨.sl H.length 0 0 (ordF f.blocks).length, [⟨(ordF f.blocks).map .i, 0, true, 1⟩], .inr ⟨by simp [order0, hsh], by simp [order0, hsh]⟩, fun k => det (cw44 ?_) k⟩
    unfold vf44c
    simp [implShape (hv.app _) hb, hsh]
    refine (implOrder (hv.app _) (shape_range hsh) hb (shape_pos hsh)).mono ?_
    rintro _ ⟨o, g, s, gs, X', rfl, hp, h1, h2, h3, h4⟩
    simp
    have hpp : Pre H X' := Pre.trans ⟨_, rfl⟩ hp
    simp at h1
    rw [gcRet_row hpp (by omega) h3 rfl (by simp [flatC])]
theorem order0_le {f : FnR} (hb : f.blocks.length ≤ BIG) : (order0 f).length ≤ BIG := by
  unfold order0
  split
  · rename_i h
    have := ordF_le (shape_pos h)
    omega
  · simp
end Go.Proofs.Ytnmnpfdjigpgaaa.Vm
