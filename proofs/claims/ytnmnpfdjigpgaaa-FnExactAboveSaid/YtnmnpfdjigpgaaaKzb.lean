/- Who stands on every way to whom: the other side; the law's two sides. No conditions. -/
import Derived.Test.YtnmnpfdjigpgaaaKza
namespace Go.Proofs.Ytnmnpfdjigpgaaa.Vm
open Go.RowKit (wrap64)
set_option linter.unusedSimpArgs false
set_option linter.unusedVariables false

def KeepK (d s : Nat) (X Z : Hp) : Prop := ∀ id g ob, (id < d ∨ id = s) → rdOb X id g = some ob → rdOb Z id g = some ob
theorem KeepK.pre {H X Z : Hp} {d s : Nat} (h : KeepK d s X Z) (hp : Pre H X) (hl : H.length ≤ d) : Pre H Z := Low.pre (lo := d) (fun id g o hl ho => h id g o (.inl hl) ho) hp hl
theorem specDoms {H : Hp} {v : CV} {bs : List BlkR} {m : Int} (hv : Blocks H v bs) (hin : InRange bs) (hb : bs.length ≤ BIG) (h0 : 0 < bs.length) : CM 90 [.agg [v, .i m]] H (DomsRes H bs) := by
  refine cw90 ?_
  unfold vf90c
  have hlim : bs.length ≤ LIM := by simp only [BIG] at hb; simp only [LIM]; omega
  obtain ⟨X0, hX0⟩ : ∃ X0, H ++ [(⟨[v, .i m], 0, true, 2⟩ : Ob), ⟨List.replicate bs.length .ns, 0, true, 1⟩, ⟨List.replicate bs.length (.b false), 0, true, 1⟩, ⟨[], 0, true, 1⟩] = X0 := ⟨_, rfl⟩
  have hl0 : X0.length = H.length + 4 := by rw [← hX0]; simp
  have hp0 : Pre H X0 := ⟨_, hX0.symm⟩
  have hbox0 : rdOb X0 H.length 0 = some ⟨[v, .i m], 0, true, 2⟩ := by rw [← hX0]; simp
  have hd0 : rdOb X0 (H.length + 1) 0 = some ⟨List.replicate bs.length .ns, 0, true, 1⟩ := by rw [← hX0]; simp
  have hs0 : rdOb X0 (H.length + 2) 0 = some ⟨(List.replicate bs.length false).map .b, 0, true, 1⟩ := by rw [← hX0]; simp
  have ho0 : rdOb X0 (H.length + 3) 0 = some ⟨[], 0, true, 1⟩ := by rw [← hX0]; simp
  simp [(hv.app _).lenOf, hv.lenOf, hlim, ns_flat, falses_flat, hX0]
  have hw : ∀ id, IsOut (.sl (H.length + 3) 0 0 0) id → H.length ≤ id ∧ id ≠ H.length + 2 := fun id ⟨_, _, h⟩ => by cases h; omega
  have hwalk := specWalk (m := m) hv hin hb bs.length (X := X0) (s := H.length + 2) (gs := 0) (b := 0) (w := .sl (H.length + 3) 0 0 0) (seen := List.replicate bs.length false) (out := []) hp0 (by omega) hw hs0 (by simp) (.inr ⟨_, _, rfl, ho0⟩) h0 (getD_falses h0) (by rw [cf_falses]; exact Nat.le_refl _) (by rw [cf_falses]; simpa using hb)
  refine CM.mono hwalk ?_
  rintro _ ⟨w', X1, rfl, hW⟩
  have hseen := hW.seen
  change rdOb X1 (H.length + 2) 0 = some ⟨(seenF bs).map .b, 0, true, 1⟩ at hseen
  have hpH : Pre H X1 := hW.pre
  have hno : ∀ id, id ≠ H.length + 3 → ¬ IsOut (.sl (H.length + 3) 0 0 0) id := fun id hne ⟨_, _, h⟩ => by cases h; exact hne rfl
  have hbox : rdOb X1 H.length 0 = some ⟨[v, .i m], 0, true, 2⟩ := hW.keep _ _ _ (by omega) (hno _ (by omega)) hbox0
  have hdX : rdOb X1 (H.length + 1) 0 = some ⟨List.replicate bs.length .ns, 0, true, 1⟩ := hW.keep _ _ _ (by omega) (hno _ (by omega)) hd0
  have hlX := hW.len
  have hv1 : Blocks X1 v bs := hv.pre hpH
  have hsl : (seenF bs).length = bs.length := (walk0_ok h0).1
  obtain ⟨d, hd⟩ : ∃ d, d = H.length + 1 := ⟨_, rfl⟩
  obtain ⟨s, hs⟩ : ∃ s, s = H.length + 2 := ⟨_, rfl⟩
  rw [← hs] at hseen
  rw [← hd] at hdX
  have hst : DInv (fun id => id < d ∨ id = s) d bs.length (fun _ => []) X1 := by
    refine ⟨fun id hi => ⟨by omega, by omega⟩, List.replicate bs.length .ns, hdX, by simp, fun b hb => ⟨.ns, by simp [hb], .inl ⟨rfl, rfl⟩, (fun id ⟨_, _, h⟩ => by cases h), fun b' c' _ _ _ id ⟨_, _, h⟩ => by cases h⟩⟩
  obtain ⟨I, hI⟩ : ∃ I : Nat → St → Prop, ∀ i st, I i st ↔ (DInv (fun id => id < d ∨ id = s) d bs.length (domTo bs i) st.h ∧ KeepK d s X1 st.h ∧ Env.get st.e 1 = .c (.p H.length 0 0) ∧ Env.get st.e 3 = .c (.sl d 0 0 bs.length) ∧ Env.get st.e 4 = .c (.sl s 0 0 bs.length) ∧ Env.get st.e 5 = .c (.i i)) := ⟨_, fun _ _ => Iff.rfl⟩
  simp [← hd, ← hs]
  refine wp_for CM_mono bs.length I ((hI _ _).2 ⟨hst.congr fun b _ => by simp [domTo], fun _ _ _ _ h => h, by simp⟩) ?_ ?_
  · rintro i ⟨e, Y⟩ hi hIs
    obtain ⟨hD, hL, h1, h3, h4, h5⟩ := (hI _ _).1 hIs
    simp only at hD hL h1 h3 h4 h5 ⊢
    have hboxY := hL _ _ _ (.inl (by omega)) hbox
    have hvY : Blocks Y v bs := hv.pre (hL.pre hpH (by omega))
    obtain ⟨Y1, hY1⟩ : ∃ Y1, Y ++ [(⟨(withoutF bs i).map .b, 0, true, 1⟩ : Ob)] = Y1 := ⟨_, rfl⟩
    have hD1 := hD.also (L := [(⟨(withoutF bs i).map .b, 0, true, 1⟩ : Ob)]) (by simp)
    have hw1 : rdOb Y1 Y.length 0 = some ⟨(withoutF bs i).map .b, 0, true, 1⟩ := by rw [← hY1]; simp
    have hL1 : KeepK d s X1 Y1 := by rw [← hY1]; exact fun id g ob a b => rdOb_app _ (hL id g ob a b)
    rw [hY1] at hD1
    have hwl := withoutF_len bs i
    unfold vf90b1
    simp [h1, h3, h4, h5, hi, rdN_ob hboxY, rdC_ob hboxY, hvY.lenOf, specWithout (m := m) hvY hin hb hi, hY1]
    obtain ⟨J, hJ⟩ : ∃ J : Nat → St → Prop, ∀ j st, J j st ↔ (DInv (fun id => (id < d ∨ id = s) ∨ id = Y.length) d bs.length (fun b => if b < j then domTo bs (i + 1) b else domTo bs i b) st.h ∧ KeepK d s X1 st.h ∧ rdOb st.h Y.length 0 = some ⟨(withoutF bs i).map .b, 0, true, 1⟩ ∧
      Env.get st.e 1 = .c (.p H.length 0 0) ∧ Env.get st.e 3 = .c (.sl d 0 0 bs.length) ∧ Env.get st.e 4 = .c (.sl s 0 0 bs.length) ∧ Env.get st.e 5 = .c (.i i) ∧ Env.get st.e 6 = .c (.sl Y.length 0 0 bs.length) ∧ Env.get st.e 7 = .c (.i j)) := ⟨_, fun _ _ => Iff.rfl⟩
    refine wp_for CM_mono bs.length J ((hJ _ _).2 ⟨hD1.congr fun b _ => by simp, hL1, hw1, by simp [h1, h3, h4, h5]⟩) ?_ ?_
    · rintro j ⟨e', Z⟩ hj hJs
      obtain ⟨hE, hM, hw, h1, h3, h4, h5, h6, h7⟩ := (hJ _ _).1 hJs
      simp only at hE hM hw h1 h3 h4 h5 h6 h7 ⊢
      have hboxZ := hM _ _ _ (.inl (by omega)) hbox
      have hvZ : Blocks Z v bs := hv.pre (hM.pre hpH (by omega))
      have hsZ := hM _ _ _ (.inr rfl) hseen
      have gs1 : (seenF bs).getD i false = (seenF bs)[i]'(by omega) := getD_at (by omega) false
      have gs2 : (seenF bs).getD j false = (seenF bs)[j]'(by omega) := getD_at (by omega) false
      have gs3 : (withoutF bs i).getD j false = (withoutF bs i)[j]'(by omega) := getD_at (by omega) false
      have hdom : domB bs j i = ((seenF bs)[i]'(by omega) && (seenF bs)[j]'(by omega) && !(withoutF bs i)[j]'(by omega)) := by unfold domB; rw [gs1, gs2, gs3]
      have hsucc := domTo_succ bs i j
      have hfl : domB bs j i = false → DInv (fun id => (id < d ∨ id = s) ∨ id = Y.length) d bs.length (fun b => if b < j + 1 then domTo bs (i + 1) b else domTo bs i b) Z := fun hf => hE.congr fun b _ => by
        rw [hf] at hsucc
        by_cases e1 : b < j
        · rw [if_pos e1, if_pos (by omega)]
        · by_cases e2 : b = j
          · subst e2; rw [if_neg e1, if_pos (by omega), hsucc]; simp
          · rw [if_neg e1, if_neg (by omega)]
      have hsj : j < (seenF bs).length := by omega
      have hsi : i < (seenF bs).length := by omega
      have hwj : j < (withoutF bs i).length := by omega
      unfold vf90b0
      by_cases hc : (seenF bs)[i] = true
      · by_cases ha : (seenF bs)[j] = true
        · by_cases hb' : (withoutF bs i)[j] = true
          · have hf : domB bs j i = false := by rw [hdom, hb']; simp
            simp [h1, h3, h4, h5, h6, h7, rdC_ob hboxZ, hvZ.lenOf, hj, hi, idxOf, rdC_ob hsZ, rdC_ob hw, hsj, hsi, hwj, ha, hb', hc, up1 hj hb]
            exact (hJ _ _).2 ⟨hfl hf, hM, hw, by simp [h1, h3, h4, h5, h6]⟩
          · have hb2 : (withoutF bs i)[j] = false := by simpa using hb'
            have ht : domB bs j i = true := by rw [hdom, hb2, hc, ha]; rfl
            obtain ⟨c, c', Z2, cells, ⟨oo, og, on, rfl⟩, p1, p2, p3, p4, p5, p6⟩ := hE.push hj (i : Int) (by rw [if_neg (Nat.lt_irrefl _)]; have := domTo_le bs i j; simp only [LIM]; simp only [BIG] at hb; omega) [⟨[.i (i : Int)], 0, true, 1⟩]
            simp [h1, h3, h4, h5, h6, h7, rdC_ob hboxZ, hvZ.lenOf, hj, hi, idxOf, rdC_ob hsZ, rdC_ob hw, hsj, hsi, hwj, ha, hb2, hc, up1 hj hb, p1, srcOf, putAt_one, p2, p3, p4]
            rw [ht] at hsucc
            refine (hJ _ _).2 ⟨p5.congr fun b _ => ?_, fun id g ob hid ho => p6 id g ob (.inl hid) (hM id g ob hid ho), p6 _ _ _ (.inr rfl) hw, by simp [h1, h3, h4, h5, h6]⟩
            by_cases e2 : b = j
            · subst e2; rw [if_pos rfl, if_neg (Nat.lt_irrefl _), if_pos (by omega), hsucc]; simp
            · rw [if_neg e2]
              by_cases e1 : b < j
              · rw [if_pos e1, if_pos (by omega)]
              · rw [if_neg e1, if_neg (by omega)]
        · have ha2 : (seenF bs)[j] = false := by simpa using ha
          have hf : domB bs j i = false := by rw [hdom, ha2]; simp
          simp [h1, h3, h4, h5, h6, h7, rdC_ob hboxZ, hvZ.lenOf, hj, hi, idxOf, rdC_ob hsZ, rdC_ob hw, hsj, hsi, hwj, ha2, hc, up1 hj hb]
          exact (hJ _ _).2 ⟨hfl hf, hM, hw, by simp [h1, h3, h4, h5, h6]⟩
      · have hc2 : (seenF bs)[i] = false := by simpa using hc
        have hf : domB bs j i = false := by rw [hdom, hc2]; simp
        simp [h1, h3, h4, h5, h6, h7, rdC_ob hboxZ, hvZ.lenOf, hj, hi, idxOf, rdC_ob hsZ, rdC_ob hw, hsj, hsi, hwj, hc2, up1 hj hb]
        exact (hJ _ _).2 ⟨hfl hf, hM, hw, by simp [h1, h3, h4, h5, h6]⟩
    · rintro ⟨e', Z⟩ hJs
      obtain ⟨hE, hM, hw, h1, h3, h4, h5, h6, h7⟩ := (hJ _ _).1 hJs
      simp only at hE hM hw h1 h3 h4 h5 h6 h7 ⊢
      have hboxZ := hM _ _ _ (.inl (by omega)) hbox
      have hvZ : Blocks Z v bs := hv.pre (hM.pre hpH (by omega))
      unfold vf90b0
      simp [h1, h3, h4, h5, h6, h7, rdC_ob hboxZ, hvZ.lenOf, up1 hi hb]
      exact (hI _ _).2 ⟨(hE.weak fun id h => .inl h).congr fun b hb => by rw [if_pos hb], hM, by simp [h1, h3, h4]⟩
  · rintro ⟨e, Y⟩ hIs
    obtain ⟨hD, hL, h1, h3, h4, h5⟩ := (hI _ _).1 hIs
    simp only at hD hL h1 h3 h4 h5 ⊢
    have hboxY := hL _ _ _ (.inl (by omega)) hbox
    have hvY : Blocks Y v bs := hv.pre (hL.pre hpH (by omega))
    unfold vf90b1
    simp [h1, h3, h4, h5, rdC_ob hboxY, hvY.lenOf]
    exact DInv.res hD (hL.pre hpH (by omega)) (by omega)

def dominF (f : FnR) (a b : Int) : Bool := rightB f b && hasI (domF f.blocks b.toNat) a
theorem domF_le {bs : List BlkR} (hb : bs.length ≤ BIG) (b : Nat) : (domF bs b).length ≤ BIG := Nat.le_trans (domTo_le bs bs.length b) hb
theorem specDominates {H : Hp} {v : CV} {f : FnR} {a b : Int} (hv : Blocks H v f.blocks) (hb : f.blocks.length ≤ BIG) (k : IV × Hp → Prop) : CM 39 [.agg [v, .i f.values], .c (.i a), .c (.i b)] H k = k (.c (.b (dominF f a b)), H) := by
  refine det (cw39 ?_) k
  unfold vf39c dominF
  cases hr : rightB f b with
  | false => simp [specRight (hv.app _) hb, hr]
  | true =>
    obtain ⟨n, rfl, hn⟩ := right_nat hr
    have hsh : shapeB f = true := by unfold rightB at hr; rw [Bool.and_eq_true] at hr; exact hr.1
    simp [specRight (hv.app _) hb, hr]
    refine (specDoms (m := f.values) (hv.app _) (shape_range hsh) hb (shape_pos hsh)).mono ?_
    rintro _ ⟨d, X, cells, rfl, hp, h1, h2, h3⟩
    obtain ⟨c, q1, q2⟩ := h3 n hn
    have hpH : Pre H X := Pre.trans ⟨_, rfl⟩ hp
    simp [idxOf, hn, rdC_ob h1, q1, l3Has_call q2 (domF_le hb n)]
    rw [gcRet_flat hpH rfl]
theorem among_call {X : Hp} {d : Nat} {cells : List CV} {bs : List BlkR} (h1 : rdOb X d 0 = some ⟨cells, 0, true, 1⟩) (h2 : cells.length = bs.length) (h3 : ∀ b, b < bs.length → ∃ c, cells[b]? = some c ∧ IsI X c (domF bs b)) (hb : bs.length ≤ BIG) (a b : Int) (k : IV × Hp → Prop) :
    CM 91 [.c (.sl d 0 0 bs.length), .c (.i a), .c (.i b)] X k = k (.c (.b (inB b 0 ((bs.length : Int) - 1) && hasI (domF bs b.toNat) a)), X) := by
  refine det (cw91 ?_) k
  unfold vf91c
  have hw : -9223372036854775807 ≤ (bs.length : Int) ∧ (bs.length : Int) ≤ 9223372036854775807 := bigI hb
  cases hi : inB b 0 ((bs.length : Int) - 1) with
  | false => simp [implIn, wn1 hw, hi]
  | true =>
    obtain ⟨n, rfl, hn⟩ : ∃ n : Nat, b = n ∧ n < bs.length := by
      have := of_decide_eq_true hi
      exact ⟨b.toNat, by omega, by omega⟩
    obtain ⟨c, q1, q2⟩ := h3 n hn
    simp [implIn, wn1 hw, hi, idxOf, hn, rdC_ob h1, q1, containsInt q2 (domF_le hb n)]
theorem implDoms_no {H : Hp} {v : CV} {f : FnR} (hv : Blocks H v f.blocks) (hb : f.blocks.length ≤ BIG) (hsh : shapeB f = false) (k : IV × Hp → Prop) : CM 92 [.agg [v, .i f.values]] H k = k (.c .ns, H) := by
  refine det (cw92 ?_) k
  unfold vf92c
  simp [implShape (hv.app _) hb, hsh]
theorem among_no (X : Hp) (a b : Int) (k : IV × Hp → Prop) : CM 91 [.c .ns, .c (.i a), .c (.i b)] X k = k (.c (.b false), X) := by
  refine det (cw91 ?_) k
  unfold vf91c
  have hi : inB b 0 (-1) = false := decide_eq_false (by omega)
  simp [implIn, hi, wrap64_id (show -9223372036854775808 ≤ (-1 : Int) ∧ (-1 : Int) ≤ 9223372036854775807 by omega)]
theorem implDominates {H : Hp} {v : CV} {f : FnR} {a b : Int} (hv : Blocks H v f.blocks) (hb : f.blocks.length ≤ BIG) (k : IV × Hp → Prop) : CM 40 [.agg [v, .i f.values], .c (.i a), .c (.i b)] H k = k (.c (.b (dominF f a b)), H) := by
  refine det (cw40 ?_) k
  unfold vf40c dominF rightB
  cases hsh : shapeB f with
  | false => simp [implDoms_no (hv.app _) hb hsh, among_no]
  | true =>
    simp
    refine (implDoms (m := f.values) (hv.app _) hb hsh).mono ?_
    rintro _ ⟨d, X, cells, rfl, hp, h1, h2, h3⟩
    have hpH : Pre H X := Pre.trans ⟨_, rfl⟩ hp
    simp [among_call h1 h2 h3 hb]
    rw [gcRet_flat hpH rfl]
end Go.Proofs.Ytnmnpfdjigpgaaa.Vm
