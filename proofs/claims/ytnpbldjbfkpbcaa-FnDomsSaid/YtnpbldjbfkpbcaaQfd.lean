import Derived.Test.YtnpbldjbfkpbcaaQfc
section
/- Rows of rows of numbers: one's own, marked, held, compared. Who stands on every way to whom, exactly. No conditions. -/
namespace Go.Proofs.Ytnpbldjbfkpbcaa.Vm
open Go.RowKit (wrap64)
set_option linter.unusedSimpArgs false
set_option linter.unusedVariables false

def DomsOwn (H : Hp) (bs : List BlkR) (r : IV × Hp) : Prop := ∃ d X', r = (.c (.sl d 0 0 bs.length), X') ∧ Pre H X' ∧ DInv (fun id => id < H.length) d bs.length (domF bs) X'
theorem DInv.own {K : Nat → Prop} {H Y : Hp} {d : Nat} {bs : List BlkR} (h : DInv K d bs.length (domF bs) Y) (hp : Pre H Y) (hd : H.length ≤ d) (hk : ∀ id, id < H.length → K id) : DomsOwn H bs (gcRet H (.c (.sl d 0 0 bs.length)) Y) := by
  have hw := h.weak hk
  obtain ⟨_, cells, h2, h3, h4⟩ := h
  by_cases hf : cells.all flatC = true
  · rw [gcRet_row hp hd h2 rfl hf]
    refine ⟨H.length, _, rfl, ⟨_, rfl⟩, fun id hi => ⟨by omega, by simp; omega⟩, cells, by simp, h3, fun b hb => ?_⟩
    obtain ⟨c, a1, a2, _, _⟩ := h4 b hb
    rcases a2 with ⟨rfl, e⟩ | ⟨o, g, rfl, _⟩
    · refine ⟨.ns, a1, .inl ⟨rfl, e⟩, (fun id ⟨_, _, h⟩ => by cases h), fun b' c' _ _ _ id ⟨_, _, h⟩ => by cases h⟩
    · have := List.all_eq_true.1 hf _ (List.mem_of_getElem? a1)
      cases this
  · have e : gcRet H (.c (.sl d 0 0 bs.length)) Y = (.c (.sl d 0 0 bs.length), Y) := by
      unfold gcRet
      rw [if_pos hp.take, if_neg (by simp [flatV, flatC])]
      simp only [hd, if_true, (rdOb_some.1 h2).1]
      rw [if_neg (by simp [hf])]
    rw [e]
    exact ⟨d, Y, rfl, hp, hw⟩
theorem implDomsOwn {H : Hp} {v : CV} {bs : List BlkR} {m : Int} (hv : Blocks H v bs) (hb : bs.length ≤ BIG) (hsh : shapeB ⟨bs, m⟩ = true) : CM 46 [.agg [v, .i m]] H (DomsOwn H bs) := by
  refine cw46 ?_
  unfold vf46c
  have hin : InRange bs := shape_range hsh
  have h0 : 0 < bs.length := shape_pos hsh
  have hlim : bs.length ≤ LIM := by simp only [BIG] at hb; simp only [LIM]; omega
  simp [implShape (f := ⟨bs, m⟩) (hv.app _) hb, hsh]
  refine (implOrder (hv.app _) hin hb h0).mono ?_
  rintro _ ⟨o, g, s, gs, X1, rfl, hp1, ho1, hs1, h3, hseen⟩
  have hpH : Pre H X1 := Pre.trans ⟨_, rfl⟩ hp1
  have hbox : rdOb X1 H.length 0 = some ⟨[v, .i m], 0, true, 2⟩ := box_get hp1
  have hv1 : Blocks X1 v bs := hv.pre hpH
  have hsl : (seenF bs).length = bs.length := (walk0_ok h0).1
  have hsx := rdOb_lt hseen
  have hbx := rdOb_lt hbox
  simp [rdC_ob hbox, hv1.lenOf, (hv1.app _).lenOf, hlim, ns_flat, rdC_ob (rdOb_app _ hbox)]
  obtain ⟨d, hd⟩ : ∃ d, d = X1.length := ⟨_, rfl⟩
  have hst := DInv.start (Y := X1) (n := bs.length)
  rw [← hd] at hst
  have hlow0 : Low d X1 (X1 ++ [⟨List.replicate bs.length .ns, 0, true, 1⟩]) := Low.app _ _ _
  obtain ⟨I, hI⟩ : ∃ I : Nat → St → Prop, ∀ i st, I i st ↔ (DInv (fun id => id < d) d bs.length (domTo bs i) st.h ∧ Low d X1 st.h ∧ Env.get st.e 1 = .c (.p H.length 0 0) ∧ Env.get st.e 4 = .c (.sl s gs 0 bs.length) ∧ Env.get st.e 5 = .c (.sl d 0 0 bs.length) ∧ Env.get st.e 24 = .c (.i bs.length) ∧ Env.get st.e 25 = .c (.i i)) := ⟨_, fun _ _ => Iff.rfl⟩
  rw [← hd]
  refine wp_for CM_mono bs.length I ((hI _ _).2 ⟨hst.congr fun b _ => by simp [domTo], hlow0, by simp⟩) ?_ ?_
  · rintro i ⟨e, Y⟩ hi hIs
    obtain ⟨hD, hL, h1, h4, h5, h24, h25⟩ := (hI _ _).1 hIs
    simp only at hD hL h1 h4 h5 h24 h25 ⊢
    have hboxY := hL _ _ _ (by omega) hbox
    have hvY : Blocks Y v bs := hv1.pre (hL.pre (Pre.refl _) (by omega))
    obtain ⟨Y1, hY1⟩ : ∃ Y1, Y ++ [(⟨(withoutF bs i).map .b, 0, true, 1⟩ : Ob)] = Y1 := ⟨_, rfl⟩
    have hD1 := hD.also (L := [(⟨(withoutF bs i).map .b, 0, true, 1⟩ : Ob)]) (by simp)
    have hw1 : rdOb Y1 Y.length 0 = some ⟨(withoutF bs i).map .b, 0, true, 1⟩ := by rw [← hY1]; simp
    have hL1 : Low d X1 Y1 := by rw [← hY1]; exact hL.trans (Low.app _ _ _)
    rw [hY1] at hD1
    have hwl := withoutF_len bs i
    unfold vf46b1
    simp [h1, h4, h5, h24, h25, hi, rdN_ob hboxY, implWithout (m := m) hvY hin hb hi, hY1]
    obtain ⟨J, hJ⟩ : ∃ J : Nat → St → Prop, ∀ j st, J j st ↔ (DInv (fun id => id < d ∨ id = Y.length) d bs.length (fun b => if b < j then domTo bs (i + 1) b else domTo bs i b) st.h ∧ Low d X1 st.h ∧ rdOb st.h Y.length 0 = some ⟨(withoutF bs i).map .b, 0, true, 1⟩ ∧
      Env.get st.e 1 = .c (.p H.length 0 0) ∧ Env.get st.e 4 = .c (.sl s gs 0 bs.length) ∧ Env.get st.e 5 = .c (.sl d 0 0 bs.length) ∧ Env.get st.e 6 = .c (.i i) ∧ Env.get st.e 7 = .c (.sl Y.length 0 0 bs.length) ∧ Env.get st.e 24 = .c (.i bs.length) ∧ Env.get st.e 25 = .c (.i i) ∧
      Env.get st.e 31 = .c (.sl s gs 0 bs.length) ∧ Env.get st.e 32 = .c (.i bs.length) ∧ Env.get st.e 33 = .c (.i j)) := ⟨_, fun _ _ => Iff.rfl⟩
    refine wp_for CM_mono bs.length J ((hJ _ _).2 ⟨hD1.congr fun b _ => by simp, hL1, hw1, by simp [h1, h4, h5, h24, h25]⟩) ?_ ?_
    · rintro j ⟨e', Z⟩ hj hJs
      obtain ⟨hE, hM, hw, h1, h4, h5, h6, h7, h24, h25, h31, h32, h33⟩ := (hJ _ _).1 hJs
      simp only at hE hM hw h1 h4 h5 h6 h7 h24 h25 h31 h32 h33 ⊢
      have hsZ := hM _ _ _ (by omega) hseen
      have gs1 : (seenF bs).getD i false = (seenF bs)[i]'(by omega) := getD_at (by omega) false
      have gs2 : (seenF bs).getD j false = (seenF bs)[j]'(by omega) := getD_at (by omega) false
      have gs3 : (withoutF bs i).getD j false = (withoutF bs i)[j]'(by omega) := getD_at (by omega) false
      have hdom : domB bs j i = ((seenF bs)[i]'(by omega) && (seenF bs)[j]'(by omega) && !(withoutF bs i)[j]'(by omega)) := by unfold domB; rw [gs1, gs2, gs3]
      have hsucc := domTo_succ bs i j
      have hfl : domB bs j i = false → DInv (fun id => id < d ∨ id = Y.length) d bs.length (fun b => if b < j + 1 then domTo bs (i + 1) b else domTo bs i b) Z := fun hf => hE.congr fun b _ => by
        rw [hf] at hsucc
        by_cases e1 : b < j
        · rw [if_pos e1, if_pos (by omega)]
        · by_cases e2 : b = j
          · subst e2; rw [if_neg e1, if_pos (by omega), hsucc]; simp
          · rw [if_neg e1, if_neg (by omega)]
      have hsj : j < (seenF bs).length := by omega
      have hsi : i < (seenF bs).length := by omega
      have hwj : j < (withoutF bs i).length := by omega
      unfold vf46b0
      have hju := up1 hj hb
      clear hju
      by_cases ha : (seenF bs)[j] = true
      · by_cases hb' : (withoutF bs i)[j] = true
        · have hf : domB bs j i = false := by rw [hdom, hb']; simp
          simp [h1, h4, h5, h6, h7, h24, h25, h31, h32, h33, hj, hi, idxOf, rdC_ob hsZ, rdC_ob hw, hsj, hsi, hwj, ha, hb', up1 hj hb]
          exact (hJ _ _).2 ⟨hfl hf, hM, hw, by simp [h1, h4, h5, h6, h7, h24, h25, h31, h32]⟩
        · have hb2 : (withoutF bs i)[j] = false := by simpa using hb'
          by_cases hc : (seenF bs)[i] = true
          · have ht : domB bs j i = true := by rw [hdom, hb2, hc, ha]; rfl
            obtain ⟨c, c', Z2, cells, ⟨oo, og, on, rfl⟩, p1, p2, p3, p4, p5, p6⟩ := hE.push hj (i : Int) (by rw [if_neg (Nat.lt_irrefl _)]; have := domTo_le bs i j; simp only [LIM]; simp only [BIG] at hb; omega) [⟨[.i (i : Int)], 0, true, 1⟩]
            simp [h1, h4, h5, h6, h7, h24, h25, h31, h32, h33, hj, hi, idxOf, rdC_ob hsZ, rdC_ob hw, hsj, hsi, hwj, ha, hb2, hc, up1 hj hb, p1, srcOf, putAt_one, p2, p3, p4]
            rw [ht] at hsucc
            refine (hJ _ _).2 ⟨p5.congr fun b _ => ?_, fun id g ob hid ho => p6 id g ob (.inl hid) (hM id g ob hid ho), p6 _ _ _ (.inr rfl) hw, by simp [h1, h4, h5, h6, h7, h24, h25, h31, h32]⟩
            by_cases e2 : b = j
            · subst e2; rw [if_pos rfl, if_neg (Nat.lt_irrefl _), if_pos (by omega), hsucc]; simp
            · rw [if_neg e2]
              by_cases e1 : b < j
              · rw [if_pos e1, if_pos (by omega)]
              · rw [if_neg e1, if_neg (by omega)]
          · have hc2 : (seenF bs)[i] = false := by simpa using hc
            have hf : domB bs j i = false := by rw [hdom, hc2]; simp
            simp [h1, h4, h5, h6, h7, h24, h25, h31, h32, h33, hj, hi, idxOf, rdC_ob hsZ, rdC_ob hw, hsj, hsi, hwj, ha, hb2, hc2, up1 hj hb]
            exact (hJ _ _).2 ⟨hfl hf, hM, hw, by simp [h1, h4, h5, h6, h7, h24, h25, h31, h32]⟩
      · have ha2 : (seenF bs)[j] = false := by simpa using ha
        have hf : domB bs j i = false := by rw [hdom, ha2]; simp
        simp [h1, h4, h5, h6, h7, h24, h25, h31, h32, h33, hj, hi, idxOf, rdC_ob hsZ, rdC_ob hw, hsj, hsi, hwj, ha2, up1 hj hb]
        exact (hJ _ _).2 ⟨hfl hf, hM, hw, by simp [h1, h4, h5, h6, h7, h24, h25, h31, h32]⟩
    · rintro ⟨e', Z⟩ hJs
      obtain ⟨hE, hM, hw, h1, h4, h5, h6, h7, h24, h25, h31, h32, h33⟩ := (hJ _ _).1 hJs
      simp only at hE hM hw h1 h4 h5 h6 h7 h24 h25 h31 h32 h33 ⊢
      unfold vf46b0
      simp [h1, h4, h5, h6, h7, h24, h25, h31, h32, h33, up1 hi hb]
      exact (hI _ _).2 ⟨(hE.weak fun id h => .inl h).congr fun b hb => by rw [if_pos hb], hM, by simp [h1, h4, h5, h24]⟩
  · rintro ⟨e, Y⟩ hIs
    obtain ⟨hD, hL, h1, h4, h5, h24, h25⟩ := (hI _ _).1 hIs
    simp only at hD hL h1 h4 h5 h24 h25 ⊢
    unfold vf46b1
    simp [h1, h4, h5, h24, h25]
    exact DInv.own hD (hL.pre hpH (by omega)) (by have := hpH.le; omega) fun id hi => by have := hpH.le; omega
/-- A row of rows, seen. -/
def RowsI (X : Hp) (v : CV) (n : Nat) (f : Nat → List Int) : Prop := lenOf v = some n ∧ ∀ b, b < n → ∃ id g off c, idxOf 1 v (b : Int) = some (.p id g off) ∧ rdC X id g off = some c ∧ IsI X c (f b)
theorem Pre.rdC {X Y : Hp} (hp : Pre X Y) {id g off : Nat} {c : CV} (h : Vm.rdC X id g off = some c) : Vm.rdC Y id g off = some c := by
  unfold Vm.rdC at h ⊢
  cases ho : Vm.rdOb X id g with
  | none => simp [ho] at h
  | some o => rw [hp.rdOb ho]; rw [ho] at h; exact h
theorem RowsI.pre {X Y : Hp} {v : CV} {n : Nat} {f : Nat → List Int} (h : RowsI X v n f) (hp : Pre X Y) : RowsI Y v n f := by
  refine ⟨h.1, fun b hb => ?_⟩
  obtain ⟨id, g, off, c, h1, h2, h3⟩ := h.2 b hb
  exact ⟨id, g, off, c, h1, Pre.rdC hp h2, h3.pre hp⟩
theorem RowsI.mk {X : Hp} {d n : Nat} {cells : List CV} {f : Nat → List Int} (h : rdOb X d 0 = some ⟨cells, 0, true, 1⟩) (hl : cells.length = n) (hr : ∀ b, b < n → ∃ c, cells[b]? = some c ∧ IsI X c (f b)) : RowsI X (.sl d 0 0 n) n f := by
  refine ⟨rfl, fun b hb => ?_⟩
  obtain ⟨c, h1, h2⟩ := hr b hb
  exact ⟨d, 0, b, c, by simp [idxOf, hb], by rw [rdC_ob h]; exact h1, h2⟩
theorem DInv.rowsI {K : Nat → Prop} {X : Hp} {d n : Nat} {f : Nat → List Int} (h : DInv K d n f X) : RowsI X (.sl d 0 0 n) n f := by
  obtain ⟨_, cells, h2, h3, h4⟩ := h
  exact RowsI.mk h2 h3 fun b hb => by
    obtain ⟨c, a1, a2, _⟩ := h4 b hb
    exact ⟨c, a1, a2.isI⟩
theorem gcRows {H X : Hp} {d n : Nat} {cells : List CV} {f : Nat → List Int} (hp : Pre H X) (h : rdOb X d 0 = some ⟨cells, 0, true, 1⟩) (hl : cells.length = n) (hr : ∀ b, b < n → ∃ c, cells[b]? = some c ∧ IsI X c (f b)) :
    ∃ w X', gcRet H (.c (.sl d 0 0 n)) X = (.c w, X') ∧ Pre H X' ∧ RowsI X' w n f := by
  by_cases hd : H.length ≤ d
  · by_cases hf : cells.all flatC = true
    · rw [gcRet_row hp hd h rfl hf]
      refine ⟨_, _, rfl, ⟨_, rfl⟩, RowsI.mk (cells := cells) (by simp) hl fun b hb => ?_⟩
      obtain ⟨c, a1, a2⟩ := hr b hb
      rcases a2 with ⟨rfl, e0, e⟩ | ⟨o, g, off, ob, rfl, _⟩
      · exact ⟨_, a1, .inl ⟨rfl, e0, e⟩⟩
      · have := List.all_eq_true.1 hf _ (List.mem_of_getElem? a1)
        cases this
    · have e : gcRet H (.c (.sl d 0 0 n)) X = (.c (.sl d 0 0 n), X) := by
        unfold gcRet
        rw [if_pos hp.take, if_neg (by simp [flatV, flatC])]
        simp only [hd, if_true, (rdOb_some.1 h).1]
        rw [if_neg (by simp [hf])]
      rw [e]
      exact ⟨_, _, rfl, hp, RowsI.mk h hl hr⟩
  · have e : gcRet H (.c (.sl d 0 0 n)) X = (.c (.sl d 0 0 n), X) := by
      unfold gcRet
      rw [if_pos hp.take, if_neg (by simp [flatV, flatC])]
      simp only [hd, if_false]
    rw [e]
    exact ⟨_, _, rfl, hp, RowsI.mk h hl hr⟩
theorem eqIntSS_call {H : Hp} {v w : CV} {n : Nat} {f : Nat → List Int} (hv : RowsI H v n f) (hw : RowsI H w n f) (hn : n ≤ BIG) (hf : ∀ b, b < n → (f b).length ≤ BIG) (k : IV × Hp → Prop) :
    CM 67 [.c v, .c w] H k = k (.c (.b true), H) := by
  refine det (cw67 ?_) k
  unfold vf67c
  simp [hv.1, hw.1]
  refine wp_for CM_mono n (fun i s => s.h = H ∧ Env.get s.e 0 = .c v ∧ Env.get s.e 1 = .c w ∧ Env.get s.e 5 = .c (.i i)) (by simp) ?_ ?_
  · rintro i ⟨e, X⟩ hi ⟨rfl, h0, h1, h5⟩
    simp only at h0 h1 h5 hv hw ⊢
    obtain ⟨id, g, off, c, p1, p2, p3⟩ := hv.2 i hi
    obtain ⟨id', g', off', c', q1, q2, q3⟩ := hw.2 i hi
    unfold vf67b0
    simp [h0, h1, h5, hv.1, p1, p2, q1, q2, hi, up1 hi hn, eqIntS_call p3 q3 (hf i hi)]
  · rintro ⟨e, X⟩ ⟨rfl, h0, h1, h5⟩
    simp only at h0 h1 h5 hv hw ⊢
    unfold vf67b0
    simp [h0, h1, h5, hv.1]
theorem markIntS_o {a : Int} (ha : 0 ≤ a ∧ a ≤ 2305843009213693952) {Y : Hp} {w : CV} {xs : List Int} (h : OutR Y w xs) (hn : xs.length ≤ BIG) :
    ∃ Z, (∀ k : IV × Hp → Prop, CM 43 [.c w, .c (.i a)] Y k = k (.c (.i (a + xs.length)), Z)) ∧ Z.length = Y.length ∧ (∀ id g o, ¬ IsOut w id → rdOb Y id g = some o → rdOb Z id g = some o) ∧ OutR Z w (ups a xs.length) := by
  obtain ⟨n, hnn⟩ : ∃ n, n = xs.length := ⟨_, rfl⟩
  rw [← hnn] at hn ⊢
  rcases h with ⟨rfl, rfl⟩ | ⟨id, gg, rfl, h2⟩
  · obtain rfl : n = 0 := hnn
    refine ⟨Y, fun k => det (cw43 ?_) k, rfl, fun _ _ _ _ h => h, .inl ⟨rfl, rfl⟩⟩
    unfold vf43c
    simp
    refine wp_for CM_mono 0 (fun i s => s.h = Y ∧ Env.get s.e 0 = .c .ns ∧ Env.get s.e 1 = .c (.i a) ∧ Env.get s.e 5 = .c (.i i)) (by simp) (fun i s h => absurd h (by omega)) ?_
    rintro ⟨e, X⟩ ⟨rfl, h0, h1, h5⟩
    simp only at h0 h1 h5 ⊢
    unfold vf43b0
    simp [h0, h1, h5]
  · obtain ⟨cells, hcells⟩ : ∃ cells, xs.map CV.i = cells := ⟨_, rfl⟩
    have h3 : cells.length = n := by rw [← hcells, hnn]; simp
    rw [hcells] at h2
    rw [← hnn]
    have hlt := rdOb_lt h2
    refine ⟨Y.set id ⟨(ups a n).map .i, gg, true, 1⟩, fun k => det (cw43 ?_) k, by simp, fun id' g o hl ho => by rw [rdOb_set_ne (by rintro rfl; exact hl ⟨_, _, rfl⟩)]; exact ho, .inr ⟨id, gg, by simp, by rw [rdOb_set_self hlt]; simp⟩⟩
    unfold vf43c
    simp
    obtain ⟨I, hI⟩ : ∃ I : Nat → St → Prop, ∀ i s, I i s ↔ (s.h = Y.set id ⟨(ups a i).map .i ++ cells.drop i, gg, true, 1⟩ ∧ Env.get s.e 0 = .c (.sl id gg 0 n) ∧ Env.get s.e 1 = .c (.i (a + i)) ∧ Env.get s.e 5 = .c (.i i)) := ⟨_, fun _ _ => Iff.rfl⟩
    refine wp_for CM_mono n I ((hI _ _).2 ⟨?_, by simp⟩) ?_ ?_
    · have := (rdOb_some.1 h2).1
      simp [ups]
      rw [List.getElem?_eq_getElem hlt] at this
      injection this with this
      rw [← this]; simp
    · rintro i ⟨e, X⟩ hi hIs
      obtain ⟨hX, h0, h1', h5⟩ := (hI _ _).1 hIs
      simp only at hX h0 h1' h5 ⊢
      have ho : rdOb X id gg = some ⟨(ups a i).map .i ++ cells.drop i, gg, true, 1⟩ := by rw [hX, rdOb_set_self hlt]; simp
      have hp : putAt ((ups a i).map .i ++ cells.drop i) i [.i (a + (i : Int))] = (ups a (i + 1)).map .i ++ cells.drop (i + 1) := by
        have e1 : cells.drop i = cells[i]'(by omega) :: cells.drop (i + 1) := List.drop_eq_getElem_cons (by omega)
        have e2 : (cells.drop i).set 0 (.i (a + (i : Int))) = .i (a + (i : Int)) :: cells.drop (i + 1) := by rw [e1]; rfl
        rw [putAt_get (by simp; omega), List.set_append]
        simp [ups, List.range_succ] at e2 ⊢
        exact e2
      have hw1 : -9223372036854775808 ≤ (a + (i : Int)) + 1 ∧ (a + (i : Int)) + 1 ≤ 9223372036854775807 := by simp only [BIG] at hn; omega
      unfold vf43b0
      simp [h0, h1', h5, ho, hi, idxOf, hp, up1 hi hn, wrap64_id hw1, show i + 1 ≤ i + (cells.length - i) by omega]
      refine (hI _ _).2 ⟨?_, by simp; omega⟩
      rw [hX]; simp
    · rintro ⟨e, X⟩ hIs
      obtain ⟨hX, h0, h1', h5⟩ := (hI _ _).1 hIs
      simp only at hX h0 h1' h5 ⊢
      have hlen : X.length = Y.length := by rw [hX]; simp
      unfold vf43b0
      simp [h0, h1', h5, gc_nolen hlen (show flatV (.c (.i (a + (n : Int)))) = true from rfl)]
      rw [hX, List.drop_eq_nil_of_le (by omega), List.append_nil]
def sumTo (f : Nat → List Int) : Nat → Nat
  | 0 => 0
  | n + 1 => sumTo f n + (f n).length
theorem sumTo_le {f : Nat → List Int} {n : Nat} (hf : ∀ b, b < n → (f b).length ≤ BIG) : ∀ {m : Nat}, m ≤ n → sumTo f m ≤ m * BIG := by
  intro m
  induction m with
  | zero => intro _; simp [sumTo]
  | succ m ih =>
    intro h
    have h1 := ih (by omega)
    have h2 := hf m (by omega)
    simp only [sumTo, Nat.succ_mul]
    omega
theorem sum_small {f : Nat → List Int} {n : Nat} (hn : n ≤ BIG) (hf : ∀ b, b < n → (f b).length ≤ BIG) {m : Nat} (hm : m ≤ n) : (0 : Int) ≤ 1 + (sumTo f m : Int) ∧ 1 + (sumTo f m : Int) ≤ 2305843009213693952 := by
  have h1 := sumTo_le hf hm
  have h2 : m * BIG ≤ BIG * BIG := Nat.mul_le_mul_right _ (by omega)
  have h3 : BIG * BIG + 1 ≤ 2305843009213693952 := by decide
  omega
def mks (f : Nat → List Int) (b : Nat) : List Int := ups (1 + (sumTo f b : Int)) (f b).length
theorem mks_len (f : Nat → List Int) (b : Nat) : (mks f b).length = (f b).length := by simp [mks]
/-- One of the rows is turned. -/
theorem DInv.mark {K : Nat → Prop} {d n : Nat} {f : Nat → List Int} {Y Z : Hp} (h : DInv K d n f Y) {b : Nat} (hb : b < n) {c : CV} (hc : ∃ cells, rdOb Y d 0 = some ⟨cells, 0, true, 1⟩ ∧ cells[b]? = some c) (hl : Z.length = Y.length)
    (hk : ∀ id g o, ¬ IsOut c id → rdOb Y id g = some o → rdOb Z id g = some o) {ys : List Int} (hy : OutR Z c ys) : DInv K d n (fun j => if j = b then ys else f j) Z ∧ ∀ id g o, K id → rdOb Y id g = some o → rdOb Z id g = some o := by
  obtain ⟨h1, cells, h2, h3, h4⟩ := h
  obtain ⟨cells', e2, e3⟩ := hc
  rw [h2] at e2
  injection e2 with e2; injection e2 with e2; subst e2
  obtain ⟨c0, a1, a2, a3, a4⟩ := h4 b hb
  rw [e3] at a1
  injection a1 with a1; subst a1
  refine ⟨⟨fun id hi => ⟨(h1 id hi).1, by rw [hl]; exact (h1 id hi).2⟩, cells, hk _ _ _ (fun hi => (a3 _ hi).2 rfl) h2, h3, fun b' hb' => ?_⟩, fun id g o hi ho => hk _ _ _ (fun hi' => (a3 id hi').1 hi) ho⟩
  obtain ⟨c', q1, q2, q3, q4⟩ := h4 b' hb'
  by_cases e : b' = b
  · subst e
    rw [e3] at q1
    injection q1 with q1; subst q1
    exact ⟨c, e3, by rw [if_pos rfl]; exact hy, q3, q4⟩
  · refine ⟨c', q1, by rw [if_neg e]; exact q2.keep fun id g o hi ho => hk _ _ _ (q4 b c hb (Ne.symm e) e3 id hi) ho, q3, q4⟩
theorem markIntSS_call {K : Nat → Prop} {d n : Nat} {f : Nat → List Int} {Y : Hp} (h : DInv K d n f Y) (hn : n ≤ BIG) (hf : ∀ b, b < n → (f b).length ≤ BIG) :
    CM 70 [.c (.sl d 0 0 n), .c (.i 1)] Y fun r => ∃ Z, r = (.c (.i (1 + (sumTo f n : Int))), Z) ∧ Z.length = Y.length ∧ (∀ id g o, K id → rdOb Y id g = some o → rdOb Z id g = some o) ∧ DInv K d n (mks f) Z := by
  refine cw70 ?_
  unfold vf70c
  simp
  obtain ⟨I, hI⟩ : ∃ I : Nat → St → Prop, ∀ i st, I i st ↔ (DInv K d n (fun b => if b < i then mks f b else f b) st.h ∧ st.h.length = Y.length ∧ (∀ id g o, K id → rdOb Y id g = some o → rdOb st.h id g = some o) ∧ Env.get st.e 0 = .c (.sl d 0 0 n) ∧ Env.get st.e 1 = .c (.i (1 + (sumTo f i : Int))) ∧ Env.get st.e 5 = .c (.i i)) := ⟨_, fun _ _ => Iff.rfl⟩
  refine wp_for CM_mono n I ((hI _ _).2 ⟨h.congr fun b _ => by simp, rfl, fun _ _ _ _ h => h, by simp [sumTo]⟩) ?_ ?_
  · rintro i ⟨e, X⟩ hi hIs
    obtain ⟨hD, hl, hk, h0, h1, h5⟩ := (hI _ _).1 hIs
    simp only at hD hl hk h0 h1 h5 ⊢
    obtain ⟨kd, cells, r1, r2, r3⟩ := id hD
    obtain ⟨c, a1, a2, _⟩ := r3 i hi
    rw [if_neg (Nat.lt_irrefl _)] at a2
    obtain ⟨Z, e1, e2, e3, e4⟩ := markIntS_o (sum_small hn hf (Nat.le_of_lt hi)) a2 (hf i hi)
    obtain ⟨hD2, hk2⟩ := hD.mark hi ⟨cells, r1, a1⟩ e2 e3 e4
    unfold vf70b0
    simp [h0, h1, h5, hi, idxOf, rdC_ob r1, a1, e1, up1 hi hn]
    refine (hI _ _).2 ⟨hD2.congr fun b hb => ?_, by rw [← hl]; exact e2, fun id g o hid ho => hk2 id g o hid (hk id g o hid ho), by simp [h0, sumTo]; omega⟩
    by_cases e5 : b = i
    · subst e5; rw [if_pos rfl, if_pos (by omega)]; rfl
    · rw [if_neg e5]
      by_cases e6 : b < i
      · rw [if_pos e6, if_pos (by omega)]
      · rw [if_neg e6, if_neg (by omega)]
  · rintro ⟨e, X⟩ hIs
    obtain ⟨hD, hl, hk, h0, h1, h5⟩ := (hI _ _).1 hIs
    simp only at hD hl hk h0 h1 h5 ⊢
    unfold vf70b0
    simp [h0, h1, h5, gc_nolen hl (show flatV (.c (.i (1 + (sumTo f n : Int)))) = true from rfl)]
    exact ⟨hl, hk, hD.congr fun b hb => by rw [if_pos hb]⟩
theorem heldIntSS_call {H : Hp} {v : CV} {n : Nat} {f : Nat → List Int} (hv : RowsI H v n (mks f)) (hn : n ≤ BIG) (hf : ∀ b, b < n → (f b).length ≤ BIG) (k : IV × Hp → Prop) :
    CM 71 [.c v, .c (.i 1)] H k = k (.c (.i (1 + (sumTo f n : Int))), H) := by
  refine det (cw71 ?_) k
  unfold vf71c
  simp
  refine wp_for CM_mono n (fun i s => s.h = H ∧ Env.get s.e 0 = .c v ∧ Env.get s.e 1 = .c (.i (1 + (sumTo f i : Int))) ∧ Env.get s.e 5 = .c (.i i)) (by simp [sumTo]) ?_ ?_
  · rintro i ⟨e, X⟩ hi ⟨rfl, h0, h1, h5⟩
    simp only at h0 h1 h5 hv ⊢
    obtain ⟨id, g, off, c, p1, p2, p3⟩ := hv.2 i hi
    have hneg : ¬ (1 + (sumTo f i : Int) + ((f i).length : Int) < 0) := by omega
    unfold vf71b0
    simp [h0, h1, h5, hv.1, p1, p2, hi, up1 hi hn, heldIntS_at (sum_small hn hf (Nat.le_of_lt hi)) p3 (hf i hi), hneg]
    simp [sumTo]; omega
  · rintro ⟨e, X⟩ ⟨rfl, h0, h1, h5⟩
    simp only at h0 h1 h5 hv ⊢
    unfold vf71b0
    simp [h0, h1, h5, hv.1]
end Go.Proofs.Ytnpbldjbfkpbcaa.Vm
end
