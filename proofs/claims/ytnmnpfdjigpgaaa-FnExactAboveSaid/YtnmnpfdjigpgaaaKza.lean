/- Who stands on every way to whom: both sides. No conditions. -/
import Derived.Test.YtnmnpfdjigpgaaaKz
namespace Go.Proofs.Ytnmnpfdjigpgaaa.Vm
open Go.RowKit (wrap64)
set_option linter.unusedSimpArgs false
set_option linter.unusedVariables false

def domB (bs : List BlkR) (b a : Nat) : Bool := (seenF bs).getD a false && (seenF bs).getD b false && !(withoutF bs a).getD b false
def domTo (bs : List BlkR) (n b : Nat) : List Int := ((List.range n).filter (domB bs b)).map fun (a : Nat) => (a : Int)
def domF (bs : List BlkR) (b : Nat) : List Int := domTo bs bs.length b
theorem domTo_succ (bs : List BlkR) (n b : Nat) : domTo bs (n + 1) b = domTo bs n b ++ (if domB bs b n = true then [(n : Int)] else []) := by
  unfold domTo
  rw [List.range_succ, List.filter_append, List.map_append]
  congr 1
  cases h : domB bs b n <;> simp [h]
theorem domTo_le (bs : List BlkR) (n b : Nat) : (domTo bs n b).length ≤ n := by
  unfold domTo
  rw [List.length_map]
  exact Nat.le_trans (List.length_filter_le _ _) (by simp)
/-- Rows within a row, each one's own; what is kept. -/
structure DInv (K : Nat → Prop) (d n : Nat) (f : Nat → List Int) (Y : Hp) : Prop where
  kd : ∀ id, K id → id ≠ d ∧ id < Y.length
  row : ∃ cells, rdOb Y d 0 = some ⟨cells, 0, true, 1⟩ ∧ cells.length = n ∧ ∀ b, b < n → ∃ c, cells[b]? = some c ∧ OutR Y c (f b) ∧ (∀ id, IsOut c id → ¬ K id ∧ id ≠ d) ∧ ∀ b' c', b' < n → b' ≠ b → cells[b']? = some c' → ∀ id, IsOut c id → ¬ IsOut c' id
theorem DInv.app {K : Nat → Prop} {d n : Nat} {f : Nat → List Int} {Y : Hp} (h : DInv K d n f Y) (L : Hp) : DInv K d n f (Y ++ L) := by
  obtain ⟨h1, cells, h2, h3, h4⟩ := h
  refine ⟨fun id hi => ⟨(h1 id hi).1, by have := (h1 id hi).2; simp only [List.length_append]; omega⟩, cells, rdOb_app L h2, h3, fun b hb => ?_⟩
  obtain ⟨c, a1, a2, a3, a4⟩ := h4 b hb
  exact ⟨c, a1, a2.keep fun _ _ _ _ h => rdOb_app L h, a3, a4⟩
theorem DInv.also {K : Nat → Prop} {d n : Nat} {f : Nat → List Int} {Y L : Hp} (h : DInv K d n f Y) (hL : 0 < L.length) : DInv (fun id => K id ∨ id = Y.length) d n f (Y ++ L) := by
  obtain ⟨h1, cells, h2, h3, h4⟩ := h
  have hd := rdOb_lt h2
  refine ⟨fun id hi => ?_, cells, rdOb_app L h2, h3, fun b hb => ?_⟩
  · simp only [List.length_append]
    rcases hi with hi | rfl
    · exact ⟨(h1 id hi).1, by have := (h1 id hi).2; omega⟩
    · exact ⟨by omega, by omega⟩
  · obtain ⟨c, a1, a2, a3, a4⟩ := h4 b hb
    refine ⟨c, a1, a2.keep fun _ _ _ _ h => rdOb_app L h, fun id hi => ⟨?_, (a3 id hi).2⟩, a4⟩
    rintro (hk | rfl)
    · exact (a3 id hi).1 hk
    · exact absurd (a2.lt hi) (by omega)
theorem DInv.weak {K K' : Nat → Prop} {d n : Nat} {f : Nat → List Int} {Y : Hp} (h : DInv K d n f Y) (hk : ∀ id, K' id → K id) : DInv K' d n f Y := by
  obtain ⟨h1, cells, h2, h3, h4⟩ := h
  refine ⟨fun id hi => h1 id (hk id hi), cells, h2, h3, fun b hb => ?_⟩
  obtain ⟨c, a1, a2, a3, a4⟩ := h4 b hb
  exact ⟨c, a1, a2, fun id hi => ⟨fun k => (a3 id hi).1 (hk id k), (a3 id hi).2⟩, a4⟩
theorem DInv.push {K : Nat → Prop} {d n : Nat} {f : Nat → List Int} {Y : Hp} (h : DInv K d n f Y) {b : Nat} (hb : b < n) (x : Int) (hl : (f b).length + 1 ≤ LIM) (B : Hp) :
    ∃ c c' Z cells, (∃ o g n, c' = .sl o g 0 n) ∧ rdC Y d 0 b = some c ∧ doApp (Y ++ B) 1 c 1 [.i x] = some (.c c', Z) ∧ rdOb Z d 0 = some ⟨cells, 0, true, 1⟩ ∧ b + 1 ≤ cells.length ∧
      DInv K d n (fun j => if j = b then f b ++ [x] else f j) (Z.set d ⟨putAt cells b [c'], 0, true, 1⟩) ∧ ∀ id g ob, K id → rdOb Y id g = some ob → rdOb (Z.set d ⟨putAt cells b [c'], 0, true, 1⟩) id g = some ob := by
  obtain ⟨h1, cells, h2, h3, h4⟩ := h.app B
  have h1' := h.kd
  obtain ⟨_, cells0, h20, _, _⟩ := h
  have e0 : cells0 = cells := by
    have := rdOb_app B h20
    rw [h2] at this
    injection this with this; injection this with this; exact this.symm
  subst e0
  obtain ⟨c, a1, a2, a3, a4⟩ := h4 b hb
  obtain ⟨c', Z, p1, p2, p3, p4, p5, _⟩ := a2.push x hl
  have hdc : ¬ IsOut c d := fun hi => (a3 d hi).2 rfl
  have hdZ := p4 d 0 _ hdc h2
  have hdl := rdOb_lt hdZ
  have hbl : b < cells0.length := by omega
  have hc's : ∃ o g n, c' = .sl o g 0 n := by
    rcases p2 with ⟨_, h⟩ | ⟨o, g, h, _⟩
    · simp at h
    · exact ⟨o, g, _, h⟩
  refine ⟨c, c', Z, cells0, hc's, by rw [rdC_ob h20]; exact a1, p1, hdZ, by omega, ⟨fun id hi => ⟨(h1 id hi).1, by have := (h1 id hi).2; rw [List.length_set]; omega⟩, cells0.set b c', ?_, by simp [h3], fun j hj => ?_⟩, fun id g ob hk ho => ?_⟩
  · rw [rdOb_set_self hdl, putAt_get hbl]; simp
  · have hc'd : ∀ id, IsOut c' id → ¬ K id ∧ id ≠ d := by
      intro id hi
      rcases p5 id hi with h7 | h7
      · exact a3 id h7
      · exact ⟨fun hk => by have := (h1 id hk).2; omega, by have := rdOb_lt h2; omega⟩
    by_cases e : j = b
    · subst e
      refine ⟨c', by rw [List.getElem?_set]; simp [hbl], ?_, hc'd, fun b' c2 hb' hne hc2 id hi => ?_⟩
      · simp only [if_true]
        exact p2.keep fun id g ob hi ho => by rw [rdOb_set_ne (hc'd id hi).2]; exact ho
      · rw [List.getElem?_set, if_neg (by omega)] at hc2
        obtain ⟨c3, q1, q2, _, _⟩ := h4 b' hb'
        rw [hc2] at q1; injection q1 with q1; subst q1
        rcases p5 id hi with h7 | h7
        · exact a4 b' c2 hb' hne hc2 id h7
        · intro hi2
          have := q2.lt hi2
          omega
    · obtain ⟨cj, q1, q2, q3, q4⟩ := h4 j hj
      refine ⟨cj, by rw [List.getElem?_set, if_neg (by omega)]; exact q1, ?_, q3, fun b' c2 hb' hne hc2 id hi => ?_⟩
      · rw [if_neg e]
        exact q2.keep fun id g ob hi ho => by
          rw [rdOb_set_ne (q3 id hi).2]
          exact p4 id g ob (a4 j cj hj e q1 id |> fun h hc => (q4 b c hb (fun e' => e e'.symm) a1 id hi) hc) ho
      · rw [List.getElem?_set] at hc2
        split at hc2
        · rename_i e2
          subst e2
          injection hc2 with hc2
          subst hc2
          intro hi2
          rcases p5 id hi2 with h7 | h7
          · exact q4 b c hb hne a1 id hi h7
          · have := q2.lt hi
            omega
        · exact q4 b' c2 hb' hne hc2 id hi
  · rw [rdOb_set_ne (h1' id hk).1]
    exact p4 id g ob (fun hi => (a3 id hi).1 hk) (rdOb_app B ho)
/-- What is answered: a row of rows. -/
def DomsRes (H : Hp) (bs : List BlkR) (r : IV × Hp) : Prop := ∃ d X' cells, r = (.c (.sl d 0 0 bs.length), X') ∧ Pre H X' ∧ rdOb X' d 0 = some ⟨cells, 0, true, 1⟩ ∧ cells.length = bs.length ∧ ∀ b, b < bs.length → ∃ c, cells[b]? = some c ∧ IsI X' c (domF bs b)
theorem OutR.isI {X : Hp} {w : CV} {out : List Int} (h : OutR X w out) : IsI X w out := by
  rcases h with ⟨rfl, rfl⟩ | ⟨o, g, rfl, ho⟩
  · exact IsI.ns _
  · exact IsI.mk ho rfl (by simp) (by rw [List.drop_zero, List.take_of_length_le (by simp)])
theorem DInv.res {K : Nat → Prop} {H Y : Hp} {d : Nat} {bs : List BlkR} (h : DInv K d bs.length (domF bs) Y) (hp : Pre H Y) (hd : H.length ≤ d) : DomsRes H bs (gcRet H (.c (.sl d 0 0 bs.length)) Y) := by
  obtain ⟨_, cells, h2, h3, h4⟩ := h
  by_cases hf : cells.all flatC = true
  · rw [gcRet_row hp hd h2 rfl hf]
    refine ⟨H.length, _, cells, rfl, ⟨_, rfl⟩, by simp, h3, fun b hb => ?_⟩
    obtain ⟨c, a1, a2, _, _⟩ := h4 b hb
    refine ⟨c, a1, ?_⟩
    rcases a2 with ⟨rfl, e⟩ | ⟨o, g, rfl, _⟩
    · rw [e]; exact IsI.ns _
    · have := List.all_eq_true.1 hf _ (List.mem_of_getElem? a1)
      cases this
  · have e : gcRet H (.c (.sl d 0 0 bs.length)) Y = (.c (.sl d 0 0 bs.length), Y) := by
      unfold gcRet
      rw [if_pos hp.take, if_neg (by simp [flatV, flatC])]
      simp only [hd, if_true, (rdOb_some.1 h2).1]
      rw [if_neg (by simp [hf])]
    rw [e]
    refine ⟨d, Y, cells, rfl, hp, h2, h3, fun b hb => ?_⟩
    obtain ⟨c, a1, a2, _, _⟩ := h4 b hb
    exact ⟨c, a1, a2.isI⟩
theorem DInv.congr {K : Nat → Prop} {d n : Nat} {f f' : Nat → List Int} {Y : Hp} (h : DInv K d n f Y) (hf : ∀ b, b < n → f b = f' b) : DInv K d n f' Y := by
  obtain ⟨h1, cells, h2, h3, h4⟩ := h
  refine ⟨h1, cells, h2, h3, fun b hb => ?_⟩
  obtain ⟨c, a1, a2, a3, a4⟩ := h4 b hb
  exact ⟨c, a1, by rw [← hf b hb]; exact a2, a3, a4⟩
theorem putAt_one (x y : CV) : putAt [x] 0 [y] = [y] := rfl
theorem ns_flat (n : Nat) : (List.replicate n [CV.ns]).flatten = List.replicate n .ns := by
  induction n with
  | zero => rfl
  | succ n ih => simp [List.replicate_succ, ih]
theorem DInv.start {Y : Hp} {n : Nat} : DInv (fun id => id < Y.length) Y.length n (fun _ => []) (Y ++ [⟨List.replicate n .ns, 0, true, 1⟩]) := by
  refine ⟨fun id hi => ⟨by omega, by simp; omega⟩, List.replicate n .ns, by simp, by simp, fun b hb => ⟨.ns, by simp [hb], .inl ⟨rfl, rfl⟩, (fun id ⟨_, _, h⟩ => by cases h), fun b' c' _ _ _ id ⟨_, _, h⟩ => by cases h⟩⟩

theorem implDoms {H : Hp} {v : CV} {bs : List BlkR} {m : Int} (hv : Blocks H v bs) (hb : bs.length ≤ BIG) (hsh : shapeB ⟨bs, m⟩ = true) : CM 92 [.agg [v, .i m]] H (DomsRes H bs) := by
  refine cw92 ?_
  unfold vf92c
  have hin : InRange bs := shape_range hsh
  have h0 : 0 < bs.length := shape_pos hsh
  have hlim : bs.length ≤ LIM := by simp only [BIG] at hb; simp only [LIM]; omega
  simp [implShape (f := ⟨bs, m⟩) (hv.app _) hb, hsh]
  refine (implOrder (hv.app _) hin hb h0).mono ?_
  rintro _ ⟨o, g, s, gs, X1, rfl, hp1, ho1, hs1, h3, hseen⟩
  have hpH : Pre H X1 := Pre.trans ⟨_, rfl⟩ hp1
  have hbox : rdOb X1 H.length 0 = some ⟨[v, .i m], 0, true, 2⟩ := box_get hp1
  have hv1 : Blocks X1 v bs := hv.pre hpH
  have hsl : (seenF bs).length = bs.length := (walk0_ok h0).1
  have hsx := rdOb_lt hseen
  have hbx := rdOb_lt hbox
  simp [rdC_ob hbox, hv1.lenOf, (hv1.app _).lenOf, hlim, ns_flat, rdC_ob (rdOb_app _ hbox)]
  obtain ⟨d, hd⟩ : ∃ d, d = X1.length := ⟨_, rfl⟩
  have hst := DInv.start (Y := X1) (n := bs.length)
  rw [← hd] at hst
  have hlow0 : Low d X1 (X1 ++ [⟨List.replicate bs.length .ns, 0, true, 1⟩]) := Low.app _ _ _
  obtain ⟨I, hI⟩ : ∃ I : Nat → St → Prop, ∀ i st, I i st ↔ (DInv (fun id => id < d) d bs.length (domTo bs i) st.h ∧ Low d X1 st.h ∧ Env.get st.e 1 = .c (.p H.length 0 0) ∧ Env.get st.e 4 = .c (.sl s gs 0 bs.length) ∧ Env.get st.e 5 = .c (.sl d 0 0 bs.length) ∧ Env.get st.e 24 = .c (.i bs.length) ∧ Env.get st.e 25 = .c (.i i)) := ⟨_, fun _ _ => Iff.rfl⟩
  rw [← hd]
  refine wp_for CM_mono bs.length I ((hI _ _).2 ⟨hst.congr fun b _ => by simp [domTo], hlow0, by simp⟩) ?_ ?_
  · rintro i ⟨e, Y⟩ hi hIs
    obtain ⟨hD, hL, h1, h4, h5, h24, h25⟩ := (hI _ _).1 hIs
    simp only at hD hL h1 h4 h5 h24 h25 ⊢
    have hboxY := hL _ _ _ (by omega) hbox
    have hvY : Blocks Y v bs := hv1.pre (hL.pre (Pre.refl _) (by omega))
    obtain ⟨Y1, hY1⟩ : ∃ Y1, Y ++ [(⟨(withoutF bs i).map .b, 0, true, 1⟩ : Ob)] = Y1 := ⟨_, rfl⟩
    have hD1 := hD.also (L := [(⟨(withoutF bs i).map .b, 0, true, 1⟩ : Ob)]) (by simp)
    have hw1 : rdOb Y1 Y.length 0 = some ⟨(withoutF bs i).map .b, 0, true, 1⟩ := by rw [← hY1]; simp
    have hL1 : Low d X1 Y1 := by rw [← hY1]; exact hL.trans (Low.app _ _ _)
    rw [hY1] at hD1
    have hwl := withoutF_len bs i
    unfold vf92b1
    simp [h1, h4, h5, h24, h25, hi, rdN_ob hboxY, implWithout (m := m) hvY hin hb hi, hY1]
    obtain ⟨J, hJ⟩ : ∃ J : Nat → St → Prop, ∀ j st, J j st ↔ (DInv (fun id => id < d ∨ id = Y.length) d bs.length (fun b => if b < j then domTo bs (i + 1) b else domTo bs i b) st.h ∧ Low d X1 st.h ∧ rdOb st.h Y.length 0 = some ⟨(withoutF bs i).map .b, 0, true, 1⟩ ∧
      Env.get st.e 1 = .c (.p H.length 0 0) ∧ Env.get st.e 4 = .c (.sl s gs 0 bs.length) ∧ Env.get st.e 5 = .c (.sl d 0 0 bs.length) ∧ Env.get st.e 6 = .c (.i i) ∧ Env.get st.e 7 = .c (.sl Y.length 0 0 bs.length) ∧ Env.get st.e 24 = .c (.i bs.length) ∧ Env.get st.e 25 = .c (.i i) ∧
      Env.get st.e 31 = .c (.sl s gs 0 bs.length) ∧ Env.get st.e 32 = .c (.i bs.length) ∧ Env.get st.e 33 = .c (.i j)) := ⟨_, fun _ _ => Iff.rfl⟩
    refine wp_for CM_mono bs.length J ((hJ _ _).2 ⟨hD1.congr fun b _ => by simp, hL1, hw1, by simp [h1, h4, h5, h24, h25]⟩) ?_ ?_
    · rintro j ⟨e', Z⟩ hj hJs
      obtain ⟨hE, hM, hw, h1, h4, h5, h6, h7, h24, h25, h31, h32, h33⟩ := (hJ _ _).1 hJs
      simp only at hE hM hw h1 h4 h5 h6 h7 h24 h25 h31 h32 h33 ⊢
      have hsZ := hM _ _ _ (by omega) hseen
      have gs1 : (seenF bs).getD i false = (seenF bs)[i]'(by omega) := getD_at (by omega) false
      have gs2 : (seenF bs).getD j false = (seenF bs)[j]'(by omega) := getD_at (by omega) false
      have gs3 : (withoutF bs i).getD j false = (withoutF bs i)[j]'(by omega) := getD_at (by omega) false
      have hdom : domB bs j i = ((seenF bs)[i]'(by omega) && (seenF bs)[j]'(by omega) && !(withoutF bs i)[j]'(by omega)) := by unfold domB; rw [gs1, gs2, gs3]
      have hsucc := domTo_succ bs i j
      have hfl : domB bs j i = false → DInv (fun id => id < d ∨ id = Y.length) d bs.length (fun b => if b < j + 1 then domTo bs (i + 1) b else domTo bs i b) Z := fun hf => hE.congr fun b _ => by
        rw [hf] at hsucc
        by_cases e1 : b < j
        · rw [if_pos e1, if_pos (by omega)]
        · by_cases e2 : b = j
          · subst e2; rw [if_neg e1, if_pos (by omega), hsucc]; simp
          · rw [if_neg e1, if_neg (by omega)]
      have hsj : j < (seenF bs).length := by omega
      have hsi : i < (seenF bs).length := by omega
      have hwj : j < (withoutF bs i).length := by omega
      unfold vf92b0
      have hju := up1 hj hb
      clear hju
      by_cases ha : (seenF bs)[j] = true
      · by_cases hb' : (withoutF bs i)[j] = true
        · have hf : domB bs j i = false := by rw [hdom, hb']; simp
          simp [h1, h4, h5, h6, h7, h24, h25, h31, h32, h33, hj, hi, idxOf, rdC_ob hsZ, rdC_ob hw, hsj, hsi, hwj, ha, hb', up1 hj hb]
          exact (hJ _ _).2 ⟨hfl hf, hM, hw, by simp [h1, h4, h5, h6, h7, h24, h25, h31, h32]⟩
        · have hb2 : (withoutF bs i)[j] = false := by simpa using hb'
          by_cases hc : (seenF bs)[i] = true
          · have ht : domB bs j i = true := by rw [hdom, hb2, hc, ha]; rfl
            obtain ⟨c, c', Z2, cells, ⟨oo, og, on, rfl⟩, p1, p2, p3, p4, p5, p6⟩ := hE.push hj (i : Int) (by rw [if_neg (Nat.lt_irrefl _)]; have := domTo_le bs i j; simp only [LIM]; simp only [BIG] at hb; omega) [⟨[.i (i : Int)], 0, true, 1⟩]
            simp [h1, h4, h5, h6, h7, h24, h25, h31, h32, h33, hj, hi, idxOf, rdC_ob hsZ, rdC_ob hw, hsj, hsi, hwj, ha, hb2, hc, up1 hj hb, p1, srcOf, putAt_one, p2, p3, p4]
            rw [ht] at hsucc
            refine (hJ _ _).2 ⟨p5.congr fun b _ => ?_, fun id g ob hid ho => p6 id g ob (.inl hid) (hM id g ob hid ho), p6 _ _ _ (.inr rfl) hw, by simp [h1, h4, h5, h6, h7, h24, h25, h31, h32]⟩
            by_cases e2 : b = j
            · subst e2; rw [if_pos rfl, if_neg (Nat.lt_irrefl _), if_pos (by omega), hsucc]; simp
            · rw [if_neg e2]
              by_cases e1 : b < j
              · rw [if_pos e1, if_pos (by omega)]
              · rw [if_neg e1, if_neg (by omega)]
          · have hc2 : (seenF bs)[i] = false := by simpa using hc
            have hf : domB bs j i = false := by rw [hdom, hc2]; simp
            simp [h1, h4, h5, h6, h7, h24, h25, h31, h32, h33, hj, hi, idxOf, rdC_ob hsZ, rdC_ob hw, hsj, hsi, hwj, ha, hb2, hc2, up1 hj hb]
            exact (hJ _ _).2 ⟨hfl hf, hM, hw, by simp [h1, h4, h5, h6, h7, h24, h25, h31, h32]⟩
      · have ha2 : (seenF bs)[j] = false := by simpa using ha
        have hf : domB bs j i = false := by rw [hdom, ha2]; simp
        simp [h1, h4, h5, h6, h7, h24, h25, h31, h32, h33, hj, hi, idxOf, rdC_ob hsZ, rdC_ob hw, hsj, hsi, hwj, ha2, up1 hj hb]
        exact (hJ _ _).2 ⟨hfl hf, hM, hw, by simp [h1, h4, h5, h6, h7, h24, h25, h31, h32]⟩
    · rintro ⟨e', Z⟩ hJs
      obtain ⟨hE, hM, hw, h1, h4, h5, h6, h7, h24, h25, h31, h32, h33⟩ := (hJ _ _).1 hJs
      simp only at hE hM hw h1 h4 h5 h6 h7 h24 h25 h31 h32 h33 ⊢
      unfold vf92b0
      simp [h1, h4, h5, h6, h7, h24, h25, h31, h32, h33, up1 hi hb]
      exact (hI _ _).2 ⟨(hE.weak fun id h => .inl h).congr fun b hb => by rw [if_pos hb], hM, by simp [h1, h4, h5, h24]⟩
  · rintro ⟨e, Y⟩ hIs
    obtain ⟨hD, hL, h1, h4, h5, h24, h25⟩ := (hI _ _).1 hIs
    simp only at hD hL h1 h4 h5 h24 h25 ⊢
    unfold vf92b1
    simp [h1, h4, h5, h24, h25]
    exact DInv.res hD (hL.pre hpH (by omega)) (by omega)
end Go.Proofs.Ytnmnpfdjigpgaaa.Vm
