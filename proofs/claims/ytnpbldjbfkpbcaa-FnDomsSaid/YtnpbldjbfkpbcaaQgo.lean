import Derived.Test.YtnpbldjbfkpbcaaQgn
import Derived.Test.YtnpbldjbfkpbcaaQfe
import Derived.Test.YtnpbldjbfkpbcaaQze
section
/- A drawn program; who stands on every way to whom, as the law asks. No conditions. -/
namespace Go.Proofs.Ytnpbldjbfkpbcaa.Vm
open Go.RowKit (wrap64)
set_option linter.unusedSimpArgs false
set_option linter.unusedVariables false

theorem drawDoms {H : Hp} {v : CV} {xs : List Int} (hv : IsB H v xs) (hb : xs.length ≤ BIG) : CM 45 [.c v] H (FnOut H) := by
  refine cw45 ?_
  unfold vf45c
  simp
  have hv1 : IsB (H ++ [(⟨[.ns, .i 0], 0, true, 2⟩ : Ob)]) v xs := Sl.app _ hv
  have hl : (H ++ [(⟨[.ns, .i 0], 0, true, 2⟩ : Ob)]).length = H.length + 1 := by simp
  have hR : rdOb (H ++ [(⟨[.ns, .i 0], 0, true, 2⟩ : Ob)]) H.length 0 = some ⟨[.ns, .i 0], 0, true, 2⟩ := by simp
  have hp1 : Pre H (H ++ [(⟨[.ns, .i 0], 0, true, 2⟩ : Ob)]) := ⟨_, rfl⟩
  generalize H ++ [(⟨[.ns, .i 0], 0, true, 2⟩ : Ob)] = X0 at hv1 hl hR hp1 ⊢
  refine (new_call hv1 hb).mono ?_
  rintro _ ⟨h, rfl⟩
  have hc := new_cur hv1 hb h
  have hR1 := rdOb_app [(⟨[v, .i 0, .i h], 0, true, 3⟩ : Ob)] hR
  have hp2 : Pre H (X0 ++ [(⟨[v, .i 0, .i h], 0, true, 3⟩ : Ob)]) := hp1.app _
  have hl1 : (X0 ++ [(⟨[v, .i 0, .i h], 0, true, 3⟩ : Ob)]).length = H.length + 2 := by simp [hl]
  generalize X0 ++ [(⟨[v, .i 0, .i h], 0, true, 3⟩ : Ob)] = X1 at hc hR1 hp2 hl1 ⊢
  simp
  refine (draw_call hc).mono ?_
  rintro _ ⟨X, w, m, bs, rfl, ⟨d, g, rfl⟩, C, hB, hbl, hb0⟩
  have hRX := C.keep _ _ _ (by omega) hR1
  have hrd : rdN (X.set H.length ⟨[.sl d g 0 bs.length, .i m], 0, true, 2⟩) H.length 0 0 2 = some [.sl d g 0 bs.length, .i m] := by
    rw [rdN_ob (o := ⟨[.sl d g 0 bs.length, .i m], 0, true, 2⟩) (by rw [rdOb_set_self (rdOb_lt hRX)]; simp)]; simp
  have hgc : ∀ (Y : Hp), gcRet H (.agg [.sl d g 0 bs.length, .i m]) Y = (.agg [.sl d g 0 bs.length, .i m], Y) := fun Y => by
    unfold gcRet; split
    · rw [if_neg (by simp [flatV, flatC])]
    · rfl
  simp [putD0', hRX, hrd, hgc]
  exact ⟨_, _, m, bs, rfl, rfl, ((C.pre hp2 (by omega)).set (Nat.le_refl _) _), hB _ (Hi.set (lo := X1.length) (by omega) _), hbl, hb0⟩
theorem within_call {H : Hp} {v : CV} {xs : List Int} {x : Int} (hv : IsI H v xs) (hb : xs.length ≤ BIG) (k : IV × Hp → Prop) :
    CM 49 [.c v, .c (.i x)] H k = k (.c (.b (hasI xs x)), H) := by
  refine det (cw49 ?_) k
  unfold vf49c
  simp
  refine wp_for CM_mono xs.length (fun i s => (∀ j (hj : j < i) (hx : j < xs.length), ¬ x = xs[j]) ∧ s.h = H ∧ Env.get s.e 0 = .c v ∧ Env.get s.e 1 = .c (.i x) ∧ Env.get s.e 5 = .c (.i i)) (by simp) ?_ ?_
  · rintro i ⟨e, X⟩ hi ⟨ht, rfl, h0, h1, h5⟩
    simp only at h0 h1 h5 hv ⊢
    obtain ⟨id, g, off, q1, q2⟩ := hv.at_ hi
    unfold vf49b0
    by_cases hpx : x = xs[i]
    · have : hasI xs x = true := hasI_iff.2 (by rw [hpx]; exact List.getElem_mem hi)
      simp [h0, h1, h5, q1, q2, hi, hv.lenOf, hpx.symm, this]
    · have hpx' : ¬ xs[i] = x := fun h => hpx h.symm
      simp [h0, h1, h5, q1, q2, hi, hv.lenOf, up1 hi hb, hpx']
      intro j hj hx
      by_cases e : j = i
      · subst e; exact hpx
      · exact ht j (by omega) hx
  · rintro ⟨e, X⟩ ⟨ht, rfl, h0, h1, h5⟩
    simp only at h0 h1 h5 hv ⊢
    unfold vf49b0
    have : hasI xs x = false := by
      cases hc : hasI xs x with
      | false => rfl
      | true =>
        obtain ⟨j, hj, he⟩ := List.getElem_of_mem (hasI_iff.1 hc)
        exact (ht j hj hj he.symm).elim
    simp [h0, h1, h5, hv.lenOf, this]
/-! ### The plain law -/
theorem mem_preds {bs : List BlkR} {b : Int} {p : Int} (h : p ∈ predsF bs b) : ∃ k : Nat, p = k ∧ k < bs.length ∧ b ∈ succsAt bs k := by
  unfold predsF predsTo at h
  rw [List.mem_map] at h
  obtain ⟨k, hk, rfl⟩ := h
  rw [List.mem_filter, List.mem_range] at hk
  exact ⟨k, rfl, hk.1, hasI_iff.1 hk.2⟩
theorem preds_mem {bs : List BlkR} {b : Int} {k : Nat} (hk : k < bs.length) (h : b ∈ succsAt bs k) : (k : Int) ∈ predsF bs b := by
  unfold predsF predsTo
  rw [List.mem_map]
  exact ⟨k, by rw [List.mem_filter, List.mem_range]; exact ⟨hk, hasI_iff.2 h⟩, rfl⟩
theorem hasI_dom {bs : List BlkR} (hin : InRange bs) {a b : Nat} (ha : a < bs.length) (hb : b < bs.length) : hasI (domF bs b) a = true ↔ Dom bs a b := by
  rw [hasI_iff, ← domB_iff hin ha hb]
  exact ⟨domB_of_mem, mem_domF ha⟩
def okPred (bs : List BlkR) (a : Nat) (p : Int) : Bool := !(seenF bs).getD p.toNat false || hasI (domF bs p.toNat) a
def okB (bs : List BlkR) (b a : Nat) : Bool := decide ((b : Int) ≠ 0) && (predsF bs b).all (okPred bs a)
theorem dom_plain {bs : List BlkR} (hin : InRange bs) {a b : Nat} (ha : a < bs.length) (hb : b < bs.length) (ra : (seenF bs).getD a false = true) (rb : (seenF bs).getD b false = true) :
    (okB bs b a || decide ((a : Int) = b)) = hasI (domF bs b) a := by
  have RA := (seen_rch hin ha).1 ra
  have RB := (seen_rch hin hb).1 rb
  rw [Bool.eq_iff_iff, hasI_dom hin ha hb, Bool.or_eq_true, decide_eq_true_eq]
  constructor
  · rintro (h | h)
    · unfold okB at h
      rw [Bool.and_eq_true, decide_eq_true_eq, List.all_eq_true] at h
      refine ⟨RA, RB, fun hr => ?_⟩
      cases hr with
      | start _ => exact h.1 rfl
      | @step p _ hp hs hk =>
        have hpl : p < bs.length := by
          cases Nat.lt_or_ge p bs.length with
          | inl h => exact h
          | inr h => rw [succsAt, List.getElem?_eq_none h] at hs; cases hs
        have h1 := h.2 p (preds_mem hpl hs)
        have RP : Rch bs (fun _ => False) 0 p := hp.mono fun _ h => h.elim
        unfold okPred at h1
        rw [Int.toNat_natCast, (seen_rch hin hpl).2 RP] at h1
        exact ((hasI_dom hin ha hpl).1 (by simpa using h1)).2.2 hp
    · have : a = b := by omega
      subst this; exact Dom.self RA
  · intro hd
    by_cases e : a = b
    · exact .inr (by omega)
    · refine .inl ?_
      have hb0 : ¬ (b = 0) := by
        rintro rfl
        exact hd.2.2 (.start fun h => e h.symm)
      unfold okB
      rw [Bool.and_eq_true, decide_eq_true_eq, List.all_eq_true]
      refine ⟨by omega, fun p hp => ?_⟩
      obtain ⟨k, rfl, hk, hs⟩ := mem_preds hp
      unfold okPred
      rw [Int.toNat_natCast]
      cases hsn : (seenF bs).getD k false with
      | false => rfl
      | true =>
        have RK := (seen_rch hin hk).1 hsn
        simp only [Bool.not_true, Bool.false_or]
        rw [hasI_dom hin ha hk]
        exact ⟨RA, RK, fun hr => hd.2.2 (.step hr hs fun h => e h.symm)⟩
theorem dom_none {bs : List BlkR} {b : Nat} (rb : (seenF bs).getD b false = false) : domF bs b = [] := by
  unfold domF domTo
  rw [List.map_eq_nil_iff, List.filter_eq_nil_iff]
  intro x _
  unfold domB
  rw [rb]; simp
theorem dom_zero {bs : List BlkR} (hin : InRange bs) {b : Nat} (hb : b < bs.length) (rb : (seenF bs).getD b false = true) : hasI (domF bs b) 0 = true ∧ hasI (domF bs b) b = true := by
  have RB := (seen_rch hin hb).1 rb
  have R0 : Rch bs (fun _ => False) 0 0 := .start fun h => h
  exact ⟨(hasI_dom (a := 0) hin (by omega) hb).2 ⟨R0, RB, rch_zero⟩, (hasI_dom hin hb hb).2 (Dom.self RB)⟩
/-! ### The law -/
theorem doms_law {H : Hp} {v : CV} {xs : List Int} (hv : IsB H v xs) : CM 8 [.c v] H Tru := by
  refine cw8 ?_
  unfold vf8c
  by_cases hbig : 1048576 < xs.length
  · simp [big_call hv.lenOf, hbig]
  · have hb : xs.length ≤ BIG := by simp only [BIG]; omega
    simp [big_call hv.lenOf, hbig]
    refine (drawDoms hv hb).mono ?_
    rintro _ ⟨X, w, m, bs, rfl, hfl, hp, hB, hbl, h0⟩
    obtain ⟨X1, hX1⟩ : ∃ X1, X ++ [(⟨[w, .i m], 0, true, 2⟩ : Ob)] = X1 := ⟨_, rfl⟩
    have hB1 : Blocks X1 w bs := by rw [← hX1]; exact hB.app _
    have hF1 : rdOb X1 X.length 0 = some ⟨[w, .i m], 0, true, 2⟩ := by rw [← hX1]; simp
    have hr1 : rdN X1 X.length 0 0 2 = some [w, .i m] := by rw [rdN_ob hF1]; simp
    obtain ⟨f, hf⟩ : ∃ f : FnR, f = ⟨bs, m⟩ := ⟨_, rfl⟩
    obtain rfl : bs = f.blocks := by rw [hf]
    obtain rfl : m = f.values := by rw [hf]
    clear hf
    simp [putD0', hX1, hr1]
    refine (implDomsX hB1 hbl).mono ?_
    rintro _ ⟨w4, X2, rfl, hp2, ho4⟩
    have r4 := ho4.rowsI
    simp [rdN_ob (hp2.rdOb hF1), r4.1]
    refine (specDomsX (hB1.pre hp2) hbl).mono ?_
    rintro _ ⟨w5, X3, rfl, hp3, r5⟩
    have hF3 := (hp2.trans hp3).rdOb hF1
    obtain ⟨wr, Lr, hR, er⟩ := implReached0 (f := f) (hB1.pre (hp2.trans hp3)) hbl
    obtain ⟨X4, hX4⟩ : ∃ X4, X3 ++ Lr = X4 := ⟨_, rfl⟩
    have hp4 : Pre X3 X4 := ⟨_, hX4.symm⟩
    have hRL := hR.isL
    rw [hX4] at hRL
    have r4' := r4.pre (hp3.trans hp4)
    have hF4 := hp4.rdOb hF3
    have hB4 := hB1.pre ((hp2.trans hp3).trans hp4)
    simp [r5.1, rdN_ob hF3, er, hX4]
    obtain ⟨I, hI⟩ : ∃ I : Nat → St → Prop, ∀ i st, I i st ↔ (Pre X4 st.h ∧ Env.get st.e 3 = .c (.p X.length 0 0) ∧ Env.get st.e 4 = .c w4 ∧ Env.get st.e 5 = .c wr ∧ Env.get st.e 6 = .c (.i i)) := ⟨_, fun _ _ => Iff.rfl⟩
    refine wp_for CM_mono (domN f) I ((hI _ _).2 ⟨Pre.refl _, by simp⟩) ?_ ?_
    · rintro b ⟨e, Y⟩ hb' hIs
      obtain ⟨hY, e3, e4, e5, e6⟩ := (hI _ _).1 hIs
      simp only at hY e3 e4 e5 e6 ⊢
      have hsh : shapeB f = true := by
        unfold domN at hb'
        cases hs : shapeB f with
        | true => rfl
        | false => rw [hs] at hb'; simp at hb'
      have hdn : domN f = f.blocks.length := by unfold domN; rw [if_pos hsh]
      have hin := shape_range hsh
      have hrl : (reach0 f).length = f.blocks.length := by unfold reach0; rw [if_pos hsh]; exact (walk0_ok h0).1
      have hrs : reach0 f = seenF f.blocks := by unfold reach0; rw [if_pos hsh]
      rw [hdn] at hb'
      have hsb : (seenF f.blocks).getD b false = (reach0 f)[b]'(by omega) := by rw [getD_at (by rw [← hrs]; omega)]; simp only [hrs]
      have rY := r4'.pre hY
      have hRLY := hRL.pre hY
      have hFY := hY.rdOb hF4
      have hBY := hB4.pre hY
      have hl4 : lenOf w4 = some f.blocks.length := by rw [rY.1, hdn]
      obtain ⟨id, g, off, c, p1, p2, p3⟩ := rY.2 b (by omega)
      obtain ⟨id', g', off', q1, q2⟩ := hRLY.at_ (k := b) (by omega)
      have hdl := domF_le hbl b
      unfold vf8b2
      cases hrb : (reach0 f)[b]'(by omega) with
      | false =>
        have hnil : domF f.blocks b = [] := dom_none (by rw [hsb, hrb])
        rw [hrb] at q2
        rw [hnil] at p3
        simp [e3, e4, e5, e6, hl4, hb', q1, q2, p1, p2, p3.lenOf, up1 hb' hbl]
        exact (hI _ _).2 ⟨hY, by simp [e3, e4, e5]⟩
      | true =>
        rw [hrb] at q2
        have hz := dom_zero hin hb' (by rw [hsb, hrb])
        obtain ⟨wp, Lp, hP, ep⟩ := implPreds0 (f := f) (b := (b : Int)) hBY hbl
        obtain ⟨Y1, hY1⟩ : ∃ Y1, Y ++ Lp = Y1 := ⟨_, rfl⟩
        have hpY : Pre Y Y1 := ⟨_, hY1.symm⟩
        have hPI := hP.isI
        rw [hY1] at hPI
        have hpl := preds0_le (f := f) (b := (b : Int)) hbl
        have hpe : preds0 f b = predsF f.blocks b := by
          unfold preds0
          rw [if_pos (by unfold rightB inB; rw [hsh]; simp; omega)]
        rw [hpe] at hPI hpl
        simp [e3, e4, e5, e6, hl4, hb', q1, q2, p1, p2, within_call p3 hdl, hz.1, hz.2, rdN_ob hFY, ep, hY1]
        have rY1 := rY.pre hpY
        have hRL1 := hRLY.pre hpY
        obtain ⟨J, hJ⟩ : ∃ J : Nat → St → Prop, ∀ i st, J i st ↔ (st.h = Y1 ∧ Env.get st.e 3 = .c (.p X.length 0 0) ∧ Env.get st.e 4 = .c w4 ∧ Env.get st.e 5 = .c wr ∧ Env.get st.e 6 = .c (.i b) ∧ Env.get st.e 7 = .c wp ∧ Env.get st.e 8 = .c (.i i)) := ⟨_, fun _ _ => Iff.rfl⟩
        refine wp_for CM_mono f.blocks.length J ((hJ _ _).2 ⟨rfl, by simp [e3, e4, e5, e6]⟩) ?_ ?_
        · rintro a ⟨e', Y2⟩ ha hJs
          obtain ⟨rfl, e3, e4, e5, e6, e7, e8⟩ := (hJ _ _).1 hJs
          simp only at e3 e4 e5 e6 e7 e8 rY1 hRL1 hPI hpY ⊢
          obtain ⟨id1, g1, off1, c1, s1, s2, s3⟩ := rY1.2 b (by omega)
          obtain ⟨id2, g2, off2, t1, t2⟩ := hRL1.at_ (k := a) (by omega)
          unfold vf8b1
          simp [e3, e4, e5, e6, e7, e8, hl4, ha]
          obtain ⟨K, hK⟩ : ∃ K : Nat → St → Prop, ∀ i st, K i st ↔ (st.h = Y2 ∧ Env.get st.e 3 = .c (.p X.length 0 0) ∧ Env.get st.e 4 = .c w4 ∧ Env.get st.e 5 = .c wr ∧ Env.get st.e 6 = .c (.i b) ∧ Env.get st.e 7 = .c wp ∧ Env.get st.e 8 = .c (.i a) ∧
            Env.get st.e 9 = .c (.b (decide ((b : Int) ≠ 0) && ((predsF f.blocks b).take i).all (okPred f.blocks a))) ∧ Env.get st.e 10 = .c (.i i)) := ⟨_, fun _ _ => Iff.rfl⟩
          refine wp_for CM_mono (predsF f.blocks b).length K ((hK _ _).2 ⟨rfl, by simp [e3, e4, e5, e6, e7, e8]⟩) ?_ ?_
          · rintro j ⟨e2, Y3⟩ hj hKs
            obtain ⟨rfl, e3, e4, e5, e6, e7, e8, e9, e10⟩ := (hK _ _).1 hKs
            simp only at e3 e4 e5 e6 e7 e8 e9 e10 rY1 hRL1 hPI ⊢
            obtain ⟨pk, hpk, hpk1, _⟩ := mem_preds (List.getElem_mem hj)
            obtain ⟨id3, g3, off3, u1, u2⟩ := hPI.at_ hj
            rw [hpk] at u2
            obtain ⟨id4, g4, off4, x1, x2⟩ := hRL1.at_ (k := pk) (by omega)
            obtain ⟨id5, g5, off5, c5, y1, y2, y3⟩ := rY1.2 pk (by omega)
            have hsucc : ((predsF f.blocks b).take (j + 1)).all (okPred f.blocks a) = (((predsF f.blocks b).take j).all (okPred f.blocks a) && okPred f.blocks a pk) := by
              rw [List.take_succ_eq_append_getElem hj, List.all_append, hpk]; simp
            have hop : okPred f.blocks a pk = (!(reach0 f)[pk]'(by omega) || hasI (domF f.blocks pk) a) := by
              unfold okPred
              rw [Int.toNat_natCast, getD_at (by rw [← hrs]; omega)]
              simp only [hrs]
            have hd5 := domF_le hbl pk
            unfold vf8b0
            cases hA : (decide ((b : Int) ≠ 0) && ((predsF f.blocks b).take j).all (okPred f.blocks a)) with
            | false =>
              rw [hA] at e9
              have hA2 : (decide ((b : Int) ≠ 0) && ((predsF f.blocks b).take (j + 1)).all (okPred f.blocks a)) = false := by
                rw [hsucc, ← Bool.and_assoc, hA]; rfl
              simp [e3, e4, e5, e6, e7, e8, e9, e10, hPI.lenOf, hj, up1 hj hpl]
              exact (hK _ _).2 ⟨rfl, by simp [e3, e4, e5, e6, e7, e8]; simpa using hA2⟩
            | true =>
              rw [hA] at e9
              have hA2 : (decide ((b : Int) ≠ 0) && ((predsF f.blocks b).take (j + 1)).all (okPred f.blocks a)) = (!(reach0 f)[pk]'(by omega) || hasI (domF f.blocks pk) a) := by
                rw [hsucc, ← Bool.and_assoc, hA, hop]; rfl
              cases hrp : (reach0 f)[pk]'(by omega) with
              | false =>
                rw [hrp] at x2 hA2
                simp [e3, e4, e5, e6, e7, e8, e9, e10, hPI.lenOf, hj, up1 hj hpl, u1, u2, x1, x2]
                exact (hK _ _).2 ⟨rfl, by simp [e3, e4, e5, e6, e7, e8]; simpa using hA2⟩
              | true =>
                rw [hrp] at x2 hA2
                simp [e3, e4, e5, e6, e7, e8, e9, e10, hPI.lenOf, hj, up1 hj hpl, u1, u2, x1, x2, y1, y2, within_call y3 hd5]
                exact (hK _ _).2 ⟨rfl, by simp [e3, e4, e5, e6, e7, e8]; simpa using hA2.symm⟩
          · rintro ⟨e2, Y3⟩ hKs
            obtain ⟨rfl, e3, e4, e5, e6, e7, e8, e9, e10⟩ := (hK _ _).1 hKs
            simp only at e3 e4 e5 e6 e7 e8 e9 e10 rY1 hRL1 hPI s2 s3 t2 ⊢
            rw [List.take_length] at e9
            have hok : (decide ((b : Int) ≠ 0) && (predsF f.blocks b).all (okPred f.blocks a)) = okB f.blocks b a := rfl
            rw [hok] at e9
            have hpl2 := fun (ra : (reach0 f)[a]'(by omega) = true) => dom_plain hin ha hb' (by rw [getD_at (by rw [← hrs]; omega)]; simp only [← hrs]; exact ra) (by rw [hsb, hrb])
            unfold vf8b0
            by_cases hab : a = b
            · subst hab
              rw [hrb] at t2
              have hpl3 := hpl2 hrb
              cases hA : okB f.blocks a a <;> rw [hA] at e9 <;> simp [e3, e4, e5, e6, e7, e8, e9, e10, hPI.lenOf, s1, s2, within_call s3 hdl, hz.2, t1, t2, up1 ha hbl] <;> exact (hJ _ _).2 ⟨rfl, by simp [e3, e4, e5, e6, e7]⟩
            · have hab' : ¬ ((a : Int) = b) := by omega
              cases hra : (reach0 f)[a]'(by omega) with
              | false =>
                rw [hra] at t2
                cases hA : okB f.blocks b a <;> rw [hA] at e9 <;> cases hw : hasI (domF f.blocks b) a <;> simp [e3, e4, e5, e6, e7, e8, e9, e10, hPI.lenOf, s1, s2, within_call s3 hdl, hw, hab', hab, t1, t2, up1 ha hbl] <;> exact (hJ _ _).2 ⟨rfl, by simp [e3, e4, e5, e6, e7]⟩
              | true =>
                rw [hra] at t2
                have hpl3 := hpl2 hra
                rw [decide_eq_false hab', Bool.or_false] at hpl3
                cases hA : okB f.blocks b a <;> rw [hA] at e9 hpl3 <;> simp [e3, e4, e5, e6, e7, e8, e9, e10, hPI.lenOf, s1, s2, within_call s3 hdl, ← hpl3, hab', hab, t1, t2, up1 ha hbl] <;> exact (hJ _ _).2 ⟨rfl, by simp [e3, e4, e5, e6, e7]⟩
        · rintro ⟨e', Y2⟩ hJs
          obtain ⟨rfl, e3, e4, e5, e6, e7, e8⟩ := (hJ _ _).1 hJs
          simp only at e3 e4 e5 e6 e7 e8 hpY ⊢
          unfold vf8b1
          simp [e3, e4, e5, e6, e7, e8, hl4, up1 hb' hbl]
          exact (hI _ _).2 ⟨hY.trans hpY, by simp [e3, e4, e5]⟩
    · rintro ⟨e, Y⟩ hIs
      obtain ⟨hY, e3, e4, e5, e6⟩ := (hI _ _).1 hIs
      simp only at hY e3 e4 e5 e6 ⊢
      unfold vf8b2
      simp [e3, e4, e5, e6, (r4'.pre hY).1]
end Go.Proofs.Ytnpbldjbfkpbcaa.Vm
end
