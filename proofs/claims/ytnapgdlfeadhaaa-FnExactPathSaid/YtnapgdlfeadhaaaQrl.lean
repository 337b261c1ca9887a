import Derived.Test.YtnapgdlfeadhaaaP4
import Derived.Test.YtnapgdlfeadhaaaP1
import Derived.Test.YtnapgdlfeadhaaaP2
section
/- The laws of Run and Path: as the specification, and nobody's memory but its own. No conditions. -/
namespace Go.Proofs.Ytnapgdlfeadhaaa.Vm
open Go.RowKit (wrap64)
set_option linter.unusedSimpArgs false
set_option linter.unusedVariables false

/-! ### How much is told -/
theorem runGo_told (bs : List BlkR) : ∀ (n φ b : Nat) (fr : Int) (s : RunS), (runGo bs n φ b fr s).2.2.told.length ≤ s.told.length + φ ∧ (runGo bs n φ b fr s).2.2.path.length ≤ s.path.length + φ + 1 := by
  intro n
  induction n with
  | zero => intro φ b fr s; exact ⟨Nat.le_add_right _ _, by simp only [runGo]; omega⟩
  | succ n ih =>
    intro φ b fr s
    simp only [runGo]
    have h1 := listGo_told (bs.getD b blk0).list φ (comeGo b fr (bs.getD b blk0).phis s)
    have h2 : (comeGo b fr (bs.getD b blk0).phis s).told = s.told := rfl
    have h3 : (comeGo b fr (bs.getD b blk0).phis s).path.length = s.path.length + 1 := by simp [comeGo]
    generalize comeGo b fr (bs.getD b blk0).phis s = s1 at *
    have h4 := listGo_fuel (bs.getD b blk0).list φ s1
    generalize listGo (bs.getD b blk0).list φ s1 = r at *
    have h5 : r.2.2.path.length = s.path.length + 1 := by rw [h1.2]; exact h3
    rw [h2] at h1
    split
    · split
      · exact ⟨by simp only; omega, by simp only; omega⟩
      · split
        · exact ⟨by simp only; omega, by simp only; omega⟩
        · have := ih (r.2.1 - 1) (nextGo (bs.getD b blk0).term r.2.2).toNat (b : Int) r.2.2
          omega
    · exact ⟨by simp only; omega, by simp only; omega⟩
theorem runW_told (f : FnR) (reads : List Int) (fuel : Int) : (runW f reads fuel).2.2.told.length ≤ BIG ∧ (runW f reads fuel).2.2.path.length ≤ BIG := by
  unfold runW
  split
  · have := runGo_told f.blocks ((min fuel 5000).toNat + 1) (min fuel 5000).toNat 0 (-1) (initS f.values reads)
    simp only [initS, List.length_nil] at this ⊢
    simp only [BIG]
    omega
  · simp [BIG]

/-! ### Marks -/
def OwnG (Y : Hp) (w : CV) (n : Nat) (cells : List CV) : Prop := (w = .ns ∧ n = 0 ∧ cells = []) ∨ ∃ id g, w = .sl id g 0 n ∧ rdOb Y id g = some ⟨cells, g, true, 1⟩ ∧ cells.length = n
theorem OutR.ownG {Y : Hp} {w : CV} {xs : List Int} (h : OutR Y w xs) : OwnG Y w xs.length (xs.map .i) := by
  rcases h with ⟨rfl, rfl⟩ | ⟨id, g, rfl, h⟩
  · exact .inl ⟨rfl, rfl, rfl⟩
  · exact .inr ⟨id, g, rfl, h, by simp⟩
theorem OwnG.isI {Y : Hp} {w : CV} {xs : List Int} {n : Nat} (h : OwnG Y w n (xs.map .i)) : IsI Y w xs := by
  rcases h with ⟨rfl, rfl, h⟩ | ⟨id, g, rfl, h, hl⟩
  · have : xs = [] := by simpa using h
    subst this; exact IsI.ns _
  · exact own_isI h (by simpa using hl)
theorem OwnG.keep {Y Z : Hp} {w : CV} {n : Nat} {cells : List CV} (h : OwnG Y w n cells) (hk : ∀ id g o, IsOut w id → rdOb Y id g = some o → rdOb Z id g = some o) : OwnG Z w n cells := by
  rcases h with h | ⟨id, g, rfl, h, hl⟩
  · exact .inl h
  · exact .inr ⟨id, g, rfl, hk _ _ _ ⟨_, _, rfl⟩ h, hl⟩
theorem markG {a : Int} (ha : 0 ≤ a ∧ a ≤ 5000000000000000000) {Y : Hp} {w : CV} {n : Nat} {cells : List CV} (h : OwnG Y w n cells) (hn : n ≤ BIG) :
    ∃ Z, (∀ k : IV × Hp → Prop, CM 49 [.c w, .c (.i a)] Y k = k (.c (.i (a + n)), Z)) ∧ Z.length = Y.length ∧ (∀ id g o, ¬ IsOut w id → rdOb Y id g = some o → rdOb Z id g = some o) ∧ OwnG Z w n ((ups a n).map .i) := by
  rcases h with ⟨rfl, rfl, rfl⟩ | ⟨id, g, rfl, h2, h3⟩
  · refine ⟨Y, fun k => det (cw49 ?_) k, rfl, fun _ _ _ _ h => h, .inl ⟨rfl, rfl, rfl⟩⟩
    unfold vf49c
    simp
    refine wp_for CM_mono 0 (fun i s => s.h = Y ∧ Env.get s.e 0 = .c .ns ∧ Env.get s.e 1 = .c (.i a) ∧ Env.get s.e 5 = .c (.i i)) (by simp) (fun i s h => absurd h (by omega)) ?_
    rintro ⟨e, X⟩ ⟨rfl, h0, h1, h5⟩
    simp only at h0 h1 h5 ⊢
    unfold vf49b0
    simp [h0, h1, h5]
  · have hlt := rdOb_lt h2
    refine ⟨Y.set id ⟨(ups a n).map .i, g, true, 1⟩, fun k => det (cw49 ?_) k, by simp, fun id' g' o hl ho => by rw [rdOb_set_ne (fun e => hl ⟨g, n, by rw [e]⟩)]; exact ho, .inr ⟨id, g, rfl, by rw [rdOb_set_self hlt]; simp, by simp⟩⟩
    unfold vf49c
    simp
    obtain ⟨I, hI⟩ : ∃ I : Nat → St → Prop, ∀ i s, I i s ↔ (s.h = Y.set id ⟨(ups a i).map .i ++ cells.drop i, g, true, 1⟩ ∧ Env.get s.e 0 = .c (.sl id g 0 n) ∧ Env.get s.e 1 = .c (.i (a + i)) ∧ Env.get s.e 5 = .c (.i i)) := ⟨_, fun _ _ => Iff.rfl⟩
    refine wp_for CM_mono n I ((hI _ _).2 ⟨?_, by simp⟩) ?_ ?_
    · have := (rdOb_some.1 h2).1
      simp [ups]
      rw [List.getElem?_eq_getElem hlt] at this
      injection this with this
      rw [← this]; simp
    · rintro i ⟨e, X⟩ hi hIs
      obtain ⟨hX, h0, h1', h5⟩ := (hI _ _).1 hIs
      simp only at hX h0 h1' h5 ⊢
      have ho : rdOb X id g = some ⟨(ups a i).map .i ++ cells.drop i, g, true, 1⟩ := by rw [hX, rdOb_set_self hlt]; simp
      have hp : putAt ((ups a i).map .i ++ cells.drop i) i [.i (a + (i : Int))] = (ups a (i + 1)).map .i ++ cells.drop (i + 1) := by
        have e1 : cells.drop i = cells[i]'(by omega) :: cells.drop (i + 1) := List.drop_eq_getElem_cons (by omega)
        have e2 : (cells.drop i).set 0 (.i (a + (i : Int))) = .i (a + (i : Int)) :: cells.drop (i + 1) := by rw [e1]; rfl
        rw [putAt_get (by simp; omega), List.set_append]
        simp [ups, List.range_succ] at e2 ⊢
        exact e2
      have hw1 : -9223372036854775808 ≤ (a + (i : Int)) + 1 ∧ (a + (i : Int)) + 1 ≤ 9223372036854775807 := by simp only [BIG] at hn; omega
      unfold vf49b0
      simp [h0, h1', h5, ho, hi, idxOf, hp, up1 hi hn, wrap64_id hw1, show i + 1 ≤ i + (cells.length - i) by omega]
      refine (hI _ _).2 ⟨?_, by simp; omega⟩
      rw [hX]; simp
    · rintro ⟨e, X⟩ hIs
      obtain ⟨hX, h0, h1', h5⟩ := (hI _ _).1 hIs
      simp only at hX h0 h1' h5 ⊢
      have hlen : X.length = Y.length := by rw [hX]; simp
      unfold vf49b0
      simp [h0, h1', h5, gc_nolen hlen (show flatV (.c (.i (a + (n : Int)))) = true from rfl)]
      rw [hX, List.drop_eq_nil_of_le (by omega), List.append_nil]
def MarkResB (lo hi : Nat) (Y : Hp) (r : IV × Hp) : Prop := ∃ m Z L, r = (.c (.i m), Z ++ L) ∧ 0 ≤ m ∧ m ≤ 2400000000000000000 ∧ IntCh lo hi Y Z
theorem markFn_b {lo hi : Nat} {Y : Hp} {cs : List CV} (h : fnM lo hi Y cs) (hh : hi ≤ Y.length) (hl : lo ≤ hi) :
    CM 48 [.agg cs, .c (.i 1)] Y (MarkResB lo hi Y) := by
  obtain ⟨z, m, n, rfl, hz, hn⟩ := h
  refine cw48 ?_
  unfold vf48c
  simp
  refine (markBlockS_weak (hz.app _ fun _ h => blkM.app _ h) hn (by omega) (by omega)).mono ?_
  rintro _ ⟨k, Z, rfl, h1, h2, h3⟩
  obtain ⟨Z', rfl, h4⟩ := h3.cut hl hh
  have hkb : k ≤ 2400000000000000000 := by simp only [BIG] at hn; omega
  simp
  by_cases e : Z' = Y
  · subst e
    exact ⟨k, Z', [], by simp, by omega, hkb, h4⟩
  · have e2 : gcRet Y (.c (.i k)) (Z' ++ [⟨[z, .i m], 0, true, 2⟩]) = (.c (.i k), Z' ++ [⟨[z, .i m], 0, true, 2⟩]) := by
      unfold gcRet
      rw [if_neg]
      rw [List.take_append_of_le_length (by rw [h4.len]; exact Nat.le_refl _), List.take_of_length_le (by rw [h4.len]; exact Nat.le_refl _)]
      exact e
    rw [e2]
    exact ⟨k, Z', _, rfl, by omega, hkb, h4⟩
theorem OutR.lt' {X : Hp} {w : CV} {out : List Int} (h : OutR X w out) : ∀ id, IsOut w id → id < X.length := fun id hi => h.lt hi

set_option maxRecDepth 100000 in
theorem runX_law {H : Hp} {cs : List CV} {f : FnR} {rv : CV} {reads : List Int} {fuel : Int} (hf : fnP maxLen H cs f) (hr : IsI H rv reads) : CM 10 [.agg cs, .c rv, .c (.i fuel)] H Tru := by
  obtain ⟨z, rfl, hz⟩ := id hf
  refine cw10 ?_
  unfold vf10c
  obtain ⟨X1, hX1⟩ : ∃ X1, H ++ [(⟨[z, .i f.values], 0, true, 2⟩ : Ob)] = X1 := ⟨_, rfl⟩
  have hp1 : Pre H X1 := ⟨_, hX1.symm⟩
  have hb1 : rdOb X1 H.length 0 = some ⟨[z, .i f.values], 0, true, 2⟩ := by rw [← hX1]; simp
  have hf1 := hf.pre hp1
  have hr1 := Sl.pre hp1 hr
  by_cases hbig : (1048576 : Int) < reads.length
  · simp [hX1, hr1.lenOf, hbig]
  have hrb : reads.length ≤ BIG := by simp only [BIG]; omega
  simp [hX1, hr1.lenOf, hbig, rdN_ob hb1, szFn_call hf1]
  by_cases hs : szFnF f 1048576 < 0
  · simp [hs]
  have hS := sz_small (Int.not_lt.1 hs)
  obtain ⟨q, hq⟩ : ∃ q, runW f reads fuel = q := ⟨_, rfl⟩
  have htl := (runW_told f reads fuel).1
  rw [hq] at htl
  simp [hs, rdN_ob hb1]
  refine (toFn_call _ (hf1.small hS)).mono ?_
  rintro _ ⟨c1, L1, rfl, ho1⟩
  obtain ⟨z1, rfl, h1, _⟩ := ho1.p hS
  obtain ⟨X2, hX2⟩ : ∃ X2, X1 ++ L1 = X2 := ⟨_, rfl⟩
  have hp2 : Pre X1 X2 := ⟨_, hX2.symm⟩
  rw [hX2] at h1 ⊢
  obtain ⟨X3, hX3⟩ : ∃ X3, X2 ++ [(⟨reads.map .i, 0, true, 1⟩ : Ob)] = X3 := ⟨_, rfl⟩
  have hp3 : Pre X2 X3 := ⟨_, hX3.symm⟩
  have hrd3 : rdOb X3 X2.length 0 = some ⟨reads.map .i, 0, true, 1⟩ := by rw [← hX3]; simp
  simp [toIntS_call (Sl.pre hp2 hr1) hrb, hX3]
  refine (specRun (Blocks.pre hp3 h1) hS.1 (own_isI hrd3 rfl) hrb).mono ?_
  rw [hq]
  rintro _ ⟨X4, tS, rfl, hp4, hS4, hSlo⟩
  have hp14 := hp2.trans (hp3.trans hp4)
  have hb4 := hp14.rdOb hb1
  simp [rdN_ob hb4]
  refine (toFn_call _ ((hf1.pre hp14).small hS)).mono ?_
  rintro _ ⟨c2, L2, rfl, ho2⟩
  have hm2 := ho2.m hS
  obtain ⟨z2, rfl, h2, _⟩ := ho2.p hS
  obtain ⟨X5, hX5⟩ : ∃ X5, X4 ++ L2 = X5 := ⟨_, rfl⟩
  have hp5 : Pre X4 X5 := ⟨_, hX5.symm⟩
  rw [hX5] at h2 hm2 ⊢
  obtain ⟨X6, hX6⟩ : ∃ X6, X5 ++ [(⟨[z2, .i f.values], 0, true, 2⟩ : Ob)] = X6 := ⟨_, rfl⟩
  have hp6 : Pre X5 X6 := ⟨_, hX6.symm⟩
  have h6 : rdOb X6 X5.length 0 = some ⟨[z2, .i f.values], 0, true, 2⟩ := by rw [← hX6]; simp
  have l6 : X6.length = X5.length + 1 := by rw [← hX6]; simp
  obtain ⟨X7, hX7⟩ : ∃ X7, X6 ++ [(⟨reads.map .i, 0, true, 1⟩ : Ob)] = X7 := ⟨_, rfl⟩
  have hp7 : Pre X6 X7 := ⟨_, hX7.symm⟩
  have hrd7 : rdOb X7 X6.length 0 = some ⟨reads.map .i, 0, true, 1⟩ := by rw [← hX7]; simp
  have h67 := hp7.rdOb h6
  have hr6 := Sl.pre (hp14.trans (hp5.trans hp6)) hr1
  simp [putD0, hX6, toIntS_call hr6 hrb, hX7, rdN_ob h67]
  refine (implRun (Blocks.pre (hp6.trans hp7) h2) hS.1 (own_isI hrd7 rfl)).mono ?_
  rw [hq]
  rintro _ ⟨X8, tI, rfl, hp8, hI8, hIlo⟩
  have hp58 := hp6.trans (hp7.trans hp8)
  have hp48 := hp5.trans hp58
  have hS8 : OutR X8 tS q.2.2.told := hS4.keep fun _ _ _ _ h => hp48.rdOb h
  have h68 := (hp7.trans hp8).rdOb h6
  have hb8 := (hp14.trans hp48).rdOb hb1
  simp [eqIntS_call hI8.isI hS8.isI htl, rdN_ob h68, rdN_ob hb8]
  refine (toFn_call _ ((hf1.pre (hp14.trans hp48)).small hS)).mono ?_
  rintro _ ⟨c3, L3, rfl, ho3⟩
  obtain ⟨z3, rfl, h3, _⟩ := ho3.p hS
  obtain ⟨X9, hX9⟩ : ∃ X9, X8 ++ L3 = X9 := ⟨_, rfl⟩
  have hp9 : Pre X8 X9 := ⟨_, hX9.symm⟩
  rw [hX9] at h3 ⊢
  have h69 := hp9.rdOb h68
  have hb9 := hp9.rdOb hb8
  have h29 := Blocks.pre (hp58.trans hp9) h2
  obtain ⟨XA, hXA⟩ : ∃ XA, X9 ++ [(⟨reads.map .i, 0, true, 1⟩ : Ob)] = XA := ⟨_, rfl⟩
  have hpA : Pre X9 XA := ⟨_, hXA.symm⟩
  have hrdA : rdOb XA X9.length 0 = some ⟨reads.map .i, 0, true, 1⟩ := by rw [← hXA]; simp
  have hr9 := Sl.pre (hp14.trans (hp48.trans hp9)) hr1
  have hrdA7 := (hp8.trans (hp9.trans hpA)).rdOb hrd7
  have h6A := hpA.rdOb h69
  have hbA := hpA.rdOb hb9
  simp [eqFn_call _ (a := f) (b := f) ⟨_, rfl, h29, hS.1⟩ ⟨_, rfl, h3, hS.1⟩, h69, h68, rdN_ob h69, toIntS_call hr9 hrb, hXA, eqIntS_call (own_isI hrdA7 rfl) (own_isI hrdA rfl) hrb, rdN_ob h6A]
  -- the marks
  obtain ⟨GA, hGA⟩ : ∃ G, XA = X5 ++ G := hp58.trans (hp9.trans hpA)
  have hmA := hm2.app GA
  rw [← hGA] at hmA
  refine (markFn_b hmA (hp58.trans (hp9.trans hpA)).le hp5.le).mono ?_
  rintro _ ⟨k, Z, L4, rfl, hk0, hk1, hZ⟩
  obtain ⟨Y1, hY1⟩ : ∃ Y1, Z ++ L4 = Y1 := ⟨_, rfl⟩
  have kp1 : ∀ id g o, (id < X4.length ∨ X5.length ≤ id) → rdOb XA id g = some o → rdOb Y1 id g = some o := fun id g o hl ho => by rw [← hY1]; exact rdOb_app _ (hZ.out id g o hl ho)
  have hle8 := hp8.le
  have hrdY1 : rdOb Y1 X6.length 0 = some ⟨reads.map .i, 0, true, 1⟩ := kp1 _ _ _ (.inr (by omega)) hrdA7
  rw [hY1]
  obtain ⟨Y2, m2, l2, kp2, _⟩ := markG (a := k) ⟨hk0, by omega⟩ (.inr ⟨X6.length, 0, rfl, hrdY1, by simp⟩ : OwnG Y1 (.sl X6.length 0 0 reads.length) reads.length (reads.map .i)) hrb
  have hnx : ∀ id, IsOut (.sl X6.length 0 0 reads.length) id → id = X6.length := by
    rintro id ⟨g, n, h⟩; cases h; rfl
  have hI2 : OutR Y2 tI q.2.2.told := (hI8.keep fun id g o hi ho => by
    have h1 := hIlo id hi
    have h2 := hp7.le
    have := rdOb_lt hrd7
    refine kp2 _ _ _ (fun h => ?_) (kp1 _ _ _ (.inr ?_) ((hp9.trans hpA).rdOb ho))
    · have := hnx id h; omega
    · omega)
  have hS2 : OutR Y2 tS q.2.2.told := (hS4.keep fun id g o hi ho => by
    have h1 := hS4.lt hi
    have h2 := hp5.le
    refine kp2 _ _ _ (fun h => ?_) (kp1 _ _ _ (.inl h1) ((hp48.trans (hp9.trans hpA)).rdOb ho))
    have := hnx id h; omega)
  have hbY2 : rdOb Y2 H.length 0 = some ⟨[z, .i f.values], 0, true, 2⟩ := by
    have h1 := rdOb_lt hb4
    have h2 := hp5.le
    exact kp2 _ _ _ (fun h => by have := hnx _ h; omega) (kp1 _ _ _ (.inl h1) hbA)
  have hpY2 : Pre X4 Y2 := Low.pre (lo := X4.length) (fun id g o hi ho => kp2 _ _ _ (fun h => by have := hnx _ h; have := hp5.le; omega) (kp1 _ _ _ (.inl hi) ho)) (hp48.trans (hp9.trans hpA)) (Nat.le_refl _)
  have hkn : ¬ (k + (reads.length : Int) < 0) := by omega
  simp [m2, hkn, eqIntS_call hI2.isI hS2.isI htl]
  obtain ⟨Y3, m3, l3, kp3, o3⟩ := markG (a := 1) ⟨by omega, by omega⟩ hI2.ownG htl
  have hni : ∀ id, IsOut tI id → X7.length ≤ id := hIlo
  have hpY3 : Pre X4 Y3 := Low.pre (lo := X4.length) (fun id g o hi ho => kp3 _ _ _ (fun h => by have := hni _ h; have := hp5.le; have := hp7.le; omega) ho) hpY2 (Nat.le_refl _)
  have hbY3 := hpY3.rdOb hb4
  have hS3 : OutR Y3 tS q.2.2.told := hS4.keep fun id g o hi ho => hpY3.rdOb ho
  have hlt1 : ¬ (1 + (q.2.2.told.length : Int) < 0) := by omega
  simp [m3, heldIntS_call o3.isI htl, hlt1, rdN_ob hbY3]
  have hp1Y : Pre X1 Y3 := hp14.trans hpY3
  refine (toFn_call _ ((hf1.pre hp1Y).small hS)).mono ?_
  rintro _ ⟨c5, L5, rfl, ho5⟩
  obtain ⟨z5, rfl, h5', _⟩ := ho5.p hS
  obtain ⟨Y4, hY4⟩ : ∃ Y4, Y3 ++ L5 = Y4 := ⟨_, rfl⟩
  have hpY4 : Pre Y3 Y4 := ⟨_, hY4.symm⟩
  rw [hY4] at h5' ⊢
  obtain ⟨Y5, hY5⟩ : ∃ Y5, Y4 ++ [(⟨reads.map .i, 0, true, 1⟩ : Ob)] = Y5 := ⟨_, rfl⟩
  have hpY5 : Pre Y4 Y5 := ⟨_, hY5.symm⟩
  have hrdY5 : rdOb Y5 Y4.length 0 = some ⟨reads.map .i, 0, true, 1⟩ := by rw [← hY5]; simp
  simp [toIntS_call (Sl.pre (hp1Y.trans hpY4) hr1) hrb, hY5]
  refine (implRun (Blocks.pre hpY5 h5') hS.1 (own_isI hrdY5 rfl)).mono ?_
  rw [hq]
  rintro _ ⟨Y6, tJ, rfl, hp6', hJ6, _⟩
  have hpY36 := hpY4.trans (hpY5.trans hp6')
  have hS6 : OutR Y6 tS q.2.2.told := hS3.keep fun _ _ _ _ h => hpY36.rdOb h
  have o6 := o3.keep (Z := Y6) fun id g o _ ho => hpY36.rdOb ho
  simp [eqIntS_call hJ6.isI hS6.isI htl, heldIntS_call o6.isI htl, hlt1]
theorem RowRes.outR {H : Hp} {w : CV} {L : Hp} {xs : List Int} (h : RowRes H w L xs) : OutR (H ++ L) w xs := by
  rcases h with ⟨rfl, _, rfl⟩ | ⟨rfl, rfl⟩
  · exact .inl ⟨rfl, rfl⟩
  · exact .inr ⟨H.length, 0, rfl, by simp⟩
theorem RowRes.lo {H : Hp} {w : CV} {L : Hp} {xs : List Int} (h : RowRes H w L xs) : ∀ id, IsOut w id → H.length ≤ id := by
  rintro id ⟨g, n, e⟩
  rcases h with ⟨rfl, _, rfl⟩ | ⟨rfl, rfl⟩
  · cases e
  · cases e; exact Nat.le_refl _
set_option maxRecDepth 100000 in
theorem pathX_law {H : Hp} {cs : List CV} {f : FnR} {rv : CV} {reads : List Int} {fuel : Int} (hf : fnP maxLen H cs f) (hr : IsI H rv reads) : CM 11 [.agg cs, .c rv, .c (.i fuel)] H Tru := by
  obtain ⟨z, rfl, hz⟩ := id hf
  refine cw11 ?_
  unfold vf11c
  obtain ⟨X1, hX1⟩ : ∃ X1, H ++ [(⟨[z, .i f.values], 0, true, 2⟩ : Ob)] = X1 := ⟨_, rfl⟩
  have hp1 : Pre H X1 := ⟨_, hX1.symm⟩
  have hb1 : rdOb X1 H.length 0 = some ⟨[z, .i f.values], 0, true, 2⟩ := by rw [← hX1]; simp
  have hf1 := hf.pre hp1
  have hr1 := Sl.pre hp1 hr
  by_cases hbig : (1048576 : Int) < reads.length
  · simp [hX1, hr1.lenOf, hbig]
  have hrb : reads.length ≤ BIG := by simp only [BIG]; omega
  simp [hX1, hr1.lenOf, hbig, rdN_ob hb1, szFn_call hf1]
  by_cases hs : szFnF f 1048576 < 0
  · simp [hs]
  have hS := sz_small (Int.not_lt.1 hs)
  obtain ⟨q, hq⟩ : ∃ q, runW f reads fuel = q := ⟨_, rfl⟩
  have htl := (runW_told f reads fuel).2
  rw [hq] at htl
  simp [hs, rdN_ob hb1]
  refine (toFn_call _ (hf1.small hS)).mono ?_
  rintro _ ⟨c1, L1, rfl, ho1⟩
  obtain ⟨z1, rfl, h1, _⟩ := ho1.p hS
  obtain ⟨X2, hX2⟩ : ∃ X2, X1 ++ L1 = X2 := ⟨_, rfl⟩
  have hp2 : Pre X1 X2 := ⟨_, hX2.symm⟩
  rw [hX2] at h1 ⊢
  obtain ⟨X3, hX3⟩ : ∃ X3, X2 ++ [(⟨reads.map .i, 0, true, 1⟩ : Ob)] = X3 := ⟨_, rfl⟩
  have hp3 : Pre X2 X3 := ⟨_, hX3.symm⟩
  have hrd3 : rdOb X3 X2.length 0 = some ⟨reads.map .i, 0, true, 1⟩ := by rw [← hX3]; simp
  simp [toIntS_call (Sl.pre hp2 hr1) hrb, hX3]
  refine (specPath (Blocks.pre hp3 h1) hS.1 (own_isI hrd3 rfl) hrb).mono ?_
  rw [hq]
  rintro _ ⟨tS, LS, rfl, hS0⟩
  obtain ⟨X4, hX4⟩ : ∃ X4, X3 ++ LS = X4 := ⟨_, rfl⟩
  have hp4 : Pre X3 X4 := ⟨_, hX4.symm⟩
  have hS4 : OutR X4 tS q.2.2.path := by rw [← hX4]; exact hS0.outR
  rw [hX4]
  have hp14 := hp2.trans (hp3.trans hp4)
  have hb4 := hp14.rdOb hb1
  simp [rdN_ob hb4]
  refine (toFn_call _ ((hf1.pre hp14).small hS)).mono ?_
  rintro _ ⟨c2, L2, rfl, ho2⟩
  have hm2 := ho2.m hS
  obtain ⟨z2, rfl, h2, _⟩ := ho2.p hS
  obtain ⟨X5, hX5⟩ : ∃ X5, X4 ++ L2 = X5 := ⟨_, rfl⟩
  have hp5 : Pre X4 X5 := ⟨_, hX5.symm⟩
  rw [hX5] at h2 hm2 ⊢
  obtain ⟨X6, hX6⟩ : ∃ X6, X5 ++ [(⟨[z2, .i f.values], 0, true, 2⟩ : Ob)] = X6 := ⟨_, rfl⟩
  have hp6 : Pre X5 X6 := ⟨_, hX6.symm⟩
  have h6 : rdOb X6 X5.length 0 = some ⟨[z2, .i f.values], 0, true, 2⟩ := by rw [← hX6]; simp
  have l6 : X6.length = X5.length + 1 := by rw [← hX6]; simp
  obtain ⟨X7, hX7⟩ : ∃ X7, X6 ++ [(⟨reads.map .i, 0, true, 1⟩ : Ob)] = X7 := ⟨_, rfl⟩
  have hp7 : Pre X6 X7 := ⟨_, hX7.symm⟩
  have hrd7 : rdOb X7 X6.length 0 = some ⟨reads.map .i, 0, true, 1⟩ := by rw [← hX7]; simp
  have h67 := hp7.rdOb h6
  have hr6 := Sl.pre (hp14.trans (hp5.trans hp6)) hr1
  simp [putD0, hX6, toIntS_call hr6 hrb, hX7, rdN_ob h67]
  refine (implPath (Blocks.pre (hp6.trans hp7) h2) hS.1 (own_isI hrd7 rfl)).mono ?_
  rw [hq]
  rintro _ ⟨tI, LI, rfl, hI0⟩
  obtain ⟨X8, hX8⟩ : ∃ X8, X7 ++ LI = X8 := ⟨_, rfl⟩
  have hp8 : Pre X7 X8 := ⟨_, hX8.symm⟩
  have hI8 : OutR X8 tI q.2.2.path := by rw [← hX8]; exact hI0.outR
  have hIlo := hI0.lo
  rw [hX8]
  have hp58 := hp6.trans (hp7.trans hp8)
  have hp48 := hp5.trans hp58
  have hS8 : OutR X8 tS q.2.2.path := hS4.keep fun _ _ _ _ h => hp48.rdOb h
  have h68 := (hp7.trans hp8).rdOb h6
  have hb8 := (hp14.trans hp48).rdOb hb1
  simp [eqIntS_call hI8.isI hS8.isI htl, rdN_ob h68, rdN_ob hb8]
  refine (toFn_call _ ((hf1.pre (hp14.trans hp48)).small hS)).mono ?_
  rintro _ ⟨c3, L3, rfl, ho3⟩
  obtain ⟨z3, rfl, h3, _⟩ := ho3.p hS
  obtain ⟨X9, hX9⟩ : ∃ X9, X8 ++ L3 = X9 := ⟨_, rfl⟩
  have hp9 : Pre X8 X9 := ⟨_, hX9.symm⟩
  rw [hX9] at h3 ⊢
  have h69 := hp9.rdOb h68
  have hb9 := hp9.rdOb hb8
  have h29 := Blocks.pre (hp58.trans hp9) h2
  obtain ⟨XA, hXA⟩ : ∃ XA, X9 ++ [(⟨reads.map .i, 0, true, 1⟩ : Ob)] = XA := ⟨_, rfl⟩
  have hpA : Pre X9 XA := ⟨_, hXA.symm⟩
  have hrdA : rdOb XA X9.length 0 = some ⟨reads.map .i, 0, true, 1⟩ := by rw [← hXA]; simp
  have hr9 := Sl.pre (hp14.trans (hp48.trans hp9)) hr1
  have hrdA7 := (hp8.trans (hp9.trans hpA)).rdOb hrd7
  have h6A := hpA.rdOb h69
  have hbA := hpA.rdOb hb9
  simp [eqFn_call _ (a := f) (b := f) ⟨_, rfl, h29, hS.1⟩ ⟨_, rfl, h3, hS.1⟩, h69, h68, rdN_ob h69, toIntS_call hr9 hrb, hXA, eqIntS_call (own_isI hrdA7 rfl) (own_isI hrdA rfl) hrb, rdN_ob h6A]
  -- the marks
  obtain ⟨GA, hGA⟩ : ∃ G, XA = X5 ++ G := hp58.trans (hp9.trans hpA)
  have hmA := hm2.app GA
  rw [← hGA] at hmA
  refine (markFn_b hmA (hp58.trans (hp9.trans hpA)).le hp5.le).mono ?_
  rintro _ ⟨k, Z, L4, rfl, hk0, hk1, hZ⟩
  obtain ⟨Y1, hY1⟩ : ∃ Y1, Z ++ L4 = Y1 := ⟨_, rfl⟩
  have kp1 : ∀ id g o, (id < X4.length ∨ X5.length ≤ id) → rdOb XA id g = some o → rdOb Y1 id g = some o := fun id g o hl ho => by rw [← hY1]; exact rdOb_app _ (hZ.out id g o hl ho)
  have hle8 := hp8.le
  have hrdY1 : rdOb Y1 X6.length 0 = some ⟨reads.map .i, 0, true, 1⟩ := kp1 _ _ _ (.inr (by omega)) hrdA7
  rw [hY1]
  obtain ⟨Y2, m2, l2, kp2, _⟩ := markG (a := k) ⟨hk0, by omega⟩ (.inr ⟨X6.length, 0, rfl, hrdY1, by simp⟩ : OwnG Y1 (.sl X6.length 0 0 reads.length) reads.length (reads.map .i)) hrb
  have hnx : ∀ id, IsOut (.sl X6.length 0 0 reads.length) id → id = X6.length := by
    rintro id ⟨g, n, h⟩; cases h; rfl
  have hI2 : OutR Y2 tI q.2.2.path := (hI8.keep fun id g o hi ho => by
    have h1 := hIlo id hi
    have h2 := hp7.le
    have := rdOb_lt hrd7
    refine kp2 _ _ _ (fun h => ?_) (kp1 _ _ _ (.inr ?_) ((hp9.trans hpA).rdOb ho))
    · have := hnx id h; omega
    · omega)
  have hS2 : OutR Y2 tS q.2.2.path := (hS4.keep fun id g o hi ho => by
    have h1 := hS4.lt hi
    have h2 := hp5.le
    refine kp2 _ _ _ (fun h => ?_) (kp1 _ _ _ (.inl h1) ((hp48.trans (hp9.trans hpA)).rdOb ho))
    have := hnx id h; omega)
  have hbY2 : rdOb Y2 H.length 0 = some ⟨[z, .i f.values], 0, true, 2⟩ := by
    have h1 := rdOb_lt hb4
    have h2 := hp5.le
    exact kp2 _ _ _ (fun h => by have := hnx _ h; omega) (kp1 _ _ _ (.inl h1) hbA)
  have hpY2 : Pre X4 Y2 := Low.pre (lo := X4.length) (fun id g o hi ho => kp2 _ _ _ (fun h => by have := hnx _ h; have := hp5.le; omega) (kp1 _ _ _ (.inl hi) ho)) (hp48.trans (hp9.trans hpA)) (Nat.le_refl _)
  have hkn : ¬ (k + (reads.length : Int) < 0) := by omega
  simp [m2, hkn, eqIntS_call hI2.isI hS2.isI htl]
  obtain ⟨Y3, m3, l3, kp3, o3⟩ := markG (a := 1) ⟨by omega, by omega⟩ hI2.ownG htl
  have hni : ∀ id, IsOut tI id → X7.length ≤ id := hIlo
  have hpY3 : Pre X4 Y3 := Low.pre (lo := X4.length) (fun id g o hi ho => kp3 _ _ _ (fun h => by have := hni _ h; have := hp5.le; have := hp7.le; omega) ho) hpY2 (Nat.le_refl _)
  have hbY3 := hpY3.rdOb hb4
  have hS3 : OutR Y3 tS q.2.2.path := hS4.keep fun id g o hi ho => hpY3.rdOb ho
  have hlt1 : ¬ (1 + (q.2.2.path.length : Int) < 0) := by omega
  simp [m3, heldIntS_call o3.isI htl, hlt1, rdN_ob hbY3]
  have hp1Y : Pre X1 Y3 := hp14.trans hpY3
  refine (toFn_call _ ((hf1.pre hp1Y).small hS)).mono ?_
  rintro _ ⟨c5, L5, rfl, ho5⟩
  obtain ⟨z5, rfl, h5', _⟩ := ho5.p hS
  obtain ⟨Y4, hY4⟩ : ∃ Y4, Y3 ++ L5 = Y4 := ⟨_, rfl⟩
  have hpY4 : Pre Y3 Y4 := ⟨_, hY4.symm⟩
  rw [hY4] at h5' ⊢
  obtain ⟨Y5, hY5⟩ : ∃ Y5, Y4 ++ [(⟨reads.map .i, 0, true, 1⟩ : Ob)] = Y5 := ⟨_, rfl⟩
  have hpY5 : Pre Y4 Y5 := ⟨_, hY5.symm⟩
  have hrdY5 : rdOb Y5 Y4.length 0 = some ⟨reads.map .i, 0, true, 1⟩ := by rw [← hY5]; simp
  simp [toIntS_call (Sl.pre (hp1Y.trans hpY4) hr1) hrb, hY5]
  refine (implPath (Blocks.pre hpY5 h5') hS.1 (own_isI hrdY5 rfl)).mono ?_
  rw [hq]
  rintro _ ⟨tJ, LJ, rfl, hJ0⟩
  obtain ⟨Y6, hY6⟩ : ∃ Y6, Y5 ++ LJ = Y6 := ⟨_, rfl⟩
  have hp6' : Pre Y5 Y6 := ⟨_, hY6.symm⟩
  have hJ6 : OutR Y6 tJ q.2.2.path := by rw [← hY6]; exact hJ0.outR
  rw [hY6]
  have hpY36 := hpY4.trans (hpY5.trans hp6')
  have hS6 : OutR Y6 tS q.2.2.path := hS3.keep fun _ _ _ _ h => hpY36.rdOb h
  have o6 := o3.keep (Z := Y6) fun id g o _ ho => hpY36.rdOb ho
  simp [eqIntS_call hJ6.isI hS6.isI htl, heldIntS_call o6.isI htl, hlt1]
end Go.Proofs.Ytnapgdlfeadhaaa.Vm
end
