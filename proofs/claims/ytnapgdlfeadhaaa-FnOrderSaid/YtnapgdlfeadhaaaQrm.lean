import Derived.Test.YtnapgdlfeadhaaaP4
import Derived.Test.YtnapgdlfeadhaaaQgn
section
/- Drawn programs with what they read, and fuel. No conditions. -/
namespace Go.Proofs.Ytnapgdlfeadhaaa.Vm
open Go.RowKit (wrap64)
set_option linter.unusedSimpArgs false
set_option linter.unusedVariables false

theorem rowGc {X Z : Hp} {c id g : Nat} {xs : List Int} (h : CurL c X Z) (hx : Cur X c) (hid : X.length ≤ id) (ho : rdOb Z id g = some ⟨xs.map .i, g, true, 1⟩) :
    ∃ w Z', gcRet X (.c (.sl id g 0 xs.length)) Z = (.c w, Z') ∧ CurL c X Z' ∧ OutR Z' w xs ∧ ∀ id, IsOut w id → X.length ≤ id := by
  by_cases ht : Z.take X.length = X
  · have hp : Pre X Z := ⟨Z.drop X.length, by have := List.take_append_drop X.length Z; rw [ht] at this; exact this.symm⟩
    refine ⟨_, _, gcRet_row hp hid ho rfl (by simp [flatC]), (CurL.refl hx).app _, .inr ⟨X.length, 0, rfl, by simp⟩, ?_⟩
    rintro i ⟨g', n, he⟩; cases he; exact Nat.le_refl _
  · refine ⟨_, Z, by unfold gcRet; rw [if_neg ht], h, .inr ⟨id, g, rfl, ho⟩, ?_⟩
    rintro i ⟨g', n, he⟩; cases he; exact hid
def ReadsRes (X : Hp) (c : Nat) (r : IV × Hp) : Prop := ∃ w Z xs, r = (.c w, Z) ∧ CurL c X Z ∧ OutR Z w xs ∧ (∀ id, IsOut w id → X.length ≤ id) ∧ xs.length ≤ 6
theorem drawReads_call {X : Hp} {c : Nat} (h : Cur X c) : CM 108 [.c (.p c 0 0)] X (ReadsRes X c) := by
  refine cw108 ?_
  unfold vf108c
  have hlt := h.lt
  simp
  obtain ⟨I, hI⟩ : ∃ I : Nat → St → Prop, ∀ k st, I k st ↔ (∃ (xs : List Int) (id g : Nat), k + xs.length = 6 ∧ CurL c X st.h ∧ X.length ≤ id ∧ rdOb st.h id g = some ⟨xs.map .i, g, true, 1⟩ ∧ Env.get st.e 0 = .c (.p c 0 0) ∧ Env.get st.e 3 = .c (.sl id g 0 xs.length) ∧ Env.get st.e 4 = .c (.i xs.length)) := ⟨_, fun _ _ => Iff.rfl⟩
  refine wp_loop CM_mono I (k := 6) ((hI _ _).2 ⟨[], X.length, 0, rfl, (CurL.refl h).app _, Nat.le_refl _, by simp, by simp⟩) ?_
  rintro k ⟨e, Y⟩ hIs
  obtain ⟨xs, id, g, hk, hC, hid, ho, e0, e3, e4⟩ := (hI _ _).1 hIs
  simp only at hC ho e0 e3 e4 ⊢
  obtain ⟨r, Y1, r0, r1, _, C1, eb⟩ := below_call hC.cur 6
  have r6 := r1 (by omega)
  have hne : id ≠ c := by omega
  have ho1 := C1.l.keep _ _ _ hne ho
  have hC1 := hC.trans C1.l
  unfold vf108b0
  by_cases hlt2 : (xs.length : Int) < r
  · have hxl : xs.length ≤ 4 := by omega
    obtain ⟨x, Y2, hx, C2, en⟩ := num_call C1.cur
    have ho2 := C2.keep _ _ _ hne ho1
    obtain ⟨Y3, hY3⟩ : ∃ Y3, Y2 ++ [(⟨[.i x], 0, true, 1⟩ : Ob)] = Y3 := ⟨_, rfl⟩
    have ho3 : rdOb Y3 id g = some ⟨xs.map .i, g, true, 1⟩ := by rw [← hY3]; exact rdOb_app _ ho2
    have hT : rdOb Y3 Y2.length 0 = some ⟨[.i x], 0, true, 1⟩ := by rw [← hY3]; simp
    have hsrc : srcOf Y3 1 (.sl Y2.length 0 0 1) = some (1, [.i x]) := by simp [srcOf, hT]
    have happ := app_own (X := Y3) (o := id) (g := g) (n := xs.length) (sz := 1) (m := 1) (cs := xs.map .i) (xs := [.i x]) ho3 (by simp) (by simp) (by simp [LIM]; omega)
    simp [e0, e3, e4, eb, hlt2, en, putL0, hY3, hsrc, happ, up1 (show xs.length < 6 by omega) (show 6 ≤ BIG by simp [BIG])]
    refine ⟨k - 1, by omega, (hI _ _).2 ⟨xs ++ [x], id, g + 1, by simp; omega, ?_, hid, ?_, by simp [e0]⟩⟩
    · have hC3 : CurL c X Y3 := by rw [← hY3]; exact (hC1.trans C2).app _
      refine ⟨?_, by simpa using hC3.le, fun i gg o h1 h2 => ?_⟩
      · obtain ⟨bs, i, hh, ys, q1, q2, q3, q4, q5⟩ := hC3.cur
        refine ⟨bs, i, hh, ys, by rw [rdOb_set_ne (Ne.symm hne)]; exact q1, ?_, q3, q4, q5⟩
        rcases q2 with q2 | ⟨i2, g2, off, ob, w1, w2, w3⟩
        · exact .inl q2
        · exact .inr ⟨i2, g2, off, ob, w1, by rw [rdOb_set_ne (by have := q5 _ _ _ _ w1; omega)]; exact w2, w3⟩
      · rw [rdOb_set_ne (by have := rdOb_lt h2; omega)]; exact hC3.keep i gg o h1 h2
    · simp only; rw [rdOb_set_self (rdOb_lt ho3)]; simp
  · obtain ⟨w, Z, g1, g2, g3, g4⟩ := rowGc hC1 h hid ho1
    simp [e0, e3, e4, eb, hlt2, g1]
    exact ⟨w, Z, xs, rfl, g2, g3, g4, by omega⟩
def FuelRes (X : Hp) (c : Nat) (r : IV × Hp) : Prop := ∃ n Z, r = (.c (.i n), Z) ∧ CurL c X Z ∧ -1 ≤ n ∧ n ≤ 5001
theorem FuelRes.mk' {X Z : Hp} {c : Nat} {n : Int} (h : CurL c X Z) (hx : Cur X c) (h1 : -1 ≤ n) (h2 : n ≤ 5001) : FuelRes X c (gcRet X (.c (.i n)) Z) := by
  obtain ⟨Z', e, hC⟩ := CurL.gc h hx (r := .c (.i n)) rfl
  rw [e]; exact ⟨n, Z', rfl, hC, h1, h2⟩
theorem drawFuel_call {X : Hp} {c : Nat} (h : Cur X c) : CM 109 [.c (.p c 0 0)] X (FuelRes X c) := by
  refine cw109 ?_
  unfold vf109c
  obtain ⟨r, Y1, r0, r1, _, C1, eb⟩ := below_call h 6
  by_cases h0 : r = 0
  · subst h0
    obtain ⟨r2, Y2, q0, q1, _, C2, eb2⟩ := below_call C1.cur 40
    have := q1 (by omega)
    simp [eb, eb2]
    exact FuelRes.mk' (C1.l.trans C2.l) h (by omega) (by omega)
  · by_cases h1 : r = 1
    · subst h1
      obtain ⟨Y2, hY2⟩ : ∃ Y2, Y1 ++ [(⟨[.i (-1), .i 0, .i 5000, .i 5001], 0, true, 1⟩ : Ob)] = Y2 := ⟨_, rfl⟩
      have hI : IsI Y2 (.sl Y1.length 0 0 4) [-1, 0, 5000, 5001] := own_isI (by rw [← hY2]; simp) rfl
      have C2 : CurL c X Y2 := by rw [← hY2]; exact C1.l.app _
      obtain ⟨p, Y3, hp, C3, ep⟩ := pick_call C2.cur hI (by simp)
      simp at hp
      simp [eb, putL0, putL1, putL2, putL3, hY2, ep]
      exact FuelRes.mk' (C2.trans C3.l) h (by omega) (by omega)
    · simp [eb, h0, h1]
      exact FuelRes.mk' C1.l h (by omega) (by omega)
/-- A drawn program, what it reads, and fuel. -/
def RunDraw (H : Hp) (r : IV × Hp) : Prop := ∃ X v m bs w xs n, r = (.tup [(true, [v, .i m]), (false, [w]), (false, [.i n])], X) ∧ (∃ d g, v = .sl d g 0 bs.length) ∧ Pre H X ∧ HiBlocks H.length X v bs ∧ bs.length ≤ BIG ∧ 0 < bs.length ∧
  OutR X w xs ∧ (∀ id, IsOut w id → H.length ≤ id) ∧ xs.length ≤ 6 ∧ -1 ≤ n ∧ n ≤ 5001
theorem HiBlocks.lower {lo lo' : Nat} {X : Hp} {v : CV} {bs : List BlkR} (h : HiBlocks lo X v bs) (hl : lo' ≤ lo) : HiBlocks lo' X v bs := fun Y hY => h Y fun id g o hi ho => hY id g o (by omega) ho
theorem HiBlocks.to {lo : Nat} {X Y : Hp} {v : CV} {bs : List BlkR} (h : HiBlocks lo X v bs) (hh : Hi lo X Y) : HiBlocks lo Y v bs := fun Z hZ => h Z (hh.trans hZ (Nat.le_refl _))
theorem gc_tup3 (H Y : Hp) (d g n : Nat) (m : Int) (w : CV) (q : Int) : gcRet H (.tup [(true, [.sl d g 0 n, .i m]), (false, [w]), (false, [.i q])]) Y = (.tup [(true, [.sl d g 0 n, .i m]), (false, [w]), (false, [.i q])], Y) := by
  unfold gcRet; split
  · rw [if_neg (by simp [flatV, flatC])]
  · rfl
theorem drawAll_call {H : Hp} {v : CV} {xs : List Int} (hv : IsB H v xs) (hb : xs.length ≤ BIG) : CM 78 [.c v] H (RunDraw H) := by
  refine cw78 ?_
  unfold vf78c
  simp
  have hv1 : IsB (H ++ [(⟨[.ns, .i 0], 0, true, 2⟩ : Ob)]) v xs := Sl.app _ hv
  have hl : (H ++ [(⟨[.ns, .i 0], 0, true, 2⟩ : Ob)]).length = H.length + 1 := by simp
  have hR : rdOb (H ++ [(⟨[.ns, .i 0], 0, true, 2⟩ : Ob)]) H.length 0 = some ⟨[.ns, .i 0], 0, true, 2⟩ := by simp
  have hp1 : Pre H (H ++ [(⟨[.ns, .i 0], 0, true, 2⟩ : Ob)]) := ⟨_, rfl⟩
  generalize H ++ [(⟨[.ns, .i 0], 0, true, 2⟩ : Ob)] = X0 at hv1 hl hR hp1 ⊢
  refine (new_call hv1 hb).mono ?_
  rintro _ ⟨h, rfl⟩
  have hc := new_cur hv1 hb h
  have hR1 := rdOb_app [(⟨[v, .i 0, .i h], 0, true, 3⟩ : Ob)] hR
  have hp2 : Pre H (X0 ++ [(⟨[v, .i 0, .i h], 0, true, 3⟩ : Ob)]) := hp1.app _
  have hl1 : (X0 ++ [(⟨[v, .i 0, .i h], 0, true, 3⟩ : Ob)]).length = H.length + 2 := by simp [hl]
  generalize X0 ++ [(⟨[v, .i 0, .i h], 0, true, 3⟩ : Ob)] = X1 at hc hR1 hp2 hl1 ⊢
  simp
  refine (draw_call hc).mono ?_
  rintro _ ⟨X, w, m, bs, rfl, ⟨d, g, rfl⟩, C, hB, hbl, hb0⟩
  obtain ⟨X2, hX2⟩ : ∃ X2, X ++ [(⟨[.sl d g 0 bs.length, .i m], 0, true, 2⟩ : Ob)] = X2 := ⟨_, rfl⟩
  have hF2 : rdOb X2 X.length 0 = some ⟨[.sl d g 0 bs.length, .i m], 0, true, 2⟩ := by rw [← hX2]; simp
  have C2 : CurL X0.length X1 X2 := by rw [← hX2]; exact C.app _
  have l2 : X2.length = X.length + 1 := by rw [← hX2]; simp
  have hCle := C.le
  simp [putD0', hX2]
  refine (drawReads_call C2.cur).mono ?_
  rintro _ ⟨w, Z, ys, rfl, C3, hO, hOlo, hyl⟩
  have hXc : X.length ≠ X0.length := by omega
  have hF3 := C3.keep _ _ _ hXc hF2
  simp [rdN_ob hF3]
  refine (drawFuel_call C3.cur).mono ?_
  rintro _ ⟨n, Y, rfl, C4, hn1, hn2⟩
  have hF4 := C4.keep _ _ _ hXc hF3
  have hR4 := ((C2.trans C3).trans C4).keep _ _ _ (by omega) hR1
  have hrd : rdN (Y.set H.length ⟨[.sl d g 0 bs.length, .i m], 0, true, 2⟩) H.length 0 0 2 = some [.sl d g 0 bs.length, .i m] := by
    rw [rdN_ob (o := ⟨[.sl d g 0 bs.length, .i m], 0, true, 2⟩) (by rw [rdOb_set_self (rdOb_lt hR4)]; simp)]; simp
  have hO' : OutR (Y.set H.length ⟨[.sl d g 0 bs.length, .i m], 0, true, 2⟩) w ys := hO.keep fun id gg o hi ho => by
    have := hOlo id hi
    rw [rdOb_set_ne (by omega)]; exact C4.keep _ _ _ (by omega) ho
  rcases hO.form with rfl | ⟨i1, g1, n1, rfl⟩
  all_goals
    simp [hF3, hF4, rdN_ob hF3, rdN_ob hF4, putD0', hR4, hrd, gc_tup3]
    refine ⟨_, _, m, bs, _, ys, n, rfl, ⟨d, g, rfl⟩, (((C2.trans C3).trans C4).pre hp2 (by omega)).set (Nat.le_refl _) _, ?_, hbl, hb0, hO', fun id hi => by have := hOlo id hi; omega, hyl, hn1, hn2⟩
    rw [hl1] at hB
    exact (hB.to (((Pre.hi (lo := H.length + 2) ⟨_, hX2.symm⟩).trans ((C3.trans C4).hi (lo := H.length + 2) (by omega)) (Nat.le_refl _)).trans (Hi.set (lo := H.length + 2) (by omega) _) (Nat.le_refl _))).lower (by omega)
end Go.Proofs.Ytnapgdlfeadhaaa.Vm
end
