import Derived.Test.YtnapgdlfeadhaaaQrm
section
/- The Draws: a program with what it reads and fuel; with a block; alone. No conditions. -/
namespace Go.Proofs.Ytnapgdlfeadhaaa.Vm
open Go.RowKit (wrap64)
set_option linter.unusedSimpArgs false
set_option linter.unusedVariables false

/-- A drawn program, and a block, or none. -/
def AtDraw (H : Hp) (r : IV × Hp) : Prop := ∃ X v m bs n, r = (.tup [(true, [v, .i m]), (false, [.i n])], X) ∧ (∃ d g, v = .sl d g 0 bs.length) ∧ Pre H X ∧ HiBlocks H.length X v bs ∧ bs.length ≤ BIG ∧ 0 < bs.length ∧ -1 ≤ n ∧ n ≤ bs.length
theorem gc_tup2' (H Y : Hp) (d g n : Nat) (m : Int) (q : Int) : gcRet H (.tup [(true, [.sl d g 0 n, .i m]), (false, [.i q])]) Y = (.tup [(true, [.sl d g 0 n, .i m]), (false, [.i q])], Y) := by
  unfold gcRet; split
  · rw [if_neg (by simp [flatV, flatC])]
  · rfl
theorem gc_tup4' (H Y : Hp) (d g n : Nat) (m : Int) (q r : Int) : gcRet H (.tup [(true, [.sl d g 0 n, .i m]), (false, [.i q]), (false, [.i r])]) Y = (.tup [(true, [.sl d g 0 n, .i m]), (false, [.i q]), (false, [.i r])], Y) := by
  unfold gcRet; split
  · rw [if_neg (by simp [flatV, flatC])]
  · rfl
theorem drawAt_call {H : Hp} {v : CV} {xs : List Int} (hv : IsB H v xs) (hb : xs.length ≤ BIG) : CM 61 [.c v] H (AtDraw H) := by
  refine cw61 ?_
  unfold vf61c
  simp
  have hv1 : IsB (H ++ [(⟨[.ns, .i 0], 0, true, 2⟩ : Ob)]) v xs := Sl.app _ hv
  have hl : (H ++ [(⟨[.ns, .i 0], 0, true, 2⟩ : Ob)]).length = H.length + 1 := by simp
  have hR : rdOb (H ++ [(⟨[.ns, .i 0], 0, true, 2⟩ : Ob)]) H.length 0 = some ⟨[.ns, .i 0], 0, true, 2⟩ := by simp
  have hp1 : Pre H (H ++ [(⟨[.ns, .i 0], 0, true, 2⟩ : Ob)]) := ⟨_, rfl⟩
  generalize H ++ [(⟨[.ns, .i 0], 0, true, 2⟩ : Ob)] = X0 at hv1 hl hR hp1 ⊢
  refine (new_call hv1 hb).mono ?_
  rintro _ ⟨h, rfl⟩
  have hc := new_cur hv1 hb h
  have hR1 := rdOb_app [(⟨[v, .i 0, .i h], 0, true, 3⟩ : Ob)] hR
  have hp2 : Pre H (X0 ++ [(⟨[v, .i 0, .i h], 0, true, 3⟩ : Ob)]) := hp1.app _
  have hl1 : (X0 ++ [(⟨[v, .i 0, .i h], 0, true, 3⟩ : Ob)]).length = H.length + 2 := by simp [hl]
  generalize X0 ++ [(⟨[v, .i 0, .i h], 0, true, 3⟩ : Ob)] = X1 at hc hR1 hp2 hl1 ⊢
  simp
  refine (draw_call hc).mono ?_
  rintro _ ⟨X, w, m, bs, rfl, ⟨d, g, rfl⟩, C, hB, hbl, hb0⟩
  obtain ⟨X2, hX2⟩ : ∃ X2, X ++ [(⟨[.sl d g 0 bs.length, .i m], 0, true, 2⟩ : Ob)] = X2 := ⟨_, rfl⟩
  have hF2 : rdOb X2 X.length 0 = some ⟨[.sl d g 0 bs.length, .i m], 0, true, 2⟩ := by rw [← hX2]; simp
  have C2 : CurL X0.length X1 X2 := by rw [← hX2]; exact C.app _
  have hCle := C.le
  have hXc : X.length ≠ X0.length := by omega
  have hbl' := hbl
  simp only [BIG] at hbl'
  -- the two draws, in either order
  obtain ⟨q1, Y1, a1, a2, _, D1, e1⟩ := below_call C2.cur ((bs.length : Int) + 1)
  have a2 := a2 (by omega)
  obtain ⟨q2, Y2, b1, b2, _, D2, e2⟩ := below_call D1.cur 20
  have b2 := b2 (by omega)
  have tq : ∀ q : Int, 0 ≤ q → q < 20 → 0 ≤ q.tdiv 19 ∧ q.tdiv 19 ≤ 1 := fun q h1 h2 => by
    rw [Int.tdiv_eq_ediv_of_nonneg h1]; omega
  have main : ∀ (Y : Hp) (n : Int), CurL X0.length X2 Y → -1 ≤ n → n ≤ bs.length → AtDraw H (.tup [(true, [.sl d g 0 bs.length, .i m]), (false, [.i n])], Y.set H.length ⟨[.sl d g 0 bs.length, .i m], 0, true, 2⟩) := by
    intro Y n CY h1 h2
    refine ⟨_, _, m, bs, n, rfl, ⟨d, g, rfl⟩, ((C2.trans CY).pre hp2 (by omega)).set (Nat.le_refl _) _, ?_, hbl, hb0, h1, h2⟩
    rw [hl1] at hB
    exact (hB.to (((Pre.hi (lo := H.length + 2) ⟨_, hX2.symm⟩).trans (CY.hi (lo := H.length + 2) (by omega)) (Nat.le_refl _)).trans (Hi.set (lo := H.length + 2) (by omega) _) (Nat.le_refl _))).lower (by omega)
  have fact : ∀ (Y : Hp), CurL X0.length X2 Y → rdOb Y X.length 0 = some ⟨[.sl d g 0 bs.length, .i m], 0, true, 2⟩ ∧ rdOb Y H.length 0 = some ⟨[.ns, .i 0], 0, true, 2⟩ ∧
      rdN (Y.set H.length ⟨[.sl d g 0 bs.length, .i m], 0, true, 2⟩) H.length 0 0 2 = some [.sl d g 0 bs.length, .i m] := fun Y CY => by
    have hr := (C2.trans CY).keep _ _ _ (by omega) hR1
    refine ⟨CY.keep _ _ _ hXc hF2, hr, ?_⟩
    rw [rdN_ob (o := ⟨[.sl d g 0 bs.length, .i m], 0, true, 2⟩) (by rw [rdOb_set_self (rdOb_lt hr)]; simp)]; simp
  obtain ⟨FA, RA, NA⟩ := fact Y2 (D1.l.trans D2.l)
  have FA1 := D1.l.keep _ _ _ hXc hF2
  have t1 := tq q2 b1 b2
  simp [putD0', hX2, rdN_ob hF2, rdC_ob hF2, wrap64_id (show -9223372036854775808 ≤ (bs.length : Int) + 1 ∧ (bs.length : Int) + 1 ≤ 9223372036854775807 by omega), e1, e2, FA, FA1, hF2, RA, NA, rdN_ob FA, gc_tup2', rdC_ob FA1, wrap64_id (show -9223372036854775808 ≤ q2.tdiv 19 ∧ q2.tdiv 19 ≤ 9223372036854775807 by omega), wrap64_id (show -9223372036854775808 ≤ q1 - q2.tdiv 19 ∧ q1 - q2.tdiv 19 ≤ 9223372036854775807 by omega)]
  exact main _ _ (D1.l.trans D2.l) (by omega) (by omega)
theorem drawAbove_call {H : Hp} {v : CV} {xs : List Int} (hv : IsB H v xs) (hb : xs.length ≤ BIG) : CM 33 [.c v] H (AtDraw H) := by
  refine cw33 ?_
  unfold vf33c
  obtain ⟨X0, hX0⟩ : ∃ X0, H ++ [(⟨[.ns, .i 0], 0, true, 2⟩ : Ob)] = X0 := ⟨_, rfl⟩
  have hp0 : Pre H X0 := ⟨_, hX0.symm⟩
  have hR : rdOb X0 H.length 0 = some ⟨[.ns, .i 0], 0, true, 2⟩ := by rw [← hX0]; simp
  have l0 : X0.length = H.length + 1 := by rw [← hX0]; simp
  simp [hX0]
  refine (drawAt_call (Sl.pre hp0 hv) hb).mono ?_
  rintro _ ⟨X, w, m, bs, n, rfl, ⟨d, g, rfl⟩, hp1, hB, hbl, hb0, hn1, hn2⟩
  obtain ⟨X2, hX2⟩ : ∃ X2, X ++ [(⟨[.sl d g 0 bs.length, .i m], 0, true, 2⟩ : Ob)] = X2 := ⟨_, rfl⟩
  have hp2 : Pre X X2 := ⟨_, hX2.symm⟩
  have hF2 : rdOb X2 X.length 0 = some ⟨[.sl d g 0 bs.length, .i m], 0, true, 2⟩ := by rw [← hX2]; simp
  have hR2 := (hp1.trans hp2).rdOb hR
  have hrd : rdN (X2.set H.length ⟨[.sl d g 0 bs.length, .i m], 0, true, 2⟩) H.length 0 0 2 = some [.sl d g 0 bs.length, .i m] := by
    rw [rdN_ob (o := ⟨[.sl d g 0 bs.length, .i m], 0, true, 2⟩) (by rw [rdOb_set_self (rdOb_lt hR2)]; simp)]; simp
  simp [putD0', hX2, rdN_ob hF2, hR2, hrd, gc_tup2']
  refine ⟨_, _, m, bs, n, rfl, ⟨d, g, rfl⟩, ((hp0.trans hp1).trans hp2).set (Nat.le_refl _) _, ?_, hbl, hb0, hn1, hn2⟩
  rw [l0] at hB
  exact (hB.to ((Pre.hi (lo := H.length + 1) hp2).trans (Hi.set (lo := H.length + 1) (by omega) _) (Nat.le_refl _))).lower (by omega)
end Go.Proofs.Ytnapgdlfeadhaaa.Vm
end
