import Derived.Test.YtgdfgnppeekfjaaGreatQrm
section
/- The Draws: a program with what it reads and fuel; with a block; alone. No conditions. -/
namespace Go.Proofs.YtgdfgnppeekfjaaGreat.Vm
open Go.RowKit (wrap64)
set_option linter.unusedSimpArgs false
set_option linter.unusedVariables false

theorem drawUsed_call {H : Hp} {v : CV} {xs : List Int} (hv : IsB H v xs) (hb : xs.length ≤ BIG) : CM 44 [.c v] H (FnOut H) := by
  refine cw44 ?_
  unfold vf44c
  simp
  have hv1 : IsB (H ++ [(⟨[.ns, .i 0], 0, true, 2⟩ : Ob)]) v xs := Sl.app _ hv
  have hl : (H ++ [(⟨[.ns, .i 0], 0, true, 2⟩ : Ob)]).length = H.length + 1 := by simp
  have hR : rdOb (H ++ [(⟨[.ns, .i 0], 0, true, 2⟩ : Ob)]) H.length 0 = some ⟨[.ns, .i 0], 0, true, 2⟩ := by simp
  have hp1 : Pre H (H ++ [(⟨[.ns, .i 0], 0, true, 2⟩ : Ob)]) := ⟨_, rfl⟩
  generalize H ++ [(⟨[.ns, .i 0], 0, true, 2⟩ : Ob)] = X0 at hv1 hl hR hp1 ⊢
  refine (new_call hv1 hb).mono ?_
  rintro _ ⟨h, rfl⟩
  have hc := new_cur hv1 hb h
  have hR1 := rdOb_app [(⟨[v, .i 0, .i h], 0, true, 3⟩ : Ob)] hR
  have hp2 : Pre H (X0 ++ [(⟨[v, .i 0, .i h], 0, true, 3⟩ : Ob)]) := hp1.app _
  have hl1 : (X0 ++ [(⟨[v, .i 0, .i h], 0, true, 3⟩ : Ob)]).length = H.length + 2 := by simp [hl]
  generalize X0 ++ [(⟨[v, .i 0, .i h], 0, true, 3⟩ : Ob)] = X1 at hc hR1 hp2 hl1 ⊢
  simp
  refine (draw_call hc).mono ?_
  rintro _ ⟨X, w, m, bs, rfl, ⟨d, g, rfl⟩, C, hB, hbl, hb0⟩
  have hRX := C.keep _ _ _ (by omega) hR1
  have hrd : rdN (X.set H.length ⟨[.sl d g 0 bs.length, .i m], 0, true, 2⟩) H.length 0 0 2 = some [.sl d g 0 bs.length, .i m] := by
    rw [rdN_ob (o := ⟨[.sl d g 0 bs.length, .i m], 0, true, 2⟩) (by rw [rdOb_set_self (rdOb_lt hRX)]; simp)]; simp
  have hgc : ∀ (Y : Hp), gcRet H (.agg [.sl d g 0 bs.length, .i m]) Y = (.agg [.sl d g 0 bs.length, .i m], Y) := fun Y => by
    unfold gcRet; split
    · rw [if_neg (by simp [flatV, flatC])]
    · rfl
  simp [putD0', hRX, hrd, hgc]
  exact ⟨_, _, m, bs, rfl, rfl, ((C.pre hp2 (by omega)).set (Nat.le_refl _) _), hB _ (Hi.set (lo := X1.length) (by omega) _), hbl, hb0⟩
end Go.Proofs.YtgdfgnppeekfjaaGreat.Vm
end
