/- Rows of numbers: copied one by one. No conditions. -/
import Derived.Test.YtnpbldjbfkpbcaaKq
namespace Go.Proofs.Ytnpbldjbfkpbcaa.Vm
open Go.RowKit (wrap64)
set_option linter.unusedSimpArgs false
set_option linter.unusedVariables false
theorem noughts_flat (n : Nat) : (List.replicate n [CV.i 0]).flatten = List.replicate n (.i 0) := by
  induction n with
  | zero => rfl
  | succ n ih => simp [List.replicate_succ, ih]
theorem toIntS_call {H : Hp} {v : CV} {xs : List Int} (hv : IsI H v xs) (hb : xs.length ≤ BIG) (k : IV × Hp → Prop) : CM 39 [.c v] H k = k (.c (.sl H.length 0 0 xs.length), H ++ [⟨xs.map .i, 0, true, 1⟩]) := by
  refine det (cw39 ?_) k
  unfold vf39c
  have hlim : xs.length ≤ LIM := by simp only [BIG] at hb; simp only [LIM]; omega
  simp [hv.lenOf, hlim, noughts_flat]
  obtain ⟨I, hI⟩ : ∃ I : Nat → St → Prop, ∀ i s, I i s ↔ (s.h = H ++ [⟨(xs.take i).map .i ++ List.replicate (xs.length - i) (.i 0), 0, true, 1⟩] ∧ Env.get s.e 0 = .c v ∧ Env.get s.e 3 = .c (.sl H.length 0 0 xs.length) ∧ Env.get s.e 4 = .c (.i i)) := ⟨_, fun _ _ => Iff.rfl⟩
  refine wp_for CM_mono xs.length I ((hI _ _).2 ⟨by simp, by simp⟩) ?_ ?_
  · rintro i ⟨e, X⟩ hi hIs
    obtain ⟨rfl, h0, h3, h4⟩ := (hI _ _).1 hIs
    simp only at h0 h3 h4 ⊢
    have hv1 := hv.app [⟨(xs.take i).map .i ++ List.replicate (xs.length - i) (.i 0), 0, true, 1⟩]
    obtain ⟨id, g, off, q1, q2⟩ := hv1.at_ hi
    have hidx : idxOf 1 (.sl H.length 0 0 xs.length) (i : Int) = some (.p H.length 0 i) := by simp [idxOf, hi]
    have hl : ((xs.take i).map CV.i).length = i := by simp; omega
    have hput : putAt ((xs.take i).map CV.i ++ List.replicate (xs.length - i) (.i 0)) i [.i xs[i]] = (xs.take (i + 1)).map CV.i ++ List.replicate (xs.length - (i + 1)) (.i 0) := by
      have e : List.replicate (xs.length - i) (CV.i 0) = .i 0 :: List.replicate (xs.length - (i + 1)) (.i 0) := by rw [show xs.length - i = (xs.length - (i + 1)) + 1 by omega, List.replicate_succ]
      rw [e, putAt_get (by simp; omega), List.set_append, if_neg (by omega), hl, Nat.sub_self, List.take_succ_eq_append_getElem hi, List.map_append, List.append_assoc]
      rfl
    have hle : i + 1 ≤ ((xs.take i).map CV.i ++ List.replicate (xs.length - i) (CV.i 0)).length := by simp; omega
    have hlo := hv1.lenOf
    generalize hcs : (xs.take i).map CV.i ++ List.replicate (xs.length - i) (CV.i 0) = cs at *
    generalize hcs2 : (xs.take (i + 1)).map CV.i ++ List.replicate (xs.length - (i + 1)) (CV.i 0) = cs2 at *
    unfold vf39b0
    simp [h0, h3, h4, hlo, hi, q1, q2, hidx, hle, hput, up1 hi hb]
    exact (hI _ _).2 ⟨by rw [hcs2], by simp [h0, h3]⟩
  · rintro ⟨e, X⟩ hIs
    obtain ⟨rfl, h0, h3, h4⟩ := (hI _ _).1 hIs
    simp only at h0 h3 h4 ⊢
    have hv1 := hv.app [⟨(xs.take xs.length).map .i ++ List.replicate (xs.length - xs.length) (.i 0), 0, true, 1⟩]
    have hlo := hv1.lenOf
    rw [List.take_length, Nat.sub_self, List.replicate_zero, List.append_nil] at *
    unfold vf39b0
    simp [h0, h3, h4, hlo]
    rw [gcRet_row ⟨_, rfl⟩ (Nat.le_refl _) (o := ⟨xs.map .i, 0, true, 1⟩) (by simp) rfl (by simp [flatC])]
end Go.Proofs.Ytnpbldjbfkpbcaa.Vm
