import Derived.Test.YtgdfgnppeekfjaaGreatP8
import Derived.Test.YtgdfgnppeekfjaaGreatP7
import Derived.Test.YtgdfgnppeekfjaaGreatP2
section
/- Programs pruned. Plain. No conditions. -/
namespace Go.Proofs.YtgdfgnppeekfjaaGreat.Vm
set_option linter.unusedSimpArgs false
set_option linter.unusedVariables false
end Go.Proofs.YtgdfgnppeekfjaaGreat.Vm
end
section
/- Rows thinned in place: whatever their elements are. No conditions. -/
namespace Go.Proofs.YtgdfgnppeekfjaaGreat.Vm
open Go.RowKit (wrap64)
set_option linter.unusedSimpArgs false
set_option linter.unusedVariables false
/-- A row by its elements' cells. -/
structure CObj (X : Hp) (id g sz : Nat) (css : List (List CV)) (rest : List CV) : Prop where
  ob : rdOb X id g = some ⟨css.flatten ++ rest, g, true, sz⟩
  len : ∀ cs ∈ css, cs.length = sz
theorem CObj.at_ {X : Hp} {id g sz : Nat} {css : List (List CV)} {rest : List CV} (h : CObj X id g sz css rest) {k : Nat} (hk : k < css.length) : rdN X id g (k * sz) sz = some css[k] := by
  obtain ⟨h1, h2⟩ := flat_drop h.len (List.getElem?_eq_getElem hk)
  rw [rdN_ob h.ob, if_pos (by simp only [List.length_append]; omega)]
  simp only
  rw [List.drop_append, List.take_append_of_le_length (by rw [List.length_drop]; omega), h1]
/-- But for one object all is there. -/
structure Onl (id : Nat) (X Y : Hp) : Prop where
  fr : Frm (fun j => j ≠ id) X Y
  len : X.length ≤ Y.length
theorem Onl.refl (id : Nat) (X : Hp) : Onl id X X := ⟨Frm.refl _ _, Nat.le_refl _⟩
theorem Onl.app {id : Nat} {X Y : Hp} (h : Onl id X Y) (L : Hp) : Onl id X (Y ++ L) := ⟨h.fr.trans (Frm.app _ _ _), by have := h.len; simp only [List.length_append]; omega⟩
theorem Onl.set {id : Nat} {X Y : Hp} (h : Onl id X Y) (o : Ob) : Onl id X (Y.set id o) := ⟨h.fr.trans (Frm.set _ _ (by simp)), by have := h.len; simp; omega⟩
end Go.Proofs.YtgdfgnppeekfjaaGreat.Vm
end
section
/- Programs of one's own: a row thinned, a block's rows changed. No conditions. -/
namespace Go.Proofs.YtgdfgnppeekfjaaGreat.Vm
open Go.RowKit (wrap64)
set_option linter.unusedSimpArgs false
set_option linter.unusedVariables false
theorem p20 (a b x : CV) : putAt [a, b] 0 [x] = [x, b] := rfl
theorem p21 (a b x : CV) : putAt [a, b] 1 [x] = [a, x] := rfl
theorem p22 (a b x y : CV) : putAt [a, b] 0 [x, y] = [x, y] := rfl
section
variable {α : Type} {P : Hp → List CV → α → (Nat → Prop) → Prop} {sz : Nat} {X Z : Hp} {id g : Nat} {cells : List CV} {xs : List α} {F : Nat → Prop} {Fs : Nat → Nat → Prop}
end
end Go.Proofs.YtgdfgnppeekfjaaGreat.Vm
end
section
/- Programs pruned, by the program. No conditions. -/
namespace Go.Proofs.YtgdfgnppeekfjaaGreat.Vm
open Go.RowKit (wrap64)
set_option linter.unusedSimpArgs false
set_option linter.unusedVariables false
theorem IsL.getD {H : Hp} {v : CV} {xs : List Bool} (h : IsL H v xs) {k : Nat} (hk : k < xs.length) : ∃ id g off, idxOf 1 v (k : Int) = some (.p id g off) ∧ rdC H id g off = some (.b (xs.getD k false)) := by
  obtain ⟨id, g, off, h1, h2⟩ := h.at_ hk
  exact ⟨id, g, off, h1, by rw [h2, getD_at hk]⟩
end Go.Proofs.YtgdfgnppeekfjaaGreat.Vm
end
section
/- Programs pruned, by the program. No conditions. -/
namespace Go.Proofs.YtgdfgnppeekfjaaGreat.Vm
open Go.RowKit (wrap64)
set_option linter.unusedSimpArgs false
set_option linter.unusedVariables false
end Go.Proofs.YtgdfgnppeekfjaaGreat.Vm
end
section
/- Programs pruned, by the specification: phis. No conditions. -/
namespace Go.Proofs.YtgdfgnppeekfjaaGreat.Vm
open Go.RowKit (wrap64)
set_option linter.unusedSimpArgs false
set_option linter.unusedVariables false
/-- Where a program is being pruned: the copy, what is used, the program itself. -/
structure PruneH (N o3 uid bf : Nat) (w v : CV) (m : Int) (us : List Bool) (B Y0 Y : Hp) (bs : List BlkR) : Prop where
  tree : Tree (fun j => N ≤ j ∧ j ≠ o3 ∧ j ≠ uid) Y w bs
  out : rdOb Y o3 0 = some ⟨[w, .i m], 0, true, 2⟩
  used : rdOb Y uid 0 = some (KOb us)
  pre : Pre B Y
  bl : B.length ≤ N
  box : rdOb B bf 0 = some ⟨[v, .i m], 0, true, 2⟩
  lo : Frm (fun j => j < N) Y0 Y
  len : Y0.length ≤ Y.length
theorem PruneH.app {N o3 uid bf : Nat} {w v : CV} {m : Int} {us : List Bool} {B Y0 Y : Hp} {bs : List BlkR} (h : PruneH N o3 uid bf w v m us B Y0 Y bs) (L : Hp) : PruneH N o3 uid bf w v m us B Y0 (Y ++ L) bs :=
  ⟨h.tree.fr blkF_st (Frm.app _ _ _), rdOb_app L h.out, rdOb_app L h.used, h.pre.app L, h.bl, h.box, h.lo.trans (Frm.app _ _ _), by have := h.len; simp only [List.length_append]; omega⟩
theorem PruneH.to {N o3 uid bf : Nat} {w v : CV} {m : Int} {us : List Bool} {B Y0 Y Z : Hp} {bs bs' : List BlkR} (h : PruneH N o3 uid bf w v m us B Y0 Y bs) (hT : Tree (fun j => N ≤ j ∧ j ≠ o3 ∧ j ≠ uid) Z w bs') (hf : Frm (fun j => ¬ (N ≤ j ∧ j ≠ o3 ∧ j ≠ uid)) Y Z) (hl : Y.length ≤ Z.length) :
    PruneH N o3 uid bf w v m us B Y0 Z bs' :=
  ⟨hT, hf.ob (by omega) h.out, hf.ob (by omega) h.used, (hf.mono fun j (hj : j < B.length) => by have := h.bl; omega).cut h.pre, h.bl, h.box, h.lo.trans (hf.mono fun j hj => by omega), Nat.le_trans h.len hl⟩
end Go.Proofs.YtgdfgnppeekfjaaGreat.Vm
end
section
/- Programs pruned, by the specification. No conditions. -/
namespace Go.Proofs.YtgdfgnppeekfjaaGreat.Vm
open Go.RowKit (wrap64)
set_option linter.unusedSimpArgs false
set_option linter.unusedVariables false
end Go.Proofs.YtgdfgnppeekfjaaGreat.Vm
end
section
/- Programs pruned, by the specification. No conditions. -/
namespace Go.Proofs.YtgdfgnppeekfjaaGreat.Vm
open Go.RowKit (wrap64)
set_option linter.unusedSimpArgs false
set_option linter.unusedVariables false
end Go.Proofs.YtgdfgnppeekfjaaGreat.Vm
end
