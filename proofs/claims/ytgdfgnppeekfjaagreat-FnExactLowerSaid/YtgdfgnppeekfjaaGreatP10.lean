import Derived.Test.YtgdfgnppeekfjaaGreatP8
import Derived.Test.YtgdfgnppeekfjaaGreatQy
import Derived.Test.YtgdfgnppeekfjaaGreatP9
section
/- Programs split. Plain. No conditions. -/
namespace Go.Proofs.YtgdfgnppeekfjaaGreat.Vm
set_option linter.unusedSimpArgs false
set_option linter.unusedVariables false
def splitN (bs : List BlkR) (k : Int) : List BlkR := bs ++ [⟨[], [], ⟨1, 0, k, 0⟩⟩]
end Go.Proofs.YtgdfgnppeekfjaaGreat.Vm
end
section
/- Edges split: the arms of phis turned, by both. No conditions. -/
namespace Go.Proofs.YtgdfgnppeekfjaaGreat.Vm
open Go.RowKit (wrap64)
set_option linter.unusedSimpArgs false
set_option linter.unusedVariables false
end Go.Proofs.YtgdfgnppeekfjaaGreat.Vm
end
section
/- Edges split: the arms of phis turned, by the specification. No conditions. -/
namespace Go.Proofs.YtgdfgnppeekfjaaGreat.Vm
open Go.RowKit (wrap64)
set_option linter.unusedSimpArgs false
set_option linter.unusedVariables false
end Go.Proofs.YtgdfgnppeekfjaaGreat.Vm
end
section
/- Edges split: a block put behind, a term changed. No conditions. -/
namespace Go.Proofs.YtgdfgnppeekfjaaGreat.Vm
open Go.RowKit (wrap64)
set_option linter.unusedSimpArgs false
set_option linter.unusedVariables false
section
variable {α : Type} {P : Hp → List CV → α → (Nat → Prop) → Prop} {sz : Nat} {X : Hp} {F : Nat → Prop} {w : CV} {xs : List α}
theorem FRow.part (hP : Stab P) (h : FRow P sz X w xs F) {k : Nat} (hk : k < xs.length) :
    ∃ id g cells cs, ∃ G : Nat → Prop, idxOf sz w (k : Int) = some (.p id g (k * sz)) ∧ rdOb X id g = some ⟨cells, g, true, sz⟩ ∧ k * sz + sz ≤ cells.length ∧ P X cs xs[k] G ∧ rdN X id g (k * sz) sz = some cs ∧ (∀ j c, cs[j]? = some c → rdC X id g (k * sz + j) = some c) ∧ F id ∧
      ∀ (j : Nat) (ys : List CV) (x' : α), j + ys.length ≤ sz → (∀ Z G, P Z cs xs[k] G → P Z (putAt cs j ys) x' G) →
        FRow P sz (X.set id ⟨putAt cells (k * sz + j) ys, g, true, sz⟩) w (xs.set k x') F := by
  obtain ⟨id, g, cells, Fs, rfl, hc⟩ := h.open hk
  clear h
  have hfit := hc.fit hk
  refine ⟨id, g, cells, chk cells sz k, Fs k, idx_sl hk, hc.ob, hfit, hc.el k hk, hc.nn hk, fun j c hj => ?_, hc.own, fun j ys x' hj hp => ?_⟩
  · have hjl : j < sz := by
      have := (List.getElem?_eq_some_iff.1 hj).1
      rwa [chk_len hfit] at this
    rw [hc.c hjl]; exact hj
  · have hset : ∀ G : Nat → Prop, ¬ G id → Frm G X (X.set id ⟨putAt cells (k * sz + j) ys, g, true, sz⟩) := fun G hG => Frm.set X _ hG
    have := (hc.put (Y := X.set id ⟨putAt cells (k * sz + j) ys, g, true, sz⟩) (x' := x') (G' := Fs k) hP hk (j := j) (ys := ys) hj (by rw [rdOb_set_self hc.lt]; simp) (hset _ fun hn => hn.2.1 rfl)
      (fun i hi => ⟨(hc.sub k i hk hi).1, (hc.sub k i hk hi).2.1, by simpa using (hc.sub k i hk hi).2.2, .inl hi⟩) (hp _ _ (hP.st (hset _ fun hn => (hc.sub k id hk hn).2.1 rfl) (hc.el k hk)))).row
    simpa using this
end
/-- Where edges are being split. -/
structure SplitH (N o3 : Nat) (E : Nat → Prop) (m : Int) (X0 Y : Hp) (w : CV) (bs : List BlkR) : Prop where
  tree : Tree (fun j => N ≤ j ∧ ¬ E j ∧ j ≠ o3) Y w bs
  out : rdOb Y o3 0 = some ⟨[w, .i m], 0, true, 2⟩
  fr : Frm (fun j => j < X0.length ∧ (j < N ∨ (E j ∧ j ≠ o3))) X0 Y
  len : X0.length ≤ Y.length
theorem SplitH.app {N o3 : Nat} {E : Nat → Prop} {m : Int} {X0 Y : Hp} {w : CV} {bs : List BlkR} (h : SplitH N o3 E m X0 Y w bs) (L : Hp) : SplitH N o3 E m X0 (Y ++ L) w bs :=
  ⟨h.tree.fr blkF_st (Frm.app _ _ _), rdOb_app L h.out, h.fr.trans (Frm.app _ _ _), by have := h.len; simp only [List.length_append]; omega⟩
theorem SplitH.to {N o3 : Nat} {E : Nat → Prop} {m : Int} {X0 Y Z : Hp} {w : CV} {bs bs' : List BlkR} (h : SplitH N o3 E m X0 Y w bs) (hN : N ≤ o3) (hT : Tree (fun j => N ≤ j ∧ ¬ E j ∧ j ≠ o3) Z w bs') (hf : Frm (fun j => j < Y.length ∧ ¬ (N ≤ j ∧ ¬ E j ∧ j ≠ o3)) Y Z) (hl : Y.length ≤ Z.length) : SplitH N o3 E m X0 Z w bs' :=
  ⟨hT, hf.ob ⟨rdOb_lt h.out, by omega⟩ h.out, h.fr.trans (hf.mono fun j hj => ⟨by have := h.len; omega, fun hn => by rcases hj.2 with h1 | h1; omega; exact hn.2.1 h1.1⟩), Nat.le_trans h.len hl⟩
theorem SplitH.push {N o3 : Nat} {E : Nat → Prop} {m : Int} {X0 Y : Hp} {w : CV} {bs : List BlkR} (h : SplitH N o3 E m X0 Y w bs) (hN : N ≤ o3) (hNY : N ≤ Y.length) (hE : ∀ j, E j → j < Y.length) (hb : bs.length ≤ BIG) (k : Int) :
    ∃ i' g' Y1 Z Z2, Y ++ [(⟨[.ns, .ns, .i 1, .i 0, .i k, .i 0], 0, true, 6⟩ : Ob)] = Y1 ∧ srcOf Y1 6 (.sl Y.length 0 0 1) = some (1, [.ns, .ns, .i 1, .i 0, .i k, .i 0]) ∧
      doApp Y1 6 w 1 [.ns, .ns, .i 1, .i 0, .i k, .i 0] = some (.c (.sl i' g' 0 (bs.length + 1)), Z) ∧ rdOb Z o3 0 = some ⟨[w, .i m], 0, true, 2⟩ ∧ Z.set o3 ⟨[.sl i' g' 0 (bs.length + 1), .i m], 0, true, 2⟩ = Z2 ∧
      SplitH N o3 E m X0 Z2 (.sl i' g' 0 (bs.length + 1)) (splitN bs k) ∧ Y.length ≤ Z2.length ∧ Frm (fun j => j < Y.length ∧ (j < N ∨ E j ∧ j ≠ o3)) Y Z2 := by
  obtain ⟨Y1, hY1⟩ : ∃ Y1, Y ++ [(⟨[.ns, .ns, .i 1, .i 0, .i k, .i 0], 0, true, 6⟩ : Ob)] = Y1 := ⟨_, rfl⟩
  have hp1 : Pre Y Y1 := ⟨_, hY1.symm⟩
  have l1 : Y1.length = Y.length + 1 := by rw [← hY1]; simp
  have n1 : rdOb Y1 Y.length 0 = some ⟨[.ns, .ns, .i 1, .i 0, .i k, .i 0], 0, true, 6⟩ := by rw [← hY1]; simp
  have hlo := rdOb_lt h.out
  obtain ⟨i', g', Z, happ, hT, hf, hl⟩ := (h.tree.fr blkF_st (Frm.pre hp1)).snoc blkF_st hb (by omega) (by omega) (cs := [.ns, .ns, .i 1, .i 0, .i k, .i 0]) (x := ⟨[], [], ⟨1, 0, k, 0⟩⟩) (G := fun _ => False) rfl
    (fun W hW => ⟨.ns, .ns, fun _ => False, fun _ => False, rfl, FRow.ns, FRow.ns, fun i hi => hi.elim, fun i hi => hi.elim, by simp, by simp⟩) (fun i hi => hi.elim)
  have hOZ : rdOb Z o3 0 = some ⟨[w, .i m], 0, true, 2⟩ := hf.ob (fun hn => hn.2.2 rfl) (hp1.rdOb h.out)
  refine ⟨i', g', Y1, Z, _, rfl.trans hY1, by simp [srcOf, n1], happ, hOZ, rfl, ⟨?_, ?_, ?_, ?_⟩, ?_, ?_⟩
  · refine (hT.fr blkF_st (Frm.set _ _ ?_)).mono fun j hj => ?_
    · rintro (hn | hn | hn)
      · exact hn.2.2 rfl
      · exact hn
      · omega
    · rcases hj with hj | hj | hj
      · exact hj
      · exact hj.elim
      · exact ⟨by omega, fun he => by have := hE j he; omega, by omega⟩
  · rw [rdOb_set_self (rdOb_lt hOZ)]; simp
  · refine h.fr.trans ((Frm.pre hp1).trans ((hf.mono fun j hj hn => ?_).trans (Frm.set _ _ ?_)))
    · rcases hj.2 with h1 | h1
      · omega
      · exact hn.2.1 h1.1
    · intro hn; rcases hn.2 with h1 | h1
      · omega
      · exact h1.2 rfl
  · simp only [List.length_set]; have := h.len; omega
  · simp only [List.length_set]; omega
  · refine (Frm.pre hp1).trans ((hf.mono fun j hj hn => ?_).trans (Frm.set _ _ ?_))
    · rcases hj.2 with h1 | h1
      · omega
      · exact hn.2.1 h1.1
    · intro hn; rcases hn.2 with h1 | h1
      · omega
      · exact h1.2 rfl
def FnRes2 (H : Hp) (g : FnR) (ok : Bool) (r : IV × Hp) : Prop := ∃ w L, r = (.tup [(true, [w, .i g.values]), (false, [.b ok])], H ++ L) ∧ Tree (fun i => H.length ≤ i) (H ++ L) w g.blocks
theorem FnRes2.mk {H X : Hp} {w : CV} {g : FnR} {ok : Bool} {S : Nat → Prop} (hp : Pre H X) (hT : Tree S X w g.blocks) (hS : ∀ j, S j → H.length ≤ j) : FnRes2 H g ok (gcRet H (.tup [(true, [w, .i g.values]), (false, [.b ok])]) X) := by
  have hT := FRow.mono hT hS
  rcases FRow.form hT with rfl | ⟨i', g', n', rfl⟩
  · have hbs : g.blocks = [] := by
      rcases hT with ⟨_, h⟩ | ⟨_, _, _, _, h, _⟩
      · exact h
      · cases h
    rw [gcRet_flat hp (show flatV (.tup [(true, [.ns, .i g.values]), (false, [.b ok])]) = true from rfl)]
    exact ⟨.ns, [], by simp, .inl ⟨rfl, hbs⟩⟩
  · have e : gcRet H (.tup [(true, [.sl i' g' 0 n', .i g.values]), (false, [.b ok])]) X = (.tup [(true, [.sl i' g' 0 n', .i g.values]), (false, [.b ok])], X) := by
      unfold gcRet
      split
      · rw [if_neg (by simp [flatV, flatC])]
      · rfl
    rw [e]
    obtain ⟨L, rfl⟩ := hp
    exact ⟨_, L, rfl, hT⟩
end Go.Proofs.YtgdfgnppeekfjaaGreat.Vm
end
section
/- Programs split, by the program. No conditions. -/
namespace Go.Proofs.YtgdfgnppeekfjaaGreat.Vm
open Go.RowKit (wrap64)
set_option linter.unusedSimpArgs false
set_option linter.unusedVariables false
end Go.Proofs.YtgdfgnppeekfjaaGreat.Vm
end
section
/- Programs split, by the specification. No conditions. -/
namespace Go.Proofs.YtgdfgnppeekfjaaGreat.Vm
open Go.RowKit (wrap64)
set_option linter.unusedSimpArgs false
set_option linter.unusedVariables false
end Go.Proofs.YtgdfgnppeekfjaaGreat.Vm
end
