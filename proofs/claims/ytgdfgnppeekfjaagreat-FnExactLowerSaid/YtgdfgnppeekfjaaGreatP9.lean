import Derived.Test.YtgdfgnppeekfjaaGreatP8
import Derived.Test.YtgdfgnppeekfjaaGreatP7
import Derived.Test.YtgdfgnppeekfjaaGreatP2
section
/- Programs pruned. Plain. No conditions. -/
namespace Go.Proofs.YtgdfgnppeekfjaaGreat.Vm
set_option linter.unusedSimpArgs false
set_option linter.unusedVariables false
end Go.Proofs.YtgdfgnppeekfjaaGreat.Vm
end
section
/- Rows thinned in place: whatever their elements are. No conditions. -/
namespace Go.Proofs.YtgdfgnppeekfjaaGreat.Vm
open Go.RowKit (wrap64)
set_option linter.unusedSimpArgs false
set_option linter.unusedVariables false
/-- A row by its elements' cells. -/
structure CObj (X : Hp) (id g sz : Nat) (css : List (List CV)) (rest : List CV) : Prop where
  ob : rdOb X id g = some ⟨css.flatten ++ rest, g, true, sz⟩
  len : ∀ cs ∈ css, cs.length = sz
theorem CObj.at_ {X : Hp} {id g sz : Nat} {css : List (List CV)} {rest : List CV} (h : CObj X id g sz css rest) {k : Nat} (hk : k < css.length) : rdN X id g (k * sz) sz = some css[k] := by
  obtain ⟨h1, h2⟩ := flat_drop h.len (List.getElem?_eq_getElem hk)
  rw [rdN_ob h.ob, if_pos (by simp only [List.length_append]; omega)]
  simp only
  rw [List.drop_append, List.take_append_of_le_length (by rw [List.length_drop]; omega), h1]
/-- But for one object all is there. -/
structure Onl (id : Nat) (X Y : Hp) : Prop where
  fr : Frm (fun j => j ≠ id) X Y
  len : X.length ≤ Y.length
theorem Onl.app {id : Nat} {X Y : Hp} (h : Onl id X Y) (L : Hp) : Onl id X (Y ++ L) := ⟨h.fr.trans (Frm.app _ _ _), by have := h.len; simp only [List.length_append]; omega⟩
theorem Onl.set {id : Nat} {X Y : Hp} (h : Onl id X Y) (o : Ob) : Onl id X (Y.set id o) := ⟨h.fr.trans (Frm.set _ _ (by simp)), by have := h.len; simp; omega⟩
end Go.Proofs.YtgdfgnppeekfjaaGreat.Vm
end
section
/- Programs of one's own: a row thinned, a block's rows changed. No conditions. -/
namespace Go.Proofs.YtgdfgnppeekfjaaGreat.Vm
open Go.RowKit (wrap64)
set_option linter.unusedSimpArgs false
set_option linter.unusedVariables false
theorem p20 (a b x : CV) : putAt [a, b] 0 [x] = [x, b] := rfl
theorem p21 (a b x : CV) : putAt [a, b] 1 [x] = [a, x] := rfl
theorem p22 (a b x y : CV) : putAt [a, b] 0 [x, y] = [x, y] := rfl
section
variable {α : Type} {P : Hp → List CV → α → (Nat → Prop) → Prop} {sz : Nat} {X Z : Hp} {id g : Nat} {cells : List CV} {xs : List α} {F : Nat → Prop} {Fs : Nat → Nat → Prop}
end
theorem Tree.phisH {S : Nat → Prop} {X : Hp} {v : CV} {bs : List BlkR} {b : Nat} (h : Tree S X v bs) (hb : b < bs.length) :
    ∃ id g cells z u, ∃ Gz : Nat → Prop, idxOf 6 v (b : Int) = some (.p id g (b * 6)) ∧ rdOb X id g = some ⟨cells, g, true, 6⟩ ∧ b * 6 + 6 ≤ cells.length ∧ rdN X id g (b * 6) 6 = some (z :: u :: trmC bs[b].term) ∧ rdC X id g (b * 6) = some z ∧ FRow phiF 2 X z bs[b].phis Gz ∧ (∀ j, Gz j → S j ∧ j < X.length ∧ j ≠ id) ∧ S id ∧ bs[b].phis.length ≤ BIG ∧
      ∀ Y ps z' (Gz' : Nat → Prop), X.length ≤ Y.length → Frm (fun j => S j ∧ ¬ Gz j) X Y → FRow phiF 2 Y z' ps Gz' → (∀ j, Gz' j → Gz j ∨ (X.length ≤ j ∧ S j ∧ j < Y.length)) → ps.length ≤ BIG →
        rdOb Y id g = some ⟨cells, g, true, 6⟩ ∧ Tree S (Y.set id ⟨putAt cells (b * 6) [z'], g, true, 6⟩) v (bs.set b ⟨ps, bs[b].list, bs[b].term⟩) := by
  obtain ⟨id, g, cells, Fs, z, u, Gz, Gu, rfl, hc, h1, h2, h3, h4, h5, h6, h7⟩ := h.at_ hb
  clear h
  have hsub : ∀ j, Gz j → S j ∧ j < X.length ∧ j ≠ id := fun j hj => ⟨(hc.sub b j hb (h4 j hj).1).1, (hc.sub b j hb (h4 j hj).1).2.2, (hc.sub b j hb (h4 j hj).1).2.1⟩
  have hlt := hc.lt
  refine ⟨id, g, cells, z, u, Gz, idx_sl hb, hc.ob, hc.fit hb, by rw [hc.nn hb, h1], ?_, h2, hsub, hc.own, h6, fun Y ps z' Gz' hl hf hr hg hlb => ?_⟩
  · have := hc.c (k := b) (j := 0) (by omega)
    rw [Nat.add_zero] at this
    rw [this, h1]; rfl
  · have hob : rdOb Y id g = some ⟨cells, g, true, 6⟩ := hf.ob ⟨hc.own, fun h => (hsub id h).2.2 rfl⟩ hc.ob
    refine ⟨hob, ?_⟩
    obtain ⟨Y', hY'⟩ : ∃ Y', Y.set id ⟨putAt cells (b * 6) [z'], g, true, 6⟩ = Y' := ⟨_, rfl⟩
    have hfs : ∀ G : Nat → Prop, ¬ G id → Frm G Y Y' := fun G hG => by rw [← hY']; exact Frm.set Y _ hG
    have hl' : Y'.length = Y.length := by rw [← hY']; simp
    rw [hY']
    have := (hc.put blkF_st hb (j := 0) (ys := [z']) (x' := ⟨ps, bs[b].list, bs[b].term⟩) (G' := fun i => Fs b i ∨ (X.length ≤ i ∧ S i ∧ i < Y.length)) (Y := Y') (by simp) (by rw [Nat.add_zero, ← hY', rdOb_set_self (rdOb_lt hob)]; simp)
      ((hf.mono fun j hj => ⟨hj.1, fun h => hj.2.2 (h4 j h).1⟩).trans (hfs _ fun hn => hn.2.1 rfl))
      (fun i hi => by
        rcases hi with hi | hi
        · have := hc.sub b i hb hi
          exact ⟨this.1, this.2.1, by omega, .inl hi⟩
        · exact ⟨hi.2.1, by omega, by omega, .inr hi.1⟩)
      (by
        rw [h1]
        refine ⟨z', u, Gz', Gu, rfl, hr.fr phiF_st (hfs _ fun hn => ?_), (h3.fr insF_st (hf.mono fun j hj => ⟨(hc.sub b j hb (h5 j hj)).1, fun h => (h4 j h).2 hj⟩)).fr insF_st (hfs _ fun hn => (hc.sub b id hb (h5 id hn)).2.1 rfl), fun i hi => ?_, fun i hi => .inl (h5 i hi), hlb, h7⟩
        · rcases hg id hn with h | h
          · exact (hsub id h).2.2 rfl
          · omega
        · rcases hg i hi with h | h
          · exact ⟨.inl (h4 i h).1, (h4 i h).2⟩
          · exact ⟨.inr h, fun hu => by have := (hc.sub b i hb (h5 i hu)).2.2; omega⟩)).row
    simpa using this
theorem Tree.listH {S : Nat → Prop} {X : Hp} {v : CV} {bs : List BlkR} {b : Nat} (h : Tree S X v bs) (hb : b < bs.length) :
    ∃ id g cells z u, ∃ Gu : Nat → Prop, idxOf 6 v (b : Int) = some (.p id g (b * 6)) ∧ rdOb X id g = some ⟨cells, g, true, 6⟩ ∧ b * 6 + 6 ≤ cells.length ∧ rdN X id g (b * 6) 6 = some (z :: u :: trmC bs[b].term) ∧ rdC X id g (b * 6 + 1) = some u ∧ FRow insF 5 X u bs[b].list Gu ∧ (∀ j, Gu j → S j ∧ j < X.length ∧ j ≠ id) ∧ S id ∧ bs[b].list.length ≤ BIG ∧
      ∀ Y ls u' (Gu' : Nat → Prop), X.length ≤ Y.length → Frm (fun j => S j ∧ ¬ Gu j) X Y → FRow insF 5 Y u' ls Gu' → (∀ j, Gu' j → Gu j ∨ (X.length ≤ j ∧ S j ∧ j < Y.length)) → ls.length ≤ BIG →
        rdOb Y id g = some ⟨cells, g, true, 6⟩ ∧ Tree S (Y.set id ⟨putAt cells (b * 6 + 1) [u'], g, true, 6⟩) v (bs.set b ⟨bs[b].phis, ls, bs[b].term⟩) := by
  obtain ⟨id, g, cells, Fs, z, u, Gz, Gu, rfl, hc, h1, h2, h3, h4, h5, h6, h7⟩ := h.at_ hb
  clear h
  have hsub : ∀ j, Gu j → S j ∧ j < X.length ∧ j ≠ id := fun j hj => ⟨(hc.sub b j hb (h5 j hj)).1, (hc.sub b j hb (h5 j hj)).2.2, (hc.sub b j hb (h5 j hj)).2.1⟩
  have hlt := hc.lt
  refine ⟨id, g, cells, z, u, Gu, idx_sl hb, hc.ob, hc.fit hb, by rw [hc.nn hb, h1], by rw [hc.c (by omega), h1]; rfl, h3, hsub, hc.own, h7, fun Y ls u' Gu' hl hf hr hg hlb => ?_⟩
  have hob : rdOb Y id g = some ⟨cells, g, true, 6⟩ := hf.ob ⟨hc.own, fun h => (hsub id h).2.2 rfl⟩ hc.ob
  refine ⟨hob, ?_⟩
  obtain ⟨Y', hY'⟩ : ∃ Y', Y.set id ⟨putAt cells (b * 6 + 1) [u'], g, true, 6⟩ = Y' := ⟨_, rfl⟩
  have hfs : ∀ G : Nat → Prop, ¬ G id → Frm G Y Y' := fun G hG => by rw [← hY']; exact Frm.set Y _ hG
  have hl' : Y'.length = Y.length := by rw [← hY']; simp
  rw [hY']
  have := (hc.put blkF_st hb (j := 1) (ys := [u']) (x' := ⟨bs[b].phis, ls, bs[b].term⟩) (G' := fun i => Fs b i ∨ (X.length ≤ i ∧ S i ∧ i < Y.length)) (Y := Y') (by simp) (by rw [← hY', rdOb_set_self (rdOb_lt hob)]; simp)
    ((hf.mono fun j hj => ⟨hj.1, fun h => hj.2.2 (h5 j h)⟩).trans (hfs _ fun hn => hn.2.1 rfl))
    (fun i hi => by
      rcases hi with hi | hi
      · have := hc.sub b i hb hi
        exact ⟨this.1, this.2.1, by omega, .inl hi⟩
      · exact ⟨hi.2.1, by omega, by omega, .inr hi.1⟩)
    (by
      rw [h1]
      refine ⟨z, u', Gz, Gu', rfl, (h2.fr phiF_st (hf.mono fun j hj => ⟨(hc.sub b j hb (h4 j hj).1).1, fun h => (h4 j hj).2 h⟩)).fr phiF_st (hfs _ fun hn => (hc.sub b id hb (h4 id hn).1).2.1 rfl), hr.fr insF_st (hfs _ fun hn => ?_), fun i hi => ⟨.inl (h4 i hi).1, fun hu => ?_⟩, fun i hi => ?_, h6, hlb⟩
      · rcases hg id hn with h | h
        · exact (hsub id h).2.2 rfl
        · omega
      · rcases hg i hu with h | h
        · exact (h4 i hi).2 h
        · have := (hc.sub b i hb (h4 i hi).1).2.2; omega
      · rcases hg i hi with h | h
        · exact .inl (h5 i h)
        · exact .inr h)).row
  simpa using this
end Go.Proofs.YtgdfgnppeekfjaaGreat.Vm
end
section
/- Programs pruned, by the program. No conditions. -/
namespace Go.Proofs.YtgdfgnppeekfjaaGreat.Vm
open Go.RowKit (wrap64)
set_option linter.unusedSimpArgs false
set_option linter.unusedVariables false
theorem IsL.getD {H : Hp} {v : CV} {xs : List Bool} (h : IsL H v xs) {k : Nat} (hk : k < xs.length) : ∃ id g off, idxOf 1 v (k : Int) = some (.p id g off) ∧ rdC H id g off = some (.b (xs.getD k false)) := by
  obtain ⟨id, g, off, h1, h2⟩ := h.at_ hk
  exact ⟨id, g, off, h1, by rw [h2, getD_at hk]⟩
end Go.Proofs.YtgdfgnppeekfjaaGreat.Vm
end
section
/- Programs pruned, by the program. No conditions. -/
namespace Go.Proofs.YtgdfgnppeekfjaaGreat.Vm
open Go.RowKit (wrap64)
set_option linter.unusedSimpArgs false
set_option linter.unusedVariables false
end Go.Proofs.YtgdfgnppeekfjaaGreat.Vm
end
section
/- Programs pruned, by the specification: phis. No conditions. -/
namespace Go.Proofs.YtgdfgnppeekfjaaGreat.Vm
open Go.RowKit (wrap64)
set_option linter.unusedSimpArgs false
set_option linter.unusedVariables false
/-- Where a program is being pruned: the copy, what is used, the program itself. -/
structure PruneH (N o3 uid bf : Nat) (w v : CV) (m : Int) (us : List Bool) (B Y0 Y : Hp) (bs : List BlkR) : Prop where
  tree : Tree (fun j => N ≤ j ∧ j ≠ o3 ∧ j ≠ uid) Y w bs
  out : rdOb Y o3 0 = some ⟨[w, .i m], 0, true, 2⟩
  used : rdOb Y uid 0 = some (KOb us)
  pre : Pre B Y
  bl : B.length ≤ N
  box : rdOb B bf 0 = some ⟨[v, .i m], 0, true, 2⟩
  lo : Frm (fun j => j < N) Y0 Y
  len : Y0.length ≤ Y.length
theorem PruneH.app {N o3 uid bf : Nat} {w v : CV} {m : Int} {us : List Bool} {B Y0 Y : Hp} {bs : List BlkR} (h : PruneH N o3 uid bf w v m us B Y0 Y bs) (L : Hp) : PruneH N o3 uid bf w v m us B Y0 (Y ++ L) bs :=
  ⟨h.tree.fr blkF_st (Frm.app _ _ _), rdOb_app L h.out, rdOb_app L h.used, h.pre.app L, h.bl, h.box, h.lo.trans (Frm.app _ _ _), by have := h.len; simp only [List.length_append]; omega⟩
theorem PruneH.to {N o3 uid bf : Nat} {w v : CV} {m : Int} {us : List Bool} {B Y0 Y Z : Hp} {bs bs' : List BlkR} (h : PruneH N o3 uid bf w v m us B Y0 Y bs) (hT : Tree (fun j => N ≤ j ∧ j ≠ o3 ∧ j ≠ uid) Z w bs') (hf : Frm (fun j => ¬ (N ≤ j ∧ j ≠ o3 ∧ j ≠ uid)) Y Z) (hl : Y.length ≤ Z.length) :
    PruneH N o3 uid bf w v m us B Y0 Z bs' :=
  ⟨hT, hf.ob (by omega) h.out, hf.ob (by omega) h.used, (hf.mono fun j (hj : j < B.length) => by have := h.bl; omega).cut h.pre, h.bl, h.box, h.lo.trans (hf.mono fun j hj => by omega), Nat.le_trans h.len hl⟩
end Go.Proofs.YtgdfgnppeekfjaaGreat.Vm
end
section
/- Programs pruned, by the specification. No conditions. -/
namespace Go.Proofs.YtgdfgnppeekfjaaGreat.Vm
open Go.RowKit (wrap64)
set_option linter.unusedSimpArgs false
set_option linter.unusedVariables false
end Go.Proofs.YtgdfgnppeekfjaaGreat.Vm
end
section
/- Programs pruned, by the specification. No conditions. -/
namespace Go.Proofs.YtgdfgnppeekfjaaGreat.Vm
open Go.RowKit (wrap64)
set_option linter.unusedSimpArgs false
set_option linter.unusedVariables false
end Go.Proofs.YtgdfgnppeekfjaaGreat.Vm
end
