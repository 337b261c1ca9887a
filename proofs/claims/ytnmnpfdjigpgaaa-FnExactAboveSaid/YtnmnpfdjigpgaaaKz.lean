/- Who stands on every way to whom. No conditions. -/
import Derived.Test.YtnmnpfdjigpgaaaKu
namespace Go.Proofs.Ytnmnpfdjigpgaaa.Vm
open Go.RowKit (wrap64)
set_option linter.unusedSimpArgs false
set_option linter.unusedVariables false

theorem flat_set (l : List Bool) (b : Nat) (x : Bool) : ((l.map CV.b).set b (.b x)).all flatC = true := by
  rw [← List.map_set]; simp only [List.all_map, List.all_eq_true]; intro y _; rfl
def falses (n : Nat) : List Bool := List.replicate n false
def walkB (bs : List BlkR) (b : Nat) : WSt := walkF bs bs.length 0 ((falses bs.length).set b true, [])
def withoutF (bs : List BlkR) (b : Nat) : List Bool := if b = 0 then falses bs.length else (walkB bs b).1.set b false
theorem cf_le_len (l : List Bool) : cf l ≤ l.length := List.count_le_length
theorem withoutF_len (bs : List BlkR) (b : Nat) : (withoutF bs b).length = bs.length := by
  unfold withoutF
  split
  · simp [falses]
  · rw [List.length_set]
    unfold walkB
    rw [(walkF_ok bs bs.length 0 _).1.len]; simp [falses]
theorem getD_falses' {n b : Nat} (h : 0 < n) (hb : b ≠ 0) : ((falses n).set b true).getD 0 true = false := by
  rw [List.getD_eq_getElem?_getD, List.getElem?_set]
  rw [if_neg hb, List.getElem?_eq_getElem (by simpa [falses] using h)]; simp [falses]

theorem implWithout {H : Hp} {v : CV} {bs : List BlkR} {m : Int} {b : Nat} (hv : Blocks H v bs) (hin : InRange bs) (hb : bs.length ≤ BIG) (hbl : b < bs.length) (k : IV × Hp → Prop) :
    CM 121 [.agg [v, .i m], .c (.i b)] H k = k (.c (.sl H.length 0 0 bs.length), H ++ [⟨(withoutF bs b).map .b, 0, true, 1⟩]) := by
  refine det (cw121 ?_) k
  unfold vf121c
  have hlim : bs.length ≤ LIM := by simp only [BIG] at hb; simp only [LIM]; omega
  have h0 : 0 < bs.length := by omega
  by_cases hb0 : b = 0
  · subst hb0
    simp [(hv.app _).lenOf, hv.lenOf, hlim, falses_flat]
    rw [gcRet_row ⟨_, rfl⟩ (by omega) (o := ⟨List.replicate bs.length (.b false), 0, true, 1⟩) (by simp) rfl (by simp [flatC])]
    simp [withoutF, falses]
  · obtain ⟨X1, hX1⟩ : ∃ X1, H ++ [(⟨[v, .i m], 0, true, 2⟩ : Ob), ⟨((falses bs.length).set b true).map .b, 0, true, 1⟩] = X1 := ⟨_, rfl⟩
    have hl1 : X1.length = H.length + 2 := by rw [← hX1]; simp
    have hp1 : Pre H X1 := ⟨_, hX1.symm⟩
    have hb1 : rdOb X1 H.length 0 = some ⟨[v, .i m], 0, true, 2⟩ := by rw [← hX1]; simp
    have hs1 : rdOb X1 (H.length + 1) 0 = some ⟨((falses bs.length).set b true).map .b, 0, true, 1⟩ := by rw [← hX1]; simp
    have hX1' : H ++ [(⟨[v, .i m], 0, true, 2⟩ : Ob), ⟨(List.replicate bs.length (CV.b false)).set b (.b true), 0, true, 1⟩] = X1 := by rw [← hX1]; simp [falses]
    have hbi : ¬ ((b : Int) = 0) := by omega
    simp [(hv.app _).lenOf, hv.lenOf, hlim, falses_flat, hb0, idxOf, hbl, putAt_get, show b + 1 ≤ bs.length from hbl, hX1', rdN_ob hb1]
    have hw : ∀ id, IsOut CV.ns id → H.length ≤ id ∧ id ≠ H.length + 1 := fun id ⟨_, _, h⟩ => by cases h
    have hwalk := implWalk (m := m) hv hin hb bs.length (X := X1) (s := H.length + 1) (gs := 0) (b := 0) (w := .ns) (seen := (falses bs.length).set b true) (out := []) hp1 (by omega) hw hs1 (by simp [falses]) (.inl ⟨rfl, rfl⟩) h0 (getD_falses' h0 hb0) (Nat.le_trans (cf_le_len _) (by simp [falses])) (by have := cf_le_len ((falses bs.length).set b true); simp [falses] at this ⊢; omega)
    refine CM.mono hwalk ?_
    rintro _ ⟨w', X2, rfl, hW⟩
    have hseen := hW.seen
    change rdOb X2 (H.length + 1) 0 = some ⟨(walkB bs b).1.map .b, 0, true, 1⟩ at hseen
    have hpre := hW.pre
    have hlt := rdOb_lt hseen
    have hwl : (walkB bs b).1.length = bs.length := by unfold walkB; rw [(walkF_ok bs bs.length 0 _).1.len]; simp [falses]
    simp [idxOf, hbl, hseen, hwl, putAt_get, show b + 1 ≤ bs.length from hbl]
    rw [gcRet_row (hpre.set (by omega) _) (by omega) (o := ⟨((walkB bs b).1.map .b).set b (.b false), 0, true, 1⟩) (by rw [rdOb_set_self hlt]; simp) rfl (flat_set _ _ _)]
    simp [withoutF, hb0]

theorem specWithout {H : Hp} {v : CV} {bs : List BlkR} {m : Int} {b : Nat} (hv : Blocks H v bs) (hin : InRange bs) (hb : bs.length ≤ BIG) (hbl : b < bs.length) (k : IV × Hp → Prop) :
    CM 120 [.agg [v, .i m], .c (.i b)] H k = k (.c (.sl H.length 0 0 bs.length), H ++ [⟨(withoutF bs b).map .b, 0, true, 1⟩]) := by
  refine det (cw120 ?_) k
  unfold vf120c
  have hlim : bs.length ≤ LIM := by simp only [BIG] at hb; simp only [LIM]; omega
  have h0 : 0 < bs.length := by omega
  by_cases hb0 : b = 0
  · subst hb0
    simp [(hv.app _).lenOf, hv.lenOf, hlim, falses_flat]
    rw [gcRet_row ⟨_, rfl⟩ (by omega) (o := ⟨List.replicate bs.length (.b false), 0, true, 1⟩) (by simp) rfl (by simp [flatC])]
    simp [withoutF, falses]
  · obtain ⟨X1, hX1⟩ : ∃ X1, H ++ [(⟨[v, .i m], 0, true, 2⟩ : Ob), ⟨((falses bs.length).set b true).map .b, 0, true, 1⟩] = X1 := ⟨_, rfl⟩
    have hl1 : X1.length = H.length + 2 := by rw [← hX1]; simp
    have hp1 : Pre H X1 := ⟨_, hX1.symm⟩
    have hb1 : rdOb X1 H.length 0 = some ⟨[v, .i m], 0, true, 2⟩ := by rw [← hX1]; simp
    have hs1 : rdOb X1 (H.length + 1) 0 = some ⟨((falses bs.length).set b true).map .b, 0, true, 1⟩ := by rw [← hX1]; simp
    have hX1' : H ++ [(⟨[v, .i m], 0, true, 2⟩ : Ob), ⟨(List.replicate bs.length (CV.b false)).set b (.b true), 0, true, 1⟩] = X1 := by rw [← hX1]; simp [falses]
    have hbi : ¬ ((b : Int) = 0) := by omega
    simp [(hv.app _).lenOf, hv.lenOf, hlim, falses_flat, hb0, idxOf, hbl, putAt_get, show b + 1 ≤ bs.length from hbl, hX1', rdN_ob hb1]
    obtain ⟨X3, hX3⟩ : ∃ X3, X1 ++ [(⟨[], 0, true, 1⟩ : Ob)] = X3 := ⟨_, rfl⟩
    have hp3 : Pre H X3 := hp1.trans ⟨_, hX3.symm⟩
    have ho3 : rdOb X3 X1.length 0 = some ⟨[], 0, true, 1⟩ := by rw [← hX3]; simp
    have hs3 : rdOb X3 (H.length + 1) 0 = some ⟨((falses bs.length).set b true).map .b, 0, true, 1⟩ := by rw [← hX3]; exact rdOb_app _ hs1
    simp [hX3]
    have hw : ∀ id, IsOut (.sl X1.length 0 0 0) id → H.length ≤ id ∧ id ≠ H.length + 1 := fun id ⟨_, _, h⟩ => by cases h; omega
    have hwalk := specWalk (m := m) hv hin hb bs.length (X := X3) (s := H.length + 1) (gs := 0) (b := 0) (w := .sl X1.length 0 0 0) (seen := (falses bs.length).set b true) (out := []) hp3 (by omega) hw hs3 (by simp [falses]) (.inr ⟨_, _, rfl, ho3⟩) h0 (getD_falses' h0 hb0) (Nat.le_trans (cf_le_len _) (by simp [falses])) (by have := cf_le_len ((falses bs.length).set b true); simp [falses] at this ⊢; omega)
    refine CM.mono hwalk ?_
    rintro _ ⟨w', X2, rfl, hW⟩
    have hseen := hW.seen
    change rdOb X2 (H.length + 1) 0 = some ⟨(walkB bs b).1.map .b, 0, true, 1⟩ at hseen
    have hpre := hW.pre
    have hlt := rdOb_lt hseen
    have hwl : (walkB bs b).1.length = bs.length := by unfold walkB; rw [(walkF_ok bs bs.length 0 _).1.len]; simp [falses]
    simp [idxOf, hbl, hseen, hwl, putAt_get, show b + 1 ≤ bs.length from hbl]
    rw [gcRet_row (hpre.set (by omega) _) (by omega) (o := ⟨((walkB bs b).1.map .b).set b (.b false), 0, true, 1⟩) (by rw [rdOb_set_self hlt]; simp) rfl (flat_set _ _ _)]
    simp [withoutF, hb0]
end Go.Proofs.Ytnmnpfdjigpgaaa.Vm
