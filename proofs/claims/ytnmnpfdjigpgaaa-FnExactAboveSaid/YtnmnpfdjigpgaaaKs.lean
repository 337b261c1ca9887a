/- The order of the blocks. No conditions. -/
import Derived.Test.YtnmnpfdjigpgaaaKr
import Derived.Test.YtnmnpfdjigpgaaaKm
namespace Go.Proofs.Ytnmnpfdjigpgaaa.Vm
open Go.RowKit (wrap64)
set_option linter.unusedSimpArgs false
set_option linter.unusedVariables false

/-! ### Turned round -/
/-- The first few and the last few are changed for each other. -/
def revTo (xs : List Int) (i : Nat) : List Int := (List.range xs.length).map fun k => if k < i ∨ xs.length ≤ k + i then xs.getD (xs.length - 1 - k) 0 else xs.getD k 0
@[simp] theorem revTo_len (xs : List Int) (i : Nat) : (revTo xs i).length = xs.length := by simp [revTo]
theorem revTo_get {xs : List Int} {i k : Nat} (h : k < (revTo xs i).length) : (revTo xs i)[k] = if k < i ∨ xs.length ≤ k + i then xs.getD (xs.length - 1 - k) 0 else xs.getD k 0 := by simp [revTo]
theorem revTo_zero (xs : List Int) : revTo xs 0 = xs := by
  apply List.ext_getElem (by simp)
  intro k h1 h2
  rw [revTo_get, if_neg (by omega), List.getD_eq_getElem?_getD, List.getElem?_eq_getElem h2]; rfl
theorem revTo_all (xs : List Int) : revTo xs (xs.length / 2) = xs.reverse := by
  apply List.ext_getElem (by simp)
  intro k h1 h2
  have hk : k < xs.length := by simpa using h2
  rw [revTo_get, List.getElem_reverse]
  by_cases h : k < xs.length / 2 ∨ xs.length ≤ k + xs.length / 2
  · rw [if_pos h, List.getD_eq_getElem?_getD, List.getElem?_eq_getElem (by omega)]; rfl
  · rw [if_neg h, List.getD_eq_getElem?_getD, List.getElem?_eq_getElem hk]
    have e : xs.length - 1 - k = k := by omega
    simp [e]
theorem revTo_succ {xs : List Int} {i : Nat} (hi : i < xs.length / 2) :
    ((revTo xs i).set i ((revTo xs i).getD (xs.length - 1 - i) 0)).set (xs.length - 1 - i) ((revTo xs i).getD i 0) = revTo xs (i + 1) := by
  apply List.ext_getElem (by simp)
  intro k h1 h2
  have hk : k < xs.length := by simpa using h2
  have e1 : (revTo xs i).getD i 0 = xs.getD i 0 := by
    rw [List.getD_eq_getElem?_getD, List.getElem?_eq_getElem (by simp; omega), Option.getD_some, revTo_get, if_neg (by omega)]
  have e2 : (revTo xs i).getD (xs.length - 1 - i) 0 = xs.getD (xs.length - 1 - i) 0 := by
    rw [List.getD_eq_getElem?_getD, List.getElem?_eq_getElem (by simp; omega), Option.getD_some, revTo_get, if_neg (by omega)]
  simp only [e1, e2]
  rw [List.getElem_set, List.getElem_set, revTo_get, revTo_get]
  by_cases h3 : xs.length - 1 - i = k
  · rw [if_pos h3, if_pos (by omega)]
    congr 1; omega
  · rw [if_neg h3]
    by_cases h4 : i = k
    · rw [if_pos h4, if_pos (by omega), h4]
    · rw [if_neg h4]
      by_cases h5 : k < i ∨ xs.length ≤ k + i
      · rw [if_pos h5, if_pos (by omega)]
      · rw [if_neg h5, if_neg (by omega)]
theorem revTo_succ' {xs : List Int} {i j : Nat} (hi : i < xs.length / 2) (hj : j = xs.length - 1 - i) (h1 : i < (revTo xs i).length) (h2 : j < (revTo xs i).length) :
    ((revTo xs i).set i (revTo xs i)[j]).set j (revTo xs i)[i] = revTo xs (i + 1) := by
  subst hj
  rw [← revTo_succ hi]
  congr 1
  · congr 1
    rw [List.getD_eq_getElem?_getD, List.getElem?_eq_getElem h2]; rfl
  · rw [List.getD_eq_getElem?_getD, List.getElem?_eq_getElem h1]; rfl
theorem reverse_call {X : Hp} {id g : Nat} {xs : List Int} (h : rdOb X id g = some ⟨xs.map .i, g, true, 1⟩) (hb : xs.length ≤ BIG) (k : IV × Hp → Prop) :
    CM 124 [.c (.sl id g 0 xs.length)] X k = k (.tup [], X.set id ⟨xs.reverse.map .i, g, true, 1⟩) := by
  refine det (cw124 ?_) k
  unfold vf124c
  have hlt := rdOb_lt h
  have hw : -9223372036854775807 ≤ (xs.length : Int) ∧ (xs.length : Int) ≤ 9223372036854775807 := bigI hb
  simp [wn1 hw]
  obtain ⟨I, hI⟩ : ∃ I : Nat → St → Prop, ∀ i s, I i s ↔ (s.h = X.set id ⟨(revTo xs i).map .i, g, true, 1⟩ ∧ Env.get s.e 0 = .c (.sl id g 0 xs.length) ∧ Env.get s.e 2 = .c (.i i) ∧ Env.get s.e 3 = .c (.i ((xs.length : Int) - 1 - i))) := ⟨_, fun _ _ => Iff.rfl⟩
  refine wp_for CM_mono (xs.length / 2) I ((hI _ _).2 ⟨?_, by simp⟩) ?_ ?_
  · have := (rdOb_some.1 h).1
    rw [List.getElem?_eq_getElem hlt] at this
    injection this with this
    rw [revTo_zero, ← this]; simp
  · rintro i ⟨e, Y⟩ hi hIs
    obtain ⟨hY, h0, h2, h3⟩ := (hI _ _).1 hIs
    simp only at hY h0 h2 h3 ⊢
    have ho : rdOb Y id g = some ⟨(revTo xs i).map .i, g, true, 1⟩ := by rw [hY, rdOb_set_self hlt]; simp
    have hlY : id < Y.length := rdOb_lt ho
    obtain ⟨j, hj, hj2⟩ : ∃ j : Nat, (xs.length : Int) - 1 - i = j ∧ j = xs.length - 1 - i := ⟨xs.length - 1 - i, by omega, rfl⟩
    rw [hj] at h3
    have hij : i < j := by omega
    have hjn : j < xs.length := by omega
    have hin : i < xs.length := by omega
    have hwj : -9223372036854775807 ≤ (j : Int) ∧ (j : Int) ≤ 9223372036854775807 := by simp only [BIG] at hb; omega
    unfold vf124b0
    have hs := revTo_succ' hi hj2 (by simpa using hin) (by simpa using hjn)
    simp [h0, h2, h3, hij, idxOf, hin, hjn, rdC_ob ho, ho, up1 hin hb, wn1 hwj, putAt_get, hlY, show i + 1 ≤ xs.length from hin, show j + 1 ≤ xs.length from hjn, rdOb_set_self hlY]
    refine (hI _ _).2 ⟨?_, by simp [h0]; omega⟩
    have hs2 := congrArg (List.map CV.i) hs
    simp at hs2
    simp [hs2, hY]
  · rintro ⟨e, Y⟩ hIs
    obtain ⟨hY, h0, h2, h3⟩ := (hI _ _).1 hIs
    simp only at hY h0 h2 h3 ⊢
    unfold vf124b0
    simp [h0, h2, h3, show ¬ ((xs.length : Int) / 2 < (xs.length : Int) - 1 - (xs.length : Int) / 2) by omega]
    rw [gc_nolen (by rw [hY]; simp) rfl, hY, revTo_all, List.map_reverse]

/-! ### The order -/
def walk0 (bs : List BlkR) : WSt := walkF bs bs.length 0 (List.replicate bs.length false, [])
def ordF (bs : List BlkR) : List Int := (walk0 bs).2.reverse
def seenF (bs : List BlkR) : List Bool := (walk0 bs).1
theorem falses_flat (n : Nat) : (List.replicate n [CV.b false]).flatten = (List.replicate n false).map .b := by
  induction n with
  | zero => rfl
  | succ n ih => simp [List.replicate_succ, ih]
theorem cf_falses (n : Nat) : cf (List.replicate n false) = n := by simp [cf]
theorem getD_falses {n : Nat} (h : 0 < n) : (List.replicate n false).getD 0 true = false := by
  rw [List.getD_eq_getElem?_getD, List.getElem?_eq_getElem (by simpa using h)]; simp
theorem walk0_ok {bs : List BlkR} (h : 0 < bs.length) : (walk0 bs).1.length = bs.length ∧ (walk0 bs).2.length + cf (walk0 bs).1 = bs.length ∧ 0 < (walk0 bs).2.length := by
  obtain ⟨h1, _, h2⟩ := walkF_ok bs bs.length 0 (List.replicate bs.length false, [])
  have h3 := h2 (getD_falses h)
  simp only [cf_falses, List.length_nil, Nat.zero_add] at h3
  refine ⟨by rw [walk0, h1.len]; simp, h3, ?_⟩
  unfold walk0
  obtain ⟨n, hn⟩ : ∃ n, bs.length = n + 1 := ⟨bs.length - 1, by omega⟩
  rw [hn]; simp [walkF]
theorem ordF_le {bs : List BlkR} (h : 0 < bs.length) : (ordF bs).length ≤ bs.length := by
  have := (walk0_ok h).2.1
  unfold ordF; rw [List.length_reverse]; omega
theorem shape_pos {f : FnR} (h : shapeB f = true) : 0 < f.blocks.length := by
  unfold shapeB inB at h
  simp only [Bool.and_eq_true, decide_eq_true_eq] at h
  omega
/-- What the order leaves behind. -/
def OrdRes (H : Hp) (bs : List BlkR) (r : IV × Hp) : Prop := ∃ o g s gs X', r = (.tup [(false, [.sl o g 0 (ordF bs).length]), (false, [.sl s gs 0 bs.length])], X') ∧ Pre H X' ∧ H.length ≤ o ∧ H.length ≤ s ∧
  rdOb X' o g = some ⟨(ordF bs).map .i, g, true, 1⟩ ∧ rdOb X' s gs = some ⟨(seenF bs).map .b, gs, true, 1⟩
theorem implOrder {H : Hp} {v : CV} {bs : List BlkR} {m : Int} (hv : Blocks H v bs) (hin : InRange bs) (hb : bs.length ≤ BIG) (h0 : 0 < bs.length) : CM 99 [.agg [v, .i m]] H (OrdRes H bs) := by
  refine cw99 ?_
  unfold vf99c
  obtain ⟨X1, hX1⟩ : ∃ X1, H ++ [(⟨[v, .i m], 0, true, 2⟩ : Ob), ⟨List.replicate bs.length (.b false), 0, true, 1⟩] = X1 := ⟨_, rfl⟩
  have hl1 : X1.length = H.length + 2 := by rw [← hX1]; simp
  have hp1 : Pre H X1 := ⟨_, hX1.symm⟩
  have hb1 : rdOb X1 H.length 0 = some ⟨[v, .i m], 0, true, 2⟩ := by rw [← hX1]; simp
  have hs1 : rdOb X1 (H.length + 1) 0 = some ⟨(List.replicate bs.length false).map .b, 0, true, 1⟩ := by rw [← hX1]; simp
  have hlim : bs.length ≤ LIM := by simp only [BIG] at hb; simp only [LIM]; omega
  simp [(hv.app _).lenOf, hv.lenOf, hlim, falses_flat, hX1, rdN_ob hb1]
  have hw : ∀ id, IsOut CV.ns id → H.length ≤ id ∧ id ≠ H.length + 1 := fun id ⟨_, _, h⟩ => by cases h
  have hwalk := implWalk (m := m) hv hin hb bs.length (X := X1) (s := H.length + 1) (gs := 0) (b := 0) (w := .ns) (seen := List.replicate bs.length false) (out := []) hp1 (by omega) hw hs1 (by simp) (.inl ⟨rfl, rfl⟩) h0 (getD_falses h0) (by rw [cf_falses]; exact Nat.le_refl _) (by rw [cf_falses]; simpa using hb)
  refine CM.mono hwalk ?_
  rintro _ ⟨w', X2, rfl, hW⟩
  obtain ⟨k1, k2, k3⟩ := walk0_ok h0
  have hseen := hW.seen
  have hout := hW.out
  have hown := hW.own
  change rdOb X2 (H.length + 1) 0 = some ⟨(seenF bs).map .b, 0, true, 1⟩ at hseen
  change OutR X2 w' (walk0 bs).2 at hout
  rcases hout with ⟨_, h⟩ | ⟨o, g, rfl, ho⟩
  · rw [h] at k3; exact absurd k3 (by simp)
  · have hoo : X1.length ≤ o := by
      rcases hown o ⟨g, _, rfl⟩ with ⟨_, _, h⟩ | h
      · cases h
      · exact h
    have hol : (walk0 bs).2.length = (ordF bs).length := by unfold ordF; rw [List.length_reverse]
    have hrev := fun k => reverse_call ho (by omega) k
    simp only [hol] at hrev
    simp [hrev, hol]
    have hlt := rdOb_lt ho
    refine ⟨o, g, H.length + 1, 0, X2.set o ⟨(ordF bs).map .i, g, true, 1⟩, ?_, hW.pre.set (by omega) _, by omega, by omega, by rw [rdOb_set_self hlt]; simp, by rw [rdOb_set_ne (by omega)]; exact hseen⟩
    unfold gcRet
    split
    · rw [if_neg (by simp [flatV, flatC])]
      simp [ordF]
    · simp [ordF]
end Go.Proofs.Ytnmnpfdjigpgaaa.Vm
