/- The shape of a program, of both: phis, blocks, all. No conditions. -/
import Derived.Test.YtnpbldjbfkpbcaaKd
namespace Go.Proofs.Ytnpbldjbfkpbcaa.Vm
open Go.RowKit (wrap64)
set_option linter.unusedSimpArgs false
set_option linter.unusedVariables false

theorem all_of {α : Type} {p : α → Bool} {xs : List α} (h : ∀ j (hj : j < xs.length), p xs[j] = true) : xs.all p = true := by
  rw [List.all_eq_true]
  intro x hx
  obtain ⟨j, hj, rfl⟩ := List.getElem_of_mem hx
  exact h j hj
theorem all_not {α : Type} {p : α → Bool} {xs : List α} {i : Nat} (hi : i < xs.length) (h : p xs[i] = false) : xs.all p = false := by
  cases hc : xs.all p with
  | false => rfl
  | true => rw [List.all_eq_true] at hc; rw [hc _ (List.getElem_mem hi)] at h; cases h

def armB (n m : Int) (arms : List ArmR) (i : Nat) : Bool := match arms[i]? with
  | some a => inB a.fr 0 (n - 1) && valB a.v m && !(arms.take i).any fun x => decide (x.fr = a.fr)
  | none => true
def armsB (n m : Int) (arms : List ArmR) : Bool := (List.range arms.length).all (armB n m arms)
def phiB (n m : Int) (p : PhiR) : Bool := valB p.d m && decide (p.arms.length ≤ 16) && armsB n m p.arms
def blkB (n m : Int) (b : BlkR) : Bool := decide (b.phis.length ≤ 24) && decide (b.list.length ≤ 24) && termB b.term n m && b.phis.all (phiB n m) && b.list.all fun x => insB x m
def shapeB (f : FnR) : Bool := inB f.blocks.length 1 16 && inB f.values 0 80 && f.blocks.all (blkB f.blocks.length f.values)

theorem armB_at {n m : Int} {arms : List ArmR} {i : Nat} (hi : i < arms.length) : armB n m arms i = (inB arms[i].fr 0 (n - 1) && valB arms[i].v m && !(arms.take i).any fun x => decide (x.fr = arms[i].fr)) := by
  unfold armB; rw [List.getElem?_eq_getElem hi]
theorem armsB_true {n m : Int} {arms : List ArmR} (h : ∀ j, j < arms.length → armB n m arms j = true) : armsB n m arms = true := by
  unfold armsB; rw [List.all_eq_true]; intro j hj; exact h j (List.mem_range.1 hj)
theorem armsB_false {n m : Int} {arms : List ArmR} {i : Nat} (hi : i < arms.length) (h : armB n m arms i = false) : armsB n m arms = false := by
  cases hc : armsB n m arms with
  | false => rfl
  | true =>
    unfold armsB at hc
    rw [List.all_eq_true] at hc
    rw [hc i (List.mem_range.2 hi)] at h; cases h

theorem natLe {m : Nat} : ((m : Int) ≤ 16) = (m ≤ 16) := by simp only [eq_iff_iff]; omega
theorem wn1 {n : Int} (hn : -9223372036854775807 ≤ n ∧ n ≤ 9223372036854775807) : wrap64 (n - 1) = n - 1 := wrap64_id (by omega)
theorem specPhi {H : Hp} {d : Int} {w : CV} {arms : List ArmR} (hw : Arms H w arms) (hb : arms.length ≤ BIG) (n m : Int) (hn : -9223372036854775807 ≤ n ∧ n ≤ 9223372036854775807) (k : IV × Hp → Prop) :
    CM 136 [.agg [.i d, w], .c (.i n), .c (.i m)] H k = k (.c (.b (phiB n m ⟨d, arms⟩)), H) := by
  refine det (cw136 ?_) k
  unfold vf136c phiB
  simp only
  cases e1 : valB d m with
  | false => simp [specVal, e1]
  | true =>
    by_cases e2 : arms.length ≤ 16
    · have e2' : ¬ (16 : Int) < arms.length := by omega
      simp [specVal, e1, hw.lenOf, e2, e2']
      refine wp_for CM_mono arms.length (fun i s => (∀ j, j < i → armB n m arms j = true) ∧ s.h = H ++ [⟨[.i d, w], 0, true, 2⟩] ∧ Env.get s.e 1 = .c (.i n) ∧ Env.get s.e 2 = .c (.i m) ∧ Env.get s.e 3 = .c (.p H.length 0 0) ∧ Env.get s.e 7 = .c (.i i)) (by simp) ?_ ?_
      · rintro i ⟨e, X⟩ hi ⟨ht, rfl, h1, h2, h3, h7⟩
        simp only at h1 h2 h3 h7 ⊢
        obtain ⟨id, g, off, q1, q2, q3, q4, q5⟩ := hw.get hi
        have hA := armB_at (n := n) (m := m) hi
        unfold vf136b1
        cases f1 : inB arms[i].fr 0 (n - 1) with
        | false => simp [h1, h2, h3, h7, hw.lenOf, hi, q1, q3, specIn, wn1 hn, f1, armsB_false hi (by rw [hA, f1]; rfl)]
        | true =>
          cases f2 : valB arms[i].v m with
          | false => simp [h1, h2, h3, h7, hw.lenOf, hi, q1, q3, specIn, specVal, wn1 hn, f1, f2, armsB_false hi (by rw [hA, f1, f2]; rfl)]
          | true =>
            simp [h1, h2, h3, h7, hw.lenOf, hi, q1, q3, specIn, specVal, wn1 hn, f1, f2]
            refine wp_for CM_mono i (fun j s => (∀ l (hl : l < j) (hx : l < arms.length), ¬ arms[l].fr = arms[i].fr) ∧ s.h = H ++ [⟨[.i d, w], 0, true, 2⟩] ∧ Env.get s.e 1 = .c (.i n) ∧ Env.get s.e 2 = .c (.i m) ∧ Env.get s.e 3 = .c (.p H.length 0 0) ∧ Env.get s.e 7 = .c (.i i) ∧ Env.get s.e 8 = .c (.i j)) (by simp [h1, h2, h3, h7]) ?_ ?_
            · rintro j ⟨e', X'⟩ hj ⟨ht', rfl, h1, h2, h3, h7, h8⟩
              simp only at h1 h2 h3 h7 h8 ⊢
              obtain ⟨id', g', off', r1, r2, r3, r4, r5⟩ := hw.get (k := j) (by omega)
              unfold vf136b0
              by_cases f3 : arms[j].fr = arms[i].fr
              · have hany : ((arms.take i).any fun x => decide (x.fr = arms[i].fr)) = true := by
                  rw [List.any_eq_true]
                  exact ⟨arms[j], List.mem_take_iff_getElem.2 ⟨j, by omega, rfl⟩, by simp [f3]⟩
                simp [h1, h2, h3, h7, h8, hj, q1, q3, r1, r3, f3, armsB_false hi (by rw [hA, hany]; simp)]
              · simp [h1, h2, h3, h7, h8, hj, q1, q3, r1, r3, f3, up1 hj (Nat.le_of_lt (Nat.lt_of_lt_of_le hi hb))]
                intro l hl hx
                by_cases el : l = j
                · subst el; exact f3
                · exact ht' l (by omega) hx
            · rintro ⟨e', X'⟩ ⟨ht', rfl, h1, h2, h3, h7, h8⟩
              simp only at h1 h2 h3 h7 h8 ⊢
              unfold vf136b0
              have hany : ((arms.take i).any fun x => decide (x.fr = arms[i].fr)) = false := by
                rw [List.any_eq_false]
                intro x hx
                obtain ⟨l, hl, rfl⟩ := List.mem_take_iff_getElem.1 hx
                simpa using ht' l (by omega) (by omega)
              have hAt : armB n m arms i = true := by rw [hA, f1, f2, hany]; rfl
              simp [h1, h2, h3, h7, h8, up1 hi hb]
              intro l hl
              by_cases el : l = i
              · subst el; exact hAt
              · exact ht l (by omega)
      · rintro ⟨e, X⟩ ⟨ht, rfl, h1, h2, h3, h7⟩
        simp only at h1 h2 h3 h7 ⊢
        unfold vf136b1
        simp [h1, h2, h3, h7, hw.lenOf, armsB_true ht]
    · have e2' : (16 : Int) < arms.length := by omega
      simp [specVal, e1, hw.lenOf, e2, e2']

theorem phiTest {H : Hp} {id g : Nat} {fr : Int} (h : rdC H id g 0 = some (.i fr)) (a : ArmR) (k : IV × Hp → Prop) :
    CM 158 [.agg (armC a), .c (.p id g 0)] H k = k (.c (.b (decide (a.fr = fr))), H) := by
  refine det (cw158 ?_) k
  unfold vf158c
  have hk : ∀ L, rdC (H ++ L) id g 0 = some (.i fr) := by
    intro L
    unfold rdC at h ⊢
    cases ho : rdOb H id g with
    | none => rw [ho] at h; cases h
    | some o => rw [ho] at h; rw [rdOb_app L ho]; exact h
  simp [armC, hk]

theorem implPhi {H : Hp} {d : Int} {w : CV} {arms : List ArmR} (hw : Arms H w arms) (hb : arms.length ≤ BIG) (n m : Int) (hn : -9223372036854775807 ≤ n ∧ n ≤ 9223372036854775807) (k : IV × Hp → Prop) :
    CM 129 [.agg [.i d, w], .c (.i n), .c (.i m)] H k = k (.c (.b (phiB n m ⟨d, arms⟩)), H) := by
  refine det (cw129 ?_) k
  unfold vf129c phiB
  simp [hw.lenOf]
  refine wp_for CM_mono arms.length (fun i s => (∀ j, j < i → armB n m arms j = true) ∧ Pre (H ++ [⟨[.i d, w], 0, true, 2⟩]) s.h ∧ Env.get s.e 1 = .c (.i n) ∧ Env.get s.e 2 = .c (.i m) ∧ Env.get s.e 3 = .c (.p H.length 0 0) ∧ Env.get s.e 10 = .c w ∧ Env.get s.e 11 = .c (.i arms.length) ∧ Env.get s.e 12 = .c (.i i)) ⟨by simp, Pre.refl _, by simp⟩ ?_ ?_
  · rintro i ⟨e, X⟩ hi ⟨ht, ⟨L, hX⟩, h1, h2, h3, h10, h11, h12⟩
    simp only at h1 h2 h3 h10 h11 h12 hX ⊢
    simp only [List.append_assoc, List.cons_append, List.nil_append] at hX
    subst hX
    obtain ⟨id, g, off, q1, q2, q3, q4, q5⟩ := hw.get hi
    have hA := armB_at (n := n) (m := m) hi
    unfold vf129b0
    cases f1 : inB arms[i].fr 0 (n - 1) with
    | false => simp [h1, h2, h3, h10, h11, h12, hi, q1, q3, implIn, wn1 hn, f1, armsB_false hi (by rw [hA, f1]; rfl), putAt]
    | true =>
      cases f2 : valB arms[i].v m with
      | false => simp [h1, h2, h3, h10, h11, h12, hi, q1, q3, implIn, partOk_call, wn1 hn, f1, f2, armsB_false hi (by rw [hA, f1, f2]; rfl), putAt]
      | true =>
        obtain ⟨w', s1, s2, s3, _⟩ := Row.slice (Arms.app hw (⟨[.i d, w], 0, true, 2⟩ :: (L ++ [⟨[.i arms[i].fr, .i arms[i].v], 0, true, 2⟩]))) (l := 0) (m := i) (by omega) (by omega)
        have s3 := s3 rfl
        rw [List.drop_zero, Nat.sub_zero] at s2
        simp [h1, h2, h3, h10, h11, h12, hi, q1, q3, implIn, partOk_call, wn1 hn, f1, f2, putAt, s3]
        rw [containsArm s2 (by simp; omega) (fun a => decide (a.fr = arms[i].fr)) (fun l hl cs hcs k => by
          have hcs : cs = armC _ := hcs
          subst hcs
          exact phiTest (by simp) _ k)]
        cases f4 : (arms.take i).any fun a => decide (a.fr = arms[i].fr) with
        | true => simp [h1, h2, h3, h10, h11, h12, armsB_false hi (by rw [hA, f4]; simp)]
        | false =>
          have hAt : armB n m arms i = true := by rw [hA, f1, f2, f4]; rfl
          simp [h1, h2, h3, h10, h11, h12, up1 hi hb]
          refine ⟨fun l hl => ?_, ?_⟩
          · by_cases el : l = i
            · subst el; exact hAt
            · exact ht l (by omega)
          · exact ⟨L ++ [⟨[.i arms[i].fr, .i arms[i].v], 0, true, 2⟩], by simp⟩
  · rintro ⟨e, X⟩ ⟨ht, ⟨L, hX⟩, h1, h2, h3, h10, h11, h12⟩
    simp only at h1 h2 h3 h10 h11 h12 hX ⊢
    simp only [List.append_assoc, List.cons_append, List.nil_append] at hX
    subst hX
    unfold vf129b0
    cases e1 : valB d m with
    | false => simp [h1, h2, h3, h10, h11, h12, partOk_call, e1]
    | true => simp [h1, h2, h3, h10, h11, h12, partOk_call, e1, armsB_true ht, hw.lenOf, natLe]
end Go.Proofs.Ytnpbldjbfkpbcaa.Vm
