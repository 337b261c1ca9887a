/- The shape of a program, as the program itself says it. No conditions. -/
import Derived.Test.YtnpbldjbfkpbcaaKf
namespace Go.Proofs.Ytnpbldjbfkpbcaa.Vm
open Go.RowKit (wrap64)
set_option linter.unusedSimpArgs false
set_option linter.unusedVariables false

theorem rdC_app {H : Hp} {id g off : Nat} {c : CV} (h : rdC H id g off = some c) (L : Hp) : rdC (H ++ L) id g off = some c := by
  unfold rdC at h ⊢
  cases ho : rdOb H id g with
  | none => rw [ho] at h; cases h
  | some o => rw [ho] at h; rw [rdOb_app L ho]; exact h
theorem rdN_app {H : Hp} {id g off n : Nat} {c : List CV} (h : rdN H id g off n = some c) (L : Hp) : rdN (H ++ L) id g off n = some c := by
  unfold rdN at h ⊢
  cases ho : rdOb H id g with
  | none => rw [ho] at h; cases h
  | some o => rw [ho] at h; rw [rdOb_app L ho]; exact h

theorem shape11 {H : Hp} {idn gn idf gf : Nat} {n m d : Int} {w : CV} {arms : List ArmR} (hn : rdC H idn gn 0 = some (.i n)) (hf : rdC H idf gf 1 = some (.i m)) (hw : Arms H w arms) (hb : arms.length ≤ BIG) (hr : -9223372036854775807 ≤ n ∧ n ≤ 9223372036854775807) (k : IV × Hp → Prop) :
    CM 128 [.agg [.i d, w], .c (.p idn gn 0), .c (.p idf gf 0)] H k = k (.c (.b (!phiB n m ⟨d, arms⟩)), H) := by
  refine det (cw128 ?_) k
  unfold vf128c
  simp [rdC_app hn, rdC_app hf, implPhi (hw.app _) hb n m hr]
theorem shape12 {H : Hp} {idf gf : Nat} {m : Int} (x : InsR) (hf : rdC H idf gf 1 = some (.i m)) (k : IV × Hp → Prop) :
    CM 131 [.agg [.i x.op, .i x.d, .i x.a, .i x.b, .i x.n], .c (.p idf gf 0)] H k = k (.c (.b (!insB x m)), H) := by
  refine det (cw131 ?_) k
  unfold vf131c
  simp [rdC_app hf, implIns']

theorem shape1 {H : Hp} {idn gn idf gf : Nat} {n m : Int} {w u : CV} {b : BlkR} (hn : rdC H idn gn 0 = some (.i n)) (hf : rdC H idf gf 1 = some (.i m)) (hw : Phis H w b.phis) (hu : List5 H u b.list) (hb1 : b.phis.length ≤ BIG) (hb2 : b.list.length ≤ BIG)
    (hr : -9223372036854775807 ≤ n ∧ n ≤ 9223372036854775807) (k : IV × Hp → Prop) :
    CM 126 [.agg [w, u, .i b.term.kind, .i b.term.a, .i b.term.to, .i b.term.els], .c (.p idn gn 0), .c (.p idf gf 0)] H k = k (.c (.b (!blkB n m b)), H) := by
  refine det (cw126 ?_) k
  unfold vf126c blkB
  by_cases f1 : b.phis.length ≤ 24
  · have f1' : ¬ (24 : Int) < b.phis.length := by omega
    by_cases f2 : b.list.length ≤ 24
    · have f2' : ¬ (24 : Int) < b.list.length := by omega
      cases f3 : termB b.term n m with
      | false => simp [hw.lenOf, hu.lenOf, f1, f1', f2, f2', rdC_app hn, rdC_app hf, implTerm' _ _ _ _ hr, f3]
      | true =>
        simp [hw.lenOf, hu.lenOf, f1, f1', f2, f2', rdC_app hn, rdC_app hf, implTerm' _ _ _ _ hr, f3]
        rw [containsPhi (hw.app _) hb1 (fun p => !phiB n m p) (fun i hi cs hP k => by
          obtain ⟨z, rfl, hz, hbz⟩ := hP
          exact shape11 (rdC_app hn _) (rdC_app hf _) hz hbz hr k)]
        cases f4 : b.phis.any (fun p => !phiB n m p) with
        | true =>
          simp
          have : b.phis.all (phiB n m) = false := by
            obtain ⟨x, hx, hq⟩ := List.any_eq_true.1 f4
            rw [List.all_eq_false]
            exact ⟨x, hx, by simpa using hq⟩
          left
          simpa using this
        | false =>
          have h4 : ∀ x ∈ b.phis, phiB n m x = true := by
            intro x hx
            have := List.any_eq_false.1 f4 x hx
            simpa using this
          simp [rdC_app hf]
          rw [containsIns (hu.app _) hb2 (fun x => !insB x m) (fun i hi cs hP k => by
            have hP : cs = insC _ := hP
            subst hP
            exact shape12 _ (rdC_app hf _) k)]
          simp
          cases f5 : b.list.any (fun x => !insB x m) with
          | true =>
            have : b.list.all (fun x => insB x m) = false := by
              obtain ⟨x, hx, hq⟩ := List.any_eq_true.1 f5
              rw [List.all_eq_false]
              exact ⟨x, hx, by simpa using hq⟩
            rw [this]; simp
          | false =>
            have h5 : b.list.all (fun x => insB x m) = true := by
              rw [List.all_eq_true]
              intro x hx
              have := List.any_eq_false.1 f5 x hx
              simpa using this
            have h6 : b.phis.all (phiB n m) = true := List.all_eq_true.2 h4
            rw [h5, h6]; simp
    · have f2' : (24 : Int) < b.list.length := by omega
      simp [hw.lenOf, hu.lenOf, f1, f1', f2, f2']
  · have f1' : (24 : Int) < b.phis.length := by omega
    simp [hw.lenOf, hu.lenOf, f1, f1']

theorem implShape {H : Hp} {v : CV} {f : FnR} (hv : Blocks H v f.blocks) (hb : f.blocks.length ≤ BIG) (k : IV × Hp → Prop) :
    CM 97 [.agg [v, .i f.values]] H k = k (.c (.b (shapeB f)), H) := by
  refine det (cw97 ?_) k
  obtain ⟨bs, m⟩ := f
  simp only at hv hb ⊢
  unfold vf97c shapeB
  simp only
  cases e1 : inB bs.length 1 16 with
  | false => simp [hv.lenOf, (hv.app _).lenOf, implIn, e1, putAt]
  | true =>
    cases e2 : inB m 0 80 with
    | false => simp [hv.lenOf, (hv.app _).lenOf, implIn, e1, e2, putAt]
    | true =>
      simp [hv.lenOf, (hv.app _).lenOf, implIn, e1, e2, putAt]
      rw [containsBlk (hv.app _) hb (fun b => !blkB bs.length m b) (fun i hi cs hP k => by
        obtain ⟨w, u, rfl, hw, hu, hb1, hb2⟩ := hP
        exact shape1 (by simp) (by simp) hw hu hb1 hb2 (bigI hb) k)]
      simp
      rw [Bool.eq_iff_iff]
      simp
end Go.Proofs.Ytnpbldjbfkpbcaa.Vm
