/- The shape of a program, of both: blocks, all. No conditions. -/
import Derived.Test.YtnpbldjbfkpbcaaKe
namespace Go.Proofs.Ytnpbldjbfkpbcaa.Vm
open Go.RowKit (wrap64)
set_option linter.unusedSimpArgs false
set_option linter.unusedVariables false

theorem specTerm' (H : Hp) (t : TrmR) (n m : Int) (hn : -9223372036854775807 ≤ n ∧ n ≤ 9223372036854775807) (k : IV × Hp → Prop) :
    CM 135 [.agg [.i t.kind, .i t.a, .i t.to, .i t.els], .c (.i n), .c (.i m)] H k = k (.c (.b (termB t n m)), H) := specTerm H t n m hn k
theorem implTerm' (H : Hp) (t : TrmR) (n m : Int) (hn : -9223372036854775807 ≤ n ∧ n ≤ 9223372036854775807) (k : IV × Hp → Prop) :
    CM 127 [.agg [.i t.kind, .i t.a, .i t.to, .i t.els], .c (.i n), .c (.i m)] H k = k (.c (.b (termB t n m)), H) := implTerm H t n m hn k
theorem specIns' (H : Hp) (x : InsR) (m : Int) (k : IV × Hp → Prop) :
    CM 137 [.agg [.i x.op, .i x.d, .i x.a, .i x.b, .i x.n], .c (.i m)] H k = k (.c (.b (insB x m)), H) := specIns H x m k
theorem implIns' (H : Hp) (x : InsR) (m : Int) (k : IV × Hp → Prop) :
    CM 132 [.agg [.i x.op, .i x.d, .i x.a, .i x.b, .i x.n], .c (.i m)] H k = k (.c (.b (insB x m)), H) := implIns H x m k
theorem natLt {m c : Nat} : ((c : Int) < m) = (c < m) := by simp only [eq_iff_iff]; omega
theorem bigI {n : Nat} (hb : n ≤ BIG) : -9223372036854775807 ≤ (n : Int) ∧ (n : Int) ≤ 9223372036854775807 := by simp only [BIG] at hb; omega

theorem not_all {α : Type} {p : α → Bool} {xs : List α} {i : Nat} (hi : i < xs.length) (h : p xs[i] = false) : ∃ x, x ∈ xs ∧ p x = false := ⟨_, List.getElem_mem hi, h⟩
theorem all_mem {α : Type} {p : α → Bool} {xs : List α} (h : ∀ j (hj : j < xs.length), p xs[j] = true) : ∀ x ∈ xs, p x = true := List.all_eq_true.1 (all_of h)
theorem specShape {H : Hp} {v : CV} {f : FnR} (hv : Blocks H v f.blocks) (hb : f.blocks.length ≤ BIG) (k : IV × Hp → Prop) :
    CM 100 [.agg [v, .i f.values]] H k = k (.c (.b (shapeB f)), H) := by
  refine det (cw100 ?_) k
  obtain ⟨bs, m⟩ := f
  simp only at hv hb ⊢
  unfold vf100c shapeB
  simp only
  cases e1 : inB bs.length 1 16 with
  | false => simp [hv.lenOf, (hv.app _).lenOf, specIn, e1]
  | true =>
    cases e2 : inB m 0 80 with
    | false => simp [hv.lenOf, (hv.app _).lenOf, specIn, e1, e2]
    | true =>
      simp [hv.lenOf, (hv.app _).lenOf, specIn, e1, e2]
      refine wp_for CM_mono bs.length (fun i s => (∀ j (hj : j < i) (hx : j < bs.length), blkB bs.length m bs[j] = true) ∧ Pre (H ++ [⟨[v, .i m], 0, true, 2⟩]) s.h ∧ Env.get s.e 1 = .c (.p H.length 0 0) ∧ Env.get s.e 3 = .c (.i bs.length) ∧ Env.get s.e 4 = .c (.i i)) ⟨by simp, Pre.refl _, by simp⟩ ?_ ?_
      · rintro i ⟨e, X⟩ hi ⟨ht, ⟨L, hX⟩, h1, h3, h4⟩
        simp only at h1 h3 h4 hX ⊢
        simp only [List.append_assoc, List.cons_append, List.nil_append] at hX
        subst hX
        obtain ⟨id, g, off, w, u, q1, q2, q3, hw, hu, hb1, hb2, q4, q5⟩ := hv.get hi
        unfold vf100b2
        by_cases f1 : bs[i].phis.length ≤ 24
        · have f1' : ¬ (24 : Int) < bs[i].phis.length := by omega
          by_cases f2 : bs[i].list.length ≤ 24
          · have f2' : ¬ (24 : Int) < bs[i].list.length := by omega
            cases f3 : termB bs[i].term bs.length m with
            | false =>
              simp [h1, h3, h4, hi, q1, q3, putAt, hw.lenOf, hu.lenOf, f1', f2', specTerm' _ _ _ _ (bigI hb), f3]
              exact not_all hi (by simp [blkB, f3])
            | true =>
              simp [h1, h3, h4, hi, q1, q3, putAt, hw.lenOf, hu.lenOf, f1', f2', specTerm' _ _ _ _ (bigI hb), f3]
              generalize hBX : (L ++ [(⟨[w, u, .i bs[i].term.kind, .i bs[i].term.a, .i bs[i].term.to, .i bs[i].term.els], 0, true, 6⟩ : Ob)]) = L1
              refine wp_for CM_mono bs[i].phis.length (fun j s => (∀ l (hl : l < j) (hx : l < bs[i].phis.length), phiB bs.length m bs[i].phis[l] = true) ∧ s.h = H ++ (⟨[v, .i m], 0, true, 2⟩ :: L1) ∧ Env.get s.e 1 = .c (.p H.length 0 0) ∧ Env.get s.e 3 = .c (.i bs.length) ∧ Env.get s.e 4 = .c (.i i) ∧
                Env.get s.e 5 = .c (.p (H.length + (L.length + 1)) 0 0) ∧ Env.get s.e 6 = .c (.i j)) ⟨by simp, by simp, by simp [h1, h3, h4]⟩ ?_ ?_
              · rintro j ⟨e', X'⟩ hj ⟨ht', rfl, h1, h3, h4, h5, h6⟩
                simp only at h1 h3 h4 h5 h6 ⊢
                obtain ⟨id', g', off', z, r1, r2, r3, hz, hbz, r4, r5⟩ := hw.get hj
                unfold vf100b0
                subst hBX
                cases f4 : phiB bs.length m bs[i].phis[j] with
                | false =>
                  simp [h1, h3, h4, h5, h6, hw.lenOf, hj, r1, r3, specPhi (hz.app _) hbz bs.length m (bigI hb), f4]
                  exact not_all hi (by simp only [blkB, all_not hj f4]; simp)
                | true =>
                  simp [h1, h3, h4, h5, h6, hw.lenOf, hj, r1, r3, specPhi (hz.app _) hbz bs.length m (bigI hb), f4, up1 hj hb1]
                  intro l hl hx
                  by_cases el : l = j
                  · subst el; exact f4
                  · exact ht' l (by omega) hx
              · rintro ⟨e', X'⟩ ⟨ht', rfl, h1, h3, h4, h5, h6⟩
                simp only at h1 h3 h4 h5 h6 ⊢
                have hph := all_of (fun j hj => ht' j hj hj)
                unfold vf100b0
                subst hBX
                simp [h1, h3, h4, h5, h6, hw.lenOf]
                generalize hBX : (L ++ [(⟨[w, u, .i bs[i].term.kind, .i bs[i].term.a, .i bs[i].term.to, .i bs[i].term.els], 0, true, 6⟩ : Ob)]) = L1
                refine wp_for CM_mono bs[i].list.length (fun j s => (∀ l (hl : l < j) (hx : l < bs[i].list.length), insB bs[i].list[l] m = true) ∧ s.h = H ++ (⟨[v, .i m], 0, true, 2⟩ :: L1) ∧ Env.get s.e 1 = .c (.p H.length 0 0) ∧ Env.get s.e 3 = .c (.i bs.length) ∧ Env.get s.e 4 = .c (.i i) ∧
                  Env.get s.e 5 = .c (.p (H.length + (L.length + 1)) 0 0) ∧ Env.get s.e 7 = .c (.i j)) ⟨by simp, by simp, by simp [h1, h3, h4, h5]⟩ ?_ ?_
                · rintro j ⟨e', X'⟩ hj ⟨ht', rfl, h1, h3, h4, h5, h7⟩
                  simp only at h1 h3 h4 h5 h7 ⊢
                  obtain ⟨id', g', off', r1, r2, r3, r4, r5⟩ := hu.get hj
                  unfold vf100b1
                  subst hBX
                  cases f4 : insB bs[i].list[j] m with
                  | false =>
                    simp [h1, h3, h4, h5, h7, hu.lenOf, hj, r1, r3, specIns', f4]
                    exact not_all hi (by simp only [blkB, all_not (p := fun x => insB x m) hj f4]; simp)
                  | true =>
                    simp [h1, h3, h4, h5, h7, hu.lenOf, hj, r1, r3, specIns', f4, up1 hj hb2]
                    intro l hl hx
                    by_cases el : l = j
                    · subst el; exact f4
                    · exact ht' l (by omega) hx
                · rintro ⟨e', X'⟩ ⟨ht', rfl, h1, h3, h4, h5, h7⟩
                  simp only at h1 h3 h4 h5 h7 ⊢
                  have hin := all_of (p := fun x => insB x m) (fun j hj => ht' j hj hj)
                  unfold vf100b1
                  subst hBX
                  have hAt : blkB bs.length m bs[i] = true := by simp only [blkB, f1, f2, f3, hph, hin]; simp
                  simp [h1, h3, h4, h5, h7, hu.lenOf, up1 hi hb]
                  refine ⟨fun l hl hx => ?_, ⟨_, by simp; rfl⟩⟩
                  by_cases el : l = i
                  · subst el; exact hAt
                  · exact ht l (by omega) hx
          · have f2' : (24 : Int) < bs[i].list.length := by omega
            simp [h1, h3, h4, hi, q1, q3, putAt, hw.lenOf, hu.lenOf, f1', f2']
            exact not_all hi (by simp [blkB, f2])
        · have f1' : (24 : Int) < bs[i].phis.length := by omega
          simp [h1, h3, h4, hi, q1, q3, putAt, hw.lenOf, hu.lenOf, f1']
          exact not_all hi (by simp [blkB, f1])
      · rintro ⟨e, X⟩ ⟨ht, ⟨L, hX⟩, h1, h3, h4⟩
        simp only at h1 h3 h4 hX ⊢
        simp only [List.append_assoc, List.cons_append, List.nil_append] at hX
        subst hX
        unfold vf100b2
        simp [h1, h3, h4]
        exact all_mem (fun j hj => ht j hj hj)
end Go.Proofs.Ytnpbldjbfkpbcaa.Vm
