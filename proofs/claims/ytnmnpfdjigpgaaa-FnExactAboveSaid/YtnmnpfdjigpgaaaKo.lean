/- What the laws ask of both sides: plain programs, where a value is made, who follows. No conditions. -/
import Derived.Test.YtnmnpfdjigpgaaaKl
namespace Go.Proofs.Ytnmnpfdjigpgaaa.Vm
open Go.RowKit (wrap64)
set_option linter.unusedSimpArgs false
set_option linter.unusedVariables false

theorem specPlain {H : Hp} {v : CV} {f : FnR} (hv : Blocks H v f.blocks) (hb : f.blocks.length ≤ BIG) (k : IV × Hp → Prop) : CM 25 [.agg [v, .i f.values]] H k = k (.c (.b (plainF f)), H) := by
  refine det (cw25 ?_) k
  obtain ⟨bs, m⟩ := f
  unfold vf25c plainF
  cases hsh : shapeB ⟨bs, m⟩ with
  | false => simp [specShape (f := ⟨bs, m⟩) (hv.app _) hb, hsh]
  | true =>
    simp [specShape (f := ⟨bs, m⟩) (hv.app _) hb, hsh]
    have hb1 : rdOb (H ++ [⟨[v, .i m], 0, true, 2⟩]) H.length 0 = some ⟨[v, .i m], 0, true, 2⟩ := by simp
    have hv1 := hv.app [⟨[v, .i m], 0, true, 2⟩]
    refine wp_for CM_mono bs.length (fun i s => (∀ j (hj : j < i) (hx : j < bs.length), bs[j].phis = []) ∧ s.h = H ++ [⟨[v, .i m], 0, true, 2⟩] ∧ Env.get s.e 1 = .c (.p H.length 0 0) ∧ Env.get s.e 3 = .c (.i i)) (by simp) ?_ ?_
    · rintro i ⟨e, X⟩ hi ⟨ht, rfl, h1, h3⟩
      simp only at h1 h3 ⊢
      obtain ⟨id, g, off, w, u, q1, q2, q3, hw, hu, hb3, hb4, q4, q5⟩ := Blocks.get hv1 hi
      unfold vf25b0
      by_cases hph : bs[i].phis = []
      · simp [h1, h3, rdC_ob hb1, hv1.lenOf, q1, q2, hi, hw.lenOf, up1 hi hb, hph]
        intro j hj hx
        by_cases e : j = i
        · subst e; exact hph
        · exact ht j (by omega) hx
      · have hl : 0 < bs[i].phis.length := by cases h : bs[i].phis with | nil => exact absurd h hph | cons a r => simp
        simp [h1, h3, rdC_ob hb1, hv1.lenOf, q1, q2, hi, hw.lenOf, up1 hi hb, hl]
        exact ⟨_, List.getElem_mem hi, hph⟩
    · rintro ⟨e, X⟩ ⟨ht, rfl, h1, h3⟩
      simp only at h1 h3 ⊢
      unfold vf25b0
      simp [h1, h3, rdC_ob hb1, hv1.lenOf]
      intro x hx
      obtain ⟨j, hj, rfl⟩ := List.getElem_of_mem hx
      exact ht j hj hj

theorem specDefAt0 {H : Hp} {w : CV} {f : FnR} {v : Int} (hv : Blocks H w f.blocks) (hb : f.blocks.length ≤ BIG) (k : IV × Hp → Prop) :
    CM 29 [.agg [w, .i f.values], .c (.i v)] H k = k (.tup [(false, [.i (defAtF f v).1]), (false, [.i (defAtF f v).2])], H) := by
  refine det (cw29 ?_) k
  obtain ⟨bs, m⟩ := f
  unfold vf29c defAtF
  cases hsh : shapeB ⟨bs, m⟩ with
  | false => simp [specShape (f := ⟨bs, m⟩) (hv.app _) hb, hsh, gc_ints]
  | true => simp [specShape (f := ⟨bs, m⟩) (hv.app _) hb, hsh, gc_ints, specDefAt (hv.app _) hb (fun b hb x hx hm => (insB_d (shape_ins hsh hb hx) hm).1)]
end Go.Proofs.Ytnmnpfdjigpgaaa.Vm
