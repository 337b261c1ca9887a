/- What the laws ask of both sides: plain programs, where a value is made, who follows. No conditions. -/
import Derived.Test.YtnpbldjbfkpbcaaKl
namespace Go.Proofs.Ytnpbldjbfkpbcaa.Vm
open Go.RowKit (wrap64)
set_option linter.unusedSimpArgs false
set_option linter.unusedVariables false

theorem specDefAt0 {H : Hp} {w : CV} {f : FnR} {v : Int} (hv : Blocks H w f.blocks) (hb : f.blocks.length ≤ BIG) (k : IV × Hp → Prop) :
    CM 64 [.agg [w, .i f.values], .c (.i v)] H k = k (.tup [(false, [.i (defAtF f v).1]), (false, [.i (defAtF f v).2])], H) := by
  refine det (cw64 ?_) k
  obtain ⟨bs, m⟩ := f
  unfold vf64c defAtF
  cases hsh : shapeB ⟨bs, m⟩ with
  | false => simp [specShape (f := ⟨bs, m⟩) (hv.app _) hb, hsh, gc_ints]
  | true => simp [specShape (f := ⟨bs, m⟩) (hv.app _) hb, hsh, gc_ints, specDefAt (hv.app _) hb (fun b hb x hx hm => (insB_d (shape_ins hsh hb hx) hm).1)]
end Go.Proofs.Ytnpbldjbfkpbcaa.Vm
