import Derived.Test.YtnapgdlfeadhaaaQgn
import Derived.Test.YtnapgdlfeadhaaaQfe
import Derived.Test.YtnapgdlfeadhaaaQze
section
/- A drawn program; who stands on every way to whom, as the law asks. No conditions. -/
namespace Go.Proofs.Ytnapgdlfeadhaaa.Vm
open Go.RowKit (wrap64)
set_option linter.unusedSimpArgs false
set_option linter.unusedVariables false

/-! ### The plain law -/
theorem hasI_dom {bs : List BlkR} (hin : InRange bs) {a b : Nat} (ha : a < bs.length) (hb : b < bs.length) : hasI (domF bs b) a = true ↔ Dom bs a b := by
  rw [hasI_iff, ← domB_iff hin ha hb]
  exact ⟨domB_of_mem, mem_domF ha⟩
theorem dom_zero {bs : List BlkR} (hin : InRange bs) {b : Nat} (hb : b < bs.length) (rb : (seenF bs).getD b false = true) : hasI (domF bs b) 0 = true ∧ hasI (domF bs b) b = true := by
  have RB := (seen_rch hin hb).1 rb
  have R0 : Rch bs (fun _ => False) 0 0 := .start fun h => h
  exact ⟨(hasI_dom (a := 0) hin (by omega) hb).2 ⟨R0, RB, rch_zero⟩, (hasI_dom hin hb hb).2 (Dom.self RB)⟩
/-! ### The law -/
end Go.Proofs.Ytnapgdlfeadhaaa.Vm
end
