/- Every operation, every region, all code and every call of the ideal machine is followed by the model's. No conditions. -/
import Derived.Test.YtgdfgnppeekfjaaGreatVmH
import Derived.LoopN
namespace Go.Proofs.YtgdfgnppeekfjaaGreat.Vm
open Go.RowKit (wrap64 Below)
set_option linter.unusedSimpArgs false
set_option linter.unusedVariables false
def Ret (w0 : World) (ρ : Rho) (H : Hp) (iv : IV) (H' : Hp) (e : Ending) (w' : World) : Prop :=
  ∃ ρ' v, e = .returned v ∧ IR ρ' H' iv v ∧ wfI H' iv ∧ Sim w0 ρ' H' w' ∧ Ext ρ H ρ' H'
section
variable {P : Program} {w0 : World} {ρ : Rho} {H : Hp} {w : World} {e : Env} {a : Act} {ty : TypeId} {d : Option Tmp} {pos : String} {aft : Array Edge} {gd : Option (Nat × Bool)} {K : Orc}
theorem arr1 {α : Type} {x : Array α} {y : α} (h : x.toList = [y]) : x = #[y] := by apply Array.ext'; simpa using h
theorem arr2 {α : Type} {x : Array α} {y z : α} (h : x.toList = [y, z]) : x = #[y, z] := by apply Array.ext'; simpa using h
theorem chkOpt_BR {lo' : Option Od} {lo : Option Operand} (hE : EnvR ρ H e a) (hw : wfE H e) (h : chkOpt lo' lo = true) {l : Option Int}
    (hl : lo'.map (Od.get e) = l.map fun n => .c (.i n)) : BR a lo l := by
  unfold chkOpt at h
  split at h
  · cases l <;> simp at hl; rfl
  · cases l with
    | none => simp at hl
    | some n =>
      simp only [Option.map_some, Option.some.injEq] at hl
      have := (chkOd_IR hE hw h).1
      rw [hl] at this
      simp only [IR, VR] at this
      simp [BR, this]
  · cases h
theorem step_out (hE : EnvR ρ H e a) (hw : wfE H e) (hS : Sim w0 ρ H w) {op : Op} {vop : VOp} {iv : IV} {H' : Hp} (hc : chkOp P op vop = true) (hst : stepV K e H vop = some (iv, H'))
    (n1 : ∀ f as, vop ≠ .call f as) (n2 : ∀ x as, vop ≠ .clv x as) : Outc w0 ρ H iv H' ((execOp a.eval ⟨d, op, ty, pos, aft, gd⟩).run P w) := by
  unfold chkOp at hc
  split at hc
  · rename_i x y
    simp only [stepV, Option.some.injEq, Prod.mk.injEq] at hst
    obtain ⟨rfl, rfl⟩ := hst
    obtain ⟨h1, h2⟩ := chkOd_IR hE hw hc
    exact Outc.here hS (by simp only [execOp, Sem.run_pure]) h1 h2
  · rename_i x y
    simp only [stepV, Option.some.injEq, Prod.mk.injEq] at hst
    obtain ⟨rfl, rfl⟩ := hst
    obtain ⟨h1, h2⟩ := chkOd_IR hE hw hc
    exact Outc.here hS (by simp only [execOp, Sem.run_pure]) h1 h2
  · rename_i c x y c' x' y'
    simp only [Bool.and_eq_true] at hc
    obtain ⟨⟨h1, h2⟩, h3⟩ := hc
    have hc1 := (chkOd_IR hE hw h1).1
    simp only [stepV] at hst
    split at hst
    · rename_i hg
      rw [hg] at hc1
      simp only [IR, VR] at hc1
      simp only [Option.some.injEq, Prod.mk.injEq] at hst
      obtain ⟨rfl, rfl⟩ := hst
      obtain ⟨h4, h5⟩ := chkOd_IR hE hw h2
      exact Outc.here hS (by simp [execOp, hc1, asBool]) h4 h5
    · rename_i hg
      rw [hg] at hc1
      simp only [IR, VR] at hc1
      simp only [Option.some.injEq, Prod.mk.injEq] at hst
      obtain ⟨rfl, rfl⟩ := hst
      obtain ⟨h4, h5⟩ := chkOd_IR hE hw h3
      exact Outc.here hS (by simp [execOp, hc1, asBool]) h4 h5
    · cases hst
  · simp only [stepV, Option.some.injEq, Prod.mk.injEq] at hst
    obtain ⟨rfl, rfl⟩ := hst
    exact sim_alloc hc hS
  · simp only [stepV] at hst
    obtain ⟨cs, hcs, hst⟩ := Option.bind_eq_some_iff.1 hst
    simp only [Option.some.injEq, Prod.mk.injEq] at hst
    obtain ⟨rfl, rfl⟩ := hst
    obtain ⟨h1, h2⟩ := chkOd_IR hE hw hc
    exact sim_box hcs h1 h2 hS
  · simp only [Bool.and_eq_true] at hc
    obtain ⟨⟨h1, h2⟩, h3⟩ := hc
    simp only [stepV] at hst
    obtain ⟨ps, hps, hst⟩ := Option.bind_eq_some_iff.1 hst
    obtain ⟨cs, hcs, hst⟩ := Option.bind_eq_some_iff.1 hst
    simp only [Option.some.injEq, Prod.mk.injEq] at hst
    obtain ⟨rfl, rfl⟩ := hst
    split at h3
    · rename_i fs hu
      exact sim_build hE hw h1 h2 hu h3 hps hcs hS
    · cases h3
  · simp only [Bool.and_eq_true, beq_iff_eq] at hc
    obtain ⟨h1, h2⟩ := hc
    subst h1
    simp only [stepV] at hst
    obtain ⟨ps, hps, hst⟩ := Option.bind_eq_some_iff.1 hst
    obtain ⟨cs, hcs, hst⟩ := Option.bind_eq_some_iff.1 hst
    simp only [Option.some.injEq, Prod.mk.injEq] at hst
    obtain ⟨rfl, rfl⟩ := hst
    split at h2
    · rename_i el he
      simp only [Bool.and_eq_true, beq_iff_eq, decide_eq_true_eq] at h2
      obtain ⟨⟨⟨⟨⟨a1, a2⟩, a3⟩, a4⟩, a5⟩, a6⟩ := h2
      exact sim_bsl hE hw he a1 a2 a3 a4 a5 a6 hps hcs hS
    · cases h2
  · simp only [Bool.and_eq_true] at hc
    obtain ⟨h1, h2⟩ := hc
    have hx := (chkOd_IR hE hw h1).1
    split at h2
    · rename_i k ht
      simp only [decide_eq_true_eq] at h2
      simp only [stepV] at hst
      split at hst
      · rename_i id g off hg
        rw [hg] at hx
        obtain ⟨o, ho, hst⟩ := Option.bind_eq_some_iff.1 hst
        split at hst
        · rename_i hle
          simp only [Option.some.injEq, Prod.mk.injEq] at hst
          obtain ⟨rfl, rfl⟩ := hst
          exact sim_ldn ht h2 hx ho hle hS
        · cases hst
      · cases hst
    · rename_i ht
      simp only [stepV] at hst
      split at hst
      · rename_i id g off hg
        rw [hg] at hx
        obtain ⟨o, ho, hst⟩ := Option.bind_eq_some_iff.1 hst
        obtain ⟨v, hv, hst⟩ := Option.bind_eq_some_iff.1 hst
        simp only [Option.some.injEq, Prod.mk.injEq] at hst
        obtain ⟨rfl, rfl⟩ := hst
        exact sim_ld1 ht hx ho hv hS
      · cases hst
    · cases h2
  · simp only [Bool.and_eq_true, decide_eq_true_eq] at hc
    obtain ⟨⟨h1, h2⟩, h3⟩ := hc
    have hx := (chkOd_IR hE hw h1).1
    obtain ⟨hy1, hy2⟩ := chkOd_IR hE hw h2
    simp only [stepV] at hst
    split at hst
    · rename_i id g off hg
      rw [hg] at hx
      obtain ⟨o, ho, hst⟩ := Option.bind_eq_some_iff.1 hst
      obtain ⟨cs, hcs, hst⟩ := Option.bind_eq_some_iff.1 hst
      split at hst
      · rename_i hcond
        simp only [Option.some.injEq, Prod.mk.injEq] at hst
        obtain ⟨rfl, rfl⟩ := hst
        exact sim_st h3 hx ho hcs hy1 hy2 hcond.1 hcond.2.1 hcond.2.2 hS
      · cases hst
    · cases hst
  · obtain ⟨hx, hwx⟩ := chkOd_IR hE hw hc
    simp only [stepV] at hst
    split at hst
    · rename_i id g off hg
      rw [hg] at hx hwx
      simp only [Option.some.injEq, Prod.mk.injEq] at hst
      obtain ⟨rfl, rfl⟩ := hst
      obtain ⟨ad, hv, ha⟩ := hx
      exact Outc.here hS (v := .pointer (some ad)) (by simp [execOp, hv]) ⟨ad, rfl, ha⟩ hwx
    · cases hst
  · simp only [Bool.and_eq_true] at hc
    obtain ⟨⟨h1, h2⟩, h3⟩ := hc
    have hx := (chkOd_IR hE hw h2).1
    have hy := (chkOd_IR hE hw h3).1
    simp only [stepV] at hst
    split at hst
    · rename_i u v hu hv
      rw [hu] at hx
      rw [hv] at hy
      obtain ⟨r, hr, hst⟩ := Option.bind_eq_some_iff.1 hst
      simp only [Option.some.injEq, Prod.mk.injEq] at hst
      obtain ⟨rfl, rfl⟩ := hst
      exact sim_bin h1 hr hx hy hS
    · cases hst
  · rename_i m _ n x'
    simp only [Bool.and_eq_true, decide_eq_true_eq] at hc
    obtain ⟨h1, rfl⟩ := hc
    have hx := (chkOd_IR hE hw h1).1
    simp only [stepV] at hst
    split at hst
    · rename_i v hu
      rw [hu] at hx
      split at hst
      · rename_i hn
        simp only [Option.some.injEq, Prod.mk.injEq] at hst
        obtain ⟨rfl, rfl⟩ := hst
        exact sim_shk (left := true) hn hx hS
      · cases hst
    · cases hst
  · rename_i m _ n x'
    simp only [Bool.and_eq_true, decide_eq_true_eq] at hc
    obtain ⟨h1, rfl⟩ := hc
    have hx := (chkOd_IR hE hw h1).1
    simp only [stepV] at hst
    split at hst
    · rename_i v hu
      rw [hu] at hx
      split at hst
      · rename_i hn
        simp only [Option.some.injEq, Prod.mk.injEq] at hst
        obtain ⟨rfl, rfl⟩ := hst
        exact sim_shk (left := false) hn hx hS
      · cases hst
    · cases hst
  · simp only [Bool.and_eq_true] at hc
    obtain ⟨⟨⟨⟨h1, h2⟩, h3⟩, h4⟩, h5⟩ := hc
    have hx := (chkOd_IR hE hw h1).1
    have hlo := (chkOd_IR hE hw h2).1
    have hhi := (chkOd_IR hE hw h3).1
    have hmx := (chkOd_IR hE hw h4).1
    split at h5
    · rename_i el he
      obtain ⟨sz, hsz⟩ := Option.isSome_iff_exists.1 h5
      simp only [stepV] at hst
      split at hst
      · rename_i e1 e2 e3 e4
        rw [e1] at hx
        rw [e2] at hlo
        rw [e3] at hhi
        rw [e4] at hmx
        split at hst
        · rename_i hcond
          simp only [Option.some.injEq, Prod.mk.injEq] at hst
          obtain ⟨rfl, rfl⟩ := hst
          exact sim_bck he hsz hx hlo hhi hmx hcond.1 hcond.2.1 hcond.2.2.1 hcond.2.2.2 hS
        · cases hst
      · cases hst
    · cases h5
  · simp only [Bool.and_eq_true] at hc
    obtain ⟨⟨⟨h1, h2⟩, h3⟩, h4⟩ := hc
    have hx := (chkOd_IR hE hw h2).1
    have hy := (chkOd_IR hE hw h3).1
    simp only [stepV] at hst
    split at hst
    · rename_i xs ys hu hv
      rw [hu] at hx
      rw [hv] at hy
      split at hst
      · rename_i hcond
        simp only [Option.some.injEq, Prod.mk.injEq] at hst
        obtain ⟨rfl, rfl⟩ := hst
        exact sim_eqa h1 h4 hx hy hcond.1 hcond.2.1 hcond.2.2.1 hcond.2.2.2 hS
      · cases hst
    · cases hst
  · simp only [Bool.and_eq_true] at hc
    obtain ⟨⟨⟨h1, h2⟩, h3⟩, h4⟩ := hc
    have hx := (chkOd_IR hE hw h2).1
    have hy := (chkOd_IR hE hw h3).1
    simp only [stepV] at hst
    split at hst
    · rename_i xs ys hu hv
      rw [hu] at hx
      rw [hv] at hy
      simp only [Option.some.injEq, Prod.mk.injEq] at hst
      obtain ⟨rfl, rfl⟩ := hst
      split at h4
      · rename_i hub
        exact sim_eqb h1 hub hx hy hS
      · cases h4
    · cases hst
  · rename_i op t x y _ neg x'
    simp only [Bool.and_eq_true] at hc
    obtain ⟨⟨⟨h1, h2⟩, h3⟩, h4⟩ := hc
    have hx := (chkOd_IR hE hw h2).1
    obtain ⟨el, he⟩ := Option.isSome_iff_exists.1 h4
    have hy : a.eval y = .slice none 0 0 := by
      split at h3
      · rfl
      · cases h3
    simp only [stepV] at hst
    split at hst
    · rename_i hu
      rw [hu] at hx
      simp only [Option.some.injEq, Prod.mk.injEq] at hst
      obtain ⟨rfl, rfl⟩ := hst
      exact sim_eqn_nil h1 (elOf_R he) hx hy hS
    · rename_i hu
      rw [hu] at hx
      simp only [Option.some.injEq, Prod.mk.injEq] at hst
      obtain ⟨rfl, rfl⟩ := hst
      exact sim_eqn_sl h1 (elOf_R he) hx hy hS
    · cases hst
  · have hx := (chkOd_IR hE hw hc).1
    simp only [stepV] at hst
    split at hst
    · rename_i hu
      rw [hu] at hx
      simp only [Option.some.injEq, Prod.mk.injEq] at hst
      obtain ⟨rfl, rfl⟩ := hst
      exact sim_not hx hS
    · cases hst
  · simp only [Bool.and_eq_true] at hc
    obtain ⟨⟨h1, h2⟩, h3⟩ := hc
    have hx := (chkOd_IR hE hw h1).1
    simp only [stepV] at hst
    split at hst
    · rename_i hu
      rw [hu] at hx
      simp only [Option.some.injEq, Prod.mk.injEq] at hst
      obtain ⟨rfl, rfl⟩ := hst
      split at h3
      · rename_i hd
        exact sim_b2i h2 hd hx hS
      · cases h3
    · cases hst
  · simp only [Bool.and_eq_true] at hc
    obtain ⟨⟨h1, h2⟩, h3⟩ := hc
    have hx := (chkOd_IR hE hw h1).1
    simp only [stepV] at hst
    split at hst
    · rename_i s hu
      rw [hu] at hx
      split at hst
      · rename_i hlim
        simp only [Option.some.injEq, Prod.mk.injEq] at hst
        obtain ⟨rfl, rfl⟩ := hst
        split at h3
        · rename_i el he
          split at h3
          · rename_i hub
            exact sim_s2b h2 he hub hx (by simp only [LIM] at hlim; simp only [maxLen]; omega) hS
          · cases h3
        · cases h3
      · cases hst
    · cases hst
  · simp only [Bool.and_eq_true] at hc
    obtain ⟨⟨h1, h2⟩, h3⟩ := hc
    have hx := (chkOd_IR hE hw h1).1
    have hy := (chkOd_IR hE hw h2).1
    simp only [stepV] at hst
    split at hst
    · rename_i n hu
      rw [hu] at hx hy
      split at hst
      · rename_i hcond
        simp only [Option.some.injEq, Prod.mk.injEq] at hst
        obtain ⟨rfl, rfl⟩ := hst
        split at h3
        · rename_i el he
          simp only [Bool.and_eq_true, beq_iff_eq, decide_eq_true_eq] at h3
          obtain ⟨⟨⟨⟨a1, a2⟩, a3⟩, a4⟩, a5⟩ := h3
          split at a5
          · rename_i i hi
            simp only [decide_eq_true_eq] at a5
            exact sim_mks he a1 a2 a3 a4 ⟨i, hi, a5⟩ hx hy hcond.1 hcond.2 hS
          · cases a5
        · cases h3
      · cases hst
    · cases hst
  · rename_i t x lo hi sz y lo' hi'
    simp only [Bool.and_eq_true] at hc
    obtain ⟨⟨⟨h1, h2⟩, h3⟩, h4⟩ := hc
    obtain ⟨hx, hwx⟩ := chkOd_IR hE hw h1
    split at h4
    · rename_i el he
      simp only [decide_eq_true_eq] at h4
      simp only [stepV] at hst
      split at hst
      · rename_i v hv
        rw [hv] at hx hwx
        obtain ⟨r, hr, hst⟩ := Option.bind_eq_some_iff.1 hst
        simp only [Option.some.injEq, Prod.mk.injEq] at hst
        obtain ⟨rfl, rfl⟩ := hst
        unfold doSlice at hr
        split at hr
        · rename_i id g off len
          obtain ⟨l, hl, hr⟩ := Option.bind_eq_some_iff.1 hr
          obtain ⟨h, hh, hr⟩ := Option.bind_eq_some_iff.1 hr
          split at hr
          · rename_i hcond
            obtain ⟨o, ho, hr⟩ := Option.bind_eq_some_iff.1 hr
            split at hr
            · rename_i hsz
              simp only [Option.some.injEq] at hr
              subst hr
              have hlx : ∃ l' : Option Int, lo'.map (Od.get e) = l'.map (fun n => .c (.i n)) ∧ l'.getD 0 = l := by
                cases hlo : lo'.map (Od.get e) with
                | none => rw [hlo] at hl; simp at hl; exact ⟨none, rfl, by simpa using hl⟩
                | some q =>
                  rw [hlo] at hl
                  try simp only at hl
                  split at hl
                  · rename_i heq; cases heq
                  · rename_i l2 heq; injection heq with heq; subst heq; injection hl with hl; subst hl; exact ⟨some _, rfl, rfl⟩
                  · cases hl
              have hhx : ∃ h' : Option Int, hi'.map (Od.get e) = h'.map (fun n => .c (.i n)) ∧ h'.getD len = h := by
                cases hlo : hi'.map (Od.get e) with
                | none => rw [hlo] at hh; simp at hh; exact ⟨none, rfl, by simpa using hh⟩
                | some q =>
                  rw [hlo] at hh
                  try simp only at hh
                  split at hh
                  · rename_i heq; cases heq
                  · rename_i l2 heq; injection heq with heq; subst heq; injection hh with hh; subst hh; exact ⟨some _, rfl, rfl⟩
                  · cases hh
              obtain ⟨l', e1, rfl⟩ := hlx
              obtain ⟨h', e2, rfl⟩ := hhx
              exact sim_slc he h4 hx hwx (chkOpt_BR hE hw h2 e1) (chkOpt_BR hE hw h3 e2) hcond.1 hcond.2.1 (.inl hcond.2.2) ho hsz hS
            · cases hr
          · rename_i hcond0
            split at hr
            · rename_i hcond
              obtain ⟨o, ho, hr⟩ := Option.bind_eq_some_iff.1 hr
              split at hr
              · rename_i hsz
                simp only [Option.some.injEq] at hr
                subst hr
                have hlx : ∃ l' : Option Int, lo'.map (Od.get e) = l'.map (fun n => .c (.i n)) ∧ l'.getD 0 = l := by
                  cases hlo : lo'.map (Od.get e) with
                  | none => rw [hlo] at hl; simp at hl; exact ⟨none, rfl, by simpa using hl⟩
                  | some q =>
                    rw [hlo] at hl
                    try simp only at hl
                    split at hl
                    · rename_i heq; cases heq
                    · rename_i l2 heq; injection heq with heq; subst heq; injection hl with hl; subst hl; exact ⟨some _, rfl, rfl⟩
                    · cases hl
                have hhx : ∃ h' : Option Int, hi'.map (Od.get e) = h'.map (fun n => .c (.i n)) ∧ h'.getD len = h := by
                  cases hlo : hi'.map (Od.get e) with
                  | none => rw [hlo] at hh; simp at hh; exact ⟨none, rfl, by simpa using hh⟩
                  | some q =>
                    rw [hlo] at hh
                    try simp only at hh
                    split at hh
                    · rename_i heq; cases heq
                    · rename_i l2 heq; injection heq with heq; subst heq; injection hh with hh; subst hh; exact ⟨some _, rfl, rfl⟩
                    · cases hh
                obtain ⟨l', e1, rfl⟩ := hlx
                obtain ⟨h', e2, rfl⟩ := hhx
                exact sim_slc he h4 hx hwx (chkOpt_BR hE hw h2 e1) (chkOpt_BR hE hw h3 e2) hcond.1 hcond.2 (.inr hsz.2) ho hsz.1 hS
              · cases hr
            · cases hr
        · obtain ⟨l, hl, hr⟩ := Option.bind_eq_some_iff.1 hr
          obtain ⟨h, hh, hr⟩ := Option.bind_eq_some_iff.1 hr
          split at hr
          · rename_i hcond
            simp only [Option.some.injEq] at hr
            subst hr
            have hlx : ∃ l' : Option Int, lo'.map (Od.get e) = l'.map (fun n => .c (.i n)) ∧ l'.getD 0 = l := by
              cases hlo : lo'.map (Od.get e) with
              | none => rw [hlo] at hl; simp at hl; exact ⟨none, rfl, by simpa using hl⟩
              | some q =>
                rw [hlo] at hl
                try simp only at hl
                split at hl
                · rename_i heq; cases heq
                · rename_i l2 heq; injection heq with heq; subst heq; injection hl with hl; subst hl; exact ⟨some _, rfl, rfl⟩
                · cases hl
            have hhx : ∃ h' : Option Int, hi'.map (Od.get e) = h'.map (fun n => .c (.i n)) ∧ h'.getD 0 = h := by
              cases hlo : hi'.map (Od.get e) with
              | none => rw [hlo] at hh; simp at hh; exact ⟨none, rfl, by simpa using hh⟩
              | some q =>
                rw [hlo] at hh
                try simp only at hh
                split at hh
                · rename_i heq; cases heq
                · rename_i l2 heq; injection heq with heq; subst heq; injection hh with hh; subst hh; exact ⟨some _, rfl, rfl⟩
                · cases hh
            obtain ⟨l', e1, rfl⟩ := hlx
            obtain ⟨h', e2, rfl⟩ := hhx
            exact sim_slc_nil he h4 hx (chkOpt_BR hE hw h2 e1) (chkOpt_BR hE hw h3 e2) hcond.1 hcond.2 hS
          · cases hr
        · cases hr
      · cases hst
    · cases h4
  · simp only [Bool.and_eq_true] at hc
    obtain ⟨h1, h2⟩ := hc
    obtain ⟨hx, hwx⟩ := chkOd_IR hE hw h1
    split at h2
    · rename_i o n hf
      simp only [Bool.and_eq_true, beq_iff_eq, decide_eq_true_eq] at h2
      obtain ⟨rfl, h2⟩ := h2
      simp only [stepV] at hst
      split at hst
      · rename_i id g off hu
        rw [hu] at hx hwx
        simp only [Option.some.injEq, Prod.mk.injEq] at hst
        obtain ⟨rfl, rfl⟩ := hst
        exact sim_fad hf h2 hx hwx hS
      · cases hst
    · cases h2
  · simp only [Bool.and_eq_true] at hc
    obtain ⟨⟨h1, h2⟩, h3⟩ := hc
    obtain ⟨hx, hwx⟩ := chkOd_IR hE hw h1
    have hy := (chkOd_IR hE hw h2).1
    split at h3
    · rename_i el he
      simp only [decide_eq_true_eq] at h3
      simp only [stepV] at hst
      split at hst
      · rename_i id g off len k hu hv
        rw [hu] at hx hwx
        rw [hv] at hy
        split at hst
        · rename_i hcond
          simp only [Option.some.injEq, Prod.mk.injEq] at hst
          obtain ⟨rfl, rfl⟩ := hst
          exact sim_idx he h3 hx hy hcond.1 hcond.2 hwx hS
        · cases hst
      · cases hst
    · cases h3
  · simp only [Bool.and_eq_true, beq_iff_eq] at hc
    obtain ⟨h1, rfl⟩ := hc
    obtain ⟨hx, hwx⟩ := chkOd_IR hE hw h1
    simp only [stepV] at hst
    split at hst
    · rename_i ts hu
      rw [hu] at hx hwx
      obtain ⟨t, ht, hst⟩ := Option.bind_eq_some_iff.1 hst
      obtain ⟨v, hv, hst⟩ := Option.bind_eq_some_iff.1 hst
      simp only [Option.some.injEq, Prod.mk.injEq] at hst
      obtain ⟨rfl, rfl⟩ := hst
      exact sim_ext hx hwx ht hv hS
    · cases hst
  · simp only [Bool.and_eq_true, beq_iff_eq] at hc
    obtain ⟨⟨h1, rfl⟩, h3⟩ := hc
    simp only [stepV] at hst
    obtain ⟨vs, hvs, hst⟩ := Option.bind_eq_some_iff.1 hst
    simp only [Option.some.injEq, Prod.mk.injEq] at hst
    obtain ⟨rfl, rfl⟩ := hst
    exact sim_mkf hE hw h1 h3 hvs hS
  · exact absurd rfl (n1 _ _)
  · exact absurd rfl (n2 _ _)
  · split at hc
    · rename_i args ts sz x' y' x y t t' hargs hts
      simp only [Bool.and_eq_true, beq_iff_eq] at hc
      obtain ⟨⟨⟨h1, h2⟩, rfl⟩, h3⟩ := hc
      rw [arr2 hargs, arr2 hts]
      obtain ⟨hx, hwx⟩ := chkOd_IR hE hw h1
      have hy := (chkOd_IR hE hw h2).1
      split at h3
      · rename_i el he
        simp only [Bool.and_eq_true, decide_eq_true_eq] at h3
        obtain ⟨⟨a1, a2⟩, a3⟩ := h3
        obtain ⟨i, hi, hi2⟩ := szOf_R a1
        rw [hi] at a3
        simp only [Bool.and_eq_true, decide_eq_true_eq] at a3
        obtain ⟨a3, a4⟩ := a3
        split at a4
        · rename_i z hz
          simp only [beq_iff_eq] at a4
          simp only [stepV] at hst
          split at hst
          · rename_i u v hu hv
            rw [hu] at hx hwx
            rw [hv] at hy
            obtain ⟨⟨m, xs⟩, hms, hst⟩ := Option.bind_eq_some_iff.1 hst
            exact sim_app he hi hi2 a2 a3 hz a4 hx hwx hy hms hst hS
          · cases hst
        · cases a4
      · cases h3
    · cases hc
  · split at hc
    · rename_i args ts x' x t hargs hts
      simp only [Bool.and_eq_true] at hc
      obtain ⟨h1, h2⟩ := hc
      obtain ⟨el, he⟩ := Option.isSome_iff_exists.1 h2
      have hu := elOf_R he
      rw [arr1 hargs, arr1 hts]
      have hx := (chkOd_IR hE hw h1).1
      simp only [stepV] at hst
      split at hst
      · rename_i id g off n hv
        rw [hv] at hx
        simp only [Option.some.injEq, Prod.mk.injEq] at hst
        obtain ⟨rfl, rfl⟩ := hst
        exact sim_len (.inl ⟨el, hu⟩) (.inl ⟨_, _, _, _, rfl, rfl, el, hu⟩) hx hS
      · rename_i hv
        rw [hv] at hx
        simp only [Option.some.injEq, Prod.mk.injEq] at hst
        obtain ⟨rfl, rfl⟩ := hst
        exact sim_len (.inl ⟨el, hu⟩) (.inr (.inl ⟨rfl, rfl, el, hu⟩)) hx hS
      · cases hst
    · cases hc
  · split at hc
    · rename_i args ts x' x t hargs hts
      simp only [Bool.and_eq_true] at hc
      obtain ⟨h1, h2⟩ := hc
      rw [arr1 hargs, arr1 hts]
      have hx := (chkOd_IR hE hw h1).1
      simp only [stepV] at hst
      split at h2
      · rename_i hu
        split at hst
        · rename_i s hv
          rw [hv] at hx
          simp only [Option.some.injEq, Prod.mk.injEq] at hst
          obtain ⟨rfl, rfl⟩ := hst
          exact sim_len (.inr hu) (.inr (.inr ⟨s, rfl, rfl, hu⟩)) hx hS
        · cases hst
      · cases h2
    · cases hc
  · split at hc
    · rename_i args ts x' y' x y hargs
      simp only [Bool.and_eq_true] at hc
      rw [arr2 hargs]
      have hx := (chkOd_IR hE hw hc.1).1
      have hy := (chkOd_IR hE hw hc.2).1
      simp only [stepV] at hst
      split at hst
      · rename_i u v hu hv
        rw [hu] at hx
        rw [hv] at hy
        simp only [Option.some.injEq, Prod.mk.injEq] at hst
        obtain ⟨rfl, rfl⟩ := hst
        exact sim_mn hx hy hS
      · cases hst
    · cases hc
  · split at hc
    · rename_i args ts x' y' x y hargs
      simp only [Bool.and_eq_true] at hc
      rw [arr2 hargs]
      have hx := (chkOd_IR hE hw hc.1).1
      have hy := (chkOd_IR hE hw hc.2).1
      simp only [stepV] at hst
      split at hst
      · rename_i u v hu hv
        rw [hu] at hx
        rw [hv] at hy
        simp only [Option.some.injEq, Prod.mk.injEq] at hst
        obtain ⟨rfl, rfl⟩ := hst
        exact sim_mx hx hy hS
      · cases hst
    · cases hc
  · split at hc
    · rename_i args ts sz zs x' x t hargs hts
      simp only [Bool.and_eq_true] at hc
      obtain ⟨h1, h2⟩ := hc
      rw [arr1 hargs, arr1 hts]
      have hx := (chkOd_IR hE hw h1).1
      split at h2
      · rename_i el he
        simp only [Bool.and_eq_true, beq_iff_eq, decide_eq_true_eq] at h2
        obtain ⟨⟨a1, a2⟩, a3⟩ := h2
        simp only [stepV] at hst
        split at hst
        · rename_i hv
          rw [hv] at hx
          simp only [Option.some.injEq, Prod.mk.injEq] at hst
          obtain ⟨rfl, rfl⟩ := hst
          exact sim_clr_nil he hx hS
        · rename_i id g off len hv
          rw [hv] at hx
          obtain ⟨o, ho, hst⟩ := Option.bind_eq_some_iff.1 hst
          split at hst
          · rename_i hcond
            simp only [Option.some.injEq, Prod.mk.injEq] at hst
            obtain ⟨rfl, rfl⟩ := hst
            exact sim_clr he a1 a2 a3 hx ho hcond.1 hcond.2 hS
          · cases hst
        · cases hst
      · cases h2
    · cases hc
  · cases hc
end
end Go.Proofs.YtgdfgnppeekfjaaGreat.Vm
