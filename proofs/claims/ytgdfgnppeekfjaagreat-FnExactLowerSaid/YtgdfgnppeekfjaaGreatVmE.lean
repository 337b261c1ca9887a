/- Each operation of the ideal machine, but for calls, is followed by the model's: the second part. No conditions. -/
import Derived.Test.YtgdfgnppeekfjaaGreatVmD
namespace Go.Proofs.YtgdfgnppeekfjaaGreat.Vm
open Go.RowKit (wrap64 Below)
set_option linter.unusedSimpArgs false
set_option linter.unusedVariables false
section
variable {P : Program} {w0 : World} {ρ : Rho} {H : Hp} {w : World} {e : Env} {a : Act} {ty : TypeId} {d : Option Tmp} {pos : String} {aft : Array Edge} {gd : Option (Nat × Bool)}
theorem wrap64_eq (n : Int) : IntKind.i64.wrap n = wrap64 n := by rw [IntKind.wrap_i64]; unfold wrap64; rfl
theorem str_eq (m n : ByteArray) : (m.toList == n.toList) = (m == n) := by
  rw [ByteArray.toList_eq, ByteArray.toList_eq]
  obtain ⟨⟨x⟩⟩ := m
  obtain ⟨⟨y⟩⟩ := n
  show (x == y) = ((⟨x⟩ : Array UInt8) == ⟨y⟩)
  simp
theorem bin_add {t ty' : TypeId} {x y : Operand} {m n : Int} (hx : a.eval x = .int .i64 m) (hy : a.eval y = .int .i64 n) : (execOp a.eval ⟨d, .binOp .add t x y ty', ty, pos, aft, gd⟩).run P w = .ok (.value (.int .i64 (wrap64 (m + n)))) w := by
  simp [execOp, hx, hy, eqGuard, binOp, Op.intArith, Op.intBits, wrap64_eq, bits]
theorem bin_sub {t ty' : TypeId} {x y : Operand} {m n : Int} (hx : a.eval x = .int .i64 m) (hy : a.eval y = .int .i64 n) : (execOp a.eval ⟨d, .binOp .sub t x y ty', ty, pos, aft, gd⟩).run P w = .ok (.value (.int .i64 (wrap64 (m - n)))) w := by
  simp [execOp, hx, hy, eqGuard, binOp, Op.intArith, Op.intBits, wrap64_eq, bits]
theorem bin_mul {t ty' : TypeId} {x y : Operand} {m n : Int} (hx : a.eval x = .int .i64 m) (hy : a.eval y = .int .i64 n) : (execOp a.eval ⟨d, .binOp .mul t x y ty', ty, pos, aft, gd⟩).run P w = .ok (.value (.int .i64 (wrap64 (m * n)))) w := by
  simp [execOp, hx, hy, eqGuard, binOp, Op.intArith, Op.intBits, wrap64_eq, bits]
theorem bin_and {t ty' : TypeId} {x y : Operand} {m n : Int} (hx : a.eval x = .int .i64 m) (hy : a.eval y = .int .i64 n) : (execOp a.eval ⟨d, .binOp .and t x y ty', ty, pos, aft, gd⟩).run P w = .ok (.value (.int .i64 (bits .and .i64 m n))) w := by
  simp [execOp, hx, hy, eqGuard, binOp, Op.intArith, Op.intBits, wrap64_eq, bits]
theorem bin_or {t ty' : TypeId} {x y : Operand} {m n : Int} (hx : a.eval x = .int .i64 m) (hy : a.eval y = .int .i64 n) : (execOp a.eval ⟨d, .binOp .or t x y ty', ty, pos, aft, gd⟩).run P w = .ok (.value (.int .i64 (bits .or .i64 m n))) w := by
  simp [execOp, hx, hy, eqGuard, binOp, Op.intArith, Op.intBits, wrap64_eq, bits]
theorem bin_xor {t ty' : TypeId} {x y : Operand} {m n : Int} (hx : a.eval x = .int .i64 m) (hy : a.eval y = .int .i64 n) : (execOp a.eval ⟨d, .binOp .xor t x y ty', ty, pos, aft, gd⟩).run P w = .ok (.value (.int .i64 (bits .xor .i64 m n))) w := by
  simp [execOp, hx, hy, eqGuard, binOp, Op.intArith, Op.intBits, wrap64_eq, bits]
theorem bin_eq {t ty' : TypeId} {x y : Operand} {m n : Int} (hx : a.eval x = .int .i64 m) (hy : a.eval y = .int .i64 n) : (execOp a.eval ⟨d, .binOp .eql t x y ty', ty, pos, aft, gd⟩).run P w = .ok (.value (.bool (m == n))) w := by
  simp [execOp, hx, hy, eqGuard, binOp, Op.intCmp]
theorem bin_ne {t ty' : TypeId} {x y : Operand} {m n : Int} (hx : a.eval x = .int .i64 m) (hy : a.eval y = .int .i64 n) : (execOp a.eval ⟨d, .binOp .neq t x y ty', ty, pos, aft, gd⟩).run P w = .ok (.value (.bool (m != n))) w := by
  simp [execOp, hx, hy, eqGuard, binOp, Op.intCmp]
theorem bin_lt {t ty' : TypeId} {x y : Operand} {m n : Int} (hx : a.eval x = .int .i64 m) (hy : a.eval y = .int .i64 n) : (execOp a.eval ⟨d, .binOp .lss t x y ty', ty, pos, aft, gd⟩).run P w = .ok (.value (.bool (decide (m < n)))) w := by
  simp [execOp, hx, hy, eqGuard, binOp, Op.intCmp]
theorem bin_le {t ty' : TypeId} {x y : Operand} {m n : Int} (hx : a.eval x = .int .i64 m) (hy : a.eval y = .int .i64 n) : (execOp a.eval ⟨d, .binOp .leq t x y ty', ty, pos, aft, gd⟩).run P w = .ok (.value (.bool (decide (m ≤ n)))) w := by
  simp [execOp, hx, hy, eqGuard, binOp, Op.intCmp]
theorem bin_gt {t ty' : TypeId} {x y : Operand} {m n : Int} (hx : a.eval x = .int .i64 m) (hy : a.eval y = .int .i64 n) : (execOp a.eval ⟨d, .binOp .gtr t x y ty', ty, pos, aft, gd⟩).run P w = .ok (.value (.bool (decide (m > n)))) w := by
  simp [execOp, hx, hy, eqGuard, binOp, Op.intCmp]
theorem bin_ge {t ty' : TypeId} {x y : Operand} {m n : Int} (hx : a.eval x = .int .i64 m) (hy : a.eval y = .int .i64 n) : (execOp a.eval ⟨d, .binOp .geq t x y ty', ty, pos, aft, gd⟩).run P w = .ok (.value (.bool (decide (m ≥ n)))) w := by
  simp [execOp, hx, hy, eqGuard, binOp, Op.intCmp]
theorem bin_quo {t ty' : TypeId} {x y : Operand} {m n : Int} (hx : a.eval x = .int .i64 m) (hy : a.eval y = .int .i64 n) (h0 : ¬ n = 0) : (execOp a.eval ⟨d, .binOp .quo t x y ty', ty, pos, aft, gd⟩).run P w = .ok (.value (.int .i64 (wrap64 (m.tdiv n)))) w := by
  simp [execOp, hx, hy, eqGuard, binOp, Op.intDiv, wrap64_eq, h0]
theorem bin_rem {t ty' : TypeId} {x y : Operand} {m n : Int} (hx : a.eval x = .int .i64 m) (hy : a.eval y = .int .i64 n) (h0 : ¬ n = 0) : (execOp a.eval ⟨d, .binOp .rem t x y ty', ty, pos, aft, gd⟩).run P w = .ok (.value (.int .i64 (m.tmod n))) w := by
  simp [execOp, hx, hy, eqGuard, binOp, Op.intDiv, wrap64_eq, h0]
theorem bin_shl {t ty' : TypeId} {x y : Operand} {m n : Int} (hx : a.eval x = .int .i64 m) (hy : a.eval y = .int .i64 n) (h0 : 0 ≤ n ∧ n ≤ 64) : (execOp a.eval ⟨d, .binOp .shl t x y ty', ty, pos, aft, gd⟩).run P w = .ok (.value (.int .i64 (wrap64 (m * 2 ^ n.toNat)))) w := by
  simp [execOp, hx, hy, eqGuard, binOp, shift_shl, wrap64_eq, h0.1, show n ≤ IntKind.i64.bits from h0.2]
theorem bin_shr {t ty' : TypeId} {x y : Operand} {m n : Int} (hx : a.eval x = .int .i64 m) (hy : a.eval y = .int .i64 n) (h0 : 0 ≤ n ∧ n ≤ 64) : (execOp a.eval ⟨d, .binOp .shr t x y ty', ty, pos, aft, gd⟩).run P w = .ok (.value (.int .i64 (m / 2 ^ n.toNat))) w := by
  simp [execOp, hx, hy, eqGuard, binOp, shift_shr, wrap64_eq, h0.1, show n ≤ IntKind.i64.bits from h0.2]
theorem bin_yeq {t ty' : TypeId} {x y : Operand} {m n : Int} (hx : a.eval x = .int .u8 m) (hy : a.eval y = .int .u8 n) : (execOp a.eval ⟨d, .binOp .eql t x y ty', ty, pos, aft, gd⟩).run P w = .ok (.value (.bool (m == n))) w := by
  simp [execOp, hx, hy, eqGuard, binOp, Op.intCmp]
theorem bin_yne {t ty' : TypeId} {x y : Operand} {m n : Int} (hx : a.eval x = .int .u8 m) (hy : a.eval y = .int .u8 n) : (execOp a.eval ⟨d, .binOp .neq t x y ty', ty, pos, aft, gd⟩).run P w = .ok (.value (.bool (m != n))) w := by
  simp [execOp, hx, hy, eqGuard, binOp, Op.intCmp]
theorem bin_seq {t ty' : TypeId} {x y : Operand} {m n : ByteArray} (hx : a.eval x = .string m) (hy : a.eval y = .string n) : (execOp a.eval ⟨d, .binOp .eql t x y ty', ty, pos, aft, gd⟩).run P w = .ok (.value (.bool (m == n))) w := by
  simp [execOp, hx, hy, eqGuard, binOp, Op.stringOp, str_eq]
theorem bin_sne {t ty' : TypeId} {x y : Operand} {m n : ByteArray} (hx : a.eval x = .string m) (hy : a.eval y = .string n) : (execOp a.eval ⟨d, .binOp .neq t x y ty', ty, pos, aft, gd⟩).run P w = .ok (.value (.bool (!(m == n)))) w := by
  simp [execOp, hx, hy, eqGuard, binOp, Op.stringOp, str_eq]
theorem sim_bin_add {op : BinOp} {t ty' : TypeId} {x y : Operand} {u v r : CV} (hb : boOf op .add = true) (hr : evalBin .add u v = some r) (hx : VR ρ H u (a.eval x)) (hy : VR ρ H v (a.eval y)) (hS : Sim w0 ρ H w) :
    Outc w0 ρ H (.c r) H ((execOp a.eval ⟨d, .binOp op t x y ty', ty, pos, aft, gd⟩).run P w) := by
  have ho : op = .add := by cases op <;> first | rfl | (simp [boOf] at hb)
  subst ho
  cases u <;> cases v <;> first | (simp [evalBin] at hr; done) | skip
  simp only [evalBin, Option.some.injEq] at hr; subst hr
  simp only [VR] at hx hy
  exact Outc.here hS (bin_add hx hy) rfl trivial
theorem sim_bin_sub {op : BinOp} {t ty' : TypeId} {x y : Operand} {u v r : CV} (hb : boOf op .sub = true) (hr : evalBin .sub u v = some r) (hx : VR ρ H u (a.eval x)) (hy : VR ρ H v (a.eval y)) (hS : Sim w0 ρ H w) :
    Outc w0 ρ H (.c r) H ((execOp a.eval ⟨d, .binOp op t x y ty', ty, pos, aft, gd⟩).run P w) := by
  have ho : op = .sub := by cases op <;> first | rfl | (simp [boOf] at hb)
  subst ho
  cases u <;> cases v <;> first | (simp [evalBin] at hr; done) | skip
  simp only [evalBin, Option.some.injEq] at hr; subst hr
  simp only [VR] at hx hy
  exact Outc.here hS (bin_sub hx hy) rfl trivial
theorem sim_bin_mul {op : BinOp} {t ty' : TypeId} {x y : Operand} {u v r : CV} (hb : boOf op .mul = true) (hr : evalBin .mul u v = some r) (hx : VR ρ H u (a.eval x)) (hy : VR ρ H v (a.eval y)) (hS : Sim w0 ρ H w) :
    Outc w0 ρ H (.c r) H ((execOp a.eval ⟨d, .binOp op t x y ty', ty, pos, aft, gd⟩).run P w) := by
  have ho : op = .mul := by cases op <;> first | rfl | (simp [boOf] at hb)
  subst ho
  cases u <;> cases v <;> first | (simp [evalBin] at hr; done) | skip
  simp only [evalBin, Option.some.injEq] at hr; subst hr
  simp only [VR] at hx hy
  exact Outc.here hS (bin_mul hx hy) rfl trivial
theorem sim_bin_and {op : BinOp} {t ty' : TypeId} {x y : Operand} {u v r : CV} (hb : boOf op .and = true) (hr : evalBin .and u v = some r) (hx : VR ρ H u (a.eval x)) (hy : VR ρ H v (a.eval y)) (hS : Sim w0 ρ H w) :
    Outc w0 ρ H (.c r) H ((execOp a.eval ⟨d, .binOp op t x y ty', ty, pos, aft, gd⟩).run P w) := by
  have ho : op = .and := by cases op <;> first | rfl | (simp [boOf] at hb)
  subst ho
  cases u <;> cases v <;> first | (simp [evalBin] at hr; done) | skip
  simp only [evalBin, Option.some.injEq] at hr; subst hr
  simp only [VR] at hx hy
  exact Outc.here hS (bin_and hx hy) rfl trivial
theorem sim_bin_or {op : BinOp} {t ty' : TypeId} {x y : Operand} {u v r : CV} (hb : boOf op .or = true) (hr : evalBin .or u v = some r) (hx : VR ρ H u (a.eval x)) (hy : VR ρ H v (a.eval y)) (hS : Sim w0 ρ H w) :
    Outc w0 ρ H (.c r) H ((execOp a.eval ⟨d, .binOp op t x y ty', ty, pos, aft, gd⟩).run P w) := by
  have ho : op = .or := by cases op <;> first | rfl | (simp [boOf] at hb)
  subst ho
  cases u <;> cases v <;> first | (simp [evalBin] at hr; done) | skip
  simp only [evalBin, Option.some.injEq] at hr; subst hr
  simp only [VR] at hx hy
  exact Outc.here hS (bin_or hx hy) rfl trivial
theorem sim_bin_xor {op : BinOp} {t ty' : TypeId} {x y : Operand} {u v r : CV} (hb : boOf op .xor = true) (hr : evalBin .xor u v = some r) (hx : VR ρ H u (a.eval x)) (hy : VR ρ H v (a.eval y)) (hS : Sim w0 ρ H w) :
    Outc w0 ρ H (.c r) H ((execOp a.eval ⟨d, .binOp op t x y ty', ty, pos, aft, gd⟩).run P w) := by
  have ho : op = .xor := by cases op <;> first | rfl | (simp [boOf] at hb)
  subst ho
  cases u <;> cases v <;> first | (simp [evalBin] at hr; done) | skip
  simp only [evalBin, Option.some.injEq] at hr; subst hr
  simp only [VR] at hx hy
  exact Outc.here hS (bin_xor hx hy) rfl trivial
theorem sim_bin_lt {op : BinOp} {t ty' : TypeId} {x y : Operand} {u v r : CV} (hb : boOf op .lt = true) (hr : evalBin .lt u v = some r) (hx : VR ρ H u (a.eval x)) (hy : VR ρ H v (a.eval y)) (hS : Sim w0 ρ H w) :
    Outc w0 ρ H (.c r) H ((execOp a.eval ⟨d, .binOp op t x y ty', ty, pos, aft, gd⟩).run P w) := by
  have ho : op = .lss := by cases op <;> first | rfl | (simp [boOf] at hb)
  subst ho
  cases u <;> cases v <;> first | (simp [evalBin] at hr; done) | skip
  simp only [evalBin, Option.some.injEq] at hr; subst hr
  simp only [VR] at hx hy
  exact Outc.here hS (bin_lt hx hy) rfl trivial
theorem sim_bin_le {op : BinOp} {t ty' : TypeId} {x y : Operand} {u v r : CV} (hb : boOf op .le = true) (hr : evalBin .le u v = some r) (hx : VR ρ H u (a.eval x)) (hy : VR ρ H v (a.eval y)) (hS : Sim w0 ρ H w) :
    Outc w0 ρ H (.c r) H ((execOp a.eval ⟨d, .binOp op t x y ty', ty, pos, aft, gd⟩).run P w) := by
  have ho : op = .leq := by cases op <;> first | rfl | (simp [boOf] at hb)
  subst ho
  cases u <;> cases v <;> first | (simp [evalBin] at hr; done) | skip
  simp only [evalBin, Option.some.injEq] at hr; subst hr
  simp only [VR] at hx hy
  exact Outc.here hS (bin_le hx hy) rfl trivial
theorem sim_bin_gt {op : BinOp} {t ty' : TypeId} {x y : Operand} {u v r : CV} (hb : boOf op .gt = true) (hr : evalBin .gt u v = some r) (hx : VR ρ H u (a.eval x)) (hy : VR ρ H v (a.eval y)) (hS : Sim w0 ρ H w) :
    Outc w0 ρ H (.c r) H ((execOp a.eval ⟨d, .binOp op t x y ty', ty, pos, aft, gd⟩).run P w) := by
  have ho : op = .gtr := by cases op <;> first | rfl | (simp [boOf] at hb)
  subst ho
  cases u <;> cases v <;> first | (simp [evalBin] at hr; done) | skip
  simp only [evalBin, Option.some.injEq] at hr; subst hr
  simp only [VR] at hx hy
  exact Outc.here hS (bin_gt hx hy) rfl trivial
theorem sim_bin_ge {op : BinOp} {t ty' : TypeId} {x y : Operand} {u v r : CV} (hb : boOf op .ge = true) (hr : evalBin .ge u v = some r) (hx : VR ρ H u (a.eval x)) (hy : VR ρ H v (a.eval y)) (hS : Sim w0 ρ H w) :
    Outc w0 ρ H (.c r) H ((execOp a.eval ⟨d, .binOp op t x y ty', ty, pos, aft, gd⟩).run P w) := by
  have ho : op = .geq := by cases op <;> first | rfl | (simp [boOf] at hb)
  subst ho
  cases u <;> cases v <;> first | (simp [evalBin] at hr; done) | skip
  simp only [evalBin, Option.some.injEq] at hr; subst hr
  simp only [VR] at hx hy
  exact Outc.here hS (bin_ge hx hy) rfl trivial
theorem sim_bin_eq {op : BinOp} {t ty' : TypeId} {x y : Operand} {u v r : CV} (hb : boOf op .eq = true) (hr : evalBin .eq u v = some r) (hx : VR ρ H u (a.eval x)) (hy : VR ρ H v (a.eval y)) (hS : Sim w0 ρ H w) :
    Outc w0 ρ H (.c r) H ((execOp a.eval ⟨d, .binOp op t x y ty', ty, pos, aft, gd⟩).run P w) := by
  have ho : op = .eql := by cases op <;> first | rfl | (simp [boOf] at hb)
  subst ho
  cases u <;> cases v <;> first | (simp [evalBin] at hr; done) | skip
  all_goals (simp only [evalBin, Option.some.injEq] at hr; subst hr)
  all_goals simp only [VR] at hx hy
  · exact Outc.here hS (bin_eq hx hy) rfl trivial
  · exact Outc.here hS (bin_yeq hx hy) rfl trivial
  · exact Outc.here hS (bin_seq hx hy) rfl trivial
theorem sim_bin_ne {op : BinOp} {t ty' : TypeId} {x y : Operand} {u v r : CV} (hb : boOf op .ne = true) (hr : evalBin .ne u v = some r) (hx : VR ρ H u (a.eval x)) (hy : VR ρ H v (a.eval y)) (hS : Sim w0 ρ H w) :
    Outc w0 ρ H (.c r) H ((execOp a.eval ⟨d, .binOp op t x y ty', ty, pos, aft, gd⟩).run P w) := by
  have ho : op = .neq := by cases op <;> first | rfl | (simp [boOf] at hb)
  subst ho
  cases u <;> cases v <;> first | (simp [evalBin] at hr; done) | skip
  all_goals (simp only [evalBin, Option.some.injEq] at hr; subst hr)
  all_goals simp only [VR] at hx hy
  · exact Outc.here hS (bin_ne hx hy) rfl trivial
  · exact Outc.here hS (bin_yne hx hy) rfl trivial
  · exact Outc.here hS (bin_sne hx hy) rfl trivial
theorem sim_bin_quo {op : BinOp} {t ty' : TypeId} {x y : Operand} {u v r : CV} (hb : boOf op .quo = true) (hr : evalBin .quo u v = some r) (hx : VR ρ H u (a.eval x)) (hy : VR ρ H v (a.eval y)) (hS : Sim w0 ρ H w) :
    Outc w0 ρ H (.c r) H ((execOp a.eval ⟨d, .binOp op t x y ty', ty, pos, aft, gd⟩).run P w) := by
  have ho : op = .quo := by cases op <;> first | rfl | (simp [boOf] at hb)
  subst ho
  cases u <;> cases v <;> first | (simp [evalBin] at hr; done) | skip
  simp only [evalBin] at hr
  split at hr
  · cases hr
  · rename_i h0
    injection hr with hr; subst hr
    simp only [VR] at hx hy
    exact Outc.here hS (bin_quo hx hy h0) rfl trivial
theorem sim_bin_rem {op : BinOp} {t ty' : TypeId} {x y : Operand} {u v r : CV} (hb : boOf op .rem = true) (hr : evalBin .rem u v = some r) (hx : VR ρ H u (a.eval x)) (hy : VR ρ H v (a.eval y)) (hS : Sim w0 ρ H w) :
    Outc w0 ρ H (.c r) H ((execOp a.eval ⟨d, .binOp op t x y ty', ty, pos, aft, gd⟩).run P w) := by
  have ho : op = .rem := by cases op <;> first | rfl | (simp [boOf] at hb)
  subst ho
  cases u <;> cases v <;> first | (simp [evalBin] at hr; done) | skip
  simp only [evalBin] at hr
  split at hr
  · cases hr
  · rename_i h0
    injection hr with hr; subst hr
    simp only [VR] at hx hy
    exact Outc.here hS (bin_rem hx hy h0) rfl trivial
theorem sim_bin_shl {op : BinOp} {t ty' : TypeId} {x y : Operand} {u v r : CV} (hb : boOf op .shl = true) (hr : evalBin .shl u v = some r) (hx : VR ρ H u (a.eval x)) (hy : VR ρ H v (a.eval y)) (hS : Sim w0 ρ H w) :
    Outc w0 ρ H (.c r) H ((execOp a.eval ⟨d, .binOp op t x y ty', ty, pos, aft, gd⟩).run P w) := by
  have ho : op = .shl := by cases op <;> first | rfl | (simp [boOf] at hb)
  subst ho
  cases u <;> cases v <;> first | (simp [evalBin] at hr; done) | skip
  simp only [evalBin] at hr
  split at hr
  · rename_i h0
    injection hr with hr; subst hr
    simp only [VR] at hx hy
    exact Outc.here hS (bin_shl hx hy h0) rfl trivial
  · cases hr
theorem sim_bin_shr {op : BinOp} {t ty' : TypeId} {x y : Operand} {u v r : CV} (hb : boOf op .shr = true) (hr : evalBin .shr u v = some r) (hx : VR ρ H u (a.eval x)) (hy : VR ρ H v (a.eval y)) (hS : Sim w0 ρ H w) :
    Outc w0 ρ H (.c r) H ((execOp a.eval ⟨d, .binOp op t x y ty', ty, pos, aft, gd⟩).run P w) := by
  have ho : op = .shr := by cases op <;> first | rfl | (simp [boOf] at hb)
  subst ho
  cases u <;> cases v <;> first | (simp [evalBin] at hr; done) | skip
  simp only [evalBin] at hr
  split at hr
  · rename_i h0
    injection hr with hr; subst hr
    simp only [VR] at hx hy
    exact Outc.here hS (bin_shr hx hy h0) rfl trivial
  · cases hr
theorem sim_bin {op : BinOp} {b : Bo} {t ty' : TypeId} {x y : Operand} {u v r : CV} (hb : boOf op b = true) (hr : evalBin b u v = some r) (hx : VR ρ H u (a.eval x)) (hy : VR ρ H v (a.eval y)) (hS : Sim w0 ρ H w) :
    Outc w0 ρ H (.c r) H ((execOp a.eval ⟨d, .binOp op t x y ty', ty, pos, aft, gd⟩).run P w) := by
  cases b with
  | add => exact sim_bin_add hb hr hx hy hS
  | sub => exact sim_bin_sub hb hr hx hy hS
  | mul => exact sim_bin_mul hb hr hx hy hS
  | quo => exact sim_bin_quo hb hr hx hy hS
  | rem => exact sim_bin_rem hb hr hx hy hS
  | and => exact sim_bin_and hb hr hx hy hS
  | or => exact sim_bin_or hb hr hx hy hS
  | xor => exact sim_bin_xor hb hr hx hy hS
  | shl => exact sim_bin_shl hb hr hx hy hS
  | shr => exact sim_bin_shr hb hr hx hy hS
  | eq => exact sim_bin_eq hb hr hx hy hS
  | ne => exact sim_bin_ne hb hr hx hy hS
  | lt => exact sim_bin_lt hb hr hx hy hS
  | le => exact sim_bin_le hb hr hx hy hS
  | gt => exact sim_bin_gt hb hr hx hy hS
  | ge => exact sim_bin_ge hb hr hx hy hS
theorem sim_not {t : TypeId} {x : Operand} {v : Bool} (hx : VR ρ H (.b v) (a.eval x)) (hS : Sim w0 ρ H w) :
    Outc w0 ρ H (.c (.b (!v))) H ((execOp a.eval ⟨d, .unOp .not t x, ty, pos, aft, gd⟩).run P w) := by
  simp only [VR] at hx
  exact Outc.here hS (v := .bool (!v)) (by simp [execOp, hx, Op.unary]) rfl trivial
theorem sim_eqb {op : BinOp} {neg : Bool} {t ty' : TypeId} {x y : Operand} {u v : Bool} (hn : negOf op neg = true) (hu : P.underlying t = some .bool) (hx : VR ρ H (.b u) (a.eval x)) (hy : VR ρ H (.b v) (a.eval y)) (hS : Sim w0 ρ H w) :
    Outc w0 ρ H (.c (.b ((u == v) != neg))) H ((execOp a.eval ⟨d, .binOp op t x y ty', ty, pos, aft, gd⟩).run P w) := by
  simp only [VR] at hx hy
  unfold negOf at hn
  split at hn
  · exact Outc.here hS (v := .bool (u == v)) (by simp [execOp, hx, hy, eqGuard, run_eql_bool _ t u v hu]) (by simp [IR, VR]) trivial
  · exact Outc.here hS (v := .bool (!(u == v))) (by simp [execOp, hx, hy, eqGuard, run_neq_bool _ t u v hu]) (by simp [IR, VR]) trivial
  · cases hn
theorem eqn_in (d : Nat) (t el : TypeId) (ad : Option Addr) (n c : Nat) (hu : P.underlying t = some (.slice el)) :
    (Op.equalIn (d + 1) t (.slice ad n c) (.slice none 0 0)).run P w = .ok ad.isNone w := by
  cases ad <;> simp [Op.equalIn, run_underlying hu]
theorem eqn_eql (t el : TypeId) (ad : Option Addr) (n c : Nat) (hu : P.underlying t = some (.slice el)) :
    (binOp .eql t (.slice ad n c) (.slice none 0 0)).run P w = .ok (.bool ad.isNone) w := by
  simp only [binOp]
  simp [Op.equal, Op.maxDepth, eqn_in 9999 t el ad n c hu]
theorem eqn_neq (t el : TypeId) (ad : Option Addr) (n c : Nat) (hu : P.underlying t = some (.slice el)) :
    (binOp .neq t (.slice ad n c) (.slice none 0 0)).run P w = .ok (.bool (!ad.isNone)) w := by
  simp only [binOp]
  simp [Op.equal, Op.maxDepth, eqn_in 9999 t el ad n c hu]
theorem sim_eqn_nil {op : BinOp} {neg : Bool} {t ty' el : TypeId} {x y : Operand} (hn : negOf op neg = true) (hu : P.underlying t = some (.slice el)) (hx : VR ρ H .ns (a.eval x)) (hy : a.eval y = .slice none 0 0) (hS : Sim w0 ρ H w) :
    Outc w0 ρ H (.c (.b (!neg))) H ((execOp a.eval ⟨d, .binOp op t x y ty', ty, pos, aft, gd⟩).run P w) := by
  simp only [VR] at hx
  unfold negOf at hn
  split at hn
  · exact Outc.here hS (v := .bool true) (by simp [execOp, hx, hy, eqGuard, eqn_eql t el none 0 0 hu]) (by simp [IR, VR]) trivial
  · exact Outc.here hS (v := .bool false) (by simp [execOp, hx, hy, eqGuard, eqn_neq t el none 0 0 hu]) (by simp [IR, VR]) trivial
  · cases hn
theorem sim_eqn_sl {op : BinOp} {neg : Bool} {t ty' el : TypeId} {x y : Operand} {id g off len : Nat} (hn : negOf op neg = true) (hu : P.underlying t = some (.slice el)) (hx : VR ρ H (.sl id g off len) (a.eval x)) (hy : a.eval y = .slice none 0 0) (hS : Sim w0 ρ H w) :
    Outc w0 ρ H (.c (.b neg)) H ((execOp a.eval ⟨d, .binOp op t x y ty', ty, pos, aft, gd⟩).run P w) := by
  obtain ⟨ad, c, hx, _⟩ := hx
  unfold negOf at hn
  split at hn
  · exact Outc.here hS (v := .bool false) (by simp [execOp, hx, hy, eqGuard, eqn_eql t el (some ad) len c hu]) (by simp [IR, VR]) trivial
  · exact Outc.here hS (v := .bool true) (by simp [execOp, hx, hy, eqGuard, eqn_neq t el (some ad) len c hu]) (by simp [IR, VR]) trivial
  · cases hn
theorem sim_fad {t : TypeId} {k o n : Nat} {x : Operand} {id g off : Nat} (hf : fieldOf P t k = some (o, n)) (hn : 0 < n) (hx : VR ρ H (.p id g off) (a.eval x)) (hw : wfC H (.p id g off)) (hS : Sim w0 ρ H w) :
    Outc w0 ρ H (.c (.p id g (off + o))) H ((execOp a.eval ⟨d, .fieldAddr t x k, ty, pos, aft, gd⟩).run P w) := by
  obtain ⟨ad, hx, ha⟩ := hx
  unfold fieldOf at hf
  split at hf
  · rename_i fs hu
    cases hk : fs[k]? with
    | none => rw [hk] at hf; cases hf
    | some f =>
      rw [hk] at hf
      simp only [Option.bind_some] at hf
      cases hs : szOf P f.type with
      | none => rw [hs] at hf; cases hf
      | some m =>
        rw [hs] at hf
        simp only [Option.map_some, Option.some.injEq, Prod.mk.injEq] at hf
        obtain ⟨rfl, rfl⟩ := hf
        obtain ⟨i, hi1, hi2⟩ := szOf_R hs
        refine Outc.here hS (v := .pointer (some (ad.add f.offset))) ?_ ⟨_, rfl, fun o' ho hg => ?_⟩ hw
        · have : ¬ (i.size = 0) := by omega
          simp [execOp, Instr.fieldAt, run_underlying hu, hk, hx, Instr.sureAddr, fieldPlace, sizeOf, typeInfo, hi1, this]
        · rw [ha o' ho hg, Addr.add_add]
  · cases hf
theorem sim_idx {t el : TypeId} {sz : Nat} {x y : Operand} {id g off len : Nat} {k : Int} (he : elOf P t = some el) (hs : szOf P el = some sz) (hx : VR ρ H (.sl id g off len) (a.eval x)) (hy : VR ρ H (.i k) (a.eval y)) (h0 : 0 ≤ k) (h1 : k < len)
    (hw : wfC H (.sl id g off len)) (hS : Sim w0 ρ H w) :
    Outc w0 ρ H (.c (.p id g (off + k.toNat * sz))) H ((execOp a.eval ⟨d, .indexAddr t x y, ty, pos, aft, gd⟩).run P w) := by
  obtain ⟨ad, c, hx, hlc, hm, ha⟩ := hx
  simp only [VR] at hy
  obtain ⟨i, hi1, hi2⟩ := szOf_R hs
  refine Outc.here hS (v := .pointer (some (ad.add (k.toNat * sz)))) ?_ ⟨_, rfl, fun o' ho hg => ?_⟩ hw
  · simp [execOp, Instr.indexAt, asIntOf, hx, hy, run_underlying (elOf_R he), h0, h1, sizeOf, typeInfo, hi1, hi2]
  · obtain ⟨h2, _⟩ := ha o' ho hg
    rcases h2 with h2 | h2
    · omega
    · rw [h2, Addr.add_add]
theorem sim_len {t : TypeId} {x : Operand} {u : CV} {n : Int} (hu : (∃ el, P.underlying t = some (.slice el)) ∨ P.underlying t = some .string)
    (hn : (∃ id g off len, u = .sl id g off len ∧ n = len ∧ ∃ el, P.underlying t = some (.slice el)) ∨ (u = .ns ∧ n = 0 ∧ ∃ el, P.underlying t = some (.slice el)) ∨ ∃ s, u = .s s ∧ n = s.size ∧ P.underlying t = some .string) (hx : VR ρ H u (a.eval x)) (hS : Sim w0 ρ H w) :
    Outc w0 ρ H (.c (.i n)) H ((execOp a.eval ⟨d, .call ⟨.builtin .len, #[x], #[t]⟩, ty, pos, aft, gd⟩).run P w) := by
  rcases hn with ⟨id, g, off, len, rfl, rfl, el, hu⟩ | ⟨rfl, rfl, el, hu⟩ | ⟨s, rfl, rfl, hu⟩
  · obtain ⟨ad, c, hx, _⟩ := hx
    exact Outc.here hS (v := .int .i64 len) (by simp [execOp, resolve, invoke, builtin, Builtin.len_, hx, run_underlying hu, goInt]) rfl trivial
  · simp only [VR] at hx
    exact Outc.here hS (v := .int .i64 0) (by simp [execOp, resolve, invoke, builtin, Builtin.len_, hx, run_underlying hu, goInt]) rfl trivial
  · simp only [VR] at hx
    exact Outc.here hS (v := .int .i64 s.size) (by simp [execOp, resolve, invoke, builtin, Builtin.len_, hx, run_underlying hu, goInt]) rfl trivial
theorem sim_mn {x y : Operand} {ts : Array TypeId} {u v : Int} (hx : VR ρ H (.i u) (a.eval x)) (hy : VR ρ H (.i v) (a.eval y)) (hS : Sim w0 ρ H w) :
    Outc w0 ρ H (.c (.i (if v < u then v else u))) H ((execOp a.eval ⟨d, .call ⟨.builtin .min, #[x, y], ts⟩, ty, pos, aft, gd⟩).run P w) := by
  simp only [VR] at hx hy
  exact Outc.here hS (v := .int .i64 (if v < u then v else u)) (by simp [execOp, resolve, invoke, builtin, run_min_int2, hx, hy]) rfl trivial
theorem sim_mx {x y : Operand} {ts : Array TypeId} {u v : Int} (hx : VR ρ H (.i u) (a.eval x)) (hy : VR ρ H (.i v) (a.eval y)) (hS : Sim w0 ρ H w) :
    Outc w0 ρ H (.c (.i (if u < v then v else u))) H ((execOp a.eval ⟨d, .call ⟨.builtin .max, #[x, y], ts⟩, ty, pos, aft, gd⟩).run P w) := by
  simp only [VR] at hx hy
  exact Outc.here hS (v := .int .i64 (if u < v then v else u)) (by simp [execOp, resolve, invoke, builtin, run_max_int2, hx, hy]) rfl trivial
theorem sim_b2i {t t' : TypeId} {x : Operand} {n : Int} (hs : (P.underlying t).isSome = true) (hd : P.underlying t' = some (.int .i64)) (hx : VR ρ H (.y n) (a.eval x)) (hS : Sim w0 ρ H w) :
    Outc w0 ρ H (.c (.i (wrap64 n))) H ((execOp a.eval ⟨d, .convert t t' x, ty, pos, aft, gd⟩).run P w) := by
  simp only [VR] at hx
  obtain ⟨td, ht⟩ := Option.isSome_iff_exists.1 hs
  exact Outc.here hS (v := .int .i64 (wrap64 n)) (by simp [execOp, convert, run_underlying ht, run_underlying hd, hx, Conv.intToInt, wrap64_eq]) rfl trivial
theorem sim_ext {x : Operand} {k : Nat} {ts : List (Bool × List CV)} {t : Bool × List CV} {v : IV} (hx : IR ρ H (.tup ts) (a.eval x)) (hw : wfI H (.tup ts)) (ht : ts[k]? = some t) (hv : ivOf t = some v) (hS : Sim w0 ρ H w) :
    Outc w0 ρ H v H ((execOp a.eval ⟨d, .extract x k, ty, pos, aft, gd⟩).run P w) := by
  obtain ⟨vs, hx, hr⟩ := hx
  obtain ⟨z, hz, hzr⟩ := hr.at_ ht
  refine Outc.here hS (v := z) (by simp [execOp, Instr.extract, hx, hz]) ?_ ?_
  · obtain ⟨b, cs⟩ := t
    cases b with
    | true => simp only [ivOf, Option.some.injEq] at hv; subst hv; exact hzr
    | false =>
      match cs, hv, hzr with
      | [c], hv, hzr => simp only [ivOf, Option.some.injEq] at hv; subst hv; exact hzr
  · have h2 := hw t (List.mem_of_getElem? ht)
    obtain ⟨b, cs⟩ := t
    cases b with
    | true => simp only [ivOf, Option.some.injEq] at hv; subst hv; exact h2
    | false =>
      match cs, hv, h2 with
      | [c], hv, h2 => simp only [ivOf, Option.some.injEq] at hv; subst hv; exact h2 c (by simp)
theorem capsOf_R : ∀ {ys : List Od} {xs : List Operand} {vs : List CV}, EnvR ρ H e a → wfE H e → chkOds ys xs = true → capsOf e ys = some vs → RL (VR ρ H) vs (xs.map a.eval) ∧ ∀ c ∈ vs, wfC H c := by
  intro ys
  induction ys with
  | nil =>
    intro xs vs hE hw h hc
    cases xs with
    | nil => simp only [capsOf, Option.some.injEq] at hc; subst hc; exact ⟨RL.nil _, by simp⟩
    | cons v r => simp [chkOds] at h
  | cons y ys ih =>
    intro xs vs hE hw h hc
    cases xs with
    | nil => simp [chkOds] at h
    | cons x xs =>
      simp only [chkOds, Bool.and_eq_true] at h
      obtain ⟨h1, h2⟩ := chkOd_IR hE hw h.1
      simp only [capsOf] at hc
      split at hc
      · rename_i c hy
        obtain ⟨us, hus, hc⟩ := Option.bind_eq_some_iff.1 hc
        injection hc with hc; subst hc
        obtain ⟨h3, h4⟩ := ih hE hw h.2 hus
        rw [hy] at h1 h2
        exact ⟨RL.cons h1 h3, by intro z hz; rcases List.mem_cons.1 hz with rfl | hz <;> first | exact h2 | exact h4 z hz⟩
      · cases hc
theorem sim_mkf {f : FuncId} {first caps : Array Operand} {ys : List Od} {vs : List CV} (hE : EnvR ρ H e a) (hw : wfE H e) (hf : first.isEmpty = true) (hc : chkOds ys caps.toList = true) (hv : capsOf e ys = some vs) (hS : Sim w0 ρ H w) :
    Outc w0 ρ H (.f f vs) H ((execOp a.eval ⟨d, .makeFunc (.func f) first caps, ty, pos, aft, gd⟩).run P w) := by
  obtain ⟨h1, h2⟩ := capsOf_R hE hw hc hv
  have hf' : first = #[] := by simpa using hf
  subst hf'
  refine Outc.here hS (v := .func (.func f) #[] (caps.map a.eval)) (by simp [execOp, Instr.makeFunc]) ⟨caps.toList.map a.eval, ?_, h1⟩ h2
  congr 1
  apply Array.ext'; simp
end
end Go.Proofs.YtgdfgnppeekfjaaGreat.Vm
