/- Each operation of the ideal machine, but for calls, is followed by the model's. No conditions. -/
import Derived.Test.YtgdfgnppeekfjaaGreatVmC
namespace Go.Proofs.YtgdfgnppeekfjaaGreat.Vm
open Go.RowKit (wrap64 Below)
set_option linter.unusedSimpArgs false
set_option linter.unusedVariables false
def EnvR (ρ : Rho) (H : Hp) (e : Env) (a : Act) : Prop := ∀ n, IR ρ H (Env.get e n) (a.tmps.getD n undef)
def wfE (H : Hp) (e : Env) : Prop := ∀ n, wfI H (Env.get e n)
theorem chkCV_VR (ρ : Rho) (H : Hp) {c : CV} {v : Value} (h : chkCV c v = true) : CR ρ H c v ∧ wfC H c ∧ c ≠ .non := by
  unfold chkCV at h
  split at h
  all_goals first
    | cases h; done
    | (simp only [decide_eq_true_eq, beq_iff_eq] at h; subst h; exact ⟨⟨rfl, rfl⟩, trivial, by simp⟩)
    | exact ⟨⟨rfl, rfl⟩, trivial, by simp⟩
theorem chkCVs_RL (ρ : Rho) (H : Hp) : ∀ {cs : List CV} {vs : List Value}, chkCVs cs vs = true → RL (CR ρ H) cs vs ∧ ∀ c ∈ cs, wfC H c := by
  intro cs
  induction cs with
  | nil =>
    intro vs h
    cases vs with
    | nil => exact ⟨RL.nil _, by simp⟩
    | cons v vs => simp [chkCVs] at h
  | cons c cs ih =>
    intro vs h
    cases vs with
    | nil => simp [chkCVs] at h
    | cons v vs =>
      simp only [chkCVs, Bool.and_eq_true] at h
      obtain ⟨h1, h2, _⟩ := chkCV_VR ρ H h.1
      obtain ⟨h3, h4⟩ := ih h.2
      exact ⟨RL.cons h1 h3, by intro x hx; rcases List.mem_cons.1 hx with rfl | hx <;> first | exact h2 | exact h4 x hx⟩
theorem chkOd_IR {ρ : Rho} {H : Hp} {e : Env} {a : Act} (hE : EnvR ρ H e a) (hw : wfE H e) {y : Od} {x : Operand} (h : chkOd y x = true) : IR ρ H (y.get e) (a.eval x) ∧ wfI H (y.get e) := by
  unfold chkOd at h
  split at h
  · simp only [beq_iff_eq] at h; subst h; exact ⟨hE _, hw _⟩
  · obtain ⟨h1, h2, _⟩ := chkCV_VR ρ H h; exact ⟨h1.1, h2⟩
  · simp only [beq_iff_eq] at h; subst h; exact ⟨⟨[], rfl, RL.nil _⟩, by intro c hc; simp at hc⟩
  · cases h
theorem chkOds_RL {ρ : Rho} {H : Hp} {e : Env} {a : Act} (hE : EnvR ρ H e a) (hw : wfE H e) : ∀ {ys : List Od} {xs : List Operand}, chkOds ys xs = true →
    RL (IR ρ H) (ys.map (Od.get e)) (xs.map a.eval) ∧ ∀ v ∈ ys.map (Od.get e), wfI H v := by
  intro ys
  induction ys with
  | nil =>
    intro xs h
    cases xs with
    | nil => exact ⟨RL.nil _, by simp⟩
    | cons v vs => simp [chkOds] at h
  | cons c cs ih =>
    intro xs h
    cases xs with
    | nil => simp [chkOds] at h
    | cons v vs =>
      simp only [chkOds, Bool.and_eq_true] at h
      obtain ⟨h1, h2⟩ := chkOd_IR hE hw h.1
      obtain ⟨h3, h4⟩ := ih h.2
      exact ⟨RL.cons h1 h3, by intro x hx; rcases List.mem_cons.1 hx with rfl | hx <;> first | exact h2 | exact h4 x hx⟩
theorem VR.one {ρ : Rho} {H : Hp} {c : CV} {v : Value} (h : VR ρ H c v) (hu : c ≠ .non) (hu2 : c ≠ .und) : v.oneCell' = true := by
  cases c with
  | non => exact (hu rfl).elim
  | und => exact (hu2 rfl).elim
  | p id g off => obtain ⟨x, rfl, _⟩ := h; rfl
  | sl id g off len => obtain ⟨x, c, rfl, _⟩ := h; rfl
  | i n => subst h; rfl
  | y n => subst h; rfl
  | b n => subst h; rfl
  | s n => subst h; rfl
  | np => subst h; rfl
  | ns => subst h; rfl
theorem oneCell_cells {v : Value} (h : v.oneCell' = true) : v.cells = #[v] := by
  cases v <;> first | rfl | (simp [Value.oneCell'] at h)
theorem cellsOf_R {ρ : Rho} {H : Hp} {x : IV} {v : Value} {cs : List CV} (hc : cellsOf x = some cs) (h : IR ρ H x v) (hw : wfI H x) :
    RL (CR ρ H) cs v.cells.toList ∧ ∀ c ∈ cs, wfC H c := by
  unfold cellsOf at hc
  split at hc
  · cases hc
  · cases hc
  · rename_i c hu hu2
    injection hc with hc; subst hc
    have h1 : v.oneCell' = true := VR.one h (fun e => hu (by rw [e])) (fun e => hu2 (by rw [e]))
    rw [oneCell_cells h1]
    exact ⟨RL.cons ⟨h, h1⟩ (RL.nil _), by intro y hy; simp at hy; subst hy; exact hw⟩
  · injection hc with hc; subst hc
    obtain ⟨vs, rfl, h2⟩ := h
    exact ⟨h2, hw⟩
  · cases hc
def Outc (w0 : World) (ρ : Rho) (H : Hp) (iv : IV) (H' : Hp) (r : Result Next) : Prop :=
  ∃ ρ' w', ((∃ v, r = .ok (.value v) w' ∧ IR ρ' H' iv v) ∨ (r = .ok .skip w' ∧ iv = .c .non)) ∧ wfI H' iv ∧ Sim w0 ρ' H' w' ∧ Ext ρ H ρ' H'
theorem Outc.here {w0 : World} {ρ : Rho} {H : Hp} {w : World} {iv : IV} {r : Result Next} (hS : Sim w0 ρ H w) {v : Value} (hr : r = .ok (.value v) w) (hi : IR ρ H iv v) (hw : wfI H iv) : Outc w0 ρ H iv H r :=
  ⟨ρ, w, .inl ⟨v, hr, hi⟩, hw, hS, Ext.refl _ _⟩
section
variable {P : Program} {w0 : World} {ρ : Rho} {H : Hp} {w : World} {e : Env} {a : Act} {ty : TypeId} {d : Option Tmp} {pos : String} {aft : Array Edge} {gd : Option (Nat × Bool)}
theorem zeroIs_R (ρ : Rho) (H : Hp) {t : TypeId} {zs : List CV} (h : zeroIs P t zs = true) :
    ∃ i z, P.info? t = some i ∧ i.zero = some z ∧ RL (CR ρ H) zs z.cells.toList ∧ ∀ c ∈ zs, wfC H c := by
  unfold zeroIs zeroOf at h
  split at h
  · rename_i vs hv
    cases hi : P.info? t with
    | none => rw [hi] at hv; cases hv
    | some i =>
      rw [hi] at hv
      simp only [Option.bind_some] at hv
      cases hz : i.zero with
      | none => rw [hz] at hv; cases hv
      | some z =>
        rw [hz] at hv
        simp only [Option.map_some, Option.some.injEq] at hv
        subst hv
        obtain ⟨h1, h2⟩ := chkCVs_RL ρ H h
        exact ⟨i, z, rfl, hz, h1, h2⟩
  · cases h
theorem elOf_R {t e : TypeId} (h : elOf P t = some e) : P.underlying t = some (.slice e) := by
  unfold elOf at h
  split at h
  · rename_i x hx; injection h with h; subst h; exact hx
  · cases h
theorem szOf_R {t : TypeId} {n : Nat} (h : szOf P t = some n) : ∃ i, P.info? t = some i ∧ i.size = n := by
  unfold szOf at h
  cases hi : P.info? t with
  | none => rw [hi] at h; cases h
  | some i => rw [hi] at h; exact ⟨i, rfl, by simpa using h⟩
theorem sim_alloc {t : TypeId} {zs : List CV} (hc : zeroIs P t zs = true) (hS : Sim w0 ρ H w) :
    Outc w0 ρ H (.c (.p H.length 0 0)) (fresh H zs true zs.length) ((execOp a.eval ⟨d, .alloc t, ty, pos, aft, gd⟩).run P w) := by
  obtain ⟨i, z, h1, h2, h3, h4⟩ := zeroIs_R ρ H hc
  refine ⟨_, _, .inl ⟨.pointer (some ⟨w.heap.size, 0, none⟩), ?_, ?_⟩, ?_, hS.alloc zs zs.length z.cells t (by have := h3.1; simp at this; omega) (fun j c hj => ?_) h4, Ext.push _ _⟩
  · simp [execOp, Instr.alloc, zeroValue, typeInfo, h1, h2, newVar, newRow]
  · exact ⟨_, rfl, fun o ho hg => by unfold setRho; rw [if_pos rfl]; simp [add_own]⟩
  · exact ⟨⟨zs, 0, true, zs.length⟩, by unfold fresh; simp, Nat.le_refl _⟩
  · obtain ⟨v, hv, hr⟩ := h3.at_ hj
    exact ⟨v, by simpa using hv, hr⟩
theorem sim_box {t : TypeId} {x : Operand} {iv : IV} {cs : List CV} (hcs : cellsOf iv = some cs) (hi : IR ρ H iv (a.eval x)) (hw : wfI H iv) (hS : Sim w0 ρ H w) :
    Outc w0 ρ H (.c (.p H.length 0 0)) (fresh H cs true cs.length) ((execOp a.eval ⟨d, .box t x, ty, pos, aft, gd⟩).run P w) := by
  obtain ⟨h3, h4⟩ := cellsOf_R hcs hi hw
  refine ⟨_, _, .inl ⟨.pointer (some ⟨w.heap.size, 0, none⟩), ?_, ?_⟩, ?_, hS.alloc cs cs.length (a.eval x).cells t (by have := h3.1; simp at this; omega) (fun j c hj => ?_) h4, Ext.push _ _⟩
  · simp [execOp, Instr.box, newVar, newRow]
  · exact ⟨_, rfl, fun o ho hg => by unfold setRho; rw [if_pos rfl]; simp [add_own]⟩
  · exact ⟨⟨cs, 0, true, cs.length⟩, by unfold fresh; simp, Nat.le_refl _⟩
  · obtain ⟨v, hv, hr⟩ := h3.at_ hj
    exact ⟨v, by simpa using hv, hr⟩
theorem rdOb_R {id g : Nat} {o : Ob} (h : rdOb H id g = some o) : H[id]? = some o ∧ o.g = g := by
  unfold rdOb at h
  split at h
  · rename_i o' ho
    split at h
    · injection h with h; subst h; exact ⟨ho, by assumption⟩
    · cases h
  · cases h
theorem ld1_R {t : TypeId} {id off : Nat} {o : Ob} {c : CV} (ht : aggOf P t = some false) (h1 : H[id]? = some o) (hc : o.cells[off]? = some c) (hS : Sim w0 ρ H w) :
    ∃ v, (loadVar t ((ρ id).1.add off)).run P w = .ok v w ∧ CR ρ H c v ∧ wfC H c := by
  obtain ⟨v, hv, hr⟩ := hS.cell id o off c h1 hc
  refine ⟨v, ?_, hr, hS.wf id o c h1 (List.mem_of_getElem? hc)⟩
  unfold aggOf at ht
  cases hu : P.underlying t with
  | none => rw [hu] at ht; cases ht
  | some td =>
    rw [hu] at ht
    cases td <;> first | (simp at ht; done) | simp [loadVar, isAgg, run_underlying hu, hv]
theorem ldn_R {t : TypeId} {id off n : Nat} {o : Ob} (ht : aggOf P t = some true) (hn : szOf P t = some n) (h1 : H[id]? = some o) (hc : off + n ≤ o.cells.length) (hS : Sim w0 ρ H w) :
    ∃ vs : List Value, (loadVar t ((ρ id).1.add off)).run P w = .ok (.agg vs.toArray) w ∧ RL (CR ρ H) ((o.cells.drop off).take n) vs ∧ ∀ c ∈ (o.cells.drop off).take n, wfC H c := by
  obtain ⟨i, hi1, hi2⟩ := szOf_R hn
  have hex : ∀ j, ∃ v, j < n → ∃ c, o.cells[off + j]? = some c ∧ w.cell? ((ρ id).1.add (off + j)) = some v ∧ CR ρ H c v := by
    intro j
    by_cases hj : j < n
    · obtain ⟨v, hv, hr⟩ := hS.cell id o (off + j) _ h1 (List.getElem?_eq_getElem (show off + j < o.cells.length by omega))
      exact ⟨v, fun _ => ⟨_, List.getElem?_eq_getElem (by omega), hv, hr⟩⟩
    · exact ⟨undef, fun h => absurd h hj⟩
  obtain ⟨f, hf⟩ := Classical.axiomOfChoice hex
  have hload := run_loadCells (P := P) w ((ρ id).1.add off) n f (fun j hj => by obtain ⟨c, _, hv, _⟩ := hf j hj; rw [Addr.add_add]; exact hv)
  refine ⟨(List.range n).map f, ?_, ⟨by simp; omega, fun j c v hcj hvj => ?_⟩, ?_⟩
  · unfold aggOf at ht
    cases hu : P.underlying t with
    | none => rw [hu] at ht; cases ht
    | some td =>
      rw [hu] at ht
      cases td <;> first | (simp at ht; done) | simp [loadVar, isAgg, run_underlying hu, sizeOf, typeInfo, hi1, hi2, hload]
  · have hj : j < n := by have := (List.getElem?_eq_some_iff.1 hvj).1; simpa using this
    obtain ⟨c', hc', _, hr⟩ := hf j hj
    rw [List.getElem?_take, if_pos hj, List.getElem?_drop, hc'] at hcj
    injection hcj with hcj; subst hcj
    simp [hj] at hvj
    subst hvj
    exact hr
  · intro c hcm
    exact hS.wf id o c h1 (List.mem_of_mem_drop (List.mem_of_mem_take hcm))
theorem sim_ld1 {t : TypeId} {x : Operand} {id g off : Nat} {o : Ob} {c : CV} (ht : aggOf P t = some false) (hi : IR ρ H (.c (.p id g off)) (a.eval x)) (ho : rdOb H id g = some o) (hc : o.cells[off]? = some c) (hS : Sim w0 ρ H w) :
    Outc w0 ρ H (.c c) H ((execOp a.eval ⟨d, .load t x, ty, pos, aft, gd⟩).run P w) := by
  obtain ⟨h1, h2⟩ := rdOb_R ho
  obtain ⟨ad, hx, hadr⟩ := hi
  rw [hadr o h1 h2] at hx
  obtain ⟨v, hl, hr, hw⟩ := ld1_R (P := P) ht h1 hc hS
  exact Outc.here hS (v := v) (by simp [execOp, Instr.loadAt, Instr.sureAddr, hx, hl]) hr.1 hw
theorem sim_ldn {t : TypeId} {x : Operand} {id g off n : Nat} {o : Ob} (ht : aggOf P t = some true) (hn : szOf P t = some n) (hi : IR ρ H (.c (.p id g off)) (a.eval x)) (ho : rdOb H id g = some o) (hc : off + n ≤ o.cells.length) (hS : Sim w0 ρ H w) :
    Outc w0 ρ H (.agg ((o.cells.drop off).take n)) H ((execOp a.eval ⟨d, .load t x, ty, pos, aft, gd⟩).run P w) := by
  obtain ⟨h1, h2⟩ := rdOb_R ho
  obtain ⟨ad, hx, hadr⟩ := hi
  rw [hadr o h1 h2] at hx
  obtain ⟨vs, hl, hr, hw⟩ := ldn_R (P := P) ht hn h1 hc hS
  exact Outc.here hS (v := .agg vs.toArray) (by simp [execOp, Instr.loadAt, Instr.sureAddr, hx, hl]) ⟨vs, rfl, hr⟩ hw
theorem sim_st {t : TypeId} {x y : Operand} {id g off n : Nat} {o : Ob} {iv : IV} {cs : List CV} (hn : szOf P t = some n) (hi : IR ρ H (.c (.p id g off)) (a.eval x)) (ho : rdOb H id g = some o)
    (hcs : cellsOf iv = some cs) (hv : IR ρ H iv (a.eval y)) (hw : wfI H iv) (hrw : o.rw = true) (hl : cs.length = n) (hle : off + n ≤ o.cells.length) (hS : Sim w0 ρ H w) :
    Outc w0 ρ H (.c .non) (H.set id { o with cells := putAt o.cells off cs }) ((execOp a.eval ⟨d, .store t x y, ty, pos, aft, gd⟩).run P w) := by
  obtain ⟨h1, h2⟩ := rdOb_R ho
  obtain ⟨ad, hx, hadr⟩ := hi
  rw [hadr o h1 h2] at hx
  obtain ⟨i, hi1, hi2⟩ := szOf_R hn
  obtain ⟨h3, h4⟩ := cellsOf_R hcs hv hw
  obtain ⟨g', arr, ty', o1, o2, o3, o4, o5⟩ := hS.own id o h1 hrw
  have hlen : (a.eval y).cells.toList.length = n := by rw [← h3.1]; exact hl
  have hone : ∀ v ∈ (a.eval y).cells.toList, v.oneCell' = true := by
    intro v hv'
    obtain ⟨j, hj⟩ := List.getElem?_of_mem hv'
    have hjl : j < cs.length := by have := (List.getElem?_eq_some_iff.1 hj).1; rw [h3.1]; exact this
    exact (h3.2 j _ v (List.getElem?_eq_getElem hjl) hj).2
  have hst := run_storeCells_at P g' off ty' (a.eval y).cells.toList 0 arr w o3 (by omega) hone
  simp only [Nat.add_zero] at hst
  refine ⟨ρ, _, .inr ⟨?_, rfl⟩, trivial, hS.store h1 hrw (by omega) h3 h4 o1 o3, Ext.set_same h1 rfl (putAt_length (by omega)) rfl rfl⟩
  rw [o1, add_own] at hx
  have hsz : (a.eval y).cells.size = n := by simpa using hlen
  simp [execOp, Instr.storeAt, Instr.sureAddr, storeVar, hx, sizeOf, typeInfo, hi1, hi2, hsz, hst]
end
end Go.Proofs.YtgdfgnppeekfjaaGreat.Vm
