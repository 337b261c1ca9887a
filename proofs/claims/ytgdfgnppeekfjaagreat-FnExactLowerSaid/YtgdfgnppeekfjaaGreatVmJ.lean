/- Every region, all code and every call of the ideal machine is followed by the model's. Condition: what is called outside of the code at hand is followed, too. -/
import Derived.Test.YtgdfgnppeekfjaaGreatVmI
import Derived.Test.YtgdfgnppeekfjaaGreatVmK
namespace Go.Proofs.YtgdfgnppeekfjaaGreat.Vm
open Go.RowKit (wrap64 Below)
set_option linter.unusedSimpArgs false
set_option linter.unusedVariables false
section
variable {P : Program} {w0 : World} {ρ : Rho} {H : Hp} {w : World} {e : Env} {a : Act} {K : OrD}
theorem run_callFunc {f : FuncId} {fn : Func} {args : Array Value} (h1 : P.funcs[f]? = some fn) (h2 : fn.body.isNone = false) (h3 : (fn.name == "runtime.NumGoroutine") = false) :
    (callFunc f args).run P w = .ok (.enter f args) w := by
  simp only [callFunc, Sem.run_bind, run_program, Result.andThen_ok, h1, h2, h3]
  simp
/-- The world, the environment and the heap belong together. -/
structure StR (w0 : World) (N : Nat) (ρ : Rho) (st : St) (a : Act) (w : World) : Prop where
  sim : Sim w0 ρ st.h w
  env : EnvR ρ st.h st.e a
  wf : wfE st.h st.e
  size : N ≤ a.tmps.size
  df : a.defers = []
theorem put_size (a : Act) (d : Option Tmp) (v : Value) : (a.put d v).tmps.size = a.tmps.size := by cases d <;> simp [Act.put]
theorem put_df (a : Act) (d : Option Tmp) (v : Value) : (a.put d v).defers = a.defers := by cases d <;> simp [Act.put]
theorem StR.put {N : Nat} {st : St} {w' : World} {ρ' : Rho} {H' : Hp} {d : Option Nat} {iv : IV} {v : Value} (h : StR w0 N ρ st a w) (hd : chkDst N d = true) (hi : IR ρ' H' iv v) (hw : wfI H' iv) (hS : Sim w0 ρ' H' w')
    (hE : Ext ρ st.h ρ' H') : StR w0 N ρ' ⟨setD st.e d iv, H'⟩ (a.put d v) w' := by
  refine ⟨hS, fun n => ?_, fun n => ?_, by rw [put_size]; exact h.size, by rw [put_df]; exact h.df⟩
  · cases d with
    | none => exact (h.env n).ext hE (h.wf n)
    | some k =>
      simp only [chkDst, decide_eq_true_eq] at hd
      have hk : k < a.tmps.size := Nat.lt_of_lt_of_le hd h.size
      simp only [setD, Env.get, Act.put]
      by_cases e : k = n
      · subst e
        simp [hk, hi]
      · rw [if_neg e]
        have : (a.tmps.setIfInBounds k v).getD n undef = a.tmps.getD n undef := by
          simp [Array.getD_eq_getD_getElem?, Array.getElem?_setIfInBounds, e]
        rw [this]
        exact (h.env n).ext hE (h.wf n)
  · cases d with
    | none => exact (h.wf n).ext hE
    | some k =>
      simp only [setD, Env.get]
      split
      · exact hw
      · exact (h.wf n).ext hE
theorem IR_u (ρ : Rho) (H : Hp) (v : Value) : IR ρ H (.c .non) v := trivial
theorem IR_und (ρ : Rho) (H : Hp) : IR ρ H (.c .und) undef := rfl
theorem caps_IR {fid : Nat} {caps : List CV} {v : Value} (h : IR ρ H (.f fid caps) v) : ∃ vs : List Value, v = .func (.func fid) #[] vs.toArray ∧ RL (IR ρ H) (caps.map .c) vs := by
  obtain ⟨vs, h1, h2⟩ := h
  refine ⟨vs, h1, by simp [h2.1], fun j x y hx hy => ?_⟩
  rw [List.getElem?_map] at hx
  cases hc : caps[j]? with
  | none => rw [hc] at hx; cases hx
  | some c => rw [hc] at hx; injection hx with hx; subst hx; exact h2.2 j c y hc hy
def OrdSim (P : Program) (w0 : World) (K : OrD) : Prop :=
  ∀ f args H Q, K f args H Q → (∃ fn, P.funcs[f]? = some fn ∧ fn.body.isNone = false ∧ (fn.name == "runtime.NumGoroutine") = false) ∧
    ∀ ρ w (vs : List Value), Sim w0 ρ H w → RL (IR ρ H) args vs → (∀ v ∈ args, wfI H v) → Calls P f vs.toArray w fun e w' => ∃ r : IV × Hp, Q r ∧ Ret w0 ρ H r.1 r.2 e w'
theorem step_wp {N : Nat} {st : St} {o : Oper} {vop : VOp} {k : IV × Hp → Prop} {next : Act → World → Prop} {Q : Exit → Act → World → Prop} (hK : OrdSim P w0 K) (hR : StR w0 N ρ st a w) (hc : chkOp P o.op vop = true) (hd : chkDst N o.dst = true)
    (hst : stepD K st.e st.h vop k) (hn : ∀ r ρ' a' w', k r → StR w0 N ρ' ⟨setD st.e o.dst r.1, r.2⟩ a' w' → Ext ρ st.h ρ' r.2 → next a' w') : o.wp P a w next Q := by
  obtain ⟨d, op, ty, pos, aft, gd⟩ := o
  have hcall : ∀ (f : FuncId) (args : List IV) (vs : List Value), K f args st.h k → RL (IR ρ st.h) args vs → (∀ v ∈ args, wfI st.h v) →
      (execOp a.eval ⟨d, op, ty, pos, aft, gd⟩).run P w = (callFunc f vs.toArray).run P w → Oper.wp P ⟨d, op, ty, pos, aft, gd⟩ a w next Q := by
    intro f args vs hk hr hw hrun
    obtain ⟨⟨fn, f1, f2, f3⟩, hcalls⟩ := hK f args st.h k hk
    unfold Oper.wp
    rw [hrun, run_callFunc f1 f2 f3, Oper.upon_enter]
    refine (hcalls ρ w vs hR.sim hr hw).mono ?_
    rintro e w' ⟨⟨iv, H'⟩, hq, ρ', v, rfl, h1, h2, h3, h4⟩
    exact hn (iv, H') ρ' _ w' hq (hR.put hd h1 h2 h3 h4) h4
  by_cases h1 : ∃ f as, vop = .call f as
  · obtain ⟨f, as, rfl⟩ := h1
    have hinv : ∃ args ts, op = .call ⟨.value (.func f), args, ts⟩ ∧ chkOds as args.toList = true := by
      unfold chkOp at hc
      split at hc
      all_goals first
        | (cases hc; done)
        | (rename_i heq; cases heq; done)
        | skip
      all_goals
        rename_i heq
        injection heq with e1 e2
        subst e1; subst e2
        simp only [Bool.and_eq_true, beq_iff_eq] at hc
        obtain ⟨rfl, hc⟩ := hc
        first | exact ⟨_, _, rfl, hc⟩ | (rename_i hop; exact ⟨_, _, hop, hc⟩)
    obtain ⟨args, ts, rfl, hcs⟩ := hinv
    simp only [stepD] at hst
    obtain ⟨hr, hw⟩ := chkOds_RL hR.env hR.wf hcs
    refine hcall f _ _ hst hr hw ?_
    simp only [execOp, resolve, Act.eval, Deferred.ofValue, Sem.run_bind, Sem.run_pure, Result.andThen_ok, invoke]
    congr 2
    apply Array.ext'
    simp
  · by_cases h2 : ∃ x as, vop = .clv x as
    · obtain ⟨x, as, rfl⟩ := h2
      have hinv : ∃ y args ts, op = .call ⟨.value y, args, ts⟩ ∧ chkOd x y = true ∧ chkOds as args.toList = true := by
        unfold chkOp at hc
        split at hc
        all_goals first
          | (cases hc; done)
          | (rename_i heq; cases heq; done)
          | skip
        all_goals
          rename_i heq
          injection heq with e1 e2
          subst e1; subst e2
          simp only [Bool.and_eq_true] at hc
          first | exact ⟨_, _, _, rfl, hc⟩ | (rename_i hop; exact ⟨_, _, _, hop, hc⟩)
      obtain ⟨y, args, ts, rfl, hcx, hcs⟩ := hinv
      simp only [stepD] at hst
      obtain ⟨hx, hwx⟩ := chkOd_IR hR.env hR.wf hcx
      split at hst
      · rename_i fid caps hf
        rw [hf] at hx hwx
        obtain ⟨us, hv, hru⟩ := caps_IR hx
        obtain ⟨hr, hw⟩ := chkOds_RL hR.env hR.wf hcs
        refine hcall fid _ _ hst (hr.append hru) (fun v hv' => ?_) ?_
        · rcases List.mem_append.1 hv' with h | h
          · exact hw v h
          · rw [List.mem_map] at h
            obtain ⟨c, hc', rfl⟩ := h
            exact hwx c hc'
        · simp only [execOp, resolve, hv, Deferred.ofValue, Sem.run_bind, Sem.run_pure, Result.andThen_ok, invoke]
          congr 2
          apply Array.ext'
          simp
      · exact hst.elim
    · obtain ⟨⟨iv, H'⟩, hst, hq⟩ : WP (stepV noK st.e st.h vop) k := by
        unfold stepD at hst
        split at hst
        · exact (h1 ⟨_, _, rfl⟩).elim
        · exact (h2 ⟨_, _, rfl⟩).elim
        · exact hst
      have ho := step_out (d := d) (ty := ty) (pos := pos) (aft := aft) (gd := gd) hR.env hR.wf hR.sim hc hst (fun f as e => h1 ⟨f, as, e⟩) (fun x as e => h2 ⟨x, as, e⟩)
      obtain ⟨ρ', w', hor, hwf, hS, hE⟩ := ho
      unfold Oper.wp
      rcases hor with ⟨v, hrun, hi⟩ | ⟨hrun, rfl⟩
      · rw [hrun, Oper.upon_value]
        exact hn (iv, H') ρ' _ w' hq (hR.put hd hi hwf hS hE) hE
      · rw [hrun, Oper.upon_skip]
        exact hn (_, H') ρ' _ w' hq (hR.put hd (IR_u _ _ _) hwf hS hE) hE
theorem yielded_of {ops : Array Oper} {tmps : Array Value} {j s : Nat} {b : Bool} (h : (ops[j]?).bind (·.dst) = some s) (hs : tmps.getD s undef = .bool b) : yielded ops tmps j = some b := by
  have : tmps[s]? = some (.bool b) := by
    rw [Array.getD_eq_getD_getElem?] at hs
    cases ht : tmps[s]? with
    | none => rw [ht] at hs; simp [undef] at hs
    | some v => rw [ht] at hs; simp at hs; rw [hs]
  simp [yielded, h, this]
theorem runOp_wp {N : Nat} {st : St} {ops : Array Oper} {o : Oper} {vo : VO} {k : St → Prop} {next : Act → World → Prop} {Q : Exit → Act → World → Prop} (hK : OrdSim P w0 K) (hR : StR w0 N ρ st a w) (hc : chkVO P N ops.toList o vo = true)
    (hst : runOpD K vo st k) (hn : ∀ st' ρ' a' w', k st' → StR w0 N ρ' st' a' w' → Ext ρ st.h ρ' st'.h → next a' w') :
    if Region.wanted o (yielded ops a.tmps) then o.wp P a w next Q else next (a.put o.dst undef) w := by
  simp only [chkVO, Bool.and_eq_true, decide_eq_true_eq] at hc
  obtain ⟨⟨⟨h1, h2⟩, h3⟩, h4⟩ := hc
  rw [← h2] at h3
  unfold runOpD at hst
  unfold chkGuard at h4
  split at h4
  · rename_i hg hg'
    rw [hg'] at hst
    simp only at hst
    rw [if_pos (by simp [Region.wanted, hg])]
    rw [← h2] at hst
    exact step_wp hK hR h1 h3 hst fun r ρ' a' w' hk hR' hE => hn _ ρ' a' w' hk hR' hE
  · rename_i j wnt s wnt' hg hg'
    simp only [Bool.and_eq_true, beq_iff_eq, decide_eq_true_eq] at h4
    obtain ⟨rfl, h4⟩ := h4
    rw [hg'] at hst
    simp only at hst
    split at hst
    · rename_i b hb
      have hs := hR.env s
      rw [hb] at hs
      simp only [IR, VR] at hs
      have hy : yielded ops a.tmps j = some b := yielded_of (by rw [← h4]; simp) hs
      rw [← h2] at hst
      split at hst
      · rename_i hbw
        rw [if_pos (by simp [Region.wanted, hg, hy, hbw])]
        exact step_wp hK hR h1 h3 hst fun r ρ' a' w' hk hR' hE => hn _ ρ' a' w' hk hR' hE
      · rename_i hbw
        rw [if_neg (by simp [Region.wanted, hg, hy, hbw])]
        exact hn _ ρ _ w hst (hR.put h3 (IR_und _ _) trivial hR.sim (Ext.refl _ _)) (Ext.refl _ _)
    · rename_i hb
      have hs := hR.env s
      rw [hb] at hs
      simp only [IR, VR] at hs
      have hy : yielded ops a.tmps j = none := by
        have hj : (ops[j]?).bind (·.dst) = some s := by rw [← h4]; simp
        unfold yielded
        rw [hj]
        rw [Array.getD_eq_getD_getElem?] at hs
        cases ht : a.tmps[s]? with
        | none => simp [ht]
        | some v => rw [ht] at hs; simp at hs; subst hs; simp [ht, undef]
      rw [← h2] at hst
      rw [if_neg (by simp [Region.wanted, hg, hy])]
      exact hn _ ρ _ w hst (hR.put h3 (IR_und _ _) trivial hR.sim (Ext.refl _ _)) (Ext.refl _ _)
    · exact hst.elim
  · cases h4
theorem runOps_wp {N : Nat} {ops : Array Oper} (hK : OrdSim P w0 K) : ∀ {os : List Oper} {vs : List VO} {st : St} {k : St → Prop} {ρ : Rho} {a : Act} {w : World} {Q : Exit → Act → World → Prop}, StR w0 N ρ st a w → chkOps P N ops.toList os vs = true →
    runOpsD K vs st k → (∀ st' ρ' a' w', k st' → StR w0 N ρ' st' a' w' → Ext ρ st.h ρ' st'.h → Q .normal a' w') → wpList P ops Q os a w := by
  intro os
  induction os with
  | nil =>
    intro vs st k ρ a w Q hR hc hst hq
    cases vs with
    | nil => exact hq st ρ a w hst hR (Ext.refl _ _)
    | cons v vs => simp [chkOps] at hc
  | cons o os ih =>
    intro vs st k ρ a w Q hR hc hst hq
    cases vs with
    | nil => simp [chkOps] at hc
    | cons v vs =>
      simp only [chkOps, Bool.and_eq_true] at hc
      refine wpList_step fun KK hKK => ?_
      refine runOp_wp hK hR hc.1 hst fun st1 ρ1 a1 w1 hs1 hR1 hE1 => hKK _ _ ?_
      exact ih hR1 hc.2 hs1 fun st' ρ' a' w' hk hR' hE' => hq st' ρ' a' w' hk hR' (hE1.trans hE')
theorem chkOps_at {N : Nat} {all : List Oper} : ∀ {os : List Oper} {vs : List VO}, chkOps P N all os vs = true → os.length = vs.length ∧ ∀ (i : Nat) o v, os[i]? = some o → vs[i]? = some v → chkVO P N all o v = true := by
  intro os
  induction os with
  | nil =>
    intro vs h
    cases vs with
    | nil => exact ⟨rfl, fun i o v h => by simp at h⟩
    | cons v vs => simp [chkOps] at h
  | cons o os ih =>
    intro vs h
    cases vs with
    | nil => simp [chkOps] at h
    | cons v vs =>
      simp only [chkOps, Bool.and_eq_true] at h
      obtain ⟨h1, h2⟩ := ih h.2
      refine ⟨by simp [h1], fun i x y hx hy => ?_⟩
      cases i with
      | zero => simp at hx hy; subst hx; subst hy; exact h.1
      | succ i => exact h2 i x y (by simpa using hx) (by simpa using hy)
theorem chkDeps_at : ∀ {os : List Oper} {vs : List VO} {k : Nat}, chkDeps k os vs = true → ∀ (i : Nat) o v, os[i]? = some o → vs[i]? = some v →
    (∀ j ∈ v.dp, ∃ e ∈ o.after, Region.binds .any e = true ∧ e.on = j) ∧ (∀ e ∈ o.after, Region.binds .any e = true → e.on < k + i) := by
  intro os
  induction os with
  | nil => intro vs k h i o v ho; simp at ho
  | cons o os ih =>
    intro vs k h i x y hx hy
    cases vs with
    | nil => simp at hy
    | cons v vs =>
      simp only [chkDeps, Bool.and_eq_true, List.all_eq_true, List.any_eq_true, Bool.or_eq_true, Bool.not_eq_true', beq_iff_eq, decide_eq_true_eq] at h
      obtain ⟨⟨h1, h2⟩, h3⟩ := h
      cases i with
      | zero =>
        simp at hx hy; subst hx; subst hy
        refine ⟨fun j hj => ?_, fun e he hb => ?_⟩
        · obtain ⟨e, he, hb⟩ := h1 j hj
          exact ⟨e, by simpa using he, hb.1, hb.2⟩
        · rcases h2 e (by simpa using he) with h | h
          · rw [hb] at h; cases h
          · simpa using h
      | succ i =>
        obtain ⟨r1, r2⟩ := ih h3 i x y (by simpa using hx) (by simpa using hy)
        exact ⟨r1, fun e he hb => by have := r2 e he hb; omega⟩
theorem ready_sub {ops : Array Oper} {vs : List VO} {listed : Array Bool} (hl : ops.toList.length = vs.length) (hd : chkDeps 0 ops.toList vs = true) {i : Nat} (hi : i ∈ Region.ready .any ops listed) : i ∈ readyV vs listed.toList := by
  obtain ⟨h1, o, ho, h2⟩ := mem_ready.1 hi
  have hio : i < ops.toList.length := by simpa using (Array.getElem?_eq_some_iff.1 ho).1
  have hv : vs[i]? = some vs[i] := List.getElem?_eq_getElem (by omega)
  obtain ⟨r1, _⟩ := chkDeps_at hd i o _ (by simpa using ho) hv
  unfold readyV
  rw [List.mem_filter, List.mem_range]
  refine ⟨by omega, ?_⟩
  have h1' : listed.toList.getD i true = false := by simpa [Array.getD_eq_getD_getElem?, List.getD_eq_getElem?_getD] using h1
  rw [h1', hv]
  simp only [Bool.not_false, Bool.true_and, Option.map_some, Option.getD_some, List.all_eq_true]
  intro j hj
  obtain ⟨e, he, hb, rfl⟩ := r1 j hj
  simpa [Array.getD_eq_getD_getElem?, List.getD_eq_getElem?_getD] using h2 e he hb
theorem ready_nil {ops : Array Oper} {vs : List VO} {listed : Array Bool} (hl : ops.toList.length = vs.length) (hd : chkDeps 0 ops.toList vs = true) (hz : listed.size = ops.size) (hr : Region.ready .any ops listed = []) : readyV vs listed.toList = [] := by
  have hall : ∀ i, i < ops.size → listed.getD i true = true := by
    intro i
    induction i using Nat.strongRecOn with
    | _ i ih =>
      intro hi
      cases hb : listed.getD i true with
      | true => rfl
      | false =>
        exfalso
        have hmem : i ∈ Region.ready .any ops listed := by
          refine mem_ready.2 ⟨hb, ops[i], Array.getElem?_eq_getElem hi, fun e he hbe => ?_⟩
          have hv : vs[i]? = some (vs[i]'(by simp at hl; omega)) := List.getElem?_eq_getElem _
          obtain ⟨_, r2⟩ := chkDeps_at hd i ops[i] _ (by simp [hi]) hv
          have hlt := r2 e he hbe
          have := ih e.on (by omega) (by omega)
          have hsz : e.on < listed.size := by omega
          simp [Array.getD_eq_getD_getElem?, Array.getElem?_eq_getElem hsz] at this ⊢
          exact this
        rw [hr] at hmem
        simp at hmem
  unfold readyV
  rw [List.filter_eq_nil_iff]
  intro i hi
  rw [List.mem_range] at hi
  have := hall i (by simp at hl; omega)
  have h' : listed.toList.getD i true = true := by simpa [Array.getD_eq_getD_getElem?, List.getD_eq_getElem?_getD] using this
  rw [h']; simp
theorem runAll_wp {N : Nat} {ops : Array Oper} {vs : List VO} {QV : St → Prop} {Q : Exit → Act → World → Prop} (hK : OrdSim P w0 K) (hc : chkOps P N ops.toList ops.toList vs = true) (hd : chkDeps 0 ops.toList vs = true) :
    ∀ (n : Nat) {listed : Array Bool} {st : St} {ρ : Rho} {a : Act} {w : World}, listed.size = ops.size → StR w0 N ρ st a w → RunAllD K vs QV n listed.toList st →
    (∀ ρ' st' a' w', QV st' → StR w0 N ρ' st' a' w' → Ext ρ st.h ρ' st'.h → Q .normal a' w') → wpAny P .any ops Q n listed a w := by
  obtain ⟨hl, hat⟩ := chkOps_at hc
  intro n
  induction n with
  | zero =>
    intro listed st ρ a w hz hR hA hq
    obtain ⟨h1, h2⟩ := hA
    refine ⟨?_, hq ρ st a w h2 hR (Ext.refl _ _)⟩
    cases hrd : Region.ready .any ops listed with
    | nil => rfl
    | cons i r =>
      exfalso
      have := ready_sub hl hd (i := i) (listed := listed) (by rw [hrd]; simp)
      rw [h1] at this
      simp at this
  | succ n ih =>
    intro listed st ρ a w hz hR hA hq
    obtain ⟨h1, h2⟩ := hA
    refine ⟨fun hr => hq ρ st a w (h1 (ready_nil hl hd hz hr)) hR (Ext.refl _ _), fun i hi => ?_⟩
    obtain ⟨vo, hv, hrun⟩ := h2 i (ready_sub hl hd hi)
    obtain ⟨_, o, ho, _⟩ := mem_ready.1 hi
    have hcv := hat i o vo (by simpa using ho) hv
    unfold wpOp
    simp only [ho]
    have hset : (listed.setIfInBounds i true).toList = listed.toList.set i true := by simp
    have := runOp_wp (Q := Q) (next := wpAny P .any ops Q n (listed.setIfInBounds i true)) hK hR hcv hrun fun st1 ρ1 a1 w1 hA1 hR1 hE1 =>
      ih (by simpa using hz) hR1 (by rw [hset]; exact hA1) fun ρ' st' a' w' hQ hR' hE' => hq ρ' st' a' w' hQ hR' (hE1.trans hE')
    split
    · rename_i hw
      rw [if_pos hw] at this
      exact .inl this
    · rename_i hw
      rw [if_neg hw] at this
      exact this
theorem prune_get (vars : List Nat) (st : St) (n : Nat) : Env.get (prune vars st).e n = Env.get st.e n ∨ Env.get (prune vars st).e n = .c .non := by
  unfold prune
  simp only
  induction vars with
  | nil => exact .inr rfl
  | cons k vars ih =>
    simp only [List.map_cons, Env.get]
    split
    · rename_i h; subst h; exact .inl rfl
    · exact ih
theorem StR.prune {N : Nat} {st : St} (vars : List Nat) (h : StR w0 N ρ st a w) : StR w0 N ρ (prune vars st) a w := by
  refine ⟨h.sim, fun n => ?_, fun n => ?_, h.size, h.df⟩
  · rcases prune_get vars st n with e | e
    · rw [e]; exact h.env n
    · rw [e]; exact IR_u _ _ _
  · rcases prune_get vars st n with e | e
    · rw [e]; exact h.wf n
    · rw [e]; exact trivial
def xOf : X → Exit
  | .norm => .normal
  | .exit k => .exit k
  | .ret => .ret
def LoopIn (P : Program) (c : Go.Code) (Q : Exit → Act → World → Prop) (a : Act) (w : World) : Prop :=
  ∀ (b : Frame) (k : List Item) (cs : List Frame), ∃ e a' w', Q e a' w' ∧ Arrives P (lone (b.at a (.code c :: .inLoop c :: k)) cs w) b k cs e a' w'
theorem LoopIn.step {c : Go.Code} {Q : Exit → Act → World → Prop} (h : c.wp P (Exit.then (LoopIn P c Q) Q) a w) : LoopIn P c Q a w := by
  intro b k cs
  obtain ⟨e, a₁, w₁, hq, harr⟩ := h b (.inLoop c :: k) cs
  cases e with
  | normal =>
    obtain ⟨e₂, a₂, w₂, hq₂, harr₂⟩ := hq b k cs
    exact ⟨e₂, a₂, w₂, hq₂, .of_steps (Steps.trans harr (.one step_inLoop)) harr₂⟩
  | exit id => exact ⟨_, a₁, w₁, hq, .pass (x := .inLoop c) rfl (fun _ _ => .inl (by simp)) harr⟩
  | goto l => exact ⟨_, a₁, w₁, hq, .pass (x := .inLoop c) rfl (fun _ _ => .inl (by simp)) harr⟩
  | ret => exact ⟨_, a₁, w₁, hq, .pass (x := .inLoop c) rfl (fun _ _ => .inl (by simp)) harr⟩
  | panic ch => exact ⟨_, a₁, w₁, hq, .pass (x := .inLoop c) rfl (fun _ _ => .inl (by simp)) harr⟩
  | outgrown => exact ⟨_, a₁, w₁, hq, .pass (x := .inLoop c) rfl (fun _ _ => .inl (by simp)) harr⟩
theorem LoopIn.loop {c : Go.Code} {Q : Exit → Act → World → Prop} (h : LoopIn P c Q a w) : (Go.Code.loop c).wp P Q a w := by
  intro b k cs
  obtain ⟨e, a', w', hq, harr⟩ := h b k cs
  exact ⟨e, a', w', hq, .of_steps (.one step_loop) harr⟩
theorem inv_skip {N : Nat} {c : Go.Code} (h : chkC P N c .skip = true) : c = .skip := by
  cases c <;> first | rfl | (simp [chkC] at h; done) | (rename_i _ _ dr; cases dr <;> simp [chkC] at h)
theorem inv_ret {N : Nat} {c : Go.Code} (h : chkC P N c .ret = true) : c = .ret := by
  cases c <;> first | rfl | (simp [chkC] at h; done) | (rename_i _ _ dr; cases dr <;> simp [chkC] at h)
theorem inv_exit {N k : Nat} {c : Go.Code} (h : chkC P N c (.exit k) = true) : c = .exit k := by
  cases c <;> first | (simp [chkC] at h; done) | (rename_i _ _ dr; cases dr <;> simp [chkC] at h; done) | (simp [chkC] at h; rw [h])
theorem inv_rg {N : Nat} {ops : List VO} {c : Go.Code} (h : chkC P N c (.rg ops) = true) : ∃ id os, c = .region id os false ∧ chkOps P N os.toList os.toList ops = true := by
  cases c <;> first | (simp [chkC] at h; done) | (rename_i _ _ dr; cases dr <;> first | (simp [chkC] at h; done) | exact ⟨_, _, rfl, by simpa [chkC] using h⟩)
theorem inv_rd {N : Nat} {ops : List VO} {c : Go.Code} (h : chkC P N c (.rd ops) = true) : ∃ id os, c = .region id os true ∧ chkOps P N os.toList os.toList ops = true ∧ chkDeps 0 os.toList ops = true := by
  cases c <;> first | (simp [chkC] at h; done) | (rename_i _ _ dr; cases dr <;> first | (simp [chkC] at h; done) | exact ⟨_, _, rfl, by simpa [chkC] using h⟩)
theorem inv_rx {N : Nat} {ops : List VO} {t : VT} {c : Go.Code} (h : chkC P N c (.rx ops t) = true) : ∃ id os, c = .region id os true ∧ chkOps P N os.toList os.toList ops = true ∧ chkDeps 0 os.toList ops = true := by
  cases c <;> first | (simp [chkC] at h; done) | (rename_i _ _ dr; cases dr <;> first | (simp [chkC] at h; done) | exact ⟨_, _, rfl, by simpa [chkC] using h⟩)
theorem inv_seq {N : Nat} {a b : VC} {c : Go.Code} (h : chkC P N c (.seq a b) = true) : ∃ x y, c = .seq x y ∧ chkC P N x a = true ∧ chkC P N y b = true := by
  cases c <;> first | (simp [chkC] at h; done) | (rename_i _ _ dr; cases dr <;> simp [chkC] at h; done) | exact ⟨_, _, rfl, by simpa [chkC] using h⟩
theorem inv_cond {N : Nat} {x : Od} {a b : VC} {c : Go.Code} (h : chkC P N c (.cond x a b) = true) : ∃ z y y', c = .cond z y y' ∧ chkOd x z = true ∧ chkC P N y a = true ∧ chkC P N y' b = true := by
  cases c <;> first | (simp [chkC] at h; done) | (rename_i _ _ dr; cases dr <;> simp [chkC] at h; done) | exact ⟨_, _, _, rfl, by simpa [chkC, and_assoc] using h⟩
theorem inv_block {N k : Nat} {a : VC} {c : Go.Code} (h : chkC P N c (.block k a) = true) : ∃ x, c = .block k x ∧ chkC P N x a = true := by
  cases c <;> first | (simp [chkC] at h; done) | (rename_i _ _ dr; cases dr <;> simp [chkC] at h; done) | (simp [chkC] at h; obtain ⟨rfl, h⟩ := h; exact ⟨_, rfl, h⟩)
theorem inv_loop {N : Nat} {a : VC} {c : Go.Code} (h : chkC P N c (.loop a) = true) : ∃ x, c = .loop x ∧ chkC P N x a = true := by
  cases c <;> first | (simp [chkC] at h; done) | (rename_i _ _ dr; cases dr <;> simp [chkC] at h; done) | exact ⟨_, rfl, by simpa [chkC] using h⟩
theorem exD_wp {N : Nat} {vars : List Nat} (hm : P.follows .mixedOrders = true) (hK : OrdSim P w0 K) : ∀ {vc : VC} {c : Go.Code} {st : St} {QV : X × St → Prop} {ρ : Rho} {a : Act} {w : World} {Q : Exit → Act → World → Prop}, chkC P N c vc = true →
    exD K vars vc st QV → StR w0 N ρ st a w → (∀ x st' ρ' a' w', QV (x, st') → StR w0 N ρ' st' a' w' → Ext ρ st.h ρ' st'.h → Q (xOf x) a' w') → c.wp P Q a w := by
  intro vc
  induction vc with
  | skip =>
    intro c st QV ρ a w Q hc hx hR hq
    rw [inv_skip hc]
    exact wp_skip (hq .norm st ρ a w hx hR (Ext.refl _ _))
  | ret =>
    intro c st QV ρ a w Q hc hx hR hq
    rw [inv_ret hc]
    exact wp_ret (hq .ret st ρ a w hx hR (Ext.refl _ _))
  | exit k =>
    intro c st QV ρ a w Q hc hx hR hq
    rw [inv_exit hc]
    exact wp_exit (hq (.exit k) st ρ a w hx hR (Ext.refl _ _))
  | rg ops =>
    intro c st QV ρ a w Q hc hx hR hq
    obtain ⟨id, os, rfl, hc⟩ := inv_rg hc
    refine wp_region_list ?_
    exact runOps_wp hK hR hc hx fun st' ρ' a' w' hk hR' hE' => hq .norm _ ρ' a' w' hk (hR'.prune vars) hE'
  | rd ops =>
    intro c st QV ρ a w Q hc hx hR hq
    obtain ⟨id, os, rfl, hc, hd⟩ := inv_rd hc
    have hl := (chkOps_at hc).1
    refine wp_region_any hm ?_
    have hlist : (Array.replicate os.size false).toList = List.replicate ops.length false := by simp; simpa using hl
    have hRd : StR w0 N ρ st a { w with drawn := w.drawn + 1 } := ⟨hR.sim.drew, hR.env, hR.wf, hR.size, hR.df⟩
    have hsz : os.size = ops.length := by simpa using hl
    exact runAll_wp hK hc hd os.size (by simp) hRd (by rw [hlist, hsz]; exact hx) fun ρ' st1 a' w' hQ hR' hE' => hq .norm _ ρ' a' w' hQ (hR'.prune vars) hE'
  | rx ops t =>
    intro c st QV ρ a w Q hc hx hR hq
    obtain ⟨id, os, rfl, hc, hd⟩ := inv_rx hc
    have hl := (chkOps_at hc).1
    refine wp_region_any hm ?_
    have hlist : (Array.replicate os.size false).toList = List.replicate ops.length false := by simp; simpa using hl
    have hRd : StR w0 N ρ st a { w with drawn := w.drawn + 1 } := ⟨hR.sim.drew, hR.env, hR.wf, hR.size, hR.df⟩
    have hsz : os.size = ops.length := by simpa using hl
    exact runAll_wp hK hc hd os.size (by simp) hRd (by rw [hlist, hsz]; exact hx) fun ρ' st1 a' w' hQ hR' hE' => hq .norm _ ρ' a' w' hQ (hR'.prune vars) hE'
  | seq va vb iha ihb =>
    intro c st QV ρ a w Q hc hx hR hq
    obtain ⟨ca, cb, rfl, h1, h2⟩ := inv_seq hc
    refine wp_seq (iha h1 hx hR fun x1 st1 ρ1 a1 w1 hk hR1 hE1 => ?_)
    cases x1 with
    | norm => exact ihb h2 hk hR1 fun x st' ρ' a' w' hk' hR' hE' => hq x st' ρ' a' w' hk' hR' (hE1.trans hE')
    | exit k => exact hq _ _ ρ1 a1 w1 hk hR1 hE1
    | ret => exact hq _ _ ρ1 a1 w1 hk hR1 hE1
  | cond vx va vb iha ihb =>
    intro c st QV ρ a w Q hc hx hR hq
    obtain ⟨z, ca, cb, rfl, h0, h1, h2⟩ := inv_cond hc
    have hz := (chkOd_IR hR.env hR.wf h0).1
    simp only [exD] at hx
    split at hx
    · rename_i hg
      rw [hg] at hz
      exact wp_cond_true hz (iha h1 hx hR hq)
    · rename_i hg
      rw [hg] at hz
      exact wp_cond_false hz (ihb h2 hx hR hq)
    · exact hx.elim
  | block k vb ih =>
    intro c st QV ρ a w Q hc hx hR hq
    obtain ⟨cb, rfl, h1⟩ := inv_block hc
    refine wp_block (ih h1 hx hR fun x1 st1 ρ1 a1 w1 hk hR1 hE1 => ?_)
    cases x1 with
    | norm => exact hq .norm _ ρ1 a1 w1 hk hR1 hE1
    | exit k' =>
      simp only [xOf, Exit.inBlock]
      simp only [blockD] at hk
      split at hk
      · rename_i he
        rw [if_pos he]
        exact hq .norm _ ρ1 a1 w1 hk hR1 hE1
      · rename_i he
        rw [if_neg he]
        exact hq (.exit k') _ ρ1 a1 w1 hk hR1 hE1
    | ret => exact hq .ret _ ρ1 a1 w1 hk hR1 hE1
  | loop vb ih =>
    intro c st QV ρ a w Q hc hx hR hq
    obtain ⟨cb, rfl, h1⟩ := inv_loop hc
    refine LoopIn.loop ?_
    have key := hx (fun s => ∀ ρ a w, StR w0 N ρ s a w → (∀ x st' ρ' a' w', QV (x, st') → StR w0 N ρ' st' a' w' → Ext ρ s.h ρ' st'.h → Q (xOf x) a' w') → LoopIn P cb Q a w) ?_
    · exact key ρ a w hR hq
    · intro s hs ρ a w hR hq
      refine LoopIn.step (ih h1 hs hR fun x1 st1 ρ1 a1 w1 hk hR1 hE1 => ?_)
      cases x1 with
      | norm => exact hk ρ1 a1 w1 hR1 fun x st' ρ' a' w' hk' hR' hE' => hq x st' ρ' a' w' hk' hR' (hE1.trans hE')
      | exit k => exact hq (.exit k) _ ρ1 a1 w1 hk hR1 hE1
      | ret => exact hq .ret _ ρ1 a1 w1 hk hR1 hE1
end
end Go.Proofs.YtgdfgnppeekfjaaGreat.Vm
