/- The ideal machine without a count of rounds; what it says of a call the model's call does. Conditions: the code at hand is the ideal machine's (`OkCode`), and so is what lies outside of it (`OrcSim`). -/
import Derived.Test.YtlhhmlldcpafiaaVmJ
namespace Go.Proofs.Ytlhhmlldcpafiaa.Vm
open Go.RowKit (wrap64 Below)
set_option linter.unusedSimpArgs false
set_option linter.unusedVariables false

/-! ### 1. More says no less -/
def OLe (K K' : Orc) : Prop := ∀ f as H r, K f as H = some r → K' f as H = some r

theorem stepV_mono {K K' : Orc} (h : OLe K K') {e : Env} {H : Hp} {o : VOp} {r : IV × Hp} (hr : stepV K e H o = some r) : stepV K' e H o = some r := by
  cases o with
  | call f args => exact h _ _ _ _ hr
  | clv x args =>
    simp only [stepV] at hr ⊢
    generalize x.get e = v at hr ⊢
    cases v with
    | f fid caps => exact h _ _ _ _ hr
    | _ => cases hr
  | ld n a => cases n <;> exact hr
  | _ => exact hr

theorem runOp_mono {K K' : Orc} (h : OLe K K') {vo : VO} {st st' : St} (hr : runOp K vo st = some st') : runOp K' vo st = some st' := by
  obtain ⟨d, o, gd, dp⟩ := vo
  cases gd with
  | none =>
    simp only [runOp] at hr ⊢
    obtain ⟨r, h1, h2⟩ := Option.bind_eq_some_iff.1 hr
    exact Option.bind_eq_some_iff.2 ⟨r, stepV_mono h h1, h2⟩
  | some p =>
    obtain ⟨s, w⟩ := p
    simp only [runOp] at hr ⊢
    generalize Env.get st.e s = v at hr ⊢
    split at hr
    · rename_i x
      by_cases hxw : x = w
      · rw [if_pos hxw] at hr
        simp only [hxw, if_true]
        obtain ⟨r, h1, h2⟩ := Option.bind_eq_some_iff.1 hr
        exact Option.bind_eq_some_iff.2 ⟨r, stepV_mono h h1, h2⟩
      · rw [if_neg hxw] at hr
        simp only [if_neg hxw]; exact hr
    · cases hr

theorem runOps_mono {K K' : Orc} (h : OLe K K') : ∀ {ops : List VO} {st st' : St}, runOps K ops st = some st' → runOps K' ops st = some st' := by
  intro ops
  induction ops with
  | nil => intro st st' hr; exact hr
  | cons o ops ih =>
    intro st st' hr
    simp only [runOps] at hr ⊢
    obtain ⟨r, h1, h2⟩ := Option.bind_eq_some_iff.1 hr
    exact Option.bind_eq_some_iff.2 ⟨r, runOp_mono h h1, ih h2⟩

theorem RunAll_mono {K K' : Orc} (h : OLe K K') {ops : List VO} {Q Q' : St → Prop} (hq : ∀ s, Q s → Q' s) : ∀ {n : Nat} {listed : List Bool} {st : St}, RunAll K ops Q n listed st → RunAll K' ops Q' n listed st := by
  intro n
  induction n with
  | zero => intro listed st hr; exact ⟨hr.1, hq _ hr.2⟩
  | succ n ih =>
    intro listed st hr
    refine ⟨fun h0 => hq _ (hr.1 h0), fun i hi => ?_⟩
    obtain ⟨o, st', h1, h2, h3⟩ := hr.2 i hi
    exact ⟨o, st', h1, runOp_mono h h2, ih h3⟩

theorem runDraw_mono {K K' : Orc} (h : OLe K K') {vars : List Nat} {ops : List VO} {st st' : St} (hr : runDraw K vars ops st = some st') : runDraw K' vars ops st = some st' := by
  unfold runDraw at hr ⊢
  split at hr
  · cases hr
  · rename_i s hs
    split at hr
    · rename_i hA
      rw [runOps_mono h hs]
      simp only
      rw [if_pos (RunAll_mono h (fun _ h => h) hA)]
      exact hr
    · cases hr

theorem iter_mono {f g : St → Option (X × St)} (h : ∀ s r, f s = some r → g s = some r) : ∀ {n m : Nat} {st : St} {r : X × St}, n ≤ m → iter f n st = some r → iter g m st = some r := by
  intro n
  induction n with
  | zero => intro m st r hm hr; cases hr
  | succ n ih =>
    intro m st r hm hr
    obtain ⟨m, rfl⟩ : ∃ k, m = k + 1 := ⟨m - 1, by omega⟩
    simp only [iter] at hr ⊢
    obtain ⟨x, h1, h2⟩ := Option.bind_eq_some_iff.1 hr
    refine Option.bind_eq_some_iff.2 ⟨x, h _ _ h1, ?_⟩
    obtain ⟨y, s⟩ := x
    cases y with
    | norm => exact ih (by omega) h2
    | exit k => exact h2
    | ret => exact h2

theorem exec_mono {K K' : Orc} (h : OLe K K') {vars : List Nat} {n m : Nat} (hnm : n ≤ m) : ∀ {vc : VC} {st : St} {r : X × St}, exec K vars n vc st = some r → exec K' vars m vc st = some r := by
  intro vc
  induction vc with
  | skip => intro st r hr; exact hr
  | rg ops =>
    intro st r hr
    simp only [exec] at hr ⊢
    obtain ⟨x, h1, h2⟩ := Option.bind_eq_some_iff.1 hr
    exact Option.bind_eq_some_iff.2 ⟨x, runOps_mono h h1, h2⟩
  | rd ops =>
    intro st r hr
    simp only [exec] at hr ⊢
    obtain ⟨x, h1, h2⟩ := Option.bind_eq_some_iff.1 hr
    exact Option.bind_eq_some_iff.2 ⟨x, runDraw_mono h h1, h2⟩
  | seq a b iha ihb =>
    intro st r hr
    simp only [exec] at hr ⊢
    obtain ⟨⟨x, s⟩, h1, h2⟩ := Option.bind_eq_some_iff.1 hr
    refine Option.bind_eq_some_iff.2 ⟨⟨x, s⟩, iha h1, ?_⟩
    cases x with
    | norm => exact ihb h2
    | exit k => exact h2
    | ret => exact h2
  | cond x a b iha ihb =>
    intro st r hr
    simp only [exec] at hr ⊢
    split at hr
    · exact iha hr
    · exact ihb hr
    · cases hr
  | block k c ih =>
    intro st r hr
    simp only [exec] at hr ⊢
    obtain ⟨x, h1, h2⟩ := Option.bind_eq_some_iff.1 hr
    exact Option.bind_eq_some_iff.2 ⟨x, ih h1, h2⟩
  | loop c ih =>
    intro st r hr
    simp only [exec] at hr ⊢
    exact iter_mono (fun s r hr => ih hr) hnm hr
  | exit k => intro st r hr; exact hr
  | ret => intro st r hr; exact hr

theorem callN_mono {M : Code} {X0 : Orc} : ∀ {n m : Nat}, n ≤ m → OLe (callN M X0 n) (callN M X0 m) := by
  intro n
  induction n with
  | zero => intro m _ f as H r hr; cases hr
  | succ n ih =>
    intro m hm f as H r hr
    obtain ⟨m, rfl⟩ : ∃ k, m = k + 1 := ⟨m - 1, by omega⟩
    simp only [callN] at hr ⊢
    split at hr
    · exact hr
    · rename_i vf hvf
      obtain ⟨⟨x, s⟩, h1, h2⟩ := Option.bind_eq_some_iff.1 hr
      refine Option.bind_eq_some_iff.2 ⟨⟨x, s⟩, exec_mono (ih (by omega)) (by omega) h1, ?_⟩
      exact h2

/-! ### 2. Without a count -/
open Classical in
/-- What is told from some count on. -/
noncomputable def lim {α : Type} (g : Nat → Option α) : Option α := if h : ∃ n r, g n = some r then some (Classical.choose (Classical.choose_spec h)) else none

theorem lim_some {α : Type} {g : Nat → Option α} (hg : ∀ n m, n ≤ m → ∀ r, g n = some r → g m = some r) {r : α} : lim g = some r ↔ ∃ n, g n = some r := by
  unfold lim
  constructor
  · intro h
    split at h
    · rename_i hx
      injection h with h
      exact ⟨_, by rw [← h]; exact Classical.choose_spec (Classical.choose_spec hx)⟩
    · cases h
  · rintro ⟨n, hn⟩
    have hx : ∃ n r, g n = some r := ⟨n, r, hn⟩
    rw [dif_pos hx]
    congr 1
    have h2 := Classical.choose_spec (Classical.choose_spec hx)
    have h3 := hg _ (max (Classical.choose hx) n) (Nat.le_max_left _ _) _ h2
    have h4 := hg _ (max (Classical.choose hx) n) (Nat.le_max_right _ _) _ hn
    rw [h3] at h4
    injection h4

/-- A call, whatever its count. -/
noncomputable def call (M : Code) (X0 : Orc) : Orc := fun f as H => lim fun n => callN M X0 n f as H

theorem call_some {M : Code} {X0 : Orc} {f : Nat} {as : List IV} {H : Hp} {r : IV × Hp} : call M X0 f as H = some r ↔ ∃ n, callN M X0 n f as H = some r :=
  lim_some (fun n m h r hr => callN_mono h f as H r hr)

noncomputable def loopF (f : St → Option (X × St)) (st : St) : Option (X × St) := lim fun n => iter f n st

theorem loopF_some {f : St → Option (X × St)} {st : St} {r : X × St} : loopF f st = some r ↔ ∃ n, iter f n st = some r :=
  lim_some (fun n m h r hr => iter_mono (fun _ _ h => h) h hr)

theorem loopF_step {f : St → Option (X × St)} {st st' : St} {r : X × St} (h : f st = some (.norm, st')) (h2 : loopF f st' = some r) : loopF f st = some r := by
  obtain ⟨n, hn⟩ := loopF_some.1 h2
  exact loopF_some.2 ⟨n + 1, by simp only [iter, h, Option.bind_some]; exact hn⟩
theorem loopF_exit {f : St → Option (X × St)} {st st' : St} {k : Nat} (h : f st = some (.exit k, st')) : loopF f st = some (.exit k, st') :=
  loopF_some.2 ⟨1, by simp only [iter, h, Option.bind_some]⟩
theorem loopF_ret {f : St → Option (X × St)} {st st' : St} (h : f st = some (.ret, st')) : loopF f st = some (.ret, st') :=
  loopF_some.2 ⟨1, by simp only [iter, h, Option.bind_some]⟩

/-- Code, whatever its count. -/
noncomputable def exF (K : Orc) (vars : List Nat) : VC → St → Option (X × St)
  | .skip, st => some (.norm, st)
  | .rg ops, st => (runOps K ops st).bind fun s => some (.norm, prune vars s)
  | .rd ops, st => (runDraw K vars ops st).bind fun s => some (.norm, s)
  | .seq a b, st => (exF K vars a st).bind fun r => match r.1 with
    | .norm => exF K vars b r.2
    | x => some (x, r.2)
  | .cond x a b, st => match x.get st.e with
    | .c (.b true) => exF K vars a st
    | .c (.b false) => exF K vars b st
    | _ => none
  | .block k c, st => (exF K vars c st).bind fun r => match r.1 with
    | .exit k' => if k' = k then some (.norm, r.2) else some (.exit k', r.2)
    | x => some (x, r.2)
  | .loop c, st => loopF (exF K vars c) st
  | .exit k, st => some (.exit k, st)
  | .ret, st => some (.ret, st)

theorem runOp_fin {M : Code} {X0 : Orc} {vo : VO} {st st' : St} (h : runOp (call M X0) vo st = some st') : ∃ n, runOp (callN M X0 n) vo st = some st' := by
  have hstep : ∀ {e : Env} {H : Hp} {o : VOp} {r : IV × Hp}, stepV (call M X0) e H o = some r → ∃ n, stepV (callN M X0 n) e H o = some r := by
    intro e H o r hr
    cases o with
    | call f args => exact call_some.1 hr
    | clv x args =>
      simp only [stepV] at hr ⊢
      generalize x.get e = v at hr ⊢
      cases v with
      | f fid caps => exact call_some.1 hr
      | _ => cases hr
    | ld n a => cases n <;> exact ⟨0, hr⟩
    | _ => exact ⟨0, hr⟩
  obtain ⟨d, o, gd, dp⟩ := vo
  cases gd with
  | none =>
    simp only [runOp] at h ⊢
    obtain ⟨r, h1, h2⟩ := Option.bind_eq_some_iff.1 h
    obtain ⟨n, hn⟩ := hstep h1
    exact ⟨n, Option.bind_eq_some_iff.2 ⟨r, hn, h2⟩⟩
  | some p =>
    obtain ⟨s, w⟩ := p
    simp only [runOp] at h ⊢
    generalize Env.get st.e s = v at h ⊢
    split at h
    · rename_i x
      by_cases hxw : x = w
      · rw [if_pos hxw] at h
        simp only [hxw, if_true]
        obtain ⟨r, h1, h2⟩ := Option.bind_eq_some_iff.1 h
        obtain ⟨n, hn⟩ := hstep h1
        exact ⟨n, Option.bind_eq_some_iff.2 ⟨r, hn, h2⟩⟩
      · rw [if_neg hxw] at h
        simp only [if_neg hxw]; exact ⟨0, h⟩
    · cases h

theorem runOps_fin {M : Code} {X0 : Orc} : ∀ {ops : List VO} {st st' : St}, runOps (call M X0) ops st = some st' → ∃ n, runOps (callN M X0 n) ops st = some st' := by
  intro ops
  induction ops with
  | nil => intro st st' h; exact ⟨0, h⟩
  | cons o ops ih =>
    intro st st' h
    simp only [runOps] at h ⊢
    obtain ⟨s, h1, h2⟩ := Option.bind_eq_some_iff.1 h
    obtain ⟨n, hn⟩ := runOp_fin h1
    obtain ⟨m, hm⟩ := ih h2
    exact ⟨max n m, Option.bind_eq_some_iff.2 ⟨s, runOp_mono (callN_mono (Nat.le_max_left _ _)) hn, runOps_mono (callN_mono (Nat.le_max_right _ _)) hm⟩⟩

theorem RunAll_fin {M : Code} {X0 : Orc} {ops : List VO} {Q : St → Prop} : ∀ {n : Nat} {listed : List Bool} {st : St}, RunAll (call M X0) ops Q n listed st → ∃ k, RunAll (callN M X0 k) ops Q n listed st := by
  intro n
  induction n with
  | zero => intro listed st h; exact ⟨0, h⟩
  | succ n ih =>
    intro listed st h
    have key : ∀ l : List Nat, (∀ i ∈ l, i ∈ readyV ops listed) → ∃ k, ∀ i ∈ l, ∃ o st', ops[i]? = some o ∧ runOp (callN M X0 k) o st = some st' ∧ RunAll (callN M X0 k) ops Q n (listed.set i true) st' := by
      intro l
      induction l with
      | nil => intro _; exact ⟨0, fun i hi => by simp at hi⟩
      | cons i l ihl =>
        intro hl
        obtain ⟨k1, hk1⟩ := ihl (fun j hj => hl j (by simp [hj]))
        obtain ⟨o, st', h1, h2, h3⟩ := h.2 i (hl i (by simp))
        obtain ⟨k2, hk2⟩ := runOp_fin h2
        obtain ⟨k3, hk3⟩ := ih h3
        refine ⟨max k1 (max k2 k3), fun j hj => ?_⟩
        rcases List.mem_cons.1 hj with rfl | hj
        · exact ⟨o, st', h1, runOp_mono (callN_mono (by omega)) hk2, RunAll_mono (callN_mono (by omega)) (fun _ h => h) hk3⟩
        · obtain ⟨o', st1, g1, g2, g3⟩ := hk1 j hj
          exact ⟨o', st1, g1, runOp_mono (callN_mono (by omega)) g2, RunAll_mono (callN_mono (by omega)) (fun _ h => h) g3⟩
    obtain ⟨k, hk⟩ := key _ (fun i hi => hi)
    exact ⟨k, h.1, hk⟩

theorem runDraw_fin {M : Code} {X0 : Orc} {vars : List Nat} {ops : List VO} {st st' : St} (h : runDraw (call M X0) vars ops st = some st') : ∃ n, runDraw (callN M X0 n) vars ops st = some st' := by
  unfold runDraw at h
  split at h
  · cases h
  · rename_i s hs
    split at h
    · rename_i hA
      injection h with h; subst h
      obtain ⟨n, hn⟩ := runOps_fin hs
      obtain ⟨m, hm⟩ := RunAll_fin hA
      refine ⟨max n m, ?_⟩
      unfold runDraw
      rw [runOps_mono (callN_mono (Nat.le_max_left _ _)) hn]
      simp only
      rw [if_pos (RunAll_mono (callN_mono (Nat.le_max_right _ _)) (fun _ h => h) hm)]
    · cases h

theorem exF_fin {M : Code} {X0 : Orc} {vars : List Nat} : ∀ {vc : VC} {st : St} {r : X × St}, exF (call M X0) vars vc st = some r → ∃ n, exec (callN M X0 n) vars n vc st = some r := by
  intro vc
  induction vc with
  | skip => intro st r h; exact ⟨0, h⟩
  | exit k => intro st r h; exact ⟨0, h⟩
  | ret => intro st r h; exact ⟨0, h⟩
  | rg ops =>
    intro st r h
    simp only [exF] at h
    obtain ⟨s, h1, h2⟩ := Option.bind_eq_some_iff.1 h
    obtain ⟨n, hn⟩ := runOps_fin h1
    exact ⟨n, by simp only [exec]; exact Option.bind_eq_some_iff.2 ⟨s, hn, h2⟩⟩
  | rd ops =>
    intro st r h
    simp only [exF] at h
    obtain ⟨s, h1, h2⟩ := Option.bind_eq_some_iff.1 h
    obtain ⟨n, hn⟩ := runDraw_fin h1
    exact ⟨n, by simp only [exec]; exact Option.bind_eq_some_iff.2 ⟨s, hn, h2⟩⟩
  | seq a b iha ihb =>
    intro st r h
    simp only [exF] at h
    obtain ⟨⟨x, s⟩, h1, h2⟩ := Option.bind_eq_some_iff.1 h
    obtain ⟨n, hn⟩ := iha h1
    cases x with
    | norm =>
      obtain ⟨m, hm⟩ := ihb h2
      refine ⟨max n m, ?_⟩
      simp only [exec]
      exact Option.bind_eq_some_iff.2 ⟨_, exec_mono (callN_mono (Nat.le_max_left _ _)) (Nat.le_max_left _ _) hn, exec_mono (callN_mono (Nat.le_max_right _ _)) (Nat.le_max_right _ _) hm⟩
    | exit k => exact ⟨n, by simp only [exec]; exact Option.bind_eq_some_iff.2 ⟨_, hn, h2⟩⟩
    | ret => exact ⟨n, by simp only [exec]; exact Option.bind_eq_some_iff.2 ⟨_, hn, h2⟩⟩
  | cond x a b iha ihb =>
    intro st r h
    simp only [exF] at h
    split at h
    · rename_i hg
      obtain ⟨n, hn⟩ := iha h
      exact ⟨n, by simp only [exec, hg]; exact hn⟩
    · rename_i hg
      obtain ⟨n, hn⟩ := ihb h
      exact ⟨n, by simp only [exec, hg]; exact hn⟩
    · cases h
  | block k c ih =>
    intro st r h
    simp only [exF] at h
    obtain ⟨s, h1, h2⟩ := Option.bind_eq_some_iff.1 h
    obtain ⟨n, hn⟩ := ih h1
    exact ⟨n, by simp only [exec]; exact Option.bind_eq_some_iff.2 ⟨s, hn, h2⟩⟩
  | loop c ih =>
    intro st r h
    simp only [exF] at h
    obtain ⟨k, hk⟩ := loopF_some.1 h
    have key : ∀ (k : Nat) {st : St}, iter (exF (call M X0) vars c) k st = some r → ∃ n, ∀ m, n ≤ m → iter (exec (callN M X0 m) vars m c) k st = some r := by
      intro k
      induction k with
      | zero => intro st h; cases h
      | succ k ihk =>
        intro st h
        simp only [iter] at h
        obtain ⟨⟨x, s⟩, h1, h2⟩ := Option.bind_eq_some_iff.1 h
        obtain ⟨n, hn⟩ := ih h1
        cases x with
        | norm =>
          obtain ⟨n2, hn2⟩ := ihk h2
          refine ⟨max n n2, fun m hm => ?_⟩
          simp only [iter]
          exact Option.bind_eq_some_iff.2 ⟨_, exec_mono (callN_mono (by omega)) (by omega) hn, hn2 m (by omega)⟩
        | exit j => exact ⟨n, fun m hm => by simp only [iter]; exact Option.bind_eq_some_iff.2 ⟨_, exec_mono (callN_mono hm) hm hn, h2⟩⟩
        | ret => exact ⟨n, fun m hm => by simp only [iter]; exact Option.bind_eq_some_iff.2 ⟨_, exec_mono (callN_mono hm) hm hn, h2⟩⟩
    obtain ⟨n, hn⟩ := key k hk
    refine ⟨max n k, ?_⟩
    simp only [exec]
    exact iter_mono (fun _ _ h => h) (Nat.le_max_right _ _) (hn (max n k) (Nat.le_max_left _ _))

/-- How a body's end becomes a call's. -/
def fin (H : Hp) (res : List (Nat × Option (Option Nat))) (r : X × St) : Option (IV × Hp) :=
  match r.1 with
  | .exit _ => none
  | _ => (resultOf r.2 res).bind fun v => some (gcRet H v r.2.h)

theorem call_of {M : Code} {X0 : Orc} {f : Nat} {vf : VF} (hM : M f = some vf) {as : List IV} {H : Hp} {r : IV × Hp}
    (h : (exF (call M X0) vf.vars vf.body ⟨enter vf.vars as, H⟩).bind (fin H vf.res) = some r) : call M X0 f as H = some r := by
  obtain ⟨s, h1, h2⟩ := Option.bind_eq_some_iff.1 h
  obtain ⟨n, hn⟩ := exF_fin h1
  refine call_some.2 ⟨n + 1, ?_⟩
  simp only [callN, hM]
  refine Option.bind_eq_some_iff.2 ⟨s, hn, ?_⟩
  unfold fin at h2
  exact h2

theorem call_ext {M : Code} {X0 : Orc} {f : Nat} (hM : M f = none) {as : List IV} {H : Hp} {r : IV × Hp} (h : X0 f as H = some r) : call M X0 f as H = some r :=
  call_some.2 ⟨1, by simp only [callN, hM]; exact h⟩

end Go.Proofs.Ytlhhmlldcpafiaa.Vm
