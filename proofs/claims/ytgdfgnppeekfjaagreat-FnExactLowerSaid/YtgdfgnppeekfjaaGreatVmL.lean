/- What the ideal machine says of a call the model's call does. Conditions: the code at hand is the ideal machine's (`OkCode`), and so is what lies outside of it (`OrcSim`). -/
import Derived.Test.YtgdfgnppeekfjaaGreatVmJ
namespace Go.Proofs.YtgdfgnppeekfjaaGreat.Vm
open Go.RowKit (wrap64 Below)
set_option linter.unusedSimpArgs false
set_option linter.unusedVariables false
def OkCode (P : Program) (M : Code) : Prop := ∀ f vf, M f = some vf → ∃ fn, P.funcs[f]? = some fn ∧ chkF P fn vf = true
section
variable {P : Program} {w0 : World} {ρ : Rho} {H : Hp} {w : World} {e : Env} {a : Act}
def resSem (tmps : Array Value) : ResultVar → Sem Value
  | .tmp t => pure (tmps.getD t undef)
  | .cell ad t => do loadVar t (← asAddr (tmps.getD ad undef))
theorem resOf_R {N : Nat} {st : St} {r : ResultVar} {x : Nat × Option (Option Nat)} {iv : IV} (hR : StR w0 N ρ st a w) (hc : chkRes P [r] [x] = true) (hx : resOf st x = some iv) :
    ∃ v, (resSem a.tmps r).run P w = .ok v w ∧ IR ρ st.h iv v ∧ wfI st.h iv := by
  obtain ⟨s, k⟩ := x
  cases r with
  | tmp t =>
    cases k with
    | none =>
      simp only [chkRes, Bool.and_true, beq_iff_eq] at hc
      subst hc
      simp only [resOf, Option.some.injEq] at hx
      subst hx
      exact ⟨_, by simp only [resSem, Sem.run_pure], hR.env _, hR.wf _⟩
    | some k => simp [chkRes] at hc
  | cell ad t =>
    cases k with
    | none => simp [chkRes] at hc
    | some k =>
      simp only [chkRes, Bool.and_true, Bool.and_eq_true, beq_iff_eq] at hc
      obtain ⟨rfl, hc⟩ := hc
      simp only [resOf] at hx
      obtain ⟨⟨iv', H'⟩, hst, hx⟩ := Option.bind_eq_some_iff.1 hx
      simp only [Option.some.injEq] at hx
      subst hx
      cases k with
      | none =>
        simp only [stepV, Od.get] at hst
        split at hst
        · rename_i id g off hg
          obtain ⟨o, ho, hst⟩ := Option.bind_eq_some_iff.1 hst
          obtain ⟨c, hcc, hst⟩ := Option.bind_eq_some_iff.1 hst
          simp only [Option.some.injEq, Prod.mk.injEq] at hst
          obtain ⟨rfl, rfl⟩ := hst
          have hi := hR.env ad
          rw [hg] at hi
          obtain ⟨adr, hv, ha⟩ := hi
          obtain ⟨r1, r2⟩ := rdOb_R ho
          rw [ha o r1 r2] at hv
          have ht : aggOf P t = some false := by
            generalize aggOf P t = q at hc ⊢
            cases q with
            | none => simp at hc
            | some b => cases b <;> simp at hc ⊢
          obtain ⟨v, hl, hr, hw⟩ := ld1_R (P := P) ht r1 hcc hR.sim
          exact ⟨v, by simp only [resSem, hv, asAddr, Sem.run_bind, Sem.run_pure, Result.andThen_ok]; exact hl, hr.1, hw⟩
        · cases hst
      | some n =>
        simp only [stepV, Od.get] at hst
        split at hst
        · rename_i id g off hg
          obtain ⟨o, ho, hst⟩ := Option.bind_eq_some_iff.1 hst
          split at hst
          · rename_i hle
            simp only [Option.some.injEq, Prod.mk.injEq] at hst
            obtain ⟨rfl, rfl⟩ := hst
            have hi := hR.env ad
            rw [hg] at hi
            obtain ⟨adr, hv, ha⟩ := hi
            obtain ⟨r1, r2⟩ := rdOb_R ho
            rw [ha o r1 r2] at hv
            have ht : aggOf P t = some true ∧ szOf P t = some n := by
              split at hc
              · rename_i k' heq1 heq2
                injection heq2 with heq2
                subst heq2
                simp only [decide_eq_true_eq] at hc
                exact ⟨heq1, hc⟩
              · rename_i heq; cases heq
              · cases hc
            obtain ⟨vs, hl, hr, hw⟩ := ldn_R (P := P) ht.1 ht.2 r1 hle hR.sim
            exact ⟨.agg vs.toArray, by simp only [resSem, hv, asAddr, Sem.run_bind, Sem.run_pure, Result.andThen_ok]; exact hl, ⟨vs, rfl, hr⟩, hw⟩
          · cases hst
        · cases hst
theorem chkRes_cons {r : ResultVar} {rs : List ResultVar} {x : Nat × Option (Option Nat)} {xs : List (Nat × Option (Option Nat))} (h : chkRes P (r :: rs) (x :: xs) = true) : chkRes P [r] [x] = true ∧ chkRes P rs xs = true := by
  obtain ⟨s, k⟩ := x
  cases r <;> cases k <;> simp [chkRes] at h ⊢
  · exact h
  · obtain ⟨⟨h1, h2⟩, h3⟩ := h; exact ⟨⟨h1, h2⟩, h3⟩
theorem tcOf_R {iv : IV} {t : Bool × List CV} {v : Value} (h : tcOf iv = some t) (hi : IR ρ H iv v) (hw : wfI H iv) : TR ρ H t v ∧ ∀ c ∈ t.2, wfC H c := by
  unfold tcOf at h
  split at h
  · injection h with h; subst h; exact ⟨hi, by intro c hc; simp at hc; subst hc; exact hw⟩
  · injection h with h; subst h; exact ⟨hi, hw⟩
  · cases h
theorem ressOf_R {N : Nat} {st : St} : ∀ {rs : List ResultVar} {xs : List (Nat × Option (Option Nat))} {ts : List (Bool × List CV)}, StR w0 N ρ st a w → chkRes P rs xs = true → ressOf st xs = some ts →
    ∃ vs, (rs.mapM (resSem a.tmps)).run P w = .ok vs w ∧ RL (TR ρ st.h) ts vs ∧ ∀ t ∈ ts, ∀ c ∈ t.2, wfC st.h c := by
  intro rs
  induction rs with
  | nil =>
    intro xs ts hR hc hx
    cases xs with
    | nil => simp only [ressOf, Option.some.injEq] at hx; subst hx; exact ⟨[], by simp, RL.nil _, by simp⟩
    | cons x xs => simp [chkRes] at hc
  | cons r rs ih =>
    intro xs ts hR hc hx
    cases xs with
    | nil => cases r <;> simp [chkRes] at hc
    | cons x xs =>
      obtain ⟨h1, h2⟩ := chkRes_cons hc
      simp only [ressOf] at hx
      obtain ⟨iv, hiv, hx⟩ := Option.bind_eq_some_iff.1 hx
      obtain ⟨t, ht, hx⟩ := Option.bind_eq_some_iff.1 hx
      obtain ⟨ts', hts, hx⟩ := Option.bind_eq_some_iff.1 hx
      simp only [Option.some.injEq] at hx
      subst hx
      obtain ⟨v, r1, r2, r3⟩ := resOf_R hR h1 hiv
      obtain ⟨vs, s1, s2, s3⟩ := ih hR h2 hts
      obtain ⟨q1, q2⟩ := tcOf_R ht r2 r3
      refine ⟨v :: vs, ?_, RL.cons q1 s2, ?_⟩
      · simp [List.mapM_cons, r1, s1]
      · intro t' ht' c hc'
        rcases List.mem_cons.1 ht' with rfl | ht'
        · exact q2 c hc'
        · exact s3 t' ht' c hc'
theorem results_run (fn : Func) (tmps : Array Value) : (results fn tmps).run P w = ((fn.results.toList.mapM (resSem tmps)).run P w).andThen fun vs w' => .ok (if h : vs.toArray.size = 1 then vs.toArray[0] else .tuple vs.toArray) w' := by
  have e : (results fn tmps) = (do let vs ← fn.results.mapM (resSem tmps); pure (if h : vs.size = 1 then vs[0] else .tuple vs)) := by
    unfold results
    congr 1
  rw [e, Array.mapM_eq_mapM_toList]
  simp only [Sem.run_bind, Sem.run_map]
  generalize (fn.results.toList.mapM (resSem tmps)).run P w = r
  cases r <;> simp [Result.andThen]
theorem result_R {N : Nat} {st : St} {fn : Func} {xs : List (Nat × Option (Option Nat))} {iv : IV} (hR : StR w0 N ρ st a w) (hc : chkRes P fn.results.toList xs = true) (hx : resultOf st xs = some iv) :
    ∃ v, (results fn a.tmps).run P w = .ok v w ∧ IR ρ st.h iv v ∧ wfI st.h iv := by
  rw [results_run]
  unfold resultOf at hx
  split at hx
  · rename_i x
    cases hl : fn.results.toList with
    | nil => rw [hl] at hc; simp [chkRes] at hc
    | cons r rs =>
      rw [hl] at hc
      obtain ⟨h1, h2⟩ := chkRes_cons hc
      have : rs = [] := by
        cases rs with
        | nil => rfl
        | cons r2 rs => cases r2 <;> simp [chkRes] at h2
      subst this
      obtain ⟨v, r1, r2, r3⟩ := resOf_R hR h1 hx
      exact ⟨v, by simp [List.mapM_cons, r1], r2, r3⟩
  · rename_i hne
    obtain ⟨ts, hts, hx⟩ := Option.bind_eq_some_iff.1 hx
    simp only [Option.some.injEq] at hx
    subst hx
    obtain ⟨vs, s1, s2, s3⟩ := ressOf_R hR hc hts
    refine ⟨.tuple vs.toArray, ?_, ⟨vs, rfl, s2⟩, s3⟩
    rw [s1]
    have hlen : vs.length ≠ 1 := by
      intro h1
      have hl : ts.length = 1 := by rw [s2.1]; exact h1
      have hxl : xs.length = 1 := by
        have : ∀ (xs : List (Nat × Option (Option Nat))) ts, ressOf st xs = some ts → ts.length = xs.length := by
          intro xs
          induction xs with
          | nil => intro ts h; simp only [ressOf, Option.some.injEq] at h; subst h; rfl
          | cons x xs ih =>
            intro ts h
            simp only [ressOf] at h
            obtain ⟨_, _, h⟩ := Option.bind_eq_some_iff.1 h
            obtain ⟨_, _, h⟩ := Option.bind_eq_some_iff.1 h
            obtain ⟨ts', h', h⟩ := Option.bind_eq_some_iff.1 h
            simp only [Option.some.injEq] at h
            subst h
            simp [ih _ h']
        rw [← this xs ts hts]; exact hl
      obtain ⟨x, rfl⟩ := List.length_eq_one_iff.1 hxl
      exact hne x rfl
    simp [Result.andThen, hlen]
theorem VR.shrink {H' : Hp} (hp : ∀ (id : Nat) (o : Ob), H[id]? = some o → H'[id]? = some o) {c : CV} {v : Value} (h : VR ρ H' c v) : VR ρ H c v := by
  cases c with
  | p id g off => obtain ⟨ad, hv, ha⟩ := h; exact ⟨ad, hv, fun o ho hg => ha o (hp id o ho) hg⟩
  | sl id g off len => obtain ⟨ad, c, hv, h1, h2, ha⟩ := h; exact ⟨ad, c, hv, h1, h2, fun o ho hg => ha o (hp id o ho) hg⟩
  | und => exact h
  | non => exact trivial
  | i n => exact h
  | y n => exact h
  | b x => exact h
  | s x => exact h
  | np => exact h
  | ns => exact h
theorem VR.flat {H' : Hp} {ρ' : Rho} {c : CV} {v : Value} (hf : flatC c = true) (h : VR ρ' H' c v) : VR ρ H c v ∧ wfC H c := by
  cases c <;> first | (simp [flatC] at hf; done) | exact ⟨h, trivial⟩
theorem IR.flat {H' : Hp} {ρ' : Rho} {x : IV} {v : Value} (hf : flatV x = true) (h : IR ρ' H' x v) : IR ρ H x v ∧ wfI H x := by
  cases x with
  | c x => exact VR.flat hf h
  | agg cs =>
    obtain ⟨vs, h1, h2⟩ := h
    simp only [flatV, List.all_eq_true] at hf
    exact ⟨⟨vs, h1, h2.mono fun c v hc hr => ⟨(VR.flat (hf c hc) hr.1).1, hr.2⟩⟩, fun c hc => by have := hf c hc; cases c <;> first | (simp [flatC] at this; done) | exact trivial⟩
  | f fid caps => simp [flatV] at hf
  | tup ts =>
    obtain ⟨vs, h1, h2⟩ := h
    simp only [flatV, List.all_eq_true] at hf
    refine ⟨⟨vs, h1, h2.mono fun t v ht hr => ?_⟩, fun t ht c hc => by have := hf t ht c hc; cases c <;> first | (simp [flatC] at this; done) | exact trivial⟩
    obtain ⟨b, cs⟩ := t
    have hft := hf _ ht
    cases b with
    | true =>
      obtain ⟨us, h3, h4⟩ := hr
      exact ⟨us, h3, h4.mono fun c v hc hr => ⟨(VR.flat (hft c hc) hr.1).1, hr.2⟩⟩
    | false =>
      match cs, hft, hr with
      | [x], hft, hr => exact (VR.flat (hft x (by simp)) hr).1
theorem gcRet_R {ρ' : Rho} {H' H'' : Hp} {iv r : IV} {v : Value} (hS : Sim w0 ρ H w) {w' : World} (hS' : Sim w0 ρ' H' w') (hE : Ext ρ H ρ' H') (hi : IR ρ' H' iv v) (hw : wfI H' iv) (hg : gcRet H iv H' = (r, H'')) :
    ∃ ρ'', IR ρ'' H'' r v ∧ wfI H'' r ∧ Sim w0 ρ'' H'' w' ∧ Ext ρ H ρ'' H'' := by
  have hsame : ∃ ρ'', IR ρ'' H' iv v ∧ wfI H' iv ∧ Sim w0 ρ'' H' w' ∧ Ext ρ H ρ'' H' := ⟨ρ', hi, hw, hS', hE⟩
  unfold gcRet at hg
  split at hg
  · rename_i htake
    have hp : ∀ (id : Nat) (o : Ob), H[id]? = some o → H'[id]? = some o := by
      intro id o ho
      have hlt := (List.getElem?_eq_some_iff.1 ho).1
      rw [← htake, List.getElem?_take, if_pos hlt] at ho
      exact ho
    have hpl : H.length ≤ H'.length := by
      have := congrArg List.length htake
      simp at this; omega
    have hEs : ∀ id o, H[id]? = some o → ρ' id = ρ id := by
      intro id o ho
      obtain ⟨o', h1, _, h3⟩ := hE id o ho
      rw [hp id o ho] at h1
      injection h1 with h1
      subst h1
      exact (h3 rfl).1
    have hSh : Sim w0 ρ' H w' := by
      refine ⟨hS'.bel, fun id o j c ho hc => ?_, fun id o ho hrw => hS'.own id o (hp id o ho) hrw, fun id id' o o' ho ho' hrw hne => hS'.inj id id' o o' (hp id o ho) (hp id' o' ho') hrw hne, fun id o ho => hS'.lt id o (hp id o ho), hS.wf⟩
      obtain ⟨u, h1, h2⟩ := hS'.cell id o j c (hp id o ho) hc
      exact ⟨u, h1, h2.1.shrink hp, h2.2⟩
    split at hg
    · rename_i hf
      simp only [Prod.mk.injEq] at hg
      obtain ⟨rfl, rfl⟩ := hg
      obtain ⟨f1, f2⟩ := IR.flat (ρ := ρ') (H := H) hf hi
      exact ⟨ρ', f1, f2, hSh, fun id o ho => ⟨o, ho, Nat.le_refl _, fun _ => ⟨hEs id o ho, rfl, rfl, rfl⟩⟩⟩
    · rename_i hnf
      split at hg
      · rename_i id g len
        split at hg
        · rename_i hid
          split at hg
          · rename_i o ho
            split at hg
            · rename_i hcond
              obtain ⟨c1, c2, c3⟩ := hcond
              simp only [Prod.mk.injEq] at hg
              obtain ⟨rfl, rfl⟩ := hg
              rw [List.all_eq_true] at c3
              have hExt : Ext ρ' H (setRho ρ' H.length (ρ' id)) (H ++ [{ o with g := 0 }]) := Ext.push _ _
              have hE0 : Ext ρ H ρ' H := fun id o ho => ⟨o, ho, Nat.le_refl _, fun _ => ⟨hEs id o ho, rfl, rfl, rfl⟩⟩
              have hsplit : ∀ k ok, (H ++ [{ o with g := 0 }])[k]? = some ok → (k < H.length ∧ H[k]? = some ok) ∨ (k = H.length ∧ ok = { o with g := 0 }) := by
                intro k ok hk
                by_cases hlt : k < H.length
                · rw [List.getElem?_append_left hlt] at hk; exact .inl ⟨hlt, hk⟩
                · rw [List.getElem?_append_right (by omega)] at hk
                  have hlt2 : k - H.length < 1 := by have := (List.getElem?_eq_some_iff.1 hk).1; simpa using this
                  have hk0 : k - H.length = 0 := by omega
                  rw [hk0] at hk
                  simp at hk
                  exact .inr ⟨by omega, hk.symm⟩
              have hs : ∀ k, k < H.length → setRho ρ' H.length (ρ' id) k = ρ' k := fun k hk => by unfold setRho; rw [if_neg (by omega)]
              have hn : setRho ρ' H.length (ρ' id) H.length = ρ' id := by unfold setRho; rw [if_pos rfl]
              refine ⟨setRho ρ' H.length (ρ' id), ?_, ⟨{ o with g := 0 }, by simp, Nat.le_refl _⟩, ?_, hE0.trans hExt⟩
              · obtain ⟨ad, c, hv, h1, h2, ha⟩ := hi
                refine ⟨ad, c, hv, h1, h2, fun o' ho' hg' => ?_⟩
                have : o' = { o with g := 0 } := by simp at ho'; exact ho'.symm
                subst this
                rw [hn]
                exact ha o ho c1
              · refine ⟨hS'.bel, ?_, ?_, ?_, ?_, ?_⟩
                · intro k ok j c hk hc
                  rcases hsplit k ok hk with ⟨hlt, hk⟩ | ⟨rfl, rfl⟩
                  · obtain ⟨u, h1, h2⟩ := hSh.cell k ok j c hk hc
                    exact ⟨u, by rw [hs k hlt]; exact h1, CR.ext hExt (hSh.wf k ok c hk (List.mem_of_getElem? hc)) h2⟩
                  · obtain ⟨u, h1, h2⟩ := hS'.cell id o j c ho hc
                    exact ⟨u, by rw [hn]; exact h1, (VR.flat (c3 c (List.mem_of_getElem? hc)) h2.1).1, h2.2⟩
                · intro k ok hk hrw
                  rcases hsplit k ok hk with ⟨hlt, hk⟩ | ⟨rfl, rfl⟩
                  · rw [hs k hlt]; exact hSh.own k ok hk hrw
                  · rw [hn]; exact hS'.own id o ho hrw
                · intro k k' ok ok' hk hk' hrw hne
                  rcases hsplit k ok hk with ⟨hlt, hk⟩ | ⟨rfl, rfl⟩
                  · rcases hsplit k' ok' hk' with ⟨hlt', hk'⟩ | ⟨rfl, rfl⟩
                    · rw [hs k hlt, hs k' hlt']; exact hSh.inj k k' ok ok' hk hk' hrw hne
                    · rw [hs k hlt, hn]; exact hS'.inj k id ok o (hp k ok hk) ho hrw (by omega)
                  · rcases hsplit k' ok' hk' with ⟨hlt', hk'⟩ | ⟨rfl, rfl⟩
                    · rw [hs k' hlt', hn]; exact hS'.inj id k' o ok' ho (hp k' ok' hk') c2 (by omega)
                    · exact (hne rfl).elim
                · intro k ok hk
                  rcases hsplit k ok hk with ⟨hlt, hk⟩ | ⟨rfl, rfl⟩
                  · rw [hs k hlt]; exact hSh.lt k ok hk
                  · rw [hn]; exact hS'.lt id o ho
                · intro k ok c hk hc
                  rcases hsplit k ok hk with ⟨hlt, hk⟩ | ⟨rfl, rfl⟩
                  · exact wfC.ext hExt (hSh.wf k ok c hk hc)
                  · have := c3 c hc
                    cases c <;> first | (simp [flatC] at this; done) | exact trivial
            · simp only [Prod.mk.injEq] at hg
              obtain ⟨rfl, rfl⟩ := hg
              exact hsame
          · simp only [Prod.mk.injEq] at hg
            obtain ⟨rfl, rfl⟩ := hg
            exact hsame
        · simp only [Prod.mk.injEq] at hg
          obtain ⟨rfl, rfl⟩ := hg
          exact hsame
      · simp only [Prod.mk.injEq] at hg
        obtain ⟨rfl, rfl⟩ := hg
        exact hsame
  · simp only [Prod.mk.injEq] at hg
    obtain ⟨rfl, rfl⟩ := hg
    exact hsame
theorem enter_get (vars : List Nat) (as : List IV) (n : Nat) : Env.get (enter vars as) n = as.getD n (.c .non) ∨ Env.get (enter vars as) n = .c .non := by
  unfold enter
  induction vars with
  | nil => exact .inr rfl
  | cons k vars ih =>
    simp only [List.map_cons, Env.get]
    split
    · rename_i h; subst h; exact .inl rfl
    · exact ih
theorem callD_sim {M : Code} {X0 : OrD} (hm : P.follows .mixedOrders = true) (hM : OkCode P M) (hX : OrdSim P w0 X0) : OrdSim P w0 (callD M X0) := by
  intro f as H Q h
  refine h (fun f args H Q => (∃ fn, P.funcs[f]? = some fn ∧ fn.body.isNone = false ∧ (fn.name == "runtime.NumGoroutine") = false) ∧
    ∀ ρ w (vs : List Value), Sim w0 ρ H w → RL (IR ρ H) args vs → (∀ v ∈ args, wfI H v) → Calls P f vs.toArray w fun e w' => ∃ r : IV × Hp, Q r ∧ Ret w0 ρ H r.1 r.2 e w') ?_ ?_
  · rintro f as H Q Q' hq ⟨h1, h2⟩
    refine ⟨h1, fun ρ w vs a b c => (h2 ρ w vs a b c).mono ?_⟩
    rintro e w' ⟨r, hr, hret⟩
    exact ⟨r, hq r hr, hret⟩
  · intro f as H Q h
    simp only [bodyD] at h
    split at h
    · exact hX f as H Q h
    · rename_i vf hvf
      obtain ⟨fn, hf, hchk⟩ := hM f vf hvf
      simp only [chkF, Bool.and_eq_true, Bool.not_eq_true'] at hchk
      obtain ⟨⟨hbody, hres⟩, hname⟩ := hchk
      cases hb : fn.body with
      | none => rw [hb] at hbody; cases hbody
      | some c =>
        rw [hb] at hbody
        simp only at hbody
        refine ⟨⟨fn, hf, by rw [hb]; rfl, hname⟩, fun ρ w vs hS hr hw => ?_⟩
        refine calls_of_wp hf hb ?_
        have hR : StR w0 fn.ntmps ρ ⟨enter vf.vars as, H⟩ { tmps := vs.toArray ++ Array.replicate (fn.ntmps - vs.toArray.size) undef, defers := [] } w := by
          refine ⟨hS, fun k => ?_, fun k => ?_, by simp; omega, rfl⟩
          · rcases enter_get vf.vars as k with e | e
            · rw [e]
              by_cases hk : k < as.length
              · obtain ⟨v, hv, hrr⟩ := hr.at_ (List.getElem?_eq_getElem hk)
                have hkv : k < vs.length := (List.getElem?_eq_some_iff.1 hv).1
                have e1 : as.getD k (.c .non) = as[k] := by simp [List.getD_eq_getElem?_getD, List.getElem?_eq_getElem hk]
                have e2 : (vs.toArray ++ Array.replicate (fn.ntmps - vs.toArray.size) undef).getD k undef = v := by
                  rw [Array.getD_eq_getD_getElem?, Array.getElem?_append_left (by simpa using hkv)]
                  simp [hv]
                rw [e1]
                show IR ρ H as[k] ((vs.toArray ++ Array.replicate (fn.ntmps - vs.toArray.size) undef).getD k undef)
                rw [e2]
                exact hrr
              · have e1 : as.getD k (.c .non) = .c .non := by simp [List.getD_eq_getElem?_getD, List.getElem?_eq_none (Nat.le_of_not_lt hk)]
                rw [e1]; exact IR_u _ _ _
            · rw [e]; exact IR_u _ _ _
          · rcases enter_get vf.vars as k with e | e
            · rw [e]
              by_cases hk : k < as.length
              · have e1 : as.getD k (.c .non) = as[k] := by simp [List.getD_eq_getElem?_getD, List.getElem?_eq_getElem hk]
                rw [e1]
                exact hw _ (List.getElem_mem hk)
              · have e1 : as.getD k (.c .non) = .c .non := by simp [List.getD_eq_getElem?_getD, List.getElem?_eq_none (Nat.le_of_not_lt hk)]
                rw [e1]; exact trivial
            · rw [e]; exact trivial
        refine exD_wp hm (fun f as H Q h => h) hbody h hR fun x st' ρ' a' w' hk hR' hE' => ?_
        have hfin : WP (resultOf st' vf.res) fun v => Q (gcRet H v st'.h) := by
          cases x with
          | norm => exact hk
          | ret => exact hk
          | exit k => exact hk.elim
        obtain ⟨v0, hv0, hfin⟩ := hfin
        obtain ⟨v, s1, s2, s3⟩ := result_R hR' hres hv0
        obtain ⟨ρ'', g1, g2, g3, g4⟩ := gcRet_R hS hR'.sim hE' s2 s3 (r := (gcRet H v0 st'.h).1) (H'' := (gcRet H v0 st'.h).2) rfl
        have hpost : a'.defers = [] ∧ ∃ v, (results fn a'.tmps).run P w' = .ok v w' ∧ ∃ r : IV × Hp, Q r ∧ Ret w0 ρ H r.1 r.2 (.returned v) w' := ⟨hR'.df, v, s1, _, hfin, ρ'', v, rfl, g1, g2, g3, g4⟩
        cases x with
        | norm => exact hpost
        | ret => exact hpost
        | exit k => exact hk.elim
end
end Go.Proofs.YtgdfgnppeekfjaaGreat.Vm
