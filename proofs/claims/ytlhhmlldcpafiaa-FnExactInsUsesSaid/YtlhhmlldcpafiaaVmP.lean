/- Regions whose order is drawn but whose operations leave the heap alone: whatever the order, they end as in the text's. Conditions: each operation comes behind those whose values it takes (`drawOk`). -/
import Derived.Test.YtlhhmlldcpafiaaVmS
namespace Go.Proofs.Ytlhhmlldcpafiaa.Vm
open Go.RowKit (wrap64)
set_option linter.unusedSimpArgs false
set_option linter.unusedVariables false

def Od.nums : Od → List Nat
  | .t n => [n]
  | .k _ => []

def opnds : VOp → List Nat
  | .mv x | .box x | .nilc x | .shk _ _ x | .eqn _ x | .not x | .b2i x | .s2b x | .mks _ _ x | .fad _ x | .ext _ x | .len x | .lens x | .clr _ _ x | .ld _ x => x.nums
  | .pick c a b => c.nums ++ a.nums ++ b.nums
  | .alloc _ => []
  | .build _ ps => ps.flatMap fun p => p.2.2.nums
  | .bsl _ _ _ ps => ps.flatMap fun p => p.2.2.nums
  | .st _ x y | .bin _ x y | .eqa _ _ x y | .eqb _ x y | .idx _ x y | .app _ x y | .mn x y | .mx x y => x.nums ++ y.nums
  | .bck x y z u => x.nums ++ y.nums ++ z.nums ++ u.nums
  | .slc _ x lo hi => x.nums ++ (lo.map Od.nums).getD [] ++ (hi.map Od.nums).getD []
  | .mkf _ xs => xs.flatMap Od.nums
  | .call _ xs => xs.flatMap Od.nums
  | .clv x xs => x.nums ++ xs.flatMap Od.nums

def reads (vo : VO) : List Nat := opnds vo.o ++ (match vo.gd with | some (s, _) => [s] | none => [])

theorem od_congr {e e' : Env} {x : Od} (h : ∀ n ∈ x.nums, Env.get e n = Env.get e' n) : x.get e = x.get e' := by
  cases x with
  | t n => exact h n (by simp [Od.nums])
  | k v => rfl

theorem ods_congr {e e' : Env} : ∀ {xs : List Od}, (∀ n ∈ xs.flatMap Od.nums, Env.get e n = Env.get e' n) → xs.map (Od.get e) = xs.map (Od.get e') := by
  intro xs
  induction xs with
  | nil => intro _; rfl
  | cons x xs ih =>
    intro h
    simp only [List.map_cons]
    rw [od_congr (e' := e') (fun n hn => h n (by simp [hn])), ih (fun n hn => h n (by rw [List.flatMap_cons]; exact List.mem_append.2 (.inr hn)))]

theorem parts_congr {e e' : Env} : ∀ {xs : List (Nat × Nat × Od)}, (∀ n ∈ xs.flatMap (fun p => p.2.2.nums), Env.get e n = Env.get e' n) → partsOf e xs = partsOf e' xs := by
  intro xs
  induction xs with
  | nil => intro _; rfl
  | cons x xs ih =>
    intro h
    obtain ⟨a, b, x⟩ := x
    simp only [partsOf]
    rw [od_congr (e' := e') (fun n hn => h n (by simp [hn])), ih (fun n hn => h n (by rw [List.flatMap_cons]; exact List.mem_append.2 (.inr hn)))]

theorem caps_congr {e e' : Env} : ∀ {xs : List Od}, (∀ n ∈ xs.flatMap Od.nums, Env.get e n = Env.get e' n) → capsOf e xs = capsOf e' xs := by
  intro xs
  induction xs with
  | nil => intro _; rfl
  | cons x xs ih =>
    intro h
    simp only [capsOf]
    rw [od_congr (e' := e') (fun n hn => h n (by simp [hn])), ih (fun n hn => h n (by rw [List.flatMap_cons]; exact List.mem_append.2 (.inr hn)))]

theorem step_congr {K : Orc} {e e' : Env} {H : Hp} {o : VOp} (h : ∀ n ∈ opnds o, Env.get e n = Env.get e' n) : stepV K e H o = stepV K e' H o := by
  cases o with
  | alloc zs => rfl
  | build zs ps => simp only [stepV]; rw [parts_congr h]
  | bsl sz zs n ps => simp only [stepV]; rw [parts_congr h]
  | mkf f xs => simp only [stepV]; rw [caps_congr h]
  | call f xs => simp only [stepV]; rw [ods_congr h]
  | clv x xs =>
    simp only [stepV]
    rw [od_congr (e' := e') (fun n hn => h n (by simp [opnds, hn])), ods_congr (e' := e') (fun n hn => h n (by unfold opnds; exact List.mem_append.2 (.inr hn)))]
  | ld n x =>
    have := od_congr (e' := e') (fun m hm => h m (by simp [opnds, hm]) : ∀ m ∈ x.nums, Env.get e m = Env.get e' m)
    cases n <;> simp only [stepV, this]
  | slc sz x lo hi =>
    have h1 := od_congr (e' := e') (fun m hm => h m (by simp [opnds, hm]) : ∀ m ∈ x.nums, Env.get e m = Env.get e' m)
    have h2 : lo.map (Od.get e) = lo.map (Od.get e') := by
      cases lo with
      | none => rfl
      | some y => simp only [Option.map_some]; rw [od_congr (e' := e') (fun m hm => h m (by simp [opnds, hm]))]
    have h3 : hi.map (Od.get e) = hi.map (Od.get e') := by
      cases hi with
      | none => rfl
      | some y => simp only [Option.map_some]; rw [od_congr (e' := e') (fun m hm => h m (by simp [opnds, hm]))]
    simp only [stepV, h1, h2, h3]
  | pick c a b =>
    simp only [stepV]
    rw [od_congr (x := c) (e' := e') (fun n hn => h n (by simp [opnds, hn])), od_congr (x := a) (e' := e') (fun n hn => h n (by simp [opnds, hn])), od_congr (x := b) (e' := e') (fun n hn => h n (by simp [opnds, hn]))]
  | bck x y z u =>
    simp only [stepV]
    rw [od_congr (x := x) (e' := e') (fun n hn => h n (by simp [opnds, hn])), od_congr (x := y) (e' := e') (fun n hn => h n (by simp [opnds, hn])), od_congr (x := z) (e' := e') (fun n hn => h n (by simp [opnds, hn])), od_congr (x := u) (e' := e') (fun n hn => h n (by simp [opnds, hn]))]
  | st n x y | bin o x y | eqa n g x y | eqb g x y | idx sz x y | app sz x y | mn x y | mx x y =>
    simp only [stepV]
    rw [od_congr (x := x) (e' := e') (fun n hn => h n (by simp [opnds, hn])), od_congr (x := y) (e' := e') (fun n hn => h n (by simp [opnds, hn]))]
  | mv x | box x | nilc x | shk l n x | eqn g x | not x | b2i x | s2b x | mks sz zs x | fad o x | ext k x | len x | lens x | clr sz zs x =>
    simp only [stepV]
    rw [od_congr (x := x) (e' := e') (fun n hn => h n (by simp [opnds, hn]))]

theorem run_congr {K : Orc} {e e' : Env} {H : Hp} {vo : VO} {s : St} (h : ∀ n ∈ reads vo, Env.get e n = Env.get e' n) (hr : runOp K vo ⟨e, H⟩ = some s) :
    ∃ v, s = ⟨setD e vo.d v, s.h⟩ ∧ runOp K vo ⟨e', H⟩ = some ⟨setD e' vo.d v, s.h⟩ := by
  obtain ⟨d, o, gd, dp⟩ := vo
  have ho : ∀ n ∈ opnds o, Env.get e n = Env.get e' n := fun n hn => h n (by simp [reads, hn])
  cases gd with
  | none =>
    simp only [runOp] at hr ⊢
    rw [← step_congr ho]
    obtain ⟨r, h1, h2⟩ := Option.bind_eq_some_iff.1 hr
    injection h2 with h2; subst h2
    exact ⟨r.1, rfl, by rw [h1]; rfl⟩
  | some p =>
    obtain ⟨g, w⟩ := p
    simp only [runOp] at hr ⊢
    rw [← step_congr ho, ← h g (by simp [reads])]
    split at hr
    · rename_i x hx
      by_cases hxw : x = w
      · rw [if_pos hxw] at hr
        simp only [if_pos hxw]
        obtain ⟨r, h1, h2⟩ := Option.bind_eq_some_iff.1 hr
        injection h2 with h2; subst h2
        exact ⟨r.1, rfl, by rw [h1]; rfl⟩
      · rw [if_neg hxw] at hr
        simp only [if_neg hxw]
        injection hr with hr; subst hr
        exact ⟨.c .non, rfl, rfl⟩
    · cases hr

/-- Operations that must come ahead. -/
def ancB (ops : List VO) : Nat → Nat → Nat → Bool
  | 0, _, _ => false
  | f + 1, i, j => match ops[i]? with
    | none => false
    | some o => o.dp.contains j || o.dp.any fun k => ancB ops f k j

/-- All others come ahead of it or behind it. -/
def barB (ops : List VO) (i : Nat) : Bool :=
  (List.range ops.length).all fun j => (j == i) || (if j < i then ancB ops ops.length i j else ancB ops ops.length j i)

/-- In the text's order, the heap left alone but where all others come ahead or behind. -/
def runPure (K : Orc) : List VO → St → Option St
  | [], st => some st
  | o :: r, st => (runOp K o st).bind fun st' => if o.br = true then runPure K r st' else if st'.h = st.h then runPure K r st' else none

def DrawOk (ops : List VO) : Prop :=
  (∀ (i j : Nat) (o o' : VO) (n : Nat), ops[i]? = some o → ops[j]? = some o' → n ∈ reads o → o'.d = some n → ((∃ f, ancB ops f i j = true) ∧ j < i) ∨ i = j ∨ ((∃ f, ancB ops f j i = true) ∧ i < j)) ∧
  (∀ (i j : Nat) (o o' : VO) (n : Nat), ops[i]? = some o → ops[j]? = some o' → o.d = some n → o'.d = some n → i = j) ∧
  (∀ (i : Nat) (o : VO), ops[i]? = some o → ∀ j ∈ o.dp, j < i) ∧
  (∀ (i : Nat) (o : VO), ops[i]? = some o → o.br = true → ∀ (j : Nat), j < ops.length → (j < i → ∃ f, ancB ops f i j = true) ∧ (i < j → ∃ f, ancB ops f j i = true))

def isBar (ops : List VO) (i : Nat) : Prop := ∃ o, ops[i]? = some o ∧ o.br = true

theorem get_setD {e : Env} {d : Option Nat} {v : IV} {n : Nat} : Env.get (setD e d v) n = if d = some n then v else Env.get e n := by
  cases d with
  | none => simp [setD]
  | some m => simp [setD, Env.get]

/-- What the run in the text's order met at each place. -/
theorem pure_at {K : Orc} : ∀ {ops : List VO} {e : Env} {h0 : Hp} {s : St}, runPure K ops ⟨e, h0⟩ = some s → ∃ H : Nat → Hp, H 0 = h0 ∧ H ops.length = s.h ∧
    (∀ (i : Nat) (o : VO), ops[i]? = some o → o.br = false → H (i + 1) = H i) ∧
    (∀ n, (∀ (j : Nat) (o : VO), ops[j]? = some o → o.d ≠ some n) → Env.get s.e n = Env.get e n) ∧
    ∀ (i : Nat) (o : VO), ops[i]? = some o → ∃ ei v, runOp K o ⟨ei, H i⟩ = some ⟨setD ei o.d v, H (i + 1)⟩ ∧
      (∀ n, (∀ (j : Nat) (o' : VO), j < i → ops[j]? = some o' → o'.d ≠ some n) → Env.get ei n = Env.get e n) ∧
      (∀ n, (∀ (j : Nat) (o' : VO), i ≤ j → ops[j]? = some o' → o'.d ≠ some n) → Env.get ei n = Env.get s.e n) ∧
      ∀ n, o.d = some n → (∀ (j : Nat) (o' : VO), i < j → ops[j]? = some o' → o'.d ≠ some n) → v = Env.get s.e n := by
  intro ops
  induction ops with
  | nil =>
    intro e h0 s h
    simp only [runPure, Option.some.injEq] at h
    subst h
    exact ⟨fun _ => h0, rfl, rfl, fun i o h => by simp at h, fun _ _ => rfl, fun i o h => by simp at h⟩
  | cons o r ih =>
    intro e h0 s h
    simp only [runPure] at h
    obtain ⟨st', h1, h2⟩ := Option.bind_eq_some_iff.1 h
    obtain ⟨v, hv, _⟩ := run_congr (e' := e) (fun _ _ => rfl) h1
    have hrest : runPure K r ⟨setD e o.d v, st'.h⟩ = some s ∧ (o.br = false → st'.h = h0) := by
      rw [← hv]
      by_cases hb : o.br = true
      · rw [if_pos hb] at h2; exact ⟨h2, fun hf => by rw [hb] at hf; cases hf⟩
      · rw [if_neg hb] at h2
        split at h2
        · rename_i hh; exact ⟨h2, fun _ => hh⟩
        · cases h2
    obtain ⟨hr, hsame⟩ := hrest
    obtain ⟨H, k0, kn, kb, k2, k3⟩ := ih hr
    refine ⟨fun i => match i with | 0 => h0 | i + 1 => H i, rfl, kn, ?_, fun n hn => ?_, fun i o' ho' => ?_⟩
    · intro i o' ho' hb
      cases i with
      | zero => simp at ho'; subst ho'; exact k0.trans (hsame hb)
      | succ i => exact kb i o' (by simpa using ho') hb
    · rw [k2 n (fun j o' hj => hn (j + 1) o' (by simpa using hj)), get_setD, if_neg (hn 0 o rfl)]
    · cases i with
      | zero =>
        simp at ho'
        subst ho'
        refine ⟨e, v, by rw [h1, hv]; exact congrArg some (by simp only [k0]), fun _ _ => rfl, fun n hn => ?_, fun n hd hn => ?_⟩
        · rw [k2 n (fun j o' hj => hn (j + 1) o' (by omega) (by simpa using hj)), get_setD, if_neg (hn 0 o (Nat.le_refl _) rfl)]
        · rw [k2 n (fun j o' hj => hn (j + 1) o' (by omega) (by simpa using hj)), get_setD, if_pos hd]
      | succ i =>
        obtain ⟨ei, u, g1, g2, g3, g4⟩ := k3 i o' (by simpa using ho')
        refine ⟨ei, u, g1, fun n hn => ?_, fun n hn => ?_, fun n hd hn => ?_⟩
        · rw [g2 n (fun j o'' hj hoj => hn (j + 1) o'' (by omega) (by simpa using hoj)), get_setD, if_neg (hn 0 o (by omega) rfl)]
        · exact g3 n (fun j o'' hj hoj => hn (j + 1) o'' (by omega) (by simpa using hoj))
        · exact g4 n hd (fun j o'' hj hoj => hn (j + 1) o'' (by omega) (by simpa using hoj))

theorem runOps_of_pure {K : Orc} : ∀ {ops : List VO} {st s : St}, runPure K ops st = some s → runOps K ops st = some s := by
  intro ops
  induction ops with
  | nil => intro st s h; exact h
  | cons o r ih =>
    intro st s h
    simp only [runPure, runOps] at h ⊢
    obtain ⟨st', h1, h2⟩ := Option.bind_eq_some_iff.1 h
    refine Option.bind_eq_some_iff.2 ⟨st', h1, ih ?_⟩
    split at h2
    · exact h2
    · split at h2
      · exact h2
      · cases h2

theorem mem_ready {ops : List VO} {listed : List Bool} {i : Nat} (h : i ∈ readyV ops listed) : ∃ o, ops[i]? = some o ∧ listed.getD i true = false ∧ ∀ j ∈ o.dp, listed.getD j false = true := by
  unfold readyV at h
  rw [List.mem_filter] at h
  obtain ⟨h1, h2⟩ := h
  rw [List.mem_range] at h1
  simp only [Bool.and_eq_true, Bool.not_eq_true'] at h2
  rw [List.getElem?_eq_getElem h1] at h2
  simp only [Option.map_some, Option.getD_some, List.all_eq_true] at h2
  exact ⟨_, List.getElem?_eq_getElem h1, h2.1, h2.2⟩

theorem ready_nilV {ops : List VO} {listed : List Bool} (hd : DrawOk ops) (hl : listed.length = ops.length) (h : readyV ops listed = []) : ∀ i, i < ops.length → listed.getD i false = true := by
  intro i
  induction i using Nat.strongRecOn with
  | _ i ih =>
    intro hi
    by_cases hc : listed.getD i false = true
    · exact hc
    · exfalso
      have hil : i < listed.length := by omega
      have hf : listed.getD i true = false := by
        rw [List.getD_eq_getElem?_getD, List.getElem?_eq_getElem hil] at hc ⊢
        simpa using hc
      have : i ∈ readyV ops listed := by
        unfold readyV
        rw [List.mem_filter, List.mem_range]
        refine ⟨hi, ?_⟩
        rw [hf, List.getElem?_eq_getElem hi]
        simp only [Bool.not_false, Bool.true_and, Option.map_some, Option.getD_some, List.all_eq_true]
        intro j hj
        have hji := hd.2.2.1 i _ (List.getElem?_eq_getElem hi) j hj
        exact ih j hji (by omega)
      rw [h] at this
      cases this

theorem anc_listed {ops : List VO} {listed : List Bool} (hcl : ∀ (i : Nat) (o : VO), ops[i]? = some o → listed.getD i false = true → ∀ j ∈ o.dp, listed.getD j false = true) :
    ∀ (f i j : Nat) (o : VO), ops[i]? = some o → (∀ k ∈ o.dp, listed.getD k false = true) → ancB ops f i j = true → listed.getD j false = true := by
  intro f
  induction f with
  | zero => intro i j o _ _ h; cases h
  | succ f ih =>
    intro i j o ho hdp h
    simp only [ancB, ho, Bool.or_eq_true, List.contains_eq_mem, decide_eq_true_eq, List.any_eq_true] at h
    rcases h with h | ⟨k, hk, h⟩
    · exact hdp j h
    · cases hok : ops[k]? with
      | none => cases f <;> simp [ancB, hok] at h
      | some o' => exact ih k j o' hok (hcl k o' hok (hdp k hk)) h

theorem draw_all {K : Orc} {ops : List VO} (hd : DrawOk ops) {e0 : Env} {h0 : Hp} {s : St} (hp : runPure K ops ⟨e0, h0⟩ = some s) (vars : List Nat) :
    ∃ H : Nat → Hp, H 0 = h0 ∧ (∀ (i : Nat) (o : VO), ops[i]? = some o → o.br = false → H (i + 1) = H i) ∧ ∀ (n : Nat) (listed : List Bool) (st : St), listed.length = ops.length → n = (listed.filter (fun b => !b)).length →
      (∀ (i : Nat) (o : VO), ops[i]? = some o → listed.getD i false = true → ∀ j ∈ o.dp, listed.getD j false = true) →
      (∀ k, k ≤ ops.length → (∀ b, isBar ops b → (listed.getD b false = true ↔ b < k)) → st.h = H k) →
      (∀ (m : Nat), (∀ (j : Nat) (o : VO), ops[j]? = some o → listed.getD j false = true → o.d ≠ some m) → Env.get st.e m = Env.get e0 m) →
      (∀ (m j : Nat) (o : VO), ops[j]? = some o → listed.getD j false = true → o.d = some m → Env.get st.e m = Env.get s.e m) →
      RunAll K ops (fun t => prune vars t = prune vars s) n listed st := by
  obtain ⟨H, q0, qn, qb, p2, p3⟩ := pure_at hp
  refine ⟨H, q0, qb, ?_⟩
  have hend : ∀ (listed : List Bool) (st : St), listed.length = ops.length →
      (∀ k, k ≤ ops.length → (∀ b, isBar ops b → (listed.getD b false = true ↔ b < k)) → st.h = H k) →
      (∀ (m : Nat), (∀ (j : Nat) (o : VO), ops[j]? = some o → listed.getD j false = true → o.d ≠ some m) → Env.get st.e m = Env.get e0 m) →
      (∀ (m j : Nat) (o : VO), ops[j]? = some o → listed.getD j false = true → o.d = some m → Env.get st.e m = Env.get s.e m) →
      readyV ops listed = [] → prune vars st = prune vars s := by
    intro listed st hl hh h1 h2 hr
    have hall := ready_nilV hd hl hr
    have hget : ∀ m, Env.get st.e m = Env.get s.e m := by
      intro m
      by_cases hm : ∃ (j : Nat) (o : VO), ops[j]? = some o ∧ o.d = some m
      · obtain ⟨j, o, hj, hdm⟩ := hm
        exact h2 m j o hj (hall j (List.getElem?_eq_some_iff.1 hj).1) hdm
      · have hno : ∀ (j : Nat) (o : VO), ops[j]? = some o → o.d ≠ some m := fun j o hj hdm => hm ⟨j, o, hj, hdm⟩
        rw [h1 m (fun j o hj _ => hno j o hj), p2 m hno]
    have hhs : st.h = s.h := by
      rw [← qn]
      refine hh _ (Nat.le_refl _) (fun b hb => ?_)
      obtain ⟨o, ho, _⟩ := hb
      have hlt := (List.getElem?_eq_some_iff.1 ho).1
      exact ⟨fun _ => hlt, fun _ => hall b hlt⟩
    unfold prune
    rw [hhs]
    congr 1
    exact List.map_congr_left fun k _ => by rw [hget k]
  intro n
  induction n with
  | zero =>
    intro listed st hl hn hcl hh h1 h2
    have hr : readyV ops listed = [] := by
      rw [List.eq_nil_iff_forall_not_mem]
      intro i hi
      obtain ⟨o, ho, hf, _⟩ := mem_ready hi
      have hil : i < listed.length := by rw [hl]; exact (List.getElem?_eq_some_iff.1 ho).1
      have hnil := List.eq_nil_of_length_eq_zero hn.symm
      rw [List.filter_eq_nil_iff] at hnil
      have := hnil (listed[i]) (List.getElem_mem hil)
      rw [List.getD_eq_getElem?_getD, List.getElem?_eq_getElem hil] at hf
      simp at hf this
      rw [hf] at this
      cases this
    exact ⟨hr, hend listed st hl hh h1 h2 hr⟩
  | succ n ih =>
    intro listed st hl hn hcl hh h1 h2
    refine ⟨hend listed st hl hh h1 h2, fun i hi => ?_⟩
    obtain ⟨o, ho, hf, hdp⟩ := mem_ready hi
    have hio : i < ops.length := (List.getElem?_eq_some_iff.1 ho).1
    have hil : i < listed.length := by omega
    have hfF : ¬ listed.getD i false = true := by
      rw [List.getD_eq_getElem?_getD, List.getElem?_eq_getElem hil] at hf ⊢
      simpa using hf
    obtain ⟨ei, v, g1, g2, g3, g4⟩ := p3 i o ho
    have hag : ∀ m ∈ reads o, Env.get ei m = Env.get st.e m := by
      intro m hm
      by_cases hx : ∃ (j : Nat) (o' : VO), ops[j]? = some o' ∧ o'.d = some m
      · obtain ⟨j, o', hj, hdm⟩ := hx
        have huniq : ∀ (j2 : Nat) (o2 : VO), ops[j2]? = some o2 → o2.d = some m → j = j2 := fun j2 o2 hoj hd2 => hd.2.1 j j2 o' o2 m hj hoj hdm hd2
        have hold : i ≤ j → ¬ listed.getD j false = true → Env.get ei m = Env.get st.e m := by
          intro hij hnl
          rw [h1 m (fun j2 o2 hj2 hl2 hd2 => by have := huniq j2 o2 hj2 hd2; subst this; exact hnl hl2), g2 m (fun j2 o2 hlt hj2 hd2 => by have := huniq j2 o2 hj2 hd2; omega)]
        rcases hd.1 i j o o' m ho hj hm hdm with ⟨⟨f, k1⟩, k2⟩ | rfl | ⟨⟨f, k1⟩, k2⟩
        · rw [h2 m j o' hj (anc_listed hcl f i j o ho hdp k1) hdm]
          refine g3 m (fun j2 o2 hj2 hoj hd2 => ?_)
          have := huniq j2 o2 hoj hd2
          omega
        · exact hold (Nat.le_refl _) hfF
        · exact hold (by omega) (fun hl2 => hfF (anc_listed hcl f j i o' hj (hcl j o' hj hl2) k1))
      · have hno : ∀ (j : Nat) (o : VO), ops[j]? = some o → o.d ≠ some m := fun j o hj hdm => hx ⟨j, o, hj, hdm⟩
        rw [h1 m (fun j o hj _ => hno j o hj), g2 m (fun j o' _ hj => hno j o' hj)]
    have hsep : ∀ b, isBar ops b → (listed.getD b false = true ↔ b < i) := by
      intro b hb
      obtain ⟨ob, hob, hbr⟩ := hb
      have hbl := (List.getElem?_eq_some_iff.1 hob).1
      have hq := hd.2.2.2 b ob hob hbr i hio
      constructor
      · intro hlb
        rcases Nat.lt_trichotomy b i with h | h | h
        · exact h
        · subst h; exact (hfF hlb).elim
        · obtain ⟨f, hf'⟩ := hq.1 h
          exact (hfF (anc_listed hcl f b i ob hob (hcl b ob hob hlb) hf')).elim
      · intro hlt
        obtain ⟨f, hf'⟩ := hq.2 hlt
        exact anc_listed hcl f i b o ho hdp hf'
    have hhi : st.h = H i := hh i (by omega) hsep
    obtain ⟨v', hv', hrun⟩ := run_congr hag g1
    have hvv : setD ei o.d v = setD ei o.d v' := by injection hv'
    have hrun' : runOp K o st = some ⟨setD st.e o.d v', H (i + 1)⟩ := by
      obtain ⟨se, sh⟩ := st
      simp only at hhi
      subst hhi
      exact hrun
    have hset : ∀ b, (listed.set i true).getD b false = true ↔ (b = i ∨ listed.getD b false = true) := by
      intro b
      by_cases e : b = i
      · subst e; simp [List.getD_eq_getElem?_getD, List.getElem?_set_self hil]
      · simp only [List.getD_eq_getElem?_getD, List.getElem?_set_ne (Ne.symm e), e, false_or]
    refine ⟨o, _, ho, hrun', ih (listed.set i true) _ (by simp [hl]) ?_ ?_ ?_ ?_ ?_⟩
    · have key : ∀ (l : List Bool) (i : Nat), l.getD i true = false → (l.filter (fun b => !b)).length = ((l.set i true).filter (fun b => !b)).length + 1 := by
        intro l
        induction l with
        | nil => intro i h; simp at h
        | cons b l ihl =>
          intro i h
          cases i with
          | zero => simp at h; subst h; simp
          | succ i =>
            have := ihl i (by simpa using h)
            cases b <;> simp [List.filter_cons, this]
      have := key listed i hf
      omega
    · intro i2 o2 ho2 hl2 j hj
      rw [hset]
      rcases (hset i2).1 hl2 with rfl | hl2
      · rw [ho] at ho2; injection ho2 with ho2; subst ho2; exact .inr (hdp j hj)
      · exact .inr (hcl i2 o2 ho2 hl2 j hj)
    · intro k hk hsk
      show H (i + 1) = H k
      by_cases hb : o.br = true
      · have hik : i < k := (hsk i ⟨o, ho, hb⟩).1 ((hset i).2 (.inl rfl))
        have hno : ∀ b, i < b → b < k → ¬ isBar ops b := by
          intro b hib hbk hbar
          have h3 := (hset b).1 ((hsk b hbar).2 hbk)
          rcases h3 with h3 | h3
          · omega
          · have := (hsep b hbar).1 h3; omega
        have hconst : ∀ d, i + 1 + d ≤ k → H (i + 1 + d) = H (i + 1) := by
          intro d
          induction d with
          | zero => intro _; rfl
          | succ d ihd =>
            intro hdk
            rw [← ihd (by omega)]
            obtain ⟨o2, ho2⟩ : ∃ o2 : VO, ops[i + 1 + d]? = some o2 := ⟨_, List.getElem?_eq_getElem (by omega)⟩
            refine qb (i + 1 + d) o2 ho2 ?_
            by_cases hb2 : o2.br = true
            · exact (hno (i + 1 + d) (by omega) (by omega) ⟨o2, ho2, hb2⟩).elim
            · simpa using hb2
        have := hconst (k - (i + 1)) (by omega)
        rw [show i + 1 + (k - (i + 1)) = k by omega] at this
        exact this.symm
      · have hb' : o.br = false := by simpa using hb
        rw [qb i o ho hb', ← hhi]
        refine hh k hk (fun b hbar => ?_)
        have hbi : b ≠ i := by
          rintro rfl
          obtain ⟨ob, hob, hbr⟩ := hbar
          rw [ho] at hob; injection hob with hob; subst hob
          rw [hb'] at hbr; cases hbr
        rw [← hsk b hbar, hset]
        simp [hbi]
    · intro m hm
      have hmi : o.d ≠ some m := hm i o ho ((hset i).2 (.inl rfl))
      show Env.get (setD st.e o.d v') m = _
      rw [get_setD, if_neg hmi]
      exact h1 m (fun j o' hj hlj => hm j o' hj ((hset j).2 (.inr hlj)))
    · intro m j o' hj hlj hdm
      show Env.get (setD st.e o.d v') m = _
      by_cases e : j = i
      · subst e
        rw [ho] at hj; injection hj with hj; subst hj
        rw [get_setD, if_pos hdm]
        have hv2 : v = v' := by
          have := congrArg (fun x => Env.get x m) hvv
          simp only [get_setD, if_pos hdm] at this
          exact this
        rw [← hv2]
        refine g4 m hdm (fun j2 o2 hj2 hoj hd2 => ?_)
        have := hd.2.1 j j2 o o2 m ho hoj hdm hd2
        omega
      · have hne : o.d ≠ some m := fun hc => e (hd.2.1 j i o' o m hj ho hdm hc)
        rw [get_setD, if_neg hne]
        refine h2 m j o' hj ?_ hdm
        rcases (hset j).1 hlj with h | h
        · exact (e h).elim
        · exact h

theorem runDraw_pure {K : Orc} {ops : List VO} (hd : DrawOk ops) {st s : St} (hp : runPure K ops st = some s) (vars : List Nat) : runDraw K vars ops st = some (prune vars s) := by
  unfold runDraw
  rw [runOps_of_pure hp]
  simp only
  rw [if_pos]
  obtain ⟨H, hH, hb, hall⟩ := draw_all hd (e0 := st.e) (h0 := st.h) hp vars
  have hno : ∀ j, ¬ (List.replicate ops.length false).getD j false = true := by
    intro j hl
    rw [List.getD_eq_getElem?_getD, List.getElem?_replicate] at hl
    split at hl <;> simp at hl
  refine hall _ _ _ (by simp) (by simp) (fun i o ho hl => (hno i hl).elim) (fun k hk hs => ?_) (fun _ _ => rfl) (fun m j o hj hl => (hno j hl).elim)
  rw [← hH]
  have hconst : ∀ d, d ≤ k → H d = H 0 := by
    intro d
    induction d with
    | zero => intro _; rfl
    | succ d ihd =>
      intro hdk
      rw [← ihd (by omega)]
      obtain ⟨o2, ho2⟩ : ∃ o2 : VO, ops[d]? = some o2 := ⟨_, List.getElem?_eq_getElem (by omega)⟩
      refine hb d o2 ho2 ?_
      by_cases hb2 : o2.br = true
      · exact (hno d ((hs d ⟨o2, ho2, hb2⟩).2 (by omega))).elim
      · simpa using hb2
  exact (hconst k (Nat.le_refl _)).symm

/-! ### Code with such regions -/
def drawOkB (ops : List VO) : Bool :=
  (List.range ops.length).all fun i => match ops[i]? with
    | none => true
    | some o => (o.dp.all fun j => decide (j < i)) && (!o.br || barB ops i) && (List.range ops.length).all fun j => match ops[j]? with
      | none => true
      | some o' => match o'.d with
        | none => true
        | some n => (!(reads o).contains n || ((ancB ops ops.length i j && decide (j < i)) || (decide (i = j) || (ancB ops ops.length j i && decide (i < j))))) && (decide (i = j) || decide (o.d ≠ some n))

theorem drawOk_of {ops : List VO} (h : drawOkB ops = true) : DrawOk ops := by
  unfold drawOkB at h
  rw [List.all_eq_true] at h
  have h1 : ∀ (i : Nat) (o : VO), ops[i]? = some o → (∀ j ∈ o.dp, j < i) ∧ (o.br = true → barB ops i = true) ∧
      ∀ (j : Nat) (o' : VO), ops[j]? = some o' → ∀ n, o'.d = some n → (n ∈ reads o → (ancB ops ops.length i j = true ∧ j < i) ∨ (i = j ∨ (ancB ops ops.length j i = true ∧ i < j))) ∧ (i = j ∨ o.d ≠ some n) := by
    intro i o ho
    have := h i (List.mem_range.2 (List.getElem?_eq_some_iff.1 ho).1)
    rw [ho] at this
    simp only [Bool.and_eq_true, List.all_eq_true, decide_eq_true_eq] at this
    refine ⟨this.1.1, fun hb => ?_, fun j o' ho' n hn => ?_⟩
    · have h3 := this.1.2
      rw [hb] at h3
      simpa using h3
    · have h2 := this.2 j (List.mem_range.2 (List.getElem?_eq_some_iff.1 ho').1)
      rw [ho'] at h2
      simp only [hn] at h2
      simp only [Bool.and_eq_true, Bool.or_eq_true, Bool.not_eq_true', decide_eq_true_eq, List.contains_eq_mem, decide_eq_false_iff_not] at h2
      refine ⟨fun hm => ?_, h2.2⟩
      rcases h2.1 with h3 | h3
      · exact (h3 hm).elim
      · exact h3
  refine ⟨fun i j o o' n ho ho' hn hd => ?_, fun i j o o' n ho ho' hd hd' => ?_, fun i o ho => (h1 i o ho).1, fun i o ho hb j hj => ?_⟩
  · rcases ((h1 i o ho).2.2 j o' ho' n hd).1 hn with h | h | h
    · exact .inl ⟨⟨_, h.1⟩, h.2⟩
    · exact .inr (.inl h)
    · exact .inr (.inr ⟨⟨_, h.1⟩, h.2⟩)
  · rcases ((h1 i o ho).2.2 j o' ho' n hd').2 with h2 | h2
    · exact h2
    · exact (h2 hd).elim
  · have hb' := (h1 i o ho).2.1 hb
    unfold barB at hb'
    rw [List.all_eq_true] at hb'
    have h3 := hb' j (List.mem_range.2 hj)
    simp only [Bool.or_eq_true, beq_iff_eq] at h3
    refine ⟨fun hlt => ?_, fun hlt => ?_⟩
    · rcases h3 with h3 | h3
      · omega
      · rw [if_pos hlt] at h3; exact ⟨_, h3⟩
    · rcases h3 with h3 | h3
      · omega
      · rw [if_neg (by omega)] at h3; exact ⟨_, h3⟩

def drawsB : VC → Bool
  | .rd ops => drawOkB ops
  | .seq a b => drawsB a && drawsB b
  | .cond _ a b => drawsB a && drawsB b
  | .block _ c => drawsB c
  | .loop c => drawsB c
  | _ => true

/-- Code, whatever its count: regions with a drawn order done in the text's order, where that leaves the heap alone. -/
noncomputable def exG (K : Orc) (vars : List Nat) : VC → St → Option (X × St)
  | .skip, st => some (.norm, st)
  | .rg ops, st => (runOps K ops st).bind fun s => some (.norm, prune vars s)
  | .rd ops, st => match runPure K ops st with
    | some s => some (.norm, prune vars s)
    | none => (runDraw K vars ops st).bind fun s => some (.norm, s)
  | .seq a b, st => (exG K vars a st).bind fun r => match r.1 with
    | .norm => exG K vars b r.2
    | x => some (x, r.2)
  | .cond x a b, st => match x.get st.e with
    | .c (.b true) => exG K vars a st
    | .c (.b false) => exG K vars b st
    | _ => none
  | .block k c, st => (exG K vars c st).bind fun r => match r.1 with
    | .exit k' => if k' = k then some (.norm, r.2) else some (.exit k', r.2)
    | x => some (x, r.2)
  | .loop c, st => loopF (exG K vars c) st
  | .exit k, st => some (.exit k, st)
  | .ret, st => some (.ret, st)

theorem exG_exF {K : Orc} {vars : List Nat} : ∀ {c : VC} {st : St} {r : X × St}, drawsB c = true → exG K vars c st = some r → exF K vars c st = some r := by
  intro c
  induction c with
  | skip => intro st r _ h; exact h
  | exit k => intro st r _ h; exact h
  | ret => intro st r _ h; exact h
  | rg ops => intro st r _ h; exact h
  | rd ops =>
    intro st r hd h
    simp only [exG] at h
    split at h
    · rename_i s hs
      simp only [exF]
      rw [runDraw_pure (drawOk_of hd) hs]
      exact h
    · exact h
  | seq a b iha ihb =>
    intro st r hd h
    simp only [drawsB, Bool.and_eq_true] at hd
    simp only [exG, exF] at h ⊢
    obtain ⟨⟨x, s⟩, h1, h2⟩ := Option.bind_eq_some_iff.1 h
    refine Option.bind_eq_some_iff.2 ⟨⟨x, s⟩, iha hd.1 h1, ?_⟩
    cases x with
    | norm => exact ihb hd.2 h2
    | exit k => exact h2
    | ret => exact h2
  | cond x a b iha ihb =>
    intro st r hd h
    simp only [drawsB, Bool.and_eq_true] at hd
    simp only [exG, exF] at h ⊢
    split at h
    · rename_i hg; rw [hg]; exact iha hd.1 h
    · rename_i hg; rw [hg]; exact ihb hd.2 h
    · cases h
  | block k c ih =>
    intro st r hd h
    simp only [drawsB] at hd
    simp only [exG, exF] at h ⊢
    obtain ⟨x, h1, h2⟩ := Option.bind_eq_some_iff.1 h
    exact Option.bind_eq_some_iff.2 ⟨x, ih hd h1, h2⟩
  | loop c ih =>
    intro st r hd h
    simp only [drawsB] at hd
    simp only [exG, exF] at h ⊢
    obtain ⟨n, hn⟩ := loopF_some.1 h
    exact loopF_some.2 ⟨n, iter_mono (fun s r hr => ih hd hr) (Nat.le_refl n) hn⟩

theorem call_ofG {M : Code} {X0 : Orc} {f : Nat} {vf : VF} (hM : M f = some vf) (hd : drawsB vf.body = true) {as : List IV} {H : Hp} {r : IV × Hp}
    (h : (exG (call M X0) vf.vars vf.body ⟨enter vf.vars as, H⟩).bind (fin H vf.res) = some r) : call M X0 f as H = some r := by
  obtain ⟨s, h1, h2⟩ := Option.bind_eq_some_iff.1 h
  exact call_of hM (Option.bind_eq_some_iff.2 ⟨s, exG_exF hd h1, h2⟩)

end Go.Proofs.Ytlhhmlldcpafiaa.Vm
