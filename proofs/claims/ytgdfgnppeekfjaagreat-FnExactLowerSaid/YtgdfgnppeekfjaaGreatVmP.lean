/- Regions whose order is drawn: whatever the order, they end as in the text's, where what is looked at is not changed by what has no order to it. Conditions: what changes memory has an order (`drawOkB`). -/
import Derived.Test.YtgdfgnppeekfjaaGreatVmS
namespace Go.Proofs.YtgdfgnppeekfjaaGreat.Vm
open Go.RowKit (wrap64)
set_option linter.unusedSimpArgs false
set_option linter.unusedVariables false
def Od.nums : Od → List Nat
  | .t n => [n]
  | .k _ => []
def opnds : VOp → List Nat
  | .mv x | .box x | .nilc x | .shk _ _ x | .eqn _ x | .not x | .b2i x | .s2b x | .mks _ _ x | .fad _ x | .ext _ x | .len x | .lens x | .clr _ _ x | .ld _ x => x.nums
  | .pick c a b => c.nums ++ a.nums ++ b.nums
  | .alloc _ => []
  | .build _ ps => ps.flatMap fun p => p.2.2.nums
  | .bsl _ _ _ ps => ps.flatMap fun p => p.2.2.nums
  | .st _ x y | .bin _ x y | .eqa _ _ x y | .eqb _ x y | .idx _ x y | .app _ x y | .mn x y | .mx x y => x.nums ++ y.nums
  | .bck x y z u => x.nums ++ y.nums ++ z.nums ++ u.nums
  | .slc _ x lo hi => x.nums ++ (lo.map Od.nums).getD [] ++ (hi.map Od.nums).getD []
  | .mkf _ xs => xs.flatMap Od.nums
  | .call _ xs => xs.flatMap Od.nums
  | .clv x xs => x.nums ++ xs.flatMap Od.nums
def reads (vo : VO) : List Nat := opnds vo.o ++ (match vo.gd with | some (s, _) => [s] | none => [])
theorem od_congr {e e' : Env} {x : Od} (h : ∀ n ∈ x.nums, Env.get e n = Env.get e' n) : x.get e = x.get e' := by
  cases x with
  | t n => exact h n (by simp [Od.nums])
  | k v => rfl
theorem ods_congr {e e' : Env} : ∀ {xs : List Od}, (∀ n ∈ xs.flatMap Od.nums, Env.get e n = Env.get e' n) → xs.map (Od.get e) = xs.map (Od.get e') := by
  intro xs
  induction xs with
  | nil => intro _; rfl
  | cons x xs ih =>
    intro h
    simp only [List.map_cons]
    rw [od_congr (e' := e') (fun n hn => h n (by simp [hn])), ih (fun n hn => h n (by rw [List.flatMap_cons]; exact List.mem_append.2 (.inr hn)))]
theorem parts_congr {e e' : Env} : ∀ {xs : List (Nat × Nat × Od)}, (∀ n ∈ xs.flatMap (fun p => p.2.2.nums), Env.get e n = Env.get e' n) → partsOf e xs = partsOf e' xs := by
  intro xs
  induction xs with
  | nil => intro _; rfl
  | cons x xs ih =>
    intro h
    obtain ⟨a, b, x⟩ := x
    simp only [partsOf]
    rw [od_congr (e' := e') (fun n hn => h n (by simp [hn])), ih (fun n hn => h n (by rw [List.flatMap_cons]; exact List.mem_append.2 (.inr hn)))]
theorem caps_congr {e e' : Env} : ∀ {xs : List Od}, (∀ n ∈ xs.flatMap Od.nums, Env.get e n = Env.get e' n) → capsOf e xs = capsOf e' xs := by
  intro xs
  induction xs with
  | nil => intro _; rfl
  | cons x xs ih =>
    intro h
    simp only [capsOf]
    rw [od_congr (e' := e') (fun n hn => h n (by simp [hn])), ih (fun n hn => h n (by rw [List.flatMap_cons]; exact List.mem_append.2 (.inr hn)))]
theorem step_congr {K : Orc} {e e' : Env} {H : Hp} {o : VOp} (h : ∀ n ∈ opnds o, Env.get e n = Env.get e' n) : stepV K e H o = stepV K e' H o := by
  cases o with
  | alloc zs => rfl
  | build zs ps => simp only [stepV]; rw [parts_congr h]
  | bsl sz zs n ps => simp only [stepV]; rw [parts_congr h]
  | mkf f xs => simp only [stepV]; rw [caps_congr h]
  | call f xs => simp only [stepV]; rw [ods_congr h]
  | clv x xs =>
    simp only [stepV]
    rw [od_congr (e' := e') (fun n hn => h n (by simp [opnds, hn])), ods_congr (e' := e') (fun n hn => h n (by unfold opnds; exact List.mem_append.2 (.inr hn)))]
  | ld n x =>
    have := od_congr (e' := e') (fun m hm => h m (by simp [opnds, hm]) : ∀ m ∈ x.nums, Env.get e m = Env.get e' m)
    cases n <;> simp only [stepV, this]
  | slc sz x lo hi =>
    have h1 := od_congr (e' := e') (fun m hm => h m (by simp [opnds, hm]) : ∀ m ∈ x.nums, Env.get e m = Env.get e' m)
    have h2 : lo.map (Od.get e) = lo.map (Od.get e') := by
      cases lo with
      | none => rfl
      | some y => simp only [Option.map_some]; rw [od_congr (e' := e') (fun m hm => h m (by simp [opnds, hm]))]
    have h3 : hi.map (Od.get e) = hi.map (Od.get e') := by
      cases hi with
      | none => rfl
      | some y => simp only [Option.map_some]; rw [od_congr (e' := e') (fun m hm => h m (by simp [opnds, hm]))]
    simp only [stepV, h1, h2, h3]
  | pick c a b =>
    simp only [stepV]
    rw [od_congr (x := c) (e' := e') (fun n hn => h n (by simp [opnds, hn])), od_congr (x := a) (e' := e') (fun n hn => h n (by simp [opnds, hn])), od_congr (x := b) (e' := e') (fun n hn => h n (by simp [opnds, hn]))]
  | bck x y z u =>
    simp only [stepV]
    rw [od_congr (x := x) (e' := e') (fun n hn => h n (by simp [opnds, hn])), od_congr (x := y) (e' := e') (fun n hn => h n (by simp [opnds, hn])), od_congr (x := z) (e' := e') (fun n hn => h n (by simp [opnds, hn])), od_congr (x := u) (e' := e') (fun n hn => h n (by simp [opnds, hn]))]
  | st n x y | bin o x y | eqa n g x y | eqb g x y | idx sz x y | app sz x y | mn x y | mx x y =>
    simp only [stepV]
    rw [od_congr (x := x) (e' := e') (fun n hn => h n (by simp [opnds, hn])), od_congr (x := y) (e' := e') (fun n hn => h n (by simp [opnds, hn]))]
  | mv x | box x | nilc x | shk l n x | eqn g x | not x | b2i x | s2b x | mks sz zs x | fad o x | ext k x | len x | lens x | clr sz zs x =>
    simp only [stepV]
    rw [od_congr (x := x) (e' := e') (fun n hn => h n (by simp [opnds, hn]))]
theorem get_setD {e : Env} {d : Option Nat} {v : IV} {n : Nat} : Env.get (setD e d v) n = if d = some n then v else Env.get e n := by
  cases d with
  | none => simp [setD]
  | some m => simp [setD, Env.get]
def ancB (ops : List VO) : Nat → Nat → Nat → Bool
  | 0, _, _ => false
  | f + 1, i, j => match ops[i]? with
    | none => false
    | some o => o.dp.contains j || o.dp.any fun k => ancB ops f k j
theorem mem_ready {ops : List VO} {listed : List Bool} {i : Nat} (h : i ∈ readyV ops listed) : ∃ o, ops[i]? = some o ∧ listed.getD i true = false ∧ ∀ j ∈ o.dp, listed.getD j false = true := by
  unfold readyV at h
  rw [List.mem_filter] at h
  obtain ⟨h1, h2⟩ := h
  rw [List.mem_range] at h1
  simp only [Bool.and_eq_true, Bool.not_eq_true'] at h2
  rw [List.getElem?_eq_getElem h1] at h2
  simp only [Option.map_some, Option.getD_some, List.all_eq_true] at h2
  exact ⟨_, List.getElem?_eq_getElem h1, h2.1, h2.2⟩
theorem anc_listed {ops : List VO} {listed : List Bool} (hcl : ∀ (i : Nat) (o : VO), ops[i]? = some o → listed.getD i false = true → ∀ j ∈ o.dp, listed.getD j false = true) :
    ∀ (f i j : Nat) (o : VO), ops[i]? = some o → (∀ k ∈ o.dp, listed.getD k false = true) → ancB ops f i j = true → listed.getD j false = true := by
  intro f
  induction f with
  | zero => intro i j o _ _ h; cases h
  | succ f ih =>
    intro i j o ho hdp h
    simp only [ancB, ho, Bool.or_eq_true, List.contains_eq_mem, decide_eq_true_eq, List.any_eq_true] at h
    rcases h with h | ⟨k, hk, h⟩
    · exact hdp j h
    · cases hok : ops[k]? with
      | none => cases f <;> simp [ancB, hok] at h
      | some o' => exact ih k j o' hok (hcl k o' hok (hdp k hk)) h
theorem stepD_congr {K : OrD} {e e' : Env} {H : Hp} {o : VOp} {Q : IV × Hp → Prop} (h : ∀ n ∈ opnds o, Env.get e n = Env.get e' n) (hs : stepD K e H o Q) : stepD K e' H o Q := by
  by_cases h1 : ∃ f as, o = .call f as
  · obtain ⟨f, as, rfl⟩ := h1
    simp only [stepD] at hs ⊢
    rw [← ods_congr h]; exact hs
  · by_cases h2 : ∃ x as, o = .clv x as
    · obtain ⟨x, as, rfl⟩ := h2
      simp only [stepD] at hs ⊢
      rw [← od_congr (x := x) (e := e) (fun n hn => h n (by simp [opnds, hn])), ← ods_congr (e := e) (fun n hn => h n (by unfold opnds; exact List.mem_append.2 (.inr hn)))]
      exact hs
    · unfold stepD at hs ⊢
      split at hs
      · exact (h1 ⟨_, _, rfl⟩).elim
      · exact (h2 ⟨_, _, rfl⟩).elim
      · rw [← step_congr h]; exact hs
theorem runOpD_congr {K : OrD} (hm : MonoK K) {vo : VO} {e e' : Env} {H : Hp} {k k' : St → Prop} (h : ∀ n ∈ reads vo, Env.get e n = Env.get e' n)
    (hk : ∀ v H', k ⟨setD e vo.d v, H'⟩ → k' ⟨setD e' vo.d v, H'⟩) (hr : runOpD K vo ⟨e, H⟩ k) : runOpD K vo ⟨e', H⟩ k' := by
  have ho : ∀ n ∈ opnds vo.o, Env.get e n = Env.get e' n := fun n hn => h n (by simp [reads, hn])
  obtain ⟨d, o, gd, dp, ck, rc⟩ := vo
  cases gd with
  | none => exact stepD_le hm.le (fun r => hk r.1 r.2) (stepD_congr ho hr)
  | some p =>
    obtain ⟨g, w⟩ := p
    have hg : Env.get e g = Env.get e' g := h g (by simp [reads])
    simp only [runOpD] at hr ⊢
    rw [← hg]
    split at hr
    · split at hr
      · rename_i hc; rw [if_pos hc]; exact stepD_le hm.le (fun r => hk r.1 r.2) (stepD_congr ho hr)
      · rename_i hc; rw [if_neg hc]; exact hk _ _ hr
    · exact hk _ _ hr
    · exact hr
def isE : VOp → Bool
  | .alloc _ | .box _ | .bsl .. | .s2b _ | .mks .. | .call .. | .clv .. | .app .. | .st .. | .clr .. => true
  | _ => false
def isR : VOp → Bool
  | .ld .. | .slc .. => true
  | _ => false
def rdv (e : Env) : VOp → CV
  | .ld _ a => match a.get e with
    | .c v => v
    | _ => .non
  | .slc _ x _ _ => match x.get e with
    | .c v => v
    | _ => .non
  | _ => .non
def sameAt (v : CV) (H H' : Hp) : Prop :=
  match v with
  | .p id g _ => rdOb H' id g = rdOb H id g
  | .sl id g _ _ => rdOb H' id g = rdOb H id g
  | _ => True
theorem sameAt.symm {v : CV} {H H' : Hp} (h : sameAt v H H') : sameAt v H' H := by
  cases v <;> first | exact trivial | exact Eq.symm h
theorem sameAt.trans {v : CV} {H H' H'' : Hp} (h : sameAt v H H') (k : sameAt v H' H'') : sameAt v H H'' := by
  cases v <;> first | exact trivial | exact Eq.trans k h
theorem rdv_pure {e : Env} {o : VOp} (h : isR o = false) : rdv e o = .non := by
  cases o <;> first | rfl | (simp [isR] at h)
theorem rdv_congr {e e' : Env} {o : VOp} (h : ∀ n ∈ opnds o, Env.get e n = Env.get e' n) : rdv e o = rdv e' o := by
  cases o <;> first | rfl | skip
  · rename_i n a
    simp only [rdv]; rw [od_congr (e' := e') (fun m hm => h m (by simp [opnds, hm]))]
  · rename_i sz x lo hi
    simp only [rdv]; rw [od_congr (e' := e') (fun m hm => h m (by simp [opnds, hm]))]
theorem det_step {e : Env} {H H' : Hp} {o : VOp} (ho : isE o = false) (hs : sameAt (rdv e o) H H') : stepV noK e H' o = (stepV noK e H o).map fun r => (r.1, H') := by
  cases o <;> first | (simp [isE] at ho; done) | skip
  case ld n a =>
    cases n with
    | none =>
      simp only [stepV, rdv] at hs ⊢
      split
      · rename_i id g off hu
        rw [hu] at hs
        have hs : rdOb H' id g = rdOb H id g := hs
        simp only [hs]
        cases rdOb H id g with
        | none => rfl
        | some o => simp only [Option.bind_some]; cases o.cells[off]? <;> rfl
      · rfl
    | some n =>
      simp only [stepV, rdv] at hs ⊢
      split
      · rename_i id g off hu
        rw [hu] at hs
        have hs : rdOb H' id g = rdOb H id g := hs
        simp only [hs]
        cases rdOb H id g with
        | none => rfl
        | some o => simp only [Option.bind_some]; split <;> rfl
      · rfl
  case slc sz x lo hi =>
    simp only [stepV, rdv] at hs ⊢
    split
    · rename_i v hu
      rw [hu] at hs
      have hd : doSlice H' sz v (lo.map (Od.get e)) (hi.map (Od.get e)) = doSlice H sz v (lo.map (Od.get e)) (hi.map (Od.get e)) := by
        cases v <;> first | rfl | skip
        rename_i id g off len
        have hs : rdOb H' id g = rdOb H id g := hs
        simp only [doSlice, hs]
      rw [hd]
      cases doSlice H sz v (lo.map (Od.get e)) (hi.map (Od.get e)) <;> rfl
    · rfl
  case mv x => rfl
  case pick c a b => simp only [stepV]; split <;> rfl
  case build zs ps =>
    simp only [stepV]
    cases partsOf e ps with
    | none => rfl
    | some qs => simp only [Option.bind_some]; cases lay zs qs <;> rfl
  case nilc x => simp only [stepV]; split <;> rfl
  case bin o x y =>
    simp only [stepV]
    split
    · rename_i a b _ _; cases evalBin o a b <;> rfl
    · rfl
  case shk l n x =>
    simp only [stepV]
    split
    · split <;> rfl
    · rfl
  case bck x lo hi mx =>
    simp only [stepV]
    split
    · split <;> rfl
    · rfl
  case eqa n neg x y =>
    simp only [stepV]
    split
    · split <;> rfl
    · rfl
  case eqb neg x y => simp only [stepV]; split <;> rfl
  case eqn neg x => simp only [stepV]; split <;> rfl
  case not x => simp only [stepV]; split <;> rfl
  case b2i x => simp only [stepV]; split <;> rfl
  case fad off x => simp only [stepV]; split <;> rfl
  case idx sz x i =>
    simp only [stepV]
    split
    · split <;> rfl
    · rfl
  case ext k x =>
    simp only [stepV]
    split
    · rename_i xs _
      cases xs[k]? with
      | none => rfl
      | some t => simp only [Option.bind_some]; cases ivOf t <;> rfl
    · rfl
  case mkf f caps => simp only [stepV]; cases capsOf e caps <;> rfl
  case len x => simp only [stepV]; split <;> rfl
  case lens x => simp only [stepV]; split <;> rfl
  case mn x y => simp only [stepV]; split <;> rfl
  case mx x y => simp only [stepV]; split <;> rfl
def valO (vo : VO) (e : Env) (H : Hp) : Option IV :=
  match vo.gd with
  | none => (stepV noK e H vo.o).map (·.1)
  | some (s, w) => match Env.get e s with
    | .c (.b x) => if x = w then (stepV noK e H vo.o).map (·.1) else some (.c .und)
    | .c .und => some (.c .und)
    | _ => none
theorem detD {K : OrD} {vo : VO} {e : Env} {H : Hp} {k : St → Prop} (ho : isE vo.o = false) : runOpD K vo ⟨e, H⟩ k ↔ ∃ v, valO vo e H = some v ∧ k ⟨setD e vo.d v, H⟩ := by
  have hst : ∀ Q : IV × Hp → Prop, stepD K e H vo.o Q ↔ ∃ v, (stepV noK e H vo.o).map (·.1) = some v ∧ Q (v, H) := by
    intro Q
    have h2 : ∀ r, stepV noK e H vo.o = some r → r.2 = H := by
      intro r hr
      have := det_step (e := e) (H := H) (H' := H) ho (by cases rdv e vo.o <;> first | exact trivial | exact rfl)
      rw [hr] at this
      simp only [Option.map_some, Option.some.injEq] at this
      rw [this]
    have h3 : stepD K e H vo.o Q = WP (stepV noK e H vo.o) Q := by
      unfold stepD
      split
      · rename_i h; rw [h] at ho; simp [isE] at ho
      · rename_i h; rw [h] at ho; simp [isE] at ho
      · rfl
    rw [h3]
    constructor
    · rintro ⟨⟨v, H'⟩, h4, h5⟩
      have := h2 _ h4
      simp only at this
      subst this
      exact ⟨v, by rw [h4]; rfl, h5⟩
    · rintro ⟨v, h4, h5⟩
      rw [Option.map_eq_some_iff] at h4
      obtain ⟨⟨v', H'⟩, h6, h7⟩ := h4
      have := h2 _ h6
      simp only at this h7
      subst this; subst h7
      exact ⟨_, h6, h5⟩
  unfold runOpD valO
  cases hg : vo.gd with
  | none => exact hst _
  | some p =>
    obtain ⟨s, w⟩ := p
    simp only
    cases hgs : Env.get e s with
    | c v =>
      cases v with
      | b x =>
        by_cases hc : x = w
        · simp only [if_pos hc]; exact hst _
        · simp only [if_neg hc]; simp
      | _ => simp
    | _ => simp
theorem valO_congr {vo : VO} {e e' : Env} {H : Hp} (h : ∀ n ∈ reads vo, Env.get e n = Env.get e' n) : valO vo e H = valO vo e' H := by
  have ho : ∀ n ∈ opnds vo.o, Env.get e n = Env.get e' n := fun n hn => h n (by simp [reads, hn])
  obtain ⟨d, o, gd, dp, ck, rc⟩ := vo
  cases gd with
  | none => simp only [valO]; rw [step_congr ho]
  | some p =>
    obtain ⟨g, w⟩ := p
    have hg : Env.get e g = Env.get e' g := h g (by simp [reads])
    simp only [valO]
    rw [hg, step_congr ho]
theorem valO_same {vo : VO} {e : Env} {H H' : Hp} (ho : isE vo.o = false) (hs : sameAt (rdv e vo.o) H H') : valO vo e H' = valO vo e H := by
  have h1 : (stepV noK e H' vo.o).map (·.1) = (stepV noK e H vo.o).map (·.1) := by
    rw [det_step ho hs, Option.map_map]; rfl
  unfold valO
  rw [h1]
def runL (K : OrD) (cx : Nat → Nat → Bool) : List (Nat × VO) → List (Nat × CV) → List (Nat × Hp) → St → (St → Prop) → Prop
  | [], _, _, st, k => k st
  | p :: r, rs, es, st, k =>
    if isE p.2.o = true then runOpD K p.2 st fun s => (∀ q ∈ rs, cx p.1 q.1 = true → sameAt q.2 st.h s.h) ∧ runL K cx r rs ((p.1, st.h) :: es) s k
    else runOpD K p.2 st fun s => (∀ q ∈ es, cx p.1 q.1 = true → sameAt (rdv st.e p.2.o) q.2 st.h) ∧ runL K cx r ((p.1, rdv st.e p.2.o) :: rs) es s k
def EqE (st st' : St) : Prop := st.h = st'.h ∧ ∀ n, Env.get st.e n = Env.get st'.e n
theorem EqE.setD {e e' : Env} {d : Option Nat} {v : IV} {H : Hp} (h : ∀ n, Env.get e n = Env.get e' n) : EqE ⟨setD e d v, H⟩ ⟨Vm.setD e' d v, H⟩ :=
  ⟨rfl, fun n => by show Env.get (Vm.setD e d v) n = Env.get (Vm.setD e' d v) n; rw [get_setD, get_setD, h n]⟩
section
variable {K : OrD} {cx : Nat → Nat → Bool}
theorem runL_weak (hm : MonoK K) : ∀ {L : List (Nat × VO)} {rs rs' : List (Nat × CV)} {es es' : List (Nat × Hp)} {st : St} {k : St → Prop}, (∀ q ∈ rs', q ∈ rs) → (∀ q ∈ es', q ∈ es) → runL K cx L rs es st k → runL K cx L rs' es' st k := by
  intro L
  induction L with
  | nil => intro rs rs' es es' st k _ _ h; exact h
  | cons p r ih =>
    intro rs rs' es es' st k h1 h2 h
    simp only [runL] at h ⊢
    split at h
    · rename_i hc; rw [if_pos hc]; exact runOpD_le hm.le (fun s hs => ⟨fun q hq => hs.1 q (h1 q hq), ih h1 (fun q hq => by rcases List.mem_cons.1 hq with rfl | hq; exact List.mem_cons_self; exact List.mem_cons_of_mem _ (h2 q hq)) hs.2⟩) h
    · rename_i hc; rw [if_neg hc]; exact runOpD_le hm.le (fun s hs => ⟨fun q hq => hs.1 q (h2 q hq), ih (fun q hq => by rcases List.mem_cons.1 hq with rfl | hq; exact List.mem_cons_self; exact List.mem_cons_of_mem _ (h1 q hq)) h2 hs.2⟩) h
theorem runL_eq (hm : MonoK K) : ∀ {L : List (Nat × VO)} {rs : List (Nat × CV)} {es : List (Nat × Hp)} {st st' : St} {k : St → Prop}, (∀ s s', EqE s s' → k s → k s') → EqE st st' → runL K cx L rs es st k → runL K cx L rs es st' k := by
  intro L
  induction L with
  | nil => intro rs es st st' k hk he h; exact hk _ _ he h
  | cons p r ih =>
    intro rs es st st' k hk he h
    obtain ⟨e, H⟩ := st
    obtain ⟨e', H'⟩ := st'
    obtain ⟨rfl, he⟩ := he
    simp only [runL] at h ⊢
    split at h
    · rename_i hc; rw [if_pos hc]; exact runOpD_congr hm (fun n _ => he n) (fun v H' hs => ⟨hs.1, ih hk (EqE.setD he) hs.2⟩) h
    · rename_i hc
      rw [if_neg hc, rdv_congr (e := e') (e' := e) (fun n _ => (he n).symm)]
      exact runOpD_congr hm (fun n _ => he n) (fun v H' hs => ⟨hs.1, ih hk (EqE.setD he) hs.2⟩) h
theorem runL_cons (hm : MonoK K) {p : Nat × VO} {L L' : List (Nat × VO)} {k : St → Prop} (hL : ∀ rs es s, runL K cx L rs es s k → runL K cx L' rs es s k) {rs : List (Nat × CV)} {es : List (Nat × Hp)} {st : St} (h : runL K cx (p :: L) rs es st k) : runL K cx (p :: L') rs es st k := by
  simp only [runL] at h ⊢
  split at h
  · rename_i hc; rw [if_pos hc]; exact runOpD_le hm.le (fun s hs => ⟨hs.1, hL _ _ _ hs.2⟩) h
  · rename_i hc; rw [if_neg hc]; exact runOpD_le hm.le (fun s hs => ⟨hs.1, hL _ _ _ hs.2⟩) h
/-- Neither takes what the other one yields, nor changes what it looks at. -/
structure Ind (cx : Nat → Nat → Bool) (a b : Nat × VO) : Prop where
  ab : ∀ n, a.2.d = some n → n ∉ reads b.2
  ba : ∀ n, b.2.d = some n → n ∉ reads a.2
  dd : ∀ n, a.2.d = some n → b.2.d ≠ some n
  one : isE a.2.o = true → isE b.2.o = true → False
  ra : isE b.2.o = true → isR a.2.o = true → cx b.1 a.1 = true
  rb : isE a.2.o = true → isR b.2.o = true → cx b.1 a.1 = true
theorem get_ne {e : Env} {d : Option Nat} {v : IV} {n : Nat} (h : d ≠ some n) : Env.get (setD e d v) n = Env.get e n := by rw [get_setD, if_neg h]
theorem swapEq {e : Env} {d d' : Option Nat} {v v' : IV} {H : Hp} (h : ∀ n, d = some n → d' ≠ some n) : EqE ⟨setD (setD e d v) d' v', H⟩ ⟨setD (setD e d' v') d v, H⟩ := by
  refine ⟨rfl, fun n => ?_⟩
  simp only [get_setD]
  by_cases h1 : d = some n
  · have := h n h1
    simp [h1, this]
  · simp [h1]
theorem mem_swap {α : Type} {x y : α} {l : List α} : ∀ q ∈ x :: y :: l, q ∈ y :: x :: l := by
  intro q hq
  simp only [List.mem_cons] at hq ⊢
  rcases hq with h | h | h
  · exact .inr (.inl h)
  · exact .inl h
  · exact .inr (.inr h)
theorem runL_swap (hm : MonoK K) (hn : NM K) (hs : ∀ i j, cx i j = cx j i) {a b : Nat × VO} (hI : Ind cx a b) {r : List (Nat × VO)} {k : St → Prop} (hk : ∀ s s', EqE s s' → k s → k s') {rs : List (Nat × CV)} {es : List (Nat × Hp)} {st : St}
    (h : runL K cx (a :: b :: r) rs es st k) : runL K cx (b :: a :: r) rs es st k := by
  obtain ⟨ia, oa⟩ := a
  obtain ⟨ib, ob⟩ := b
  obtain ⟨e, H⟩ := st
  have eb : ∀ v n, n ∈ reads ob → Env.get (setD e oa.d v) n = Env.get e n := fun v n hn' => get_ne fun hc => hI.ab n hc hn'
  have ea : ∀ v n, n ∈ reads oa → Env.get (setD e ob.d v) n = Env.get e n := fun v n hn' => get_ne fun hc => hI.ba n hc hn'
  have rob : ∀ v, rdv (setD e oa.d v) ob.o = rdv e ob.o := fun v => rdv_congr fun n hn' => eb v n (by simp [reads, hn'])
  have roa : ∀ v, rdv (setD e ob.d v) oa.o = rdv e oa.o := fun v => rdv_congr fun n hn' => ea v n (by simp [reads, hn'])
  by_cases hA : isE oa.o = true
  · have hB : isE ob.o = false := by
      cases hB : isE ob.o with
      | false => rfl
      | true => exact (hI.one hA hB).elim
    have hB' : ¬ isE ob.o = true := by rw [hB]; simp
    simp only [runL, hA, if_true, if_neg hB'] at h ⊢
    have hb : ∃ vb, valO ob e H = some vb ∧ ∀ q ∈ es, cx ib q.1 = true → sameAt (rdv e ob.o) q.2 H := by
      obtain ⟨va, H', hc1, h1⟩ := runOpD_nm hn h
      obtain ⟨vb, h2, h3, h4⟩ := (detD hB).1 h1
      rw [rob] at h3
      have hsame : sameAt (rdv e ob.o) H H' := by
        by_cases hR : isR ob.o = true
        · exact h3 (ia, H) List.mem_cons_self (hI.rb hA hR)
        · rw [rdv_pure (by simpa using hR)]; exact trivial
      refine ⟨vb, ?_, fun q hq hcq => ?_⟩
      · rw [← h2, valO_congr (e := setD e oa.d va) (e' := e) (eb va)]
        exact (valO_same hB hsame).symm
      · exact sameAt.trans (h3 q (List.mem_cons_of_mem _ hq) hcq) hsame.symm
    obtain ⟨vb, hvb, hcb⟩ := hb
    refine (detD hB).2 ⟨vb, hvb, hcb, ?_⟩
    refine runOpD_congr hm (e := e) (fun n hn' => (ea vb n hn').symm) (fun va H' hq => ?_) h
    obtain ⟨hc1, h1⟩ := hq
    obtain ⟨vb', h2, h3, h4⟩ := (detD hB).1 h1
    rw [rob] at h3 h4
    have hsame : sameAt (rdv e ob.o) H H' := by
      by_cases hR : isR ob.o = true
      · exact h3 (ia, H) List.mem_cons_self (hI.rb hA hR)
      · rw [rdv_pure (by simpa using hR)]; exact trivial
    have : vb' = vb := by
      rw [valO_congr (e := setD e oa.d va) (e' := e) (eb va), valO_same hB hsame, hvb] at h2
      injection h2 with h2; exact h2.symm
    subst this
    refine ⟨fun q hq hcq => ?_, ?_⟩
    · rcases List.mem_cons.1 hq with rfl | hq
      · exact hsame
      · exact hc1 q hq hcq
    · exact runL_eq hm hk (swapEq hI.dd) h4
  · have hA' : isE oa.o = false := by simpa using hA
    by_cases hB : isE ob.o = true
    · simp only [runL, hB, if_true, if_neg hA] at h ⊢
      obtain ⟨va, hva, hca, h1⟩ := (detD hA').1 h
      refine runOpD_congr hm (e := setD e oa.d va) (fun n hn' => eb va n hn') (fun vb H' hq => ?_) h1
      obtain ⟨hc1, h2⟩ := hq
      have hsame : sameAt (rdv e oa.o) H H' := by
        by_cases hR : isR oa.o = true
        · exact hc1 (ia, rdv e oa.o) List.mem_cons_self (hI.ra hB hR)
        · rw [rdv_pure (by simpa using hR)]; exact trivial
      refine ⟨fun q hq => hc1 q (List.mem_cons_of_mem _ hq), (detD hA').2 ⟨va, ?_, ?_, ?_⟩⟩
      · rw [valO_congr (e := setD e ob.d vb) (e' := e) (ea vb), valO_same hA' hsame]; exact hva
      · intro q hq hcq
        rw [roa]
        rcases List.mem_cons.1 hq with rfl | hq
        · exact hsame
        · exact sameAt.trans (hca q hq hcq) hsame
      · rw [roa]
        exact runL_eq hm hk (swapEq hI.dd) h2
    · have hB' : isE ob.o = false := by simpa using hB
      simp only [runL, if_neg hB, if_neg hA] at h ⊢
      obtain ⟨va, hva, hca, h1⟩ := (detD hA').1 h
      obtain ⟨vb, hvb, hcb, h2⟩ := (detD hB').1 h1
      refine (detD hB').2 ⟨vb, ?_, ?_, (detD hA').2 ⟨va, ?_, ?_, ?_⟩⟩
      · rw [← hvb]; exact (valO_congr (eb va)).symm
      · intro q hq hcq; have := hcb q hq hcq; rwa [rob] at this
      · rw [← hva]; exact valO_congr (ea vb)
      · intro q hq hcq; have := hca q hq hcq; rwa [roa]
      · rw [roa]
        rw [rob] at h2
        exact runL_weak hm mem_swap (fun q hq => hq) (runL_eq hm hk (swapEq hI.dd) h2)
theorem runL_hoist (hm : MonoK K) (hn : NM K) (hs : ∀ i j, cx i j = cx j i) {p : Nat × VO} {k : St → Prop} (hk : ∀ s s', EqE s s' → k s → k s') : ∀ {pre post : List (Nat × VO)} {rs : List (Nat × CV)} {es : List (Nat × Hp)} {st : St}, (∀ q ∈ pre, Ind cx q p) →
    runL K cx (pre ++ p :: post) rs es st k → runL K cx (p :: (pre ++ post)) rs es st k := by
  intro pre
  induction pre with
  | nil => intro post rs es st _ h; exact h
  | cons q pre ih =>
    intro post rs es st hI h
    have h1 : runL K cx (q :: p :: (pre ++ post)) rs es st k := runL_cons hm (fun rs es s h => ih (fun x hx => hI x (List.mem_cons_of_mem _ hx)) h) h
    exact runL_swap hm hn hs (hI q List.mem_cons_self) hk h1
end
end Go.Proofs.YtgdfgnppeekfjaaGreat.Vm
