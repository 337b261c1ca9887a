/- From the text's order to any order, and code told so that it can be reckoned. Conditions: `drawsB`. -/
import Derived.Test.YtgdfgnppeekfjaaGreatVmP
namespace Go.Proofs.YtgdfgnppeekfjaaGreat.Vm
set_option linter.unusedSimpArgs false
set_option linter.unusedVariables false
def SameRun (x o : VO) : Prop := x.d = o.d ∧ x.o = o.o ∧ x.gd = o.gd
theorem SameRun.run {x o : VO} (h : SameRun x o) {K : OrD} {st : St} {k : St → Prop} : runOpD K x st k = runOpD K o st k := by
  obtain ⟨d, o1, gd, dp, ck, rc⟩ := x
  obtain ⟨d', o1', gd', dp', ck', rc'⟩ := o
  obtain ⟨h1, h2, h3⟩ := h
  simp only at h1 h2 h3
  subst h1; subst h2; subst h3
  rfl
/-- An order in which a region may be gone through, such that any other comes to the same. -/
structure OrdOk (ops : List VO) (cx : Nat → Nat → Bool) (L0 : List (Nat × VO)) : Prop where
  mem : ∀ i o, ops[i]? = some o → ∃ x, (i, x) ∈ L0
  sub : ∀ p ∈ L0, ∃ o, ops[p.1]? = some o ∧ SameRun p.2 o
  nd : L0.Pairwise fun a b => a.1 ≠ b.1
  dp : ∀ pre p post, L0 = pre ++ p :: post → ∀ o, ops[p.1]? = some o → ∀ j ∈ o.dp, ∃ q ∈ pre, q.1 = j
  ind : L0.Pairwise fun a b => (∃ f, ancB ops f b.1 a.1 = true) ∨ Ind cx a b
def rem (L0 : List (Nat × VO)) (listed : List Bool) : List (Nat × VO) := L0.filter fun p => !listed.getD p.1 true
theorem getD_set {l : List Bool} {i j : Nat} : (l.set i true).getD j true = if j = i then true else l.getD j true := by
  by_cases e : j = i
  · subst e
    rw [if_pos rfl, List.getD_eq_getElem?_getD, List.getElem?_set]
    simp
    split <;> rfl
  · rw [if_neg e, List.getD_eq_getElem?_getD, List.getD_eq_getElem?_getD, List.getElem?_set_ne (by omega)]
theorem getD_setF {l : List Bool} {i j : Nat} (hi : i < l.length) : (l.set i true).getD j false = if j = i then true else l.getD j false := by
  by_cases e : j = i
  · subst e
    rw [if_pos rfl, List.getD_eq_getElem?_getD, List.getElem?_set_self hi]; rfl
  · rw [if_neg e, List.getD_eq_getElem?_getD, List.getD_eq_getElem?_getD, List.getElem?_set_ne (by omega)]
theorem rem_split {L0 : List (Nat × VO)} {listed : List Bool} {p : Nat × VO} {R : Nat × VO → Nat × VO → Prop} (hnd : L0.Pairwise fun a b => a.1 ≠ b.1) (hR : L0.Pairwise R) (hp : p ∈ L0) (hi : listed.getD p.1 true = false) :
    ∃ pre post, rem L0 listed = pre ++ p :: post ∧ rem L0 (listed.set p.1 true) = pre ++ post ∧ ∀ q ∈ pre, R q p ∧ listed.getD q.1 true = false := by
  have hmem : p ∈ rem L0 listed := by
    unfold rem
    rw [List.mem_filter]
    exact ⟨hp, by rw [hi]; rfl⟩
  obtain ⟨pre, post, h⟩ := List.append_of_mem hmem
  have hp1 : (rem L0 listed).Pairwise fun a b => a.1 ≠ b.1 := List.Pairwise.filter _ hnd
  have hp2 : (rem L0 listed).Pairwise R := List.Pairwise.filter _ hR
  rw [h, List.pairwise_append, List.pairwise_cons] at hp1 hp2
  obtain ⟨p1, ⟨p2, p3⟩, p4⟩ := hp1
  refine ⟨pre, post, h, ?_, fun q hq => ⟨hp2.2.2 q hq p List.mem_cons_self, ?_⟩⟩
  · have h2 : rem L0 (listed.set p.1 true) = (rem L0 listed).filter fun q => !decide (q.1 = p.1) := by
      unfold rem
      rw [List.filter_filter]
      apply List.filter_congr
      intro q _
      rw [getD_set]
      by_cases e : q.1 = p.1 <;> simp [e]
    rw [h2, h, List.filter_append, List.filter_cons_of_neg (by simp)]
    rw [List.filter_eq_self.2 (fun q hq => ?_), List.filter_eq_self.2 (fun q hq => ?_)]
    · have := p2 q hq
      simp [Ne.symm this]
    · have := p4 q hq p List.mem_cons_self
      simp [this]
  · have hq2 : q ∈ rem L0 listed := by rw [h]; exact List.mem_append.2 (.inl hq)
    unfold rem at hq2
    rw [List.mem_filter] at hq2
    simpa using hq2.2
theorem ready_rem {ops : List VO} {cx : Nat → Nat → Bool} {L0 : List (Nat × VO)} {listed : List Bool} (ho : OrdOk ops cx L0) (hl : listed.length = ops.length) (h : readyV ops listed = []) : rem L0 listed = [] := by
  cases hr : rem L0 listed with
  | nil => rfl
  | cons p t =>
    exfalso
    unfold rem at hr
    rw [List.filter_eq_cons_iff] at hr
    obtain ⟨l1, l2, h1, h2, h3, _⟩ := hr
    obtain ⟨o, hop, _⟩ := ho.sub p (by rw [h1]; simp)
    have hi : p.1 < ops.length := (List.getElem?_eq_some_iff.1 hop).1
    have : p.1 ∈ readyV ops listed := by
      unfold readyV
      rw [List.mem_filter, List.mem_range]
      refine ⟨hi, ?_⟩
      rw [hop]
      simp only [Bool.and_eq_true, Option.map_some, Option.getD_some, List.all_eq_true]
      refine ⟨h3, fun j hj => ?_⟩
      obtain ⟨q, hq, rfl⟩ := ho.dp l1 p l2 h1 o hop j hj
      have h4 := h2 q hq
      simp only [Bool.not_eq_true', Bool.not_eq_false] at h4
      obtain ⟨oq, hoq, _⟩ := ho.sub q (by rw [h1]; exact List.mem_append.2 (.inl hq))
      have hql : q.1 < listed.length := by rw [hl]; exact (List.getElem?_eq_some_iff.1 hoq).1
      rw [List.getD_eq_getElem?_getD, List.getElem?_eq_getElem hql] at h4 ⊢
      exact h4
    rw [h] at this
    cases this
theorem runAll_of {K : OrD} (hm : MonoK K) (hn : NM K) {ops : List VO} {cx : Nat → Nat → Bool} (hs : ∀ i j, cx i j = cx j i) {L0 : List (Nat × VO)} (ho : OrdOk ops cx L0) {Q : St → Prop} (hQ : ∀ s s', EqE s s' → Q s → Q s') :
    ∀ (n : Nat) {listed : List Bool} {st : St} {rs : List (Nat × CV)} {es : List (Nat × Hp)}, listed.length = ops.length → n = (rem L0 listed).length →
      (∀ (i : Nat) (o : VO), ops[i]? = some o → listed.getD i false = true → ∀ j ∈ o.dp, listed.getD j false = true) →
      runL K cx (rem L0 listed) rs es st Q → RunAllD K ops Q n listed st := by
  intro n
  induction n with
  | zero =>
    intro listed st rs es hl hn0 hc h
    have h0 : rem L0 listed = [] := List.eq_nil_of_length_eq_zero hn0.symm
    rw [h0] at h
    refine ⟨?_, h⟩
    cases hr : readyV ops listed with
    | nil => rfl
    | cons i r =>
      exfalso
      obtain ⟨o, hoi, hf, _⟩ := mem_ready (ops := ops) (listed := listed) (i := i) (by rw [hr]; simp)
      obtain ⟨x, hx⟩ := ho.mem i o hoi
      obtain ⟨pre, post, hs, _⟩ := rem_split ho.nd ho.nd hx hf
      rw [h0] at hs
      cases pre <;> simp at hs
  | succ n ih =>
    intro listed st rs es hl hn1 hc h
    refine ⟨fun hr => ?_, fun i hi => ?_⟩
    · rw [ready_rem ho hl hr] at h; exact h
    · obtain ⟨o, hoi, hf, hdp⟩ := mem_ready hi
      obtain ⟨x, hx⟩ := ho.mem i o hoi
      obtain ⟨o', hoi', hsame⟩ := ho.sub _ hx
      rw [hoi] at hoi'; injection hoi' with hoi'; subst hoi'
      obtain ⟨pre, post, hsp, hsp', hpre⟩ := rem_split ho.nd ho.ind hx hf
      have hil : i < listed.length := by rw [hl]; exact (List.getElem?_eq_some_iff.1 hoi).1
      refine ⟨o, hoi, ?_⟩
      have hind : ∀ q ∈ pre, Ind cx q (i, x) := by
        intro q hq
        obtain ⟨q1, q3⟩ := hpre q hq
        rcases q1 with ⟨f, hf'⟩ | hI
        · exfalso
          have hqm : q ∈ rem L0 listed := by rw [hsp]; exact List.mem_append.2 (.inl hq)
          obtain ⟨oq, hoq, _⟩ := ho.sub q (List.mem_filter.1 hqm).1
          have := anc_listed hc f i q.1 o hoi hdp hf'
          have hjl : q.1 < listed.length := by rw [hl]; exact (List.getElem?_eq_some_iff.1 hoq).1
          rw [List.getD_eq_getElem?_getD, List.getElem?_eq_getElem hjl] at this q3
          simp only [Option.getD_some] at this q3
          rw [q3] at this; cases this
        · exact hI
      rw [hsp] at h
      have h1 := runL_hoist hm hn hs hQ hind h
      have hlen : n = (rem L0 (listed.set i true)).length := by
        rw [hsp] at hn1
        rw [hsp']
        simp at hn1 ⊢
        omega
      have hcl : ∀ (i' : Nat) (o' : VO), ops[i']? = some o' → (listed.set i true).getD i' false = true → ∀ j ∈ o'.dp, (listed.set i true).getD j false = true := by
        intro i' o' ho' hl' j hj
        rw [getD_setF hil] at hl' ⊢
        by_cases e : i' = i
        · subst e
          rw [hoi] at ho'; injection ho' with ho'; subst ho'
          split
          · rfl
          · exact hdp j hj
        · rw [if_neg e] at hl'
          split
          · rfl
          · exact hc i' o' ho' hl' j hj
      rw [← hsame.run]
      simp only [runL] at h1
      split at h1
      · exact runOpD_le hm.le (fun s hs1 => ih (by simpa using hl) hlen hcl (by rw [hsp']; exact hs1.2)) h1
      · exact runOpD_le hm.le (fun s hs1 => ih (by simpa using hl) hlen hcl (by rw [hsp']; exact hs1.2)) h1
/-! ### One order -/
def chkE (ck : List Nat) (H H' : Hp) : List (Nat × CV) → Prop
  | [] => True
  | q :: r => (q.1 ∈ ck → sameAt q.2 H H') ∧ chkE ck H H' r
def chkR (ck : List Nat) (v : CV) (H' : Hp) : List (Nat × Hp) → Prop
  | [] => True
  | q :: r => (q.1 ∈ ck → sameAt v q.2 H') ∧ chkR ck v H' r
def runC (K : OrD) : List (Nat × VO) → List (Nat × CV) → List (Nat × Hp) → St → (St → Prop) → Prop
  | [], _, _, st, k => k st
  | p :: r, rs, es, st, k =>
    if isE p.2.o = true then runOpD K p.2 st fun s => chkE p.2.ck st.h s.h rs ∧ runC K r rs (if p.2.rc = true then (p.1, st.h) :: es else es) s k
    else runOpD K p.2 st fun s => chkR p.2.ck (rdv st.e p.2.o) st.h es ∧ runC K r (if p.2.rc = true then (p.1, rdv st.e p.2.o) :: rs else rs) es s k
theorem chkE_at {ck : List Nat} {H H' : Hp} : ∀ {rs : List (Nat × CV)}, chkE ck H H' rs → ∀ q ∈ rs, q.1 ∈ ck → sameAt q.2 H H' := by
  intro rs
  induction rs with
  | nil => intro _ q hq; cases hq
  | cons p r ih =>
    intro h q hq
    rcases List.mem_cons.1 hq with rfl | hq
    · exact h.1
    · exact ih h.2 q hq
theorem chkR_at {ck : List Nat} {v : CV} {H' : Hp} : ∀ {rs : List (Nat × Hp)}, chkR ck v H' rs → ∀ q ∈ rs, q.1 ∈ ck → sameAt v q.2 H' := by
  intro rs
  induction rs with
  | nil => intro _ q hq; cases hq
  | cons p r ih =>
    intro h q hq
    rcases List.mem_cons.1 hq with rfl | hq
    · exact h.1
    · exact ih h.2 q hq
def ckL (L : List (Nat × VO)) (i : Nat) : List Nat := ((L.lookup i).map (·.ck)).getD []
def rcL (L : List (Nat × VO)) (i : Nat) : Bool := ((L.lookup i).map (·.rc)).getD false
def cxL (L : List (Nat × VO)) (i j : Nat) : Bool := (ckL L i).contains j || (ckL L j).contains i
def CkOk (L : List (Nat × VO)) : Prop := ∀ pre p post, L = pre ++ p :: post → ∀ j ∈ p.2.ck, rcL L j = true ∧ ∃ q ∈ pre, q.1 = j
theorem lookup_mem {L : List (Nat × VO)} (hnd : L.Pairwise fun a b => a.1 ≠ b.1) {p : Nat × VO} (hp : p ∈ L) : L.lookup p.1 = some p.2 := by
  induction L with
  | nil => cases hp
  | cons q r ih =>
    rw [List.pairwise_cons] at hnd
    obtain ⟨k, v⟩ := q
    simp only [List.lookup]
    rcases List.mem_cons.1 hp with rfl | hp
    · simp
    · have : (p.1 == k) = false := by
        have := hnd.1 p hp
        simp only [ne_eq] at this
        simpa using fun h => this h.symm
      rw [this]
      exact ih hnd.2 hp
theorem runC_L {K : OrD} (hm : MonoK K) {L : List (Nat × VO)} (hnd : L.Pairwise fun a b => a.1 ≠ b.1) (hck : CkOk L) {k : St → Prop} : ∀ {rest pre : List (Nat × VO)} {rs rs' : List (Nat × CV)} {es es' : List (Nat × Hp)} {st : St}, L = pre ++ rest →
    (∀ q ∈ rs', (∃ p ∈ pre, p.1 = q.1) ∧ (rcL L q.1 = true → q ∈ rs)) → (∀ q ∈ es', (∃ p ∈ pre, p.1 = q.1) ∧ (rcL L q.1 = true → q ∈ es)) → runC K rest rs es st k → runL K (cxL L) rest rs' es' st k := by
  intro rest
  induction rest with
  | nil => intro pre rs rs' es es' st _ _ _ h; exact h
  | cons p r ih =>
    intro pre rs rs' es es' st hL hrs hes h
    have hp : p ∈ L := by rw [hL]; simp
    have hL' : L = (pre ++ [p]) ++ r := by rw [hL]; simp
    have hlk := lookup_mem hnd hp
    have hcx : ∀ q0 ∈ pre, cxL L p.1 q0.1 = true → q0.1 ∈ p.2.ck ∧ rcL L q0.1 = true := by
      intro q0 hq0 hc
      unfold cxL at hc
      rw [Bool.or_eq_true] at hc
      rcases hc with hc | hc
      · simp only [ckL, hlk, Option.map_some, Option.getD_some, List.contains_eq_mem, decide_eq_true_eq] at hc
        exact ⟨hc, (hck pre p r hL _ hc).1⟩
      · exfalso
        obtain ⟨p1, p2, hpp⟩ := List.append_of_mem hq0
        have hq0L : q0 ∈ L := by rw [hL]; exact List.mem_append.2 (.inl hq0)
        have hlk0 := lookup_mem hnd hq0L
        simp only [ckL, hlk0, Option.map_some, Option.getD_some, List.contains_eq_mem, decide_eq_true_eq] at hc
        have hL2 : L = p1 ++ q0 :: (p2 ++ p :: r) := by rw [hL, hpp]; simp
        obtain ⟨_, q, hq, hqe⟩ := hck p1 q0 _ hL2 _ hc
        rw [hL2, List.pairwise_append] at hnd
        exact hnd.2.2 q hq p (by simp) hqe
    simp only [runC, runL] at h ⊢
    split at h
    · rename_i hE
      rw [if_pos hE]
      refine runOpD_le hm.le (fun s hs => ⟨fun q hq hc => ?_, ih hL' (fun q hq => ?_) (fun q hq => ?_) hs.2⟩) h
      · obtain ⟨⟨q0, hq0, e0⟩, hb⟩ := hrs q hq
        rw [← e0] at hc
        obtain ⟨a, b⟩ := hcx q0 hq0 hc
        rw [e0] at a b
        exact chkE_at hs.1 q (hb b) a
      · obtain ⟨⟨q0, hq0, e0⟩, hb⟩ := hrs q hq
        exact ⟨⟨q0, by simp [hq0], e0⟩, hb⟩
      · rcases List.mem_cons.1 hq with rfl | hq
        · refine ⟨⟨p, by simp, rfl⟩, fun hrc => ?_⟩
          have : p.2.rc = true := by simpa [rcL, hlk] using hrc
          rw [if_pos this]; exact List.mem_cons_self
        · obtain ⟨⟨q0, hq0, e0⟩, hb⟩ := hes q hq
          refine ⟨⟨q0, by simp [hq0], e0⟩, fun hrc => ?_⟩
          split
          · exact List.mem_cons_of_mem _ (hb hrc)
          · exact hb hrc
    · rename_i hE
      rw [if_neg hE]
      refine runOpD_le hm.le (fun s hs => ⟨fun q hq hc => ?_, ih hL' (fun q hq => ?_) (fun q hq => ?_) hs.2⟩) h
      · obtain ⟨⟨q0, hq0, e0⟩, hb⟩ := hes q hq
        rw [← e0] at hc
        obtain ⟨a, b⟩ := hcx q0 hq0 hc
        rw [e0] at a b
        exact chkR_at hs.1 q (hb b) a
      · rcases List.mem_cons.1 hq with rfl | hq
        · refine ⟨⟨p, by simp, rfl⟩, fun hrc => ?_⟩
          have : p.2.rc = true := by simpa [rcL, hlk] using hrc
          rw [if_pos this]; exact List.mem_cons_self
        · obtain ⟨⟨q0, hq0, e0⟩, hb⟩ := hrs q hq
          refine ⟨⟨q0, by simp [hq0], e0⟩, fun hrc => ?_⟩
          split
          · exact List.mem_cons_of_mem _ (hb hrc)
          · exact hb hrc
      · obtain ⟨⟨q0, hq0, e0⟩, hb⟩ := hes q hq
        exact ⟨⟨q0, by simp [hq0], e0⟩, hb⟩
theorem leaf_all {K : OrD} (hm : MonoK K) (hn : NM K) {ops : List VO} {L : List (Nat × VO)} (hlen : L.length = ops.length) (ho : OrdOk ops (cxL L) L) (hck : CkOk L) {Q : St → Prop} (hQ : ∀ s s', EqE s s' → Q s → Q s') {st : St} (h : runC K L [] [] st Q) :
    RunAllD K ops Q ops.length (List.replicate ops.length false) st := by
  have hrem : rem L (List.replicate ops.length false) = L := by
    unfold rem
    rw [List.filter_eq_self]
    intro p hp
    obtain ⟨o, hop, _⟩ := ho.sub p hp
    have hi := (List.getElem?_eq_some_iff.1 hop).1
    simp [List.getD_eq_getElem?_getD, hi]
  refine runAll_of hm hn (fun i j => Bool.or_comm _ _) ho hQ _ (rs := []) (es := []) (by simp) (by rw [hrem, hlen]) (fun i o hoi hl => ?_) ?_
  · exfalso
    rw [List.getD_eq_getElem?_getD, List.getElem?_replicate] at hl
    split at hl <;> simp at hl
  · rw [hrem]
    exact runC_L hm ho.nd hck (pre := []) rfl (fun q hq => by cases hq) (fun q hq => by cases hq) h
/-! ### What can be reckoned of an order -/
def enumF : Nat → List VO → List (Nat × VO)
  | _, [] => []
  | k, o :: r => (k, o) :: enumF (k + 1) r
def indB (ck : List Nat) (j : Nat) (a b : VO) : Bool :=
  (match a.d with | none => true | some n => !(reads b).contains n && !decide (b.d = some n)) &&
  (match b.d with | none => true | some n => !(reads a).contains n) &&
  !(isE a.o && isE b.o) && (!((isE b.o && isR a.o) || (isE a.o && isR b.o)) || ck.contains j)
def sameB (x o : VO) : Bool := decide (x.d = o.d) && decide (x.o = o.o) && decide (x.gd = o.gd)
def goodB (ops : List VO) (L : List (Nat × VO)) : List (Nat × VO) → List (Nat × VO) → Bool
  | _, [] => true
  | pre, p :: post => (match ops[p.1]? with
      | none => false
      | some o => o.dp.all fun j => pre.any fun q => q.1 == j) &&
    (p.2.ck.all fun j => rcL L j && pre.any fun q => q.1 == j) &&
    (pre.all fun q => !(q.1 == p.1) && (ancB ops ops.length p.1 q.1 || indB p.2.ck q.1 q.2 p.2)) && goodB ops L (p :: pre) post
def leafB (ops : List VO) (L : List (Nat × VO)) : Bool :=
  (L.length == ops.length) && (L.all fun p => match ops[p.1]? with | none => false | some o => sameB p.2 o) && ((List.range ops.length).all fun i => L.any fun p => p.1 == i) && goodB ops L [] L
def drawOkB (ops : List VO) : Bool := goodB ops (enumF 0 ops) [] (enumF 0 ops)
theorem goodB_at {ops : List VO} {L : List (Nat × VO)} : ∀ {post pre : List (Nat × VO)}, goodB ops L pre post = true → ∀ mid p rest, post = mid ++ p :: rest →
    (∃ o, ops[p.1]? = some o ∧ ∀ j ∈ o.dp, ∃ q ∈ mid.reverse ++ pre, q.1 = j) ∧ (∀ j ∈ p.2.ck, rcL L j = true ∧ ∃ q ∈ mid.reverse ++ pre, q.1 = j) ∧
    ∀ q ∈ mid.reverse ++ pre, q.1 ≠ p.1 ∧ (ancB ops ops.length p.1 q.1 = true ∨ indB p.2.ck q.1 q.2 p.2 = true) := by
  intro post
  induction post with
  | nil => intro pre h mid p rest e; cases mid <;> simp at e
  | cons x post ih =>
    intro pre h mid p rest e
    simp only [goodB, Bool.and_eq_true, List.all_eq_true, List.any_eq_true, beq_iff_eq, Bool.not_eq_true', beq_eq_false_iff_ne, Bool.or_eq_true] at h
    obtain ⟨⟨⟨h1, h2⟩, h3⟩, h4⟩ := h
    cases mid with
    | nil =>
      simp only [List.nil_append, List.cons.injEq] at e
      obtain ⟨rfl, rfl⟩ := e
      refine ⟨?_, fun j hj => ?_, fun q hq => h3 q (by simpa using hq)⟩
      · cases ho : ops[x.1]? with
        | none => rw [ho] at h1; cases h1
        | some o =>
          rw [ho] at h1
          simp only [List.all_eq_true, List.any_eq_true, beq_iff_eq] at h1
          exact ⟨o, rfl, fun j hj => by obtain ⟨q, a, b⟩ := h1 j hj; exact ⟨q, by simpa using a, b⟩⟩
      · obtain ⟨a, q, b, c⟩ := h2 j hj
        exact ⟨a, q, by simpa using b, c⟩
    | cons y mid =>
      simp only [List.cons_append, List.cons.injEq] at e
      obtain ⟨rfl, e⟩ := e
      have := ih h4 mid p rest e
      simpa [List.reverse_cons, List.append_assoc] using this
theorem pairwise_of {L : List (Nat × VO)} {R : Nat × VO → Nat × VO → Prop} (h : ∀ mid p rest, L = mid ++ p :: rest → ∀ q ∈ mid, R q p) : L.Pairwise R := by
  have key : ∀ (rest pre : List (Nat × VO)), L = pre ++ rest → rest.Pairwise R := by
    intro rest
    induction rest with
    | nil => intro _ _; exact List.Pairwise.nil
    | cons p r ih =>
      intro pre e
      refine List.Pairwise.cons (fun q hq => ?_) (ih (pre ++ [p]) (by rw [e]; simp))
      obtain ⟨a, b, hr⟩ := List.append_of_mem hq
      exact h (pre ++ p :: a) q b (by rw [e, hr]; simp) p (by simp)
  exact key L [] rfl
theorem indB_ind {L : List (Nat × VO)} (hnd : L.Pairwise fun a b => a.1 ≠ b.1) {q p : Nat × VO} (hp : p ∈ L) (h2 : indB p.2.ck q.1 q.2 p.2 = true) : Ind (cxL L) q p := by
  obtain ⟨j, o'⟩ := q
  obtain ⟨i, o⟩ := p
  have hlk := lookup_mem hnd hp
  simp only [indB, Bool.and_eq_true, Bool.not_eq_true', Bool.or_eq_true] at h2
  obtain ⟨⟨⟨h3, h4⟩, h5⟩, h6⟩ := h2
  have hcx : (isE o.o = true ∧ isR o'.o = true) ∨ (isE o'.o = true ∧ isR o.o = true) → cxL L i j = true := by
    intro hh
    unfold cxL
    rw [Bool.or_eq_true]
    left
    simp only at hlk
    simp only [ckL, hlk, Option.map_some, Option.getD_some]
    rcases h6 with h6 | h6
    · rw [Bool.or_eq_false_iff] at h6
      rcases hh with ⟨a, b⟩ | ⟨a, b⟩
      · rw [a, b] at h6; simp at h6
      · rw [a, b] at h6; simp at h6
    · exact h6
  refine ⟨fun n hn hr => ?_, fun n hn hr => ?_, fun n hn hr => ?_, fun a b => ?_, fun a b => hcx (.inl ⟨a, b⟩), fun a b => hcx (.inr ⟨a, b⟩)⟩
  · simp only at hn; rw [hn] at h3; simp at h3; exact h3.1 hr
  · simp only at hn; rw [hn] at h4; simp at h4; exact h4 hr
  · simp only at hn hr; rw [hn] at h3; simp at h3; exact h3.2 hr
  · simp only at a b; rw [a, b] at h5; simp at h5
theorem good_ok {ops : List VO} {L : List (Nat × VO)} (hm : ∀ i o, ops[i]? = some o → ∃ x, (i, x) ∈ L) (hs : ∀ p ∈ L, ∃ o, ops[p.1]? = some o ∧ SameRun p.2 o) (h : goodB ops L [] L = true) : OrdOk ops (cxL L) L ∧ CkOk L := by
  have hat := goodB_at h
  have hnd : L.Pairwise fun a b => a.1 ≠ b.1 := pairwise_of fun mid p rest e q hq => ((hat mid p rest e).2.2 q (by simpa using hq)).1
  refine ⟨⟨hm, hs, hnd, fun pre p post e o ho j hj => ?_, pairwise_of fun mid p rest e q hq => ?_⟩, fun pre p post e j hj => ?_⟩
  · obtain ⟨⟨o', ho', hd⟩, _⟩ := hat pre p post e
    rw [ho] at ho'; injection ho' with ho'; subst ho'
    obtain ⟨q, a, b⟩ := hd j hj
    exact ⟨q, by simpa using a, b⟩
  · rcases ((hat mid p rest e).2.2 q (by simpa using hq)).2 with h1 | h1
    · exact .inl ⟨_, h1⟩
    · exact .inr (indB_ind hnd (by rw [e]; simp) h1)
  · obtain ⟨a, q, b, c⟩ := (hat pre p post e).2.1 j hj
    exact ⟨a, q, by simpa using b, c⟩
theorem mem_enumF : ∀ {ops : List VO} {k : Nat} {p : Nat × VO}, p ∈ enumF k ops ↔ k ≤ p.1 ∧ ops[p.1 - k]? = some p.2 := by
  intro ops
  induction ops with
  | nil => intro k p; simp [enumF]
  | cons o r ih =>
    intro k p
    obtain ⟨i, x⟩ := p
    simp only [enumF, List.mem_cons, ih, Prod.mk.injEq]
    constructor
    · rintro (⟨rfl, rfl⟩ | ⟨h1, h2⟩)
      · simp
      · refine ⟨by omega, ?_⟩
        rw [show i - k = (i - (k + 1)) + 1 by omega, List.getElem?_cons_succ]; exact h2
    · rintro ⟨h1, h2⟩
      by_cases e : i = k
      · subst e; simp at h2; exact .inl ⟨rfl, h2.symm⟩
      · refine .inr ⟨by omega, ?_⟩
        rw [show i - k = (i - (k + 1)) + 1 by omega, List.getElem?_cons_succ] at h2; exact h2
theorem enumF_length : ∀ {ops : List VO} {k : Nat}, (enumF k ops).length = ops.length := by
  intro ops
  induction ops with
  | nil => intro k; rfl
  | cons o r ih => intro k; simp [enumF, ih]
theorem rd_all {K : OrD} (hm : MonoK K) (hn : NM K) {ops : List VO} (hd : drawOkB ops = true) {Q : St → Prop} (hQ : ∀ s s', EqE s s' → Q s → Q s') {st : St} (h : runC K (enumF 0 ops) [] [] st Q) :
    RunAllD K ops Q ops.length (List.replicate ops.length false) st := by
  obtain ⟨h1, h2⟩ := good_ok (ops := ops) (L := enumF 0 ops) (fun i o ho => ⟨o, mem_enumF.2 ⟨Nat.zero_le _, by simpa using ho⟩⟩) (fun p hp => ⟨p.2, by simpa using (mem_enumF.1 hp).2, rfl, rfl, rfl⟩) hd
  exact leaf_all hm hn enumF_length h1 h2 hQ h
/-! ### Several orders -/
def addE (ops : List VO) (b a : Nat) : List VO := match ops[b]? with
  | none => ops
  | some o => ops.set b { o with dp := a :: o.dp }
theorem addE_length (ops : List VO) (b a : Nat) : (addE ops b a).length = ops.length := by
  unfold addE; split <;> simp
theorem addE_at {ops : List VO} {b a i : Nat} {o : VO} (h : ops[i]? = some o) : ∃ o', (addE ops b a)[i]? = some o' ∧ SameRun o' o ∧ o'.dp = if i = b then a :: o.dp else o.dp := by
  unfold addE
  cases hb : ops[b]? with
  | none =>
    simp only
    have : i ≠ b := by rintro rfl; rw [h] at hb; cases hb
    exact ⟨o, h, ⟨rfl, rfl, rfl⟩, by rw [if_neg this]⟩
  | some ob =>
    simp only
    by_cases e : i = b
    · subst e
      rw [h] at hb; injection hb with hb; subst hb
      have hi := (List.getElem?_eq_some_iff.1 h).1
      exact ⟨{ o with dp := a :: o.dp }, by rw [List.getElem?_set_self hi], ⟨rfl, rfl, rfl⟩, by rw [if_pos rfl]⟩
    · exact ⟨o, by rw [List.getElem?_set_ne (Ne.symm e)]; exact h, ⟨rfl, rfl, rfl⟩, by rw [if_neg e]⟩
theorem addE_none {ops : List VO} {b a i : Nat} (h : ops[i]? = none) : (addE ops b a)[i]? = none := by
  rw [List.getElem?_eq_none_iff] at h ⊢
  rw [addE_length]; exact h
theorem ready_add {ops : List VO} {b a i : Nat} {listed : List Bool} : i ∈ readyV (addE ops b a) listed ↔ i ∈ readyV ops listed ∧ (i = b → listed.getD a false = true) := by
  unfold readyV
  simp only [List.mem_filter, List.mem_range, addE_length, Bool.and_eq_true]
  cases h : ops[i]? with
  | none =>
    rw [addE_none h]; simp
  | some o =>
    obtain ⟨o', h1, _, h3⟩ := addE_at (b := b) (a := a) h
    rw [h1]
    simp only [Option.map_some, Option.getD_some, h3]
    by_cases e : i = b
    · rw [if_pos e]
      simp only [List.all_cons, Bool.and_eq_true, e, forall_const]
      constructor
      · rintro ⟨x, y, z, u⟩; exact ⟨⟨x, y, u⟩, z⟩
      · rintro ⟨⟨x, y, u⟩, z⟩; exact ⟨x, y, z, u⟩
    · rw [if_neg e]
      simp [e]
theorem unadd {K : OrD} (hm : MonoK K) {ops : List VO} {b a : Nat} {Q : St → Prop} : ∀ {n : Nat} {listed : List Bool} {st : St}, listed.getD a false = true → RunAllD K (addE ops b a) Q n listed st → RunAllD K ops Q n listed st := by
  intro n
  induction n with
  | zero =>
    intro listed st ha h
    refine ⟨?_, h.2⟩
    cases hr : readyV ops listed with
    | nil => rfl
    | cons i r =>
      exfalso
      have : i ∈ readyV (addE ops b a) listed := ready_add.2 ⟨by rw [hr]; simp, fun _ => ha⟩
      rw [h.1] at this; cases this
  | succ n ih =>
    intro listed st ha h
    refine ⟨fun hr => h.1 ?_, fun i hi => ?_⟩
    · cases hr2 : readyV (addE ops b a) listed with
      | nil => rfl
      | cons i r =>
        exfalso
        have := (ready_add.1 (by rw [hr2]; simp : i ∈ readyV (addE ops b a) listed)).1
        rw [hr] at this; cases this
    · obtain ⟨o', h1, h2⟩ := h.2 i (ready_add.2 ⟨hi, fun _ => ha⟩)
      obtain ⟨o, ho, _⟩ := mem_ready hi
      obtain ⟨o2, h3, h4, _⟩ := addE_at (b := b) (a := a) ho
      rw [h3] at h1; injection h1 with h1; subst h1
      refine ⟨o, ho, ?_⟩
      rw [← h4.run]
      refine runOpD_le hm.le (fun s hs => ih ?_ hs) h2
      by_cases hil : i < listed.length
      · rw [getD_setF hil]; split
        · rfl
        · exact ha
      · rw [List.set_eq_of_length_le (by omega)]; exact ha
theorem split_all {K : OrD} (hm : MonoK K) (hc : CJ K) {ops : List VO} {a b : Nat} (hab : a ≠ b) (hb : b < ops.length) {Q : St → Prop} : ∀ {n : Nat} {listed : List Bool} {st : St}, listed.length = ops.length →
    listed.getD a true = false → listed.getD b true = false → RunAllD K (addE ops b a) Q n listed st → RunAllD K (addE ops a b) Q n listed st → RunAllD K ops Q n listed st := by
  intro n
  induction n with
  | zero =>
    intro listed st hl ha hb h1 h2
    refine ⟨?_, h1.2⟩
    cases hr : readyV ops listed with
    | nil => rfl
    | cons i r =>
      exfalso
      by_cases e : i = b
      · have : i ∈ readyV (addE ops a b) listed := ready_add.2 ⟨by rw [hr]; simp, fun h => (hab (h.symm.trans e)).elim⟩
        rw [h2.1] at this; cases this
      · have : i ∈ readyV (addE ops b a) listed := ready_add.2 ⟨by rw [hr]; simp, fun h => (e h).elim⟩
        rw [h1.1] at this; cases this
  | succ n ih =>
    intro listed st hl ha hb h1 h2
    refine ⟨fun hr => h1.1 ?_, fun i hi => ?_⟩
    · cases hr2 : readyV (addE ops b a) listed with
      | nil => rfl
      | cons i r =>
        exfalso
        have := (ready_add.1 (by rw [hr2]; simp : i ∈ readyV (addE ops b a) listed)).1
        rw [hr] at this; cases this
    · obtain ⟨o, ho, hf, _⟩ := mem_ready hi
      have hil : i < listed.length := by rw [hl]; exact (List.getElem?_eq_some_iff.1 ho).1
      refine ⟨o, ho, ?_⟩
      by_cases ea : i = a
      · subst ea
        obtain ⟨o', g1, g2⟩ := h1.2 i (ready_add.2 ⟨hi, fun h => (hab h).elim⟩)
        obtain ⟨o2, g3, g4, _⟩ := addE_at (b := b) (a := i) ho
        rw [g3] at g1; injection g1 with g1; subst g1
        rw [← g4.run]
        exact runOpD_le hm.le (fun s hs => unadd hm (by rw [getD_setF hil, if_pos rfl]) hs) g2
      · by_cases eb : i = b
        · subst eb
          obtain ⟨o', g1, g2⟩ := h2.2 i (ready_add.2 ⟨hi, fun h => (ea h).elim⟩)
          obtain ⟨o2, g3, g4, _⟩ := addE_at (b := a) (a := i) ho
          rw [g3] at g1; injection g1 with g1; subst g1
          rw [← g4.run]
          exact runOpD_le hm.le (fun s hs => unadd hm (by rw [getD_setF hil, if_pos rfl]) hs) g2
        · obtain ⟨o', g1, g2⟩ := h1.2 i (ready_add.2 ⟨hi, fun h => (eb h).elim⟩)
          obtain ⟨o2, g3, g4, _⟩ := addE_at (b := b) (a := a) ho
          rw [g3] at g1; injection g1 with g1; subst g1
          obtain ⟨o'', k1, k2⟩ := h2.2 i (ready_add.2 ⟨hi, fun h => (ea h).elim⟩)
          obtain ⟨o3, k3, k4, _⟩ := addE_at (b := a) (a := b) ho
          rw [k3] at k1; injection k1 with k1; subst k1
          rw [g4.run] at g2
          rw [k4.run] at k2
          refine runOpD_le hm.le (fun s hs => ih (by simpa using hl) ?_ ?_ hs.1 hs.2) (runOpD_cj hc g2 k2)
          · rw [getD_set, if_neg (Ne.symm ea)]; exact ha
          · rw [getD_set, if_neg (Ne.symm eb)]; exact hb
def treeB (ops : List VO) : VT → Bool
  | .leaf l => leafB ops l
  | .split a b x y => decide (a ≠ b) && decide (a < ops.length) && decide (b < ops.length) && treeB (addE ops b a) x && treeB (addE ops a b) y
  | .all os => decide (ops = os)
def treeW (K : OrD) : VT → St → (St → Prop) → Prop
  | .leaf l, st, k => runC K l [] [] st k
  | .split _ _ x y, st, k => treeW K x st k ∧ treeW K y st k
  | .all os, st, k => RunAllD K os k os.length (List.replicate os.length false) st
theorem leafB_ok {ops : List VO} {L : List (Nat × VO)} (h : leafB ops L = true) : L.length = ops.length ∧ OrdOk ops (cxL L) L ∧ CkOk L := by
  simp only [leafB, Bool.and_eq_true, beq_iff_eq, List.all_eq_true, List.any_eq_true, List.mem_range] at h
  obtain ⟨⟨⟨h1, h2⟩, h3⟩, h4⟩ := h
  refine ⟨h1, good_ok (fun i o ho => ?_) (fun p hp => ?_) h4⟩
  · obtain ⟨p, hp, rfl⟩ := h3 i (List.getElem?_eq_some_iff.1 ho).1
    exact ⟨p.2, hp⟩
  · have := h2 p hp
    split at this
    · cases this
    · rename_i o ho
      simp only [sameB, Bool.and_eq_true, decide_eq_true_eq] at this
      exact ⟨o, ho, this.1.1, this.1.2, this.2⟩
theorem tree_all {K : OrD} (hm : MonoK K) (hn : NM K) (hc : CJ K) {Q : St → Prop} (hQ : ∀ s s', EqE s s' → Q s → Q s') {st : St} : ∀ {t : VT} {ops : List VO}, treeB ops t = true → treeW K t st Q →
    RunAllD K ops Q ops.length (List.replicate ops.length false) st := by
  intro t
  induction t with
  | leaf l =>
    intro ops h1 h2
    obtain ⟨a, b, c⟩ := leafB_ok h1
    exact leaf_all hm hn a b c hQ h2
  | split a b x y ihx ihy =>
    intro ops h1 h2
    simp only [treeB, Bool.and_eq_true, decide_eq_true_eq] at h1
    obtain ⟨⟨⟨⟨h3, h4⟩, h5⟩, h6⟩, h7⟩ := h1
    have e1 := ihx h6 h2.1
    have e2 := ihy h7 h2.2
    rw [addE_length] at e1 e2
    exact split_all hm hc h3 h5 (by simp) (by simp [List.getD_eq_getElem?_getD, h4]) (by simp [List.getD_eq_getElem?_getD, h5]) e1 e2
  | all os =>
    intro ops h1 h2
    simp only [treeB, decide_eq_true_eq] at h1
    subst h1
    exact h2
/-! ### Code with such regions -/
def drawsB : VC → Bool
  | .rd ops => drawOkB ops
  | .rx ops t => treeB ops t
  | .seq a b => drawsB a && drawsB b
  | .cond _ a b => drawsB a && drawsB b
  | .block _ c => drawsB c
  | .loop c => drawsB c
  | _ => true
def cndP (v : IV) (A B : Prop) : Prop :=
  match v with
  | .c (.b true) => A
  | .c (.b false) => B
  | _ => False
def exW (K : OrD) (vars : List Nat) : VC → St → (X × St → Prop) → Prop
  | .skip, st, Q => Q (.norm, st)
  | .rg ops, st, Q => runOpsD K ops st fun s => Q (.norm, prune vars s)
  | .rd ops, st, Q => runC K (enumF 0 ops) [] [] st fun s => Q (.norm, prune vars s)
  | .rx _ t, st, Q => treeW K t st fun s => Q (.norm, prune vars s)
  | .seq a b, st, Q => exW K vars a st (thenD (fun s => exW K vars b s Q) Q)
  | .cond x a b, st, Q => cndP (x.get st.e) (exW K vars a st Q) (exW K vars b st Q)
  | .block k c, st, Q => exW K vars c st (blockD k Q)
  | .loop c, st, Q => loopD (exW K vars c) st Q
  | .exit k, st, Q => Q (.exit k, st)
  | .ret, st, Q => Q (.ret, st)
theorem prune_eqE {vars : List Nat} {s s' : St} (h : EqE s s') : prune vars s = prune vars s' := by
  obtain ⟨h1, h2⟩ := h
  unfold prune
  rw [h1]
  congr 1
  exact List.map_congr_left fun k _ => by rw [h2 k]
theorem runC_mono {K : OrD} (hm : MonoK K) : ∀ {L : List (Nat × VO)} {rs : List (Nat × CV)} {es : List (Nat × Hp)} {st : St} {k k' : St → Prop}, (∀ s, k s → k' s) → runC K L rs es st k → runC K L rs es st k' := by
  intro L
  induction L with
  | nil => intro rs es st k k' hk h; exact hk _ h
  | cons o r ih =>
    intro rs es st k k' hk h
    simp only [runC] at h ⊢
    split at h
    · rename_i hc; rw [if_pos hc]; exact runOpD_le hm.le (fun s hs => ⟨hs.1, ih hk hs.2⟩) h
    · rename_i hc; rw [if_neg hc]; exact runOpD_le hm.le (fun s hs => ⟨hs.1, ih hk hs.2⟩) h
theorem treeW_mono {K : OrD} (hm : MonoK K) : ∀ {t : VT} {st : St} {k k' : St → Prop}, (∀ s, k s → k' s) → treeW K t st k → treeW K t st k' := by
  intro t
  induction t with
  | leaf l => intro st k k' hk h; exact runC_mono hm hk h
  | split a b x y ihx ihy => intro st k k' hk h; exact ⟨ihx hk h.1, ihy hk h.2⟩
  | all os => intro st k k' hk h; exact RunAllD_le hm.le hk h
theorem exW_exD {K : OrD} (hm : MonoK K) (hn : NM K) (hc : CJ K) {vars : List Nat} : ∀ {c : VC} {st : St} {Q Q' : X × St → Prop}, drawsB c = true → (∀ r, Q r → Q' r) → exW K vars c st Q → exD K vars c st Q' := by
  intro c
  induction c with
  | skip => intro st Q Q' _ hq h; exact hq _ h
  | exit k => intro st Q Q' _ hq h; exact hq _ h
  | ret => intro st Q Q' _ hq h; exact hq _ h
  | rg ops => intro st Q Q' _ hq h; exact runOpsD_le hm.le (fun s => hq _) h
  | rd ops =>
    intro st Q Q' hd hq h
    refine rd_all hm hn hd (fun s s' he hs => ?_) (runC_mono hm (fun s => hq _) h)
    rw [← prune_eqE he]; exact hs
  | rx ops t =>
    intro st Q Q' hd hq h
    refine tree_all hm hn hc (fun s s' he hs => ?_) hd (treeW_mono hm (fun s => hq _) h)
    rw [← prune_eqE he]; exact hs
  | seq a b iha ihb =>
    intro st Q Q' hd hq h
    simp only [drawsB, Bool.and_eq_true] at hd
    exact iha hd.1 (fun r => thenD_mono (fun s => ihb hd.2 hq) hq) h
  | cond x a b iha ihb =>
    intro st Q Q' hd hq h
    simp only [drawsB, Bool.and_eq_true] at hd
    simp only [exW, exD, cndP] at h ⊢
    split at h
    · rename_i hg; rw [hg]; exact iha hd.1 hq h
    · rename_i hg; rw [hg]; exact ihb hd.2 hq h
    · exact h.elim
  | block k c ih => intro st Q Q' hd hq h; exact ih hd (fun r => blockD_mono hq) h
  | loop c ih => intro st Q Q' hd hq h; exact loopD_mono (f := exW K vars c) (f' := exD K vars c) (fun s Q Q' hq => ih hd hq) hq h
theorem call_wp {M : Code} {X0 : OrD} (h0 : MonoK X0) (h0' : NM X0) (h0'' : CJ X0) {f : Nat} (vf : VF) {as : List IV} {H : Hp} {Q : IV × Hp → Prop} (hM : M f = some vf) (hd : drawsB vf.body = true)
    (h : exW (callD M X0) vf.vars vf.body ⟨enter vf.vars as, H⟩ (finD H vf.res Q)) : callD M X0 f as H Q := by
  refine callD_of h0 ?_
  unfold bodyD
  rw [hM]
  exact exW_exD (callD_mono h0) (callD_nm h0') (callD_cj h0 h0'') hd (fun _ => id) h
end Go.Proofs.YtgdfgnppeekfjaaGreat.Vm
