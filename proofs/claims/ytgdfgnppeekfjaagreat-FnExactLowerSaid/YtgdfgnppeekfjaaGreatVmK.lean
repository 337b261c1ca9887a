/- What holds of every run of the ideal machine: more may be said behind it; it ends somewhere; a call is what its code is. No conditions. -/
import Derived.Test.YtgdfgnppeekfjaaGreatVmA
namespace Go.Proofs.YtgdfgnppeekfjaaGreat.Vm
set_option linter.unusedVariables false
theorem WP.mono {α : Type} {o : Option α} {Q Q' : α → Prop} (h : WP o Q) (hq : ∀ r, Q r → Q' r) : WP o Q' := by
  obtain ⟨r, h1, h2⟩ := h; exact ⟨r, h1, hq r h2⟩
def LeK (K K' : OrD) : Prop := ∀ f as H Q Q', (∀ r, Q r → Q' r) → K f as H Q → K' f as H Q'
theorem stepD_le {K K' : OrD} (h : LeK K K') {e : Env} {H : Hp} {o : VOp} {Q Q' : IV × Hp → Prop} (hq : ∀ r, Q r → Q' r) (hs : stepD K e H o Q) : stepD K' e H o Q' := by
  unfold stepD at hs ⊢
  split at hs
  · exact h _ _ _ _ _ hq hs
  · split at hs
    · exact h _ _ _ _ _ hq hs
    · exact hs.elim
  · exact hs.mono hq
theorem runOpD_le {K K' : OrD} (h : LeK K K') {vo : VO} {st : St} {k k' : St → Prop} (hk : ∀ s, k s → k' s) (hs : runOpD K vo st k) : runOpD K' vo st k' := by
  unfold runOpD at hs ⊢
  split at hs
  · exact stepD_le h (fun r => hk _) hs
  · split at hs
    · split at hs
      · rename_i e; rw [if_pos e]; exact stepD_le h (fun r => hk _) hs
      · rename_i e; rw [if_neg e]; exact hk _ hs
    · exact hk _ hs
    · exact hs
theorem runOpsD_le {K K' : OrD} (h : LeK K K') : ∀ {ops : List VO} {st : St} {k k' : St → Prop}, (∀ s, k s → k' s) → runOpsD K ops st k → runOpsD K' ops st k' := by
  intro ops
  induction ops with
  | nil => intro st k k' hk hs; exact hk _ hs
  | cons o r ih => intro st k k' hk hs; exact runOpD_le h (fun s => ih hk) hs
theorem RunAllD_le {K K' : OrD} (h : LeK K K') {ops : List VO} {Q Q' : St → Prop} (hq : ∀ s, Q s → Q' s) : ∀ {n : Nat} {listed : List Bool} {st : St}, RunAllD K ops Q n listed st → RunAllD K' ops Q' n listed st := by
  intro n
  induction n with
  | zero => intro listed st hs; exact ⟨hs.1, hq _ hs.2⟩
  | succ n ih =>
    intro listed st hs
    refine ⟨fun hr => hq _ (hs.1 hr), fun i hi => ?_⟩
    obtain ⟨o, h1, h2⟩ := hs.2 i hi
    exact ⟨o, h1, runOpD_le h (fun s => ih) h2⟩
theorem thenD_mono {f f' : St → Prop} {Q Q' : X × St → Prop} (hf : ∀ s, f s → f' s) (hq : ∀ r, Q r → Q' r) {r : X × St} (h : thenD f Q r) : thenD f' Q' r := by
  unfold thenD at h ⊢
  split at h
  · exact hf _ h
  · exact hq _ h
theorem blockD_mono {k : Nat} {Q Q' : X × St → Prop} (hq : ∀ r, Q r → Q' r) {r : X × St} (h : blockD k Q r) : blockD k Q' r := by
  unfold blockD at h ⊢
  split at h
  · split at h
    · rename_i e; rw [if_pos e]; exact hq _ h
    · rename_i e; rw [if_neg e]; exact hq _ h
  · exact hq _ h
theorem loopD_mono {f f' : St → (X × St → Prop) → Prop} (hf : ∀ s Q Q', (∀ r, Q r → Q' r) → f s Q → f' s Q') {st : St} {Q Q' : X × St → Prop} (hq : ∀ r, Q r → Q' r) (h : loopD f st Q) : loopD f' st Q' := by
  intro I hI
  refine h I fun s hs => hI s (hf s _ _ (fun r => thenD_mono (fun _ => id) hq) hs)
theorem exD_le {K K' : OrD} (h : LeK K K') {vars : List Nat} : ∀ {c : VC} {st : St} {Q Q' : X × St → Prop}, (∀ r, Q r → Q' r) → exD K vars c st Q → exD K' vars c st Q' := by
  intro c
  induction c with
  | skip => intro st Q Q' hq hs; exact hq _ hs
  | exit k => intro st Q Q' hq hs; exact hq _ hs
  | ret => intro st Q Q' hq hs; exact hq _ hs
  | rg ops => intro st Q Q' hq hs; exact runOpsD_le h (fun s => hq _) hs
  | rd ops => intro st Q Q' hq hs; exact RunAllD_le h (fun s => hq _) hs
  | rx ops t => intro st Q Q' hq hs; exact RunAllD_le h (fun s => hq _) hs
  | seq a b iha ihb => intro st Q Q' hq hs; exact iha (fun r => thenD_mono (fun s => ihb hq) hq) hs
  | cond x a b iha ihb =>
    intro st Q Q' hq hs
    simp only [exD] at hs ⊢
    split at hs
    · exact iha hq hs
    · exact ihb hq hs
    · exact hs
  | block k c ih => intro st Q Q' hq hs; exact ih (fun r => blockD_mono hq) hs
  | loop c ih => intro st Q Q' hq hs; exact loopD_mono (f := exD K vars c) (f' := exD K' vars c) (fun s Q Q' hq => ih hq) hq hs
theorem MonoK.le {K : OrD} (h : MonoK K) : LeK K K := fun f as H Q Q' hq hk => h f as H Q Q' hq hk
theorem exD_mono {K : OrD} (h : MonoK K) {vars : List Nat} {c : VC} {st : St} {Q Q' : X × St → Prop} (hs : exD K vars c st Q) (hq : ∀ r, Q r → Q' r) : exD K vars c st Q' := exD_le h.le hq hs
theorem finD_mono {H : Hp} {res : List (Nat × Option (Option Nat))} {Q Q' : IV × Hp → Prop} (hq : ∀ r, Q r → Q' r) {r : X × St} (h : finD H res Q r) : finD H res Q' r := by
  unfold finD at h ⊢
  split at h
  · exact h
  · exact h.mono fun v => hq _
theorem callD_mono {M : Code} {X0 : OrD} (h0 : MonoK X0) : MonoK (callD M X0) := by
  intro f as H Q Q' hq h K hm hp
  exact hm f as H Q Q' hq (h K hm hp)
theorem callD_of {M : Code} {X0 : OrD} (h0 : MonoK X0) {f : Nat} {as : List IV} {H : Hp} {Q : IV × Hp → Prop} (h : bodyD M X0 (callD M X0) f as H Q) : callD M X0 f as H Q := by
  intro K hm hp
  refine hp f as H Q ?_
  have hl : LeK (callD M X0) K := fun f as H Q Q' hq hk => hm f as H Q Q' hq (hk K hm hp)
  unfold bodyD at h ⊢
  split at h
  · exact h
  · exact exD_le hl (fun _ => id) h
/-! ### Every run ends somewhere -/
def NM (K : OrD) : Prop := ∀ f as H Q, K f as H Q → ∃ r, Q r
theorem stepD_nm {K : OrD} (h : NM K) {e : Env} {H : Hp} {o : VOp} {Q : IV × Hp → Prop} (hs : stepD K e H o Q) : ∃ r, Q r := by
  unfold stepD at hs
  split at hs
  · exact h _ _ _ _ hs
  · split at hs
    · exact h _ _ _ _ hs
    · exact hs.elim
  · obtain ⟨r, _, h⟩ := hs; exact ⟨r, h⟩
theorem runOpD_nm {K : OrD} (h : NM K) {vo : VO} {st : St} {k : St → Prop} (hs : runOpD K vo st k) : ∃ v H', k ⟨setD st.e vo.d v, H'⟩ := by
  unfold runOpD at hs
  split at hs
  · obtain ⟨r, hr⟩ := stepD_nm h hs; exact ⟨_, _, hr⟩
  · split at hs
    · split at hs
      · obtain ⟨r, hr⟩ := stepD_nm h hs; exact ⟨_, _, hr⟩
      · exact ⟨_, _, hs⟩
    · exact ⟨_, _, hs⟩
    · exact hs.elim
theorem runOpsD_nm {K : OrD} (h : NM K) : ∀ {ops : List VO} {st : St} {k : St → Prop}, runOpsD K ops st k → ∃ s, k s := by
  intro ops
  induction ops with
  | nil => intro st k hs; exact ⟨_, hs⟩
  | cons o r ih => intro st k hs; obtain ⟨v, H', hr⟩ := runOpD_nm h hs; exact ih hr
theorem RunAllD_nm {K : OrD} (h : NM K) {ops : List VO} {Q : St → Prop} : ∀ {n : Nat} {listed : List Bool} {st : St}, RunAllD K ops Q n listed st → ∃ s, Q s := by
  intro n
  induction n with
  | zero => intro listed st hs; exact ⟨_, hs.2⟩
  | succ n ih =>
    intro listed st hs
    cases hr : readyV ops listed with
    | nil => exact ⟨_, hs.1 hr⟩
    | cons i r =>
      obtain ⟨o, h1, h2⟩ := hs.2 i (by rw [hr]; simp)
      obtain ⟨v, H', h3⟩ := runOpD_nm h h2
      exact ih h3
theorem exD_nm {K : OrD} (h : NM K) {vars : List Nat} : ∀ {c : VC} {st : St} {Q : X × St → Prop}, exD K vars c st Q → ∃ r, Q r := by
  intro c
  induction c with
  | skip => intro st Q hs; exact ⟨_, hs⟩
  | exit k => intro st Q hs; exact ⟨_, hs⟩
  | ret => intro st Q hs; exact ⟨_, hs⟩
  | rg ops => intro st Q hs; obtain ⟨s, hs⟩ := runOpsD_nm h hs; exact ⟨_, hs⟩
  | rd ops => intro st Q hs; obtain ⟨s, hs⟩ := RunAllD_nm h hs; exact ⟨_, hs⟩
  | rx ops t => intro st Q hs; obtain ⟨s, hs⟩ := RunAllD_nm h hs; exact ⟨_, hs⟩
  | seq a b iha ihb =>
    intro st Q hs
    obtain ⟨⟨x, s⟩, hr⟩ := iha hs
    cases x with
    | norm => exact ihb hr
    | exit k => exact ⟨_, hr⟩
    | ret => exact ⟨_, hr⟩
  | cond x a b iha ihb =>
    intro st Q hs
    simp only [exD] at hs
    split at hs
    · exact iha hs
    · exact ihb hs
    · exact hs.elim
  | block k c ih =>
    intro st Q hs
    obtain ⟨⟨x, s⟩, hr⟩ := ih hs
    cases x with
    | norm => exact ⟨_, hr⟩
    | ret => exact ⟨_, hr⟩
    | exit k' =>
      simp only [blockD] at hr
      split at hr
      · exact ⟨_, hr⟩
      · exact ⟨_, hr⟩
  | loop c ih =>
    intro st Q hs
    refine hs (fun _ => ∃ r, Q r) fun s hr => ?_
    obtain ⟨⟨x, t⟩, hr⟩ := ih hr
    cases x with
    | norm => exact hr
    | exit k => exact ⟨_, hr⟩
    | ret => exact ⟨_, hr⟩
theorem callD_nm {M : Code} {X0 : OrD} (h0 : NM X0) : NM (callD M X0) := by
  intro f as H Q h
  refine h (fun _ _ _ Q => ∃ r, Q r) (fun f as H Q Q' hq ⟨r, hr⟩ => ⟨r, hq r hr⟩) fun f as H Q hb => ?_
  unfold bodyD at hb
  split at hb
  · exact h0 _ _ _ _ hb
  · obtain ⟨⟨x, s⟩, hr⟩ := exD_nm (fun _ _ _ _ h => h) hb
    unfold finD at hr
    split at hr
    · exact hr.elim
    · obtain ⟨v, _, hq⟩ := hr; exact ⟨_, hq⟩
/-! ### Two things said of a run hold together -/
def CJ3 (K1 K2 K3 : OrD) : Prop := ∀ f as H Q Q', K1 f as H Q → K2 f as H Q' → K3 f as H fun r => Q r ∧ Q' r
abbrev CJ (K : OrD) : Prop := CJ3 K K K
theorem WP.and {α : Type} {o : Option α} {Q Q' : α → Prop} (h : WP o Q) (h' : WP o Q') : WP o fun r => Q r ∧ Q' r := by
  obtain ⟨r, h1, h2⟩ := h
  obtain ⟨r', h3, h4⟩ := h'
  rw [h1] at h3; injection h3 with h3; subst h3
  exact ⟨r, h1, h2, h4⟩
section
variable {K1 K2 K3 : OrD} (h : CJ3 K1 K2 K3)
include h
theorem stepD_cj {e : Env} {H : Hp} {o : VOp} {Q Q' : IV × Hp → Prop} (h1 : stepD K1 e H o Q) (h2 : stepD K2 e H o Q') : stepD K3 e H o fun r => Q r ∧ Q' r := by
  by_cases c1 : ∃ f as, o = .call f as
  · obtain ⟨f, as, rfl⟩ := c1; exact h _ _ _ _ _ h1 h2
  · by_cases c2 : ∃ x as, o = .clv x as
    · obtain ⟨x, as, rfl⟩ := c2
      simp only [stepD] at h1 h2 ⊢
      generalize x.get e = u at h1 h2 ⊢
      cases u with
      | f fid caps => exact h _ _ _ _ _ h1 h2
      | _ => exact h1.elim
    · have e1 : ∀ (K : OrD) (Q : IV × Hp → Prop), stepD K e H o Q = WP (stepV noK e H o) Q := by
        intro K Q
        unfold stepD
        split
        · exact (c1 ⟨_, _, rfl⟩).elim
        · exact (c2 ⟨_, _, rfl⟩).elim
        · rfl
      rw [e1] at h1 h2 ⊢
      exact h1.and h2
theorem runOpD_cj {vo : VO} {st : St} {k k' : St → Prop} (h1 : runOpD K1 vo st k) (h2 : runOpD K2 vo st k') : runOpD K3 vo st fun s => k s ∧ k' s := by
  obtain ⟨d, o, gd, dp, ck, rc⟩ := vo
  cases gd with
  | none => exact stepD_cj h h1 h2
  | some p =>
    obtain ⟨s, w⟩ := p
    simp only [runOpD] at h1 h2 ⊢
    generalize Env.get st.e s = u at h1 h2 ⊢
    cases u with
    | c v =>
      cases v with
      | b x =>
        by_cases c : x = w
        · simp only [if_pos c] at h1 h2 ⊢; exact stepD_cj h h1 h2
        · simp only [if_neg c] at h1 h2 ⊢; exact ⟨h1, h2⟩
      | und => exact ⟨h1, h2⟩
      | _ => exact h1.elim
    | _ => exact h1.elim
theorem runOpsD_cj (hm : MonoK K3) : ∀ {ops : List VO} {st : St} {k k' : St → Prop}, runOpsD K1 ops st k → runOpsD K2 ops st k' → runOpsD K3 ops st fun s => k s ∧ k' s := by
  intro ops
  induction ops with
  | nil => intro st k k' h1 h2; exact ⟨h1, h2⟩
  | cons o r ih => intro st k k' h1 h2; exact runOpD_le (fun f as H Q Q' hq hk => hm f as H Q Q' hq hk) (fun s hs => ih hs.1 hs.2) (runOpD_cj h h1 h2)
theorem RunAllD_cj (hm : MonoK K3) {ops : List VO} {Q Q' : St → Prop} : ∀ {n : Nat} {listed : List Bool} {st : St}, RunAllD K1 ops Q n listed st → RunAllD K2 ops Q' n listed st → RunAllD K3 ops (fun s => Q s ∧ Q' s) n listed st := by
  intro n
  induction n with
  | zero => intro listed st h1 h2; exact ⟨h1.1, h1.2, h2.2⟩
  | succ n ih =>
    intro listed st h1 h2
    refine ⟨fun hr => ⟨h1.1 hr, h2.1 hr⟩, fun i hi => ?_⟩
    obtain ⟨o, a1, a2⟩ := h1.2 i hi
    obtain ⟨o', b1, b2⟩ := h2.2 i hi
    rw [a1] at b1; injection b1 with b1; subst b1
    exact ⟨o, a1, runOpD_le (fun f as H Q Q' hq hk => hm f as H Q Q' hq hk) (fun s hs => ih hs.1 hs.2) (runOpD_cj h a2 b2)⟩
omit h in
theorem thenD_cj {f f' f'' : St → Prop} {Q Q' : X × St → Prop} (hf : ∀ s, f s → f' s → f'' s) {r : X × St} (h1 : thenD f Q r) (h2 : thenD f' Q' r) : thenD f'' (fun r => Q r ∧ Q' r) r := by
  obtain ⟨x, s⟩ := r
  cases x with
  | norm => exact hf s h1 h2
  | exit k => exact ⟨h1, h2⟩
  | ret => exact ⟨h1, h2⟩
omit h in
theorem blockD_cj {k : Nat} {Q Q' : X × St → Prop} {r : X × St} (h1 : blockD k Q r) (h2 : blockD k Q' r) : blockD k (fun r => Q r ∧ Q' r) r := by
  obtain ⟨x, s⟩ := r
  cases x with
  | norm => exact ⟨h1, h2⟩
  | ret => exact ⟨h1, h2⟩
  | exit k' =>
    simp only [blockD] at h1 h2 ⊢
    by_cases c : k' = k
    · rw [if_pos c] at h1 h2 ⊢; exact ⟨h1, h2⟩
    · rw [if_neg c] at h1 h2 ⊢; exact ⟨h1, h2⟩
omit h in
theorem loopD_fold {f : St → (X × St → Prop) → Prop} (hf : ∀ s Q Q', (∀ r, Q r → Q' r) → f s Q → f s Q') {s : St} {Q : X × St → Prop} (h : f s (thenD (fun t => loopD f t Q) Q)) : loopD f s Q :=
  fun I hI => hI s (hf s _ _ (fun r => thenD_mono (fun t ht => ht I hI) (fun _ => id)) h)
omit h in
theorem loopD_unfold {f : St → (X × St → Prop) → Prop} (hf : ∀ s Q Q', (∀ r, Q r → Q' r) → f s Q → f s Q') {s : St} {Q : X × St → Prop} (h : loopD f s Q) : f s (thenD (fun t => loopD f t Q) Q) :=
  h (fun s => f s (thenD (fun t => loopD f t Q) Q)) fun s hs => hf s _ _ (fun r => thenD_mono (fun t ht => loopD_fold hf ht) (fun _ => id)) hs
theorem exD_cj (m1 : MonoK K1) (m2 : MonoK K2) (hm : MonoK K3) {vars : List Nat} : ∀ {c : VC} {st : St} {Q Q' : X × St → Prop}, exD K1 vars c st Q → exD K2 vars c st Q' → exD K3 vars c st fun r => Q r ∧ Q' r := by
  intro c
  induction c with
  | skip => intro st Q Q' h1 h2; exact ⟨h1, h2⟩
  | exit k => intro st Q Q' h1 h2; exact ⟨h1, h2⟩
  | ret => intro st Q Q' h1 h2; exact ⟨h1, h2⟩
  | rg ops => intro st Q Q' h1 h2; exact runOpsD_cj h hm h1 h2
  | rd ops => intro st Q Q' h1 h2; exact RunAllD_cj h hm h1 h2
  | rx ops t => intro st Q Q' h1 h2; exact RunAllD_cj h hm h1 h2
  | seq a b iha ihb =>
    intro st Q Q' h1 h2
    show exD K3 vars a st _
    exact exD_mono hm (iha h1 h2) fun r hr => thenD_cj (fun s => ihb) hr.1 hr.2
  | cond x a b iha ihb =>
    intro st Q Q' h1 h2
    simp only [exD] at h1 h2 ⊢
    generalize x.get st.e = u at h1 h2 ⊢
    cases u with
    | c v =>
      cases v with
      | b y =>
        cases y with
        | true => exact iha h1 h2
        | false => exact ihb h1 h2
      | _ => exact h1.elim
    | _ => exact h1.elim
  | block k c ih =>
    intro st Q Q' h1 h2
    show exD K3 vars c st _
    exact exD_mono hm (ih h1 h2) fun r hr => blockD_cj hr.1 hr.2
  | loop c ih =>
    intro st Q Q' h1 h2
    have f3 : ∀ s Q Q', (∀ r, Q r → Q' r) → exD K3 vars c s Q → exD K3 vars c s Q' := fun s Q Q' hq hs => exD_mono hm hs hq
    have f2 : ∀ s Q Q', (∀ r, Q r → Q' r) → exD K2 vars c s Q → exD K2 vars c s Q' := fun s Q Q' hq hs => exD_mono m2 hs hq
    refine h1 (fun s => loopD (exD K2 vars c) s Q' → loopD (exD K3 vars c) s fun r => Q r ∧ Q' r) (fun s hs hs2 => ?_) h2
    exact loopD_fold f3 (exD_mono hm (ih hs (loopD_unfold f2 hs2)) fun r hr => thenD_cj (fun t a b => a b) hr.1 hr.2)
end
theorem bodyD_mono {M : Code} {X0 K : OrD} (h0 : MonoK X0) (hm : MonoK K) : MonoK (bodyD M X0 K) := by
  intro f as H Q Q' hq h
  unfold bodyD at h ⊢
  split at h
  · exact h0 _ _ _ _ _ hq h
  · exact exD_mono hm h fun r => finD_mono hq
theorem callD_unfold {M : Code} {X0 : OrD} (h0 : MonoK X0) {f : Nat} {as : List IV} {H : Hp} {Q : IV × Hp → Prop} (h : callD M X0 f as H Q) : bodyD M X0 (callD M X0) f as H Q := by
  refine h (bodyD M X0 (callD M X0)) (bodyD_mono h0 (callD_mono h0)) fun f as H Q hb => ?_
  have hl : LeK (bodyD M X0 (callD M X0)) (callD M X0) := fun f as H Q Q' hq hk => callD_mono h0 f as H Q Q' hq (callD_of h0 hk)
  unfold bodyD at hb ⊢
  split at hb
  · exact hb
  · exact exD_le hl (fun _ => id) hb
theorem callD_cj {M : Code} {X0 : OrD} (h0 : MonoK X0) (hc : CJ X0) : CJ (callD M X0) := by
  intro f as H Q Q' h h'
  refine h (fun f as H Q => ∀ Q2, callD M X0 f as H Q2 → callD M X0 f as H fun r => Q r ∧ Q2 r) ?_ ?_ Q' h'
  · intro f as H Q Q' hq h Q2 h2
    exact callD_mono h0 _ _ _ _ _ (fun r hr => ⟨hq r hr.1, hr.2⟩) (h Q2 h2)
  · intro f as H Q hb Q2 h2
    have h2 := callD_unfold h0 h2
    refine callD_of h0 ?_
    unfold bodyD at hb h2 ⊢
    cases hM : M f with
    | none => simp only [hM] at hb h2 ⊢; exact hc _ _ _ _ _ hb h2
    | some vf =>
      simp only [hM] at hb h2 ⊢
      have := exD_cj (K1 := fun f as H Q => ∀ Q2, callD M X0 f as H Q2 → callD M X0 f as H fun r => Q r ∧ Q2 r) (K2 := callD M X0) (K3 := callD M X0) (fun f as H Q Q' h h' => h Q' h')
        (fun f as H Q Q' hq h Q2 h2 => callD_mono h0 _ _ _ _ _ (fun r hr => ⟨hq r hr.1, hr.2⟩) (h Q2 h2)) (callD_mono h0) (callD_mono h0) hb h2
      refine exD_mono (callD_mono h0) this fun r hr => ?_
      obtain ⟨x, s⟩ := r
      cases x with
      | norm => exact WP.and hr.1 hr.2
      | ret => exact WP.and hr.1 hr.2
      | exit k => exact hr.1.elim
end Go.Proofs.YtgdfgnppeekfjaaGreat.Vm
