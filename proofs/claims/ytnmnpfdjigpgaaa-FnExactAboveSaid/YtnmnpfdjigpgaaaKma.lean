/- A walk sees just what can be reached. Plain. No conditions. -/
import Derived.Test.YtnmnpfdjigpgaaaKm
namespace Go.Proofs.Ytnmnpfdjigpgaaa.Vm
set_option linter.unusedSimpArgs false
set_option linter.unusedVariables false

/-- Reached from a block, past none that is barred. -/
inductive Rch (bs : List BlkR) (bar : Nat → Prop) (s : Nat) : Nat → Prop
  | start : ¬ bar s → Rch bs bar s s
  | step {j k : Nat} : Rch bs bar s j → (k : Int) ∈ succsAt bs j → ¬ bar k → Rch bs bar s k
theorem Rch.free {bs : List BlkR} {bar : Nat → Prop} {s j : Nat} (h : Rch bs bar s j) : ¬ bar j := by
  cases h <;> assumption
theorem Rch.mono {bs : List BlkR} {bar bar' : Nat → Prop} {s j : Nat} (h : Rch bs bar s j) (hb : ∀ k, bar' k → bar k) : Rch bs bar' s j := by
  induction h with
  | start h => exact .start fun h' => h (hb _ h')
  | step _ hs hk ih => exact .step ih hs fun h' => hk (hb _ h')
def On (l : List Bool) (j : Nat) : Prop := l.getD j true = true
/-- What a walk does: what it sees anew it has reached, and of that it sees all that follows. -/
structure Dfs (bs : List BlkR) (p r : WSt) : Prop where
  closed : ∀ k, On r.1 k → ¬ On p.1 k → ∀ s ∈ succsAt bs k, On r.1 s.toNat
theorem Dfs.refl (bs : List BlkR) (p : WSt) : Dfs bs p p := ⟨fun k h1 h2 => absurd h1 h2⟩
theorem Dfs.trans {bs : List BlkR} {p q r : WSt} (hm : WOk q r) (h : Dfs bs p q) (k : Dfs bs q r) : Dfs bs p r := by
  refine ⟨fun j h1 h2 s hs => ?_⟩
  by_cases hq : On q.1 j
  · exact hm.mono _ (h.closed j hq h2 s hs)
  · exact k.closed j h1 hq s hs
theorem fold_dfs {bs : List BlkR} {n : Nat} (ih : ∀ b p, p.1.getD b true = false → cf p.1 ≤ n → Dfs bs p (walkF bs n b p) ∧ On (walkF bs n b p).1 b) :
    ∀ (ks : List Int) (q : WSt), cf q.1 ≤ n → Dfs bs q (ks.foldl (wstepWith (walkF bs n)) q) ∧ ∀ s ∈ ks, On (ks.foldl (wstepWith (walkF bs n)) q).1 s.toNat := by
  intro ks
  induction ks with
  | nil => intro q _; exact ⟨Dfs.refl _ _, fun s hs => by cases hs⟩
  | cons k r ihk =>
    intro q hq
    simp only [List.foldl_cons]
    obtain ⟨ok, _⟩ := wfold_ok bs n r (wstepWith (walkF bs n) q k)
    have h1 : WOk q (wstepWith (walkF bs n) q k) ∧ Dfs bs q (wstepWith (walkF bs n) q k) ∧ On (wstepWith (walkF bs n) q k).1 k.toNat := by
      unfold wstepWith
      split
      · rename_i h; exact ⟨WOk.refl _, Dfs.refl _ _, h⟩
      · rename_i h
        obtain ⟨a, b⟩ := ih k.toNat q (by simpa using h) hq
        exact ⟨(walkF_ok bs n _ q).1, a, b⟩
    obtain ⟨a, b⟩ := ihk (wstepWith (walkF bs n) q k) (Nat.le_trans h1.1.le hq)
    refine ⟨Dfs.trans ok h1.2.1 a, fun s hs => ?_⟩
    rcases List.mem_cons.1 hs with rfl | hs
    · exact ok.mono _ h1.2.2
    · exact b s hs
theorem on_set {l : List Bool} {b j : Nat} (hb : b < l.length) : On (l.set b true) j ↔ On l j ∨ j = b := by
  unfold On
  rw [List.getD_eq_getElem?_getD, List.getElem?_set]
  by_cases h : b = j
  · subst h; simp [hb]
  · have h2 : ¬ j = b := fun e => h e.symm
    simp [h, h2]
theorem walkF_dfs (bs : List BlkR) : ∀ n b p, p.1.getD b true = false → cf p.1 ≤ n → Dfs bs p (walkF bs n b p) ∧ On (walkF bs n b p).1 b := by
  intro n
  induction n with
  | zero =>
    intro b p hb hc
    have := cf_set hb
    omega
  | succ n ih =>
    intro b p hb hc
    have hbl := unseen_lt hb
    have hcs := cf_set hb
    obtain ⟨⟨h1⟩, h2⟩ := fold_dfs ih (succsAt bs b) (p.1.set b true, p.2) (by simp only; omega)
    obtain ⟨ok, _⟩ := wfold_ok bs n (succsAt bs b) (p.1.set b true, p.2)
    have hon : On (walkF bs (n + 1) b p).1 b := ok.mono _ ((on_set hbl).2 (.inr rfl))
    refine ⟨⟨fun k hk hn s hs => ?_⟩, hon⟩
    by_cases e : k = b
    · subst e; exact h2 s hs
    · exact h1 k hk (fun h => by
        rcases (on_set hbl).1 h with h | h
        · exact hn h
        · exact e h) s hs
/-- And it sees nothing else. -/
theorem walkF_only (bs : List BlkR) (hin : InRange bs) : ∀ n b p (Q : Nat → Prop), Q b → (∀ j, Q j → ∀ s ∈ succsAt bs j, ¬ On p.1 s.toNat → Q s.toNat) → ∀ j, On (walkF bs n b p).1 j → On p.1 j ∨ Q j := by
  intro n
  induction n with
  | zero => intro b p Q _ _ j hj; exact .inl hj
  | succ n ih =>
    intro b p Q hQ hQs j hj
    have hf : ∀ (ks : List Int) (q : WSt), (∀ s ∈ ks, s ∈ succsAt bs b) → (∀ j, On p.1 j → On q.1 j) → (∀ j, On q.1 j → On p.1 j ∨ Q j) → ∀ j, On (ks.foldl (wstepWith (walkF bs n)) q).1 j → On p.1 j ∨ Q j := by
      intro ks
      induction ks with
      | nil => intro q _ _ h2 j hj; exact h2 j hj
      | cons k r ihk =>
        intro q hks hmn h2 j hj
        simp only [List.foldl_cons] at hj
        refine ihk (wstepWith (walkF bs n) q k) (fun s hs => hks s (by simp [hs])) (fun j hj => ?_) ?_ j hj
        · unfold wstepWith
          split
          · exact hmn j hj
          · exact (walkF_ok bs n _ q).1.mono _ (hmn j hj)
        · intro j hj
          unfold wstepWith at hj
          split at hj
          · exact h2 j hj
          · rename_i hun
            rcases ih k.toNat q Q (hQs b hQ k (hks k (by simp)) fun h => hun (hmn _ h)) (fun j hj s hs hn => hQs j hj s hs fun h => hn (hmn _ h)) j hj with h | h
            · exact h2 j h
            · exact .inr h
    by_cases hbl : b < p.1.length
    · exact hf (succsAt bs b) (p.1.set b true, p.2) (fun s hs => hs) (fun j hj => (on_set hbl).2 (.inl hj)) (fun j hj => by
        rcases (on_set hbl).1 hj with h | h
        · exact .inl h
        · subst h; exact .inr hQ) j hj
    · have e : p.1.set b true = p.1 := List.set_eq_of_length_le (by omega)
      exact hf (succsAt bs b) (p.1.set b true, p.2) (fun s hs => hs) (fun j hj => by rw [e]; exact hj) (fun j hj => by rw [e] at hj; exact .inl hj) j hj
/-- A walk sees what was seen, and what can be reached past that. -/
theorem walkF_rch {bs : List BlkR} (hin : InRange bs) {n b : Nat} {p : WSt} (hb : p.1.getD b true = false) (hc : cf p.1 ≤ n) (hl : p.1.length = bs.length) (j : Nat) (hj : j < bs.length) :
    On (walkF bs n b p).1 j ↔ On p.1 j ∨ Rch bs (On p.1) b j := by
  have hnb : ¬ On p.1 b := by unfold On; rw [hb]; simp
  constructor
  · intro h
    refine walkF_only bs hin n b p (Rch bs (On p.1) b) (.start hnb) (fun j hj s hs hn => ?_) j h
    obtain ⟨h0, h1⟩ := hin j s hs
    exact .step hj (by rw [Int.toNat_of_nonneg h0]; exact hs) hn
  · obtain ⟨⟨h1⟩, h2⟩ := walkF_dfs bs n b p hb hc
    rintro (h | h)
    · exact (walkF_ok bs n b p).1.mono _ h
    · clear hj
      induction h with
      | start _ => exact h2
      | step hr hs hk ih =>
        have := h1 _ ih hr.free _ hs
        simpa using this
/-- Who stands on every way. -/
theorem rch_trans {bs : List BlkR} {s x a b : Nat} (h : Rch bs (· = x) s b) : Rch bs (· = a) s b ∨ Rch bs (· = x) s a := by
  induction h with
  | start hs =>
    by_cases e : s = a
    · subst e; exact .inr (.start hs)
    · exact .inl (.start e)
  | @step j k hj hs hk ih =>
    rcases ih with ih | ih
    · by_cases e : k = a
      · subst e; exact .inr (.step hj hs hk)
      · exact .inl (.step ih hs e)
    · exact .inr ih
theorem rch_anti {bs : List BlkR} {s a b j : Nat} (hab : a ≠ b) (h : Rch bs (fun _ => False) s j) : Rch bs (· = a) s b ∨ Rch bs (· = b) s a ∨ (Rch bs (· = a) s j ∧ Rch bs (· = b) s j) := by
  induction h with
  | start _ =>
    by_cases e : s = a
    · subst e; exact .inr (.inl (.start hab))
    · by_cases e2 : s = b
      · subst e2; exact .inl (.start e)
      · exact .inr (.inr ⟨.start e, .start e2⟩)
  | @step j k hj hs hk ih =>
    rcases ih with ih | ih | ⟨ih1, ih2⟩
    · exact .inl ih
    · exact .inr (.inl ih)
    · by_cases e : k = a
      · subst e; exact .inr (.inl (.step ih2 hs hab))
      · by_cases e2 : k = b
        · subst e2; exact .inl (.step ih1 hs e)
        · exact .inr (.inr ⟨.step ih1 hs e, .step ih2 hs e2⟩)
end Go.Proofs.Ytnmnpfdjigpgaaa.Vm
