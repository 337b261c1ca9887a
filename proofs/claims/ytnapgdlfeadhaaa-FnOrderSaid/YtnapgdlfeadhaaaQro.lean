import Derived.Test.YtnapgdlfeadhaaaP4
import Derived.Test.YtnapgdlfeadhaaaP2
section
/- What a program tells with more fuel, with more to read; the way it goes. Plain. No conditions. -/
namespace Go.Proofs.Ytnapgdlfeadhaaa.Vm
set_option linter.unusedSimpArgs false
set_option linter.unusedVariables false

theorem insGo_code (s : RunS) (x : InsR) : (insGo s x).1 = 0 ∨ (insGo s x).1 = 2 := by
  unfold insGo
  (repeat' split) <;> simp
theorem insGo_pre (s : RunS) (x : InsR) : s.told <+: (insGo s x).2.told := by
  unfold insGo
  (repeat' split) <;> simp [RunS.put]
theorem listGo_pre : ∀ (xs : List InsR) (φ : Nat) (s : RunS), s.told <+: (listGo xs φ s).2.2.told := by
  intro xs
  induction xs with
  | nil => intro φ s; exact List.prefix_refl _
  | cons x r ih =>
    intro φ s
    cases φ with
    | zero => exact List.prefix_refl _
    | succ φ =>
      simp only [listGo]
      split
      · exact (insGo_pre s x).trans (ih φ _)
      · exact insGo_pre s x
theorem runGo_pre (bs : List BlkR) : ∀ (n φ b : Nat) (fr : Int) (s : RunS), s.told <+: (runGo bs n φ b fr s).2.2.told := by
  intro n
  induction n with
  | zero => intro φ b fr s; exact List.prefix_refl _
  | succ n ih =>
    intro φ b fr s
    simp only [runGo]
    have h : s.told <+: (listGo (bs.getD b blk0).list φ (comeGo b fr (bs.getD b blk0).phis s)).2.2.told := listGo_pre _ φ (comeGo b fr (bs.getD b blk0).phis s)
    generalize listGo (bs.getD b blk0).list φ (comeGo b fr (bs.getD b blk0).phis s) = r at *
    split
    · split
      · exact h
      · split
        · exact h
        · exact h.trans (ih _ _ _ _)
    · exact h
theorem listGo_code : ∀ (xs : List InsR) (φ : Nat) (s : RunS), (listGo xs φ s).1 = 0 ∨ (listGo xs φ s).1 = 1 ∨ (listGo xs φ s).1 = 2 := by
  intro xs
  induction xs with
  | nil => intro φ s; exact .inl rfl
  | cons x r ih =>
    intro φ s
    cases φ with
    | zero => exact .inr (.inl rfl)
    | succ φ =>
      simp only [listGo]
      split
      · exact ih φ _
      · rcases insGo_code s x with h | h
        · exact .inl h
        · exact .inr (.inr h)
theorem runGo_code (bs : List BlkR) : ∀ (n φ b : Nat) (fr : Int) (s : RunS), (runGo bs n φ b fr s).1 = 0 ∨ (runGo bs n φ b fr s).1 = 1 ∨ (runGo bs n φ b fr s).1 = 2 := by
  intro n
  induction n with
  | zero => intro φ b fr s; exact .inr (.inl rfl)
  | succ n ih =>
    intro φ b fr s
    simp only [runGo]
    have h := listGo_code (bs.getD b blk0).list φ (comeGo b fr (bs.getD b blk0).phis s)
    generalize listGo (bs.getD b blk0).list φ (comeGo b fr (bs.getD b blk0).phis s) = r at *
    split
    · split
      · exact .inr (.inl rfl)
      · split
        · exact .inl rfl
        · exact ih _ _ _ _
    · exact h
/-! ### More fuel -/
theorem listGo_more (d : Nat) : ∀ (xs : List InsR) (φ : Nat) (s : RunS), ((listGo xs φ s).1 ≠ 1 → listGo xs (φ + d) s = ((listGo xs φ s).1, (listGo xs φ s).2.1 + d, (listGo xs φ s).2.2)) ∧
    ((listGo xs φ s).1 = 1 → (listGo xs φ s).2.2.told <+: (listGo xs (φ + d) s).2.2.told) := by
  intro xs
  induction xs with
  | nil => intro φ s; exact ⟨fun _ => rfl, fun h => by simp [listGo] at h⟩
  | cons x r ih =>
    intro φ s
    cases φ with
    | zero => exact ⟨fun h => absurd rfl h, fun _ => listGo_pre (x :: r) _ s⟩
    | succ φ =>
      rw [show φ + 1 + d = (φ + d) + 1 by omega]
      simp only [listGo]
      by_cases h0 : (insGo s x).1 = 0
      · simp only [if_pos h0]; exact ih φ _
      · simp only [if_neg h0]
        refine ⟨fun _ => trivial, fun h => ?_⟩
        rcases insGo_code s x with h1 | h1 <;> omega
theorem runGo_fuel (bs : List BlkR) (d : Nat) : ∀ (n m φ b : Nat) (fr : Int) (s : RunS), φ < n → φ + d < m → ((runGo bs n φ b fr s).1 ≠ 1 → runGo bs m (φ + d) b fr s = runGo bs n φ b fr s) ∧
    ((runGo bs n φ b fr s).1 = 1 → (runGo bs n φ b fr s).2.2.told <+: (runGo bs m (φ + d) b fr s).2.2.told) := by
  intro n
  induction n with
  | zero => intro m φ b fr s h; omega
  | succ n ih =>
    intro m φ b fr s h1 h2
    cases m with
    | zero => omega
    | succ m =>
      simp only [runGo]
      obtain ⟨a, b'⟩ := listGo_more d (bs.getD b blk0).list φ (comeGo b fr (bs.getD b blk0).phis s)
      have hf := listGo_fuel (bs.getD b blk0).list φ (comeGo b fr (bs.getD b blk0).phis s)
      generalize comeGo b fr (bs.getD b blk0).phis s = s1 at *
      have hb' : (listGo (bs.getD b blk0).list φ s1).1 = 1 → (listGo (bs.getD b blk0).list φ s1).2.2.told <+: (listGo (bs.getD b blk0).list (φ + d) s1).2.2.told := b'
      generalize hr : listGo (bs.getD b blk0).list φ s1 = r at *
      by_cases hc : r.1 = 1
      · -- no fuel in the list
        have hn0 : ¬ r.1 = 0 := by omega
        simp only [if_neg hn0]
        refine ⟨fun h => absurd hc h, fun _ => ?_⟩
        have hp := hb' hc
        generalize listGo (bs.getD b blk0).list (φ + d) s1 = r' at *
        split
        · split
          · exact hp
          · split
            · exact hp
            · exact hp.trans (runGo_pre bs _ _ _ _ _)
        · exact hp
      · rw [a hc]
        simp only
        by_cases h0 : r.1 = 0
        · simp only [if_pos h0]
          by_cases hz : r.2.1 = 0
          · simp only [if_pos hz]
            refine ⟨fun h => absurd rfl h, fun _ => ?_⟩
            split
            · exact List.prefix_refl _
            · split
              · exact List.prefix_refl _
              · exact runGo_pre bs _ _ _ _ _
          · have hz' : ¬ (r.2.1 + d = 0) := by omega
            simp only [if_neg hz, if_neg hz']
            by_cases hk : (bs.getD b blk0).term.kind = 3
            · simp only [if_pos hk]
              exact ⟨fun _ => trivial, fun _ => List.prefix_refl _⟩
            · simp only [if_neg hk]
              rw [show r.2.1 + d - 1 = (r.2.1 - 1) + d by omega]
              exact ih m (r.2.1 - 1) _ _ _ (by omega) (by omega)
        · simp only [if_neg h0]
          exact ⟨fun _ => trivial, fun _ => List.prefix_refl _⟩
theorem runW_fuel {f : FnR} {reads : List Int} {x y : Int} (h0 : 0 ≤ x) (hxy : x ≤ y) : ((runW f reads x).1 ≠ 1 → runW f reads y = runW f reads x) ∧ ((runW f reads x).1 = 1 → (runW f reads x).2.2.told <+: (runW f reads y).2.2.told) := by
  unfold runW
  by_cases hs : shapeB f = true
  · rw [if_pos ⟨hs, h0⟩, if_pos ⟨hs, by omega⟩]
    obtain ⟨d, hd⟩ : ∃ d, (min y 5000).toNat = (min x 5000).toNat + d := ⟨(min y 5000).toNat - (min x 5000).toNat, by omega⟩
    rw [hd]
    exact runGo_fuel f.blocks d _ _ _ _ _ _ (by omega) (by omega)
  · rw [if_neg (fun h => hs h.1), if_neg (fun h => hs h.1)]
    exact ⟨fun _ => rfl, fun _ => List.prefix_refl _⟩
theorem runW_code (f : FnR) (reads : List Int) (x : Int) : ((runW f reads x).1 = 3 ∧ ¬ (shapeB f = true ∧ 0 ≤ x)) ∨ (((runW f reads x).1 = 0 ∨ (runW f reads x).1 = 1 ∨ (runW f reads x).1 = 2) ∧ shapeB f = true ∧ 0 ≤ x) := by
  unfold runW
  by_cases h : shapeB f = true ∧ 0 ≤ x
  · rw [if_pos h]; exact .inr ⟨runGo_code _ _ _ _ _ _, h⟩
  · rw [if_neg h]; exact .inl ⟨rfl, h⟩
theorem runW_bad {f : FnR} {reads : List Int} {x : Int} (h : ¬ (shapeB f = true ∧ 0 ≤ x)) : runW f reads x = (3, 0, ⟨[], [], [], [], []⟩) := by unfold runW; rw [if_neg h]
/-! ### More to read -/
def MoreR (s t : RunS) : Prop := t.vals = s.vals ∧ t.cells = s.cells ∧ t.told = s.told ∧ t.path = s.path ∧ ∃ k, t.reads = s.reads ++ List.replicate k 0
theorem MoreR.get {s t : RunS} (h : MoreR s t) (v : Int) : t.get v = s.get v := by unfold RunS.get; rw [h.1]
theorem MoreR.put {s t : RunS} (h : MoreR s t) (d x : Int) : MoreR (s.put d x) (t.put d x) := by
  obtain ⟨a, b, c, e, k, hk⟩ := h
  exact ⟨by simp [RunS.put, a], b, c, e, k, hk⟩
theorem insGo_reads {s t : RunS} (h : MoreR s t) (x : InsR) : (insGo t x).1 = (insGo s x).1 ∧ MoreR (insGo s x).2 (insGo t x).2 := by
  have hk := h
  obtain ⟨a, b, c, e, k, hr⟩ := hk
  unfold insGo
  by_cases h1 : wordOk x.op = true
  · simp only [if_pos h1, h.get]; exact ⟨trivial, h.put _ _⟩
  · simp only [if_neg h1]
    by_cases h2 : x.op = 20
    · simp only [if_pos h2]; exact ⟨trivial, h.put _ _⟩
    · simp only [if_neg h2]
      by_cases h3 : x.op = 25
      · simp only [if_pos h3, h.get]; exact ⟨trivial, h.put _ _⟩
      · simp only [if_neg h3]
        by_cases h4 : x.op = 21
        · simp only [if_pos h4, h.get]
          by_cases h5 : inB (s.get x.a) 0 7 = true
          · simp only [if_pos h5, b]; exact ⟨trivial, h.put _ _⟩
          · simp only [if_neg h5]; exact ⟨trivial, h⟩
        · simp only [if_neg h4]
          by_cases h6 : x.op = 22
          · simp only [if_pos h6, h.get]
            by_cases h5 : inB (s.get x.a) 0 7 = true
            · simp only [if_pos h5]; exact ⟨trivial, a, by simp [b], c, e, k, hr⟩
            · simp only [if_neg h5]; exact ⟨trivial, h⟩
          · simp only [if_neg h6]
            by_cases h7 : x.op = 23
            · simp only [if_pos h7, h.get]; exact ⟨trivial, a, b, by simp [c], e, k, hr⟩
            · simp only [if_neg h7]
              by_cases h8 : x.op = 24
              · simp only [if_pos h8]
                have hh : t.reads.headD 0 = s.reads.headD 0 := by
                  rw [hr]
                  cases s.reads with
                  | nil => cases k <;> simp [List.replicate_succ]
                  | cons y ys => rfl
                have ht : ∃ j, t.reads.tail = s.reads.tail ++ List.replicate j 0 := by
                  rw [hr]
                  cases s.reads with
                  | nil => exact ⟨k - 1, by cases k <;> simp [List.replicate_succ]⟩
                  | cons y ys => exact ⟨k, rfl⟩
                rw [hh]
                exact ⟨trivial, by simp [RunS.put, a], b, c, e, ht⟩
              · simp only [if_neg h8]; exact ⟨trivial, h⟩
theorem listGo_reads : ∀ (xs : List InsR) (φ : Nat) (s t : RunS), MoreR s t → (listGo xs φ t).1 = (listGo xs φ s).1 ∧ (listGo xs φ t).2.1 = (listGo xs φ s).2.1 ∧ MoreR (listGo xs φ s).2.2 (listGo xs φ t).2.2 := by
  intro xs
  induction xs with
  | nil => intro φ s t h; exact ⟨rfl, rfl, h⟩
  | cons x r ih =>
    intro φ s t h
    cases φ with
    | zero => exact ⟨rfl, rfl, h⟩
    | succ φ =>
      simp only [listGo]
      obtain ⟨a, b⟩ := insGo_reads h x
      rw [a]
      split
      · exact ih φ _ _ b
      · exact ⟨rfl, rfl, b⟩
theorem comeGo_reads {s t : RunS} (h : MoreR s t) (b : Nat) (fr : Int) (ps : List PhiR) : MoreR (comeGo b fr ps s) (comeGo b fr ps t) := by
  obtain ⟨a, b', c, e, k, hr⟩ := h
  exact ⟨by simp [comeGo, a], b', c, by simp [comeGo, e], k, hr⟩
theorem runGo_reads (bs : List BlkR) : ∀ (n φ b : Nat) (fr : Int) (s t : RunS), MoreR s t → (runGo bs n φ b fr t).1 = (runGo bs n φ b fr s).1 ∧ (runGo bs n φ b fr t).2.1 = (runGo bs n φ b fr s).2.1 ∧ MoreR (runGo bs n φ b fr s).2.2 (runGo bs n φ b fr t).2.2 := by
  intro n
  induction n with
  | zero => intro φ b fr s t h; exact ⟨rfl, rfl, h⟩
  | succ n ih =>
    intro φ b fr s t h
    simp only [runGo]
    obtain ⟨a, b', c⟩ := listGo_reads (bs.getD b blk0).list φ _ _ (comeGo_reads h b fr (bs.getD b blk0).phis)
    generalize listGo (bs.getD b blk0).list φ (comeGo b fr (bs.getD b blk0).phis s) = r at *
    generalize listGo (bs.getD b blk0).list φ (comeGo b fr (bs.getD b blk0).phis t) = r' at *
    rw [a, b']
    have hn : nextGo (bs.getD b blk0).term r'.2.2 = nextGo (bs.getD b blk0).term r.2.2 := by unfold nextGo; rw [c.get]
    split
    · split
      · exact ⟨rfl, rfl, c⟩
      · split
        · exact ⟨rfl, c.get _, c⟩
        · rw [hn]; exact ih _ _ _ _ _ c
    · exact ⟨rfl, rfl, c⟩
theorem runW_reads (f : FnR) (reads : List Int) (k : Nat) (x : Int) : (runW f (reads ++ List.replicate k 0) x).1 = (runW f reads x).1 ∧ (runW f (reads ++ List.replicate k 0) x).2.1 = (runW f reads x).2.1 ∧ (runW f (reads ++ List.replicate k 0) x).2.2.told = (runW f reads x).2.2.told := by
  unfold runW
  split
  · obtain ⟨a, b, c⟩ := runGo_reads f.blocks ((min x 5000).toNat + 1) (min x 5000).toNat 0 (-1) (initS f.values reads) (initS f.values (reads ++ List.replicate k 0)) ⟨rfl, rfl, rfl, rfl, k, rfl⟩
    exact ⟨a, b, c.2.2.1⟩
  · exact ⟨rfl, rfl, rfl⟩
/-! ### The way -/
def Way (bs : List BlkR) (p : List Int) : Prop := (∀ x ∈ p, 0 ≤ x ∧ x < bs.length) ∧ ∀ i (h : i + 1 < p.length), p[i + 1] ∈ succsAt bs (p[i]'(by omega)).toNat
theorem Way.one {bs : List BlkR} {b : Nat} (hb : b < bs.length) : Way bs [(b : Int)] := ⟨fun x hx => by simp at hx; omega, fun i h => by simp at h⟩
theorem Way.cons {bs : List BlkR} {b : Nat} {c : Int} {p : List Int} (hb : b < bs.length) (hc : c ∈ succsAt bs b) (h : Way bs (c :: p)) : Way bs ((b : Int) :: c :: p) := by
  refine ⟨fun x hx => ?_, fun i hi => ?_⟩
  · rcases List.mem_cons.1 hx with rfl | hx
    · omega
    · exact h.1 x hx
  · cases i with
    | zero => simpa using hc
    | succ i => exact h.2 i (by simpa using hi)
theorem nextGo_mem {bs : List BlkR} {m : Int} (hsh : shapeB ⟨bs, m⟩ = true) {b : Nat} (hb : b < bs.length) {s : RunS} (hk : ¬ (bs.getD b blk0).term.kind = 3) : nextGo (bs.getD b blk0).term s ∈ succsAt bs b ∧ ∃ c : Nat, nextGo (bs.getD b blk0).term s = c ∧ c < bs.length := by
  rw [blk_at hb] at hk ⊢
  have hin := shape_range hsh
  have hmem : nextGo bs[b].term s ∈ succsAt bs b := by
    rw [succsAt_eq hb]
    rcases term_kinds (shape_term hsh (List.getElem_mem hb)) with ⟨h1, _⟩ | ⟨h1, _⟩ | ⟨h1, _⟩
    · simp [nextGo, succsF, h1]
    · unfold nextGo succsF
      by_cases e : bs[b].term.to = bs[b].term.els
      · rw [if_pos (.inr ⟨h1, e⟩)]
        split <;> simp [e]
      · rw [if_neg (by rintro (h | h); omega; exact e h.2), if_pos h1]
        split <;> simp
    · exact absurd h1 hk
  refine ⟨hmem, ?_⟩
  have := hin b _ hmem
  simp only at this
  exact ⟨(nextGo bs[b].term s).toNat, by omega, by omega⟩
theorem runGo_way {bs : List BlkR} {m : Int} (hsh : shapeB ⟨bs, m⟩ = true) : ∀ (n φ b : Nat) (fr : Int) (s : RunS), φ < n → b < bs.length →
    ∃ p : List Int, (runGo bs n φ b fr s).2.2.path = s.path ++ p ∧ (∃ r, p = (b : Int) :: r) ∧ Way bs p ∧ ((runGo bs n φ b fr s).1 = 0 → ∀ h : p ≠ [], (bs.getD (p.getLast h).toNat blk0).term.kind = 3) := by
  intro n
  induction n with
  | zero => intro φ b fr s h; omega
  | succ n ih =>
    intro φ b fr s h1 hb
    simp only [runGo]
    have hp : (listGo (bs.getD b blk0).list φ (comeGo b fr (bs.getD b blk0).phis s)).2.2.path = s.path ++ [(b : Int)] := by rw [(listGo_told _ _ _).2]; rfl
    have hf := listGo_fuel (bs.getD b blk0).list φ (comeGo b fr (bs.getD b blk0).phis s)
    have hco := listGo_code (bs.getD b blk0).list φ (comeGo b fr (bs.getD b blk0).phis s)
    generalize listGo (bs.getD b blk0).list φ (comeGo b fr (bs.getD b blk0).phis s) = r at *
    by_cases h0 : r.1 = 0
    · simp only [if_pos h0]
      by_cases hz : r.2.1 = 0
      · simp only [if_pos hz]
        exact ⟨[(b : Int)], hp, ⟨[], rfl⟩, Way.one hb, fun h => by simp at h⟩
      · simp only [if_neg hz]
        by_cases hk : (bs.getD b blk0).term.kind = 3
        · simp only [if_pos hk]
          refine ⟨[(b : Int)], hp, ⟨[], rfl⟩, Way.one hb, fun _ _ => ?_⟩
          simpa using hk
        · simp only [if_neg hk]
          obtain ⟨hm, c, hc, hcl⟩ := nextGo_mem hsh hb (s := r.2.2) hk
          obtain ⟨p, a1, ⟨rr, a2⟩, a3, a4⟩ := ih (r.2.1 - 1) (nextGo (bs.getD b blk0).term r.2.2).toNat (b : Int) r.2.2 (by omega) (by omega)
          have e : (((nextGo (bs.getD b blk0).term r.2.2).toNat : Nat) : Int) = nextGo (bs.getD b blk0).term r.2.2 := by rw [hc]; simp
          rw [e] at a2
          refine ⟨(b : Int) :: p, by rw [a1, hp]; simp, ⟨p, rfl⟩, ?_, fun h0 h => ?_⟩
          · rw [a2] at a3 ⊢; exact Way.cons hb hm a3
          · have hpn : p ≠ [] := by rw [a2]; simp
            rw [List.getLast_cons hpn]
            exact a4 h0 hpn
    · simp only [if_neg h0]
      exact ⟨[(b : Int)], hp, ⟨[], rfl⟩, Way.one hb, fun h => absurd h h0⟩
theorem runW_way {f : FnR} (hsh : shapeB f = true) (reads : List Int) {x : Int} (hx : 0 ≤ x) : ∃ r : List Int, (runW f reads x).2.2.path = 0 :: r ∧ Way f.blocks (0 :: r) ∧ ((runW f reads x).1 = 0 → (f.blocks.getD ((0 :: r).getLast (by simp)).toNat blk0).term.kind = 3) := by
  have hpos := shape_pos hsh
  have hw : runW f reads x = runGo f.blocks ((min x 5000).toNat + 1) (min x 5000).toNat 0 (-1) (initS f.values reads) := by unfold runW; rw [if_pos ⟨hsh, hx⟩]
  rw [hw]
  obtain ⟨p, a1, ⟨r, a2⟩, a3, a4⟩ := runGo_way (m := f.values) hsh ((min x 5000).toNat + 1) (min x 5000).toNat 0 (-1) (initS f.values reads) (by omega) hpos
  subst a2
  exact ⟨r, by rw [a1]; simp [initS], a3, fun h => a4 h (by simp)⟩
end Go.Proofs.Ytnapgdlfeadhaaa.Vm
end
