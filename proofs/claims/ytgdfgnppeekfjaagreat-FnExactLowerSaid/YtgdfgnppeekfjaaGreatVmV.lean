/- What stands for an argument, cell by cell. No conditions. -/
import Derived.Test.YtgdfgnppeekfjaaGreatVmT
import Derived.Test.YtgdfgnppeekfjaaGreatVmM
namespace Go.Proofs.YtgdfgnppeekfjaaGreat.Vm
set_option linter.unusedSimpArgs false
set_option linter.unusedVariables false
def leafTs (P : Program) : Nat → TypeId → Option (List TypeId)
  | 0, _ => none
  | n + 1, t =>
    match P.underlying t with
    | some (.struct fs) => (fs.toList.mapM fun f => leafTs P n f.type).map List.flatten
    | some _ => some [t]
    | none => none
def Leaf (P : Program) (H : Hp) (t : TypeId) (c : CV) : Prop := ∃ m, plainT P m t = true ∧ Ty P H m t [c]
section
variable {P : Program} {H : Hp}
theorem fields_leaves {n : Nat} {cs : List CV}
    (ih : ∀ {t : TypeId} {cs : List CV} {ls : List TypeId}, plainT P n t = true → Ty P H n t cs → leafTs P n t = some ls → cs.length = P.cellsOf t → cs.length = ls.length ∧ ∀ (j : Nat) (t' : TypeId) (c : CV), ls[j]? = some t' → cs[j]? = some c → Leaf P H t' c) :
    ∀ (fs : List Field) (k : Nat) (lss : List (List TypeId)), tiles P fs k cs.length = true → (∀ f ∈ fs, plainT P n f.type = true) → (∀ f ∈ fs, Ty P H n f.type ((cs.drop f.offset).take (P.cellsOf f.type))) →
      fs.mapM (fun f => leafTs P n f.type) = some lss → (cs.drop k).length = lss.flatten.length ∧ ∀ (j : Nat) (t' : TypeId) (c : CV), lss.flatten[j]? = some t' → (cs.drop k)[j]? = some c → Leaf P H t' c := by
  intro fs
  induction fs with
  | nil =>
    intro k lss ht _ _ hm
    simp at hm
    subst hm
    simp only [tiles, beq_iff_eq] at ht
    exact ⟨by simp; omega, fun j t' c h => by simp at h⟩
  | cons f r ihr =>
    intro k lss ht hp hty hm
    simp only [tiles, Bool.and_eq_true, beq_iff_eq] at ht
    obtain ⟨ho, ht⟩ := ht
    have hle := tiles_le ht
    simp only [List.mapM_cons, Option.pure_def, Option.bind_eq_bind, Option.bind_eq_some_iff] at hm
    obtain ⟨ls, h1, lr, h2, h3⟩ := hm
    injection h3 with h3
    subst h3
    have hcl : ((cs.drop f.offset).take (P.cellsOf f.type)).length = P.cellsOf f.type := by simp; omega
    obtain ⟨a1, a2⟩ := ih (hp f (by simp)) (hty f (by simp)) h1 hcl
    obtain ⟨b1, b2⟩ := ihr (k + P.cellsOf f.type) lr ht (fun g hg => hp g (by simp [hg])) (fun g hg => hty g (by simp [hg])) h2
    rw [hcl] at a1
    simp only [List.length_drop] at b1 ⊢
    refine ⟨by rw [List.flatten_cons, List.length_append]; omega, fun j t' c hj hc => ?_⟩
    rw [List.flatten_cons] at hj
    rw [List.getElem?_drop] at hc
    by_cases hlt : j < ls.length
    · rw [List.getElem?_append_left hlt] at hj
      refine a2 j t' c hj ?_
      rw [List.getElem?_take, if_pos (by omega), List.getElem?_drop, ho]
      exact hc
    · rw [List.getElem?_append_right (by omega)] at hj
      refine b2 (j - ls.length) t' c hj ?_
      rw [List.getElem?_drop, show k + P.cellsOf f.type + (j - ls.length) = k + j by omega]
      exact hc
theorem Ty.leaves : ∀ {n : Nat} {t : TypeId} {cs : List CV} {ls : List TypeId}, plainT P n t = true → Ty P H n t cs → leafTs P n t = some ls → cs.length = P.cellsOf t →
    cs.length = ls.length ∧ ∀ (j : Nat) (t' : TypeId) (c : CV), ls[j]? = some t' → cs[j]? = some c → Leaf P H t' c := by
  intro n
  induction n with
  | zero => intro t cs ls hp; simp [plainT] at hp
  | succ n ih =>
    intro t cs ls hp hty hl hcs
    have hkeep := hty
    have hpk := hp
    have hone : ∀ (c : CV), cs = [c] → ls = [t] → cs.length = ls.length ∧ ∀ (j : Nat) (t' : TypeId) (c : CV), ls[j]? = some t' → cs[j]? = some c → Leaf P H t' c := by
      intro c h1 h2
      subst h1; subst h2
      refine ⟨rfl, fun j t' c' hj hc => ?_⟩
      cases j with
      | zero => simp at hj hc; subst hj; subst hc; exact ⟨n + 1, hpk, hkeep⟩
      | succ j => simp at hj
    unfold plainT at hp
    unfold Ty at hty
    unfold leafTs at hl
    split at hp
    · rename_i hu
      rw [hu] at hty hl
      obtain ⟨b, rfl⟩ := hty
      injection hl with hl
      exact hone _ rfl hl.symm
    · rename_i hu
      rw [hu] at hty hl
      obtain ⟨b, rfl, _⟩ := hty
      injection hl with hl
      exact hone _ rfl hl.symm
    · rename_i hu
      rw [hu] at hty hl
      obtain ⟨b, rfl, _⟩ := hty
      injection hl with hl
      exact hone _ rfl hl.symm
    · rename_i hu
      rw [hu] at hty hl
      obtain ⟨b, rfl, _⟩ := hty
      injection hl with hl
      exact hone _ rfl hl.symm
    · rename_i e hu
      rw [hu] at hty hl
      injection hl with hl
      rcases hty with rfl | ⟨id, len, o, rfl, _⟩
      · exact hone _ rfl hl.symm
      · exact hone _ rfl hl.symm
    · rename_i fs hu
      rw [hu] at hty hl
      simp only [Bool.and_eq_true, List.all_eq_true] at hp
      simp only [Option.map_eq_some_iff] at hl
      obtain ⟨lss, hm, rfl⟩ := hl
      have := fields_leaves (P := P) (H := H) (n := n) (cs := cs) (fun h1 h2 h3 h4 => ih h1 h2 h3 h4) fs.toList 0 lss (by rw [hty.1]; exact hp.1) hp.2 hty.2 hm
      simpa using this
    · cases hp
theorem Leaf.int {t : TypeId} {c : CV} (hu : P.underlying t = some (.int .i64)) (h : Leaf P H t c) : ∃ m : Int, c = .i m ∧ -9223372036854775808 ≤ m ∧ m ≤ 9223372036854775807 := by
  obtain ⟨n, hpl, h⟩ := h
  cases n with
  | zero => exact False.elim h
  | succ n =>
    unfold Ty at h
    rw [hu] at h
    obtain ⟨m, h1, h2⟩ := h
    injection h1 with h1
    exact ⟨m, h1, h2⟩
theorem mapM_mono {α β : Type} {f g : α → Option β} : ∀ {l : List α} {r : List β}, (∀ a ∈ l, ∀ b, f a = some b → g a = some b) → l.mapM f = some r → l.mapM g = some r := by
  intro l
  induction l with
  | nil => intro r _ h; exact h
  | cons a l ih =>
    intro r hfg h
    simp only [List.mapM_cons, Option.pure_def, Option.bind_eq_bind, Option.bind_eq_some_iff] at h ⊢
    obtain ⟨b, h1, bs, h2, h3⟩ := h
    exact ⟨b, hfg a (by simp) b h1, bs, ih (fun x hx => hfg x (by simp [hx])) h2, h3⟩
theorem leafTs_succ : ∀ {n : Nat} {t : TypeId} {ls : List TypeId}, leafTs P n t = some ls → leafTs P (n + 1) t = some ls := by
  intro n
  induction n with
  | zero => intro t ls h; cases h
  | succ n ih =>
    intro t ls h
    unfold leafTs at h ⊢
    split at h
    · rename_i fs hu
      simp only [Option.map_eq_some_iff] at h ⊢
      obtain ⟨lss, hm, rfl⟩ := h
      exact ⟨lss, mapM_mono (fun f _ b hb => ih hb) hm, rfl⟩
    · rename_i hn hu; exact h
    · cases h
theorem leafTs_le {n m : Nat} (h : n ≤ m) {t : TypeId} {ls : List TypeId} (hl : leafTs P n t = some ls) : leafTs P m t = some ls := by
  obtain ⟨k, rfl⟩ := Nat.le.dest h
  induction k with
  | zero => exact hl
  | succ k ih => exact leafTs_succ (ih (by omega))
theorem leafTs_uniq {n m : Nat} {t : TypeId} {ls ls' : List TypeId} (h : leafTs P n t = some ls) (h' : leafTs P m t = some ls') : ls = ls' := by
  have a := leafTs_le (Nat.le_max_left n m) h
  have b := leafTs_le (Nat.le_max_right n m) h'
  rw [a] at b; injection b
theorem mapM_some {α β : Type} {f : α → Option β} : ∀ {l : List α}, (∀ a ∈ l, ∃ b, f a = some b) → ∃ r, l.mapM f = some r := by
  intro l
  induction l with
  | nil => intro _; exact ⟨[], rfl⟩
  | cons a l ih =>
    intro h
    obtain ⟨b, hb⟩ := h a (by simp)
    obtain ⟨r, hr⟩ := ih (fun x hx => h x (by simp [hx]))
    exact ⟨b :: r, by simp [List.mapM_cons, hb, hr]⟩
theorem plain_leaf : ∀ {n : Nat} {t : TypeId}, plainT P n t = true → ∃ ls, leafTs P n t = some ls := by
  intro n
  induction n with
  | zero => intro t h; simp [plainT] at h
  | succ n ih =>
    intro t h
    unfold plainT at h
    unfold leafTs
    split at h <;> first | (cases h; done) | skip
    · rename_i hu; rw [hu]; exact ⟨_, rfl⟩
    · rename_i hu; rw [hu]; exact ⟨_, rfl⟩
    · rename_i hu; rw [hu]; exact ⟨_, rfl⟩
    · rename_i hu; rw [hu]; exact ⟨_, rfl⟩
    · rename_i e hu; rw [hu]; exact ⟨_, rfl⟩
    · rename_i fs hu
      rw [hu]
      simp only [Bool.and_eq_true, List.all_eq_true] at h
      obtain ⟨r, hr⟩ := mapM_some (f := fun (f : Field) => leafTs P n f.type) (l := fs.toList) (fun f hf => ih (h.2 f hf))
      exact ⟨r.flatten, by simp only [hr]; rfl⟩
theorem Leaf.row {t e : TypeId} {c : CV} {ls : List TypeId} (hu : P.underlying t = some (.slice e)) {m : Nat} (hls : leafTs P m e = some ls) (h : Leaf P H t c) :
    ∃ (n : Nat) (css : List (List CV)), n = css.length ∧ n ≤ maxLen ∧ Sl H (P.cellsOf e) c n css.flatten ∧ ∀ cs ∈ css, cs.length = ls.length ∧ cs.length = P.cellsOf e ∧ ∀ (j : Nat) (t' : TypeId) (c : CV), ls[j]? = some t' → cs[j]? = some c → Leaf P H t' c := by
  obtain ⟨n, hpl, h⟩ := h
  cases n with
  | zero => exact False.elim h
  | succ n =>
    unfold Ty at h
    rw [hu] at h
    rcases h with h | ⟨id, len, o, h1, h2, h3, h4, h5, h6, h7, h8⟩
    · injection h with h
      subst h
      exact ⟨0, [], rfl, by simp, .inl ⟨rfl, rfl, rfl⟩, by simp⟩
    · injection h1 with h1
      subst h1
      rw [h5] at h6 h8
      have hlen : ∀ i, i < len → ((o.cells.drop (i * P.cellsOf e)).take (P.cellsOf e)).length = P.cellsOf e := by
        intro i hi
        have : (i + 1) * P.cellsOf e ≤ len * P.cellsOf e := Nat.mul_le_mul_right _ hi
        rw [Nat.succ_mul] at this
        rw [List.length_take, List.length_drop]; omega
      refine ⟨len, (List.range len).map fun i => (o.cells.drop (i * P.cellsOf e)).take (P.cellsOf e), by simp, h7, .inr ⟨id, 0, 0, o, rfl, rdOb_some.2 ⟨h2, h3⟩, h5, by omega, ?_⟩, ?_⟩
      · have key : ∀ k, k ≤ len → ((List.range k).map fun i => (o.cells.drop (i * P.cellsOf e)).take (P.cellsOf e)).flatten = o.cells.take (k * P.cellsOf e) := by
          intro k
          induction k with
          | zero => intro _; simp
          | succ k ihk =>
            intro hk
            rw [List.range_succ, List.map_append, List.flatten_append, ihk (by omega), Nat.succ_mul, List.take_add]
            simp
        rw [List.drop_zero]
        exact (key len (Nat.le_refl _)).symm
      · intro cs hcs
        rw [List.mem_map] at hcs
        obtain ⟨i, hi, rfl⟩ := hcs
        rw [List.mem_range] at hi
        have hty := h8 i hi
        have hpn : plainT P n e = true := by
          unfold plainT at hpl
          rw [hu] at hpl
          simp only [Bool.and_eq_true] at hpl
          exact hpl.2
        obtain ⟨ls', hls'⟩ := plain_leaf hpn
        obtain rfl := leafTs_uniq hls hls'
        obtain ⟨g1, g2⟩ := Ty.leaves hpn hty hls' (hlen i hi)
        exact ⟨g1, hlen i hi, g2⟩
theorem Ty.len {n : Nat} {t : TypeId} {cs : List CV} (hp : plainT P n t = true) (h : Ty P H n t cs) : cs.length = P.cellsOf t := by
  cases n with
  | zero => simp [plainT] at hp
  | succ n =>
    unfold plainT at hp
    unfold Ty at h
    split at hp
    · rename_i hu; rw [hu] at h; obtain ⟨b, rfl⟩ := h; simp at hp; simp [hp]
    · rename_i hu; rw [hu] at h; obtain ⟨b, rfl, _⟩ := h; simp at hp; simp [hp]
    · rename_i hu; rw [hu] at h; obtain ⟨b, rfl, _⟩ := h; simp at hp; simp [hp]
    · rename_i hu; rw [hu] at h; obtain ⟨b, rfl, _⟩ := h; simp at hp; simp [hp]
    · rename_i e hu
      rw [hu] at h
      simp only [Bool.and_eq_true, beq_iff_eq] at hp
      rcases h with rfl | ⟨id, len, o, rfl, _⟩ <;> simp [hp.1.1]
    · rename_i fs hu; rw [hu] at h; exact h.1
    · cases hp
theorem ArgTy.agg {n : Nat} {t : TypeId} {ls : List TypeId} {iv : IV} (hp : plainT P n t = true) (ha : aggOf P t = some true) (hl : leafTs P n t = some ls) (h : ArgTy P H n t iv) :
    ∃ cvs, iv = .agg cvs ∧ cvs.length = ls.length ∧ ∀ (j : Nat) (t' : TypeId) (c : CV), ls[j]? = some t' → cvs[j]? = some c → Leaf P H t' c := by
  obtain ⟨cvs, h1, h2⟩ := h
  rcases h2 with ⟨_, rfl⟩ | ⟨h2, _⟩
  · obtain ⟨g1, g2⟩ := Ty.leaves hp h1 hl (Ty.len hp h1)
    exact ⟨cvs, rfl, g1, g2⟩
  · rw [ha] at h2; cases h2
theorem ArgTy.one {n : Nat} {t : TypeId} {iv : IV} (hp : plainT P n t = true) (ha : aggOf P t = some false) (h : ArgTy P H n t iv) : ∃ c, iv = .c c ∧ Leaf P H t c := by
  obtain ⟨cvs, h1, h2⟩ := h
  rcases h2 with ⟨h2, _⟩ | ⟨_, c, rfl, rfl⟩
  · rw [ha] at h2; cases h2
  · exact ⟨c, rfl, n, hp, h1⟩
theorem ArgsTy.nil_inv {n : Nat} {ivs : List IV} (h : ArgsTy P H n [] ivs) : ivs = [] := by
  cases ivs with
  | nil => rfl
  | cons a r => exact False.elim h
theorem ArgsTy.cons_inv {n : Nat} {t : TypeId} {ts : List TypeId} {ivs : List IV} (h : ArgsTy P H n (t :: ts) ivs) : ∃ iv r, ivs = iv :: r ∧ ArgTy P H n t iv ∧ ArgsTy P H n ts r := by
  cases ivs with
  | nil => exact False.elim h
  | cons a r => exact ⟨a, r, rfl, h.1, h.2⟩
end
end Go.Proofs.YtgdfgnppeekfjaaGreat.Vm
