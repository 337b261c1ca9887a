/- Rows of flags: compared, marked, held. Which blocks are reached. No conditions. -/
import Derived.Test.YtnmnpfdjigpgaaaKt
namespace Go.Proofs.Ytnmnpfdjigpgaaa.Vm
open Go.RowKit (wrap64)
set_option linter.unusedSimpArgs false
set_option linter.unusedVariables false

def IsL (H : Hp) (v : CV) (xs : List Bool) : Prop := Sl H 1 v xs.length (xs.map .b)
theorem IsL.lenOf {H : Hp} {v : CV} {xs : List Bool} (h : IsL H v xs) : lenOf v = some xs.length := Sl.lenOf h
theorem IsL.at_ {H : Hp} {v : CV} {xs : List Bool} (h : IsL H v xs) {k : Nat} (hk : k < xs.length) :
    ∃ id g off, idxOf 1 v (k : Int) = some (.p id g off) ∧ rdC H id g off = some (.b xs[k]) := by
  obtain ⟨id, g, off, o, h1, h2, _, h3⟩ := Sl.get h hk
  refine ⟨id, g, off, h1, ?_⟩
  have := h3 0 (by omega)
  simp [hk] at this
  simp [rdC, h2, this]
theorem IsL.pre {H X : Hp} (hp : Pre H X) {v : CV} {xs : List Bool} (h : IsL H v xs) : IsL X v xs := Sl.pre hp h
theorem IsL.ns (H : Hp) : IsL H .ns [] := .inl ⟨rfl, rfl, rfl⟩
theorem IsL.mk {H : Hp} {id g off : Nat} {o : Ob} {xs : List Bool} (h : rdOb H id g = some o) (hs : o.sz = 1) (hl : off + xs.length ≤ o.cells.length) (hc : (o.cells.drop off).take xs.length = xs.map .b) : IsL H (.sl id g off xs.length) xs :=
  .inr ⟨id, g, off, o, rfl, h, hs, by omega, by rw [Nat.mul_one]; exact hc⟩
theorem eqBoolS_call {H : Hp} {v w : CV} {xs ys : List Bool} (hv : IsL H v xs) (hw : IsL H w ys) (hb : xs.length ≤ BIG) (k : IV × Hp → Prop) : CM 47 [.c v, .c w] H k = k (.c (.b (decide (xs = ys))), H) := by
  refine det (cw47 ?_) k
  unfold vf47c
  simp [hv.lenOf, hw.lenOf]
  refine cnd_of (fun hl => ?_) (fun hl => ?_) <;> simp at hl
  · have : xs ≠ ys := fun e => hl (by rw [e])
    simp [this]
  · simp
    refine wp_for CM_mono xs.length (fun i s => xs.take i = ys.take i ∧ s.h = H ∧ Env.get s.e 0 = .c v ∧ Env.get s.e 1 = .c w ∧ Env.get s.e 5 = .c (.i i)) (by simp) ?_ ?_
    · rintro i ⟨e, X⟩ hi ⟨ht, rfl, h0, h1, h5⟩
      simp only at h0 h1 h5 hv hw ⊢
      obtain ⟨id, g, off, q1, q2⟩ := hv.at_ hi
      obtain ⟨id', g', off', p1, p2⟩ := hw.at_ (show i < ys.length by omega)
      unfold vf47b0
      by_cases he : xs[i] = ys[i]
      · simp [h0, h1, h5, q1, q2, p1, p2, hi, hv.lenOf, up1 hi hb, he]
        exact take_snoc_eq hi (by omega) ht he
      · have hne : xs ≠ ys := fun e => he (by subst e; rfl)
        cases hx : xs[i] <;> cases hy : ys[i] <;> simp [hx, hy] at he <;> simp [h0, h1, h5, q1, q2, p1, p2, hi, hv.lenOf, up1 hi hb, hx, hy, hne]
    · rintro ⟨e, X⟩ ⟨ht, rfl, h0, h1, h5⟩
      simp only at h0 h1 h5 hv hw ⊢
      rw [List.take_length, hl, List.take_length] at ht
      unfold vf47b0
      simp [h0, h1, h5, hv.lenOf, ht]
/-- The marks: every third one. -/
def third (x : Int) : Bool := decide (x.tmod 3 = 0)
def flags (n : Nat) : List Bool := (List.range n).map fun (j : Nat) => third (1 + (j : Int))
@[simp] theorem flags_len (n : Nat) : (flags n).length = n := by simp [flags]
theorem flags_get {n j : Nat} (h : j < (flags n).length) : (flags n)[j] = third (1 + (j : Int)) := by simp [flags]
theorem Own.isL {Y : Hp} {lo : Nat} {w : CV} {n : Nat} {xs : List Bool} (h : Own Y lo 1 w n (xs.map .b)) : IsL Y w xs := by
  rcases h with ⟨rfl, rfl, h⟩ | ⟨id, rfl, h1, h2, h3⟩
  · simp at h; subst h; exact IsL.ns _
  · simp at h3; subst h3
    exact IsL.mk h2 rfl (by simp) (by rw [List.drop_zero, List.take_of_length_le (by simp)])
def RowB (H : Hp) (w : CV) (L : Hp) (xs : List Bool) : Prop := (w = .ns ∧ L = [] ∧ xs = []) ∨ (w = .sl H.length 0 0 xs.length ∧ L = [⟨xs.map .b, 0, true, 1⟩])
theorem RowB.own {H L : Hp} {w : CV} {xs : List Bool} (h : RowB H w L xs) : Own (H ++ L) H.length 1 w xs.length (xs.map .b) := by
  rcases h with ⟨rfl, rfl, rfl⟩ | ⟨rfl, rfl⟩
  · exact .inl ⟨rfl, rfl, rfl⟩
  · exact .inr ⟨_, rfl, Nat.le_refl _, by simp, by simp⟩
theorem RowB.isL {H L : Hp} {w : CV} {xs : List Bool} (h : RowB H w L xs) : IsL (H ++ L) w xs := h.own.isL
theorem markBoolS_own {Y : Hp} {lo : Nat} {w : CV} {n : Nat} {cells : List CV} (h : Own Y lo 1 w n cells) (hn : n ≤ BIG) :
    ∃ Z, (∀ k : IV × Hp → Prop, CM 48 [.c w, .c (.i 1)] Y k = k (.c (.i (1 + n)), Z)) ∧ Z.length = Y.length ∧ Low lo Y Z ∧ Own Z lo 1 w n ((flags n).map .b) := by
  rcases h with ⟨rfl, rfl, rfl⟩ | ⟨id, rfl, h1, h2, h3⟩
  · refine ⟨Y, fun k => det (cw48 ?_) k, rfl, fun _ _ _ _ h => h, .inl ⟨rfl, rfl, rfl⟩⟩
    unfold vf48c
    simp
    refine wp_for CM_mono 0 (fun i s => s.h = Y ∧ Env.get s.e 0 = .c .ns ∧ Env.get s.e 1 = .c (.i 1) ∧ Env.get s.e 5 = .c (.i i)) (by simp) (fun i s h => absurd h (by omega)) ?_
    rintro ⟨e, X⟩ ⟨rfl, h0, h1, h5⟩
    simp only at h0 h1 h5 ⊢
    unfold vf48b0
    simp [h0, h1, h5]
  · simp at h3
    have hlt := rdOb_lt h2
    refine ⟨Y.set id ⟨(flags n).map .b, 0, true, 1⟩, fun k => det (cw48 ?_) k, by simp, fun id' g o hl ho => by rw [rdOb_set_ne (by omega)]; exact ho, .inr ⟨id, rfl, h1, by rw [rdOb_set_self hlt]; simp, by simp⟩⟩
    unfold vf48c
    simp
    obtain ⟨I, hI⟩ : ∃ I : Nat → St → Prop, ∀ i s, I i s ↔ (s.h = Y.set id ⟨(flags i).map .b ++ cells.drop i, 0, true, 1⟩ ∧ Env.get s.e 0 = .c (.sl id 0 0 n) ∧ Env.get s.e 1 = .c (.i (1 + i)) ∧ Env.get s.e 5 = .c (.i i)) := ⟨_, fun _ _ => Iff.rfl⟩
    refine wp_for CM_mono n I ((hI _ _).2 ⟨?_, by simp⟩) ?_ ?_
    · have := (rdOb_some.1 h2).1
      simp [flags]
      rw [List.getElem?_eq_getElem hlt] at this
      injection this with this
      rw [← this]; simp
    · rintro i ⟨e, X⟩ hi hIs
      obtain ⟨hX, h0, h1', h5⟩ := (hI _ _).1 hIs
      simp only at hX h0 h1' h5 ⊢
      have ho : rdOb X id 0 = some ⟨(flags i).map .b ++ cells.drop i, 0, true, 1⟩ := by rw [hX, rdOb_set_self hlt]; simp
      have hp : putAt ((flags i).map .b ++ cells.drop i) i [.b (decide (Int.tmod (1 + (i : Int)) 3 = 0))] = (flags (i + 1)).map .b ++ cells.drop (i + 1) := by
        have e1 : cells.drop i = cells[i]'(by omega) :: cells.drop (i + 1) := List.drop_eq_getElem_cons (by omega)
        have e2 : (cells.drop i).set 0 (.b (third (1 + (i : Int)))) = .b (third (1 + (i : Int))) :: cells.drop (i + 1) := by rw [e1]; rfl
        change putAt _ i [.b (third (1 + (i : Int)))] = _
        rw [putAt_get (by simp; omega), List.set_append]
        simp [flags, List.range_succ] at e2 ⊢
        exact e2
      have hw1 : -9223372036854775808 ≤ (1 + (i : Int)) + 1 ∧ (1 + (i : Int)) + 1 ≤ 9223372036854775807 := by simp only [BIG] at hn; omega
      unfold vf48b0
      simp [h0, h1', h5, ho, hi, idxOf, hp, up1 hi hn, wrap64_id hw1, show i + 1 ≤ i + (cells.length - i) by omega]
      refine (hI _ _).2 ⟨?_, by simp; omega⟩
      rw [hX]; simp
    · rintro ⟨e, X⟩ hIs
      obtain ⟨hX, h0, h1', h5⟩ := (hI _ _).1 hIs
      simp only at hX h0 h1' h5 ⊢
      have hlen : X.length = Y.length := by rw [hX]; simp
      unfold vf48b0
      simp [h0, h1', h5, gc_nolen hlen (show flatV (.c (.i (1 + (n : Int)))) = true from rfl)]
      rw [hX, List.drop_eq_nil_of_le (by omega), List.append_nil]
theorem heldBoolS_call {H : Hp} {v : CV} {n : Nat} (hv : IsL H v (flags n)) (hn : n ≤ BIG) (k : IV × Hp → Prop) : CM 49 [.c v, .c (.i 1)] H k = k (.c (.i (1 + n)), H) := by
  refine det (cw49 ?_) k
  unfold vf49c
  simp
  refine wp_for CM_mono n (fun i s => s.h = H ∧ Env.get s.e 0 = .c v ∧ Env.get s.e 1 = .c (.i (1 + i)) ∧ Env.get s.e 5 = .c (.i i)) (by simp) ?_ ?_
  · rintro i ⟨e, X⟩ hi ⟨rfl, h0, h1, h5⟩
    simp only at h0 h1 h5 hv ⊢
    obtain ⟨id, g, off, q1, q2⟩ := hv.at_ (k := i) (by simpa using hi)
    rw [flags_get] at q2
    have hw1 : -9223372036854775808 ≤ (1 + (i : Int)) + 1 ∧ (1 + (i : Int)) + 1 ≤ 9223372036854775807 := by simp only [BIG] at hn; omega
    have hl := hv.lenOf
    rw [flags_len] at hl
    have ht : third (1 + (i : Int)) = decide (Int.tmod (1 + (i : Int)) 3 = 0) := rfl
    unfold vf49b0
    simp [h0, h1, h5, q1, q2, hi, hl, up1 hi hn, wrap64_id hw1, ht]
    omega
  · rintro ⟨e, X⟩ ⟨rfl, h0, h1, h5⟩
    simp only at h0 h1 h5 hv ⊢
    have hl := hv.lenOf
    rw [flags_len] at hl
    unfold vf49b0
    simp [h0, h1, h5, hl]

/-! ### Which blocks are reached -/
/-- What a walk has put on its row is what it has seen. -/
structure Seen (p r : WSt) : Prop where
  new : ∃ ns : List Int, r.2 = p.2 ++ ns ∧ (∀ x ∈ ns, ∃ k : Nat, x = k ∧ k < p.1.length) ∧ ∀ j : Nat, r.1.getD j false = true ↔ p.1.getD j false = true ∨ (j : Int) ∈ ns
theorem Seen.refl (p : WSt) : Seen p p := ⟨[], by simp, by simp, by simp⟩
theorem Seen.trans {p q r : WSt} (hl : q.1.length = p.1.length) (h : Seen p q) (k : Seen q r) : Seen p r := by
  obtain ⟨n1, a1, b1, c1⟩ := h.new
  obtain ⟨n2, a2, b2, c2⟩ := k.new
  refine ⟨n1 ++ n2, by rw [a2, a1, List.append_assoc], fun x hx => ?_, fun j => ?_⟩
  · rcases List.mem_append.1 hx with h | h
    · exact b1 x h
    · obtain ⟨k, hk, hk2⟩ := b2 x h; exact ⟨k, hk, by omega⟩
  · rw [c2, c1, List.mem_append, or_assoc]
theorem walkF_seen (bs : List BlkR) : ∀ n b p, p.1.getD b true = false → Seen p (walkF bs n b p) := by
  intro n
  induction n with
  | zero => intro b p _; exact Seen.refl p
  | succ n ih =>
    intro b p hb
    have hbl := unseen_lt hb
    have hf : ∀ (ks : List Int) (q : WSt), Seen q (ks.foldl (wstepWith (walkF bs n)) q) := by
      intro ks
      induction ks with
      | nil => intro q; exact Seen.refl q
      | cons k r ihk =>
        intro q
        simp only [List.foldl_cons]
        by_cases hq : q.1.getD k.toNat true = true
        · have e : wstepWith (walkF bs n) q k = q := by unfold wstepWith; rw [if_pos hq]
          rw [e]; exact ihk q
        · have e : wstepWith (walkF bs n) q k = walkF bs n k.toNat q := by unfold wstepWith; rw [if_neg hq]
          rw [e]
          exact Seen.trans (walkF_ok bs n k.toNat q).1.len (ih _ _ (by simpa using hq)) (ihk _)
    obtain ⟨ns, a, c, d⟩ := (hf (succsAt bs b) (p.1.set b true, p.2)).new
    refine ⟨ns ++ [(b : Int)], ?_, fun x hx => ?_, fun j => ?_⟩
    · simp only [walkF]; rw [a]; simp
    · rcases List.mem_append.1 hx with h | h
      · simpa using c x h
      · simp at h; exact ⟨b, h, hbl⟩
    · simp only [walkF]
      rw [d, List.mem_append]
      have e : (p.1.set b true).getD j false = true ↔ p.1.getD j false = true ∨ (j : Int) = b := by
        rw [List.getD_eq_getElem?_getD, List.getElem?_set]
        by_cases h : b = j
        · subst h; simp [hbl]
        · have h2 : ¬ ((j : Int) = b) := by omega
          simp [h, h2]
      rw [e, List.mem_singleton]
      constructor
      · rintro ((h | h) | h)
        · exact .inl h
        · exact .inr (.inr h)
        · exact .inr (.inl h)
      · rintro (h | h | h)
        · exact .inl (.inl h)
        · exact .inr h
        · exact .inl (.inr h)
theorem walk0_seen {bs : List BlkR} (h : 0 < bs.length) : (∀ x ∈ ordF bs, ∃ k : Nat, x = k ∧ k < bs.length) ∧ ∀ j : Nat, (seenF bs).getD j false = true ↔ (j : Int) ∈ ordF bs := by
  obtain ⟨ns, a, c, d⟩ := (walkF_seen bs bs.length 0 (List.replicate bs.length false, []) (getD_falses h)).new
  have e : ordF bs = ns.reverse := by unfold ordF walk0; rw [a]; simp
  refine ⟨fun x hx => ?_, fun j => ?_⟩
  · rw [e] at hx
    simpa using c x (by simpa using hx)
  · have := d j
    rw [e, List.mem_reverse]
    unfold seenF walk0
    rw [this]
    have e2 : (List.replicate bs.length false).getD j false = false := by
      rw [List.getD_eq_getElem?_getD]
      by_cases hj : j < bs.length
      · rw [List.getElem?_eq_getElem (by simpa using hj)]; simp
      · rw [List.getElem?_eq_none (by simpa using hj)]; rfl
    simp only [e2]; simp
/-- The flags of the first few. -/
def setAll (n : Nat) (xs : List Int) : List Bool := (List.range n).map fun (j : Nat) => xs.any fun x => decide (x = (j : Int))
theorem setAll_snoc {n : Nat} {xs : List Int} {k : Nat} : (setAll n xs).set k true = setAll n (xs ++ [(k : Int)]) := by
  unfold setAll
  apply List.ext_getElem (by simp)
  intro j h1 h2
  rw [List.getElem_set]
  by_cases h : k = j
  · subst h; simp
  · have : ¬ ((k : Int) = (j : Int)) := by omega
    simp [h, this]
theorem seenF_eq {bs : List BlkR} (h : 0 < bs.length) : seenF bs = setAll bs.length (ordF bs) := by
  obtain ⟨_, h2⟩ := walk0_seen h
  have hl : (seenF bs).length = bs.length := (walk0_ok h).1
  apply List.ext_getElem (by simp [setAll, hl])
  intro j h3 h4
  have h5 := h2 j
  rw [List.getD_eq_getElem?_getD, List.getElem?_eq_getElem h3] at h5
  simp only [Option.getD_some] at h5
  rw [Bool.eq_iff_iff, h5]
  simp [setAll]

def reach0 (f : FnR) : List Bool := if shapeB f = true then seenF f.blocks else []
theorem implReached0 {H : Hp} {v : CV} {f : FnR} (hv : Blocks H v f.blocks) (hb : f.blocks.length ≤ BIG) :
    ∃ w L, RowB H w L (reach0 f) ∧ ∀ k : IV × Hp → Prop, CM 46 [.agg [v, .i f.values]] H k = k (.c w, H ++ L) := by
  cases hsh : shapeB f with
  | false =>
    refine ⟨.ns, [], .inl ⟨rfl, rfl, by simp [reach0, hsh]⟩, fun k => det (cw46 ?_) k⟩
    unfold vf46c
    simp [implShape (hv.app _) hb, hsh]
  | true =>
    have hl : (seenF f.blocks).length = f.blocks.length := (walk0_ok (shape_pos hsh)).1
    refine ⟨.sl H.length 0 0 f.blocks.length, [⟨(seenF f.blocks).map .b, 0, true, 1⟩], .inr ⟨by simp [reach0, hsh, hl], by simp [reach0, hsh]⟩, fun k => det (cw46 ?_) k⟩
    unfold vf46c
    simp [implShape (hv.app _) hb, hsh]
    refine (implOrder (hv.app _) (shape_range hsh) hb (shape_pos hsh)).mono ?_
    rintro _ ⟨o, g, s, gs, X', rfl, hp, h1, h2, h3, h4⟩
    simp
    have hpp : Pre H X' := Pre.trans ⟨_, rfl⟩ hp
    simp at h2
    rw [gcRet_row hpp (by omega) h4 rfl (by simp [flatC])]
theorem specReached0 {H : Hp} {v : CV} {f : FnR} (hv : Blocks H v f.blocks) (hb : f.blocks.length ≤ BIG) :
    ∃ w L, RowB H w L (reach0 f) ∧ ∀ k : IV × Hp → Prop, CM 45 [.agg [v, .i f.values]] H k = k (.c w, H ++ L) := by
  cases hsh : shapeB f with
  | false =>
    refine ⟨.sl H.length 0 0 0, [⟨[], 0, true, 1⟩], .inr ⟨by simp [reach0, hsh], by simp [reach0, hsh]⟩, fun k => det (cw45 ?_) k⟩
    unfold vf45c
    simp [specShape (hv.app _) hb, hsh]
    rw [gcRet_row ⟨[⟨[v, .i f.values], 0, true, 2⟩, ⟨[], 0, true, 1⟩], rfl⟩ (by simp) (o := ⟨[], 0, true, 1⟩) (by simp) rfl rfl]
  | true =>
    have h0 := shape_pos hsh
    have hl : (seenF f.blocks).length = f.blocks.length := (walk0_ok h0).1
    refine ⟨.sl H.length 0 0 f.blocks.length, [⟨(seenF f.blocks).map .b, 0, true, 1⟩], .inr ⟨by simp [reach0, hsh, hl], by simp [reach0, hsh]⟩, fun k => det (cw45 ?_) k⟩
    unfold vf45c
    have hlim : f.blocks.length ≤ LIM := by simp only [BIG] at hb; simp only [LIM]; omega
    obtain ⟨hr, _⟩ := walk0_seen h0
    have hol := ordF_le h0
    have hb1 : ∀ L, rdOb (H ++ ⟨[v, .i f.values], 0, true, 2⟩ :: L) H.length 0 = some ⟨[v, .i f.values], 0, true, 2⟩ := by intro L; simp
    simp [specShape (hv.app _) hb, hsh, (hv.app _).lenOf, hv.lenOf, hlim, falses_flat, specOrderL (hv.app _) (shape_range hsh) hb h0]
    generalize hxs : ordF f.blocks = xs at *
    obtain ⟨I, hI⟩ : ∃ I : Nat → St → Prop, ∀ i st, I i st ↔ (st.h = H ++ [⟨[v, .i f.values], 0, true, 2⟩, ⟨(setAll f.blocks.length (xs.take i)).map .b, 0, true, 1⟩, ⟨xs.map .i, 0, true, 1⟩] ∧ Env.get st.e 3 = .c (.sl (H.length + 1) 0 0 f.blocks.length) ∧ Env.get st.e 4 = .c (.sl (H.length + 2) 0 0 xs.length) ∧ Env.get st.e 5 = .c (.i i)) := ⟨_, fun _ _ => Iff.rfl⟩
    have hz : List.replicate f.blocks.length (CV.b false) = (setAll f.blocks.length []).map .b := by
      unfold setAll; simp [List.map_const']
    refine wp_for CM_mono xs.length I ((hI _ _).2 ⟨by simp [hz], by simp⟩) ?_ ?_
    · rintro i ⟨e, X⟩ hi hIs
      obtain ⟨rfl, e3, e4, e5⟩ := (hI _ _).1 hIs
      simp only at e3 e4 e5 ⊢
      obtain ⟨n, hn, hnl⟩ := hr xs[i] (List.getElem_mem hi)
      have hset := setAll_snoc (n := f.blocks.length) (xs := xs.take i) (k := n)
      have htk : xs.take (i + 1) = xs.take i ++ [(n : Int)] := by rw [List.take_succ_eq_append_getElem hi, hn]
      have hsl : (setAll f.blocks.length (xs.take i)).length = f.blocks.length := by simp [setAll]
      unfold vf45b0
      simp [e3, e4, e5, hi, idxOf, hn, hnl, up1 hi (show xs.length ≤ BIG by omega), hsl, putAt_get, show n + 1 ≤ f.blocks.length from hnl, ← List.map_set, hset]
      exact (hI _ _).2 ⟨by rw [htk], by simp [e3, e4]⟩
    · rintro ⟨e, X⟩ hIs
      obtain ⟨rfl, e3, e4, e5⟩ := (hI _ _).1 hIs
      simp only at e3 e4 e5 ⊢
      have hse := seenF_eq h0
      rw [hxs] at hse
      unfold vf45b0
      simp [e3, e4, e5]
      rw [gcRet_row ⟨_, rfl⟩ (by omega) (o := ⟨(setAll f.blocks.length xs).map .b, 0, true, 1⟩) (by simp) rfl (by simp [flatC])]
      simp [hse]
theorem reach0_le {f : FnR} (hb : f.blocks.length ≤ BIG) : (reach0 f).length ≤ BIG := by
  unfold reach0
  split
  · rename_i h
    have : (seenF f.blocks).length = f.blocks.length := (walk0_ok (shape_pos h)).1
    omega
  · simp
end Go.Proofs.Ytnmnpfdjigpgaaa.Vm
