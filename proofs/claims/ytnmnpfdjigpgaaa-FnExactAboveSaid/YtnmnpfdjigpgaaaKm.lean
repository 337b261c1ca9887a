/- Ways through a program. No conditions. -/
import Derived.Test.YtnmnpfdjigpgaaaKl
namespace Go.Proofs.Ytnmnpfdjigpgaaa.Vm
open Go.RowKit (wrap64)
set_option linter.unusedSimpArgs false
set_option linter.unusedVariables false

/-! ### Flags -/
theorem bool_put {xs : List Bool} {i : Nat} (h : i < xs.length) (x : Bool) : putAt (xs.map CV.b) i [.b x] = (xs.set i x).map .b := by
  simp [putAt, List.set_eq_take_append_cons_drop, h, List.map_take, List.map_drop]
def cf (l : List Bool) : Nat := l.count false
theorem cf_set {l : List Bool} {b : Nat} (h : l.getD b true = false) : cf (l.set b true) + 1 = cf l := by
  induction l generalizing b with
  | nil => simp at h
  | cons a r ih =>
    cases b with
    | zero => simp at h; subst h; simp [cf]
    | succ b =>
      simp only [List.getD_cons_succ] at h
      have := ih h
      simp only [List.set_cons_succ]
      cases a <;> simp [cf] at this ⊢ <;> omega
theorem cf_set_le (l : List Bool) (b : Nat) : cf (l.set b true) ≤ cf l := by
  induction l generalizing b with
  | nil => simp
  | cons a r ih =>
    cases b with
    | zero => cases a <;> simp [cf]
    | succ b =>
      have := ih b
      simp only [List.set_cons_succ]
      cases a <;> simp [cf] at this ⊢ <;> omega
theorem unseen_lt {l : List Bool} {b : Nat} (h : l.getD b true = false) : b < l.length := by
  by_cases hb : b < l.length
  · exact hb
  · rw [List.getD_eq_getElem?_getD, List.getElem?_eq_none (by omega)] at h; cases h
theorem getD_at {l : List Bool} {b : Nat} (h : b < l.length) (d : Bool) : l.getD b d = l[b] := by rw [List.getD_eq_getElem?_getD, List.getElem?_eq_getElem h]; rfl

/-! ### The walk -/
abbrev WSt := List Bool × List Int
def wstepWith (f : Nat → WSt → WSt) (q : WSt) (k : Int) : WSt := if q.1.getD k.toNat true = true then q else f k.toNat q
def walkF (bs : List BlkR) : Nat → Nat → WSt → WSt
  | 0, _, p => p
  | n + 1, b, p =>
    let r := (succsAt bs b).foldl (wstepWith (walkF bs n)) (p.1.set b true, p.2)
    (r.1, r.2 ++ [(b : Int)])
/-- The flags and the row behind the first few who follow. -/
def walkTo (bs : List BlkR) (n : Nat) (xs : List Int) (q : WSt) (i : Nat) : WSt := (xs.take i).foldl (wstepWith (walkF bs n)) q
theorem walkTo_succ {bs : List BlkR} {n : Nat} {xs : List Int} {q : WSt} {i : Nat} (hi : i < xs.length) : walkTo bs n xs q (i + 1) = wstepWith (walkF bs n) (walkTo bs n xs q i) xs[i] := by
  unfold walkTo
  rw [List.take_succ_eq_append_getElem hi, List.foldl_append]; rfl
theorem walkTo_all (bs : List BlkR) (n : Nat) (xs : List Int) (q : WSt) : walkTo bs n xs q xs.length = xs.foldl (wstepWith (walkF bs n)) q := by
  unfold walkTo; rw [List.take_length]
structure WOk (p r : WSt) : Prop where
  len : r.1.length = p.1.length
  mono : ∀ j, p.1.getD j true = true → r.1.getD j true = true
  le : cf r.1 ≤ cf p.1
theorem WOk.refl (p : WSt) : WOk p p := ⟨rfl, fun _ h => h, Nat.le_refl _⟩
theorem WOk.trans {p q r : WSt} (h : WOk p q) (k : WOk q r) : WOk p r := ⟨k.len.trans h.len, fun j hj => k.mono j (h.mono j hj), Nat.le_trans k.le h.le⟩
theorem fold_ok {f : Nat → WSt → WSt} (ih : ∀ b p, WOk p (f b p) ∧ (p.1.getD b true = false → (f b p).2.length + cf (f b p).1 = p.2.length + cf p.1)) :
    ∀ (ks : List Int) (q : WSt), WOk q (ks.foldl (wstepWith f) q) ∧ (ks.foldl (wstepWith f) q).2.length + cf (ks.foldl (wstepWith f) q).1 = q.2.length + cf q.1 := by
  intro ks
  induction ks with
  | nil => intro q; exact ⟨WOk.refl _, rfl⟩
  | cons k r ihk =>
    intro q
    simp only [List.foldl_cons]
    have h1 : WOk q (wstepWith f q k) ∧ (wstepWith f q k).2.length + cf (wstepWith f q k).1 = q.2.length + cf q.1 := by
      unfold wstepWith
      split
      · exact ⟨WOk.refl _, rfl⟩
      · rename_i hn
        obtain ⟨a, b⟩ := ih k.toNat q
        exact ⟨a, b (by simpa using hn)⟩
    obtain ⟨a, b⟩ := ihk (wstepWith f q k)
    exact ⟨h1.1.trans a, b.trans h1.2⟩
theorem getD_setT {l : List Bool} {i j : Nat} (h : l.getD j true = true) : (l.set i true).getD j true = true := by
  rw [Vm.getD_set]; split
  · rfl
  · exact h
theorem walkF_ok (bs : List BlkR) : ∀ n b p, WOk p (walkF bs n b p) ∧ (p.1.getD b true = false → (walkF bs n b p).2.length + cf (walkF bs n b p).1 ≤ p.2.length + cf p.1) ∧ (p.1.getD b true = false → (walkF bs n b p).2.length + cf (walkF bs n b p).1 = p.2.length + cf p.1) := by
  intro n
  induction n with
  | zero => intro b p; exact ⟨WOk.refl _, fun _ => Nat.le_refl _, fun _ => rfl⟩
  | succ n ih =>
    intro b p
    obtain ⟨h1, h2⟩ := fold_ok (f := walkF bs n) (fun b p => ⟨(ih b p).1, (ih b p).2.2⟩) (succsAt bs b) (p.1.set b true, p.2)
    have h0 : WOk p (p.1.set b true, p.2) := ⟨by simp, fun j hj => getD_setT hj, cf_set_le _ _⟩
    have h3 : p.1.getD b true = false → (walkF bs (n + 1) b p).2.length + cf (walkF bs (n + 1) b p).1 = p.2.length + cf p.1 := by
      intro hb
      have := cf_set hb
      simp only [walkF, List.length_append, List.length_cons, List.length_nil]
      simp only at h2
      omega
    refine ⟨⟨?_, ?_, ?_⟩, fun h => Nat.le_of_eq (h3 h), h3⟩
    · exact (h0.trans h1).len
    · exact (h0.trans h1).mono
    · exact (h0.trans h1).le
theorem wfold_ok (bs : List BlkR) (n : Nat) (ks : List Int) (q : WSt) : WOk q (ks.foldl (wstepWith (walkF bs n)) q) ∧ (ks.foldl (wstepWith (walkF bs n)) q).2.length + cf (ks.foldl (wstepWith (walkF bs n)) q).1 = q.2.length + cf q.1 :=
  fold_ok (fun b p => ⟨(walkF_ok bs n b p).1, (walkF_ok bs n b p).2.2⟩) ks q

/-! ### A row that grows -/
def OutR (X : Hp) (w : CV) (out : List Int) : Prop := (w = .ns ∧ out = []) ∨ ∃ o g, w = .sl o g 0 out.length ∧ rdOb X o g = some ⟨out.map .i, g, true, 1⟩
def IsOut (w : CV) (id : Nat) : Prop := ∃ g n, w = .sl id g 0 n
theorem OutR.lt {X : Hp} {w : CV} {out : List Int} (h : OutR X w out) {id : Nat} (hi : IsOut w id) : id < X.length := by
  obtain ⟨g, n, rfl⟩ := hi
  rcases h with ⟨h, _⟩ | ⟨o, g', h, ho⟩
  · cases h
  · cases h; exact rdOb_lt ho
theorem OutR.keep {X Y : Hp} {w : CV} {out : List Int} (h : OutR X w out) (hk : ∀ id g ob, IsOut w id → rdOb X id g = some ob → rdOb Y id g = some ob) : OutR Y w out := by
  rcases h with ⟨rfl, rfl⟩ | ⟨o, g, rfl, ho⟩
  · exact .inl ⟨rfl, rfl⟩
  · exact .inr ⟨o, g, rfl, hk _ _ _ ⟨g, _, rfl⟩ ho⟩
theorem OutR.push {X : Hp} {w : CV} {out : List Int} (h : OutR X w out) (b : Int) (hl : out.length + 1 ≤ LIM) :
    ∃ w' X', doApp X 1 w 1 [.i b] = some (.c w', X') ∧ OutR X' w' (out ++ [b]) ∧ X.length ≤ X'.length ∧ (∀ id g ob, ¬ IsOut w id → rdOb X id g = some ob → rdOb X' id g = some ob) ∧ (∀ id, IsOut w' id → IsOut w id ∨ X.length ≤ id) ∧
      (∀ H0, Pre H0 X → (∀ id, IsOut w id → H0.length ≤ id) → Pre H0 X') := by
  rcases h with ⟨rfl, rfl⟩ | ⟨o, g, rfl, ho⟩
  · refine ⟨.sl X.length 0 0 1, X ++ [⟨[.i b], 0, true, 1⟩], by simp [doApp, LIM], .inr ⟨X.length, 0, rfl, by simp⟩, by simp, fun id g ob _ h => rdOb_app _ h, fun id hi => ?_, fun H0 hp _ => hp.app _⟩
    obtain ⟨g, n, h⟩ := hi
    cases h; exact .inr (Nat.le_refl _)
  · have hlt := rdOb_lt ho
    refine ⟨.sl o (g + 1) 0 (out.length + 1), X.set o ⟨out.map .i ++ [.i b], g + 1, true, 1⟩, app_own ho (by simp) (by simp) (by simpa using hl), .inr ⟨o, g + 1, by simp, ?_⟩, by simp, fun id g' ob hn h => ?_, fun id hi => ?_, fun H0 hp hh => hp.set (hh o ⟨_, _, rfl⟩) _⟩
    · rw [rdOb_set_self hlt]; simp
    · rw [rdOb_set_ne (fun e => hn ⟨g, _, by rw [e]⟩)]; exact h
    · obtain ⟨g', n, h⟩ := hi
      cases h; exact .inl ⟨_, _, rfl⟩
theorem gc_ne {H H' : Hp} {r : IV} {id g : Nat} {o o' : Ob} (h : rdOb H id g = some o) (h' : rdOb H' id g = some o') (hne : o ≠ o') : gcRet H r H' = (r, H') := by
  unfold gcRet
  rw [if_neg]
  intro he
  have hlt := rdOb_lt h
  obtain ⟨a, b⟩ := rdOb_some.1 h
  obtain ⟨c, d⟩ := rdOb_some.1 h'
  rw [← he, List.getElem?_take, if_pos hlt, c] at a
  injection a with a
  exact hne a.symm

def InRange (bs : List BlkR) : Prop := ∀ j, ∀ k ∈ succsAt bs j, 0 ≤ k ∧ k < bs.length
theorem succs_range {n m : Int} {t : TrmR} (h : termB t n m = true) : ∀ k ∈ succsF t, 0 ≤ k ∧ k < n := by
  intro k hk
  unfold termB at h
  unfold succsF at hk
  have hin : ∀ {x : Int}, inB x 0 (n - 1) = true → 0 ≤ x ∧ x < n := fun h => by have := of_decide_eq_true h; omega
  by_cases h1 : t.kind = 1
  · rw [if_pos h1] at h
    rw [if_pos (.inl h1)] at hk
    simp only [Bool.and_eq_true] at h
    simp at hk
    rw [hk]; exact hin h.1.1
  · rw [if_neg h1] at h
    by_cases h2 : t.kind = 2
    · rw [if_pos h2] at h
      simp only [Bool.and_eq_true] at h
      by_cases h3 : t.to = t.els
      · rw [if_pos (.inr ⟨h2, h3⟩)] at hk
        simp at hk
        rw [hk]; exact hin h.1.1
      · rw [if_neg (by rintro (h | h); exact h1 h; exact h3 h.2), if_pos h2] at hk
        simp at hk
        rcases hk with rfl | rfl
        · exact hin h.1.1
        · exact hin h.1.2
    · rw [if_neg (by rintro (h | h); exact h1 h; exact h2 h.1), if_neg h2] at hk
      cases hk
theorem shape_range {f : FnR} (h : shapeB f = true) : InRange f.blocks := by
  intro j k hk
  unfold succsAt at hk
  cases hj : f.blocks[j]? with
  | none => rw [hj] at hk; cases hk
  | some b => rw [hj] at hk; exact succs_range (shape_term h (List.mem_of_getElem? hj)) k hk
theorem RowRes.len {X2 : Hp} {sv : CV} {L : Hp} {xs : List Int} (h : RowRes X2 sv L xs) : lenOf sv = some xs.length := by
  rcases h with ⟨rfl, rfl, rfl⟩ | ⟨rfl, rfl⟩ <;> rfl
theorem succsAt_le (bs : List BlkR) (b : Nat) : (succsAt bs b).length ≤ BIG := by
  unfold succsAt
  split
  · have := succsF_le (by assumption : BlkR).term
    simp only [BIG]; omega
  · simp [BIG]
theorem RowRes.isI' {X2 Y : Hp} {sv : CV} {L : Hp} {xs : List Int} (h : RowRes X2 sv L xs) (hk : ∀ g ob, rdOb (X2 ++ L) X2.length g = some ob → rdOb Y X2.length g = some ob) : IsI Y sv xs := by
  rcases h with ⟨rfl, rfl, rfl⟩ | ⟨rfl, rfl⟩
  · exact IsI.ns _
  · exact IsI.mk (hk 0 ⟨xs.map .i, 0, true, 1⟩ (by simp)) rfl (by simp) (by rw [List.drop_zero, List.take_of_length_le (by simp)])
/-- What stands while a walk goes on. -/
structure WInv (H0 X3 : Hp) (s gs : Nat) (w0 : CV) (p : WSt) (w : CV) (Y : Hp) : Prop where
  pre : Pre H0 Y
  len : X3.length ≤ Y.length
  seen : rdOb Y s gs = some ⟨p.1.map .b, gs, true, 1⟩
  out : OutR Y w p.2
  keep : ∀ id g ob, id ≠ s → ¬ IsOut w0 id → rdOb X3 id g = some ob → rdOb Y id g = some ob
  own : ∀ id, IsOut w id → IsOut w0 id ∨ X3.length ≤ id
/-- What a walk leaves behind. -/
def WRes (H0 X : Hp) (s gs : Nat) (w : CV) (p : WSt) (r : IV × Hp) : Prop := ∃ w' X', r = (.c w', X') ∧ WInv H0 X s gs w p w' X'
theorem WInv.app {H0 X3 Y : Hp} {s gs : Nat} {w0 w : CV} {p : WSt} (h : WInv H0 X3 s gs w0 p w Y) (B : Hp) : WInv H0 X3 s gs w0 p w (Y ++ B) :=
  ⟨h.pre.app _, by have := h.len; simp only [List.length_append]; omega, rdOb_app _ h.seen, h.out.keep fun _ _ _ _ k => rdOb_app _ k, fun id g ob a b c => rdOb_app _ (h.keep id g ob a b c), h.own⟩
theorem WInv.trans {H0 X3 Y Y' : Hp} {s gs : Nat} {w0 w w' : CV} {p p' : WSt} (hs : s < X3.length) (h : WInv H0 X3 s gs w0 p w Y) (k : WInv H0 Y s gs w p' w' Y') : WInv H0 X3 s gs w0 p' w' Y' := by
  refine ⟨k.pre, Nat.le_trans h.len k.len, k.seen, k.out, fun id g ob h1 h2 h3 => k.keep id g ob h1 (fun hi => ?_) (h.keep id g ob h1 h2 h3), fun id hi => ?_⟩
  · have := rdOb_lt h3
    rcases h.own id hi with h | h
    · exact h2 h
    · omega
  · rcases k.own id hi with h1 | h1
    · exact h.own id h1
    · have := h.len
      exact .inr (by omega)
theorem WInv.res {H0 X X2 L Y : Hp} {s gs : Nat} {w0 w : CV} {b : Nat} {n : Nat} {bs : List BlkR} {seen : List Bool} {out : List Int}
    (hf2 : ∀ id g ob, id ≠ s → rdOb X id g = some ob → rdOb X2 id g = some ob) (hX2l : X2.length = X.length + 1) (hs : H0.length ≤ s) (hw : ∀ id, IsOut w0 id → H0.length ≤ id ∧ id ≠ s) (hX : Pre H0 X)
    (hseen : rdOb X s gs = some ⟨seen.map .b, gs, true, 1⟩) (hbs : seen.getD b true = false) (h : WInv H0 (X2 ++ L) s gs w0 (walkTo bs n (succsAt bs b) (seen.set b true, out) (succsAt bs b).length) w Y)
    (hlim : out.length + cf seen ≤ BIG) :
    ∃ w' Y', doApp Y 1 w 1 [.i b] = some (.c w', Y') ∧ gcRet X (.c w') Y' = (.c w', Y') ∧ WInv H0 X s gs w0 (walkF bs (n + 1) b (seen, out)) w' Y' := by
  have hq : walkF bs (n + 1) b (seen, out) = ((walkTo bs n (succsAt bs b) (seen.set b true, out) (succsAt bs b).length).1, (walkTo bs n (succsAt bs b) (seen.set b true, out) (succsAt bs b).length).2 ++ [(b : Int)]) := by
    rw [walkTo_all]; rfl
  obtain ⟨hok, hsum⟩ := wfold_ok bs n (succsAt bs b) (seen.set b true, out)
  rw [← walkTo_all] at hok hsum
  have hcs := cf_set hbs
  have hbl := unseen_lt hbs
  simp only at hsum
  generalize walkTo bs n (succsAt bs b) (seen.set b true, out) (succsAt bs b).length = R at *
  have hsl := rdOb_lt hseen
  have hnew : R.1.getD b true = true := hok.mono b (by rw [Vm.getD_set]; simp [hbl])
  have hlen := h.len
  have hsy : ¬ IsOut w s := by
    intro hi
    rcases h.own s hi with h1 | h1
    · exact (hw s h1).2 rfl
    · simp only [List.length_append] at h1; omega
  obtain ⟨w', Y', h1, h2, h3, h4, h5, h6⟩ := h.out.push (b : Int) (by simp only [BIG] at hlim; simp only [LIM]; omega)
  have hp0 := hX.le
  have hown : ∀ id, IsOut w' id → IsOut w0 id ∨ X.length ≤ id := by
    intro id hi
    rcases h5 id hi with h7 | h7
    · rcases h.own id h7 with h8 | h8
      · exact .inl h8
      · simp only [List.length_append] at h8; exact .inr (by omega)
    · simp only [List.length_append] at hlen; exact .inr (by omega)
  refine ⟨w', Y', h1, gc_ne hseen (h4 _ _ _ hsy h.seen) ?_, ?_⟩
  · intro e
    have e1 : seen.map CV.b = R.1.map CV.b := congrArg Ob.cells e
    have e2 : seen = R.1 := by
      have := congrArg (List.map fun | CV.b x => x | _ => true) e1
      simpa [List.map_map, Function.comp_def] using this
    rw [← e2, hbs] at hnew; cases hnew
  · rw [hq]
    refine ⟨h6 H0 h.pre fun id hi => ?_, ?_, h4 _ _ _ hsy h.seen, h2, fun id g ob e1 e2 e3 => h4 _ _ _ (fun hi => ?_) (h.keep id g ob e1 e2 (rdOb_app _ (hf2 id g ob e1 e3))), hown⟩
    · rcases h.own id hi with h8 | h8
      · exact (hw id h8).1
      · simp only [List.length_append] at h8; omega
    · simp only [List.length_append] at hlen; omega
    · have := rdOb_lt e3
      rcases h.own id hi with h8 | h8
      · exact e2 h8
      · simp only [List.length_append] at h8; omega

theorem implWalk {H0 : Hp} {v : CV} {bs : List BlkR} {m : Int} (hv : Blocks H0 v bs) (hin : InRange bs) (hb : bs.length ≤ BIG) : ∀ (n : Nat) {X : Hp} {s gs b : Nat} {w : CV} {seen : List Bool} {out : List Int}, Pre H0 X → H0.length ≤ s → (∀ id, IsOut w id → H0.length ≤ id ∧ id ≠ s) →
    rdOb X s gs = some ⟨seen.map .b, gs, true, 1⟩ → seen.length = bs.length → OutR X w out → b < bs.length → seen.getD b true = false → cf seen ≤ n → out.length + cf seen ≤ BIG →
    CM 123 [.agg [v, .i m], .c (.i b), .c (.sl s gs 0 bs.length), .c w] X (WRes H0 X s gs w (walkF bs n b (seen, out))) := by
  intro n
  induction n with
  | zero =>
    intro X s gs b w seen out _ _ _ _ _ _ _ hbs hc _
    have := cf_set hbs
    omega
  | succ n ih =>
    intro X s gs b w seen out hp hs hw hseen hslen hout hbl hbs hc hlim
    have hsl := rdOb_lt hseen
    have hcs := cf_set hbs
    have hX1 : rdOb (X ++ [⟨[v, .i m], 0, true, 2⟩]) s gs = some ⟨seen.map .b, gs, true, 1⟩ := rdOb_app _ hseen
    obtain ⟨X2, hX2⟩ : ∃ X2, X.set s ⟨(seen.set b true).map .b, gs, true, 1⟩ ++ [(⟨[v, .i m], 0, true, 2⟩ : Ob)] = X2 := ⟨_, rfl⟩
    have hX2l : X2.length = X.length + 1 := by rw [← hX2]; simp
    have hp2 : Pre H0 X2 := by rw [← hX2]; exact (hp.set hs _).app _
    have hf2 : ∀ id g ob, id ≠ s → rdOb X id g = some ob → rdOb X2 id g = some ob := by
      intro id g ob hne ho
      rw [← hX2]; exact rdOb_app _ (by rw [rdOb_set_ne hne]; exact ho)
    have hs2 : rdOb X2 s gs = some ⟨(seen.set b true).map .b, gs, true, 1⟩ := by
      rw [← hX2]; exact rdOb_app _ (by rw [rdOb_set_self hsl]; simp)
    have hbox2 : rdOb X2 X.length 0 = some ⟨[v, .i m], 0, true, 2⟩ := by
      rw [← hX2]; have := rdOb_r (X.set s ⟨(seen.set b true).map .b, gs, true, 1⟩) [⟨[v, .i m], 0, true, 2⟩] 0 0; simpa using this
    obtain ⟨sv, L, hrow, hcall⟩ := implSuccs (m := m) (hv.pre hp2) hbl
    rw [← succsAt_eq hbl] at hrow
    have hin0 := hin b
    have hl0 := hrow.len
    generalize hxs : succsAt bs b = xs at hrow hin0 hl0
    have hX3 : WInv H0 (X2 ++ L) s gs w (walkTo bs n xs (seen.set b true, out) 0) w (X2 ++ L) := by
      refine ⟨hp2.app _, Nat.le_refl _, rdOb_app _ hs2, ?_, fun _ _ _ _ _ h => h, fun _ h => .inl h⟩
      exact hout.keep fun id g ob hi h => rdOb_app _ (hf2 id g ob (hw id hi).2 h)
    refine cw123 ?_
    unfold vf123c
    simp [hX1, hbl, hslen, bool_put (show b < seen.length by omega), List.set_append, hsl, show b + 1 ≤ bs.length from hbl, ← List.map_set, hX2, rdN_ob hbox2, hcall, hl0]
    obtain ⟨I, hI⟩ : ∃ I : Nat → St → Prop, ∀ i st, I i st ↔ (∃ w', WInv H0 (X2 ++ L) s gs w (walkTo bs n xs (seen.set b true, out) i) w' st.h ∧ Env.get st.e 1 = .c (.i b) ∧ Env.get st.e 2 = .c (.sl s gs 0 bs.length) ∧ Env.get st.e 3 = .c w' ∧ Env.get st.e 4 = .c (.p X.length 0 0) ∧
      Env.get st.e 16 = .c sv ∧ Env.get st.e 17 = .c (.i xs.length) ∧ Env.get st.e 18 = .c (.i i)) := ⟨_, fun _ _ => Iff.rfl⟩
    have hsz := succsAt_le bs b
    rw [hxs] at hsz
    refine wp_for CM_mono xs.length I ((hI _ _).2 ⟨w, hX3, by simp⟩) ?_ ?_
    · rintro i ⟨e, Y⟩ hi hIs
      obtain ⟨w', hW, h1, h2, h3, h4, h16, h17, h18⟩ := (hI _ _).1 hIs
      simp only at hW h1 h2 h3 h4 h16 h17 h18 ⊢
      have hsv : IsI Y sv xs := hrow.isI' fun g ob h => hW.keep _ g ob (by omega) (fun hi => by have := hout.lt hi; omega) h
      have hbox : rdOb Y X.length 0 = some ⟨[v, .i m], 0, true, 2⟩ := hW.keep _ _ _ (by omega) (fun hi => by have := hout.lt hi; omega) (rdOb_app _ hbox2)
      obtain ⟨id, g, off, q1, q2⟩ := hsv.at_ hi
      obtain ⟨hk0, hk1⟩ := hin0 xs[i] (List.getElem_mem hi)
      obtain ⟨hok, hsum⟩ := wfold_ok bs n (xs.take i) (seen.set b true, out)
      have hsu := walkTo_succ (bs := bs) (n := n) (q := (seen.set b true, out)) hi
      change WOk _ (walkTo bs n xs (seen.set b true, out) i) at hok
      change (walkTo bs n xs (seen.set b true, out) i).2.length + cf (walkTo bs n xs (seen.set b true, out) i).1 = _ at hsum
      have hok1 := hok.len
      have hok2 := hok.le
      obtain ⟨kk, hkk⟩ : ∃ kk : Nat, xs[i] = (kk : Int) := ⟨xs[i].toNat, by omega⟩
      rw [hkk] at hk0 hk1 hsu
      have hkl : kk < bs.length := by omega
      generalize walkTo bs n xs (seen.set b true, out) i = R at *
      obtain ⟨sn, ou⟩ := R
      simp only [List.length_set] at hok1 hok2 hsum
      have hlt : kk < sn.length := by omega
      have hseenY := hW.seen
      simp only at hseenY
      have hgd : sn.getD kk true = sn[kk] := getD_at hlt true
      unfold wstepWith at hsu
      simp only [Int.toNat_natCast, hgd] at hsu
      unfold vf123b0
      cases hc1 : sn[kk] with
      | true =>
        rw [hc1, if_pos rfl] at hsu
        simp [h1, h2, h3, h4, h16, h17, h18, q1, q2, hi, hkk, hkl, rdC_ob hseenY, hlt, hc1, up1 hi hsz]
        exact (hI _ _).2 ⟨w', by rw [hsu]; exact hW, by simp [h1, h2, h3, h4, h16, h17, h18]⟩
      | false =>
        rw [hc1, if_neg (by simp)] at hsu
        simp [h1, h2, h3, h4, h16, h17, h18, q1, q2, hi, hkk, hkl, rdC_ob hseenY, hlt, hc1, up1 hi hsz, rdN_ob hbox]
        have hsX : s < (X2 ++ L).length := by simp only [List.length_append]; omega
        refine (ih hW.pre hs (fun id hi' => ?_) hseenY (by omega) hW.out hkl (by rw [hgd]; exact hc1) (by omega) (show ou.length + cf sn ≤ BIG by omega)).mono ?_
        · rcases hW.own id hi' with h | h
          · exact hw id h
          · have := hp2.le
            simp only [List.length_append] at h
            exact ⟨by omega, by omega⟩
        · rintro _ ⟨w2, Y2, rfl, hW2⟩
          simp [h1, h2, h3, h4, h16, h17, h18, up1 hi hsz]
          exact (hI _ _).2 ⟨w2, by rw [hsu]; exact hW.trans hsX hW2, by simp⟩
    · rintro ⟨e, Y⟩ hIs
      obtain ⟨w', hW, h1, h2, h3, h4, h16, h17, h18⟩ := (hI _ _).1 hIs
      simp only at hW h1 h2 h3 h4 h16 h17 h18 ⊢
      rw [← hxs] at hW
      obtain ⟨w2, Y2, r1, r2, r3⟩ := (hW.app [⟨[.i b], 0, true, 1⟩]).res hf2 hX2l hs hw hp hseen hbs hlim
      unfold vf123b0
      simp [h1, h2, h3, h4, h16, h17, h18, srcOf, putAt, r1, r2]
      exact ⟨w2, Y2, rfl, r3⟩
theorem specWalk {H0 : Hp} {v : CV} {bs : List BlkR} {m : Int} (hv : Blocks H0 v bs) (hin : InRange bs) (hb : bs.length ≤ BIG) : ∀ (n : Nat) {X : Hp} {s gs b : Nat} {w : CV} {seen : List Bool} {out : List Int}, Pre H0 X → H0.length ≤ s → (∀ id, IsOut w id → H0.length ≤ id ∧ id ≠ s) →
    rdOb X s gs = some ⟨seen.map .b, gs, true, 1⟩ → seen.length = bs.length → OutR X w out → b < bs.length → seen.getD b true = false → cf seen ≤ n → out.length + cf seen ≤ BIG →
    CM 119 [.agg [v, .i m], .c (.i b), .c (.sl s gs 0 bs.length), .c w] X (WRes H0 X s gs w (walkF bs n b (seen, out))) := by
  intro n
  induction n with
  | zero =>
    intro X s gs b w seen out _ _ _ _ _ _ _ hbs hc _
    have := cf_set hbs
    omega
  | succ n ih =>
    intro X s gs b w seen out hp hs hw hseen hslen hout hbl hbs hc hlim
    have hsl := rdOb_lt hseen
    have hcs := cf_set hbs
    have hX1 : rdOb (X ++ [⟨[v, .i m], 0, true, 2⟩]) s gs = some ⟨seen.map .b, gs, true, 1⟩ := rdOb_app _ hseen
    obtain ⟨X2, hX2⟩ : ∃ X2, X.set s ⟨(seen.set b true).map .b, gs, true, 1⟩ ++ [(⟨[v, .i m], 0, true, 2⟩ : Ob)] = X2 := ⟨_, rfl⟩
    have hX2l : X2.length = X.length + 1 := by rw [← hX2]; simp
    have hp2 : Pre H0 X2 := by rw [← hX2]; exact (hp.set hs _).app _
    have hf2 : ∀ id g ob, id ≠ s → rdOb X id g = some ob → rdOb X2 id g = some ob := by
      intro id g ob hne ho
      rw [← hX2]; exact rdOb_app _ (by rw [rdOb_set_ne hne]; exact ho)
    have hs2 : rdOb X2 s gs = some ⟨(seen.set b true).map .b, gs, true, 1⟩ := by
      rw [← hX2]; exact rdOb_app _ (by rw [rdOb_set_self hsl]; simp)
    have hbox2 : rdOb X2 X.length 0 = some ⟨[v, .i m], 0, true, 2⟩ := by
      rw [← hX2]; have := rdOb_r (X.set s ⟨(seen.set b true).map .b, gs, true, 1⟩) [⟨[v, .i m], 0, true, 2⟩] 0 0; simpa using this
    obtain ⟨sv, L, hrow, hcall⟩ := specSuccs (m := m) (hv.pre hp2) hbl
    rw [← succsAt_eq hbl] at hrow
    have hin0 := hin b
    have hl0 := hrow.len
    generalize hxs : succsAt bs b = xs at hrow hin0 hl0
    have hX3 : WInv H0 (X2 ++ L) s gs w (walkTo bs n xs (seen.set b true, out) 0) w (X2 ++ L) := by
      refine ⟨hp2.app _, Nat.le_refl _, rdOb_app _ hs2, ?_, fun _ _ _ _ _ h => h, fun _ h => .inl h⟩
      exact hout.keep fun id g ob hi h => rdOb_app _ (hf2 id g ob (hw id hi).2 h)
    refine cw119 ?_
    unfold vf119c
    simp [hX1, hbl, hslen, bool_put (show b < seen.length by omega), List.set_append, hsl, show b + 1 ≤ bs.length from hbl, ← List.map_set, hX2, rdN_ob hbox2, hcall, hl0]
    obtain ⟨I, hI⟩ : ∃ I : Nat → St → Prop, ∀ i st, I i st ↔ (∃ w', WInv H0 (X2 ++ L) s gs w (walkTo bs n xs (seen.set b true, out) i) w' st.h ∧ Env.get st.e 1 = .c (.i b) ∧ Env.get st.e 2 = .c (.sl s gs 0 bs.length) ∧ Env.get st.e 3 = .c w' ∧ Env.get st.e 4 = .c (.p X.length 0 0) ∧
      Env.get st.e 9 = .c sv ∧ Env.get st.e 10 = .c (.i i)) := ⟨_, fun _ _ => Iff.rfl⟩
    have hsz := succsAt_le bs b
    rw [hxs] at hsz
    refine wp_for CM_mono xs.length I ((hI _ _).2 ⟨w, hX3, by simp⟩) ?_ ?_
    · rintro i ⟨e, Y⟩ hi hIs
      obtain ⟨w', hW, h1, h2, h3, h4, h9, h10⟩ := (hI _ _).1 hIs
      simp only at hW h1 h2 h3 h4 h9 h10 ⊢
      have hsv : IsI Y sv xs := hrow.isI' fun g ob h => hW.keep _ g ob (by omega) (fun hi => by have := hout.lt hi; omega) h
      have hbox : rdOb Y X.length 0 = some ⟨[v, .i m], 0, true, 2⟩ := hW.keep _ _ _ (by omega) (fun hi => by have := hout.lt hi; omega) (rdOb_app _ hbox2)
      obtain ⟨id, g, off, q1, q2⟩ := hsv.at_ hi
      obtain ⟨hk0, hk1⟩ := hin0 xs[i] (List.getElem_mem hi)
      obtain ⟨hok, hsum⟩ := wfold_ok bs n (xs.take i) (seen.set b true, out)
      have hsu := walkTo_succ (bs := bs) (n := n) (q := (seen.set b true, out)) hi
      change WOk _ (walkTo bs n xs (seen.set b true, out) i) at hok
      change (walkTo bs n xs (seen.set b true, out) i).2.length + cf (walkTo bs n xs (seen.set b true, out) i).1 = _ at hsum
      have hok1 := hok.len
      have hok2 := hok.le
      obtain ⟨kk, hkk⟩ : ∃ kk : Nat, xs[i] = (kk : Int) := ⟨xs[i].toNat, by omega⟩
      rw [hkk] at hk0 hk1 hsu
      have hkl : kk < bs.length := by omega
      generalize walkTo bs n xs (seen.set b true, out) i = R at *
      obtain ⟨sn, ou⟩ := R
      simp only [List.length_set] at hok1 hok2 hsum
      have hlt : kk < sn.length := by omega
      have hseenY := hW.seen
      simp only at hseenY
      have hgd : sn.getD kk true = sn[kk] := getD_at hlt true
      unfold wstepWith at hsu
      simp only [Int.toNat_natCast, hgd] at hsu
      unfold vf119b0
      cases hc1 : sn[kk] with
      | true =>
        rw [hc1, if_pos rfl] at hsu
        simp [h1, h2, h3, h4, h9, h10, q1, q2, hi, hsv.lenOf, hkk, hkl, rdC_ob hseenY, hlt, hc1, up1 hi hsz]
        exact (hI _ _).2 ⟨w', by rw [hsu]; exact hW, by simp [h1, h2, h3, h4, h9, h10]⟩
      | false =>
        rw [hc1, if_neg (by simp)] at hsu
        simp [h1, h2, h3, h4, h9, h10, q1, q2, hi, hsv.lenOf, hkk, hkl, rdC_ob hseenY, hlt, hc1, up1 hi hsz, rdN_ob hbox]
        have hsX : s < (X2 ++ L).length := by simp only [List.length_append]; omega
        refine (ih hW.pre hs (fun id hi' => ?_) hseenY (by omega) hW.out hkl (by rw [hgd]; exact hc1) (by omega) (show ou.length + cf sn ≤ BIG by omega)).mono ?_
        · rcases hW.own id hi' with h | h
          · exact hw id h
          · have := hp2.le
            simp only [List.length_append] at h
            exact ⟨by omega, by omega⟩
        · rintro _ ⟨w2, Y2, rfl, hW2⟩
          simp [h1, h2, h3, h4, h9, h10, up1 hi hsz]
          exact (hI _ _).2 ⟨w2, by rw [hsu]; exact hW.trans hsX hW2, by simp⟩
    · rintro ⟨e, Y⟩ hIs
      obtain ⟨w', hW, h1, h2, h3, h4, h9, h10⟩ := (hI _ _).1 hIs
      simp only at hW h1 h2 h3 h4 h9 h10 ⊢
      rw [← hxs] at hW
      have hsv : IsI Y sv xs := hrow.isI' fun g ob h => hW.keep _ g ob (by omega) (fun hi => by have := hout.lt hi; omega) h
      rw [hxs] at hW
      have hlen := hsv.lenOf
      rw [← hxs] at hW
      obtain ⟨w2, Y2, r1, r2, r3⟩ := (hW.app [⟨[.i b], 0, true, 1⟩]).res hf2 hX2l hs hw hp hseen hbs hlim
      unfold vf119b0
      simp [h1, h2, h3, h4, h9, h10, hlen, srcOf, putAt, r1, r2]
      exact ⟨w2, Y2, rfl, r3⟩

end Go.Proofs.Ytnmnpfdjigpgaaa.Vm
