import Derived.Test.YtgdfgnppeekfjaaGreatP1
import Derived.Test.YtgdfgnppeekfjaaGreatVmX
section
/- Who follows, who comes ahead, as the laws ask. No conditions. -/
namespace Go.Proofs.YtgdfgnppeekfjaaGreat.Vm
open Go.RowKit (wrap64)
set_option linter.unusedSimpArgs false
set_option linter.unusedVariables false
end Go.Proofs.YtgdfgnppeekfjaaGreat.Vm
end
section
/- Ways through a program. No conditions. -/
namespace Go.Proofs.YtgdfgnppeekfjaaGreat.Vm
open Go.RowKit (wrap64)
set_option linter.unusedSimpArgs false
set_option linter.unusedVariables false
/-! ### Flags -/
theorem bool_put {xs : List Bool} {i : Nat} (h : i < xs.length) (x : Bool) : putAt (xs.map CV.b) i [.b x] = (xs.set i x).map .b := by
  simp [putAt, List.set_eq_take_append_cons_drop, h, List.map_take, List.map_drop]
def cf (l : List Bool) : Nat := l.count false
theorem cf_set {l : List Bool} {b : Nat} (h : l.getD b true = false) : cf (l.set b true) + 1 = cf l := by
  induction l generalizing b with
  | nil => simp at h
  | cons a r ih =>
    cases b with
    | zero => simp at h; subst h; simp [cf]
    | succ b =>
      simp only [List.getD_cons_succ] at h
      have := ih h
      simp only [List.set_cons_succ]
      cases a <;> simp [cf] at this ⊢ <;> omega
theorem cf_set_le (l : List Bool) (b : Nat) : cf (l.set b true) ≤ cf l := by
  induction l generalizing b with
  | nil => simp
  | cons a r ih =>
    cases b with
    | zero => cases a <;> simp [cf]
    | succ b =>
      have := ih b
      simp only [List.set_cons_succ]
      cases a <;> simp [cf] at this ⊢ <;> omega
theorem unseen_lt {l : List Bool} {b : Nat} (h : l.getD b true = false) : b < l.length := by
  by_cases hb : b < l.length
  · exact hb
  · rw [List.getD_eq_getElem?_getD, List.getElem?_eq_none (by omega)] at h; cases h
theorem getD_at {l : List Bool} {b : Nat} (h : b < l.length) (d : Bool) : l.getD b d = l[b] := by rw [List.getD_eq_getElem?_getD, List.getElem?_eq_getElem h]; rfl
/-! ### The walk -/
abbrev WSt := List Bool × List Int
def wstepWith (f : Nat → WSt → WSt) (q : WSt) (k : Int) : WSt := if q.1.getD k.toNat true = true then q else f k.toNat q
def walkF (bs : List BlkR) : Nat → Nat → WSt → WSt
  | 0, _, p => p
  | n + 1, b, p =>
    let r := (succsAt bs b).foldl (wstepWith (walkF bs n)) (p.1.set b true, p.2)
    (r.1, r.2 ++ [(b : Int)])
def walkTo (bs : List BlkR) (n : Nat) (xs : List Int) (q : WSt) (i : Nat) : WSt := (xs.take i).foldl (wstepWith (walkF bs n)) q
theorem walkTo_succ {bs : List BlkR} {n : Nat} {xs : List Int} {q : WSt} {i : Nat} (hi : i < xs.length) : walkTo bs n xs q (i + 1) = wstepWith (walkF bs n) (walkTo bs n xs q i) xs[i] := by
  unfold walkTo
  rw [List.take_succ_eq_append_getElem hi, List.foldl_append]; rfl
theorem walkTo_all (bs : List BlkR) (n : Nat) (xs : List Int) (q : WSt) : walkTo bs n xs q xs.length = xs.foldl (wstepWith (walkF bs n)) q := by
  unfold walkTo; rw [List.take_length]
structure WOk (p r : WSt) : Prop where
  len : r.1.length = p.1.length
  mono : ∀ j, p.1.getD j true = true → r.1.getD j true = true
  le : cf r.1 ≤ cf p.1
theorem WOk.refl (p : WSt) : WOk p p := ⟨rfl, fun _ h => h, Nat.le_refl _⟩
theorem WOk.trans {p q r : WSt} (h : WOk p q) (k : WOk q r) : WOk p r := ⟨k.len.trans h.len, fun j hj => k.mono j (h.mono j hj), Nat.le_trans k.le h.le⟩
theorem fold_ok {f : Nat → WSt → WSt} (ih : ∀ b p, WOk p (f b p) ∧ (p.1.getD b true = false → (f b p).2.length + cf (f b p).1 = p.2.length + cf p.1)) :
    ∀ (ks : List Int) (q : WSt), WOk q (ks.foldl (wstepWith f) q) ∧ (ks.foldl (wstepWith f) q).2.length + cf (ks.foldl (wstepWith f) q).1 = q.2.length + cf q.1 := by
  intro ks
  induction ks with
  | nil => intro q; exact ⟨WOk.refl _, rfl⟩
  | cons k r ihk =>
    intro q
    simp only [List.foldl_cons]
    have h1 : WOk q (wstepWith f q k) ∧ (wstepWith f q k).2.length + cf (wstepWith f q k).1 = q.2.length + cf q.1 := by
      unfold wstepWith
      split
      · exact ⟨WOk.refl _, rfl⟩
      · rename_i hn
        obtain ⟨a, b⟩ := ih k.toNat q
        exact ⟨a, b (by simpa using hn)⟩
    obtain ⟨a, b⟩ := ihk (wstepWith f q k)
    exact ⟨h1.1.trans a, b.trans h1.2⟩
theorem getD_setT {l : List Bool} {i j : Nat} (h : l.getD j true = true) : (l.set i true).getD j true = true := by
  rw [Vm.getD_set]; split
  · rfl
  · exact h
theorem walkF_ok (bs : List BlkR) : ∀ n b p, WOk p (walkF bs n b p) ∧ (p.1.getD b true = false → (walkF bs n b p).2.length + cf (walkF bs n b p).1 ≤ p.2.length + cf p.1) ∧ (p.1.getD b true = false → (walkF bs n b p).2.length + cf (walkF bs n b p).1 = p.2.length + cf p.1) := by
  intro n
  induction n with
  | zero => intro b p; exact ⟨WOk.refl _, fun _ => Nat.le_refl _, fun _ => rfl⟩
  | succ n ih =>
    intro b p
    obtain ⟨h1, h2⟩ := fold_ok (f := walkF bs n) (fun b p => ⟨(ih b p).1, (ih b p).2.2⟩) (succsAt bs b) (p.1.set b true, p.2)
    have h0 : WOk p (p.1.set b true, p.2) := ⟨by simp, fun j hj => getD_setT hj, cf_set_le _ _⟩
    have h3 : p.1.getD b true = false → (walkF bs (n + 1) b p).2.length + cf (walkF bs (n + 1) b p).1 = p.2.length + cf p.1 := by
      intro hb
      have := cf_set hb
      simp only [walkF, List.length_append, List.length_cons, List.length_nil]
      simp only at h2
      omega
    refine ⟨⟨?_, ?_, ?_⟩, fun h => Nat.le_of_eq (h3 h), h3⟩
    · exact (h0.trans h1).len
    · exact (h0.trans h1).mono
    · exact (h0.trans h1).le
theorem wfold_ok (bs : List BlkR) (n : Nat) (ks : List Int) (q : WSt) : WOk q (ks.foldl (wstepWith (walkF bs n)) q) ∧ (ks.foldl (wstepWith (walkF bs n)) q).2.length + cf (ks.foldl (wstepWith (walkF bs n)) q).1 = q.2.length + cf q.1 :=
  fold_ok (fun b p => ⟨(walkF_ok bs n b p).1, (walkF_ok bs n b p).2.2⟩) ks q
/-! ### A row that grows -/
def OutR (X : Hp) (w : CV) (out : List Int) : Prop := (w = .ns ∧ out = []) ∨ ∃ o g, w = .sl o g 0 out.length ∧ rdOb X o g = some ⟨out.map .i, g, true, 1⟩
def IsOut (w : CV) (id : Nat) : Prop := ∃ g n, w = .sl id g 0 n
theorem OutR.lt {X : Hp} {w : CV} {out : List Int} (h : OutR X w out) {id : Nat} (hi : IsOut w id) : id < X.length := by
  obtain ⟨g, n, rfl⟩ := hi
  rcases h with ⟨h, _⟩ | ⟨o, g', h, ho⟩
  · cases h
  · cases h; exact rdOb_lt ho
theorem OutR.keep {X Y : Hp} {w : CV} {out : List Int} (h : OutR X w out) (hk : ∀ id g ob, IsOut w id → rdOb X id g = some ob → rdOb Y id g = some ob) : OutR Y w out := by
  rcases h with ⟨rfl, rfl⟩ | ⟨o, g, rfl, ho⟩
  · exact .inl ⟨rfl, rfl⟩
  · exact .inr ⟨o, g, rfl, hk _ _ _ ⟨g, _, rfl⟩ ho⟩
theorem OutR.push {X : Hp} {w : CV} {out : List Int} (h : OutR X w out) (b : Int) (hl : out.length + 1 ≤ LIM) :
    ∃ w' X', doApp X 1 w 1 [.i b] = some (.c w', X') ∧ OutR X' w' (out ++ [b]) ∧ X.length ≤ X'.length ∧ (∀ id g ob, ¬ IsOut w id → rdOb X id g = some ob → rdOb X' id g = some ob) ∧ (∀ id, IsOut w' id → IsOut w id ∨ X.length ≤ id) ∧
      (∀ H0, Pre H0 X → (∀ id, IsOut w id → H0.length ≤ id) → Pre H0 X') := by
  rcases h with ⟨rfl, rfl⟩ | ⟨o, g, rfl, ho⟩
  · refine ⟨.sl X.length 0 0 1, X ++ [⟨[.i b], 0, true, 1⟩], by simp [doApp, LIM], .inr ⟨X.length, 0, rfl, by simp⟩, by simp, fun id g ob _ h => rdOb_app _ h, fun id hi => ?_, fun H0 hp _ => hp.app _⟩
    obtain ⟨g, n, h⟩ := hi
    cases h; exact .inr (Nat.le_refl _)
  · have hlt := rdOb_lt ho
    refine ⟨.sl o (g + 1) 0 (out.length + 1), X.set o ⟨out.map .i ++ [.i b], g + 1, true, 1⟩, app_own ho (by simp) (by simp) (by simpa using hl), .inr ⟨o, g + 1, by simp, ?_⟩, by simp, fun id g' ob hn h => ?_, fun id hi => ?_, fun H0 hp hh => hp.set (hh o ⟨_, _, rfl⟩) _⟩
    · rw [rdOb_set_self hlt]; simp
    · rw [rdOb_set_ne (fun e => hn ⟨g, _, by rw [e]⟩)]; exact h
    · obtain ⟨g', n, h⟩ := hi
      cases h; exact .inl ⟨_, _, rfl⟩
theorem gc_ne {H H' : Hp} {r : IV} {id g : Nat} {o o' : Ob} (h : rdOb H id g = some o) (h' : rdOb H' id g = some o') (hne : o ≠ o') : gcRet H r H' = (r, H') := by
  unfold gcRet
  rw [if_neg]
  intro he
  have hlt := rdOb_lt h
  obtain ⟨a, b⟩ := rdOb_some.1 h
  obtain ⟨c, d⟩ := rdOb_some.1 h'
  rw [← he, List.getElem?_take, if_pos hlt, c] at a
  injection a with a
  exact hne a.symm
def InRange (bs : List BlkR) : Prop := ∀ j, ∀ k ∈ succsAt bs j, 0 ≤ k ∧ k < bs.length
theorem succs_range {n m : Int} {t : TrmR} (h : termB t n m = true) : ∀ k ∈ succsF t, 0 ≤ k ∧ k < n := by
  intro k hk
  unfold termB at h
  unfold succsF at hk
  have hin : ∀ {x : Int}, inB x 0 (n - 1) = true → 0 ≤ x ∧ x < n := fun h => by have := of_decide_eq_true h; omega
  by_cases h1 : t.kind = 1
  · rw [if_pos h1] at h
    rw [if_pos (.inl h1)] at hk
    simp only [Bool.and_eq_true] at h
    simp at hk
    rw [hk]; exact hin h.1.1
  · rw [if_neg h1] at h
    by_cases h2 : t.kind = 2
    · rw [if_pos h2] at h
      simp only [Bool.and_eq_true] at h
      by_cases h3 : t.to = t.els
      · rw [if_pos (.inr ⟨h2, h3⟩)] at hk
        simp at hk
        rw [hk]; exact hin h.1.1
      · rw [if_neg (by rintro (h | h); exact h1 h; exact h3 h.2), if_pos h2] at hk
        simp at hk
        rcases hk with rfl | rfl
        · exact hin h.1.1
        · exact hin h.1.2
    · rw [if_neg (by rintro (h | h); exact h1 h; exact h2 h.1), if_neg h2] at hk
      cases hk
theorem shape_range {f : FnR} (h : shapeB f = true) : InRange f.blocks := by
  intro j k hk
  unfold succsAt at hk
  cases hj : f.blocks[j]? with
  | none => rw [hj] at hk; cases hk
  | some b => rw [hj] at hk; exact succs_range (shape_term h (List.mem_of_getElem? hj)) k hk
theorem RowRes.len {X2 : Hp} {sv : CV} {L : Hp} {xs : List Int} (h : RowRes X2 sv L xs) : lenOf sv = some xs.length := by
  rcases h with ⟨rfl, rfl, rfl⟩ | ⟨rfl, rfl⟩ <;> rfl
theorem succsAt_le (bs : List BlkR) (b : Nat) : (succsAt bs b).length ≤ BIG := by
  unfold succsAt
  split
  · have := succsF_le (by assumption : BlkR).term
    simp only [BIG]; omega
  · simp [BIG]
theorem RowRes.isI' {X2 Y : Hp} {sv : CV} {L : Hp} {xs : List Int} (h : RowRes X2 sv L xs) (hk : ∀ g ob, rdOb (X2 ++ L) X2.length g = some ob → rdOb Y X2.length g = some ob) : IsI Y sv xs := by
  rcases h with ⟨rfl, rfl, rfl⟩ | ⟨rfl, rfl⟩
  · exact IsI.ns _
  · exact IsI.mk (hk 0 ⟨xs.map .i, 0, true, 1⟩ (by simp)) rfl (by simp) (by rw [List.drop_zero, List.take_of_length_le (by simp)])
/-- What stands while a walk goes on. -/
structure WInv (H0 X3 : Hp) (s gs : Nat) (w0 : CV) (p : WSt) (w : CV) (Y : Hp) : Prop where
  pre : Pre H0 Y
  len : X3.length ≤ Y.length
  seen : rdOb Y s gs = some ⟨p.1.map .b, gs, true, 1⟩
  out : OutR Y w p.2
  keep : ∀ id g ob, id ≠ s → ¬ IsOut w0 id → rdOb X3 id g = some ob → rdOb Y id g = some ob
  own : ∀ id, IsOut w id → IsOut w0 id ∨ X3.length ≤ id
def WRes (H0 X : Hp) (s gs : Nat) (w : CV) (p : WSt) (r : IV × Hp) : Prop := ∃ w' X', r = (.c w', X') ∧ WInv H0 X s gs w p w' X'
theorem WInv.app {H0 X3 Y : Hp} {s gs : Nat} {w0 w : CV} {p : WSt} (h : WInv H0 X3 s gs w0 p w Y) (B : Hp) : WInv H0 X3 s gs w0 p w (Y ++ B) :=
  ⟨h.pre.app _, by have := h.len; simp only [List.length_append]; omega, rdOb_app _ h.seen, h.out.keep fun _ _ _ _ k => rdOb_app _ k, fun id g ob a b c => rdOb_app _ (h.keep id g ob a b c), h.own⟩
theorem WInv.trans {H0 X3 Y Y' : Hp} {s gs : Nat} {w0 w w' : CV} {p p' : WSt} (hs : s < X3.length) (h : WInv H0 X3 s gs w0 p w Y) (k : WInv H0 Y s gs w p' w' Y') : WInv H0 X3 s gs w0 p' w' Y' := by
  refine ⟨k.pre, Nat.le_trans h.len k.len, k.seen, k.out, fun id g ob h1 h2 h3 => k.keep id g ob h1 (fun hi => ?_) (h.keep id g ob h1 h2 h3), fun id hi => ?_⟩
  · have := rdOb_lt h3
    rcases h.own id hi with h | h
    · exact h2 h
    · omega
  · rcases k.own id hi with h1 | h1
    · exact h.own id h1
    · have := h.len
      exact .inr (by omega)
theorem WInv.res {H0 X X2 L Y : Hp} {s gs : Nat} {w0 w : CV} {b : Nat} {n : Nat} {bs : List BlkR} {seen : List Bool} {out : List Int}
    (hf2 : ∀ id g ob, id ≠ s → rdOb X id g = some ob → rdOb X2 id g = some ob) (hX2l : X2.length = X.length + 1) (hs : H0.length ≤ s) (hw : ∀ id, IsOut w0 id → H0.length ≤ id ∧ id ≠ s) (hX : Pre H0 X)
    (hseen : rdOb X s gs = some ⟨seen.map .b, gs, true, 1⟩) (hbs : seen.getD b true = false) (h : WInv H0 (X2 ++ L) s gs w0 (walkTo bs n (succsAt bs b) (seen.set b true, out) (succsAt bs b).length) w Y)
    (hlim : out.length + cf seen ≤ BIG) :
    ∃ w' Y', doApp Y 1 w 1 [.i b] = some (.c w', Y') ∧ gcRet X (.c w') Y' = (.c w', Y') ∧ WInv H0 X s gs w0 (walkF bs (n + 1) b (seen, out)) w' Y' := by
  have hq : walkF bs (n + 1) b (seen, out) = ((walkTo bs n (succsAt bs b) (seen.set b true, out) (succsAt bs b).length).1, (walkTo bs n (succsAt bs b) (seen.set b true, out) (succsAt bs b).length).2 ++ [(b : Int)]) := by
    rw [walkTo_all]; rfl
  obtain ⟨hok, hsum⟩ := wfold_ok bs n (succsAt bs b) (seen.set b true, out)
  rw [← walkTo_all] at hok hsum
  have hcs := cf_set hbs
  have hbl := unseen_lt hbs
  simp only at hsum
  generalize walkTo bs n (succsAt bs b) (seen.set b true, out) (succsAt bs b).length = R at *
  have hsl := rdOb_lt hseen
  have hnew : R.1.getD b true = true := hok.mono b (by rw [Vm.getD_set]; simp [hbl])
  have hlen := h.len
  have hsy : ¬ IsOut w s := by
    intro hi
    rcases h.own s hi with h1 | h1
    · exact (hw s h1).2 rfl
    · simp only [List.length_append] at h1; omega
  obtain ⟨w', Y', h1, h2, h3, h4, h5, h6⟩ := h.out.push (b : Int) (by simp only [BIG] at hlim; simp only [LIM]; omega)
  have hp0 := hX.le
  have hown : ∀ id, IsOut w' id → IsOut w0 id ∨ X.length ≤ id := by
    intro id hi
    rcases h5 id hi with h7 | h7
    · rcases h.own id h7 with h8 | h8
      · exact .inl h8
      · simp only [List.length_append] at h8; exact .inr (by omega)
    · simp only [List.length_append] at hlen; exact .inr (by omega)
  refine ⟨w', Y', h1, gc_ne hseen (h4 _ _ _ hsy h.seen) ?_, ?_⟩
  · intro e
    have e1 : seen.map CV.b = R.1.map CV.b := congrArg Ob.cells e
    have e2 : seen = R.1 := by
      have := congrArg (List.map fun | CV.b x => x | _ => true) e1
      simpa [List.map_map, Function.comp_def] using this
    rw [← e2, hbs] at hnew; cases hnew
  · rw [hq]
    refine ⟨h6 H0 h.pre fun id hi => ?_, ?_, h4 _ _ _ hsy h.seen, h2, fun id g ob e1 e2 e3 => h4 _ _ _ (fun hi => ?_) (h.keep id g ob e1 e2 (rdOb_app _ (hf2 id g ob e1 e3))), hown⟩
    · rcases h.own id hi with h8 | h8
      · exact (hw id h8).1
      · simp only [List.length_append] at h8; omega
    · simp only [List.length_append] at hlen; omega
    · have := rdOb_lt e3
      rcases h.own id hi with h8 | h8
      · exact e2 h8
      · simp only [List.length_append] at h8; omega
theorem implWalk {H0 : Hp} {v : CV} {bs : List BlkR} {m : Int} (hv : Blocks H0 v bs) (hin : InRange bs) (hb : bs.length ≤ BIG) : ∀ (n : Nat) {X : Hp} {s gs b : Nat} {w : CV} {seen : List Bool} {out : List Int}, Pre H0 X → H0.length ≤ s → (∀ id, IsOut w id → H0.length ≤ id ∧ id ≠ s) →
    rdOb X s gs = some ⟨seen.map .b, gs, true, 1⟩ → seen.length = bs.length → OutR X w out → b < bs.length → seen.getD b true = false → cf seen ≤ n → out.length + cf seen ≤ BIG →
    CM 147 [.agg [v, .i m], .c (.i b), .c (.sl s gs 0 bs.length), .c w] X (WRes H0 X s gs w (walkF bs n b (seen, out))) := by
  intro n
  induction n with
  | zero =>
    intro X s gs b w seen out _ _ _ _ _ _ _ hbs hc _
    have := cf_set hbs
    omega
  | succ n ih =>
    intro X s gs b w seen out hp hs hw hseen hslen hout hbl hbs hc hlim
    have hsl := rdOb_lt hseen
    have hcs := cf_set hbs
    have hX1 : rdOb (X ++ [⟨[v, .i m], 0, true, 2⟩]) s gs = some ⟨seen.map .b, gs, true, 1⟩ := rdOb_app _ hseen
    obtain ⟨X2, hX2⟩ : ∃ X2, X.set s ⟨(seen.set b true).map .b, gs, true, 1⟩ ++ [(⟨[v, .i m], 0, true, 2⟩ : Ob)] = X2 := ⟨_, rfl⟩
    have hX2l : X2.length = X.length + 1 := by rw [← hX2]; simp
    have hp2 : Pre H0 X2 := by rw [← hX2]; exact (hp.set hs _).app _
    have hf2 : ∀ id g ob, id ≠ s → rdOb X id g = some ob → rdOb X2 id g = some ob := by
      intro id g ob hne ho
      rw [← hX2]; exact rdOb_app _ (by rw [rdOb_set_ne hne]; exact ho)
    have hs2 : rdOb X2 s gs = some ⟨(seen.set b true).map .b, gs, true, 1⟩ := by
      rw [← hX2]; exact rdOb_app _ (by rw [rdOb_set_self hsl]; simp)
    have hbox2 : rdOb X2 X.length 0 = some ⟨[v, .i m], 0, true, 2⟩ := by
      rw [← hX2]; have := rdOb_r (X.set s ⟨(seen.set b true).map .b, gs, true, 1⟩) [⟨[v, .i m], 0, true, 2⟩] 0 0; simpa using this
    obtain ⟨sv, L, hrow, hcall⟩ := implSuccs (m := m) (hv.pre hp2) hbl
    rw [← succsAt_eq hbl] at hrow
    have hin0 := hin b
    have hl0 := hrow.len
    generalize hxs : succsAt bs b = xs at hrow hin0 hl0
    have hX3 : WInv H0 (X2 ++ L) s gs w (walkTo bs n xs (seen.set b true, out) 0) w (X2 ++ L) := by
      refine ⟨hp2.app _, Nat.le_refl _, rdOb_app _ hs2, ?_, fun _ _ _ _ _ h => h, fun _ h => .inl h⟩
      exact hout.keep fun id g ob hi h => rdOb_app _ (hf2 id g ob (hw id hi).2 h)
    refine cw147 ?_
    unfold vf147c
    simp [hX1, hbl, hslen, bool_put (show b < seen.length by omega), List.set_append, hsl, show b + 1 ≤ bs.length from hbl, ← List.map_set, hX2, rdN_ob hbox2, hcall, hl0]
    obtain ⟨I, hI⟩ : ∃ I : Nat → St → Prop, ∀ i st, I i st ↔ (∃ w', WInv H0 (X2 ++ L) s gs w (walkTo bs n xs (seen.set b true, out) i) w' st.h ∧ Env.get st.e 1 = .c (.i b) ∧ Env.get st.e 2 = .c (.sl s gs 0 bs.length) ∧ Env.get st.e 3 = .c w' ∧ Env.get st.e 4 = .c (.p X.length 0 0) ∧
      Env.get st.e 16 = .c sv ∧ Env.get st.e 17 = .c (.i xs.length) ∧ Env.get st.e 18 = .c (.i i)) := ⟨_, fun _ _ => Iff.rfl⟩
    have hsz := succsAt_le bs b
    rw [hxs] at hsz
    refine wp_for CM_mono xs.length I ((hI _ _).2 ⟨w, hX3, by simp⟩) ?_ ?_
    · rintro i ⟨e, Y⟩ hi hIs
      obtain ⟨w', hW, h1, h2, h3, h4, h16, h17, h18⟩ := (hI _ _).1 hIs
      simp only at hW h1 h2 h3 h4 h16 h17 h18 ⊢
      have hsv : IsI Y sv xs := hrow.isI' fun g ob h => hW.keep _ g ob (by omega) (fun hi => by have := hout.lt hi; omega) h
      have hbox : rdOb Y X.length 0 = some ⟨[v, .i m], 0, true, 2⟩ := hW.keep _ _ _ (by omega) (fun hi => by have := hout.lt hi; omega) (rdOb_app _ hbox2)
      obtain ⟨id, g, off, q1, q2⟩ := hsv.at_ hi
      obtain ⟨hk0, hk1⟩ := hin0 xs[i] (List.getElem_mem hi)
      obtain ⟨hok, hsum⟩ := wfold_ok bs n (xs.take i) (seen.set b true, out)
      have hsu := walkTo_succ (bs := bs) (n := n) (q := (seen.set b true, out)) hi
      change WOk _ (walkTo bs n xs (seen.set b true, out) i) at hok
      change (walkTo bs n xs (seen.set b true, out) i).2.length + cf (walkTo bs n xs (seen.set b true, out) i).1 = _ at hsum
      have hok1 := hok.len
      have hok2 := hok.le
      obtain ⟨kk, hkk⟩ : ∃ kk : Nat, xs[i] = (kk : Int) := ⟨xs[i].toNat, by omega⟩
      rw [hkk] at hk0 hk1 hsu
      have hkl : kk < bs.length := by omega
      generalize walkTo bs n xs (seen.set b true, out) i = R at *
      obtain ⟨sn, ou⟩ := R
      simp only [List.length_set] at hok1 hok2 hsum
      have hlt : kk < sn.length := by omega
      have hseenY := hW.seen
      simp only at hseenY
      have hgd : sn.getD kk true = sn[kk] := getD_at hlt true
      unfold wstepWith at hsu
      simp only [Int.toNat_natCast, hgd] at hsu
      unfold vf147b0
      cases hc1 : sn[kk] with
      | true =>
        rw [hc1, if_pos rfl] at hsu
        simp [h1, h2, h3, h4, h16, h17, h18, q1, q2, hi, hkk, hkl, rdC_ob hseenY, hlt, hc1, up1 hi hsz]
        exact (hI _ _).2 ⟨w', by rw [hsu]; exact hW, by simp [h1, h2, h3, h4, h16, h17, h18]⟩
      | false =>
        rw [hc1, if_neg (by simp)] at hsu
        simp [h1, h2, h3, h4, h16, h17, h18, q1, q2, hi, hkk, hkl, rdC_ob hseenY, hlt, hc1, up1 hi hsz, rdN_ob hbox]
        have hsX : s < (X2 ++ L).length := by simp only [List.length_append]; omega
        refine (ih hW.pre hs (fun id hi' => ?_) hseenY (by omega) hW.out hkl (by rw [hgd]; exact hc1) (by omega) (show ou.length + cf sn ≤ BIG by omega)).mono ?_
        · rcases hW.own id hi' with h | h
          · exact hw id h
          · have := hp2.le
            simp only [List.length_append] at h
            exact ⟨by omega, by omega⟩
        · rintro _ ⟨w2, Y2, rfl, hW2⟩
          simp [h1, h2, h3, h4, h16, h17, h18, up1 hi hsz]
          exact (hI _ _).2 ⟨w2, by rw [hsu]; exact hW.trans hsX hW2, by simp⟩
    · rintro ⟨e, Y⟩ hIs
      obtain ⟨w', hW, h1, h2, h3, h4, h16, h17, h18⟩ := (hI _ _).1 hIs
      simp only at hW h1 h2 h3 h4 h16 h17 h18 ⊢
      rw [← hxs] at hW
      obtain ⟨w2, Y2, r1, r2, r3⟩ := (hW.app [⟨[.i b], 0, true, 1⟩]).res hf2 hX2l hs hw hp hseen hbs hlim
      unfold vf147b0
      simp [h1, h2, h3, h4, h16, h17, h18, srcOf, putAt, r1, r2]
      exact ⟨w2, Y2, rfl, r3⟩
theorem specWalk {H0 : Hp} {v : CV} {bs : List BlkR} {m : Int} (hv : Blocks H0 v bs) (hin : InRange bs) (hb : bs.length ≤ BIG) : ∀ (n : Nat) {X : Hp} {s gs b : Nat} {w : CV} {seen : List Bool} {out : List Int}, Pre H0 X → H0.length ≤ s → (∀ id, IsOut w id → H0.length ≤ id ∧ id ≠ s) →
    rdOb X s gs = some ⟨seen.map .b, gs, true, 1⟩ → seen.length = bs.length → OutR X w out → b < bs.length → seen.getD b true = false → cf seen ≤ n → out.length + cf seen ≤ BIG →
    CM 156 [.agg [v, .i m], .c (.i b), .c (.sl s gs 0 bs.length), .c w] X (WRes H0 X s gs w (walkF bs n b (seen, out))) := by
  intro n
  induction n with
  | zero =>
    intro X s gs b w seen out _ _ _ _ _ _ _ hbs hc _
    have := cf_set hbs
    omega
  | succ n ih =>
    intro X s gs b w seen out hp hs hw hseen hslen hout hbl hbs hc hlim
    have hsl := rdOb_lt hseen
    have hcs := cf_set hbs
    have hX1 : rdOb (X ++ [⟨[v, .i m], 0, true, 2⟩]) s gs = some ⟨seen.map .b, gs, true, 1⟩ := rdOb_app _ hseen
    obtain ⟨X2, hX2⟩ : ∃ X2, X.set s ⟨(seen.set b true).map .b, gs, true, 1⟩ ++ [(⟨[v, .i m], 0, true, 2⟩ : Ob)] = X2 := ⟨_, rfl⟩
    have hX2l : X2.length = X.length + 1 := by rw [← hX2]; simp
    have hp2 : Pre H0 X2 := by rw [← hX2]; exact (hp.set hs _).app _
    have hf2 : ∀ id g ob, id ≠ s → rdOb X id g = some ob → rdOb X2 id g = some ob := by
      intro id g ob hne ho
      rw [← hX2]; exact rdOb_app _ (by rw [rdOb_set_ne hne]; exact ho)
    have hs2 : rdOb X2 s gs = some ⟨(seen.set b true).map .b, gs, true, 1⟩ := by
      rw [← hX2]; exact rdOb_app _ (by rw [rdOb_set_self hsl]; simp)
    have hbox2 : rdOb X2 X.length 0 = some ⟨[v, .i m], 0, true, 2⟩ := by
      rw [← hX2]; have := rdOb_r (X.set s ⟨(seen.set b true).map .b, gs, true, 1⟩) [⟨[v, .i m], 0, true, 2⟩] 0 0; simpa using this
    obtain ⟨sv, L, hrow, hcall⟩ := specSuccs (m := m) (hv.pre hp2) hbl
    rw [← succsAt_eq hbl] at hrow
    have hin0 := hin b
    have hl0 := hrow.len
    generalize hxs : succsAt bs b = xs at hrow hin0 hl0
    have hX3 : WInv H0 (X2 ++ L) s gs w (walkTo bs n xs (seen.set b true, out) 0) w (X2 ++ L) := by
      refine ⟨hp2.app _, Nat.le_refl _, rdOb_app _ hs2, ?_, fun _ _ _ _ _ h => h, fun _ h => .inl h⟩
      exact hout.keep fun id g ob hi h => rdOb_app _ (hf2 id g ob (hw id hi).2 h)
    refine cw156 ?_
    unfold vf156c
    simp [hX1, hbl, hslen, bool_put (show b < seen.length by omega), List.set_append, hsl, show b + 1 ≤ bs.length from hbl, ← List.map_set, hX2, rdN_ob hbox2, hcall, hl0]
    obtain ⟨I, hI⟩ : ∃ I : Nat → St → Prop, ∀ i st, I i st ↔ (∃ w', WInv H0 (X2 ++ L) s gs w (walkTo bs n xs (seen.set b true, out) i) w' st.h ∧ Env.get st.e 1 = .c (.i b) ∧ Env.get st.e 2 = .c (.sl s gs 0 bs.length) ∧ Env.get st.e 3 = .c w' ∧ Env.get st.e 4 = .c (.p X.length 0 0) ∧
      Env.get st.e 9 = .c sv ∧ Env.get st.e 10 = .c (.i i)) := ⟨_, fun _ _ => Iff.rfl⟩
    have hsz := succsAt_le bs b
    rw [hxs] at hsz
    refine wp_for CM_mono xs.length I ((hI _ _).2 ⟨w, hX3, by simp⟩) ?_ ?_
    · rintro i ⟨e, Y⟩ hi hIs
      obtain ⟨w', hW, h1, h2, h3, h4, h9, h10⟩ := (hI _ _).1 hIs
      simp only at hW h1 h2 h3 h4 h9 h10 ⊢
      have hsv : IsI Y sv xs := hrow.isI' fun g ob h => hW.keep _ g ob (by omega) (fun hi => by have := hout.lt hi; omega) h
      have hbox : rdOb Y X.length 0 = some ⟨[v, .i m], 0, true, 2⟩ := hW.keep _ _ _ (by omega) (fun hi => by have := hout.lt hi; omega) (rdOb_app _ hbox2)
      obtain ⟨id, g, off, q1, q2⟩ := hsv.at_ hi
      obtain ⟨hk0, hk1⟩ := hin0 xs[i] (List.getElem_mem hi)
      obtain ⟨hok, hsum⟩ := wfold_ok bs n (xs.take i) (seen.set b true, out)
      have hsu := walkTo_succ (bs := bs) (n := n) (q := (seen.set b true, out)) hi
      change WOk _ (walkTo bs n xs (seen.set b true, out) i) at hok
      change (walkTo bs n xs (seen.set b true, out) i).2.length + cf (walkTo bs n xs (seen.set b true, out) i).1 = _ at hsum
      have hok1 := hok.len
      have hok2 := hok.le
      obtain ⟨kk, hkk⟩ : ∃ kk : Nat, xs[i] = (kk : Int) := ⟨xs[i].toNat, by omega⟩
      rw [hkk] at hk0 hk1 hsu
      have hkl : kk < bs.length := by omega
      generalize walkTo bs n xs (seen.set b true, out) i = R at *
      obtain ⟨sn, ou⟩ := R
      simp only [List.length_set] at hok1 hok2 hsum
      have hlt : kk < sn.length := by omega
      have hseenY := hW.seen
      simp only at hseenY
      have hgd : sn.getD kk true = sn[kk] := getD_at hlt true
      unfold wstepWith at hsu
      simp only [Int.toNat_natCast, hgd] at hsu
      unfold vf156b0
      cases hc1 : sn[kk] with
      | true =>
        rw [hc1, if_pos rfl] at hsu
        simp [h1, h2, h3, h4, h9, h10, q1, q2, hi, hsv.lenOf, hkk, hkl, rdC_ob hseenY, hlt, hc1, up1 hi hsz]
        exact (hI _ _).2 ⟨w', by rw [hsu]; exact hW, by simp [h1, h2, h3, h4, h9, h10]⟩
      | false =>
        rw [hc1, if_neg (by simp)] at hsu
        simp [h1, h2, h3, h4, h9, h10, q1, q2, hi, hsv.lenOf, hkk, hkl, rdC_ob hseenY, hlt, hc1, up1 hi hsz, rdN_ob hbox]
        have hsX : s < (X2 ++ L).length := by simp only [List.length_append]; omega
        refine (ih hW.pre hs (fun id hi' => ?_) hseenY (by omega) hW.out hkl (by rw [hgd]; exact hc1) (by omega) (show ou.length + cf sn ≤ BIG by omega)).mono ?_
        · rcases hW.own id hi' with h | h
          · exact hw id h
          · have := hp2.le
            simp only [List.length_append] at h
            exact ⟨by omega, by omega⟩
        · rintro _ ⟨w2, Y2, rfl, hW2⟩
          simp [h1, h2, h3, h4, h9, h10, up1 hi hsz]
          exact (hI _ _).2 ⟨w2, by rw [hsu]; exact hW.trans hsX hW2, by simp⟩
    · rintro ⟨e, Y⟩ hIs
      obtain ⟨w', hW, h1, h2, h3, h4, h9, h10⟩ := (hI _ _).1 hIs
      simp only at hW h1 h2 h3 h4 h9 h10 ⊢
      rw [← hxs] at hW
      have hsv : IsI Y sv xs := hrow.isI' fun g ob h => hW.keep _ g ob (by omega) (fun hi => by have := hout.lt hi; omega) h
      rw [hxs] at hW
      have hlen := hsv.lenOf
      rw [← hxs] at hW
      obtain ⟨w2, Y2, r1, r2, r3⟩ := (hW.app [⟨[.i b], 0, true, 1⟩]).res hf2 hX2l hs hw hp hseen hbs hlim
      unfold vf156b0
      simp [h1, h2, h3, h4, h9, h10, hlen, srcOf, putAt, r1, r2]
      exact ⟨w2, Y2, rfl, r3⟩
end Go.Proofs.YtgdfgnppeekfjaaGreat.Vm
end
section
/- The order of the blocks. No conditions. -/
namespace Go.Proofs.YtgdfgnppeekfjaaGreat.Vm
open Go.RowKit (wrap64)
set_option linter.unusedSimpArgs false
set_option linter.unusedVariables false
/-! ### Turned round -/
def revTo (xs : List Int) (i : Nat) : List Int := (List.range xs.length).map fun k => if k < i ∨ xs.length ≤ k + i then xs.getD (xs.length - 1 - k) 0 else xs.getD k 0
@[simp] theorem revTo_len (xs : List Int) (i : Nat) : (revTo xs i).length = xs.length := by simp [revTo]
theorem revTo_get {xs : List Int} {i k : Nat} (h : k < (revTo xs i).length) : (revTo xs i)[k] = if k < i ∨ xs.length ≤ k + i then xs.getD (xs.length - 1 - k) 0 else xs.getD k 0 := by simp [revTo]
theorem revTo_zero (xs : List Int) : revTo xs 0 = xs := by
  apply List.ext_getElem (by simp)
  intro k h1 h2
  rw [revTo_get, if_neg (by omega), List.getD_eq_getElem?_getD, List.getElem?_eq_getElem h2]; rfl
theorem revTo_all (xs : List Int) : revTo xs (xs.length / 2) = xs.reverse := by
  apply List.ext_getElem (by simp)
  intro k h1 h2
  have hk : k < xs.length := by simpa using h2
  rw [revTo_get, List.getElem_reverse]
  by_cases h : k < xs.length / 2 ∨ xs.length ≤ k + xs.length / 2
  · rw [if_pos h, List.getD_eq_getElem?_getD, List.getElem?_eq_getElem (by omega)]; rfl
  · rw [if_neg h, List.getD_eq_getElem?_getD, List.getElem?_eq_getElem hk]
    have e : xs.length - 1 - k = k := by omega
    simp [e]
theorem revTo_succ {xs : List Int} {i : Nat} (hi : i < xs.length / 2) :
    ((revTo xs i).set i ((revTo xs i).getD (xs.length - 1 - i) 0)).set (xs.length - 1 - i) ((revTo xs i).getD i 0) = revTo xs (i + 1) := by
  apply List.ext_getElem (by simp)
  intro k h1 h2
  have hk : k < xs.length := by simpa using h2
  have e1 : (revTo xs i).getD i 0 = xs.getD i 0 := by
    rw [List.getD_eq_getElem?_getD, List.getElem?_eq_getElem (by simp; omega), Option.getD_some, revTo_get, if_neg (by omega)]
  have e2 : (revTo xs i).getD (xs.length - 1 - i) 0 = xs.getD (xs.length - 1 - i) 0 := by
    rw [List.getD_eq_getElem?_getD, List.getElem?_eq_getElem (by simp; omega), Option.getD_some, revTo_get, if_neg (by omega)]
  simp only [e1, e2]
  rw [List.getElem_set, List.getElem_set, revTo_get, revTo_get]
  by_cases h3 : xs.length - 1 - i = k
  · rw [if_pos h3, if_pos (by omega)]
    congr 1; omega
  · rw [if_neg h3]
    by_cases h4 : i = k
    · rw [if_pos h4, if_pos (by omega), h4]
    · rw [if_neg h4]
      by_cases h5 : k < i ∨ xs.length ≤ k + i
      · rw [if_pos h5, if_pos (by omega)]
      · rw [if_neg h5, if_neg (by omega)]
theorem revTo_succ' {xs : List Int} {i j : Nat} (hi : i < xs.length / 2) (hj : j = xs.length - 1 - i) (h1 : i < (revTo xs i).length) (h2 : j < (revTo xs i).length) :
    ((revTo xs i).set i (revTo xs i)[j]).set j (revTo xs i)[i] = revTo xs (i + 1) := by
  subst hj
  rw [← revTo_succ hi]
  congr 1
  · congr 1
    rw [List.getD_eq_getElem?_getD, List.getElem?_eq_getElem h2]; rfl
  · rw [List.getD_eq_getElem?_getD, List.getElem?_eq_getElem h1]; rfl
theorem reverse_call {X : Hp} {id g : Nat} {xs : List Int} (h : rdOb X id g = some ⟨xs.map .i, g, true, 1⟩) (hb : xs.length ≤ BIG) (k : IV × Hp → Prop) :
    CM 148 [.c (.sl id g 0 xs.length)] X k = k (.tup [], X.set id ⟨xs.reverse.map .i, g, true, 1⟩) := by
  refine det (cw148 ?_) k
  unfold vf148c
  have hlt := rdOb_lt h
  have hw : -9223372036854775807 ≤ (xs.length : Int) ∧ (xs.length : Int) ≤ 9223372036854775807 := bigI hb
  simp [wn1 hw]
  obtain ⟨I, hI⟩ : ∃ I : Nat → St → Prop, ∀ i s, I i s ↔ (s.h = X.set id ⟨(revTo xs i).map .i, g, true, 1⟩ ∧ Env.get s.e 0 = .c (.sl id g 0 xs.length) ∧ Env.get s.e 2 = .c (.i i) ∧ Env.get s.e 3 = .c (.i ((xs.length : Int) - 1 - i))) := ⟨_, fun _ _ => Iff.rfl⟩
  refine wp_for CM_mono (xs.length / 2) I ((hI _ _).2 ⟨?_, by simp⟩) ?_ ?_
  · have := (rdOb_some.1 h).1
    rw [List.getElem?_eq_getElem hlt] at this
    injection this with this
    rw [revTo_zero, ← this]; simp
  · rintro i ⟨e, Y⟩ hi hIs
    obtain ⟨hY, h0, h2, h3⟩ := (hI _ _).1 hIs
    simp only at hY h0 h2 h3 ⊢
    have ho : rdOb Y id g = some ⟨(revTo xs i).map .i, g, true, 1⟩ := by rw [hY, rdOb_set_self hlt]; simp
    have hlY : id < Y.length := rdOb_lt ho
    obtain ⟨j, hj, hj2⟩ : ∃ j : Nat, (xs.length : Int) - 1 - i = j ∧ j = xs.length - 1 - i := ⟨xs.length - 1 - i, by omega, rfl⟩
    rw [hj] at h3
    have hij : i < j := by omega
    have hjn : j < xs.length := by omega
    have hin : i < xs.length := by omega
    have hwj : -9223372036854775807 ≤ (j : Int) ∧ (j : Int) ≤ 9223372036854775807 := by simp only [BIG] at hb; omega
    unfold vf148b0
    have hs := revTo_succ' hi hj2 (by simpa using hin) (by simpa using hjn)
    simp [h0, h2, h3, hij, idxOf, hin, hjn, rdC_ob ho, ho, up1 hin hb, wn1 hwj, putAt_get, hlY, show i + 1 ≤ xs.length from hin, show j + 1 ≤ xs.length from hjn, rdOb_set_self hlY]
    refine (hI _ _).2 ⟨?_, by simp [h0]; omega⟩
    have hs2 := congrArg (List.map CV.i) hs
    simp at hs2
    simp [hs2, hY]
  · rintro ⟨e, Y⟩ hIs
    obtain ⟨hY, h0, h2, h3⟩ := (hI _ _).1 hIs
    simp only at hY h0 h2 h3 ⊢
    unfold vf148b0
    simp [h0, h2, h3, show ¬ ((xs.length : Int) / 2 < (xs.length : Int) - 1 - (xs.length : Int) / 2) by omega]
    rw [gc_nolen (by rw [hY]; simp) rfl, hY, revTo_all, List.map_reverse]
/-! ### The order -/
def walk0 (bs : List BlkR) : WSt := walkF bs bs.length 0 (List.replicate bs.length false, [])
def ordF (bs : List BlkR) : List Int := (walk0 bs).2.reverse
def seenF (bs : List BlkR) : List Bool := (walk0 bs).1
theorem falses_flat (n : Nat) : (List.replicate n [CV.b false]).flatten = (List.replicate n false).map .b := by
  induction n with
  | zero => rfl
  | succ n ih => simp [List.replicate_succ, ih]
theorem cf_falses (n : Nat) : cf (List.replicate n false) = n := by simp [cf]
theorem getD_falses {n : Nat} (h : 0 < n) : (List.replicate n false).getD 0 true = false := by
  rw [List.getD_eq_getElem?_getD, List.getElem?_eq_getElem (by simpa using h)]; simp
theorem walk0_ok {bs : List BlkR} (h : 0 < bs.length) : (walk0 bs).1.length = bs.length ∧ (walk0 bs).2.length + cf (walk0 bs).1 = bs.length ∧ 0 < (walk0 bs).2.length := by
  obtain ⟨h1, _, h2⟩ := walkF_ok bs bs.length 0 (List.replicate bs.length false, [])
  have h3 := h2 (getD_falses h)
  simp only [cf_falses, List.length_nil, Nat.zero_add] at h3
  refine ⟨by rw [walk0, h1.len]; simp, h3, ?_⟩
  unfold walk0
  obtain ⟨n, hn⟩ : ∃ n, bs.length = n + 1 := ⟨bs.length - 1, by omega⟩
  rw [hn]; simp [walkF]
theorem shape_pos {f : FnR} (h : shapeB f = true) : 0 < f.blocks.length := by
  unfold shapeB inB at h
  simp only [Bool.and_eq_true, decide_eq_true_eq] at h
  omega
def OrdRes (H : Hp) (bs : List BlkR) (r : IV × Hp) : Prop := ∃ o g s gs X', r = (.tup [(false, [.sl o g 0 (ordF bs).length]), (false, [.sl s gs 0 bs.length])], X') ∧ Pre H X' ∧ H.length ≤ o ∧ H.length ≤ s ∧
  rdOb X' o g = some ⟨(ordF bs).map .i, g, true, 1⟩ ∧ rdOb X' s gs = some ⟨(seenF bs).map .b, gs, true, 1⟩
theorem implOrder {H : Hp} {v : CV} {bs : List BlkR} {m : Int} (hv : Blocks H v bs) (hin : InRange bs) (hb : bs.length ≤ BIG) (h0 : 0 < bs.length) : CM 81 [.agg [v, .i m]] H (OrdRes H bs) := by
  refine cw81 ?_
  unfold vf81c
  obtain ⟨X1, hX1⟩ : ∃ X1, H ++ [(⟨[v, .i m], 0, true, 2⟩ : Ob), ⟨List.replicate bs.length (.b false), 0, true, 1⟩] = X1 := ⟨_, rfl⟩
  have hl1 : X1.length = H.length + 2 := by rw [← hX1]; simp
  have hp1 : Pre H X1 := ⟨_, hX1.symm⟩
  have hb1 : rdOb X1 H.length 0 = some ⟨[v, .i m], 0, true, 2⟩ := by rw [← hX1]; simp
  have hs1 : rdOb X1 (H.length + 1) 0 = some ⟨(List.replicate bs.length false).map .b, 0, true, 1⟩ := by rw [← hX1]; simp
  have hlim : bs.length ≤ LIM := by simp only [BIG] at hb; simp only [LIM]; omega
  simp [(hv.app _).lenOf, hv.lenOf, hlim, falses_flat, hX1, rdN_ob hb1]
  have hw : ∀ id, IsOut CV.ns id → H.length ≤ id ∧ id ≠ H.length + 1 := fun id ⟨_, _, h⟩ => by cases h
  have hwalk := implWalk (m := m) hv hin hb bs.length (X := X1) (s := H.length + 1) (gs := 0) (b := 0) (w := .ns) (seen := List.replicate bs.length false) (out := []) hp1 (by omega) hw hs1 (by simp) (.inl ⟨rfl, rfl⟩) h0 (getD_falses h0) (by rw [cf_falses]; exact Nat.le_refl _) (by rw [cf_falses]; simpa using hb)
  refine CM.mono hwalk ?_
  rintro _ ⟨w', X2, rfl, hW⟩
  obtain ⟨k1, k2, k3⟩ := walk0_ok h0
  have hseen := hW.seen
  have hout := hW.out
  have hown := hW.own
  change rdOb X2 (H.length + 1) 0 = some ⟨(seenF bs).map .b, 0, true, 1⟩ at hseen
  change OutR X2 w' (walk0 bs).2 at hout
  rcases hout with ⟨_, h⟩ | ⟨o, g, rfl, ho⟩
  · rw [h] at k3; exact absurd k3 (by simp)
  · have hoo : X1.length ≤ o := by
      rcases hown o ⟨g, _, rfl⟩ with ⟨_, _, h⟩ | h
      · cases h
      · exact h
    have hol : (walk0 bs).2.length = (ordF bs).length := by unfold ordF; rw [List.length_reverse]
    have hrev := fun k => reverse_call ho (by omega) k
    simp only [hol] at hrev
    simp [hrev, hol]
    have hlt := rdOb_lt ho
    refine ⟨o, g, H.length + 1, 0, X2.set o ⟨(ordF bs).map .i, g, true, 1⟩, ?_, hW.pre.set (by omega) _, by omega, by omega, by rw [rdOb_set_self hlt]; simp, by rw [rdOb_set_ne (by omega)]; exact hseen⟩
    unfold gcRet
    split
    · rw [if_neg (by simp [flatV, flatC])]
      simp [ordF]
    · simp [ordF]
end Go.Proofs.YtgdfgnppeekfjaaGreat.Vm
end
section
/- The order of the blocks, on the other side. No conditions. -/
namespace Go.Proofs.YtgdfgnppeekfjaaGreat.Vm
open Go.RowKit (wrap64)
set_option linter.unusedSimpArgs false
set_option linter.unusedVariables false
theorem specOrderL {H : Hp} {v : CV} {bs : List BlkR} {m : Int} (hv : Blocks H v bs) (hin : InRange bs) (hb : bs.length ≤ BIG) (h0 : 0 < bs.length) (k : IV × Hp → Prop) :
    CM 94 [.agg [v, .i m]] H k = k (.c (.sl H.length 0 0 (ordF bs).length), H ++ [⟨(ordF bs).map .i, 0, true, 1⟩]) := by
  refine det (cw94 ?_) k
  unfold vf94c
  have hlim : bs.length ≤ LIM := by simp only [BIG] at hb; simp only [LIM]; omega
  simp [(hv.app _).lenOf, hv.lenOf, hlim, falses_flat]
  unfold vf94t0
  have hb1 : ∀ L, rdOb (H ++ ⟨[v, .i m], 0, true, 2⟩ :: L) H.length 0 = some ⟨[v, .i m], 0, true, 2⟩ := by intro L; simp
  simp [(hv.app _).lenOf, hv.lenOf, hlim, falses_flat]
  obtain ⟨k1, k2, k3⟩ := walk0_ok h0
  refine ⟨?_, ?_⟩
  · obtain ⟨X1, hX1⟩ : ∃ X1, H ++ [(⟨[v, .i m], 0, true, 2⟩ : Ob), ⟨List.replicate bs.length (.b false), 0, true, 1⟩, ⟨[], 0, true, 1⟩] = X1 := ⟨_, rfl⟩
    have hl1 : X1.length = H.length + 3 := by rw [← hX1]; simp
    have hp1 : Pre H X1 := ⟨_, hX1.symm⟩
    have hs1 : rdOb X1 (H.length + 1) 0 = some ⟨(List.replicate bs.length false).map .b, 0, true, 1⟩ := by rw [← hX1]; simp
    have ho1 : rdOb X1 (H.length + 2) 0 = some ⟨[], 0, true, 1⟩ := by rw [← hX1]; simp
    rw [hX1]
    have hw : ∀ id, IsOut (.sl (H.length + 2) 0 0 0) id → H.length ≤ id ∧ id ≠ H.length + 1 := fun id ⟨_, _, h⟩ => by cases h; omega
    have hwalk := specWalk (m := m) hv hin hb bs.length (X := X1) (s := H.length + 1) (gs := 0) (b := 0) (w := .sl (H.length + 2) 0 0 0) (seen := List.replicate bs.length false) (out := []) hp1 (by omega) hw hs1 (by simp) (.inr ⟨_, _, rfl, ho1⟩) h0 (getD_falses h0) (by rw [cf_falses]; exact Nat.le_refl _) (by rw [cf_falses]; simpa using hb)
    refine CM.mono hwalk ?_
    rintro _ ⟨w', X2, rfl, hW⟩
    have hout := hW.out
    have hown := hW.own
    have hpre := hW.pre
    change OutR X2 w' (walk0 bs).2 at hout
    rcases hout with ⟨_, h⟩ | ⟨o, g, rfl, ho⟩
    · rw [h] at k3; exact absurd k3 (by simp)
    · have hoo : H.length ≤ o := by
        rcases hown o ⟨g, _, rfl⟩ with ⟨_, _, h⟩ | h
        · cases h; omega
        · omega
      have hlt := rdOb_lt ho
      have hlen2 : (walk0 bs).2.length ≤ BIG := by omega
      have hw2 : -9223372036854775807 ≤ ((walk0 bs).2.length : Int) ∧ ((walk0 bs).2.length : Int) ≤ 9223372036854775807 := bigI hlen2
      generalize hxs : (walk0 bs).2 = xs at *
      have hrev : ordF bs = xs.reverse := by unfold ordF; rw [hxs]
      simp [wn1 hw2]
      obtain ⟨I, hI⟩ : ∃ I : Nat → St → Prop, ∀ i st, I i st ↔ (∃ g4, Pre X2 st.h ∧ rdOb st.h X2.length g4 = some ⟨(xs.reverse.take i).map .i, g4, true, 1⟩ ∧ Env.get st.e 3 = .c (.sl o g 0 xs.length) ∧ Env.get st.e 4 = .c (.sl X2.length g4 0 i) ∧ Env.get st.e 5 = .c (.i ((xs.length : Int) - 1 - i))) := ⟨_, fun _ _ => Iff.rfl⟩
      refine wp_for CM_mono xs.length I ((hI _ _).2 ⟨0, ⟨_, rfl⟩, by simp, by simp⟩) ?_ ?_
      · rintro i ⟨e, Y⟩ hi hIs
        obtain ⟨g4, hp, h4, e3, e4, e5⟩ := (hI _ _).1 hIs
        simp only at hp h4 e3 e4 e5 ⊢
        obtain ⟨j, hj, hj2⟩ : ∃ j : Nat, (xs.length : Int) - 1 - i = j ∧ j = xs.length - 1 - i := ⟨xs.length - 1 - i, by omega, rfl⟩
        rw [hj] at e5
        have hjn : j < xs.length := by omega
        have hwj : -9223372036854775807 ≤ (j : Int) ∧ (j : Int) ≤ 9223372036854775807 := by simp only [BIG] at hlen2; omega
        have hoY := hp.rdOb ho
        have hYl := rdOb_lt h4
        have htk : xs.reverse.take (i + 1) = xs.reverse.take i ++ [xs[j]] := by
          rw [List.take_succ_eq_append_getElem (by simpa using hi), List.getElem_reverse]
          congr 2
          subst hj2; rfl
        unfold vf94b0
        simp [e3, e4, e5, idxOf, hjn, rdC_ob hoY, srcOf, putAt]
        rw [app_own (cs := (xs.reverse.take i).map .i) (rdOb_app _ h4) (by simp; omega) (by simp) (by simp; simp only [BIG] at hlen2; simp only [LIM]; omega)]
        simp [e3, e4, e5, wn1 hwj]
        refine (hI _ _).2 ⟨g4 + 1, (hp.app _).set (Nat.le_refl _) _, ?_, by simp; omega⟩
        rw [rdOb_set_self (by simp; omega), htk]
        simp
      · rintro ⟨e, Y⟩ hIs
        obtain ⟨g4, hp, h4, e3, e4, e5⟩ := (hI _ _).1 hIs
        simp only at hp h4 e3 e4 e5 ⊢
        rw [List.take_of_length_le (by simp)] at h4
        unfold vf94b0
        simp [e3, e4, e5, show ¬ ((xs.length : Int) ≤ (xs.length : Int) - 1) by omega]
        rw [gcRet_row (hpre.trans hp) hpre.le h4 rfl (by simp [flatC])]
        simp [hrev]
  · obtain ⟨X1, hX1⟩ : ∃ X1, H ++ [(⟨[v, .i m], 0, true, 2⟩ : Ob), ⟨[], 0, true, 1⟩, ⟨List.replicate bs.length (.b false), 0, true, 1⟩] = X1 := ⟨_, rfl⟩
    have hl1 : X1.length = H.length + 3 := by rw [← hX1]; simp
    have hp1 : Pre H X1 := ⟨_, hX1.symm⟩
    have hs1 : rdOb X1 (H.length + 2) 0 = some ⟨(List.replicate bs.length false).map .b, 0, true, 1⟩ := by rw [← hX1]; simp
    have ho1 : rdOb X1 (H.length + 1) 0 = some ⟨[], 0, true, 1⟩ := by rw [← hX1]; simp
    rw [hX1]
    have hw : ∀ id, IsOut (.sl (H.length + 1) 0 0 0) id → H.length ≤ id ∧ id ≠ H.length + 2 := fun id ⟨_, _, h⟩ => by cases h; omega
    have hwalk := specWalk (m := m) hv hin hb bs.length (X := X1) (s := H.length + 2) (gs := 0) (b := 0) (w := .sl (H.length + 1) 0 0 0) (seen := List.replicate bs.length false) (out := []) hp1 (by omega) hw hs1 (by simp) (.inr ⟨_, _, rfl, ho1⟩) h0 (getD_falses h0) (by rw [cf_falses]; exact Nat.le_refl _) (by rw [cf_falses]; simpa using hb)
    refine CM.mono hwalk ?_
    rintro _ ⟨w', X2, rfl, hW⟩
    have hout := hW.out
    have hown := hW.own
    have hpre := hW.pre
    change OutR X2 w' (walk0 bs).2 at hout
    rcases hout with ⟨_, h⟩ | ⟨o, g, rfl, ho⟩
    · rw [h] at k3; exact absurd k3 (by simp)
    · have hoo : H.length ≤ o := by
        rcases hown o ⟨g, _, rfl⟩ with ⟨_, _, h⟩ | h
        · cases h; omega
        · omega
      have hlt := rdOb_lt ho
      have hlen2 : (walk0 bs).2.length ≤ BIG := by omega
      have hw2 : -9223372036854775807 ≤ ((walk0 bs).2.length : Int) ∧ ((walk0 bs).2.length : Int) ≤ 9223372036854775807 := bigI hlen2
      generalize hxs : (walk0 bs).2 = xs at *
      have hrev : ordF bs = xs.reverse := by unfold ordF; rw [hxs]
      simp [wn1 hw2]
      obtain ⟨I, hI⟩ : ∃ I : Nat → St → Prop, ∀ i st, I i st ↔ (∃ g4, Pre X2 st.h ∧ rdOb st.h X2.length g4 = some ⟨(xs.reverse.take i).map .i, g4, true, 1⟩ ∧ Env.get st.e 3 = .c (.sl o g 0 xs.length) ∧ Env.get st.e 4 = .c (.sl X2.length g4 0 i) ∧ Env.get st.e 5 = .c (.i ((xs.length : Int) - 1 - i))) := ⟨_, fun _ _ => Iff.rfl⟩
      refine wp_for CM_mono xs.length I ((hI _ _).2 ⟨0, ⟨_, rfl⟩, by simp, by simp⟩) ?_ ?_
      · rintro i ⟨e, Y⟩ hi hIs
        obtain ⟨g4, hp, h4, e3, e4, e5⟩ := (hI _ _).1 hIs
        simp only at hp h4 e3 e4 e5 ⊢
        obtain ⟨j, hj, hj2⟩ : ∃ j : Nat, (xs.length : Int) - 1 - i = j ∧ j = xs.length - 1 - i := ⟨xs.length - 1 - i, by omega, rfl⟩
        rw [hj] at e5
        have hjn : j < xs.length := by omega
        have hwj : -9223372036854775807 ≤ (j : Int) ∧ (j : Int) ≤ 9223372036854775807 := by simp only [BIG] at hlen2; omega
        have hoY := hp.rdOb ho
        have hYl := rdOb_lt h4
        have htk : xs.reverse.take (i + 1) = xs.reverse.take i ++ [xs[j]] := by
          rw [List.take_succ_eq_append_getElem (by simpa using hi), List.getElem_reverse]
          congr 2
          subst hj2; rfl
        unfold vf94b0
        simp [e3, e4, e5, idxOf, hjn, rdC_ob hoY, srcOf, putAt]
        rw [app_own (cs := (xs.reverse.take i).map .i) (rdOb_app _ h4) (by simp; omega) (by simp) (by simp; simp only [BIG] at hlen2; simp only [LIM]; omega)]
        simp [e3, e4, e5, wn1 hwj]
        refine (hI _ _).2 ⟨g4 + 1, (hp.app _).set (Nat.le_refl _) _, ?_, by simp; omega⟩
        rw [rdOb_set_self (by simp; omega), htk]
        simp
      · rintro ⟨e, Y⟩ hIs
        obtain ⟨g4, hp, h4, e3, e4, e5⟩ := (hI _ _).1 hIs
        simp only at hp h4 e3 e4 e5 ⊢
        rw [List.take_of_length_le (by simp)] at h4
        unfold vf94b0
        simp [e3, e4, e5, show ¬ ((xs.length : Int) ≤ (xs.length : Int) - 1) by omega]
        rw [gcRet_row (hpre.trans hp) hpre.le h4 rfl (by simp [flatC])]
        simp [hrev]
end Go.Proofs.YtgdfgnppeekfjaaGreat.Vm
end
section
/- Rows of flags: compared, marked, held. Which blocks are reached. No conditions. -/
namespace Go.Proofs.YtgdfgnppeekfjaaGreat.Vm
open Go.RowKit (wrap64)
set_option linter.unusedSimpArgs false
set_option linter.unusedVariables false
def IsL (H : Hp) (v : CV) (xs : List Bool) : Prop := Sl H 1 v xs.length (xs.map .b)
theorem IsL.lenOf {H : Hp} {v : CV} {xs : List Bool} (h : IsL H v xs) : lenOf v = some xs.length := Sl.lenOf h
theorem IsL.at_ {H : Hp} {v : CV} {xs : List Bool} (h : IsL H v xs) {k : Nat} (hk : k < xs.length) :
    ∃ id g off, idxOf 1 v (k : Int) = some (.p id g off) ∧ rdC H id g off = some (.b xs[k]) := by
  obtain ⟨id, g, off, o, h1, h2, _, h3⟩ := Sl.get h hk
  refine ⟨id, g, off, h1, ?_⟩
  have := h3 0 (by omega)
  simp [hk] at this
  simp [rdC, h2, this]
theorem IsL.pre {H X : Hp} (hp : Pre H X) {v : CV} {xs : List Bool} (h : IsL H v xs) : IsL X v xs := Sl.pre hp h
theorem IsL.ns (H : Hp) : IsL H .ns [] := .inl ⟨rfl, rfl, rfl⟩
theorem IsL.mk {H : Hp} {id g off : Nat} {o : Ob} {xs : List Bool} (h : rdOb H id g = some o) (hs : o.sz = 1) (hl : off + xs.length ≤ o.cells.length) (hc : (o.cells.drop off).take xs.length = xs.map .b) : IsL H (.sl id g off xs.length) xs :=
  .inr ⟨id, g, off, o, rfl, h, hs, by omega, by rw [Nat.mul_one]; exact hc⟩
def third (x : Int) : Bool := decide (x.tmod 3 = 0)
def flags (n : Nat) : List Bool := (List.range n).map fun (j : Nat) => third (1 + (j : Int))
@[simp] theorem flags_len (n : Nat) : (flags n).length = n := by simp [flags]
def RowB (H : Hp) (w : CV) (L : Hp) (xs : List Bool) : Prop := (w = .ns ∧ L = [] ∧ xs = []) ∨ (w = .sl H.length 0 0 xs.length ∧ L = [⟨xs.map .b, 0, true, 1⟩])
theorem RowB.own {H L : Hp} {w : CV} {xs : List Bool} (h : RowB H w L xs) : Own (H ++ L) H.length 1 w xs.length (xs.map .b) := by
  rcases h with ⟨rfl, rfl, rfl⟩ | ⟨rfl, rfl⟩
  · exact .inl ⟨rfl, rfl, rfl⟩
  · exact .inr ⟨_, rfl, Nat.le_refl _, by simp, by simp⟩
/-! ### Which blocks are reached -/
/-- What a walk has put on its row is what it has seen. -/
structure Seen (p r : WSt) : Prop where
  new : ∃ ns : List Int, r.2 = p.2 ++ ns ∧ (∀ x ∈ ns, ∃ k : Nat, x = k ∧ k < p.1.length) ∧ ∀ j : Nat, r.1.getD j false = true ↔ p.1.getD j false = true ∨ (j : Int) ∈ ns
theorem Seen.trans {p q r : WSt} (hl : q.1.length = p.1.length) (h : Seen p q) (k : Seen q r) : Seen p r := by
  obtain ⟨n1, a1, b1, c1⟩ := h.new
  obtain ⟨n2, a2, b2, c2⟩ := k.new
  refine ⟨n1 ++ n2, by rw [a2, a1, List.append_assoc], fun x hx => ?_, fun j => ?_⟩
  · rcases List.mem_append.1 hx with h | h
    · exact b1 x h
    · obtain ⟨k, hk, hk2⟩ := b2 x h; exact ⟨k, hk, by omega⟩
  · rw [c2, c1, List.mem_append, or_assoc]
end Go.Proofs.YtgdfgnppeekfjaaGreat.Vm
end
section
/- Rows of edges: compared, marked, held. No conditions. -/
namespace Go.Proofs.YtgdfgnppeekfjaaGreat.Vm
open Go.RowKit (wrap64)
set_option linter.unusedSimpArgs false
set_option linter.unusedVariables false
def edC (xs : List ArmR) : List CV := (xs.map armC).flatten
@[simp] theorem edC_nil : edC [] = [] := rfl
theorem edC_snoc (xs : List ArmR) (a : ArmR) : edC (xs ++ [a]) = edC xs ++ armC a := by simp [edC]
@[simp] theorem edC_len (xs : List ArmR) : (edC xs).length = xs.length * 2 := by
  induction xs with
  | nil => rfl
  | cons a r ih => simp [edC, armC] at ih ⊢; omega
theorem edC_flat (xs : List ArmR) : (edC xs).all flatC = true := by
  induction xs with
  | nil => rfl
  | cons a r ih =>
    have e : edC (a :: r) = .i a.fr :: .i a.v :: edC r := rfl
    rw [e]; simp [flatC] at ih ⊢; exact ih
theorem Own.isE {Y : Hp} {lo : Nat} {w : CV} {n : Nat} {xs : List ArmR} (h : Own Y lo 2 w n (edC xs)) : Row armP 2 Y w xs := by
  rcases h with ⟨rfl, rfl, h⟩ | ⟨id, rfl, h1, h2, h3⟩
  · have : xs = [] := by
      have := congrArg List.length h
      simp at this; exact List.length_eq_zero_iff.1 (by omega)
    subst this
    exact ⟨[], .inl ⟨rfl, rfl, rfl⟩, rfl, fun k cs x h => by simp at h⟩
  · simp at h3
    have h3 : n = xs.length := by omega
    subst h3
    exact Row.mk h2 rfl rfl (by simp) fun k cs x a b => by
      rw [List.getElem?_map, b] at a
      simp at a; subst a
      exact ⟨rfl, rfl⟩
def RowE (H : Hp) (w : CV) (L : Hp) (xs : List ArmR) : Prop := (w = .ns ∧ L = [] ∧ xs = []) ∨ (w = .sl H.length 0 0 xs.length ∧ L = [⟨edC xs, 0, true, 2⟩])
theorem RowE.own {H L : Hp} {w : CV} {xs : List ArmR} (h : RowE H w L xs) : Own (H ++ L) H.length 2 w xs.length (edC xs) := by
  rcases h with ⟨rfl, rfl, rfl⟩ | ⟨rfl, rfl⟩
  · exact .inl ⟨rfl, rfl, rfl⟩
  · exact .inr ⟨_, rfl, Nat.le_refl _, by simp, by simp⟩
theorem RowE.isE {H L : Hp} {w : CV} {xs : List ArmR} (h : RowE H w L xs) : Row armP 2 (H ++ L) w xs := h.own.isE
def edgs (n : Nat) : List ArmR := (List.range n).map fun (j : Nat) => ⟨1 + 2 * (j : Int), 2 + 2 * (j : Int)⟩
@[simp] theorem edgs_len (n : Nat) : (edgs n).length = n := by simp [edgs]
end Go.Proofs.YtgdfgnppeekfjaaGreat.Vm
end
section
/- Who stands on every way to whom. No conditions. -/
namespace Go.Proofs.YtgdfgnppeekfjaaGreat.Vm
open Go.RowKit (wrap64)
set_option linter.unusedSimpArgs false
set_option linter.unusedVariables false
theorem flat_set (l : List Bool) (b : Nat) (x : Bool) : ((l.map CV.b).set b (.b x)).all flatC = true := by
  rw [← List.map_set]; simp only [List.all_map, List.all_eq_true]; intro y _; rfl
def falses (n : Nat) : List Bool := List.replicate n false
def walkB (bs : List BlkR) (b : Nat) : WSt := walkF bs bs.length 0 ((falses bs.length).set b true, [])
def withoutF (bs : List BlkR) (b : Nat) : List Bool := if b = 0 then falses bs.length else (walkB bs b).1.set b false
theorem cf_le_len (l : List Bool) : cf l ≤ l.length := List.count_le_length
theorem withoutF_len (bs : List BlkR) (b : Nat) : (withoutF bs b).length = bs.length := by
  unfold withoutF
  split
  · simp [falses]
  · rw [List.length_set]
    unfold walkB
    rw [(walkF_ok bs bs.length 0 _).1.len]; simp [falses]
theorem getD_falses' {n b : Nat} (h : 0 < n) (hb : b ≠ 0) : ((falses n).set b true).getD 0 true = false := by
  rw [List.getD_eq_getElem?_getD, List.getElem?_set]
  rw [if_neg hb, List.getElem?_eq_getElem (by simpa [falses] using h)]; simp [falses]
theorem implWithout {H : Hp} {v : CV} {bs : List BlkR} {m : Int} {b : Nat} (hv : Blocks H v bs) (hin : InRange bs) (hb : bs.length ≤ BIG) (hbl : b < bs.length) (k : IV × Hp → Prop) :
    CM 82 [.agg [v, .i m], .c (.i b)] H k = k (.c (.sl H.length 0 0 bs.length), H ++ [⟨(withoutF bs b).map .b, 0, true, 1⟩]) := by
  refine det (cw82 ?_) k
  unfold vf82c
  have hlim : bs.length ≤ LIM := by simp only [BIG] at hb; simp only [LIM]; omega
  have h0 : 0 < bs.length := by omega
  by_cases hb0 : b = 0
  · subst hb0
    simp [(hv.app _).lenOf, hv.lenOf, hlim, falses_flat]
    rw [gcRet_row ⟨_, rfl⟩ (by omega) (o := ⟨List.replicate bs.length (.b false), 0, true, 1⟩) (by simp) rfl (by simp [flatC])]
    simp [withoutF, falses]
  · obtain ⟨X1, hX1⟩ : ∃ X1, H ++ [(⟨[v, .i m], 0, true, 2⟩ : Ob), ⟨((falses bs.length).set b true).map .b, 0, true, 1⟩] = X1 := ⟨_, rfl⟩
    have hl1 : X1.length = H.length + 2 := by rw [← hX1]; simp
    have hp1 : Pre H X1 := ⟨_, hX1.symm⟩
    have hb1 : rdOb X1 H.length 0 = some ⟨[v, .i m], 0, true, 2⟩ := by rw [← hX1]; simp
    have hs1 : rdOb X1 (H.length + 1) 0 = some ⟨((falses bs.length).set b true).map .b, 0, true, 1⟩ := by rw [← hX1]; simp
    have hX1' : H ++ [(⟨[v, .i m], 0, true, 2⟩ : Ob), ⟨(List.replicate bs.length (CV.b false)).set b (.b true), 0, true, 1⟩] = X1 := by rw [← hX1]; simp [falses]
    have hbi : ¬ ((b : Int) = 0) := by omega
    simp [(hv.app _).lenOf, hv.lenOf, hlim, falses_flat, hb0, idxOf, hbl, putAt_get, show b + 1 ≤ bs.length from hbl, hX1', rdN_ob hb1]
    have hw : ∀ id, IsOut CV.ns id → H.length ≤ id ∧ id ≠ H.length + 1 := fun id ⟨_, _, h⟩ => by cases h
    have hwalk := implWalk (m := m) hv hin hb bs.length (X := X1) (s := H.length + 1) (gs := 0) (b := 0) (w := .ns) (seen := (falses bs.length).set b true) (out := []) hp1 (by omega) hw hs1 (by simp [falses]) (.inl ⟨rfl, rfl⟩) h0 (getD_falses' h0 hb0) (Nat.le_trans (cf_le_len _) (by simp [falses])) (by have := cf_le_len ((falses bs.length).set b true); simp [falses] at this ⊢; omega)
    refine CM.mono hwalk ?_
    rintro _ ⟨w', X2, rfl, hW⟩
    have hseen := hW.seen
    change rdOb X2 (H.length + 1) 0 = some ⟨(walkB bs b).1.map .b, 0, true, 1⟩ at hseen
    have hpre := hW.pre
    have hlt := rdOb_lt hseen
    have hwl : (walkB bs b).1.length = bs.length := by unfold walkB; rw [(walkF_ok bs bs.length 0 _).1.len]; simp [falses]
    simp [idxOf, hbl, hseen, hwl, putAt_get, show b + 1 ≤ bs.length from hbl]
    rw [gcRet_row (hpre.set (by omega) _) (by omega) (o := ⟨((walkB bs b).1.map .b).set b (.b false), 0, true, 1⟩) (by rw [rdOb_set_self hlt]; simp) rfl (flat_set _ _ _)]
    simp [withoutF, hb0]
theorem specWithout {H : Hp} {v : CV} {bs : List BlkR} {m : Int} {b : Nat} (hv : Blocks H v bs) (hin : InRange bs) (hb : bs.length ≤ BIG) (hbl : b < bs.length) (k : IV × Hp → Prop) :
    CM 205 [.agg [v, .i m], .c (.i b)] H k = k (.c (.sl H.length 0 0 bs.length), H ++ [⟨(withoutF bs b).map .b, 0, true, 1⟩]) := by
  refine det (cw205 ?_) k
  unfold vf205c
  have hlim : bs.length ≤ LIM := by simp only [BIG] at hb; simp only [LIM]; omega
  have h0 : 0 < bs.length := by omega
  by_cases hb0 : b = 0
  · subst hb0
    simp [(hv.app _).lenOf, hv.lenOf, hlim, falses_flat]
    rw [gcRet_row ⟨_, rfl⟩ (by omega) (o := ⟨List.replicate bs.length (.b false), 0, true, 1⟩) (by simp) rfl (by simp [flatC])]
    simp [withoutF, falses]
  · obtain ⟨X1, hX1⟩ : ∃ X1, H ++ [(⟨[v, .i m], 0, true, 2⟩ : Ob), ⟨((falses bs.length).set b true).map .b, 0, true, 1⟩] = X1 := ⟨_, rfl⟩
    have hl1 : X1.length = H.length + 2 := by rw [← hX1]; simp
    have hp1 : Pre H X1 := ⟨_, hX1.symm⟩
    have hb1 : rdOb X1 H.length 0 = some ⟨[v, .i m], 0, true, 2⟩ := by rw [← hX1]; simp
    have hs1 : rdOb X1 (H.length + 1) 0 = some ⟨((falses bs.length).set b true).map .b, 0, true, 1⟩ := by rw [← hX1]; simp
    have hX1' : H ++ [(⟨[v, .i m], 0, true, 2⟩ : Ob), ⟨(List.replicate bs.length (CV.b false)).set b (.b true), 0, true, 1⟩] = X1 := by rw [← hX1]; simp [falses]
    have hbi : ¬ ((b : Int) = 0) := by omega
    simp [(hv.app _).lenOf, hv.lenOf, hlim, falses_flat, hb0, idxOf, hbl, putAt_get, show b + 1 ≤ bs.length from hbl, hX1', rdN_ob hb1]
    obtain ⟨X3, hX3⟩ : ∃ X3, X1 ++ [(⟨[], 0, true, 1⟩ : Ob)] = X3 := ⟨_, rfl⟩
    have hp3 : Pre H X3 := hp1.trans ⟨_, hX3.symm⟩
    have ho3 : rdOb X3 X1.length 0 = some ⟨[], 0, true, 1⟩ := by rw [← hX3]; simp
    have hs3 : rdOb X3 (H.length + 1) 0 = some ⟨((falses bs.length).set b true).map .b, 0, true, 1⟩ := by rw [← hX3]; exact rdOb_app _ hs1
    simp [hX3]
    have hw : ∀ id, IsOut (.sl X1.length 0 0 0) id → H.length ≤ id ∧ id ≠ H.length + 1 := fun id ⟨_, _, h⟩ => by cases h; omega
    have hwalk := specWalk (m := m) hv hin hb bs.length (X := X3) (s := H.length + 1) (gs := 0) (b := 0) (w := .sl X1.length 0 0 0) (seen := (falses bs.length).set b true) (out := []) hp3 (by omega) hw hs3 (by simp [falses]) (.inr ⟨_, _, rfl, ho3⟩) h0 (getD_falses' h0 hb0) (Nat.le_trans (cf_le_len _) (by simp [falses])) (by have := cf_le_len ((falses bs.length).set b true); simp [falses] at this ⊢; omega)
    refine CM.mono hwalk ?_
    rintro _ ⟨w', X2, rfl, hW⟩
    have hseen := hW.seen
    change rdOb X2 (H.length + 1) 0 = some ⟨(walkB bs b).1.map .b, 0, true, 1⟩ at hseen
    have hpre := hW.pre
    have hlt := rdOb_lt hseen
    have hwl : (walkB bs b).1.length = bs.length := by unfold walkB; rw [(walkF_ok bs bs.length 0 _).1.len]; simp [falses]
    simp [idxOf, hbl, hseen, hwl, putAt_get, show b + 1 ≤ bs.length from hbl]
    rw [gcRet_row (hpre.set (by omega) _) (by omega) (o := ⟨((walkB bs b).1.map .b).set b (.b false), 0, true, 1⟩) (by rw [rdOb_set_self hlt]; simp) rfl (flat_set _ _ _)]
    simp [withoutF, hb0]
end Go.Proofs.YtgdfgnppeekfjaaGreat.Vm
end
section
/- Who stands on every way to whom: both sides. No conditions. -/
namespace Go.Proofs.YtgdfgnppeekfjaaGreat.Vm
open Go.RowKit (wrap64)
set_option linter.unusedSimpArgs false
set_option linter.unusedVariables false
def domB (bs : List BlkR) (b a : Nat) : Bool := (seenF bs).getD a false && (seenF bs).getD b false && !(withoutF bs a).getD b false
def domTo (bs : List BlkR) (n b : Nat) : List Int := ((List.range n).filter (domB bs b)).map fun (a : Nat) => (a : Int)
def domF (bs : List BlkR) (b : Nat) : List Int := domTo bs bs.length b
theorem domTo_succ (bs : List BlkR) (n b : Nat) : domTo bs (n + 1) b = domTo bs n b ++ (if domB bs b n = true then [(n : Int)] else []) := by
  unfold domTo
  rw [List.range_succ, List.filter_append, List.map_append]
  congr 1
  cases h : domB bs b n <;> simp [h]
theorem domTo_le (bs : List BlkR) (n b : Nat) : (domTo bs n b).length ≤ n := by
  unfold domTo
  rw [List.length_map]
  exact Nat.le_trans (List.length_filter_le _ _) (by simp)
/-- Rows within a row, each one's own; what is kept. -/
structure DInv (K : Nat → Prop) (d n : Nat) (f : Nat → List Int) (Y : Hp) : Prop where
  kd : ∀ id, K id → id ≠ d ∧ id < Y.length
  row : ∃ cells, rdOb Y d 0 = some ⟨cells, 0, true, 1⟩ ∧ cells.length = n ∧ ∀ b, b < n → ∃ c, cells[b]? = some c ∧ OutR Y c (f b) ∧ (∀ id, IsOut c id → ¬ K id ∧ id ≠ d) ∧ ∀ b' c', b' < n → b' ≠ b → cells[b']? = some c' → ∀ id, IsOut c id → ¬ IsOut c' id
theorem DInv.app {K : Nat → Prop} {d n : Nat} {f : Nat → List Int} {Y : Hp} (h : DInv K d n f Y) (L : Hp) : DInv K d n f (Y ++ L) := by
  obtain ⟨h1, cells, h2, h3, h4⟩ := h
  refine ⟨fun id hi => ⟨(h1 id hi).1, by have := (h1 id hi).2; simp only [List.length_append]; omega⟩, cells, rdOb_app L h2, h3, fun b hb => ?_⟩
  obtain ⟨c, a1, a2, a3, a4⟩ := h4 b hb
  exact ⟨c, a1, a2.keep fun _ _ _ _ h => rdOb_app L h, a3, a4⟩
theorem DInv.also {K : Nat → Prop} {d n : Nat} {f : Nat → List Int} {Y L : Hp} (h : DInv K d n f Y) (hL : 0 < L.length) : DInv (fun id => K id ∨ id = Y.length) d n f (Y ++ L) := by
  obtain ⟨h1, cells, h2, h3, h4⟩ := h
  have hd := rdOb_lt h2
  refine ⟨fun id hi => ?_, cells, rdOb_app L h2, h3, fun b hb => ?_⟩
  · simp only [List.length_append]
    rcases hi with hi | rfl
    · exact ⟨(h1 id hi).1, by have := (h1 id hi).2; omega⟩
    · exact ⟨by omega, by omega⟩
  · obtain ⟨c, a1, a2, a3, a4⟩ := h4 b hb
    refine ⟨c, a1, a2.keep fun _ _ _ _ h => rdOb_app L h, fun id hi => ⟨?_, (a3 id hi).2⟩, a4⟩
    rintro (hk | rfl)
    · exact (a3 id hi).1 hk
    · exact absurd (a2.lt hi) (by omega)
theorem DInv.weak {K K' : Nat → Prop} {d n : Nat} {f : Nat → List Int} {Y : Hp} (h : DInv K d n f Y) (hk : ∀ id, K' id → K id) : DInv K' d n f Y := by
  obtain ⟨h1, cells, h2, h3, h4⟩ := h
  refine ⟨fun id hi => h1 id (hk id hi), cells, h2, h3, fun b hb => ?_⟩
  obtain ⟨c, a1, a2, a3, a4⟩ := h4 b hb
  exact ⟨c, a1, a2, fun id hi => ⟨fun k => (a3 id hi).1 (hk id k), (a3 id hi).2⟩, a4⟩
theorem DInv.push {K : Nat → Prop} {d n : Nat} {f : Nat → List Int} {Y : Hp} (h : DInv K d n f Y) {b : Nat} (hb : b < n) (x : Int) (hl : (f b).length + 1 ≤ LIM) (B : Hp) :
    ∃ c c' Z cells, (∃ o g n, c' = .sl o g 0 n) ∧ rdC Y d 0 b = some c ∧ doApp (Y ++ B) 1 c 1 [.i x] = some (.c c', Z) ∧ rdOb Z d 0 = some ⟨cells, 0, true, 1⟩ ∧ b + 1 ≤ cells.length ∧
      DInv K d n (fun j => if j = b then f b ++ [x] else f j) (Z.set d ⟨putAt cells b [c'], 0, true, 1⟩) ∧ ∀ id g ob, K id → rdOb Y id g = some ob → rdOb (Z.set d ⟨putAt cells b [c'], 0, true, 1⟩) id g = some ob := by
  obtain ⟨h1, cells, h2, h3, h4⟩ := h.app B
  have h1' := h.kd
  obtain ⟨_, cells0, h20, _, _⟩ := h
  have e0 : cells0 = cells := by
    have := rdOb_app B h20
    rw [h2] at this
    injection this with this; injection this with this; exact this.symm
  subst e0
  obtain ⟨c, a1, a2, a3, a4⟩ := h4 b hb
  obtain ⟨c', Z, p1, p2, p3, p4, p5, _⟩ := a2.push x hl
  have hdc : ¬ IsOut c d := fun hi => (a3 d hi).2 rfl
  have hdZ := p4 d 0 _ hdc h2
  have hdl := rdOb_lt hdZ
  have hbl : b < cells0.length := by omega
  have hc's : ∃ o g n, c' = .sl o g 0 n := by
    rcases p2 with ⟨_, h⟩ | ⟨o, g, h, _⟩
    · simp at h
    · exact ⟨o, g, _, h⟩
  refine ⟨c, c', Z, cells0, hc's, by rw [rdC_ob h20]; exact a1, p1, hdZ, by omega, ⟨fun id hi => ⟨(h1 id hi).1, by have := (h1 id hi).2; rw [List.length_set]; omega⟩, cells0.set b c', ?_, by simp [h3], fun j hj => ?_⟩, fun id g ob hk ho => ?_⟩
  · rw [rdOb_set_self hdl, putAt_get hbl]; simp
  · have hc'd : ∀ id, IsOut c' id → ¬ K id ∧ id ≠ d := by
      intro id hi
      rcases p5 id hi with h7 | h7
      · exact a3 id h7
      · exact ⟨fun hk => by have := (h1 id hk).2; omega, by have := rdOb_lt h2; omega⟩
    by_cases e : j = b
    · subst e
      refine ⟨c', by rw [List.getElem?_set]; simp [hbl], ?_, hc'd, fun b' c2 hb' hne hc2 id hi => ?_⟩
      · simp only [if_true]
        exact p2.keep fun id g ob hi ho => by rw [rdOb_set_ne (hc'd id hi).2]; exact ho
      · rw [List.getElem?_set, if_neg (by omega)] at hc2
        obtain ⟨c3, q1, q2, _, _⟩ := h4 b' hb'
        rw [hc2] at q1; injection q1 with q1; subst q1
        rcases p5 id hi with h7 | h7
        · exact a4 b' c2 hb' hne hc2 id h7
        · intro hi2
          have := q2.lt hi2
          omega
    · obtain ⟨cj, q1, q2, q3, q4⟩ := h4 j hj
      refine ⟨cj, by rw [List.getElem?_set, if_neg (by omega)]; exact q1, ?_, q3, fun b' c2 hb' hne hc2 id hi => ?_⟩
      · rw [if_neg e]
        exact q2.keep fun id g ob hi ho => by
          rw [rdOb_set_ne (q3 id hi).2]
          exact p4 id g ob (a4 j cj hj e q1 id |> fun h hc => (q4 b c hb (fun e' => e e'.symm) a1 id hi) hc) ho
      · rw [List.getElem?_set] at hc2
        split at hc2
        · rename_i e2
          subst e2
          injection hc2 with hc2
          subst hc2
          intro hi2
          rcases p5 id hi2 with h7 | h7
          · exact q4 b c hb hne a1 id hi h7
          · have := q2.lt hi
            omega
        · exact q4 b' c2 hb' hne hc2 id hi
  · rw [rdOb_set_ne (h1' id hk).1]
    exact p4 id g ob (fun hi => (a3 id hi).1 hk) (rdOb_app B ho)
def DomsRes (H : Hp) (bs : List BlkR) (r : IV × Hp) : Prop := ∃ d X' cells, r = (.c (.sl d 0 0 bs.length), X') ∧ Pre H X' ∧ rdOb X' d 0 = some ⟨cells, 0, true, 1⟩ ∧ cells.length = bs.length ∧ ∀ b, b < bs.length → ∃ c, cells[b]? = some c ∧ IsI X' c (domF bs b)
theorem OutR.isI {X : Hp} {w : CV} {out : List Int} (h : OutR X w out) : IsI X w out := by
  rcases h with ⟨rfl, rfl⟩ | ⟨o, g, rfl, ho⟩
  · exact IsI.ns _
  · exact IsI.mk ho rfl (by simp) (by rw [List.drop_zero, List.take_of_length_le (by simp)])
theorem DInv.res {K : Nat → Prop} {H Y : Hp} {d : Nat} {bs : List BlkR} (h : DInv K d bs.length (domF bs) Y) (hp : Pre H Y) (hd : H.length ≤ d) : DomsRes H bs (gcRet H (.c (.sl d 0 0 bs.length)) Y) := by
  obtain ⟨_, cells, h2, h3, h4⟩ := h
  by_cases hf : cells.all flatC = true
  · rw [gcRet_row hp hd h2 rfl hf]
    refine ⟨H.length, _, cells, rfl, ⟨_, rfl⟩, by simp, h3, fun b hb => ?_⟩
    obtain ⟨c, a1, a2, _, _⟩ := h4 b hb
    refine ⟨c, a1, ?_⟩
    rcases a2 with ⟨rfl, e⟩ | ⟨o, g, rfl, _⟩
    · rw [e]; exact IsI.ns _
    · have := List.all_eq_true.1 hf _ (List.mem_of_getElem? a1)
      cases this
  · have e : gcRet H (.c (.sl d 0 0 bs.length)) Y = (.c (.sl d 0 0 bs.length), Y) := by
      unfold gcRet
      rw [if_pos hp.take, if_neg (by simp [flatV, flatC])]
      simp only [hd, if_true, (rdOb_some.1 h2).1]
      rw [if_neg (by simp [hf])]
    rw [e]
    refine ⟨d, Y, cells, rfl, hp, h2, h3, fun b hb => ?_⟩
    obtain ⟨c, a1, a2, _, _⟩ := h4 b hb
    exact ⟨c, a1, a2.isI⟩
theorem DInv.congr {K : Nat → Prop} {d n : Nat} {f f' : Nat → List Int} {Y : Hp} (h : DInv K d n f Y) (hf : ∀ b, b < n → f b = f' b) : DInv K d n f' Y := by
  obtain ⟨h1, cells, h2, h3, h4⟩ := h
  refine ⟨h1, cells, h2, h3, fun b hb => ?_⟩
  obtain ⟨c, a1, a2, a3, a4⟩ := h4 b hb
  exact ⟨c, a1, by rw [← hf b hb]; exact a2, a3, a4⟩
theorem putAt_one (x y : CV) : putAt [x] 0 [y] = [y] := rfl
theorem ns_flat (n : Nat) : (List.replicate n [CV.ns]).flatten = List.replicate n .ns := by
  induction n with
  | zero => rfl
  | succ n ih => simp [List.replicate_succ, ih]
theorem DInv.start {Y : Hp} {n : Nat} : DInv (fun id => id < Y.length) Y.length n (fun _ => []) (Y ++ [⟨List.replicate n .ns, 0, true, 1⟩]) := by
  refine ⟨fun id hi => ⟨by omega, by simp; omega⟩, List.replicate n .ns, by simp, by simp, fun b hb => ⟨.ns, by simp [hb], .inl ⟨rfl, rfl⟩, (fun id ⟨_, _, h⟩ => by cases h), fun b' c' _ _ _ id ⟨_, _, h⟩ => by cases h⟩⟩
theorem implDoms {H : Hp} {v : CV} {bs : List BlkR} {m : Int} (hv : Blocks H v bs) (hb : bs.length ≤ BIG) (hsh : shapeB ⟨bs, m⟩ = true) : CM 23 [.agg [v, .i m]] H (DomsRes H bs) := by
  refine cw23 ?_
  unfold vf23c
  have hin : InRange bs := shape_range hsh
  have h0 : 0 < bs.length := shape_pos hsh
  have hlim : bs.length ≤ LIM := by simp only [BIG] at hb; simp only [LIM]; omega
  simp [implShape (f := ⟨bs, m⟩) (hv.app _) hb, hsh]
  refine (implOrder (hv.app _) hin hb h0).mono ?_
  rintro _ ⟨o, g, s, gs, X1, rfl, hp1, ho1, hs1, h3, hseen⟩
  have hpH : Pre H X1 := Pre.trans ⟨_, rfl⟩ hp1
  have hbox : rdOb X1 H.length 0 = some ⟨[v, .i m], 0, true, 2⟩ := box_get hp1
  have hv1 : Blocks X1 v bs := hv.pre hpH
  have hsl : (seenF bs).length = bs.length := (walk0_ok h0).1
  have hsx := rdOb_lt hseen
  have hbx := rdOb_lt hbox
  simp [rdC_ob hbox, hv1.lenOf, (hv1.app _).lenOf, hlim, ns_flat, rdC_ob (rdOb_app _ hbox)]
  obtain ⟨d, hd⟩ : ∃ d, d = X1.length := ⟨_, rfl⟩
  have hst := DInv.start (Y := X1) (n := bs.length)
  rw [← hd] at hst
  have hlow0 : Low d X1 (X1 ++ [⟨List.replicate bs.length .ns, 0, true, 1⟩]) := Low.app _ _ _
  obtain ⟨I, hI⟩ : ∃ I : Nat → St → Prop, ∀ i st, I i st ↔ (DInv (fun id => id < d) d bs.length (domTo bs i) st.h ∧ Low d X1 st.h ∧ Env.get st.e 1 = .c (.p H.length 0 0) ∧ Env.get st.e 4 = .c (.sl s gs 0 bs.length) ∧ Env.get st.e 5 = .c (.sl d 0 0 bs.length) ∧ Env.get st.e 24 = .c (.i bs.length) ∧ Env.get st.e 25 = .c (.i i)) := ⟨_, fun _ _ => Iff.rfl⟩
  rw [← hd]
  refine wp_for CM_mono bs.length I ((hI _ _).2 ⟨hst.congr fun b _ => by simp [domTo], hlow0, by simp⟩) ?_ ?_
  · rintro i ⟨e, Y⟩ hi hIs
    obtain ⟨hD, hL, h1, h4, h5, h24, h25⟩ := (hI _ _).1 hIs
    simp only at hD hL h1 h4 h5 h24 h25 ⊢
    have hboxY := hL _ _ _ (by omega) hbox
    have hvY : Blocks Y v bs := hv1.pre (hL.pre (Pre.refl _) (by omega))
    obtain ⟨Y1, hY1⟩ : ∃ Y1, Y ++ [(⟨(withoutF bs i).map .b, 0, true, 1⟩ : Ob)] = Y1 := ⟨_, rfl⟩
    have hD1 := hD.also (L := [(⟨(withoutF bs i).map .b, 0, true, 1⟩ : Ob)]) (by simp)
    have hw1 : rdOb Y1 Y.length 0 = some ⟨(withoutF bs i).map .b, 0, true, 1⟩ := by rw [← hY1]; simp
    have hL1 : Low d X1 Y1 := by rw [← hY1]; exact hL.trans (Low.app _ _ _)
    rw [hY1] at hD1
    have hwl := withoutF_len bs i
    unfold vf23b1
    simp [h1, h4, h5, h24, h25, hi, rdN_ob hboxY, implWithout (m := m) hvY hin hb hi, hY1]
    obtain ⟨J, hJ⟩ : ∃ J : Nat → St → Prop, ∀ j st, J j st ↔ (DInv (fun id => id < d ∨ id = Y.length) d bs.length (fun b => if b < j then domTo bs (i + 1) b else domTo bs i b) st.h ∧ Low d X1 st.h ∧ rdOb st.h Y.length 0 = some ⟨(withoutF bs i).map .b, 0, true, 1⟩ ∧
      Env.get st.e 1 = .c (.p H.length 0 0) ∧ Env.get st.e 4 = .c (.sl s gs 0 bs.length) ∧ Env.get st.e 5 = .c (.sl d 0 0 bs.length) ∧ Env.get st.e 6 = .c (.i i) ∧ Env.get st.e 7 = .c (.sl Y.length 0 0 bs.length) ∧ Env.get st.e 24 = .c (.i bs.length) ∧ Env.get st.e 25 = .c (.i i) ∧
      Env.get st.e 31 = .c (.sl s gs 0 bs.length) ∧ Env.get st.e 32 = .c (.i bs.length) ∧ Env.get st.e 33 = .c (.i j)) := ⟨_, fun _ _ => Iff.rfl⟩
    refine wp_for CM_mono bs.length J ((hJ _ _).2 ⟨hD1.congr fun b _ => by simp, hL1, hw1, by simp [h1, h4, h5, h24, h25]⟩) ?_ ?_
    · rintro j ⟨e', Z⟩ hj hJs
      obtain ⟨hE, hM, hw, h1, h4, h5, h6, h7, h24, h25, h31, h32, h33⟩ := (hJ _ _).1 hJs
      simp only at hE hM hw h1 h4 h5 h6 h7 h24 h25 h31 h32 h33 ⊢
      have hsZ := hM _ _ _ (by omega) hseen
      have gs1 : (seenF bs).getD i false = (seenF bs)[i]'(by omega) := getD_at (by omega) false
      have gs2 : (seenF bs).getD j false = (seenF bs)[j]'(by omega) := getD_at (by omega) false
      have gs3 : (withoutF bs i).getD j false = (withoutF bs i)[j]'(by omega) := getD_at (by omega) false
      have hdom : domB bs j i = ((seenF bs)[i]'(by omega) && (seenF bs)[j]'(by omega) && !(withoutF bs i)[j]'(by omega)) := by unfold domB; rw [gs1, gs2, gs3]
      have hsucc := domTo_succ bs i j
      have hfl : domB bs j i = false → DInv (fun id => id < d ∨ id = Y.length) d bs.length (fun b => if b < j + 1 then domTo bs (i + 1) b else domTo bs i b) Z := fun hf => hE.congr fun b _ => by
        rw [hf] at hsucc
        by_cases e1 : b < j
        · rw [if_pos e1, if_pos (by omega)]
        · by_cases e2 : b = j
          · subst e2; rw [if_neg e1, if_pos (by omega), hsucc]; simp
          · rw [if_neg e1, if_neg (by omega)]
      have hsj : j < (seenF bs).length := by omega
      have hsi : i < (seenF bs).length := by omega
      have hwj : j < (withoutF bs i).length := by omega
      unfold vf23b0
      have hju := up1 hj hb
      clear hju
      by_cases ha : (seenF bs)[j] = true
      · by_cases hb' : (withoutF bs i)[j] = true
        · have hf : domB bs j i = false := by rw [hdom, hb']; simp
          simp [h1, h4, h5, h6, h7, h24, h25, h31, h32, h33, hj, hi, idxOf, rdC_ob hsZ, rdC_ob hw, hsj, hsi, hwj, ha, hb', up1 hj hb]
          exact (hJ _ _).2 ⟨hfl hf, hM, hw, by simp [h1, h4, h5, h6, h7, h24, h25, h31, h32]⟩
        · have hb2 : (withoutF bs i)[j] = false := by simpa using hb'
          by_cases hc : (seenF bs)[i] = true
          · have ht : domB bs j i = true := by rw [hdom, hb2, hc, ha]; rfl
            obtain ⟨c, c', Z2, cells, ⟨oo, og, on, rfl⟩, p1, p2, p3, p4, p5, p6⟩ := hE.push hj (i : Int) (by rw [if_neg (Nat.lt_irrefl _)]; have := domTo_le bs i j; simp only [LIM]; simp only [BIG] at hb; omega) [⟨[.i (i : Int)], 0, true, 1⟩]
            simp [h1, h4, h5, h6, h7, h24, h25, h31, h32, h33, hj, hi, idxOf, rdC_ob hsZ, rdC_ob hw, hsj, hsi, hwj, ha, hb2, hc, up1 hj hb, p1, srcOf, putAt_one, p2, p3, p4]
            rw [ht] at hsucc
            refine (hJ _ _).2 ⟨p5.congr fun b _ => ?_, fun id g ob hid ho => p6 id g ob (.inl hid) (hM id g ob hid ho), p6 _ _ _ (.inr rfl) hw, by simp [h1, h4, h5, h6, h7, h24, h25, h31, h32]⟩
            by_cases e2 : b = j
            · subst e2; rw [if_pos rfl, if_neg (Nat.lt_irrefl _), if_pos (by omega), hsucc]; simp
            · rw [if_neg e2]
              by_cases e1 : b < j
              · rw [if_pos e1, if_pos (by omega)]
              · rw [if_neg e1, if_neg (by omega)]
          · have hc2 : (seenF bs)[i] = false := by simpa using hc
            have hf : domB bs j i = false := by rw [hdom, hc2]; simp
            simp [h1, h4, h5, h6, h7, h24, h25, h31, h32, h33, hj, hi, idxOf, rdC_ob hsZ, rdC_ob hw, hsj, hsi, hwj, ha, hb2, hc2, up1 hj hb]
            exact (hJ _ _).2 ⟨hfl hf, hM, hw, by simp [h1, h4, h5, h6, h7, h24, h25, h31, h32]⟩
      · have ha2 : (seenF bs)[j] = false := by simpa using ha
        have hf : domB bs j i = false := by rw [hdom, ha2]; simp
        simp [h1, h4, h5, h6, h7, h24, h25, h31, h32, h33, hj, hi, idxOf, rdC_ob hsZ, rdC_ob hw, hsj, hsi, hwj, ha2, up1 hj hb]
        exact (hJ _ _).2 ⟨hfl hf, hM, hw, by simp [h1, h4, h5, h6, h7, h24, h25, h31, h32]⟩
    · rintro ⟨e', Z⟩ hJs
      obtain ⟨hE, hM, hw, h1, h4, h5, h6, h7, h24, h25, h31, h32, h33⟩ := (hJ _ _).1 hJs
      simp only at hE hM hw h1 h4 h5 h6 h7 h24 h25 h31 h32 h33 ⊢
      unfold vf23b0
      simp [h1, h4, h5, h6, h7, h24, h25, h31, h32, h33, up1 hi hb]
      exact (hI _ _).2 ⟨(hE.weak fun id h => .inl h).congr fun b hb => by rw [if_pos hb], hM, by simp [h1, h4, h5, h24]⟩
  · rintro ⟨e, Y⟩ hIs
    obtain ⟨hD, hL, h1, h4, h5, h24, h25⟩ := (hI _ _).1 hIs
    simp only at hD hL h1 h4 h5 h24 h25 ⊢
    unfold vf23b1
    simp [h1, h4, h5, h24, h25]
    exact DInv.res hD (hL.pre hpH (by omega)) (by omega)
end Go.Proofs.YtgdfgnppeekfjaaGreat.Vm
end
section
/- Who stands on every way to whom: the other side; the law's two sides. No conditions. -/
namespace Go.Proofs.YtgdfgnppeekfjaaGreat.Vm
open Go.RowKit (wrap64)
set_option linter.unusedSimpArgs false
set_option linter.unusedVariables false
def KeepK (d s : Nat) (X Z : Hp) : Prop := ∀ id g ob, (id < d ∨ id = s) → rdOb X id g = some ob → rdOb Z id g = some ob
theorem KeepK.pre {H X Z : Hp} {d s : Nat} (h : KeepK d s X Z) (hp : Pre H X) (hl : H.length ≤ d) : Pre H Z := Low.pre (lo := d) (fun id g o hl ho => h id g o (.inl hl) ho) hp hl
theorem specDoms {H : Hp} {v : CV} {bs : List BlkR} {m : Int} (hv : Blocks H v bs) (hin : InRange bs) (hb : bs.length ≤ BIG) (h0 : 0 < bs.length) : CM 158 [.agg [v, .i m]] H (DomsRes H bs) := by
  refine cw158 ?_
  unfold vf158c
  have hlim : bs.length ≤ LIM := by simp only [BIG] at hb; simp only [LIM]; omega
  obtain ⟨X0, hX0⟩ : ∃ X0, H ++ [(⟨[v, .i m], 0, true, 2⟩ : Ob), ⟨List.replicate bs.length .ns, 0, true, 1⟩, ⟨List.replicate bs.length (.b false), 0, true, 1⟩, ⟨[], 0, true, 1⟩] = X0 := ⟨_, rfl⟩
  have hl0 : X0.length = H.length + 4 := by rw [← hX0]; simp
  have hp0 : Pre H X0 := ⟨_, hX0.symm⟩
  have hbox0 : rdOb X0 H.length 0 = some ⟨[v, .i m], 0, true, 2⟩ := by rw [← hX0]; simp
  have hd0 : rdOb X0 (H.length + 1) 0 = some ⟨List.replicate bs.length .ns, 0, true, 1⟩ := by rw [← hX0]; simp
  have hs0 : rdOb X0 (H.length + 2) 0 = some ⟨(List.replicate bs.length false).map .b, 0, true, 1⟩ := by rw [← hX0]; simp
  have ho0 : rdOb X0 (H.length + 3) 0 = some ⟨[], 0, true, 1⟩ := by rw [← hX0]; simp
  simp [(hv.app _).lenOf, hv.lenOf, hlim, ns_flat, falses_flat, hX0]
  have hw : ∀ id, IsOut (.sl (H.length + 3) 0 0 0) id → H.length ≤ id ∧ id ≠ H.length + 2 := fun id ⟨_, _, h⟩ => by cases h; omega
  have hwalk := specWalk (m := m) hv hin hb bs.length (X := X0) (s := H.length + 2) (gs := 0) (b := 0) (w := .sl (H.length + 3) 0 0 0) (seen := List.replicate bs.length false) (out := []) hp0 (by omega) hw hs0 (by simp) (.inr ⟨_, _, rfl, ho0⟩) h0 (getD_falses h0) (by rw [cf_falses]; exact Nat.le_refl _) (by rw [cf_falses]; simpa using hb)
  refine CM.mono hwalk ?_
  rintro _ ⟨w', X1, rfl, hW⟩
  have hseen := hW.seen
  change rdOb X1 (H.length + 2) 0 = some ⟨(seenF bs).map .b, 0, true, 1⟩ at hseen
  have hpH : Pre H X1 := hW.pre
  have hno : ∀ id, id ≠ H.length + 3 → ¬ IsOut (.sl (H.length + 3) 0 0 0) id := fun id hne ⟨_, _, h⟩ => by cases h; exact hne rfl
  have hbox : rdOb X1 H.length 0 = some ⟨[v, .i m], 0, true, 2⟩ := hW.keep _ _ _ (by omega) (hno _ (by omega)) hbox0
  have hdX : rdOb X1 (H.length + 1) 0 = some ⟨List.replicate bs.length .ns, 0, true, 1⟩ := hW.keep _ _ _ (by omega) (hno _ (by omega)) hd0
  have hlX := hW.len
  have hv1 : Blocks X1 v bs := hv.pre hpH
  have hsl : (seenF bs).length = bs.length := (walk0_ok h0).1
  obtain ⟨d, hd⟩ : ∃ d, d = H.length + 1 := ⟨_, rfl⟩
  obtain ⟨s, hs⟩ : ∃ s, s = H.length + 2 := ⟨_, rfl⟩
  rw [← hs] at hseen
  rw [← hd] at hdX
  have hst : DInv (fun id => id < d ∨ id = s) d bs.length (fun _ => []) X1 := by
    refine ⟨fun id hi => ⟨by omega, by omega⟩, List.replicate bs.length .ns, hdX, by simp, fun b hb => ⟨.ns, by simp [hb], .inl ⟨rfl, rfl⟩, (fun id ⟨_, _, h⟩ => by cases h), fun b' c' _ _ _ id ⟨_, _, h⟩ => by cases h⟩⟩
  obtain ⟨I, hI⟩ : ∃ I : Nat → St → Prop, ∀ i st, I i st ↔ (DInv (fun id => id < d ∨ id = s) d bs.length (domTo bs i) st.h ∧ KeepK d s X1 st.h ∧ Env.get st.e 1 = .c (.p H.length 0 0) ∧ Env.get st.e 3 = .c (.sl d 0 0 bs.length) ∧ Env.get st.e 4 = .c (.sl s 0 0 bs.length) ∧ Env.get st.e 5 = .c (.i i)) := ⟨_, fun _ _ => Iff.rfl⟩
  simp [← hd, ← hs]
  refine wp_for CM_mono bs.length I ((hI _ _).2 ⟨hst.congr fun b _ => by simp [domTo], fun _ _ _ _ h => h, by simp⟩) ?_ ?_
  · rintro i ⟨e, Y⟩ hi hIs
    obtain ⟨hD, hL, h1, h3, h4, h5⟩ := (hI _ _).1 hIs
    simp only at hD hL h1 h3 h4 h5 ⊢
    have hboxY := hL _ _ _ (.inl (by omega)) hbox
    have hvY : Blocks Y v bs := hv.pre (hL.pre hpH (by omega))
    obtain ⟨Y1, hY1⟩ : ∃ Y1, Y ++ [(⟨(withoutF bs i).map .b, 0, true, 1⟩ : Ob)] = Y1 := ⟨_, rfl⟩
    have hD1 := hD.also (L := [(⟨(withoutF bs i).map .b, 0, true, 1⟩ : Ob)]) (by simp)
    have hw1 : rdOb Y1 Y.length 0 = some ⟨(withoutF bs i).map .b, 0, true, 1⟩ := by rw [← hY1]; simp
    have hL1 : KeepK d s X1 Y1 := by rw [← hY1]; exact fun id g ob a b => rdOb_app _ (hL id g ob a b)
    rw [hY1] at hD1
    have hwl := withoutF_len bs i
    unfold vf158b1
    simp [h1, h3, h4, h5, hi, rdN_ob hboxY, rdC_ob hboxY, hvY.lenOf, specWithout (m := m) hvY hin hb hi, hY1]
    obtain ⟨J, hJ⟩ : ∃ J : Nat → St → Prop, ∀ j st, J j st ↔ (DInv (fun id => (id < d ∨ id = s) ∨ id = Y.length) d bs.length (fun b => if b < j then domTo bs (i + 1) b else domTo bs i b) st.h ∧ KeepK d s X1 st.h ∧ rdOb st.h Y.length 0 = some ⟨(withoutF bs i).map .b, 0, true, 1⟩ ∧
      Env.get st.e 1 = .c (.p H.length 0 0) ∧ Env.get st.e 3 = .c (.sl d 0 0 bs.length) ∧ Env.get st.e 4 = .c (.sl s 0 0 bs.length) ∧ Env.get st.e 5 = .c (.i i) ∧ Env.get st.e 6 = .c (.sl Y.length 0 0 bs.length) ∧ Env.get st.e 7 = .c (.i j)) := ⟨_, fun _ _ => Iff.rfl⟩
    refine wp_for CM_mono bs.length J ((hJ _ _).2 ⟨hD1.congr fun b _ => by simp, hL1, hw1, by simp [h1, h3, h4, h5]⟩) ?_ ?_
    · rintro j ⟨e', Z⟩ hj hJs
      obtain ⟨hE, hM, hw, h1, h3, h4, h5, h6, h7⟩ := (hJ _ _).1 hJs
      simp only at hE hM hw h1 h3 h4 h5 h6 h7 ⊢
      have hboxZ := hM _ _ _ (.inl (by omega)) hbox
      have hvZ : Blocks Z v bs := hv.pre (hM.pre hpH (by omega))
      have hsZ := hM _ _ _ (.inr rfl) hseen
      have gs1 : (seenF bs).getD i false = (seenF bs)[i]'(by omega) := getD_at (by omega) false
      have gs2 : (seenF bs).getD j false = (seenF bs)[j]'(by omega) := getD_at (by omega) false
      have gs3 : (withoutF bs i).getD j false = (withoutF bs i)[j]'(by omega) := getD_at (by omega) false
      have hdom : domB bs j i = ((seenF bs)[i]'(by omega) && (seenF bs)[j]'(by omega) && !(withoutF bs i)[j]'(by omega)) := by unfold domB; rw [gs1, gs2, gs3]
      have hsucc := domTo_succ bs i j
      have hfl : domB bs j i = false → DInv (fun id => (id < d ∨ id = s) ∨ id = Y.length) d bs.length (fun b => if b < j + 1 then domTo bs (i + 1) b else domTo bs i b) Z := fun hf => hE.congr fun b _ => by
        rw [hf] at hsucc
        by_cases e1 : b < j
        · rw [if_pos e1, if_pos (by omega)]
        · by_cases e2 : b = j
          · subst e2; rw [if_neg e1, if_pos (by omega), hsucc]; simp
          · rw [if_neg e1, if_neg (by omega)]
      have hsj : j < (seenF bs).length := by omega
      have hsi : i < (seenF bs).length := by omega
      have hwj : j < (withoutF bs i).length := by omega
      unfold vf158b0
      by_cases hc : (seenF bs)[i] = true
      · by_cases ha : (seenF bs)[j] = true
        · by_cases hb' : (withoutF bs i)[j] = true
          · have hf : domB bs j i = false := by rw [hdom, hb']; simp
            simp [h1, h3, h4, h5, h6, h7, rdC_ob hboxZ, hvZ.lenOf, hj, hi, idxOf, rdC_ob hsZ, rdC_ob hw, hsj, hsi, hwj, ha, hb', hc, up1 hj hb]
            exact (hJ _ _).2 ⟨hfl hf, hM, hw, by simp [h1, h3, h4, h5, h6]⟩
          · have hb2 : (withoutF bs i)[j] = false := by simpa using hb'
            have ht : domB bs j i = true := by rw [hdom, hb2, hc, ha]; rfl
            obtain ⟨c, c', Z2, cells, ⟨oo, og, on, rfl⟩, p1, p2, p3, p4, p5, p6⟩ := hE.push hj (i : Int) (by rw [if_neg (Nat.lt_irrefl _)]; have := domTo_le bs i j; simp only [LIM]; simp only [BIG] at hb; omega) [⟨[.i (i : Int)], 0, true, 1⟩]
            simp [h1, h3, h4, h5, h6, h7, rdC_ob hboxZ, hvZ.lenOf, hj, hi, idxOf, rdC_ob hsZ, rdC_ob hw, hsj, hsi, hwj, ha, hb2, hc, up1 hj hb, p1, srcOf, putAt_one, p2, p3, p4]
            rw [ht] at hsucc
            refine (hJ _ _).2 ⟨p5.congr fun b _ => ?_, fun id g ob hid ho => p6 id g ob (.inl hid) (hM id g ob hid ho), p6 _ _ _ (.inr rfl) hw, by simp [h1, h3, h4, h5, h6]⟩
            by_cases e2 : b = j
            · subst e2; rw [if_pos rfl, if_neg (Nat.lt_irrefl _), if_pos (by omega), hsucc]; simp
            · rw [if_neg e2]
              by_cases e1 : b < j
              · rw [if_pos e1, if_pos (by omega)]
              · rw [if_neg e1, if_neg (by omega)]
        · have ha2 : (seenF bs)[j] = false := by simpa using ha
          have hf : domB bs j i = false := by rw [hdom, ha2]; simp
          simp [h1, h3, h4, h5, h6, h7, rdC_ob hboxZ, hvZ.lenOf, hj, hi, idxOf, rdC_ob hsZ, rdC_ob hw, hsj, hsi, hwj, ha2, hc, up1 hj hb]
          exact (hJ _ _).2 ⟨hfl hf, hM, hw, by simp [h1, h3, h4, h5, h6]⟩
      · have hc2 : (seenF bs)[i] = false := by simpa using hc
        have hf : domB bs j i = false := by rw [hdom, hc2]; simp
        simp [h1, h3, h4, h5, h6, h7, rdC_ob hboxZ, hvZ.lenOf, hj, hi, idxOf, rdC_ob hsZ, rdC_ob hw, hsj, hsi, hwj, hc2, up1 hj hb]
        exact (hJ _ _).2 ⟨hfl hf, hM, hw, by simp [h1, h3, h4, h5, h6]⟩
    · rintro ⟨e', Z⟩ hJs
      obtain ⟨hE, hM, hw, h1, h3, h4, h5, h6, h7⟩ := (hJ _ _).1 hJs
      simp only at hE hM hw h1 h3 h4 h5 h6 h7 ⊢
      have hboxZ := hM _ _ _ (.inl (by omega)) hbox
      have hvZ : Blocks Z v bs := hv.pre (hM.pre hpH (by omega))
      unfold vf158b0
      simp [h1, h3, h4, h5, h6, h7, rdC_ob hboxZ, hvZ.lenOf, up1 hi hb]
      exact (hI _ _).2 ⟨(hE.weak fun id h => .inl h).congr fun b hb => by rw [if_pos hb], hM, by simp [h1, h3, h4]⟩
  · rintro ⟨e, Y⟩ hIs
    obtain ⟨hD, hL, h1, h3, h4, h5⟩ := (hI _ _).1 hIs
    simp only at hD hL h1 h3 h4 h5 ⊢
    have hboxY := hL _ _ _ (.inl (by omega)) hbox
    have hvY : Blocks Y v bs := hv.pre (hL.pre hpH (by omega))
    unfold vf158b1
    simp [h1, h3, h4, h5, rdC_ob hboxY, hvY.lenOf]
    exact DInv.res hD (hL.pre hpH (by omega)) (by omega)
theorem domF_le {bs : List BlkR} (hb : bs.length ≤ BIG) (b : Nat) : (domF bs b).length ≤ BIG := Nat.le_trans (domTo_le bs bs.length b) hb
theorem among_call {X : Hp} {d : Nat} {cells : List CV} {bs : List BlkR} (h1 : rdOb X d 0 = some ⟨cells, 0, true, 1⟩) (h2 : cells.length = bs.length) (h3 : ∀ b, b < bs.length → ∃ c, cells[b]? = some c ∧ IsI X c (domF bs b)) (hb : bs.length ≤ BIG) (a b : Int) (k : IV × Hp → Prop) :
    CM 103 [.c (.sl d 0 0 bs.length), .c (.i a), .c (.i b)] X k = k (.c (.b (inB b 0 ((bs.length : Int) - 1) && hasI (domF bs b.toNat) a)), X) := by
  refine det (cw103 ?_) k
  unfold vf103c
  have hw : -9223372036854775807 ≤ (bs.length : Int) ∧ (bs.length : Int) ≤ 9223372036854775807 := bigI hb
  cases hi : inB b 0 ((bs.length : Int) - 1) with
  | false => simp [implIn, wn1 hw, hi]
  | true =>
    obtain ⟨n, rfl, hn⟩ : ∃ n : Nat, b = n ∧ n < bs.length := by
      have := of_decide_eq_true hi
      exact ⟨b.toNat, by omega, by omega⟩
    obtain ⟨c, q1, q2⟩ := h3 n hn
    simp [implIn, wn1 hw, hi, idxOf, hn, rdC_ob h1, q1, containsInt q2 (domF_le hb n)]
end Go.Proofs.YtgdfgnppeekfjaaGreat.Vm
end
section
/- A walk sees just what can be reached. Plain. No conditions. -/
namespace Go.Proofs.YtgdfgnppeekfjaaGreat.Vm
set_option linter.unusedSimpArgs false
set_option linter.unusedVariables false
/-- Reached from a block, past none that is barred. -/
inductive Rch (bs : List BlkR) (bar : Nat → Prop) (s : Nat) : Nat → Prop
  | start : ¬ bar s → Rch bs bar s s
  | step {j k : Nat} : Rch bs bar s j → (k : Int) ∈ succsAt bs j → ¬ bar k → Rch bs bar s k
theorem Rch.free {bs : List BlkR} {bar : Nat → Prop} {s j : Nat} (h : Rch bs bar s j) : ¬ bar j := by
  cases h <;> assumption
theorem Rch.mono {bs : List BlkR} {bar bar' : Nat → Prop} {s j : Nat} (h : Rch bs bar s j) (hb : ∀ k, bar' k → bar k) : Rch bs bar' s j := by
  induction h with
  | start h => exact .start fun h' => h (hb _ h')
  | step _ hs hk ih => exact .step ih hs fun h' => hk (hb _ h')
def On (l : List Bool) (j : Nat) : Prop := l.getD j true = true
/-- What a walk does: what it sees anew it has reached, and of that it sees all that follows. -/
structure Dfs (bs : List BlkR) (p r : WSt) : Prop where
  closed : ∀ k, On r.1 k → ¬ On p.1 k → ∀ s ∈ succsAt bs k, On r.1 s.toNat
theorem Dfs.refl (bs : List BlkR) (p : WSt) : Dfs bs p p := ⟨fun k h1 h2 => absurd h1 h2⟩
theorem Dfs.trans {bs : List BlkR} {p q r : WSt} (hm : WOk q r) (h : Dfs bs p q) (k : Dfs bs q r) : Dfs bs p r := by
  refine ⟨fun j h1 h2 s hs => ?_⟩
  by_cases hq : On q.1 j
  · exact hm.mono _ (h.closed j hq h2 s hs)
  · exact k.closed j h1 hq s hs
theorem fold_dfs {bs : List BlkR} {n : Nat} (ih : ∀ b p, p.1.getD b true = false → cf p.1 ≤ n → Dfs bs p (walkF bs n b p) ∧ On (walkF bs n b p).1 b) :
    ∀ (ks : List Int) (q : WSt), cf q.1 ≤ n → Dfs bs q (ks.foldl (wstepWith (walkF bs n)) q) ∧ ∀ s ∈ ks, On (ks.foldl (wstepWith (walkF bs n)) q).1 s.toNat := by
  intro ks
  induction ks with
  | nil => intro q _; exact ⟨Dfs.refl _ _, fun s hs => by cases hs⟩
  | cons k r ihk =>
    intro q hq
    simp only [List.foldl_cons]
    obtain ⟨ok, _⟩ := wfold_ok bs n r (wstepWith (walkF bs n) q k)
    have h1 : WOk q (wstepWith (walkF bs n) q k) ∧ Dfs bs q (wstepWith (walkF bs n) q k) ∧ On (wstepWith (walkF bs n) q k).1 k.toNat := by
      unfold wstepWith
      split
      · rename_i h; exact ⟨WOk.refl _, Dfs.refl _ _, h⟩
      · rename_i h
        obtain ⟨a, b⟩ := ih k.toNat q (by simpa using h) hq
        exact ⟨(walkF_ok bs n _ q).1, a, b⟩
    obtain ⟨a, b⟩ := ihk (wstepWith (walkF bs n) q k) (Nat.le_trans h1.1.le hq)
    refine ⟨Dfs.trans ok h1.2.1 a, fun s hs => ?_⟩
    rcases List.mem_cons.1 hs with rfl | hs
    · exact ok.mono _ h1.2.2
    · exact b s hs
theorem on_set {l : List Bool} {b j : Nat} (hb : b < l.length) : On (l.set b true) j ↔ On l j ∨ j = b := by
  unfold On
  rw [List.getD_eq_getElem?_getD, List.getElem?_set]
  by_cases h : b = j
  · subst h; simp [hb]
  · have h2 : ¬ j = b := fun e => h e.symm
    simp [h, h2]
theorem walkF_dfs (bs : List BlkR) : ∀ n b p, p.1.getD b true = false → cf p.1 ≤ n → Dfs bs p (walkF bs n b p) ∧ On (walkF bs n b p).1 b := by
  intro n
  induction n with
  | zero =>
    intro b p hb hc
    have := cf_set hb
    omega
  | succ n ih =>
    intro b p hb hc
    have hbl := unseen_lt hb
    have hcs := cf_set hb
    obtain ⟨⟨h1⟩, h2⟩ := fold_dfs ih (succsAt bs b) (p.1.set b true, p.2) (by simp only; omega)
    obtain ⟨ok, _⟩ := wfold_ok bs n (succsAt bs b) (p.1.set b true, p.2)
    have hon : On (walkF bs (n + 1) b p).1 b := ok.mono _ ((on_set hbl).2 (.inr rfl))
    refine ⟨⟨fun k hk hn s hs => ?_⟩, hon⟩
    by_cases e : k = b
    · subst e; exact h2 s hs
    · exact h1 k hk (fun h => by
        rcases (on_set hbl).1 h with h | h
        · exact hn h
        · exact e h) s hs
theorem walkF_only (bs : List BlkR) (hin : InRange bs) : ∀ n b p (Q : Nat → Prop), Q b → (∀ j, Q j → ∀ s ∈ succsAt bs j, ¬ On p.1 s.toNat → Q s.toNat) → ∀ j, On (walkF bs n b p).1 j → On p.1 j ∨ Q j := by
  intro n
  induction n with
  | zero => intro b p Q _ _ j hj; exact .inl hj
  | succ n ih =>
    intro b p Q hQ hQs j hj
    have hf : ∀ (ks : List Int) (q : WSt), (∀ s ∈ ks, s ∈ succsAt bs b) → (∀ j, On p.1 j → On q.1 j) → (∀ j, On q.1 j → On p.1 j ∨ Q j) → ∀ j, On (ks.foldl (wstepWith (walkF bs n)) q).1 j → On p.1 j ∨ Q j := by
      intro ks
      induction ks with
      | nil => intro q _ _ h2 j hj; exact h2 j hj
      | cons k r ihk =>
        intro q hks hmn h2 j hj
        simp only [List.foldl_cons] at hj
        refine ihk (wstepWith (walkF bs n) q k) (fun s hs => hks s (by simp [hs])) (fun j hj => ?_) ?_ j hj
        · unfold wstepWith
          split
          · exact hmn j hj
          · exact (walkF_ok bs n _ q).1.mono _ (hmn j hj)
        · intro j hj
          unfold wstepWith at hj
          split at hj
          · exact h2 j hj
          · rename_i hun
            rcases ih k.toNat q Q (hQs b hQ k (hks k (by simp)) fun h => hun (hmn _ h)) (fun j hj s hs hn => hQs j hj s hs fun h => hn (hmn _ h)) j hj with h | h
            · exact h2 j h
            · exact .inr h
    by_cases hbl : b < p.1.length
    · exact hf (succsAt bs b) (p.1.set b true, p.2) (fun s hs => hs) (fun j hj => (on_set hbl).2 (.inl hj)) (fun j hj => by
        rcases (on_set hbl).1 hj with h | h
        · exact .inl h
        · subst h; exact .inr hQ) j hj
    · have e : p.1.set b true = p.1 := List.set_eq_of_length_le (by omega)
      exact hf (succsAt bs b) (p.1.set b true, p.2) (fun s hs => hs) (fun j hj => by rw [e]; exact hj) (fun j hj => by rw [e] at hj; exact .inl hj) j hj
theorem walkF_rch {bs : List BlkR} (hin : InRange bs) {n b : Nat} {p : WSt} (hb : p.1.getD b true = false) (hc : cf p.1 ≤ n) (hl : p.1.length = bs.length) (j : Nat) (hj : j < bs.length) :
    On (walkF bs n b p).1 j ↔ On p.1 j ∨ Rch bs (On p.1) b j := by
  have hnb : ¬ On p.1 b := by unfold On; rw [hb]; simp
  constructor
  · intro h
    refine walkF_only bs hin n b p (Rch bs (On p.1) b) (.start hnb) (fun j hj s hs hn => ?_) j h
    obtain ⟨h0, h1⟩ := hin j s hs
    exact .step hj (by rw [Int.toNat_of_nonneg h0]; exact hs) hn
  · obtain ⟨⟨h1⟩, h2⟩ := walkF_dfs bs n b p hb hc
    rintro (h | h)
    · exact (walkF_ok bs n b p).1.mono _ h
    · clear hj
      induction h with
      | start _ => exact h2
      | step hr hs hk ih =>
        have := h1 _ ih hr.free _ hs
        simpa using this
theorem rch_trans {bs : List BlkR} {s x a b : Nat} (h : Rch bs (· = x) s b) : Rch bs (· = a) s b ∨ Rch bs (· = x) s a := by
  induction h with
  | start hs =>
    by_cases e : s = a
    · subst e; exact .inr (.start hs)
    · exact .inl (.start e)
  | @step j k hj hs hk ih =>
    rcases ih with ih | ih
    · by_cases e : k = a
      · subst e; exact .inr (.step hj hs hk)
      · exact .inl (.step ih hs e)
    · exact .inr ih
end Go.Proofs.YtgdfgnppeekfjaaGreat.Vm
end
section
/- Who stands just above. Plain. No conditions. -/
namespace Go.Proofs.YtgdfgnppeekfjaaGreat.Vm
set_option linter.unusedSimpArgs false
set_option linter.unusedVariables false
theorem on_falses {n j : Nat} (hj : j < n) : ¬ On (falses n) j := by
  unfold On falses
  rw [List.getD_eq_getElem?_getD, List.getElem?_eq_getElem (by simpa using hj)]; simp
theorem getD_dd {l : List Bool} {j : Nat} (hj : j < l.length) : l.getD j false = true ↔ On l j := by
  unfold On
  rw [getD_at hj, getD_at hj]
theorem seen_rch {bs : List BlkR} (hin : InRange bs) {j : Nat} (hj : j < bs.length) : (seenF bs).getD j false = true ↔ Rch bs (fun _ => False) 0 j := by
  have h0 : 0 < bs.length := by omega
  rw [getD_dd (by rw [show (seenF bs).length = bs.length from (walk0_ok h0).1]; exact hj)]
  have h := walkF_rch hin (n := bs.length) (b := 0) (p := (List.replicate bs.length false, [])) (getD_falses h0) (by rw [cf_falses]; exact Nat.le_refl _) (by simp) j hj
  unfold seenF walk0
  rw [h]
  clear h
  have hb : ∀ k, k < bs.length → ¬ On (List.replicate bs.length false) k := fun k hk => on_falses hk
  have hr : ∀ {k}, Rch bs (On (List.replicate bs.length false)) 0 k → Rch bs (fun _ => False) 0 k := fun hk => hk.mono fun _ h => h.elim
  constructor
  · rintro (h | h)
    · exact absurd h (hb j hj)
    · exact hr h
  · intro h
    refine .inr ?_
    clear hj
    induction h with
    | start _ => exact .start (hb 0 h0)
    | @step a k _ hs _ ih => exact .step ih hs (hb k (by have := (hin a k hs).2; omega))
theorem rch_zero {bs : List BlkR} {j : Nat} (h : Rch bs (· = 0) 0 j) : False := by
  induction h with
  | start h => exact h rfl
  | step _ _ _ ih => exact ih
theorem without_rch {bs : List BlkR} (hin : InRange bs) {a b : Nat} (ha : a < bs.length) (hb : b < bs.length) : (withoutF bs a).getD b false = true ↔ Rch bs (· = a) 0 b := by
  have h0 : 0 < bs.length := by omega
  unfold withoutF
  by_cases e : a = 0
  · rw [if_pos e]
    subst e
    rw [getD_dd (by simpa [falses] using hb)]
    exact ⟨fun h => absurd h (on_falses hb), fun h => (rch_zero h).elim⟩
  · rw [if_neg e]
    have hwl : (walkB bs a).1.length = bs.length := by unfold walkB; rw [(walkF_ok bs bs.length 0 _).1.len]; simp [falses]
    have hr := walkF_rch hin (n := bs.length) (b := 0) (p := ((falses bs.length).set a true, [])) (getD_falses' h0 e) (Nat.le_trans (cf_le_len _) (by simp [falses])) (by simp [falses])
    have hon : ∀ k, k < bs.length → (On ((falses bs.length).set a true) k ↔ k = a) := fun k hk => by
      rw [on_set (by simpa [falses] using ha)]
      exact ⟨fun h => h.resolve_left (on_falses hk), .inr⟩
    have hto : ∀ {k}, Rch bs (On ((falses bs.length).set a true)) 0 k ↔ Rch bs (· = a) 0 k := by
      intro k
      constructor
      · intro h
        exact h.mono fun j hj => by subst hj; exact (hon j ha).2 rfl
      · intro h
        induction h with
        | start h => exact .start fun h' => h ((hon 0 h0).1 h')
        | @step j k _ hs hk ih => exact .step ih hs fun h' => hk ((hon k (by have := (hin j k hs).2; omega)).1 h')
    by_cases eb : b = a
    · subst eb
      rw [List.getD_eq_getElem?_getD, List.getElem?_set, if_pos rfl, if_pos (by omega)]
      constructor
      · intro h; simp at h
      · intro h; exact absurd rfl h.free
    · have e1 : ((walkB bs a).1.set a false).getD b false = (walkB bs a).1.getD b false := by
        rw [List.getD_eq_getElem?_getD, List.getD_eq_getElem?_getD, List.getElem?_set, if_neg (fun h => eb h.symm)]
      rw [e1, getD_dd (by omega)]
      unfold walkB
      rw [hr b hb, hto, hon b hb]
      exact ⟨fun h => h.resolve_left eb, .inr⟩
def Dom (bs : List BlkR) (a b : Nat) : Prop := Rch bs (fun _ => False) 0 a ∧ Rch bs (fun _ => False) 0 b ∧ ¬ Rch bs (· = a) 0 b
theorem domB_iff {bs : List BlkR} (hin : InRange bs) {a b : Nat} (ha : a < bs.length) (hb : b < bs.length) : domB bs b a = true ↔ Dom bs a b := by
  unfold domB Dom
  rw [Bool.and_eq_true, Bool.and_eq_true, seen_rch hin ha, seen_rch hin hb, Bool.not_eq_true', ← without_rch hin ha hb, and_assoc]
  constructor
  · rintro ⟨h1, h2, h3⟩; exact ⟨h1, h2, by rw [h3]; simp⟩
  · rintro ⟨h1, h2, h3⟩; exact ⟨h1, h2, by simpa using h3⟩
theorem Dom.trans {bs : List BlkR} {x a b : Nat} (h : Dom bs x a) (k : Dom bs a b) : Dom bs x b := by
  refine ⟨h.1, k.2.1, fun hr => ?_⟩
  rcases rch_trans (a := a) hr with h1 | h1
  · exact k.2.2 h1
  · exact h.2.2 h1
theorem Dom.self {bs : List BlkR} {b : Nat} (h : Rch bs (fun _ => False) 0 b) : Dom bs b b := ⟨h, h, fun hr => hr.free rfl⟩
end Go.Proofs.YtgdfgnppeekfjaaGreat.Vm
end
section
/- Rows of numbers: searched, copied, thinned. No conditions. -/
namespace Go.Proofs.YtgdfgnppeekfjaaGreat.Vm
open Go.RowKit (wrap64)
set_option linter.unusedSimpArgs false
set_option linter.unusedVariables false
theorem indexFInt {H : Hp} {v : CV} {xs : List Int} (hv : IsI H v xs) (hb : xs.length ≤ BIG) {fid : Nat} {caps : List CV} (p : Int → Bool)
    (hp : ∀ x ∈ xs, ∀ k : IV × Hp → Prop, CM fid (.c (.i x) :: caps.map .c) H k = k (.c (.b (p x)), H)) (k : IV × Hp → Prop) :
    CM 154 [.c v, .f fid caps] H k = k (.c (.i (findI p xs)), H) := by
  refine det (cw154 ?_) k
  unfold vf154c
  simp [hv.lenOf]
  refine wp_for CM_mono xs.length (fun i s => (∀ j (hj : j < i) (hx : j < xs.length), p xs[j] = false) ∧ s.h = H ∧ Env.get s.e 0 = .c v ∧ Env.get s.e 1 = .f fid caps ∧ Env.get s.e 7 = .c (.i xs.length) ∧ Env.get s.e 8 = .c (.i i)) (by simp) ?_ ?_
  · rintro i ⟨e, X⟩ hi ⟨ht, rfl, h0, h1, h7, h8⟩
    simp only at h0 h1 h7 h8 hv hp ⊢
    obtain ⟨id, g, off, q1, q2⟩ := hv.at_ hi
    have hpi := hp xs[i] (List.getElem_mem hi)
    unfold vf154b0
    cases hpx : p xs[i] with
    | false =>
      simp [h0, h1, h7, h8, q1, q2, hi, up1 hi hb, hpi, hpx]
      intro j hj hx
      by_cases e : j = i
      · subst e; exact hpx
      · exact ht j (by omega) hx
    | true =>
      simp [h0, h1, h7, h8, q1, q2, hi, up1 hi hb, hpi, hpx, findI_some hi (fun j hj => ht j hj (by omega)) hpx]
  · rintro ⟨e, X⟩ ⟨ht, rfl, h0, h1, h7, h8⟩
    simp only at h0 h1 h7 h8 ⊢
    unfold vf154b0
    simp [h0, h1, h7, h8, findI_none (fun j hj => ht j hj hj)]
theorem containsFInt {H : Hp} {v : CV} {xs : List Int} (hv : IsI H v xs) (hb : xs.length ≤ BIG) {fid : Nat} {caps : List CV} (p : Int → Bool)
    (hp : ∀ x ∈ xs, ∀ k : IV × Hp → Prop, CM fid (.c (.i x) :: caps.map .c) H k = k (.c (.b (p x)), H)) (k : IV × Hp → Prop) :
    CM 88 [.c v, .f fid caps] H k = k (.c (.b (xs.any p)), H) := by
  refine det (cw88 ?_) k
  unfold vf88c
  have e : decide (0 ≤ findI p xs) = xs.any p := by
    cases h : xs.any p with
    | true => exact decide_eq_true (findI_nonneg.2 h)
    | false => exact decide_eq_false fun hc => by rw [findI_nonneg.1 hc] at h; cases h
  simp [indexFInt hv hb p hp, e]
theorem gc_inner {X Z : Hp} {id g n : Nat} (hlt : id < X.length) : gcRet X (.c (.sl id g 0 n)) Z = (.c (.sl id g 0 n), Z) := by
  unfold gcRet
  split
  · rw [if_neg (by simp [flatV, flatC])]
    simp only
    rw [if_neg (by omega)]
  · rfl
end Go.Proofs.YtgdfgnppeekfjaaGreat.Vm
end
section
/- The reader of draws: what it draws lies between its bounds. No conditions. -/
namespace Go.Proofs.YtgdfgnppeekfjaaGreat.Vm
open Go.RowKit (wrap64)
set_option linter.unusedSimpArgs false
set_option linter.unusedVariables false
def Cur (X : Hp) (c : Nat) : Prop := ∃ bs i h xs, rdOb X c 0 = some ⟨[bs, .i i, .i h], 0, true, 3⟩ ∧ IsB X bs xs ∧ xs.length ≤ BIG ∧ 0 ≤ i ∧ ∀ id g off m, bs = .sl id g off m → id < c
def CurTo (X Y : Hp) (c : Nat) : Prop := ∃ ob, Y = X.set c ob ∧ Cur Y c
theorem Cur.lt {X : Hp} {c : Nat} (h : Cur X c) : c < X.length := by obtain ⟨bs, i, h, xs, h1, _⟩ := h; exact rdOb_lt h1
theorem CurTo.cur {X Y : Hp} {c : Nat} (h : CurTo X Y c) : Cur Y c := by obtain ⟨_, _, h⟩ := h; exact h
theorem CurTo.trans {X Y Z : Hp} {c : Nat} (h : CurTo X Y c) (k : CurTo Y Z c) : CurTo X Z c := by
  obtain ⟨a, rfl, _⟩ := h
  obtain ⟨b, rfl, k⟩ := k
  exact ⟨b, by simp, by simpa using k⟩
theorem CurTo.len {X Y : Hp} {c : Nat} (h : CurTo X Y c) : Y.length = X.length := by obtain ⟨a, rfl, _⟩ := h; simp
theorem CurTo.rdOb {X Y : Hp} {c id g : Nat} (h : CurTo X Y c) (hne : id ≠ c) : rdOb Y id g = Vm.rdOb X id g := by obtain ⟨a, rfl, _⟩ := h; exact rdOb_set_ne hne
theorem CurTo.low {X Y : Hp} {c lo : Nat} (h : CurTo X Y c) (hl : lo ≤ c) : Low lo X Y := fun id g o hi ho => by rw [h.rdOb (by omega)]; exact ho
theorem Cur.app {X : Hp} {c : Nat} (h : Cur X c) (L : Hp) : Cur (X ++ L) c := by
  obtain ⟨bs, i, h, xs, h1, h2, h3, h4⟩ := h
  exact ⟨bs, i, h, xs, rdOb_app L h1, Sl.app L h2, h3, h4⟩
theorem IsI.cur {X Y : Hp} {c : Nat} {v : CV} {xs : List Int} (hv : IsI X v xs) (hc : Cur X c) (h : CurTo X Y c) : IsI Y v xs := by
  obtain ⟨ob, rfl, _⟩ := h
  obtain ⟨bs, i, hh, ys, h1, _⟩ := hc
  rcases hv with ⟨h1, h2, h3⟩ | ⟨id, g, off, o, e1, h2, h3, h4⟩
  · exact .inl ⟨h1, h2, h3⟩
  · refine .inr ⟨id, g, off, o, e1, ?_, h3, h4⟩
    rw [rdOb_set_ne]; exact h2
    rintro rfl
    have a := (rdOb_some.1 h2).1
    rw [(rdOb_some.1 h1).1] at a
    injection a with a
    rw [← a] at h3
    cases h3
/-- The reader has gone on; all else is as it was, and more may have been made. -/
structure CurL (c : Nat) (X Z : Hp) : Prop where
  cur : Cur Z c
  le : X.length ≤ Z.length
  keep : ∀ id g o, id ≠ c → rdOb X id g = some o → rdOb Z id g = some o
theorem CurTo.l {X Y : Hp} {c : Nat} (h : CurTo X Y c) : CurL c X Y := ⟨h.cur, Nat.le_of_eq h.len.symm, fun id g o hne ho => by rw [h.rdOb hne]; exact ho⟩
theorem CurL.trans {X Y Z : Hp} {c : Nat} (h : CurL c X Y) (k : CurL c Y Z) : CurL c X Z := ⟨k.cur, Nat.le_trans h.le k.le, fun id g o hne ho => k.keep id g o hne (h.keep id g o hne ho)⟩
theorem CurL.app {X Z : Hp} {c : Nat} (h : CurL c X Z) (L : Hp) : CurL c X (Z ++ L) := ⟨h.cur.app L, by simp; have := h.le; omega, fun id g o hne ho => rdOb_app L (h.keep id g o hne ho)⟩
theorem CurL.pre {H X Z : Hp} {c : Nat} (h : CurL c X Z) (hp : Pre H X) (hc : H.length ≤ c) : Pre H Z := Low.pre (lo := c) (fun id g o hl ho => h.keep id g o (by omega) ho) hp hc
theorem IsB.form {H : Hp} {v : CV} {xs : List Int} (h : IsB H v xs) : v = .ns ∨ ∃ id g off n, v = .sl id g off n := by
  rcases h with ⟨h, _⟩ | ⟨id, g, off, o, h, _⟩
  · exact .inl h
  · exact .inr ⟨_, _, _, _, h⟩
end Go.Proofs.YtgdfgnppeekfjaaGreat.Vm
end
section
/- Arguments that are rows of bytes, rows of numbers. No conditions. -/
namespace Go.Proofs.YtgdfgnppeekfjaaGreat.Vm
open Go.RowKit (wrap64)
set_option linter.unusedSimpArgs false
set_option linter.unusedVariables false
section
variable {P : Program} {H : Hp}
end
def Tru (r : IV × Hp) : Prop := r.1 = .c (.b true)
@[simp] theorem tru_c (X : Hp) : Tru (.c (.b true), X) = True := by simp [Tru]
@[simp] theorem tru_gc (H X : Hp) : Tru (gcRet H (.c (.b true)) X) = True := by simp [Tru]
end Go.Proofs.YtgdfgnppeekfjaaGreat.Vm
end
section
/- Rows of numbers, of copies: marked from anywhere, held. A row cloned. No conditions. -/
namespace Go.Proofs.YtgdfgnppeekfjaaGreat.Vm
open Go.RowKit (wrap64)
set_option linter.unusedSimpArgs false
set_option linter.unusedVariables false
/-! ### Who follows, who comes ahead -/
theorem int_put {xs : List Int} {i : Nat} (h : i < xs.length) (x : Int) : putAt (xs.map CV.i) i [.i x] = (xs.set i x).map .i := by
  rw [putAt_get (by simpa using h), List.map_set]
end Go.Proofs.YtgdfgnppeekfjaaGreat.Vm
end
section
/- What a place takes, what an end takes. Rows of numbers compared. No conditions. -/
namespace Go.Proofs.YtgdfgnppeekfjaaGreat.Vm
open Go.RowKit (wrap64)
set_option linter.unusedSimpArgs false
set_option linter.unusedVariables false
def usesF (x : InsR) : List Int := if wordOk x.op = true ∨ x.op = 22 then [x.a, x.b] else if x.op = 21 ∨ x.op = 23 ∨ x.op = 25 then [x.a] else []
theorem usesF_le (x : InsR) : (usesF x).length ≤ 2 := by unfold usesF; (repeat' split) <;> simp
def RowEq (f : Nat) (ar : List IV) (H : Hp) (xs : List Int) : Prop := ∃ w L, RowRes H w L xs ∧ ∀ k : IV × Hp → Prop, CM f ar H k = k (.c w, H ++ L)
theorem RowRes.mk (H : Hp) (xs : List Int) : RowRes H (.sl H.length 0 0 xs.length) [⟨xs.map .i, 0, true, 1⟩] xs := .inr ⟨rfl, rfl⟩
theorem specUses (H : Hp) (x : InsR) : RowEq 159 [.agg [.i x.op, .i x.d, .i x.a, .i x.b, .i x.n]] H (usesF x) := by
  refine ⟨_, _, RowRes.mk H (usesF x), fun k => det (cw159 ?_) k⟩
  unfold vf159c usesF
  have fin : ∀ xs : List Int, gcRet H (.c (.sl (H.length + 1) 0 0 xs.length)) (H ++ [⟨[.i x.op, .i x.d, .i x.a, .i x.b, .i x.n], 0, true, 5⟩, ⟨xs.map .i, 0, true, 1⟩]) = (.c (.sl H.length 0 0 xs.length), H ++ [⟨xs.map .i, 0, true, 1⟩]) := fun xs => by
    rw [gcRet_row ⟨_, rfl⟩ (by omega) (by simp; rfl) rfl (by simp [flatC])]
  have fin2 := fin [x.a, x.b]
  have fin1 := fin [x.a]
  have fin0 := fin []
  simp at fin2 fin1 fin0
  obtain ⟨op, d, a, b, n⟩ := x
  simp only at fin2 fin1 fin0 ⊢
  cases hw : wordOk op with
  | true => simp [specWordOk, hw, putAt, fin2]
  | false =>
    by_cases h22 : op = 22
    · subst h22; simp [specWordOk, hw, putAt, fin2]
    · by_cases h21 : op = 21
      · subst h21; simp [specWordOk, hw, putAt, fin1]
      · by_cases h23 : op = 23
        · subst h23; simp [specWordOk, hw, putAt, fin1]
        · by_cases h25 : op = 25
          · subst h25; simp [specWordOk, hw, putAt, fin1]
          · simp [specWordOk, hw, h21, h22, h23, h25, putAt, fin0]
theorem app_new {X : Hp} {id g n : Nat} {cs : List CV} (h : rdOb X id g = some ⟨cs, g, true, 1⟩) (hn : cs.length = n) (hb : n ≤ BIG) (m : Int) :
    doApp (X ++ [(⟨[.i m], 0, true, 1⟩ : Ob)]) 1 (.sl id g 0 n) 1 [.i m] = some (.c (.sl id (g + 1) 0 (n + 1)), (X ++ [(⟨[.i m], 0, true, 1⟩ : Ob)]).set id ⟨cs ++ [.i m], g + 1, true, 1⟩) :=
  app_own (rdOb_app _ h) (by omega) (by simp) (by simp only [BIG] at hb; simp only [LIM, List.length_cons, List.length_nil]; omega)
theorem implUses (H : Hp) (x : InsR) : RowEq 30 [.agg [.i x.op, .i x.d, .i x.a, .i x.b, .i x.n]] H (usesF x) := by
  refine ⟨_, _, RowRes.mk H (usesF x), fun k => det (cw30 ?_) k⟩
  unfold vf30c usesF
  obtain ⟨op, d, a, b, n⟩ := x
  simp only
  obtain ⟨X1, hX1⟩ : ∃ X1, H ++ [(⟨[.i op, .i d, .i a, .i b, .i n], 0, true, 5⟩ : Ob)] = X1 := ⟨_, rfl⟩
  have hp1 : Pre H X1 := ⟨_, hX1.symm⟩
  have hle : H.length ≤ X1.length := hp1.le
  obtain ⟨X2, hX2⟩ : ∃ X2, X1 ++ [(⟨[], 0, true, 1⟩ : Ob)] = X2 := ⟨_, rfl⟩
  have hp2 : Pre X1 X2 := ⟨_, hX2.symm⟩
  have hx : rdOb X1 H.length 0 = some ⟨[.i op, .i d, .i a, .i b, .i n], 0, true, 5⟩ := by rw [← hX1]; simp
  have hx2 := hp2.rdOb hx
  have ho2 : rdOb X2 X1.length 0 = some ⟨[], 0, true, 1⟩ := by rw [← hX2]; simp
  have e1 := app_new (n := 0) ho2 rfl (Nat.zero_le _) a
  simp only [Nat.zero_add, List.nil_append] at e1
  obtain ⟨X3, hX3⟩ : ∃ X3, (X2 ++ [(⟨[.i a], 0, true, 1⟩ : Ob)]).set X1.length ⟨[.i a], 1, true, 1⟩ = X3 := ⟨_, rfl⟩
  rw [hX3] at e1
  have hp3 : Pre X1 X3 := by rw [← hX3]; exact (hp2.app _).set (Nat.le_refl _) _
  have ho3 : rdOb X3 X1.length 1 = some ⟨[.i a], 1, true, 1⟩ := by rw [← hX3, rdOb_set_self (by have := rdOb_lt ho2; simp; omega)]; simp
  have hx3 := hp3.rdOb hx
  have e2 := app_new (n := 1) ho3 rfl (by simp only [BIG]; omega) b
  simp only [List.length_cons, List.length_nil, Nat.zero_add, List.cons_append, List.nil_append, Nat.reduceAdd] at e2
  obtain ⟨X4, hX4⟩ : ∃ X4, (X3 ++ [(⟨[.i b], 0, true, 1⟩ : Ob)]).set X1.length ⟨[.i a, .i b], 2, true, 1⟩ = X4 := ⟨_, rfl⟩
  rw [hX4] at e2
  have hp4 : Pre X1 X4 := by rw [← hX4]; exact (hp3.app _).set (Nat.le_refl _) _
  have ho4 : rdOb X4 X1.length 2 = some ⟨[.i a, .i b], 2, true, 1⟩ := by rw [← hX4, rdOb_set_self (by have := rdOb_lt ho3; simp; omega)]; simp
  have f0 := gcRet_row (len := 0) (hp1.trans hp2) hle ho2 rfl (by simp)
  have f1 := gcRet_row (len := 1) (hp1.trans hp3) hle ho3 rfl (by simp [flatC])
  have f2 := gcRet_row (len := 2) (hp1.trans hp4) hle ho4 rfl (by simp [flatC])
  simp only at f0 f1 f2
  have w20 : wordOk 20 = false := by decide
  have w21 : wordOk 21 = false := by decide
  have w22 : wordOk 22 = false := by decide
  have w23 : wordOk 23 = false := by decide
  have w24 : wordOk 24 = false := by decide
  have w25 : wordOk 25 = false := by decide
  rcases has_tab op with h | h | h | h | h | h | h
  · obtain ⟨h1, h2, h3, h4, _⟩ := h
    simp [h1, h3, h4, has_call, hX1, hX2, rdC_ob hx2, rdC_ob hx3, putAt, srcOf, e1, e2, f2]
  · obtain ⟨rfl, h2, h3, h4, _⟩ := h
    simp [w20, h3, h4, has_call, hX1, hX2, rdC_ob hx2, putAt, f0]
  · obtain ⟨rfl | rfl, h2, h3, h4, _⟩ := h
    · simp [w21, h3, h4, has_call, hX1, hX2, rdC_ob hx2, rdC_ob hx3, putAt, srcOf, e1, f1]
    · simp [w25, h3, h4, has_call, hX1, hX2, rdC_ob hx2, rdC_ob hx3, putAt, srcOf, e1, f1]
  · obtain ⟨rfl, h2, h3, h4, _⟩ := h
    simp [w22, h3, h4, has_call, hX1, hX2, rdC_ob hx2, rdC_ob hx3, putAt, srcOf, e1, e2, f2]
  · obtain ⟨rfl, h2, h3, h4, _⟩ := h
    simp [w23, h3, h4, has_call, hX1, hX2, rdC_ob hx2, rdC_ob hx3, putAt, srcOf, e1, f1]
  · obtain ⟨rfl, h2, h3, h4, _⟩ := h
    simp [w24, h3, h4, has_call, hX1, hX2, rdC_ob hx2, putAt, f0]
  · obtain ⟨h0, g1, g2, g3, g4, g5, g6, h2, h3, h4, _⟩ := h
    simp [h0, g2, g3, g4, g5, h3, h4, has_call, hX1, hX2, rdC_ob hx2, putAt, f0]
def tusesF (t : TrmR) : List Int := if t.kind = 2 ∨ t.kind = 3 then [t.a] else []
theorem tusesF_le (t : TrmR) : (tusesF t).length ≤ 1 := by unfold tusesF; split <;> simp
theorem specTUses (H : Hp) (t : TrmR) : RowEq 161 [.agg [.i t.kind, .i t.a, .i t.to, .i t.els]] H (tusesF t) := by
  refine ⟨_, _, RowRes.mk H (tusesF t), fun k => det (cw161 ?_) k⟩
  unfold vf161c tusesF
  obtain ⟨kind, a, to, els⟩ := t
  simp only
  have fin : ∀ xs : List Int, gcRet H (.c (.sl (H.length + 1) 0 0 xs.length)) (H ++ [⟨[.i kind, .i a, .i to, .i els], 0, true, 4⟩, ⟨xs.map .i, 0, true, 1⟩]) = (.c (.sl H.length 0 0 xs.length), H ++ [⟨xs.map .i, 0, true, 1⟩]) := fun xs => by
    rw [gcRet_row ⟨_, rfl⟩ (by omega) (by simp; rfl) rfl (by simp [flatC])]
  have fin1 := fin [a]
  have fin0 := fin []
  simp at fin1 fin0
  by_cases h2 : kind = 2
  · subst h2; simp [putAt, fin1]
  · by_cases h3 : kind = 3
    · subst h3; simp [putAt, fin1]
    · simp [h2, h3, putAt, fin0]
theorem implTUses (H : Hp) (t : TrmR) : RowEq 45 [.agg [.i t.kind, .i t.a, .i t.to, .i t.els]] H (tusesF t) := by
  unfold RowEq tusesF
  obtain ⟨kind, a, to, els⟩ := t
  simp only
  have fin : ∀ xs : List Int, gcRet H (.c (.sl (H.length + 1) 0 0 xs.length)) (H ++ [⟨[.i kind, .i a, .i to, .i els], 0, true, 4⟩, ⟨xs.map .i, 0, true, 1⟩]) = (.c (.sl H.length 0 0 xs.length), H ++ [⟨xs.map .i, 0, true, 1⟩]) := fun xs => by
    rw [gcRet_row ⟨_, rfl⟩ (by omega) (by simp; rfl) rfl (by simp [flatC])]
  have fin1 := fin [a]
  simp at fin1
  by_cases h2 : kind = 2
  · subst h2
    refine ⟨_, _, RowRes.mk H [a], fun k => det (cw45 ?_) k⟩
    unfold vf45c
    simp [putAt, fin1]
  · by_cases h3 : kind = 3
    · subst h3
      refine ⟨_, _, RowRes.mk H [a], fun k => det (cw45 ?_) k⟩
      unfold vf45c
      simp [putAt, fin1]
    · rw [if_neg (by omega)]
      refine ⟨.ns, [], .inl ⟨rfl, rfl, rfl⟩, fun k => det (cw45 ?_) k⟩
      unfold vf45c
      simp [h2, h3, putAt]
end Go.Proofs.YtgdfgnppeekfjaaGreat.Vm
end
section
/- Copies one behind the other, and all at once: both sides. No conditions. -/
namespace Go.Proofs.YtgdfgnppeekfjaaGreat.Vm
open Go.RowKit (wrap64)
set_option linter.unusedSimpArgs false
set_option linter.unusedVariables false
end Go.Proofs.YtgdfgnppeekfjaaGreat.Vm
end
