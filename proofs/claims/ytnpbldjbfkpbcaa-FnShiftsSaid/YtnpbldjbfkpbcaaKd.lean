/- The shape of a program: what both say of it. No conditions. -/
import Derived.Test.YtnpbldjbfkpbcaaKc
namespace Go.Proofs.Ytnpbldjbfkpbcaa.Vm
open Go.RowKit (wrap64)
set_option linter.unusedSimpArgs false
set_option linter.unusedVariables false

/-! ### Parts of a slice -/
theorem Row.slice {α : Type} {P : Hp → List CV → α → Prop} {sz : Nat} {H : Hp} {v : CV} {xs : List α} (h : Row P sz H v xs) {l m : Nat} (hl : l ≤ m) (hm : m ≤ xs.length) :
    ∃ w, doSlice H sz v (some (.c (.i l))) (some (.c (.i m))) = some (.c w) ∧ Row P sz H w ((xs.drop l).take (m - l)) ∧ (l = 0 → doSlice H sz v none (some (.c (.i m))) = some (.c w)) ∧ (m = xs.length → doSlice H sz v (some (.c (.i l))) none = some (.c w)) := by
  obtain ⟨css, h1, h2, h3⟩ := h
  have hl2 : ∀ cs ∈ css, cs.length = sz := by
    intro cs hcs
    obtain ⟨i, hi, rfl⟩ := List.getElem_of_mem hcs
    exact (h3 i _ xs[i] (List.getElem?_eq_getElem hi) (List.getElem?_eq_getElem (by omega))).1
  rcases h1 with ⟨rfl, h1, _⟩ | ⟨id, g, off, o, rfl, q1, q2, q3, q4⟩
  · have e1 : l = 0 := by omega
    have e2 : m = 0 := by omega
    subst e1; subst e2
    refine ⟨.ns, by simp [doSlice], by simpa using Row.ns, fun _ => by simp [doSlice], fun _ => by simp [doSlice]⟩
  · have hmi : ¬ ((m : Int) < l) := by omega
    refine ⟨.sl id g (off + l * sz) (m - l), by simp [doSlice, hl, hm, q1, q2], ?_, fun e => by subst e; simp [doSlice, hm, q1, q2], fun e => by subst e; simp [doSlice, hl, q1, q2]⟩
    have hmul : m * sz ≤ xs.length * sz := Nat.mul_le_mul_right _ hm
    have hlm : l * sz + (m - l) * sz = m * sz := by rw [← Nat.add_mul]; congr 1; omega
    have hlen : ((xs.drop l).take (m - l)).length = m - l := by simp; omega
    refine ⟨(css.drop l).take (m - l), ?_, by simp; omega, fun k cs x a b => ?_⟩
    · rw [hlen]
      refine .inr ⟨id, g, off + l * sz, o, rfl, q1, q2, by omega, ?_⟩
      have key : ∀ (css : List (List CV)), (∀ cs ∈ css, cs.length = sz) → ∀ l n, l + n ≤ css.length → ((css.drop l).take n).flatten = (css.flatten.drop (l * sz)).take (n * sz) := by
        intro css
        induction css with
        | nil => intro _ l n h; simp at h; simp [h.1, h.2]
        | cons c r ih =>
          intro hc l n h
          have hcl := hc c (by simp)
          cases l with
          | zero =>
            cases n with
            | zero => simp
            | succ n =>
              have := ih (fun cs h => hc cs (by simp [h])) 0 n (by simpa using h)
              simp at this
              have hm : (n + 1) * sz = c.length + n * sz := by rw [Nat.succ_mul, hcl]; omega
              simp [hm, List.take_append, this]
              rw [List.take_of_length_le (by omega)]
          | succ l =>
            have := ih (fun cs h => hc cs (by simp [h])) l n (by simp at h; omega)
            have hm : (l + 1) * sz = c.length + l * sz := by rw [Nat.succ_mul, hcl]; omega
            have hd : List.drop (c.length + l * sz) c = [] := List.drop_eq_nil_of_le (by omega)
            simp [hm, List.drop_append, this, hd]
      rw [key css hl2 l (m - l) (by omega), ← q4, List.drop_take, List.take_take, List.drop_drop]
      congr 1
      omega
    · rw [List.getElem?_take] at a b
      split at a
      · rename_i hk
        rw [if_pos hk] at b
        rw [List.getElem?_drop] at a b
        exact h3 _ cs x a b
      · cases a

/-! ### What a place has -/
def IsB (H : Hp) (v : CV) (xs : List Int) : Prop := Sl H 1 v xs.length (xs.map .y)
theorem IsB.lenOf {H : Hp} {v : CV} {xs : List Int} (h : IsB H v xs) : lenOf v = some xs.length := Sl.lenOf h
theorem IsB.at_ {H : Hp} {v : CV} {xs : List Int} (h : IsB H v xs) {k : Nat} (hk : k < xs.length) :
    ∃ id g off, idxOf 1 v (k : Int) = some (.p id g off) ∧ rdC H id g off = some (.y xs[k]) := by
  obtain ⟨id, g, off, o, h1, h2, _, h3⟩ := Sl.get h hk
  refine ⟨id, g, off, h1, ?_⟩
  have := h3 0 (by omega)
  simp [hk] at this
  simp [rdC, h2, this]
theorem IsB.mk {H : Hp} {id g off : Nat} {o : Ob} {xs : List Int} (h : rdOb H id g = some o) (hs : o.sz = 1) (hl : off + xs.length ≤ o.cells.length) (hc : (o.cells.drop off).take xs.length = xs.map .y) : IsB H (.sl id g off xs.length) xs :=
  .inr ⟨id, g, off, o, rfl, h, hs, by omega, by rw [Nat.mul_one]; exact hc⟩

theorem indexByte {H : Hp} {v : CV} {xs : List Int} {x : Int} (hv : IsB H v xs) (hb : xs.length ≤ BIG) (k : IV × Hp → Prop) :
    CM 162 [.c v, .c (.y x)] H k = k (.c (.i (findI (fun y => decide (x = y)) xs)), H) := by
  refine det (cw162 ?_) k
  unfold vf162c
  simp [hv.lenOf]
  refine wp_for CM_mono xs.length (fun i s => (∀ j (hj : j < i) (hx : j < xs.length), decide (x = xs[j]) = false) ∧ s.h = H ∧ Env.get s.e 0 = .c v ∧ Env.get s.e 1 = .c (.y x) ∧ Env.get s.e 7 = .c (.i xs.length) ∧ Env.get s.e 8 = .c (.i i)) (by simp) ?_ ?_
  · rintro i ⟨e, X⟩ hi ⟨ht, rfl, h0, h1, h7, h8⟩
    simp only at h0 h1 h7 h8 hv ⊢
    obtain ⟨id, g, off, q1, q2⟩ := hv.at_ hi
    have hwr := up1 hi hb
    unfold vf162b0
    cases hpx : decide (x = xs[i]) with
    | false =>
      simp [h0, h1, h7, h8, q1, q2, hi, hwr, hpx]
      intro j hj hx
      by_cases e : j = i
      · subst e; exact of_decide_eq_false hpx
      · exact of_decide_eq_false (ht j (by omega) hx)
    | true =>
      simp [h0, h1, h7, h8, q1, q2, hi, hwr, hpx, findI_some hi (p := fun y => decide (x = y)) (fun j hj => ht j hj (by omega)) hpx]
  · rintro ⟨e, X⟩ ⟨ht, rfl, h0, h1, h7, h8⟩
    simp only at h0 h1 h7 h8 ⊢
    unfold vf162b0
    simp [h0, h1, h7, h8, findI_none (p := fun y => decide (x = y)) (fun j hj => ht j hj hj)]
theorem containsByte {H : Hp} {v : CV} {xs : List Int} {x : Int} (hv : IsB H v xs) (hb : xs.length ≤ BIG) (k : IV × Hp → Prop) :
    CM 143 [.c v, .c (.y x)] H k = k (.c (.b (xs.any fun y => decide (x = y))), H) := by
  refine det (cw143 ?_) k
  unfold vf143c
  have e : decide (0 ≤ findI (fun y => decide (x = y)) xs) = xs.any (fun y => decide (x = y)) := by
    cases h : xs.any (fun y => decide (x = y)) with
    | true => exact decide_eq_true (findI_nonneg.2 h)
    | false => exact decide_eq_false fun hc => by rw [findI_nonneg.1 hc] at h; cases h
  simp [indexByte hv hb, e]

def formF (op : Int) : ByteArray × Bool :=
  if op = 20 then (⟨#[68, 78]⟩, true) else if op = 21 ∨ op = 25 then (⟨#[68, 65]⟩, true) else if op = 22 then (⟨#[65, 66]⟩, true) else if op = 23 then (⟨#[65]⟩, true) else if op = 24 then (⟨#[68]⟩, true) else (⟨#[68, 65, 66]⟩, wordOk op)
theorem gc_tup (H : Hp) (s : ByteArray) (b : Bool) : gcRet H (.tup [(false, [.s s]), (false, [.b b])]) H = (.tup [(false, [.s s]), (false, [.b b])], H) := gc_same H rfl
theorem formOf_call (H : Hp) (op : Int) (k : IV × Hp → Prop) : CM 142 [.c (.i op)] H k = k (.tup [(false, [.s (formF op).1]), (false, [.b (formF op).2])], H) := by
  refine det (cw142 ?_) k
  unfold vf142c formF
  by_cases h0 : op = 20
  · simp [h0, gc_tup]
  · by_cases h1 : op = 21
    · simp [h1, gc_tup]
    · by_cases h5 : op = 25
      · simp [h5, gc_tup]
      · by_cases h2 : op = 22
        · simp [h2, gc_tup]
        · by_cases h3 : op = 23
          · simp [h3, gc_tup]
          · by_cases h4 : op = 24
            · simp [h4, gc_tup]
            · simp [h0, h1, h2, h3, h4, h5, gc_tup, implWordOk]

def bytesI (s : ByteArray) : List Int := s.data.toList.map fun b => (b.toNat : Int)
def hasF (op x : Int) : Bool := (formF op).2 && (bytesI (formF op).1).any fun y => decide (x = y)
theorem has_call (H : Hp) (op x : Int) (k : IV × Hp → Prop) : CM 105 [.c (.i op), .c (.y x)] H k = k (.c (.b (hasF op x)), H) := by
  refine det (cw105 ?_) k
  unfold vf105c
  have hsz : (formF op).1.size ≤ 3 := by
    unfold formF
    repeat' split
    all_goals first
      | decide
      | exact (by decide : ByteArray.size ⟨#[68, 65, 66]⟩ ≤ 3)
  generalize hf : formF op = f at hsz
  obtain ⟨s, ok⟩ := f
  simp only at hsz
  unfold hasF
  rw [hf]
  have hlen : (bytesI s).length = s.size := by simp [bytesI]
  have hc := containsByte (H := H ++ [⟨s.data.toList.map fun b => .y b.toNat, 0, false, 1⟩]) (v := .sl H.length 0 0 s.size) (xs := bytesI s) (x := x)
    (by rw [← hlen]; exact IsB.mk (o := ⟨s.data.toList.map fun b => .y b.toNat, 0, false, 1⟩) (by simp) rfl (by simp [hlen]) (by rw [hlen, List.drop_zero, List.take_of_length_le (by simp)]; simp [bytesI])) (by rw [hlen]; simp only [BIG]; omega)
  have hl : s.size ≤ LIM := by unfold LIM; omega
  cases ok with
  | true => simp [formOf_call, hf, hc, hl]
  | false => simp [formOf_call, hf, hc, hl]

theorem partOk_call (H : Hp) (n m : Int) (had : Bool) (k : IV × Hp → Prop) : CM 156 [.c (.i n), .c (.b had), .c (.i m)] H k = k (.c (.b (if had = true then valB n m else decide (n = 0))), H) := by
  refine det (cw156 ?_) k
  unfold vf156c valB
  cases had with
  | true => by_cases h : 0 ≤ n <;> simp [h]
  | false => simp

theorem implTerm (H : Hp) (t : TrmR) (n m : Int) (hn : -9223372036854775807 ≤ n ∧ n ≤ 9223372036854775807) (k : IV × Hp → Prop) :
    CM 127 [.agg (trmC t), .c (.i n), .c (.i m)] H k = k (.c (.b (termB t n m)), H) := by
  refine det (cw127 ?_) k
  unfold vf127c termB
  have hw : wrap64 (n - 1) = n - 1 := wrap64_id (by omega)
  obtain ⟨kind, a, to, els⟩ := t
  by_cases h1 : kind = 1
  · subst h1; simp [trmC, implIn, partOk_call, hw]; repeat' first | (refine cnd_of (fun hc => ?_) (fun hc => ?_) <;> simp [hc, implIn, partOk_call, hw]) | (refine grd_t (fun hc => ?_) (fun hc => ?_) <;> simp [hc, implIn, partOk_call, hw]) | (refine grd_f (fun hc => ?_) (fun hc => ?_) <;> simp [hc, implIn, partOk_call, hw])
  · by_cases h2 : kind = 2
    · subst h2; simp [trmC, implIn, partOk_call, hw]; repeat' first | (refine cnd_of (fun hc => ?_) (fun hc => ?_) <;> simp [hc, implIn, partOk_call, hw]) | (refine grd_t (fun hc => ?_) (fun hc => ?_) <;> simp [hc, implIn, partOk_call, hw]) | (refine grd_f (fun hc => ?_) (fun hc => ?_) <;> simp [hc, implIn, partOk_call, hw])
    · by_cases h3 : kind = 3
      · subst h3; simp [trmC, implIn, partOk_call, hw]; repeat' first | (refine cnd_of (fun hc => ?_) (fun hc => ?_) <;> simp [hc, implIn, partOk_call, hw]) | (refine grd_t (fun hc => ?_) (fun hc => ?_) <;> simp [hc, implIn, partOk_call, hw]) | (refine grd_f (fun hc => ?_) (fun hc => ?_) <;> simp [hc, implIn, partOk_call, hw])
      · simp [trmC, implIn, partOk_call, hw, h1, h2, h3]

theorem has_tab (op : Int) : (wordOk op = true ∧ hasF op 68 = true ∧ hasF op 65 = true ∧ hasF op 66 = true ∧ hasF op 78 = false ∧ (formF op).2 = true) ∨
    (op = 20 ∧ hasF op 68 = true ∧ hasF op 65 = false ∧ hasF op 66 = false ∧ hasF op 78 = true ∧ (formF op).2 = true) ∨
    ((op = 21 ∨ op = 25) ∧ hasF op 68 = true ∧ hasF op 65 = true ∧ hasF op 66 = false ∧ hasF op 78 = false ∧ (formF op).2 = true) ∨
    (op = 22 ∧ hasF op 68 = false ∧ hasF op 65 = true ∧ hasF op 66 = true ∧ hasF op 78 = false ∧ (formF op).2 = true) ∨
    (op = 23 ∧ hasF op 68 = false ∧ hasF op 65 = true ∧ hasF op 66 = false ∧ hasF op 78 = false ∧ (formF op).2 = true) ∨
    (op = 24 ∧ hasF op 68 = true ∧ hasF op 65 = false ∧ hasF op 66 = false ∧ hasF op 78 = false ∧ (formF op).2 = true) ∨
    (wordOk op = false ∧ op ≠ 20 ∧ op ≠ 21 ∧ op ≠ 25 ∧ op ≠ 22 ∧ op ≠ 23 ∧ op ≠ 24 ∧ hasF op 68 = false ∧ hasF op 65 = false ∧ hasF op 66 = false ∧ hasF op 78 = false ∧ (formF op).2 = false) := by
  by_cases h0 : op = 20
  · subst h0; exact .inr (.inl (by decide))
  · by_cases h1 : op = 21
    · subst h1; exact .inr (.inr (.inl (by decide)))
    · by_cases h5 : op = 25
      · subst h5; exact .inr (.inr (.inl (by decide)))
      · by_cases h2 : op = 22
        · subst h2; exact .inr (.inr (.inr (.inl (by decide))))
        · by_cases h3 : op = 23
          · subst h3; exact .inr (.inr (.inr (.inr (.inl (by decide)))))
          · by_cases h4 : op = 24
            · subst h4; exact .inr (.inr (.inr (.inr (.inr (.inl (by decide))))))
            · have hf : formF op = (⟨#[68, 65, 66]⟩, wordOk op) := by simp [formF, h0, h1, h2, h3, h4, h5]
              have hb : bytesI ⟨#[68, 65, 66]⟩ = [68, 65, 66] := by decide
              cases hw : wordOk op with
              | true => left; simp [hasF, hf, hw, hb]
              | false => right; right; right; right; right; right; simp [hasF, hf, hw, h0, h1, h2, h3, h4, h5]

set_option maxRecDepth 4000 in
theorem implIns (H : Hp) (x : InsR) (m : Int) (k : IV × Hp → Prop) :
    CM 132 [.agg (insC x), .c (.i m)] H k = k (.c (.b (insB x m)), H) := by
  refine det (cw132 ?_) k
  unfold vf132c insB
  obtain ⟨op, d, a, b, n⟩ := x
  simp only
  rcases has_tab op with h | h | h | h | h | h | h
  · obtain ⟨h0, h1, h2, h3, h4, h5⟩ := h
    simp [insC, formOf_call, has_call, partOk_call, h0, h1, h2, h3, h4, h5]
    repeat' first | (refine cnd_of (fun hc => ?_) (fun hc => ?_) <;> simp [hc, has_call, partOk_call, h0, h1, h2, h3, h4, h5]) | (refine grd_t (fun hc => ?_) (fun hc => ?_) <;> simp [hc, has_call, partOk_call, h0, h1, h2, h3, h4, h5]) | (refine grd_f (fun hc => ?_) (fun hc => ?_) <;> simp [hc, has_call, partOk_call, h0, h1, h2, h3, h4, h5])
  · obtain ⟨rfl, h1, h2, h3, h4, h5⟩ := h
    have h0 : wordOk 20 = false := by decide
    simp [insC, formOf_call, has_call, partOk_call, h0, h1, h2, h3, h4, h5]
    repeat' first | (refine cnd_of (fun hc => ?_) (fun hc => ?_) <;> simp [hc, has_call, partOk_call, h0, h1, h2, h3, h4, h5]) | (refine grd_t (fun hc => ?_) (fun hc => ?_) <;> simp [hc, has_call, partOk_call, h0, h1, h2, h3, h4, h5]) | (refine grd_f (fun hc => ?_) (fun hc => ?_) <;> simp [hc, has_call, partOk_call, h0, h1, h2, h3, h4, h5])
  · obtain ⟨rfl | rfl, h1, h2, h3, h4, h5⟩ := h
    · have h0 : wordOk 21 = false := by decide
      simp [insC, formOf_call, has_call, partOk_call, h0, h1, h2, h3, h4, h5]
      repeat' first | (refine cnd_of (fun hc => ?_) (fun hc => ?_) <;> simp [hc, has_call, partOk_call, h0, h1, h2, h3, h4, h5]) | (refine grd_t (fun hc => ?_) (fun hc => ?_) <;> simp [hc, has_call, partOk_call, h0, h1, h2, h3, h4, h5]) | (refine grd_f (fun hc => ?_) (fun hc => ?_) <;> simp [hc, has_call, partOk_call, h0, h1, h2, h3, h4, h5])
    · have h0 : wordOk 25 = false := by decide
      simp [insC, formOf_call, has_call, partOk_call, h0, h1, h2, h3, h4, h5]
      repeat' first | (refine cnd_of (fun hc => ?_) (fun hc => ?_) <;> simp [hc, has_call, partOk_call, h0, h1, h2, h3, h4, h5]) | (refine grd_t (fun hc => ?_) (fun hc => ?_) <;> simp [hc, has_call, partOk_call, h0, h1, h2, h3, h4, h5]) | (refine grd_f (fun hc => ?_) (fun hc => ?_) <;> simp [hc, has_call, partOk_call, h0, h1, h2, h3, h4, h5])
  · obtain ⟨rfl, h1, h2, h3, h4, h5⟩ := h
    have h0 : wordOk 22 = false := by decide
    simp [insC, formOf_call, has_call, partOk_call, h0, h1, h2, h3, h4, h5]
    repeat' first | (refine cnd_of (fun hc => ?_) (fun hc => ?_) <;> simp [hc, has_call, partOk_call, h0, h1, h2, h3, h4, h5]) | (refine grd_t (fun hc => ?_) (fun hc => ?_) <;> simp [hc, has_call, partOk_call, h0, h1, h2, h3, h4, h5]) | (refine grd_f (fun hc => ?_) (fun hc => ?_) <;> simp [hc, has_call, partOk_call, h0, h1, h2, h3, h4, h5])
  · obtain ⟨rfl, h1, h2, h3, h4, h5⟩ := h
    have h0 : wordOk 23 = false := by decide
    simp [insC, formOf_call, has_call, partOk_call, h0, h1, h2, h3, h4, h5]
    repeat' first | (refine cnd_of (fun hc => ?_) (fun hc => ?_) <;> simp [hc, has_call, partOk_call, h0, h1, h2, h3, h4, h5]) | (refine grd_t (fun hc => ?_) (fun hc => ?_) <;> simp [hc, has_call, partOk_call, h0, h1, h2, h3, h4, h5]) | (refine grd_f (fun hc => ?_) (fun hc => ?_) <;> simp [hc, has_call, partOk_call, h0, h1, h2, h3, h4, h5])
  · obtain ⟨rfl, h1, h2, h3, h4, h5⟩ := h
    have h0 : wordOk 24 = false := by decide
    simp [insC, formOf_call, has_call, partOk_call, h0, h1, h2, h3, h4, h5]
    repeat' first | (refine cnd_of (fun hc => ?_) (fun hc => ?_) <;> simp [hc, has_call, partOk_call, h0, h1, h2, h3, h4, h5]) | (refine grd_t (fun hc => ?_) (fun hc => ?_) <;> simp [hc, has_call, partOk_call, h0, h1, h2, h3, h4, h5]) | (refine grd_f (fun hc => ?_) (fun hc => ?_) <;> simp [hc, has_call, partOk_call, h0, h1, h2, h3, h4, h5])
  · obtain ⟨h0, e1, e2, e3, e4, e5, e6, h1, h2, h3, h4, h5⟩ := h
    simp [insC, formOf_call, has_call, partOk_call, h0, h1, h2, h3, h4, h5, e1, e2, e3, e4, e5, e6]
end Go.Proofs.Ytnpbldjbfkpbcaa.Vm
