/- What the small functions over a place's parts do. No conditions. -/
import Derived.Test.YtlhhmlldcpafiaaCa
namespace Go.Proofs.Ytlhhmlldcpafiaa.Vm
open Go.RowKit (wrap64)
set_option linter.unusedSimpArgs false
set_option linter.unusedVariables false

/-- A slice of bytes. -/
def IsB (H : Hp) (v : CV) (xs : List Int) : Prop := Sl H 1 v xs.length (xs.map .y)
theorem IsB.lenOf {H : Hp} {v : CV} {xs : List Int} (h : IsB H v xs) : lenOf v = some xs.length := Sl.lenOf h
theorem IsB.get {H : Hp} {v : CV} {xs : List Int} (h : IsB H v xs) {k : Nat} (hk : k < xs.length) :
    ∃ id g off o, idxOf 1 v (k : Int) = some (.p id g off) ∧ rdOb H id g = some o ∧ o.cells[off]? = some (.y xs[k]) := by
  obtain ⟨id, g, off, o, h1, h2, _, h3⟩ := Sl.get h hk
  refine ⟨id, g, off, o, h1, h2, ?_⟩
  have := h3 0 (by omega)
  simpa [hk] using this
theorem IsB.pre {H X : Hp} (hp : Pre H X) {v : CV} {xs : List Int} (h : IsB H v xs) : IsB X v xs := Sl.pre hp h
theorem IsB.mk {H : Hp} {id g off : Nat} {o : Ob} {xs : List Int} (h : rdOb H id g = some o) (hs : o.sz = 1) (hl : off + xs.length ≤ o.cells.length) (hc : (o.cells.drop off).take xs.length = xs.map .y) : IsB H (.sl id g off xs.length) xs :=
  .inr ⟨id, g, off, o, rfl, h, hs, by omega, by rw [Nat.mul_one]; exact hc⟩

theorem index_call {H : Hp} {v : CV} {ys : List Int} {x : Int} (hv : IsB H v ys) (hb : ys.length ≤ maxLen) : ∃ n : Int, (0 ≤ n ↔ x ∈ ys) ∧ call M noX 85 [.c v, .c (.y x)] H = some (.c (.i n), H) := by
  simp only [maxLen] at hb
  obtain ⟨⟨z, s⟩, hr, h2, h3⟩ : ∃ r, loopF (exG (call M noX) vf85v vf85b0)
      ⟨[(0, .c v), (1, .c (.y x)), (4, .c (.i 0)), (5, .c .non), (7, .c (.i ys.length)), (8, .c (.i 0)), (9, .c .non), (16, .c .non)], H⟩ = some r ∧ r.2.h = H ∧
      ((x ∉ ys ∧ r.1 = .exit 0) ∨ (x ∈ ys ∧ r.1 = .ret ∧ ∃ n : Nat, Env.get r.2.e 4 = .c (.i n))) := by
    refine loop_rule (Inv := fun j s => ∃ (i : Nat) (a b c : IV), i + j = ys.length ∧ x ∉ ys.take i ∧
      s = ⟨[(0, .c v), (1, .c (.y x)), (4, .c (.i 0)), (5, a), (7, .c (.i ys.length)), (8, .c (.i i)), (9, b), (16, c)], H⟩) ?_ (k := ys.length) ⟨0, .c .non, .c .non, .c .non, by omega, by simp, rfl⟩
    rintro j _ ⟨i, a, b, c, hi, ht, rfl⟩
    by_cases hin : i < ys.length
    · obtain ⟨id, g, off, o, q1, q2, q3⟩ := hv.get hin
      have hw : wrap64 ((i : Int) + 1) = (i : Int) + 1 := wrap64_id (by omega)
      by_cases he : x = ys[i]
      · refine ⟨_, by simp [vf85b0, vf85v, hin, q1, q2, q3, he, hw, beqD]; with_reducible rfl, .inr ⟨by simp, rfl, .inr ⟨?_, rfl, i, rfl⟩⟩⟩
        rw [he]; exact List.getElem_mem hin
      · refine ⟨_, by simp [vf85b0, vf85v, hin, q1, q2, q3, he, hw, beqD]; with_reducible rfl, .inl ⟨rfl, j - 1, by omega, i + 1, _, _, _, by omega, ?_, rfl⟩⟩
        intro hm
        rw [List.take_succ_eq_append_getElem hin] at hm
        rcases List.mem_append.1 hm with hm | hm
        · exact ht hm
        · exact he (List.mem_singleton.1 hm)
    · have hin' : i = ys.length := by omega
      subst hin'
      rw [List.take_length] at ht
      exact ⟨_, by simp [vf85b0, vf85v]; with_reducible rfl, .inr ⟨by simp, rfl, .inl ⟨ht, rfl⟩⟩⟩
  simp only at h2 h3
  simp [vf85v] at hr
  rcases h3 with ⟨he, rfl⟩ | ⟨he, rfl, n, h4⟩
  · refine ⟨-1, by simp [he], call_ofG (vf := vf85) rfl dr85 ?_⟩
    simp [vf85, vf85v, hv.lenOf, hr, h2]
  · refine ⟨n, by simp [he], call_ofG (vf := vf85) rfl dr85 ?_⟩
    simp [vf85, vf85v, hv.lenOf, hr, h2, h4]

theorem contains_call {H : Hp} {v : CV} {ys : List Int} {x : Int} (hv : IsB H v ys) (hb : ys.length ≤ maxLen) : call M noX 77 [.c v, .c (.y x)] H = some (.c (.b (decide (x ∈ ys))), H) := by
  obtain ⟨n, h1, h2⟩ := index_call (x := x) hv hb
  refine call_ofG (vf := vf77) rfl dr77 ?_
  simp [vf77, vf77v, h2, h1]

theorem specIn_call (H : Hp) (x a b : Int) : call M noX 50 [.c (.i x), .c (.i a), .c (.i b)] H = some (.c (.b (decide (a ≤ x ∧ x ≤ b))), H) := by
  refine call_ofG (vf := vf50) rfl dr50 ?_
  by_cases h : a ≤ x <;> simp [vf50, vf50v, h]
theorem implIn_call (H : Hp) (x a b : Int) : call M noX 51 [.c (.i x), .c (.i a), .c (.i b)] H = some (.c (.b (decide (a ≤ x ∧ x ≤ b))), H) := by
  refine call_ofG (vf := vf51) rfl dr51 ?_
  by_cases h : a ≤ x <;> simp [vf51, vf51v, h]
def wordOk (op : Int) : Bool := decide (1 ≤ op ∧ op ≤ 10)
theorem specWordOk_call (H : Hp) (op : Int) : call M noX 15 [.c (.i op)] H = some (.c (.b (wordOk op)), H) := by
  refine call_ofG (vf := vf15) rfl dr15 ?_
  simp [vf15, vf15v, specIn_call, wordOk]
theorem implWordOk_call (H : Hp) (op : Int) : call M noX 16 [.c (.i op)] H = some (.c (.b (wordOk op)), H) := by
  refine call_ofG (vf := vf16) rfl dr16 ?_
  simp [vf16, vf16v, implIn_call, wordOk]

/-- What a place has. -/
def formF (op : Int) : ByteArray × Bool :=
  if op = 20 then (⟨#[68, 78]⟩, true) else if op = 21 ∨ op = 25 then (⟨#[68, 65]⟩, true) else if op = 22 then (⟨#[65, 66]⟩, true) else if op = 23 then (⟨#[65]⟩, true) else if op = 24 then (⟨#[68]⟩, true) else (⟨#[68, 65, 66]⟩, wordOk op)

theorem formOf_call (H : Hp) (op : Int) : call M noX 76 [.c (.i op)] H = some (.tup [(false, [.s (formF op).1]), (false, [.b (formF op).2])], H) := by
  refine call_ofG (vf := vf76) rfl dr76 ?_
  have hg : ∀ (s : ByteArray) (b : Bool), gcRet H (.tup [(false, [.s s]), (false, [.b b])]) H = (.tup [(false, [.s s]), (false, [.b b])], H) := fun s b => gc_same H rfl
  unfold formF
  by_cases h0 : op = 20
  · simp [vf76, vf76v, h0, beqD, hg]
  · by_cases h1 : op = 21
    · simp [vf76, vf76v, h1, beqD, hg]
    · by_cases h5 : op = 25
      · simp [vf76, vf76v, h5, beqD, hg]
      · by_cases h2 : op = 22
        · simp [vf76, vf76v, h2, beqD, hg]
        · by_cases h3 : op = 23
          · simp [vf76, vf76v, h3, beqD, hg]
          · by_cases h4 : op = 24
            · simp [vf76, vf76v, h4, beqD, hg]
            · simp [vf76, vf76v, h0, h1, h2, h3, h4, h5, beqD, hg, implWordOk_call]

def bytesI (s : ByteArray) : List Int := s.data.toList.map fun b => (b.toNat : Int)

def hasF (op x : Int) : Bool := (formF op).2 && decide (x ∈ bytesI (formF op).1)

theorem has_call (H : Hp) (op x : Int) : call M noX 56 [.c (.i op), .c (.y x)] H = some (.c (.b (hasF op x)), H) := by
  refine call_ofG (vf := vf56) rfl dr56 ?_
  have hsz : (formF op).1.size ≤ 3 := by
    unfold formF
    repeat' split
    all_goals first
      | decide
      | exact (by decide : ByteArray.size ⟨#[68, 65, 66]⟩ ≤ 3)
  generalize hf : formF op = f at hsz
  obtain ⟨s, ok⟩ := f
  simp only at hsz
  unfold hasF
  rw [hf]
  have hlen : (bytesI s).length = s.size := by simp [bytesI]
  have hc := contains_call (H := H ++ [⟨s.data.toList.map fun b => .y b.toNat, 0, false, 1⟩]) (v := .sl H.length 0 0 s.size) (ys := bytesI s) (x := x)
    (by rw [← hlen]; exact IsB.mk (o := ⟨s.data.toList.map fun b => .y b.toNat, 0, false, 1⟩) (by simp) rfl (by simp [hlen]) (by rw [hlen, List.drop_zero, List.take_of_length_le (by simp)]; simp [bytesI])) (by rw [hlen]; simp only [maxLen]; omega)
  have hl : s.size ≤ LIM := by unfold LIM; omega
  cases ok with
  | true => simp [vf56, vf56v, formOf_call, hf, hc, hl]
  | false => simp [vf56, vf56v, formOf_call, hf, hc, hl]

def makesF (op : Int) : Bool := wordOk op || decide (op = 20) || decide (op = 21) || decide (op = 24) || decide (op = 25)

theorem l2Makes_call (H : Hp) (op : Int) : call M noX 55 [.c (.i op)] H = some (.c (.b (makesF op)), H) := by
  refine call_ofG (vf := vf55) rfl dr55 ?_
  unfold makesF
  cases hw : wordOk op with
  | true => simp [vf55, vf55v, specWordOk_call, hw, beqD]
  | false =>
    by_cases h0 : op = 20
    · subst h0; simp [vf55, vf55v, specWordOk_call, hw, beqD]
    · by_cases h1 : op = 21
      · subst h1; simp [vf55, vf55v, specWordOk_call, hw, beqD]
      · by_cases h4 : op = 24
        · subst h4; simp [vf55, vf55v, specWordOk_call, hw, beqD]
        · simp [vf55, vf55v, specWordOk_call, hw, beqD, h0, h1, h4]

theorem hasD (op : Int) : hasF op 68 = makesF op := by
  have hb : ∀ (l : List UInt8), bytesI ⟨⟨l⟩⟩ = l.map fun b => (b.toNat : Int) := fun _ => rfl
  unfold hasF makesF formF wordOk
  by_cases h0 : op = 20
  · subst h0; decide
  · by_cases h1 : op = 21
    · subst h1; decide
    · by_cases h5 : op = 25
      · subst h5; decide
      · by_cases h2 : op = 22
        · subst h2; decide
        · by_cases h3 : op = 23
          · subst h3; decide
          · by_cases h4 : op = 24
            · subst h4; decide
            · simp [h0, h1, h2, h3, h4, h5, hb]

end Go.Proofs.Ytlhhmlldcpafiaa.Vm
