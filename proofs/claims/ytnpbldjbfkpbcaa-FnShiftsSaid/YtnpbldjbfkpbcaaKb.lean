/- What the small functions over words, values and parts do. No conditions. -/
import Derived.Test.YtnpbldjbfkpbcaaKa
namespace Go.Proofs.Ytnpbldjbfkpbcaa.Vm
open Go.RowKit (wrap64)
set_option linter.unusedSimpArgs false
set_option linter.unusedVariables false

def inB (x a b : Int) : Bool := decide (a ≤ x ∧ x ≤ b)
def valB (v n : Int) : Bool := decide (0 ≤ v ∧ v < n)
def wordOk (op : Int) : Bool := inB op 1 10

theorem specIn (H : Hp) (x a b : Int) (k : IV × Hp → Prop) : CM 93 [.c (.i x), .c (.i a), .c (.i b)] H k = k (.c (.b (inB x a b)), H) := by
  refine det (cw93 ?_) k
  unfold vf93c inB
  by_cases h : a ≤ x <;> simp [h]
theorem implIn (H : Hp) (x a b : Int) (k : IV × Hp → Prop) : CM 82 [.c (.i x), .c (.i a), .c (.i b)] H k = k (.c (.b (inB x a b)), H) := by
  refine det (cw82 ?_) k
  unfold vf82c inB
  by_cases h : a ≤ x <;> simp [h]
theorem specVal (H : Hp) (x n : Int) (k : IV × Hp → Prop) : CM 159 [.c (.i x), .c (.i n)] H k = k (.c (.b (valB x n)), H) := by
  refine det (cw159 ?_) k
  unfold vf159c valB
  by_cases h : 0 ≤ x <;> simp [h]
theorem specWordOk (H : Hp) (op : Int) (k : IV × Hp → Prop) : CM 35 [.c (.i op)] H k = k (.c (.b (wordOk op)), H) := by
  refine det (cw35 ?_) k
  unfold vf35c
  simp [specIn, wordOk]
theorem implWordOk (H : Hp) (op : Int) (k : IV × Hp → Prop) : CM 31 [.c (.i op)] H k = k (.c (.b (wordOk op)), H) := by
  refine det (cw31 ?_) k
  unfold vf31c
  simp [implIn, wordOk]

def termB (t : TrmR) (n m : Int) : Bool :=
  if t.kind = 1 then inB t.to 0 (n - 1) && decide (t.a = 0) && decide (t.els = 0)
  else if t.kind = 2 then inB t.to 0 (n - 1) && inB t.els 0 (n - 1) && valB t.a m
  else if t.kind = 3 then valB t.a m && decide (t.to = 0) && decide (t.els = 0)
  else false
def insB (x : InsR) (m : Int) : Bool :=
  if wordOk x.op = true then valB x.d m && valB x.a m && valB x.b m && decide (x.n = 0)
  else if x.op = 20 then valB x.d m && decide (x.a = 0) && decide (x.b = 0)
  else if x.op = 21 ∨ x.op = 25 then valB x.d m && valB x.a m && decide (x.b = 0) && decide (x.n = 0)
  else if x.op = 22 then valB x.a m && valB x.b m && decide (x.d = 0) && decide (x.n = 0)
  else if x.op = 23 then valB x.a m && decide (x.d = 0) && decide (x.b = 0) && decide (x.n = 0)
  else if x.op = 24 then valB x.d m && decide (x.a = 0) && decide (x.b = 0) && decide (x.n = 0)
  else false

theorem specTerm (H : Hp) (t : TrmR) (n m : Int) (hn : -9223372036854775807 ≤ n ∧ n ≤ 9223372036854775807) (k : IV × Hp → Prop) :
    CM 135 [.agg (trmC t), .c (.i n), .c (.i m)] H k = k (.c (.b (termB t n m)), H) := by
  refine det (cw135 ?_) k
  unfold vf135c termB
  have hw : wrap64 (n - 1) = n - 1 := wrap64_id (by omega)
  obtain ⟨kind, a, to, els⟩ := t
  by_cases h1 : kind = 1
  · subst h1; simp [trmC, specIn, specVal, hw]; repeat' first | (refine cnd_of (fun hc => ?_) (fun hc => ?_) <;> simp [hc, trmC]) | (refine grd_t (fun hc => ?_) (fun hc => ?_) <;> simp [hc, trmC]) | (refine grd_f (fun hc => ?_) (fun hc => ?_) <;> simp [hc, trmC])
  · by_cases h2 : kind = 2
    · subst h2; simp [trmC, specIn, specVal, hw]; repeat' first | (refine cnd_of (fun hc => ?_) (fun hc => ?_) <;> simp [hc, trmC]) | (refine grd_t (fun hc => ?_) (fun hc => ?_) <;> simp [hc, trmC]) | (refine grd_f (fun hc => ?_) (fun hc => ?_) <;> simp [hc, trmC])
    · by_cases h3 : kind = 3
      · subst h3; simp [trmC, specIn, specVal, hw]; repeat' first | (refine cnd_of (fun hc => ?_) (fun hc => ?_) <;> simp [hc, trmC]) | (refine grd_t (fun hc => ?_) (fun hc => ?_) <;> simp [hc, trmC]) | (refine grd_f (fun hc => ?_) (fun hc => ?_) <;> simp [hc, trmC])
      · simp [trmC, specIn, specVal, hw, h1, h2, h3]

theorem specIns (H : Hp) (x : InsR) (m : Int) (k : IV × Hp → Prop) :
    CM 137 [.agg (insC x), .c (.i m)] H k = k (.c (.b (insB x m)), H) := by
  refine det (cw137 ?_) k
  unfold vf137c insB
  obtain ⟨op, d, a, b, n⟩ := x
  cases h0 : wordOk op with
  | true => simp [insC, specVal, specWordOk, h0]; repeat' first | (refine cnd_of (fun hc => ?_) (fun hc => ?_) <;> simp [hc, insC]) | (refine grd_t (fun hc => ?_) (fun hc => ?_) <;> simp [hc, insC]) | (refine grd_f (fun hc => ?_) (fun hc => ?_) <;> simp [hc, insC])
  | false =>
    by_cases h1 : op = 20
    · subst h1; simp [insC, specVal, specWordOk, h0]; repeat' first | (refine cnd_of (fun hc => ?_) (fun hc => ?_) <;> simp [hc, insC]) | (refine grd_t (fun hc => ?_) (fun hc => ?_) <;> simp [hc, insC]) | (refine grd_f (fun hc => ?_) (fun hc => ?_) <;> simp [hc, insC])
    · by_cases h2 : op = 21
      · subst h2; simp [insC, specVal, specWordOk, h0]; repeat' first | (refine cnd_of (fun hc => ?_) (fun hc => ?_) <;> simp [hc, insC]) | (refine grd_t (fun hc => ?_) (fun hc => ?_) <;> simp [hc, insC]) | (refine grd_f (fun hc => ?_) (fun hc => ?_) <;> simp [hc, insC])
      · by_cases h3 : op = 25
        · subst h3; simp [insC, specVal, specWordOk, h0]; repeat' first | (refine cnd_of (fun hc => ?_) (fun hc => ?_) <;> simp [hc, insC]) | (refine grd_t (fun hc => ?_) (fun hc => ?_) <;> simp [hc, insC]) | (refine grd_f (fun hc => ?_) (fun hc => ?_) <;> simp [hc, insC])
        · by_cases h4 : op = 22
          · subst h4; simp [insC, specVal, specWordOk, h0]; repeat' first | (refine cnd_of (fun hc => ?_) (fun hc => ?_) <;> simp [hc, insC]) | (refine grd_t (fun hc => ?_) (fun hc => ?_) <;> simp [hc, insC]) | (refine grd_f (fun hc => ?_) (fun hc => ?_) <;> simp [hc, insC])
          · by_cases h5 : op = 23
            · subst h5; simp [insC, specVal, specWordOk, h0]; repeat' first | (refine cnd_of (fun hc => ?_) (fun hc => ?_) <;> simp [hc, insC]) | (refine grd_t (fun hc => ?_) (fun hc => ?_) <;> simp [hc, insC]) | (refine grd_f (fun hc => ?_) (fun hc => ?_) <;> simp [hc, insC])
            · by_cases h6 : op = 24
              · subst h6; simp [insC, specVal, specWordOk, h0]; repeat' first | (refine cnd_of (fun hc => ?_) (fun hc => ?_) <;> simp [hc, insC]) | (refine grd_t (fun hc => ?_) (fun hc => ?_) <;> simp [hc, insC]) | (refine grd_f (fun hc => ?_) (fun hc => ?_) <;> simp [hc, insC])
              · simp [insC, specVal, specWordOk, h0, h1, h2, h3, h4, h5, h6]
end Go.Proofs.Ytnpbldjbfkpbcaa.Vm
