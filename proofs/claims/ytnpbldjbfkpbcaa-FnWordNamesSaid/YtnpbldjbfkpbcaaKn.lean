/- Arguments that are programs, copies. No conditions. -/
import Derived.Test.YtnpbldjbfkpbcaaKi
import Derived.Test.YtnpbldjbfkpbcaaVmV
namespace Go.Proofs.Ytnpbldjbfkpbcaa.Vm
set_option linter.unusedSimpArgs false
set_option linter.unusedVariables false

@[simp] theorem gcRet_fst (H : Hp) (x : Bool) (X : Hp) : (gcRet H (.c (.b x)) X).1 = .c (.b x) := by
  unfold gcRet
  split
  · rw [if_pos (show flatV (.c (.b x)) = true from rfl)]
  · rfl

theorem choose_list {α : Type} {Q : List CV → α → Prop} : ∀ {css : List (List CV)}, (∀ cs ∈ css, ∃ x, Q cs x) → ∃ xs : List α, xs.length = css.length ∧ ∀ (k : Nat) cs x, css[k]? = some cs → xs[k]? = some x → Q cs x := by
  intro css
  induction css with
  | nil => intro _; exact ⟨[], rfl, fun k cs x h => by simp at h⟩
  | cons c r ih =>
    intro h
    obtain ⟨x, hx⟩ := h c (by simp)
    obtain ⟨xs, h1, h2⟩ := ih fun cs hc => h cs (by simp [hc])
    refine ⟨x :: xs, by simp [h1], fun k cs y a b => ?_⟩
    cases k with
    | zero => simp at a b; subst a; subst b; exact hx
    | succ k => exact h2 k cs y (by simpa using a) (by simpa using b)

section
variable {P : Program} {H : Hp}
theorem leaf_row {α : Type} {R : Hp → List CV → α → Prop} {t e : TypeId} {c : CV} {ls : List TypeId} {sz m : Nat} (hu : P.underlying t = some (.slice e)) (hls : leafTs P m e = some ls) (hsz : P.cellsOf e = sz)
    (hR : ∀ cs : List CV, cs.length = ls.length → (∀ (j : Nat) (t' : TypeId) (c : CV), ls[j]? = some t' → cs[j]? = some c → Leaf P H t' c) → ∃ x, R H cs x) (h : Leaf P H t c) : ∃ xs : List α, Row R sz H c xs ∧ xs.length ≤ maxLen := by
  obtain ⟨n, css, hn, hm, hS, hcs⟩ := Leaf.row hu hls h
  obtain ⟨xs, h1, h2⟩ := choose_list (Q := fun cs x => cs.length = sz ∧ R H cs x) (css := css) fun cs hc => by
    obtain ⟨a, b, d⟩ := hcs cs hc
    obtain ⟨x, hx⟩ := hR cs a d
    exact ⟨x, by omega, hx⟩
  subst hn
  exact ⟨xs, ⟨css, by rw [h1, ← hsz]; exact hS, h1.symm, h2⟩, by omega⟩
theorem leaf_int {i : TypeId} (hi : P.underlying i = some (.int .i64)) {c : CV} (h : Leaf P H i c) : ∃ n : Int, c = .i n := by
  obtain ⟨n, rfl, _⟩ := Leaf.int hi h; exact ⟨n, rfl⟩

/-- The types of a program's parts: those of a slice of arms, of phis, of places, of blocks; of a number. -/
structure FnTys (P : Program) (i ta ea tp ep tl el tb eb : TypeId) : Prop where
  hi : P.underlying i = some (.int .i64)
  hta : P.underlying ta = some (.slice ea)
  hea : leafTs P 8 ea = some [i, i]
  hsa : P.cellsOf ea = 2
  htp : P.underlying tp = some (.slice ep)
  hep : leafTs P 8 ep = some [i, ta]
  hsp : P.cellsOf ep = 2
  htl : P.underlying tl = some (.slice el)
  hel : leafTs P 8 el = some [i, i, i, i, i]
  hsl : P.cellsOf el = 5
  htb : P.underlying tb = some (.slice eb)
  heb : leafTs P 8 eb = some [tp, tl, i, i, i, i]
  hsb : P.cellsOf eb = 6

theorem leaf_arms {i ta ea tp ep tl el tb eb : TypeId} (T : FnTys P i ta ea tp ep tl el tb eb) {c : CV} (h : Leaf P H ta c) : ∃ xs : List ArmR, Row armP 2 H c xs ∧ xs.length ≤ maxLen := by
  refine leaf_row T.hta T.hea T.hsa (fun cs hl hc => ?_) h
  match cs, hl with
  | [a, b], _ =>
    obtain ⟨a, rfl⟩ := leaf_int T.hi (hc 0 i a rfl rfl)
    obtain ⟨b, rfl⟩ := leaf_int T.hi (hc 1 i b rfl rfl)
    exact ⟨⟨a, b⟩, rfl⟩
theorem leaf_list {i ta ea tp ep tl el tb eb : TypeId} (T : FnTys P i ta ea tp ep tl el tb eb) {c : CV} (h : Leaf P H tl c) : ∃ xs : List InsR, Row insP 5 H c xs ∧ xs.length ≤ maxLen := by
  refine leaf_row T.htl T.hel T.hsl (fun cs hl hc => ?_) h
  match cs, hl with
  | [a, b, d, e, f], _ =>
    obtain ⟨a, rfl⟩ := leaf_int T.hi (hc 0 i a rfl rfl)
    obtain ⟨b, rfl⟩ := leaf_int T.hi (hc 1 i b rfl rfl)
    obtain ⟨d, rfl⟩ := leaf_int T.hi (hc 2 i d rfl rfl)
    obtain ⟨e, rfl⟩ := leaf_int T.hi (hc 3 i e rfl rfl)
    obtain ⟨f, rfl⟩ := leaf_int T.hi (hc 4 i f rfl rfl)
    exact ⟨⟨a, b, d, e, f⟩, rfl⟩
theorem leaf_phis {i ta ea tp ep tl el tb eb : TypeId} (T : FnTys P i ta ea tp ep tl el tb eb) {c : CV} (h : Leaf P H tp c) : ∃ xs : List PhiR, Row (phiP maxLen) 2 H c xs ∧ xs.length ≤ maxLen := by
  refine leaf_row T.htp T.hep T.hsp (fun cs hl hc => ?_) h
  match cs, hl with
  | [a, b], _ =>
    obtain ⟨a, rfl⟩ := leaf_int T.hi (hc 0 i a rfl rfl)
    obtain ⟨xs, h1, h2⟩ := leaf_arms T (hc 1 ta b rfl rfl)
    exact ⟨⟨a, xs⟩, b, rfl, h1, h2⟩
theorem leaf_blocks {i ta ea tp ep tl el tb eb : TypeId} (T : FnTys P i ta ea tp ep tl el tb eb) {c : CV} (h : Leaf P H tb c) : ∃ xs : List BlkR, Row (blkP maxLen) 6 H c xs ∧ xs.length ≤ maxLen := by
  refine leaf_row T.htb T.heb T.hsb (fun cs hl hc => ?_) h
  match cs, hl with
  | [z, u, a, b, d, e], _ =>
    obtain ⟨ps, p1, p2⟩ := leaf_phis T (hc 0 tp z rfl rfl)
    obtain ⟨ls, l1, l2⟩ := leaf_list T (hc 1 tl u rfl rfl)
    obtain ⟨a, rfl⟩ := leaf_int T.hi (hc 2 i a rfl rfl)
    obtain ⟨b, rfl⟩ := leaf_int T.hi (hc 3 i b rfl rfl)
    obtain ⟨d, rfl⟩ := leaf_int T.hi (hc 4 i d rfl rfl)
    obtain ⟨e, rfl⟩ := leaf_int T.hi (hc 5 i e rfl rfl)
    exact ⟨⟨ps, ls, ⟨a, b, d, e⟩⟩, z, u, rfl, p1, l1, p2, l2⟩
theorem arg_fn {i ta ea tp ep tl el tb eb : TypeId} (T : FnTys P i ta ea tp ep tl el tb eb) {t : TypeId} {n : Nat} {iv : IV} (hp : plainT P n t = true) (ha : aggOf P t = some true) (hl : leafTs P n t = some [tb, i]) (h : ArgTy P H n t iv) :
    ∃ cs f, iv = .agg cs ∧ fnP maxLen H cs f := by
  obtain ⟨cvs, rfl, hlen, hc⟩ := h.agg hp ha hl
  match cvs, hlen with
  | [a, b], _ =>
    obtain ⟨bs, b1, b2⟩ := leaf_blocks T (hc 0 tb a rfl rfl)
    obtain ⟨m, rfl⟩ := leaf_int T.hi (hc 1 i b rfl rfl)
    exact ⟨_, ⟨bs, m⟩, rfl, a, rfl, b1, b2⟩
theorem arg_int {i : TypeId} {n : Nat} {iv : IV} (hi : P.underlying i = some (.int .i64)) (hp : plainT P n i = true) (ha : aggOf P i = some false) (h : ArgTy P H n i iv) : ∃ m : Int, iv = .c (.i m) ∧ -9223372036854775808 ≤ m ∧ m ≤ 9223372036854775807 := by
  obtain ⟨c, rfl, hl⟩ := h.one hp ha
  obtain ⟨m, rfl, h1⟩ := Leaf.int hi hl
  exact ⟨m, rfl, h1⟩
end

/-- Small parts of a program, of one whose parts may be great. -/
theorem phiP.small {B B' : Nat} {H : Hp} {cs : List CV} {p : PhiR} (h : phiP B H cs p) (hs : p.arms.length ≤ B') : phiP B' H cs p := by
  obtain ⟨w, h1, h2, _⟩ := h; exact ⟨w, h1, h2, hs⟩
theorem Row.imp {α : Type} {P P' : Hp → List CV → α → Prop} {sz : Nat} {H : Hp} {v : CV} {xs : List α} (h : Row P sz H v xs) (hP : ∀ cs x, x ∈ xs → P H cs x → P' H cs x) : Row P' sz H v xs := by
  obtain ⟨css, h1, h2, h3⟩ := h
  exact ⟨css, h1, h2, fun k cs x a b => ⟨(h3 k cs x a b).1, hP _ _ (List.mem_of_getElem? b) (h3 k cs x a b).2⟩⟩
theorem blkP.small {B B' : Nat} {H : Hp} {cs : List CV} {b : BlkR} (h : blkP B H cs b) (hs : b.phis.length ≤ B' ∧ b.list.length ≤ B' ∧ ∀ p ∈ b.phis, p.arms.length ≤ B') : blkP B' H cs b := by
  obtain ⟨w, u, h1, h2, h3, _⟩ := h
  exact ⟨w, u, h1, h2.imp fun cs p hp h => phiP.small h (hs.2.2 p hp), h3, hs.1, hs.2.1⟩
theorem fnP.small {B : Nat} {H : Hp} {cs : List CV} {f : FnR} (h : fnP B H cs f) (hs : Small f) : fnP BIG H cs f := by
  obtain ⟨v, h1, h2, _⟩ := h
  exact ⟨v, h1, h2.imp fun cs b hb h => blkP.small h (hs.2 b hb), hs.1⟩
theorem sz_small {f : FnR} (h : 0 ≤ szFnF f 1048576) : Small f := by
  obtain ⟨_, _, h3⟩ := szFnF_le (f := f) (l := 1048576) (by omega)
  obtain ⟨a, b⟩ := h3 h
  exact ⟨a, b⟩
end Go.Proofs.Ytnpbldjbfkpbcaa.Vm
