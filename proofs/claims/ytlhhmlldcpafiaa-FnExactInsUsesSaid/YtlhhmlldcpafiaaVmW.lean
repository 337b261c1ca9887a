/- Equations by which code of the ideal machine is reckoned, and the rule of its loops. No conditions. -/
import Derived.Test.YtlhhmlldcpafiaaVmP
namespace Go.Proofs.Ytlhhmlldcpafiaa.Vm
open Go.RowKit (wrap64)
set_option linter.unusedSimpArgs false
set_option linter.unusedVariables false

section
variable {K : Orc} {vars : List Nat} {e : Env} {H : Hp} {st : St}
@[simp] theorem exG_skip : exG K vars .skip st = some (.norm, st) := rfl
@[simp] theorem exG_rg (ops : List VO) : exG K vars (.rg ops) st = (runOps K ops st).bind fun s => some (.norm, prune vars s) := rfl
@[simp] theorem exG_rd (ops : List VO) : exG K vars (.rd ops) st = match runPure K ops st with
    | some s => some (.norm, prune vars s)
    | none => (runDraw K vars ops st).bind fun s => some (.norm, s) := rfl
@[simp] theorem exG_seq (a b : VC) : exG K vars (.seq a b) st = (exG K vars a st).bind fun r => match r.1 with
    | .norm => exG K vars b r.2
    | x => some (x, r.2) := rfl
@[simp] theorem exG_cond (x : Od) (a b : VC) : exG K vars (.cond x a b) st = match x.get st.e with
    | .c (.b true) => exG K vars a st
    | .c (.b false) => exG K vars b st
    | _ => none := rfl
@[simp] theorem exG_block (k : Nat) (c : VC) : exG K vars (.block k c) st = (exG K vars c st).bind fun r => match r.1 with
    | .exit k' => if k' = k then some (.norm, r.2) else some (.exit k', r.2)
    | x => some (x, r.2) := rfl
@[simp] theorem exG_loop (c : VC) : exG K vars (.loop c) st = loopF (exG K vars c) st := rfl
@[simp] theorem exG_exit (k : Nat) : exG K vars (.exit k) st = some (.exit k, st) := rfl
@[simp] theorem exG_ret : exG K vars .ret st = some (.ret, st) := rfl
@[simp] theorem runOps_nil : runOps K [] st = some st := rfl
@[simp] theorem runOps_cons (o : VO) (r : List VO) : runOps K (o :: r) st = (runOp K o st).bind fun s => runOps K r s := rfl
@[simp] theorem runPure_nil : runPure K [] st = some st := rfl
@[simp] theorem runPure_cons (o : VO) (r : List VO) : runPure K (o :: r) st = (runOp K o st).bind fun s => if o.br = true then runPure K r s else if s.h = st.h then runPure K r s else none := rfl
@[simp] theorem runOp_none (d : Option Nat) (o : VOp) (dp : List Nat) (br : Bool) : runOp K ⟨d, o, none, dp, br⟩ st = (stepV K st.e st.h o).bind fun r => some ⟨setD st.e d r.1, r.2⟩ := rfl
@[simp] theorem runOp_some (d : Option Nat) (o : VOp) (s : Nat) (want : Bool) (dp : List Nat) (br : Bool) : runOp K ⟨d, o, some (s, want), dp, br⟩ st = match Env.get st.e s with
    | .c (.b x) => if x = want then (stepV K st.e st.h o).bind fun r => some ⟨setD st.e d r.1, r.2⟩ else some ⟨setD st.e d (.c .non), st.h⟩
    | _ => none := rfl
@[simp] theorem runOp_Vd (dp : List Nat) (x : VO) : runOp K (Vd dp x) st = runOp K x st := rfl
@[simp] theorem runOp_Vb (dp : List Nat) (x : VO) : runOp K (Vb dp x) st = runOp K x st := rfl
@[simp] theorem br_V (d : Nat) (o : VOp) : (V d o).br = false := rfl
@[simp] theorem br_Vn (o : VOp) : (Vn o).br = false := rfl
@[simp] theorem br_Vg (d s : Nat) (w : Bool) (o : VOp) : (Vg d s w o).br = false := rfl
@[simp] theorem br_Vd (dp : List Nat) (x : VO) : (Vd dp x).br = false := rfl
@[simp] theorem br_Vb (dp : List Nat) (x : VO) : (Vb dp x).br = true := rfl
@[simp] theorem setD_none (v : IV) : setD e none v = e := rfl
@[simp] theorem setD_some (d : Nat) (v : IV) : setD e (some d) v = (d, v) :: e := rfl
@[simp] theorem get_nil (n : Nat) : Env.get [] n = .c .non := rfl
@[simp] theorem get_cons (k n : Nat) (v : IV) : Env.get ((k, v) :: e) n = if k = n then v else Env.get e n := rfl
@[simp] theorem od_t (n : Nat) : (Od.t n).get e = Env.get e n := rfl
@[simp] theorem od_k (v : IV) : (Od.k v).get e = v := rfl
@[simp] theorem prune_h (vars : List Nat) : prune vars st = ⟨vars.map fun k => (k, Env.get st.e k), st.h⟩ := rfl
@[simp] theorem enter_eq (vars : List Nat) (args : List IV) : enter vars args = vars.map fun k => (k, args.getD k (.c .non)) := rfl
@[simp] theorem fresh_eq (cs : List CV) (rw : Bool) (sz : Nat) : fresh H cs rw sz = H ++ [⟨cs, 0, rw, sz⟩] := rfl

theorem beqD {α : Type} [DecidableEq α] (a b : α) : (a == b) = decide (a = b) := rfl
theorem bneD {α : Type} [DecidableEq α] (a b : α) : (a != b) = !decide (a = b) := rfl
theorem bneN (a b : Nat) : (a != b) = !decide (a = b) := by cases h : decide (a = b) <;> simp_all
theorem beqN (a b : Nat) : (a == b) = decide (a = b) := by cases h : decide (a = b) <;> simp_all

@[simp] theorem natI (m n : Nat) : ((m : Int) = n) = (m = n) := by simp only [eq_iff_iff]; omega

/-- A slice's length. -/
def lenOf : CV → Option Nat
  | .sl _ _ _ n => some n
  | .ns => some 0
  | _ => none
/-- Where an element lies. -/
def idxOf (sz : Nat) : CV → Int → Option CV
  | .sl id g off len, k => if 0 ≤ k ∧ k < len then some (.p id g (off + k.toNat * sz)) else none
  | _, _ => none
@[simp] theorem lenOf_sl (id g off n : Nat) : lenOf (.sl id g off n) = some n := rfl
@[simp] theorem lenOf_ns : lenOf .ns = some 0 := rfl
@[simp] theorem idxOf_sl (sz id g off n : Nat) (k : Int) : idxOf sz (.sl id g off n) k = if 0 ≤ k ∧ k < n then some (.p id g (off + k.toNat * sz)) else none := rfl

@[simp] theorem st_len (x : Od) : stepV K e H (.len x) = match x.get e with
    | .c v => (lenOf v).bind fun n => some (.c (.i n), H)
    | _ => none := by
  simp only [stepV]
  cases x.get e with
  | c v => cases v <;> rfl
  | _ => rfl
@[simp] theorem st_idx (sz : Nat) (x i : Od) : stepV K e H (.idx sz x i) = match x.get e, i.get e with
    | .c v, .c (.i k) => (idxOf sz v k).bind fun q => some (.c q, H)
    | _, _ => none := by
  simp only [stepV]
  cases x.get e with
  | c v =>
    cases i.get e with
    | c k =>
      cases v <;> cases k <;> try rfl
      simp only [idxOf]
      split <;> rfl
    | _ => cases v <;> rfl
  | _ => rfl
@[simp] theorem st_mv (x : Od) : stepV K e H (.mv x) = some (x.get e, H) := rfl
@[simp] theorem st_pick (c a b : Od) : stepV K e H (.pick c a b) = match c.get e with
    | .c (.b true) => some (a.get e, H)
    | .c (.b false) => some (b.get e, H)
    | _ => none := rfl
@[simp] theorem st_alloc (zs : List CV) : stepV K e H (.alloc zs) = some (.c (.p H.length 0 0), fresh H zs true zs.length) := rfl
@[simp] theorem st_box (x : Od) : stepV K e H (.box x) = (cellsOf (x.get e)).bind fun cs => some (.c (.p H.length 0 0), fresh H cs true cs.length) := rfl
@[simp] theorem st_build (zs : List CV) (ps : List (Nat × Nat × Od)) : stepV K e H (.build zs ps) = (partsOf e ps).bind fun ps => (lay zs ps).bind fun cs => some (.agg cs, H) := rfl
@[simp] theorem st_bsl (sz : Nat) (zs : List CV) (n : Nat) (ps : List (Nat × Nat × Od)) : stepV K e H (.bsl sz zs n ps) = (partsOf e ps).bind fun ps => (lay (List.replicate n zs).flatten ps).bind fun cs =>
      some (.c (.sl H.length 0 0 n), fresh H cs true sz) := rfl
@[simp] theorem st_ld1 (a : Od) : stepV K e H (.ld none a) = match a.get e with
    | .c (.p id g off) => (rdOb H id g).bind fun o => (o.cells[off]?).bind fun v => some (.c v, H)
    | _ => none := rfl
@[simp] theorem st_ldn (n : Nat) (a : Od) : stepV K e H (.ld (some n) a) = match a.get e with
    | .c (.p id g off) => (rdOb H id g).bind fun o => if off + n ≤ o.cells.length then some (.agg ((o.cells.drop off).take n), H) else none
    | _ => none := rfl
@[simp] theorem st_st (n : Nat) (a x : Od) : stepV K e H (.st n a x) = match a.get e with
    | .c (.p id g off) => (rdOb H id g).bind fun o => (cellsOf (x.get e)).bind fun cs =>
        if o.rw = true ∧ cs.length = n ∧ off + n ≤ o.cells.length then some (.c .non, H.set id { o with cells := putAt o.cells off cs }) else none
    | _ => none := rfl
@[simp] theorem st_nilc (x : Od) : stepV K e H (.nilc x) = match x.get e with
    | .c (.p id g off) => some (.c (.p id g off), H)
    | _ => none := rfl
@[simp] theorem st_bin (o : Bo) (x y : Od) : stepV K e H (.bin o x y) = match x.get e, y.get e with
    | .c a, .c b => (evalBin o a b).bind fun v => some (.c v, H)
    | _, _ => none := rfl
@[simp] theorem st_shk (l : Bool) (n : Nat) (x : Od) : stepV K e H (.shk l n x) = match x.get e with
    | .c (.i a) => if n ≤ 64 then some (.c (.i (if l = true then wrap64 (a * 2 ^ n) else a / 2 ^ n)), H) else none
    | _ => none := rfl
@[simp] theorem st_bck (x lo hi mx : Od) : stepV K e H (.bck x lo hi mx) = match x.get e, lo.get e, hi.get e, mx.get e with
    | .c (.sl _ _ _ len), .c (.i l), .c (.i h), .c (.i m) => if 0 ≤ l ∧ l ≤ h ∧ h ≤ m ∧ m ≤ len then some (.c .non, H) else none
    | _, _, _, _ => none := rfl
@[simp] theorem st_eqa (n : Nat) (neg : Bool) (x y : Od) : stepV K e H (.eqa n neg x y) = match x.get e, y.get e with
    | .agg xs, .agg ys => if xs.length = n ∧ ys.length = n ∧ allInt xs = true ∧ allInt ys = true then some (.c (.b (decide (xs = ys) != neg)), H) else none
    | _, _ => none := rfl
@[simp] theorem st_eqb (neg : Bool) (x y : Od) : stepV K e H (.eqb neg x y) = match x.get e, y.get e with
    | .c (.b a), .c (.b b) => some (.c (.b ((a == b) != neg)), H)
    | _, _ => none := rfl
@[simp] theorem st_eqn (neg : Bool) (x : Od) : stepV K e H (.eqn neg x) = match x.get e with
    | .c .ns => some (.c (.b (!neg)), H)
    | .c (.sl ..) => some (.c (.b neg), H)
    | _ => none := rfl
@[simp] theorem st_not (x : Od) : stepV K e H (.not x) = match x.get e with
    | .c (.b v) => some (.c (.b (!v)), H)
    | _ => none := rfl
@[simp] theorem st_b2i (x : Od) : stepV K e H (.b2i x) = match x.get e with
    | .c (.y n) => some (.c (.i (wrap64 n)), H)
    | _ => none := rfl
@[simp] theorem st_s2b (x : Od) : stepV K e H (.s2b x) = match x.get e with
    | .c (.s v) => if v.size ≤ LIM then some (.c (.sl H.length 0 0 v.size), fresh H (v.data.toList.map fun b => .y b.toNat) false 1) else none
    | _ => none := rfl
@[simp] theorem st_mks (sz : Nat) (zs : List CV) (x : Od) : stepV K e H (.mks sz zs x) = match x.get e with
    | .c (.i n) => if 0 ≤ n ∧ n.toNat * sz ≤ LIM then some (.c (.sl H.length 0 0 n.toNat), fresh H (List.replicate n.toNat zs).flatten true sz) else none
    | _ => none := rfl
@[simp] theorem st_slc (sz : Nat) (x : Od) (lo hi : Option Od) : stepV K e H (.slc sz x lo hi) = match x.get e with
    | .c v => (doSlice H sz v (lo.map (Od.get e)) (hi.map (Od.get e))).bind fun r => some (r, H)
    | _ => none := rfl
@[simp] theorem st_fad (off : Nat) (x : Od) : stepV K e H (.fad off x) = match x.get e with
    | .c (.p id g o) => some (.c (.p id g (o + off)), H)
    | _ => none := rfl
@[simp] theorem st_ext (k : Nat) (x : Od) : stepV K e H (.ext k x) = match x.get e with
    | .tup xs => (xs[k]?).bind fun t => (ivOf t).bind fun v => some (v, H)
    | _ => none := rfl
@[simp] theorem st_mkf (f : Nat) (xs : List Od) : stepV K e H (.mkf f xs) = (capsOf e xs).bind fun vs => some (.f f vs, H) := rfl
@[simp] theorem st_call (f : Nat) (xs : List Od) : stepV K e H (.call f xs) = K f (xs.map (Od.get e)) H := rfl
@[simp] theorem st_clv (x : Od) (xs : List Od) : stepV K e H (.clv x xs) = match x.get e with
    | .f fid caps => K fid (xs.map (Od.get e) ++ caps.map .c) H
    | _ => none := rfl
@[simp] theorem st_app (sz : Nat) (x y : Od) : stepV K e H (.app sz x y) = match x.get e, y.get e with
    | .c a, .c b => (srcOf H sz b).bind fun ms => doApp H sz a ms.1 ms.2
    | _, _ => none := rfl
@[simp] theorem st_lens (x : Od) : stepV K e H (.lens x) = match x.get e with
    | .c (.s v) => some (.c (.i v.size), H)
    | _ => none := rfl
@[simp] theorem st_mn (x y : Od) : stepV K e H (.mn x y) = match x.get e, y.get e with
    | .c (.i a), .c (.i b) => some (.c (.i (if b < a then b else a)), H)
    | _, _ => none := rfl
@[simp] theorem st_mx (x y : Od) : stepV K e H (.mx x y) = match x.get e, y.get e with
    | .c (.i a), .c (.i b) => some (.c (.i (if a < b then b else a)), H)
    | _, _ => none := rfl
@[simp] theorem st_clr (sz : Nat) (zs : List CV) (x : Od) : stepV K e H (.clr sz zs x) = match x.get e with
    | .c .ns => some (.tup [], H)
    | .c (.sl id g off len) => (rdOb H id g).bind fun o =>
        if o.rw = true ∧ off + len * sz ≤ o.cells.length then some (.tup [], H.set id { o with cells := putAt o.cells off (List.replicate len zs).flatten }) else none
    | _ => none := rfl

attribute [simp] evalBin cellsOf tcOf ivOf partsOf capsOf lay fin resultOf resOf ressOf flatV flatC allInt

/-- A loop ends as its rounds do, where each of them that goes on comes nearer to an end. -/
theorem loop_rule {f : St → Option (X × St)} {Inv : Nat → St → Prop} {Q : X × St → Prop}
    (h : ∀ k s, Inv k s → ∃ r, f s = some r ∧ ((r.1 = .norm ∧ ∃ k', k' < k ∧ Inv k' r.2) ∨ (r.1 ≠ .norm ∧ Q r))) : ∀ {k s}, Inv k s → ∃ r, loopF f s = some r ∧ Q r := by
  intro k
  induction k using Nat.strongRecOn with
  | _ k ih =>
    intro s hs
    obtain ⟨⟨x, t⟩, h1, h2⟩ := h k s hs
    rcases h2 with ⟨rfl, k', h3, h4⟩ | ⟨h3, h4⟩
    · obtain ⟨r, g1, g2⟩ := ih k' h3 h4
      exact ⟨r, loopF_step h1 g1, g2⟩
    · refine ⟨(x, t), ?_, h4⟩
      cases x with
      | norm => exact (h3 rfl).elim
      | exit k => exact loopF_exit h1
      | ret => exact loopF_ret h1
end

/-! ### Rows of numbers -/
theorem Sl.lenOf {H : Hp} {sz n : Nat} {v : CV} {cs : List CV} (h : Sl H sz v n cs) : lenOf v = some n := by
  rcases h with ⟨rfl, rfl, _⟩ | ⟨id, g, off, o, rfl, _⟩ <;> rfl
theorem Sl.get {H : Hp} {sz n : Nat} {v : CV} {cs : List CV} (h : Sl H sz v n cs) {k : Nat} (hk : k < n) :
    ∃ id g off o, idxOf sz v (k : Int) = some (.p id g off) ∧ rdOb H id g = some o ∧ off + sz ≤ o.cells.length ∧ ∀ j, j < sz → o.cells[off + j]? = cs[k * sz + j]? := by
  obtain ⟨id, g, off, o, rfl, h1, h2⟩ := h.at_ (by omega)
  refine ⟨id, g, off + k * sz, o, by simp [hk], h1, ?_, fun j hj => ?_⟩
  · by_cases h0 : 0 < sz
    · exact (h2 k 0 hk h0).1
    · have hz : sz = 0 := by omega
      subst hz
      rcases h with ⟨h, _⟩ | ⟨id', g', off', o', h3, h4, h5, h6, h7⟩
      · cases h
      · cases h3; rw [h1] at h4; injection h4 with h4; subst h4; simpa using h6
  · exact (h2 k j hk hj).2
theorem IsI.lenOf {H : Hp} {v : CV} {xs : List Int} (h : IsI H v xs) : lenOf v = some xs.length := Sl.lenOf h
theorem IsI.get {H : Hp} {v : CV} {xs : List Int} (h : IsI H v xs) {k : Nat} (hk : k < xs.length) :
    ∃ id g off o, idxOf 1 v (k : Int) = some (.p id g off) ∧ rdOb H id g = some o ∧ o.cells[off]? = some (.i xs[k]) := by
  obtain ⟨id, g, off, o, h1, h2, _, h3⟩ := Sl.get h hk
  refine ⟨id, g, off, o, h1, h2, ?_⟩
  have := h3 0 (by omega)
  simpa [hk] using this

theorem wrap64_id {n : Int} (h : -9223372036854775808 ≤ n ∧ n ≤ 9223372036854775807) : wrap64 n = n := by unfold wrap64; omega

end Go.Proofs.Ytlhhmlldcpafiaa.Vm
