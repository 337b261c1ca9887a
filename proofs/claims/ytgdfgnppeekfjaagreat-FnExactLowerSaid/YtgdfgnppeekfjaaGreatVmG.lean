/- Each operation of the ideal machine, but for calls, is followed by the model's: the fourth part. No conditions. -/
import Derived.Test.YtgdfgnppeekfjaaGreatVmF
namespace Go.Proofs.YtgdfgnppeekfjaaGreat.Vm
open Go.RowKit (wrap64 Below)
set_option linter.unusedSimpArgs false
set_option linter.unusedVariables false
section
variable {P : Program} {w0 : World} {ρ : Rho} {H : Hp} {w : World} {e : Env} {a : Act} {ty : TypeId} {d : Option Tmp} {pos : String} {aft : Array Edge} {gd : Option (Nat × Bool)}
theorem elem_of {t el : TypeId} (h : P.underlying t = some (.slice el)) : P.elem t = el := by simp [Program.elem, h]
theorem fresh_get {cs : List CV} {b : Bool} {sz : Nat} {o : Ob} (h : (fresh H cs b sz)[H.length]? = some o) : o = ⟨cs, 0, b, sz⟩ := by
  unfold fresh at h; simp at h; exact h.symm
theorem sim_mks {t el : TypeId} {zs : List CV} {sz : Nat} {x y : Operand} {n : Int} (he : elOf P t = some el) (hs : szOf P el = some sz) (hz : zeroIs P el zs = true) (hzl : zs.length = sz) (hp0 : 0 < sz)
    (hb : ∃ i, P.info? el = some i ∧ i.bytes ≤ 64 * sz) (hx : VR ρ H (.i n) (a.eval x)) (hy : VR ρ H (.i n) (a.eval y)) (h0 : 0 ≤ n) (hlim : n.toNat * sz ≤ LIM) (hS : Sim w0 ρ H w) :
    Outc w0 ρ H (.c (.sl H.length 0 0 n.toNat)) (fresh H (List.replicate n.toNat zs).flatten true sz) ((execOp a.eval ⟨d, .makeSlice t x y, ty, pos, aft, gd⟩).run P w) := by
  simp only [VR] at hx hy
  obtain ⟨i, z, h1, h2, h3, h4⟩ := zeroIs_R ρ H hz
  obtain ⟨i', h1', h2'⟩ := szOf_R hs
  rw [h1] at h1'; injection h1' with h1'; subst h1'
  obtain ⟨i', h1', h3'⟩ := hb
  rw [h1] at h1'; injection h1' with h1'; subst h1'
  subst hzl
  obtain ⟨m, rfl⟩ := Int.eq_ofNat_of_zero_le h0
  simp only [Int.toNat_natCast] at hlim ⊢
  simp only [LIM] at hlim
  have hm1 : m ≤ m * zs.length := Nat.le_mul_of_pos_right _ hp0
  have hbm : (i.bytes : Int) * (m : Int) ≤ 281474976710656 := by
    have e1 : i.bytes * m ≤ 64 * zs.length * m := Nat.mul_le_mul_right _ h3'
    have e2 : 64 * zs.length * m = 64 * (m * zs.length) := by rw [Nat.mul_assoc, Nat.mul_comm m]
    have : i.bytes * m ≤ 281474976710656 := by omega
    rw [← Int.natCast_mul]
    generalize i.bytes * m = q at this ⊢
    omega
  have hrun := run_make (P := P) w t el i z (elOf_R he) h1 h2 .i64 .i64 (m : Int) (m : Int) (by omega) (by omega) hbm (by omega)
  simp only [Int.toNat_natCast, h2'] at hrun
  have hmade : RL (CR ρ H) (List.replicate m zs).flatten (madeCells z.cells (m * zs.length)).toList := made_RL h3 hp0 m
  refine ⟨_, _, .inl ⟨.slice (some ⟨w.heap.size, 0, none⟩) m m, ?_, ?_⟩, ?_, hS.alloc (List.replicate m zs).flatten zs.length (madeCells z.cells (m * zs.length)) el (by simp [madeCells]) (fun j c hj => ?_) (fun c hc => ?_), Ext.push _ _⟩
  · simp [execOp, hx, hy, hrun]
  · refine ⟨_, _, rfl, Nat.le_refl _, ?_, fun o ho hg => ?_⟩
    · simp only [maxLen]; omega
    · have ho' := fresh_get ho
      subst ho'
      unfold setRho
      rw [if_pos rfl]
      simp only
      refine ⟨.inr (by rw [add_own]), by simp, fun _ => by simp [madeCells]⟩
  · exact ⟨⟨(List.replicate m zs).flatten, 0, true, zs.length⟩, by unfold fresh; simp, Nat.le_refl _⟩
  · obtain ⟨v, hv, hr'⟩ := hmade.at_ hj
    exact ⟨v, by simpa using hv, hr'⟩
  · rw [List.mem_flatten] at hc
    obtain ⟨l, hl', hc⟩ := hc
    rw [List.mem_replicate] at hl'
    rw [hl'.2] at hc
    exact h4 c hc
theorem sub_mul_add (c l s : Nat) (h : l ≤ c) : l * s + (c - l) * s = c * s := by rw [← Nat.add_mul, Nat.add_sub_cancel' h]
theorem sliced_R {ad : Addr} {len c l h sz : Nat} {id g off : Nat} (hlc : len ≤ c) (hm : c ≤ maxLen) (hl : l ≤ h) (hh : h ≤ len)
    (ha : ∀ o, H[id]? = some o → o.g = g → (c = 0 ∨ ad = (ρ id).1.add off) ∧ o.cells.length ≤ off + c * o.sz ∧ (o.rw = true → off + c * o.sz ≤ (ρ id).2)) (hsz : ∀ o, H[id]? = some o → o.g = g → o.sz = sz) :
    VR ρ H (.sl id g (off + l * sz) (h - l)) (sliced (some ad) l h c sz) := by
  unfold sliced
  by_cases hcl : c = l
  · rw [if_pos hcl]
    refine ⟨ad, c - l, rfl, by omega, by omega, fun o ho hg => ?_⟩
    obtain ⟨h1, h2, h3⟩ := ha o ho hg
    rw [hsz o ho hg] at h2 h3 ⊢
    have := sub_mul_add c l sz (by omega)
    exact ⟨.inl (by omega), by omega, fun hr => by have := h3 hr; omega⟩
  · rw [if_neg hcl]
    refine ⟨ad.add (l * sz), c - l, rfl, by omega, by omega, fun o ho hg => ?_⟩
    obtain ⟨h1, h2, h3⟩ := ha o ho hg
    rw [hsz o ho hg] at h2 h3 ⊢
    have := sub_mul_add c l sz (by omega)
    refine ⟨.inr ?_, by omega, fun hr => by have := h3 hr; omega⟩
    rcases h1 with h1 | h1
    · omega
    · rw [h1, Addr.add_add]
def BR (a : Act) (x : Option Operand) (l : Option Int) : Prop := x.map a.eval = l.map (Value.int .i64)
theorem sim_slc {t el : TypeId} {sz : Nat} {x : Operand} {lo hi : Option Operand} {l h : Option Int} {id g off len : Nat} {o : Ob} (he : elOf P t = some el) (hs : szOf P el = some sz) (hx : VR ρ H (.sl id g off len) (a.eval x)) (hwx : wfC H (.sl id g off len))
    (hlo : BR a lo l) (hhi : BR a hi h) (h0 : 0 ≤ l.getD 0) (h1 : l.getD 0 ≤ h.getD len) (h2' : h.getD len ≤ len ∨ (0 < sz ∧ off + (h.getD len).toNat * sz ≤ o.cells.length)) (ho : rdOb H id g = some o) (hsz : o.sz = sz) (hS : Sim w0 ρ H w) :
    Outc w0 ρ H (.c (.sl id g (off + (l.getD 0).toNat * sz) ((h.getD len).toNat - (l.getD 0).toNat))) H ((execOp a.eval ⟨d, .slice t x lo hi none, ty, pos, aft, gd⟩).run P w) := by
  obtain ⟨ad, c, hx, hlc, hm, ha⟩ := hx
  obtain ⟨r1, r2⟩ := rdOb_R ho
  have h2 : h.getD len ≤ (c : Int) := by
    rcases h2' with h2 | ⟨hp, h2⟩
    · omega
    · obtain ⟨_, b, _⟩ := ha o r1 r2
      rw [hsz] at b
      have : (h.getD len).toNat * sz ≤ c * sz := by omega
      have := Nat.le_of_mul_le_mul_right this hp
      omega
  clear h2'
  obtain ⟨i, hi1, hi2⟩ := szOf_R hs
  have hu := elOf_R he
  have hel := elem_of hu
  have hu' : P.underlying t = some (.slice (P.elem t)) := by rw [hel]; exact hu
  have hsize : (sizeOf (P.elem t)).run P w = .ok sz w := by simp [sizeOf, typeInfo, hel, hi1, hi2]
  have hszz : ∀ o', H[id]? = some o' → o'.g = g → o'.sz = sz := by
    intro o' ho' _
    rw [r1] at ho'; injection ho' with ho'; subst ho'; exact hsz
  unfold BR at hlo hhi
  refine Outc.here hS (v := sliced (some ad) (l.getD 0).toNat (h.getD len).toNat c sz) ?_ (sliced_R (Nat.le_refl c) hm (by omega) (by omega) ha hszz) hwx
  cases lo <;> cases hi <;> cases l <;> cases h <;> simp only [Option.map_none, Option.map_some, reduceCtorEq, Option.some.injEq, Option.getD_none, Option.getD_some] at hlo hhi h0 h1 h2 ⊢
  · simp only [execOp, Option.map_none, hx, run_sliceAt_slice (h := hu'), Sem.run_bind, Option.map, run_slice_all (P := P) (w := w) t (some ad) len c hu', hsize]
    simp
  · simp only [execOp, hx, hhi, Sem.run_bind, Option.map, run_sliceAt_slice (h := hu'), run_slice_h (P := P) (w := w) t (some ad) len c hu' .i64 _ (by omega) (by omega), hsize]
    simp
  · simp only [execOp, hx, hlo, Sem.run_bind, Option.map, run_sliceAt_slice (h := hu'), run_slice_l (P := P) (w := w) t (some ad) len c hu' .i64 _ (by omega) (by omega), hsize]
    simp
  · simp only [execOp, hx, hlo, hhi, Sem.run_bind, Option.map, run_sliceAt_slice (h := hu'), run_slice_lh (P := P) (w := w) t (some ad) len c hu' .i64 .i64 _ _ (by omega) (by omega) (by omega), hsize]
    simp
theorem sim_bck {t el : TypeId} {sz : Nat} {x lo hi mx : Operand} {l h m : Int} {id g off len : Nat} (he : elOf P t = some el) (hs : szOf P el = some sz) (hx : VR ρ H (.sl id g off len) (a.eval x))
    (hlo : VR ρ H (.i l) (a.eval lo)) (hhi : VR ρ H (.i h) (a.eval hi)) (hmx : VR ρ H (.i m) (a.eval mx)) (h0 : 0 ≤ l) (h1 : l ≤ h) (h2 : h ≤ m) (h3 : m ≤ len) (hS : Sim w0 ρ H w) :
    Outc w0 ρ H (.c .non) H ((execOp a.eval ⟨d, .slice t x (some lo) (some hi) (some mx), ty, pos, aft, gd⟩).run P w) := by
  obtain ⟨ad, c, hx, hlc, hm, ha⟩ := hx
  obtain ⟨i, hi1, hi2⟩ := szOf_R hs
  have hu := elOf_R he
  have hel := elem_of hu
  have hu' : P.underlying t = some (.slice (P.elem t)) := by rw [hel]; exact hu
  have hsize : (sizeOf (P.elem t)).run P w = .ok sz w := by simp [sizeOf, typeInfo, hel, hi1, hi2]
  simp only [VR] at hlo hhi hmx
  refine Outc.here hS (v := sliced (some ad) l.toNat h.toNat m.toNat sz) ?_ trivial trivial
  simp only [execOp, hx, hlo, hhi, hmx, Sem.run_bind, Option.map, run_sliceAt_slice (h := hu'), run_slice_lhm (P := P) (w := w) t (some ad) len c hu' .i64 .i64 .i64 _ _ _ (by omega) (by omega) (by omega) (by omega), hsize]
  simp
theorem sim_shk {left : Bool} {n : Nat} {t ty' : TypeId} {k : IntKind} {x : Operand} {v : Int} (hn : n ≤ 64) (hx : VR ρ H (.i v) (a.eval x)) (hS : Sim w0 ρ H w) :
    Outc w0 ρ H (.c (.i (if left = true then wrap64 (v * 2 ^ n) else v / 2 ^ n))) H ((execOp a.eval ⟨d, .binOp (if left then .shl else .shr) t x (.const (.int k n)) ty', ty, pos, aft, gd⟩).run P w) := by
  simp only [VR] at hx
  have hb : ((n : Nat) : Int) ≤ IntKind.i64.bits := by simp [IntKind.bits]; omega
  cases left with
  | true =>
    refine Outc.here hS (v := .int .i64 (wrap64 (v * 2 ^ n))) ?_ (by simp [IR, VR]) trivial
    have := shift_shl .i64 k v n (by omega) hb
    show (execOp a.eval ⟨d, .binOp .shl t x (.const (.int k n)) ty', ty, pos, aft, gd⟩).run P w = _
    have hy : a.eval (.const (.int k (n : Int))) = .int k n := rfl
    simp [execOp, hx, hy, eqGuard, binOp, this, wrap64_eq]
  | false =>
    refine Outc.here hS (v := .int .i64 (v / 2 ^ n)) ?_ (by simp [IR, VR]) trivial
    have := shift_shr .i64 k v n (by omega) hb
    show (execOp a.eval ⟨d, .binOp .shr t x (.const (.int k n)) ty', ty, pos, aft, gd⟩).run P w = _
    have hy : a.eval (.const (.int k (n : Int))) = .int k n := rfl
    simp [execOp, hx, hy, eqGuard, binOp, this]
theorem sim_slc_nil {t el : TypeId} {sz : Nat} {x : Operand} {lo hi : Option Operand} {l h : Option Int} (he : elOf P t = some el) (hs : szOf P el = some sz) (hx : VR ρ H .ns (a.eval x))
    (hlo : BR a lo l) (hhi : BR a hi h) (h0 : l.getD 0 = 0) (h1 : h.getD 0 = 0) (hS : Sim w0 ρ H w) :
    Outc w0 ρ H (.c .ns) H ((execOp a.eval ⟨d, .slice t x lo hi none, ty, pos, aft, gd⟩).run P w) := by
  simp only [VR] at hx
  obtain ⟨i, hi1, hi2⟩ := szOf_R hs
  have hu := elOf_R he
  have hel := elem_of hu
  have hu' : P.underlying t = some (.slice (P.elem t)) := by rw [hel]; exact hu
  have hsize : (sizeOf (P.elem t)).run P w = .ok sz w := by simp [sizeOf, typeInfo, hel, hi1, hi2]
  unfold BR at hlo hhi
  refine Outc.here hS (v := sliced none 0 0 0 sz) ?_ (by simp [IR, VR, sliced]) trivial
  cases lo <;> cases hi <;> cases l <;> cases h <;> simp only [Option.map_none, Option.map_some, reduceCtorEq, Option.some.injEq, Option.getD_none, Option.getD_some] at hlo hhi h0 h1 ⊢
  · simp only [execOp, Option.map_none, hx, run_sliceAt_slice (h := hu'), Sem.run_bind, Option.map, run_slice_all (P := P) (w := w) t none 0 0 hu', hsize]
    simp
  · subst h1
    simp only [execOp, hx, hhi, Sem.run_bind, Option.map, run_sliceAt_slice (h := hu'), run_slice_h (P := P) (w := w) t none 0 0 hu' .i64 0 (by omega) (by omega), hsize]
    simp
  · subst h0
    simp only [execOp, hx, hlo, Sem.run_bind, Option.map, run_sliceAt_slice (h := hu'), run_slice_l (P := P) (w := w) t none 0 0 hu' .i64 0 (by omega) (by omega), hsize]
    simp
  · subst h0; subst h1
    simp only [execOp, hx, hlo, hhi, Sem.run_bind, Option.map, run_sliceAt_slice (h := hu'), run_slice_lh (P := P) (w := w) t none 0 0 hu' .i64 .i64 0 0 (by omega) (by omega) (by omega), hsize]
    simp
theorem sim_s2b {t t' el : TypeId} {x : Operand} {s : ByteArray} (hs : (P.underlying t).isSome = true) (he : elOf P t' = some el) (hu : P.underlying el = some (.int .u8)) (hx : VR ρ H (.s s) (a.eval x)) (hsz : s.size ≤ maxLen) (hS : Sim w0 ρ H w) :
    Outc w0 ρ H (.c (.sl H.length 0 0 s.size)) (fresh H (s.data.toList.map fun b => .y b.toNat) false 1) ((execOp a.eval ⟨d, .convert t t' x, ty, pos, aft, gd⟩).run P w) := by
  simp only [VR] at hx
  obtain ⟨td, ht⟩ := Option.isSome_iff_exists.1 hs
  have hrun := Lib.run_convert_string_bytes (P := P) w t t' el s ht (elOf_R he) hu
  have hB : Below w.heap.size w (Lib.bytesWorld w el s) := ⟨rfl, rfl, rfl, by rw [Lib.bytesWorld_size]; omega, fun i hi => Lib.bytesWorld_at_old w el s i hi⟩
  have hlen : s.data.toList.length = s.size := by rw [Array.length_toList]; rfl
  refine ⟨_, _, .inl ⟨.slice (some ⟨w.heap.size, 0, none⟩) s.size (grownCap w s.size 0 el), by simp [execOp, hx, hrun], ?_⟩, ?_, hS.allocRo (s.data.toList.map fun b => .y b.toNat) 1 ⟨w.heap.size, 0, none⟩ 0 hB (Nat.le_refl _) ?_ (fun j c hj => ?_) (fun c hc => ?_), Ext.push _ _⟩
  · refine ⟨_, _, rfl, grownCap_ge _ _ _ _, grownCap_le_maxLen _ _ _ _ hsz, fun o ho hg => ?_⟩
    have ho' := fresh_get ho
    subst ho'
    unfold setRho
    rw [if_pos rfl]
    refine ⟨.inr (by rw [add_own]), ?_, fun h => by cases h⟩
    have := grownCap_ge w s.size 0 el
    simp; omega
  · exact ⟨⟨s.data.toList.map fun b => .y b.toNat, 0, false, 1⟩, by unfold fresh; simp, Nat.le_refl _⟩
  · rw [Lib.bytesWorld_size]; exact Nat.lt_succ_self _
  · have hj' : j < s.size := by have := (List.getElem?_eq_some_iff.1 hj).1; simp at this; omega
    refine ⟨.int .u8 (s.data.toList.getD j 0).toNat, by rw [add_own]; exact Lib.bytesWorld_cell w el s j hj', ?_, rfl⟩
    have hjl : j < s.data.toList.length := by omega
    simp [List.getElem?_eq_getElem hjl] at hj
    subst hj
    simp [VR, List.getD_eq_getElem?_getD, List.getElem?_eq_getElem hjl]
  · simp only [List.mem_map] at hc
    obtain ⟨b, _, rfl⟩ := hc
    trivial
theorem isAgg_int {t : TypeId} {k : IntKind} (hu : P.underlying t = some (.int k)) : (isAgg t).run P w = .ok false w := by simp [isAgg, run_underlying hu]
theorem part_int {t : TypeId} {k : IntKind} {cs : Array Value} {off : Nat} {v : Value} (hu : P.underlying t = some (.int k)) (hc : cs[off]? = some v) : (part t cs off).run P w = .ok v w := by
  simp only [part, Sem.run_bind, isAgg_int hu, Result.andThen_ok, hc]
  simp
theorem eqFields_ints : ∀ (fs : List Field) (k : Nat) (xs ys : List Int), intFields P fs k = true → k + fs.length = xs.length → xs.length = ys.length →
    (Op.eqFields 9999 (xs.map (Value.int .i64)).toArray (ys.map (Value.int .i64)).toArray fs).run P w = .ok (decide (xs.drop k = ys.drop k)) w := by
  intro fs
  induction fs with
  | nil =>
    intro k xs ys _ hk hl
    simp only [List.length_nil, Nat.add_zero] at hk
    rw [List.drop_eq_nil_of_le (by omega), List.drop_eq_nil_of_le (by omega)]
    simp [Op.eqFields]
  | cons f fs ih =>
    intro k xs ys h hk hl
    simp only [intFields, Bool.and_eq_true, bne_iff_ne, ne_eq, beq_iff_eq] at h
    obtain ⟨⟨⟨h1, h2⟩, h3⟩, h4⟩ := h
    simp only [List.length_cons] at hk
    have hkx : k < xs.length := by omega
    have hky : k < ys.length := by omega
    have hih := ih (k + 1) xs ys h4 (by omega) hl
    have hd : xs.drop k = xs[k] :: xs.drop (k + 1) := List.drop_eq_getElem_cons hkx
    have hd' : ys.drop k = ys[k] :: ys.drop (k + 1) := List.drop_eq_getElem_cons hky
    split at h3
    · rename_i kk hu
      have hp1 : (part f.type (xs.map (Value.int .i64)).toArray f.offset).run P w = .ok (.int .i64 xs[k]) w := by
        rw [h2]; exact part_int hu (by rw [List.getElem?_toArray, List.getElem?_map, List.getElem?_eq_getElem hkx]; rfl)
      have hp2 : (part f.type (ys.map (Value.int .i64)).toArray f.offset).run P w = .ok (.int .i64 ys[k]) w := by
        rw [h2]; exact part_int hu (by rw [List.getElem?_toArray, List.getElem?_map, List.getElem?_eq_getElem hky]; rfl)
      have heq : (Op.equalIn 9999 f.type (.int .i64 xs[k]) (.int .i64 ys[k])).run P w = .ok (xs[k] == ys[k]) w := run_equalIn_int w 9998 f.type .i64 kk _ _ hu
      simp only [Op.eqFields, if_pos h1, Sem.run_bind, hp1, hp2, Result.andThen_ok, heq]
      by_cases hx : xs[k] = ys[k]
      · have e1 : (xs[k] == ys[k]) = true := by simpa using hx
        have e2 : decide (xs.drop k = ys.drop k) = decide (xs.drop (k + 1) = ys.drop (k + 1)) := by rw [hd, hd', hx]; simp only [List.cons.injEq, true_and]
        rw [e2]; simp [e1, hih]
      · have e1 : (xs[k] == ys[k]) = false := by simpa using hx
        have e2 : decide (xs.drop k = ys.drop k) = false := by rw [hd, hd']; simp only [List.cons.injEq, hx, false_and, decide_false]
        rw [e2]; simp [e1]
    · cases h3
theorem allInt_R : ∀ {cs : List CV} {vs : List Value}, allInt cs = true → RL (CR ρ H) cs vs → ∃ xs : List Int, cs = xs.map .i ∧ vs = xs.map (Value.int .i64) := by
  intro cs
  induction cs with
  | nil => intro vs _ h; exact ⟨[], rfl, h.nil_inv⟩
  | cons c cs ih =>
    intro vs h hr
    obtain ⟨v, vs, rfl, h1, h2⟩ := hr.cons_inv
    cases c <;> first | (simp [allInt] at h; done) | skip
    rename_i n
    obtain ⟨xs, e1, e2⟩ := ih (by simpa [allInt] using h) h2
    have : v = .int .i64 n := h1.1
    exact ⟨n :: xs, by simp [e1], by simp [e2, this]⟩
theorem map_i_inj {xs ys : List Int} : xs.map CV.i = ys.map CV.i ↔ xs = ys := by
  constructor
  · intro h
    exact (List.map_inj_right (fun a b hab => by injection hab)).1 h
  · rintro rfl; rfl
theorem sim_eqa {op : BinOp} {neg : Bool} {t ty' : TypeId} {n : Nat} {x y : Operand} {cs cs' : List CV} (hn : negOf op neg = true) (hi : intStruct P t n = true) (hx : IR ρ H (.agg cs) (a.eval x)) (hy : IR ρ H (.agg cs') (a.eval y))
    (h1 : cs.length = n) (h2 : cs'.length = n) (h3 : allInt cs = true) (h4 : allInt cs' = true) (hS : Sim w0 ρ H w) :
    Outc w0 ρ H (.c (.b (decide (cs = cs') != neg))) H ((execOp a.eval ⟨d, .binOp op t x y ty', ty, pos, aft, gd⟩).run P w) := by
  obtain ⟨vs, hx, hr⟩ := hx
  obtain ⟨vs', hy, hr'⟩ := hy
  obtain ⟨xs, rfl, rfl⟩ := allInt_R h3 hr
  obtain ⟨ys, rfl, rfl⟩ := allInt_R h4 hr'
  simp only [List.length_map] at h1 h2
  unfold intStruct at hi
  split at hi
  · rename_i fs hu
    simp only [Bool.and_eq_true, beq_iff_eq, Bool.not_eq_true'] at hi
    obtain ⟨⟨⟨i1, i2⟩, i3⟩, i4⟩ := hi
    have hfo : P.fieldsOf t = fs := by simp [Program.fieldsOf, hu]
    have hu' : P.underlying t = some (.struct (P.fieldsOf t)) := by rw [hfo]; exact hu
    have hrun := run_equalIn_struct (P := P) w 9999 t (xs.map (Value.int .i64)).toArray (ys.map (Value.int .i64)).toArray hu' i3
    rw [hfo, eqFields_ints (P := P) (w := w) fs.toList 0 xs ys i2 (by simp; omega) (by omega)] at hrun
    simp only [List.drop_zero] at hrun
    have hg := run_eqGuard_agg (P := P) (w := w) op t x y (xs.map (Value.int .i64)).toArray (ys.map (Value.int .i64)).toArray i4
    have hde : decide (xs.map CV.i = ys.map CV.i) = decide (xs = ys) := by simp only [map_i_inj]
    rw [hde]
    unfold negOf at hn
    split at hn
    · refine Outc.here hS (v := .bool (decide (xs = ys))) ?_ (by simp [IR, VR]) trivial
      have hq := run_eql_struct (P := P) (w := w) t (xs.map (Value.int .i64)).toArray (ys.map (Value.int .i64)).toArray
      rw [hrun] at hq
      simp only [execOp, hx, hy, Sem.run_bind, hg, Result.andThen_ok, hq]
      simp
    · refine Outc.here hS (v := .bool (!decide (xs = ys))) ?_ (by simp [IR, VR]) trivial
      have hq := run_neq_struct (P := P) (w := w) t (xs.map (Value.int .i64)).toArray (ys.map (Value.int .i64)).toArray
      rw [hrun] at hq
      simp only [execOp, hx, hy, Sem.run_bind, hg, Result.andThen_ok, hq]
      simp
    · cases hn
  · cases hi
end
end Go.Proofs.YtgdfgnppeekfjaaGreat.Vm
