/- Equations by which code of the ideal machine is reckoned, and the rule of its loops. No conditions. -/
import Derived.Test.YtgdfgnppeekfjaaGreatVmQ
namespace Go.Proofs.YtgdfgnppeekfjaaGreat.Vm
open Go.RowKit (wrap64)
set_option linter.unusedSimpArgs false
set_option linter.unusedVariables false
@[congr] theorem WP.cong {α : Type} {o o' : Option α} {Q : α → Prop} (h : o = o') : WP o Q = WP o' Q := by rw [h]
@[congr] theorem bind_one {α β : Type} {o o' : Option α} {f : α → Option β} (h : o = o') : o.bind f = o'.bind f := by rw [h]
@[simp] theorem WP_some {α : Type} (r : α) (Q : α → Prop) : WP (some r) Q = Q r := by
  simp only [WP, Option.some.injEq, eq_iff_iff]
  exact ⟨fun ⟨_, h, q⟩ => h ▸ q, fun q => ⟨_, rfl, q⟩⟩
@[simp] theorem WP_none {α : Type} (Q : α → Prop) : WP none Q = False := by
  simp [WP]
@[congr] theorem runOpsD_one {K : OrD} {ops : List VO} {st st' : St} {k : St → Prop} (h : st = st') : runOpsD K ops st k = runOpsD K ops st' k := by rw [h]
@[congr] theorem runOpD_one {K : OrD} {o : VO} {st st' : St} {k : St → Prop} (h : st = st') : runOpD K o st k = runOpD K o st' k := by rw [h]
@[congr] theorem stepD_one {K : OrD} {e e' : Env} {H H' : Hp} {o : VOp} {k : IV × Hp → Prop} (h : e = e') (h2 : H = H') : stepD K e H o k = stepD K e' H' o k := by rw [h, h2]
@[congr] theorem runC_one {K : OrD} {L : List (Nat × VO)} {rs : List (Nat × CV)} {es : List (Nat × Hp)} {st st' : St} {k : St → Prop} (h : st = st') : runC K L rs es st k = runC K L rs es st' k := by rw [h]
@[congr] theorem treeW_one {K : OrD} {t : VT} {st st' : St} {k : St → Prop} (h : st = st') : treeW K t st k = treeW K t st' k := by rw [h]
@[congr] theorem exW_one {K : OrD} {vars : List Nat} {c : VC} {st st' : St} {Q : X × St → Prop} (h : st = st') : exW K vars c st Q = exW K vars c st' Q := by rw [h]
@[congr] theorem loopD_one {f : St → (X × St → Prop) → Prop} {st st' : St} {Q : X × St → Prop} (h : st = st') : loopD f st Q = loopD f st' Q := by rw [h]
@[congr] theorem thenD_one {f : St → Prop} {Q : X × St → Prop} {r r' : X × St} (h : r = r') : thenD f Q r = thenD f Q r' := by rw [h]
@[congr] theorem blockD_one {k : Nat} {Q : X × St → Prop} {r r' : X × St} (h : r = r') : blockD k Q r = blockD k Q r' := by rw [h]
@[congr] theorem finD_one {H : Hp} {res : List (Nat × Option (Option Nat))} {Q : IV × Hp → Prop} {r r' : X × St} (h : r = r') : finD H res Q r = finD H res Q r' := by rw [h]
@[congr] theorem cndP_one {v v' : IV} {A B : Prop} (h : v = v') : cndP v A B = cndP v' A B := by rw [h]
@[congr] theorem callD_one {M : Code} {X0 : OrD} {f : Nat} {as as' : List IV} {H H' : Hp} {Q : IV × Hp → Prop} (h : as = as') (h2 : H = H') : callD M X0 f as H Q = callD M X0 f as' H' Q := by rw [h, h2]
/-! What comes behind, under names, so that it is not gone through ahead of its time. -/
def runK (K : OrD) (r : List VO) (k : St → Prop) : St → Prop := fun s => runOpsD K r s k
@[simp] theorem runK_at (K : OrD) (r : List VO) (k : St → Prop) (s : St) : runK K r k s = runOpsD K r s k := Eq.trans rfl rfl
def putK (k : St → Prop) (e : Env) (d : Option Nat) : IV × Hp → Prop := fun r => k ⟨setD e d r.1, r.2⟩
@[simp] theorem putK_at (k : St → Prop) (e : Env) (d : Option Nat) (v : IV) (H : Hp) : putK k e d (v, H) = k ⟨setD e d v, H⟩ := Eq.trans rfl rfl
def bindK {α β : Type} (f : α → Option β) (Q : β → Prop) : α → Prop := fun r => WP (f r) Q
@[simp] theorem bindK_at {α β : Type} (f : α → Option β) (Q : β → Prop) (r : α) : bindK f Q r = WP (f r) Q := Eq.trans rfl rfl
@[simp] theorem WP_bind {α β : Type} (o : Option α) (f : α → Option β) (Q : β → Prop) : WP (o.bind f) Q = WP o (bindK f Q) := by
  cases o with
  | none => simp [WP]
  | some x => simp [WP_some]
def seqK (K : OrD) (vars : List Nat) (b : VC) (Q : X × St → Prop) : St → Prop := fun s => exW K vars b s Q
@[simp] theorem seqK_at (K : OrD) (vars : List Nat) (b : VC) (Q : X × St → Prop) (s : St) : seqK K vars b Q s = exW K vars b s Q := Eq.trans rfl rfl
def normK (vars : List Nat) (Q : X × St → Prop) : St → Prop := fun s => Q (.norm, prune vars s)
@[simp] theorem normK_at (vars : List Nat) (Q : X × St → Prop) (s : St) : normK vars Q s = Q (.norm, prune vars s) := Eq.trans rfl rfl
def exU (K : OrD) (vars : List Nat) (b : VC) (s : St) (Q : X × St → Prop) : Unit → Prop := fun _ => exW K vars b s Q
@[simp] theorem exU_at (K : OrD) (vars : List Nat) (b : VC) (s : St) (Q : X × St → Prop) (u : Unit) : exU K vars b s Q u = exW K vars b s Q := Eq.trans rfl rfl
def stU (K : OrD) (e : Env) (H : Hp) (o : VOp) (Q : IV × Hp → Prop) : Unit → Prop := fun _ => stepD K e H o Q
@[simp] theorem stU_at (K : OrD) (e : Env) (H : Hp) (o : VOp) (Q : IV × Hp → Prop) (u : Unit) : stU K e H o Q u = stepD K e H o Q := Eq.trans rfl rfl
def kU (k : St → Prop) (s : St) : Unit → Prop := fun _ => k s
@[simp] theorem kU_at (k : St → Prop) (s : St) (u : Unit) : kU k s u = k s := Eq.trans rfl rfl
def cnd (v : IV) (A B : Unit → Prop) : Prop := cndP v (A ()) (B ())
@[congr] theorem cnd_one {v v' : IV} {A B : Unit → Prop} (h : v = v') : cnd v A B = cnd v' A B := by rw [h]
@[simp] theorem cnd_true (A B : Unit → Prop) : cnd (.c (.b true)) A B = A () := Eq.trans rfl rfl
@[simp] theorem cnd_false (A B : Unit → Prop) : cnd (.c (.b false)) A B = B () := Eq.trans rfl rfl
theorem cnd_of {b : Bool} {A B : Unit → Prop} (h1 : b = true → A ()) (h2 : b = false → B ()) : cnd (.c (.b b)) A B := by
  cases b with
  | true => exact h1 rfl
  | false => exact h2 rfl
def chkK (ck : List Nat) (H : Hp) (rs : List (Nat × CV)) (k : St → Prop) : St → Prop := fun s => chkE ck H s.h rs ∧ k s
@[simp] theorem chkK_at (ck : List Nat) (H : Hp) (rs : List (Nat × CV)) (k : St → Prop) (s : St) : chkK ck H rs k s = (chkE ck H s.h rs ∧ k s) := Eq.trans rfl rfl
def chkP (p : Prop) (k : St → Prop) : St → Prop := fun s => p ∧ k s
@[simp] theorem chkP_at (p : Prop) (k : St → Prop) (s : St) : chkP p k s = (p ∧ k s) := Eq.trans rfl rfl
def ordK (K : OrD) (i : Nat) (r : List VO) (rs : List (Nat × CV)) (es : List (Nat × Hp)) (k : St → Prop) : St → Prop := fun s => runC K (enumF i r) rs es s k
@[simp] theorem ordK_at (K : OrD) (i : Nat) (r : List VO) (rs : List (Nat × CV)) (es : List (Nat × Hp)) (k : St → Prop) (s : St) : ordK K i r rs es k s = runC K (enumF i r) rs es s k := Eq.trans rfl rfl
def ordL (K : OrD) (r : List (Nat × VO)) (rs : List (Nat × CV)) (es : List (Nat × Hp)) (k : St → Prop) : St → Prop := fun s => runC K r rs es s k
@[simp] theorem ordL_at (K : OrD) (r : List (Nat × VO)) (rs : List (Nat × CV)) (es : List (Nat × Hp)) (k : St → Prop) (s : St) : ordL K r rs es k s = runC K r rs es s k := Eq.trans rfl rfl
def iff2 {α : Type} (b : Bool) (x y : α) : α := if b = true then x else y
@[simp] theorem iff2_t {α : Type} (x y : α) : iff2 true x y = x := Eq.trans rfl rfl
@[simp] theorem iff2_f {α : Type} (x y : α) : iff2 false x y = y := Eq.trans rfl rfl
@[simp] theorem cndP_true (A B : Prop) : cndP (.c (.b true)) A B = A := Eq.trans rfl rfl
@[simp] theorem cndP_false (A B : Prop) : cndP (.c (.b false)) A B = B := Eq.trans rfl rfl
def grd (v : IV) (w : Bool) (A B : Unit → Prop) : Prop :=
  match v with
  | .c (.b x) => if x = w then A () else B ()
  | .c .und => B ()
  | _ => False
@[simp] theorem grd_und (w : Bool) (A B : Unit → Prop) : grd (.c .und) w A B = B () := Eq.trans rfl rfl
@[congr] theorem grd_one {v v' : IV} {w : Bool} {A B : Unit → Prop} (h : v = v') : grd v w A B = grd v' w A B := by rw [h]
@[simp] theorem grd_tt (A B : Unit → Prop) : grd (.c (.b true)) true A B = A () := by simp [grd]
@[simp] theorem grd_tf (A B : Unit → Prop) : grd (.c (.b true)) false A B = B () := by simp [grd]
@[simp] theorem grd_ft (A B : Unit → Prop) : grd (.c (.b false)) true A B = B () := by simp [grd]
@[simp] theorem grd_ff (A B : Unit → Prop) : grd (.c (.b false)) false A B = A () := by simp [grd]
theorem grd_t {b : Bool} {A B : Unit → Prop} (h1 : b = true → A ()) (h2 : b = false → B ()) : grd (.c (.b b)) true A B := by
  cases b with
  | true => simpa using h1 rfl
  | false => simpa using h2 rfl
theorem grd_f {b : Bool} {A B : Unit → Prop} (h1 : b = false → A ()) (h2 : b = true → B ()) : grd (.c (.b b)) false A B := by
  cases b with
  | true => simpa using h2 rfl
  | false => simpa using h1 rfl
def rdC (H : Hp) (id g off : Nat) : Option CV := (rdOb H id g).bind fun o => o.cells[off]?
def rdN (H : Hp) (id g off n : Nat) : Option (List CV) := (rdOb H id g).bind fun o => if off + n ≤ o.cells.length then some ((o.cells.drop off).take n) else none
section
variable {K : OrD} {vars : List Nat} {e : Env} {H : Hp} {st : St} {Q : X × St → Prop}
@[simp ↓] theorem exW_skip : exW K vars .skip st Q = Q (.norm, st) := Eq.trans rfl rfl
@[simp ↓] theorem exW_rg (ops : List VO) : exW K vars (.rg ops) st Q = runOpsD K ops st (normK vars Q) := Eq.trans rfl rfl
@[simp ↓] theorem exW_rd (ops : List VO) : exW K vars (.rd ops) st Q = runC K (enumF 0 ops) [] [] st (normK vars Q) := Eq.trans rfl rfl
@[simp ↓] theorem exW_rx (ops : List VO) (t : VT) : exW K vars (.rx ops t) st Q = treeW K t st (normK vars Q) := Eq.trans rfl rfl
@[simp ↓] theorem exW_seq (a b : VC) : exW K vars (.seq a b) st Q = exW K vars a st (thenD (seqK K vars b Q) Q) := Eq.trans rfl rfl
@[simp ↓] theorem exW_cond (x : Od) (a b : VC) : exW K vars (.cond x a b) st Q = cnd (x.get st.e) (exU K vars a st Q) (exU K vars b st Q) := Eq.trans rfl rfl
@[simp ↓] theorem exW_block (k : Nat) (c : VC) : exW K vars (.block k c) st Q = exW K vars c st (blockD k Q) := Eq.trans rfl rfl
@[simp ↓] theorem exW_loop (c : VC) : exW K vars (.loop c) st Q = loopD (exW K vars c) st Q := Eq.trans rfl rfl
@[simp ↓] theorem exW_exit (k : Nat) : exW K vars (.exit k) st Q = Q (.exit k, st) := Eq.trans rfl rfl
@[simp ↓] theorem exW_ret : exW K vars .ret st Q = Q (.ret, st) := Eq.trans rfl rfl
@[simp] theorem thenD_norm (f : St → Prop) (s : St) : thenD f Q (.norm, s) = f s := Eq.trans rfl rfl
@[simp] theorem thenD_exit (f : St → Prop) (n : Nat) (s : St) : thenD f Q (.exit n, s) = Q (.exit n, s) := Eq.trans rfl rfl
@[simp] theorem thenD_ret (f : St → Prop) (s : St) : thenD f Q (.ret, s) = Q (.ret, s) := Eq.trans rfl rfl
@[simp] theorem blockD_norm (k : Nat) (s : St) : blockD k Q (.norm, s) = Q (.norm, s) := Eq.trans rfl rfl
@[simp] theorem blockD_exit (k n : Nat) (s : St) : blockD k Q (.exit n, s) = if n = k then Q (.norm, s) else Q (.exit n, s) := Eq.trans rfl rfl
@[simp] theorem blockD_ret (k : Nat) (s : St) : blockD k Q (.ret, s) = Q (.ret, s) := Eq.trans rfl rfl
variable {k : St → Prop}
@[simp ↓] theorem runOpsD_nil : runOpsD K [] st k = k st := Eq.trans rfl rfl
@[simp ↓] theorem runOpsD_cons (o : VO) (r : List VO) : runOpsD K (o :: r) st k = runOpD K o st (runK K r k) := Eq.trans rfl rfl
@[simp ↓] theorem treeW_leaf (l : List (Nat × VO)) : treeW K (.leaf l) st k = runC K l [] [] st k := Eq.trans rfl rfl
@[simp ↓] theorem treeW_split (a b : Nat) (x y : VT) : treeW K (.split a b x y) st k = (treeW K x st k ∧ treeW K y st k) := Eq.trans rfl rfl
@[simp ↓] theorem treeW_all (os : List VO) : treeW K (.all os) st k = RunAllD K os k os.length (List.replicate os.length false) st := Eq.trans rfl rfl
@[simp ↓] theorem runC_nil (rs : List (Nat × CV)) (es : List (Nat × Hp)) : runC K [] rs es st k = k st := Eq.trans rfl rfl
@[simp ↓] theorem runC_enil (i : Nat) (rs : List (Nat × CV)) (es : List (Nat × Hp)) : runC K (enumF i []) rs es st k = k st := Eq.trans rfl rfl
@[simp ↓] theorem runC_E (i : Nat) (o : VO) (r : List VO) (rs : List (Nat × CV)) (es : List (Nat × Hp)) : runC K (enumF i (o :: r)) rs es st k = iff2 (isE o.o)
    (runOpD K o st (chkK o.ck st.h rs (ordK K (i + 1) r rs (iff2 o.rc ((i, st.h) :: es) es) k)))
    (runOpD K o st (chkP (chkR o.ck (rdv st.e o.o) st.h es) (ordK K (i + 1) r (iff2 o.rc ((i, rdv st.e o.o) :: rs) rs) es k))) := Eq.trans rfl rfl
@[simp ↓] theorem runC_L1 (i : Nat) (o : VO) (r : List (Nat × VO)) (rs : List (Nat × CV)) (es : List (Nat × Hp)) : runC K ((i, o) :: r) rs es st k = iff2 (isE o.o)
    (runOpD K o st (chkK o.ck st.h rs (ordL K r rs (iff2 o.rc ((i, st.h) :: es) es) k)))
    (runOpD K o st (chkP (chkR o.ck (rdv st.e o.o) st.h es) (ordL K r (iff2 o.rc ((i, rdv st.e o.o) :: rs) rs) es k))) := Eq.trans rfl rfl
@[congr] theorem iff2_one {α : Type} {b b' : Bool} {x y : α} (h : b = b') : iff2 b x y = iff2 b' x y := by rw [h]
@[simp ↓] theorem runOpD_Vd (dp : List Nat) (x : VO) : runOpD K (Vd dp x) st k = runOpD K x st k := Eq.trans rfl rfl
@[simp ↓] theorem runOpD_Vc (dp ck : List Nat) (rc : Bool) (x : VO) : runOpD K (Vc dp ck rc x) st k = runOpD K x st k := Eq.trans rfl rfl
@[simp] theorem runOpD_none (d : Option Nat) (o : VOp) (dp ck : List Nat) (rc : Bool) : runOpD K ⟨d, o, none, dp, ck, rc⟩ st k = stepD K st.e st.h o (putK k st.e d) := Eq.trans rfl rfl
@[simp] theorem runOpD_some (d : Option Nat) (o : VOp) (s : Nat) (want : Bool) (dp ck : List Nat) (rc : Bool) : runOpD K ⟨d, o, some (s, want), dp, ck, rc⟩ st k = grd (Env.get st.e s) want
    (stU K st.e st.h o (putK k st.e d)) (kU k ⟨setD st.e d (.c .und), st.h⟩) := by
  simp only [runOpD, grd]
  generalize Env.get st.e s = u
  cases u with
  | c v => cases v <;> rfl
  | _ => rfl
@[simp] theorem chkE_nil (ck : List Nat) (H H' : Hp) : chkE ck H H' [] = True := Eq.trans rfl rfl
@[simp] theorem chkE_cons (ck : List Nat) (H H' : Hp) (q : Nat × CV) (r : List (Nat × CV)) : chkE ck H H' (q :: r) = ((q.1 ∈ ck → sameAt q.2 H H') ∧ chkE ck H H' r) := Eq.trans rfl rfl
theorem chkE_all (H H' : Hp) : ∀ r, chkE [] H H' r
  | [] => trivial
  | q :: r => ⟨fun h => by simp at h, chkE_all H H' r⟩
@[simp] theorem chkE_ck (H H' : Hp) (r : List (Nat × CV)) : chkE [] H H' r = True := eq_true (chkE_all H H' r)
@[simp] theorem chkR_nil (ck : List Nat) (v : CV) (H' : Hp) : chkR ck v H' [] = True := Eq.trans rfl rfl
@[simp] theorem chkR_cons (ck : List Nat) (v : CV) (H' : Hp) (q : Nat × Hp) (r : List (Nat × Hp)) : chkR ck v H' (q :: r) = ((q.1 ∈ ck → sameAt v q.2 H') ∧ chkR ck v H' r) := Eq.trans rfl rfl
theorem chkR_all (v : CV) (H' : Hp) : ∀ r, chkR [] v H' r
  | [] => trivial
  | q :: r => ⟨fun h => by simp at h, chkR_all v H' r⟩
@[simp] theorem chkR_ck (v : CV) (H' : Hp) (r : List (Nat × Hp)) : chkR [] v H' r = True := eq_true (chkR_all v H' r)
@[simp] theorem sameAt_p (id g off : Nat) (H H' : Hp) : sameAt (.p id g off) H H' = (rdOb H' id g = rdOb H id g) := Eq.trans rfl rfl
@[simp] theorem sameAt_sl (id g off n : Nat) (H H' : Hp) : sameAt (.sl id g off n) H H' = (rdOb H' id g = rdOb H id g) := Eq.trans rfl rfl
@[simp] theorem sameAt_non (H H' : Hp) : sameAt .non H H' = True := Eq.trans rfl rfl
@[simp] theorem sameAt_und (H H' : Hp) : sameAt .und H H' = True := Eq.trans rfl rfl
@[simp] theorem sameAt_self (v : CV) (H : Hp) : sameAt v H H = True := by cases v <;> simp [sameAt]
@[simp] theorem sameAt_ns (H H' : Hp) : sameAt .ns H H' = True := Eq.trans rfl rfl
@[simp] theorem rv_ld (n : Option Nat) (a : Od) : rdv e (.ld n a) = match a.get e with | .c v => v | _ => .non := Eq.trans rfl rfl
@[simp] theorem rv_slc (sz : Nat) (x : Od) (lo hi : Option Od) : rdv e (.slc sz x lo hi) = match x.get e with | .c v => v | _ => .non := Eq.trans rfl rfl
end
section
variable {K : OrD} {e : Env} {H : Hp} {Q : IV × Hp → Prop}
@[simp] theorem sd_mv (x : Od) : stepD K e H (.mv x) Q = WP (stepV noK e H (.mv x)) Q := Eq.trans rfl rfl
@[simp] theorem sd_pick (a b c : Od) : stepD K e H (.pick a b c) Q = WP (stepV noK e H (.pick a b c)) Q := Eq.trans rfl rfl
@[simp] theorem sd_alloc (zs : List CV) : stepD K e H (.alloc zs) Q = WP (stepV noK e H (.alloc zs)) Q := Eq.trans rfl rfl
@[simp] theorem sd_box (x : Od) : stepD K e H (.box x) Q = WP (stepV noK e H (.box x)) Q := Eq.trans rfl rfl
@[simp] theorem sd_build (zs : List CV) (ps : List (Nat × Nat × Od)) : stepD K e H (.build zs ps) Q = WP (stepV noK e H (.build zs ps)) Q := Eq.trans rfl rfl
@[simp] theorem sd_bsl (sz : Nat) (zs : List CV) (n : Nat) (ps : List (Nat × Nat × Od)) : stepD K e H (.bsl sz zs n ps) Q = WP (stepV noK e H (.bsl sz zs n ps)) Q := Eq.trans rfl rfl
@[simp] theorem sd_ld (n : Option Nat) (a : Od) : stepD K e H (.ld n a) Q = WP (stepV noK e H (.ld n a)) Q := Eq.trans rfl rfl
@[simp] theorem sd_st (n : Nat) (a x : Od) : stepD K e H (.st n a x) Q = WP (stepV noK e H (.st n a x)) Q := Eq.trans rfl rfl
@[simp] theorem sd_nilc (x : Od) : stepD K e H (.nilc x) Q = WP (stepV noK e H (.nilc x)) Q := Eq.trans rfl rfl
@[simp] theorem sd_bin (o : Bo) (x y : Od) : stepD K e H (.bin o x y) Q = WP (stepV noK e H (.bin o x y)) Q := Eq.trans rfl rfl
@[simp] theorem sd_shk (l : Bool) (n : Nat) (x : Od) : stepD K e H (.shk l n x) Q = WP (stepV noK e H (.shk l n x)) Q := Eq.trans rfl rfl
@[simp] theorem sd_bck (a b c d : Od) : stepD K e H (.bck a b c d) Q = WP (stepV noK e H (.bck a b c d)) Q := Eq.trans rfl rfl
@[simp] theorem sd_eqa (n : Nat) (g : Bool) (x y : Od) : stepD K e H (.eqa n g x y) Q = WP (stepV noK e H (.eqa n g x y)) Q := Eq.trans rfl rfl
@[simp] theorem sd_eqb (g : Bool) (x y : Od) : stepD K e H (.eqb g x y) Q = WP (stepV noK e H (.eqb g x y)) Q := Eq.trans rfl rfl
@[simp] theorem sd_eqn (g : Bool) (x : Od) : stepD K e H (.eqn g x) Q = WP (stepV noK e H (.eqn g x)) Q := Eq.trans rfl rfl
@[simp] theorem sd_not (x : Od) : stepD K e H (.not x) Q = WP (stepV noK e H (.not x)) Q := Eq.trans rfl rfl
@[simp] theorem sd_b2i (x : Od) : stepD K e H (.b2i x) Q = WP (stepV noK e H (.b2i x)) Q := Eq.trans rfl rfl
@[simp] theorem sd_s2b (x : Od) : stepD K e H (.s2b x) Q = WP (stepV noK e H (.s2b x)) Q := Eq.trans rfl rfl
@[simp] theorem sd_mks (sz : Nat) (zs : List CV) (x : Od) : stepD K e H (.mks sz zs x) Q = WP (stepV noK e H (.mks sz zs x)) Q := Eq.trans rfl rfl
@[simp] theorem sd_slc (sz : Nat) (x : Od) (lo hi : Option Od) : stepD K e H (.slc sz x lo hi) Q = WP (stepV noK e H (.slc sz x lo hi)) Q := Eq.trans rfl rfl
@[simp] theorem sd_fad (o : Nat) (x : Od) : stepD K e H (.fad o x) Q = WP (stepV noK e H (.fad o x)) Q := Eq.trans rfl rfl
@[simp] theorem sd_idx (sz : Nat) (x i : Od) : stepD K e H (.idx sz x i) Q = WP (stepV noK e H (.idx sz x i)) Q := Eq.trans rfl rfl
@[simp] theorem sd_ext (k : Nat) (x : Od) : stepD K e H (.ext k x) Q = WP (stepV noK e H (.ext k x)) Q := Eq.trans rfl rfl
@[simp] theorem sd_mkf (f : Nat) (cs : List Od) : stepD K e H (.mkf f cs) Q = WP (stepV noK e H (.mkf f cs)) Q := Eq.trans rfl rfl
@[simp] theorem sd_app (sz : Nat) (x y : Od) : stepD K e H (.app sz x y) Q = WP (stepV noK e H (.app sz x y)) Q := Eq.trans rfl rfl
@[simp] theorem sd_len (x : Od) : stepD K e H (.len x) Q = WP (stepV noK e H (.len x)) Q := Eq.trans rfl rfl
@[simp] theorem sd_lens (x : Od) : stepD K e H (.lens x) Q = WP (stepV noK e H (.lens x)) Q := Eq.trans rfl rfl
@[simp] theorem sd_mn (x y : Od) : stepD K e H (.mn x y) Q = WP (stepV noK e H (.mn x y)) Q := Eq.trans rfl rfl
@[simp] theorem sd_mx (x y : Od) : stepD K e H (.mx x y) Q = WP (stepV noK e H (.mx x y)) Q := Eq.trans rfl rfl
@[simp] theorem sd_clr (sz : Nat) (zs : List CV) (x : Od) : stepD K e H (.clr sz zs x) Q = WP (stepV noK e H (.clr sz zs x)) Q := Eq.trans rfl rfl
@[simp] theorem sd_call (f : Nat) (xs : List Od) : stepD K e H (.call f xs) Q = K f (xs.map (Od.get e)) H Q := Eq.trans rfl rfl
@[simp] theorem sd_clv (x : Od) (xs : List Od) : stepD K e H (.clv x xs) Q = match x.get e with
    | .f fid caps => K fid (xs.map (Od.get e) ++ caps.map .c) H Q
    | _ => False := Eq.trans rfl rfl
@[simp] theorem ie_call (f : Nat) (xs : List Od) : isE (.call f xs) = true := rfl
@[simp] theorem ie_clv (x : Od) (xs : List Od) : isE (.clv x xs) = true := Eq.trans rfl rfl
@[simp] theorem rv_call (f : Nat) (xs : List Od) : rdv e (.call f xs) = .non := Eq.trans rfl rfl
@[simp] theorem rv_clv (x : Od) (xs : List Od) : rdv e (.clv x xs) = .non := Eq.trans rfl rfl
@[simp] theorem ie_mv (x : Od) : isE (.mv x) = false := Eq.trans rfl rfl
@[simp] theorem rv_mv (x : Od) : rdv e (.mv x) = .non := Eq.trans rfl rfl
@[simp] theorem ie_pick (a b c : Od) : isE (.pick a b c) = false := Eq.trans rfl rfl
@[simp] theorem rv_pick (a b c : Od) : rdv e (.pick a b c) = .non := Eq.trans rfl rfl
@[simp] theorem ie_alloc (zs : List CV) : isE (.alloc zs) = true := Eq.trans rfl rfl
@[simp] theorem rv_alloc (zs : List CV) : rdv e (.alloc zs) = .non := Eq.trans rfl rfl
@[simp] theorem ie_box (x : Od) : isE (.box x) = true := Eq.trans rfl rfl
@[simp] theorem rv_box (x : Od) : rdv e (.box x) = .non := Eq.trans rfl rfl
@[simp] theorem ie_build (zs : List CV) (ps : List (Nat × Nat × Od)) : isE (.build zs ps) = false := Eq.trans rfl rfl
@[simp] theorem rv_build (zs : List CV) (ps : List (Nat × Nat × Od)) : rdv e (.build zs ps) = .non := Eq.trans rfl rfl
@[simp] theorem ie_bsl (sz : Nat) (zs : List CV) (n : Nat) (ps : List (Nat × Nat × Od)) : isE (.bsl sz zs n ps) = true := Eq.trans rfl rfl
@[simp] theorem rv_bsl (sz : Nat) (zs : List CV) (n : Nat) (ps : List (Nat × Nat × Od)) : rdv e (.bsl sz zs n ps) = .non := Eq.trans rfl rfl
@[simp] theorem ie_ld (n : Option Nat) (a : Od) : isE (.ld n a) = false := Eq.trans rfl rfl
@[simp] theorem ie_st (n : Nat) (a x : Od) : isE (.st n a x) = true := rfl
@[simp] theorem rv_st (n : Nat) (a x : Od) : rdv e (.st n a x) = .non := Eq.trans rfl rfl
@[simp] theorem ie_nilc (x : Od) : isE (.nilc x) = false := Eq.trans rfl rfl
@[simp] theorem rv_nilc (x : Od) : rdv e (.nilc x) = .non := Eq.trans rfl rfl
@[simp] theorem ie_bin (o : Bo) (x y : Od) : isE (.bin o x y) = false := Eq.trans rfl rfl
@[simp] theorem rv_bin (o : Bo) (x y : Od) : rdv e (.bin o x y) = .non := Eq.trans rfl rfl
@[simp] theorem ie_shk (l : Bool) (n : Nat) (x : Od) : isE (.shk l n x) = false := Eq.trans rfl rfl
@[simp] theorem rv_shk (l : Bool) (n : Nat) (x : Od) : rdv e (.shk l n x) = .non := Eq.trans rfl rfl
@[simp] theorem ie_bck (a b c d : Od) : isE (.bck a b c d) = false := Eq.trans rfl rfl
@[simp] theorem rv_bck (a b c d : Od) : rdv e (.bck a b c d) = .non := Eq.trans rfl rfl
@[simp] theorem ie_eqa (n : Nat) (g : Bool) (x y : Od) : isE (.eqa n g x y) = false := Eq.trans rfl rfl
@[simp] theorem rv_eqa (n : Nat) (g : Bool) (x y : Od) : rdv e (.eqa n g x y) = .non := Eq.trans rfl rfl
@[simp] theorem ie_eqb (g : Bool) (x y : Od) : isE (.eqb g x y) = false := Eq.trans rfl rfl
@[simp] theorem rv_eqb (g : Bool) (x y : Od) : rdv e (.eqb g x y) = .non := Eq.trans rfl rfl
@[simp] theorem ie_eqn (g : Bool) (x : Od) : isE (.eqn g x) = false := Eq.trans rfl rfl
@[simp] theorem rv_eqn (g : Bool) (x : Od) : rdv e (.eqn g x) = .non := Eq.trans rfl rfl
@[simp] theorem ie_not (x : Od) : isE (.not x) = false := Eq.trans rfl rfl
@[simp] theorem rv_not (x : Od) : rdv e (.not x) = .non := Eq.trans rfl rfl
@[simp] theorem ie_b2i (x : Od) : isE (.b2i x) = false := Eq.trans rfl rfl
@[simp] theorem rv_b2i (x : Od) : rdv e (.b2i x) = .non := Eq.trans rfl rfl
@[simp] theorem ie_s2b (x : Od) : isE (.s2b x) = true := Eq.trans rfl rfl
@[simp] theorem rv_s2b (x : Od) : rdv e (.s2b x) = .non := Eq.trans rfl rfl
@[simp] theorem ie_mks (sz : Nat) (zs : List CV) (x : Od) : isE (.mks sz zs x) = true := Eq.trans rfl rfl
@[simp] theorem rv_mks (sz : Nat) (zs : List CV) (x : Od) : rdv e (.mks sz zs x) = .non := Eq.trans rfl rfl
@[simp] theorem ie_slc (sz : Nat) (x : Od) (lo hi : Option Od) : isE (.slc sz x lo hi) = false := Eq.trans rfl rfl
@[simp] theorem ie_fad (o : Nat) (x : Od) : isE (.fad o x) = false := rfl
@[simp] theorem rv_fad (o : Nat) (x : Od) : rdv e (.fad o x) = .non := Eq.trans rfl rfl
@[simp] theorem ie_idx (sz : Nat) (x i : Od) : isE (.idx sz x i) = false := Eq.trans rfl rfl
@[simp] theorem rv_idx (sz : Nat) (x i : Od) : rdv e (.idx sz x i) = .non := Eq.trans rfl rfl
@[simp] theorem ie_ext (k : Nat) (x : Od) : isE (.ext k x) = false := Eq.trans rfl rfl
@[simp] theorem rv_ext (k : Nat) (x : Od) : rdv e (.ext k x) = .non := Eq.trans rfl rfl
@[simp] theorem ie_mkf (f : Nat) (cs : List Od) : isE (.mkf f cs) = false := Eq.trans rfl rfl
@[simp] theorem rv_mkf (f : Nat) (cs : List Od) : rdv e (.mkf f cs) = .non := Eq.trans rfl rfl
@[simp] theorem ie_app (sz : Nat) (x y : Od) : isE (.app sz x y) = true := Eq.trans rfl rfl
@[simp] theorem rv_app (sz : Nat) (x y : Od) : rdv e (.app sz x y) = .non := Eq.trans rfl rfl
@[simp] theorem ie_len (x : Od) : isE (.len x) = false := Eq.trans rfl rfl
@[simp] theorem rv_len (x : Od) : rdv e (.len x) = .non := Eq.trans rfl rfl
@[simp] theorem ie_lens (x : Od) : isE (.lens x) = false := Eq.trans rfl rfl
@[simp] theorem rv_lens (x : Od) : rdv e (.lens x) = .non := Eq.trans rfl rfl
@[simp] theorem ie_mn (x y : Od) : isE (.mn x y) = false := Eq.trans rfl rfl
@[simp] theorem rv_mn (x y : Od) : rdv e (.mn x y) = .non := Eq.trans rfl rfl
@[simp] theorem ie_mx (x y : Od) : isE (.mx x y) = false := Eq.trans rfl rfl
@[simp] theorem rv_mx (x y : Od) : rdv e (.mx x y) = .non := Eq.trans rfl rfl
@[simp] theorem ie_clr (sz : Nat) (zs : List CV) (x : Od) : isE (.clr sz zs x) = true := Eq.trans rfl rfl
@[simp] theorem rv_clr (sz : Nat) (zs : List CV) (x : Od) : rdv e (.clr sz zs x) = .non := Eq.trans rfl rfl
end
section
variable {vars : List Nat} {e : Env} {H : Hp} {st : St}
@[simp] theorem setD_none (v : IV) : setD e none v = e := Eq.trans rfl rfl
@[simp] theorem setD_some (d : Nat) (v : IV) : setD e (some d) v = (d, v) :: e := Eq.trans rfl rfl
@[simp] theorem get_nil (n : Nat) : Env.get [] n = .c .non := Eq.trans rfl rfl
@[simp] theorem get_cons (k n : Nat) (v : IV) : Env.get ((k, v) :: e) n = if k = n then v else Env.get e n := Eq.trans rfl rfl
@[simp] theorem od_t (n : Nat) : (Od.t n).get e = Env.get e n := Eq.trans rfl rfl
@[simp] theorem od_k (v : IV) : (Od.k v).get e = v := Eq.trans rfl rfl
@[simp] theorem prune_h (vars : List Nat) : prune vars st = ⟨vars.map fun k => (k, Env.get st.e k), st.h⟩ := Eq.trans rfl rfl
@[simp] theorem enter_eq (vars : List Nat) (args : List IV) : enter vars args = vars.map fun k => (k, args.getD k (.c .non)) := Eq.trans rfl rfl
@[simp] theorem fresh_eq (cs : List CV) (rw : Bool) (sz : Nat) : fresh H cs rw sz = H ++ [⟨cs, 0, rw, sz⟩] := Eq.trans rfl rfl
@[simp] theorem natI (m n : Nat) : ((m : Int) = n) = (m = n) := by simp only [eq_iff_iff]; omega
def lenOf : CV → Option Nat
  | .sl _ _ _ n => some n
  | .ns => some 0
  | _ => none
def idxOf (sz : Nat) : CV → Int → Option CV
  | .sl id g off len, k => if 0 ≤ k ∧ k < len then some (.p id g (off + k.toNat * sz)) else none
  | _, _ => none
@[simp] theorem lenOf_sl (id g off n : Nat) : lenOf (.sl id g off n) = some n := Eq.trans rfl rfl
@[simp] theorem lenOf_ns : lenOf .ns = some 0 := Eq.trans rfl rfl
@[simp] theorem idxOf_sl (sz id g off n : Nat) (k : Int) : idxOf sz (.sl id g off n) k = if 0 ≤ k ∧ k < n then some (.p id g (off + k.toNat * sz)) else none := Eq.trans rfl rfl
@[simp] theorem st_len (x : Od) : stepV noK e H (.len x) = match x.get e with
    | .c v => (lenOf v).bind fun n => some (.c (.i n), H)
    | _ => none := by
  simp only [stepV]
  cases x.get e with
  | c v => cases v <;> rfl
  | _ => rfl
@[simp] theorem st_idx (sz : Nat) (x i : Od) : stepV noK e H (.idx sz x i) = match x.get e, i.get e with
    | .c v, .c (.i k) => (idxOf sz v k).bind fun q => some (.c q, H)
    | _, _ => none := by
  simp only [stepV]
  cases x.get e with
  | c v =>
    cases i.get e with
    | c k =>
      cases v <;> cases k <;> try rfl
      simp only [idxOf]
      split <;> rfl
    | _ => cases v <;> rfl
  | _ => rfl
@[simp] theorem st_mv (x : Od) : stepV noK e H (.mv x) = some (x.get e, H) := Eq.trans rfl rfl
@[simp] theorem st_pick (c a b : Od) : stepV noK e H (.pick c a b) = match c.get e with
    | .c (.b true) => some (a.get e, H)
    | .c (.b false) => some (b.get e, H)
    | _ => none := Eq.trans rfl rfl
@[simp] theorem st_alloc (zs : List CV) : stepV noK e H (.alloc zs) = some (.c (.p H.length 0 0), fresh H zs true zs.length) := Eq.trans rfl rfl
@[simp] theorem st_box (x : Od) : stepV noK e H (.box x) = (cellsOf (x.get e)).bind fun cs => some (.c (.p H.length 0 0), fresh H cs true cs.length) := Eq.trans rfl rfl
@[simp] theorem st_build (zs : List CV) (ps : List (Nat × Nat × Od)) : stepV noK e H (.build zs ps) = (partsOf e ps).bind fun ps => (lay zs ps).bind fun cs => some (.agg cs, H) := Eq.trans rfl rfl
@[simp] theorem st_bsl (sz : Nat) (zs : List CV) (n : Nat) (ps : List (Nat × Nat × Od)) : stepV noK e H (.bsl sz zs n ps) = (partsOf e ps).bind fun ps => (lay (List.replicate n zs).flatten ps).bind fun cs =>
      some (.c (.sl H.length 0 0 n), fresh H cs true sz) := Eq.trans rfl rfl
@[simp] theorem st_ld1 (a : Od) : stepV noK e H (.ld none a) = match a.get e with
    | .c (.p id g off) => (rdC H id g off).bind fun v => some (.c v, H)
    | _ => none := by
  simp only [stepV, rdC]
  generalize a.get e = u
  cases u with
  | c v =>
    cases v with
    | p id g off => simp only; cases rdOb H id g <;> rfl
    | _ => rfl
  | _ => rfl
@[simp] theorem st_ldn (n : Nat) (a : Od) : stepV noK e H (.ld (some n) a) = match a.get e with
    | .c (.p id g off) => (rdN H id g off n).bind fun cs => some (.agg cs, H)
    | _ => none := by
  simp only [stepV, rdN]
  generalize a.get e = u
  cases u with
  | c v =>
    cases v with
    | p id g off =>
      simp only
      cases rdOb H id g with
      | none => rfl
      | some o => simp only [Option.bind_some]; by_cases h : off + n ≤ o.cells.length <;> simp [h]
    | _ => rfl
  | _ => rfl
@[simp] theorem st_st (n : Nat) (a x : Od) : stepV noK e H (.st n a x) = match a.get e with
    | .c (.p id g off) => (rdOb H id g).bind fun o => (cellsOf (x.get e)).bind fun cs =>
        if o.rw = true ∧ cs.length = n ∧ off + n ≤ o.cells.length then some (.c .non, H.set id { o with cells := putAt o.cells off cs }) else none
    | _ => none := Eq.trans rfl rfl
@[simp] theorem st_nilc (x : Od) : stepV noK e H (.nilc x) = match x.get e with
    | .c (.p id g off) => some (.c (.p id g off), H)
    | _ => none := Eq.trans rfl rfl
@[simp] theorem st_bin (o : Bo) (x y : Od) : stepV noK e H (.bin o x y) = match x.get e, y.get e with
    | .c a, .c b => (evalBin o a b).bind fun v => some (.c v, H)
    | _, _ => none := Eq.trans rfl rfl
@[simp] theorem st_shk (l : Bool) (n : Nat) (x : Od) : stepV noK e H (.shk l n x) = match x.get e with
    | .c (.i a) => if n ≤ 64 then some (.c (.i (if l = true then wrap64 (a * 2 ^ n) else a / 2 ^ n)), H) else none
    | _ => none := Eq.trans rfl rfl
@[simp] theorem st_bck (x lo hi mx : Od) : stepV noK e H (.bck x lo hi mx) = match x.get e, lo.get e, hi.get e, mx.get e with
    | .c (.sl _ _ _ len), .c (.i l), .c (.i h), .c (.i m) => if 0 ≤ l ∧ l ≤ h ∧ h ≤ m ∧ m ≤ len then some (.c .non, H) else none
    | _, _, _, _ => none := Eq.trans rfl rfl
@[simp] theorem st_eqa (n : Nat) (neg : Bool) (x y : Od) : stepV noK e H (.eqa n neg x y) = match x.get e, y.get e with
    | .agg xs, .agg ys => if xs.length = n ∧ ys.length = n ∧ allInt xs = true ∧ allInt ys = true then some (.c (.b (decide (xs = ys) != neg)), H) else none
    | _, _ => none := Eq.trans rfl rfl
@[simp] theorem st_eqb (neg : Bool) (x y : Od) : stepV noK e H (.eqb neg x y) = match x.get e, y.get e with
    | .c (.b a), .c (.b b) => some (.c (.b ((a == b) != neg)), H)
    | _, _ => none := Eq.trans rfl rfl
@[simp] theorem st_eqn (neg : Bool) (x : Od) : stepV noK e H (.eqn neg x) = match x.get e with
    | .c .ns => some (.c (.b (!neg)), H)
    | .c (.sl ..) => some (.c (.b neg), H)
    | _ => none := Eq.trans rfl rfl
@[simp] theorem st_not (x : Od) : stepV noK e H (.not x) = match x.get e with
    | .c (.b v) => some (.c (.b (!v)), H)
    | _ => none := Eq.trans rfl rfl
@[simp] theorem st_b2i (x : Od) : stepV noK e H (.b2i x) = match x.get e with
    | .c (.y n) => some (.c (.i (wrap64 n)), H)
    | _ => none := Eq.trans rfl rfl
@[simp] theorem st_s2b (x : Od) : stepV noK e H (.s2b x) = match x.get e with
    | .c (.s v) => if v.size ≤ LIM then some (.c (.sl H.length 0 0 v.size), fresh H (v.data.toList.map fun b => .y b.toNat) false 1) else none
    | _ => none := Eq.trans rfl rfl
@[simp] theorem st_mks (sz : Nat) (zs : List CV) (x : Od) : stepV noK e H (.mks sz zs x) = match x.get e with
    | .c (.i n) => if 0 ≤ n ∧ n.toNat * sz ≤ LIM then some (.c (.sl H.length 0 0 n.toNat), fresh H (List.replicate n.toNat zs).flatten true sz) else none
    | _ => none := Eq.trans rfl rfl
@[simp] theorem st_slc (sz : Nat) (x : Od) (lo hi : Option Od) : stepV noK e H (.slc sz x lo hi) = match x.get e with
    | .c v => (doSlice H sz v (lo.map (Od.get e)) (hi.map (Od.get e))).bind fun r => some (r, H)
    | _ => none := Eq.trans rfl rfl
@[simp] theorem st_fad (off : Nat) (x : Od) : stepV noK e H (.fad off x) = match x.get e with
    | .c (.p id g o) => some (.c (.p id g (o + off)), H)
    | _ => none := Eq.trans rfl rfl
@[simp] theorem st_ext (k : Nat) (x : Od) : stepV noK e H (.ext k x) = match x.get e with
    | .tup xs => (xs[k]?).bind fun t => (ivOf t).bind fun v => some (v, H)
    | _ => none := Eq.trans rfl rfl
@[simp] theorem st_mkf (f : Nat) (xs : List Od) : stepV noK e H (.mkf f xs) = (capsOf e xs).bind fun vs => some (.f f vs, H) := Eq.trans rfl rfl
@[simp] theorem st_app (sz : Nat) (x y : Od) : stepV noK e H (.app sz x y) = match x.get e, y.get e with
    | .c a, .c b => (srcOf H sz b).bind fun ms => doApp H sz a ms.1 ms.2
    | _, _ => none := Eq.trans rfl rfl
@[simp] theorem st_lens (x : Od) : stepV noK e H (.lens x) = match x.get e with
    | .c (.s v) => some (.c (.i v.size), H)
    | _ => none := Eq.trans rfl rfl
@[simp] theorem st_mn (x y : Od) : stepV noK e H (.mn x y) = match x.get e, y.get e with
    | .c (.i a), .c (.i b) => some (.c (.i (if b < a then b else a)), H)
    | _, _ => none := Eq.trans rfl rfl
@[simp] theorem st_mx (x y : Od) : stepV noK e H (.mx x y) = match x.get e, y.get e with
    | .c (.i a), .c (.i b) => some (.c (.i (if a < b then b else a)), H)
    | _, _ => none := Eq.trans rfl rfl
@[simp] theorem st_clr (sz : Nat) (zs : List CV) (x : Od) : stepV noK e H (.clr sz zs x) = match x.get e with
    | .c .ns => some (.tup [], H)
    | .c (.sl id g off len) => (rdOb H id g).bind fun o =>
        if o.rw = true ∧ off + len * sz ≤ o.cells.length then some (.tup [], H.set id { o with cells := putAt o.cells off (List.replicate len zs).flatten }) else none
    | _ => none := Eq.trans rfl rfl
section
variable (a b : Int) (x y : Bool) (s t : ByteArray)
@[simp] theorem ev_add : evalBin .add (.i a) (.i b) = some (.i (wrap64 (a + b))) := Eq.trans rfl rfl
@[simp] theorem ev_sub : evalBin .sub (.i a) (.i b) = some (.i (wrap64 (a - b))) := Eq.trans rfl rfl
@[simp] theorem ev_mul : evalBin .mul (.i a) (.i b) = some (.i (wrap64 (a * b))) := Eq.trans rfl rfl
@[simp] theorem ev_quo : evalBin .quo (.i a) (.i b) = if b = 0 then none else some (.i (wrap64 (a.tdiv b))) := Eq.trans rfl rfl
@[simp] theorem ev_rem : evalBin .rem (.i a) (.i b) = if b = 0 then none else some (.i (a.tmod b)) := Eq.trans rfl rfl
@[simp] theorem ev_and : evalBin .and (.i a) (.i b) = some (.i (bits .and .i64 a b)) := Eq.trans rfl rfl
@[simp] theorem ev_or : evalBin .or (.i a) (.i b) = some (.i (bits .or .i64 a b)) := Eq.trans rfl rfl
@[simp] theorem ev_xor : evalBin .xor (.i a) (.i b) = some (.i (bits .xor .i64 a b)) := Eq.trans rfl rfl
@[simp] theorem ev_shl : evalBin .shl (.i a) (.i b) = if 0 ≤ b ∧ b ≤ 64 then some (.i (wrap64 (a * 2 ^ b.toNat))) else none := Eq.trans rfl rfl
@[simp] theorem ev_shr : evalBin .shr (.i a) (.i b) = if 0 ≤ b ∧ b ≤ 64 then some (.i (a / 2 ^ b.toNat)) else none := Eq.trans rfl rfl
@[simp] theorem ev_eq : evalBin .eq (.i a) (.i b) = some (.b (decide (a = b))) := Eq.trans rfl rfl
@[simp] theorem ev_ne : evalBin .ne (.i a) (.i b) = some (.b (decide (a ≠ b))) := by simp only [evalBin]; congr 2; by_cases h : a = b <;> simp [h]
@[simp] theorem ev_lt : evalBin .lt (.i a) (.i b) = some (.b (decide (a < b))) := Eq.trans rfl rfl
@[simp] theorem ev_le : evalBin .le (.i a) (.i b) = some (.b (decide (a ≤ b))) := Eq.trans rfl rfl
@[simp] theorem ev_gt : evalBin .gt (.i a) (.i b) = some (.b (decide (b < a))) := Eq.trans rfl rfl
@[simp] theorem ev_ge : evalBin .ge (.i a) (.i b) = some (.b (decide (b ≤ a))) := Eq.trans rfl rfl
@[simp] theorem ev_yeq : evalBin .eq (.y a) (.y b) = some (.b (decide (a = b))) := Eq.trans rfl rfl
@[simp] theorem ev_yne : evalBin .ne (.y a) (.y b) = some (.b (decide (a ≠ b))) := by simp only [evalBin]; congr 2; by_cases h : a = b <;> simp [h]
@[simp] theorem ev_seq : evalBin .eq (.s s) (.s t) = some (.b (s == t)) := Eq.trans rfl rfl
@[simp] theorem ev_sne : evalBin .ne (.s s) (.s t) = some (.b (!(s == t))) := Eq.trans rfl rfl
end
attribute [simp] cellsOf tcOf ivOf partsOf capsOf lay resultOf ressOf flatV flatC allInt
@[simp] theorem resOf_none (st : St) (s : Nat) : resOf st (s, none) = some (Env.get st.e s) := Eq.trans rfl rfl
@[simp] theorem resOf_one (st : St) (s : Nat) : resOf st (s, some none) = match Env.get st.e s with
    | .c (.p id g off) => (rdC st.h id g off).bind fun v => some (.c v)
    | _ => none := by
  show (stepV noK st.e st.h (.ld none (.t s))).bind (fun r => some r.1) = _
  rw [st_ld1]
  simp only [od_t]
  generalize Env.get st.e s = u
  cases u with
  | c v =>
    cases v with
    | p id g off => simp only; cases rdC st.h id g off <;> rfl
    | _ => rfl
  | _ => rfl
@[simp] theorem resOf_many (st : St) (s n : Nat) : resOf st (s, some (some n)) = match Env.get st.e s with
    | .c (.p id g off) => (rdN st.h id g off n).bind fun v => some (.agg v)
    | _ => none := by
  show (stepV noK st.e st.h (.ld (some n) (.t s))).bind (fun r => some r.1) = _
  rw [st_ldn]
  simp only [od_t]
  generalize Env.get st.e s = u
  cases u with
  | c v =>
    cases v with
    | p id g off => simp only; cases rdN st.h id g off n <;> rfl
    | _ => rfl
  | _ => rfl
@[simp] theorem finD_norm (H : Hp) (res : List (Nat × Option (Option Nat))) (Q : IV × Hp → Prop) (s : St) : finD H res Q (.norm, s) = WP (resultOf s res) fun v => Q (gcRet H v s.h) := Eq.trans rfl rfl
@[simp] theorem finD_ret (H : Hp) (res : List (Nat × Option (Option Nat))) (Q : IV × Hp → Prop) (s : St) : finD H res Q (.ret, s) = WP (resultOf s res) fun v => Q (gcRet H v s.h) := Eq.trans rfl rfl
end
def NQ (Q : X × St → Prop) (r : X × St) : Prop := match r.1 with
  | .norm => False
  | x => Q (x, r.2)
@[simp] theorem NQ_norm (Q : X × St → Prop) (s : St) : NQ Q (.norm, s) = False := Eq.trans rfl rfl
@[simp] theorem NQ_exit (Q : X × St → Prop) (n : Nat) (s : St) : NQ Q (.exit n, s) = Q (.exit n, s) := Eq.trans rfl rfl
@[simp] theorem NQ_ret (Q : X × St → Prop) (s : St) : NQ Q (.ret, s) = Q (.ret, s) := Eq.trans rfl rfl
theorem exW_le {K : OrD} (hm : MonoK K) {vars : List Nat} : ∀ {c : VC} {st : St} {Q Q' : X × St → Prop}, (∀ r, Q r → Q' r) → exW K vars c st Q → exW K vars c st Q' := by
  intro c
  induction c with
  | skip => intro st Q Q' hq hs; exact hq _ hs
  | exit k => intro st Q Q' hq hs; exact hq _ hs
  | ret => intro st Q Q' hq hs; exact hq _ hs
  | rg ops => intro st Q Q' hq hs; exact runOpsD_le hm.le (fun s => hq _) hs
  | rd ops => intro st Q Q' hq hs; exact runC_mono hm (fun s => hq _) hs
  | rx ops t => intro st Q Q' hq hs; exact treeW_mono hm (fun s => hq _) hs
  | seq a b iha ihb => intro st Q Q' hq hs; exact iha (fun r => thenD_mono (fun s => ihb hq) hq) hs
  | cond x a b iha ihb =>
    intro st Q Q' hq hs
    simp only [exW, cndP] at hs ⊢
    split at hs
    · exact iha hq hs
    · exact ihb hq hs
    · exact hs
  | block k c ih => intro st Q Q' hq hs; exact ih (fun r => blockD_mono hq) hs
  | loop c ih => intro st Q Q' hq hs; exact loopD_mono (f := exW K vars c) (f' := exW K vars c) (fun s Q Q' hq => ih hq) hq hs
theorem wp_loop {K : OrD} (hm : MonoK K) {vars : List Nat} {c : VC} {Q : X × St → Prop} (Inv : Nat → St → Prop) {k : Nat} {s : St} (h0 : Inv k s)
    (h : ∀ k s, Inv k s → exW K vars c s (thenD (fun t => ∃ k', k' < k ∧ Inv k' t) Q)) : loopD (exW K vars c) s Q := by
  intro I hI
  have key : ∀ k s, Inv k s → I s := by
    intro k
    induction k using Nat.strongRecOn with
    | _ k ih =>
      intro s hs
      exact hI s (exW_le hm (fun r => thenD_mono (fun t ⟨k', h1, h2⟩ => ih k' h1 t h2) (fun _ => id)) (h k s hs))
  exact key k s h0
theorem wp_for {K : OrD} (hm : MonoK K) {vars : List Nat} {c : VC} {Q : X × St → Prop} (n : Nat) (I : Nat → St → Prop) {s : St} (h0 : I 0 s)
    (step : ∀ i s, i < n → I i s → exW K vars c s (thenD (I (i + 1)) Q)) (done : ∀ s, I n s → exW K vars c s (NQ Q)) : loopD (exW K vars c) s Q := by
  refine wp_loop hm (fun k s => ∃ i, i + k = n ∧ I i s) (k := n) ⟨0, by omega, h0⟩ ?_
  rintro k s ⟨i, hi, hs⟩
  by_cases hin : i < n
  · exact exW_le hm (fun r => thenD_mono (fun t ht => ⟨k - 1, by omega, i + 1, by omega, ht⟩) (fun _ => id)) (step i s hin hs)
  · obtain rfl : i = n := by omega
    refine exW_le hm (fun r hr => ?_) (done s hs)
    obtain ⟨x, t⟩ := r
    cases x with
    | norm => exact hr.elim
    | exit m => exact hr
    | ret => exact hr
/-! ### Rows of numbers -/
theorem Sl.lenOf {H : Hp} {sz n : Nat} {v : CV} {cs : List CV} (h : Sl H sz v n cs) : lenOf v = some n := by
  rcases h with ⟨rfl, rfl, _⟩ | ⟨id, g, off, o, rfl, _⟩ <;> rfl
theorem Sl.get {H : Hp} {sz n : Nat} {v : CV} {cs : List CV} (h : Sl H sz v n cs) {k : Nat} (hk : k < n) :
    ∃ id g off o, idxOf sz v (k : Int) = some (.p id g off) ∧ rdOb H id g = some o ∧ off + sz ≤ o.cells.length ∧ ∀ j, j < sz → o.cells[off + j]? = cs[k * sz + j]? := by
  obtain ⟨id, g, off, o, rfl, h1, h2⟩ := h.at_ (by omega)
  refine ⟨id, g, off + k * sz, o, by simp [hk], h1, ?_, fun j hj => ?_⟩
  · by_cases h0 : 0 < sz
    · exact (h2 k 0 hk h0).1
    · have hz : sz = 0 := by omega
      subst hz
      rcases h with ⟨h, _⟩ | ⟨id', g', off', o', h3, h4, h5, h6, h7⟩
      · cases h
      · cases h3; rw [h1] at h4; injection h4 with h4; subst h4; simpa using h6
  · exact (h2 k j hk hj).2
theorem IsI.lenOf {H : Hp} {v : CV} {xs : List Int} (h : IsI H v xs) : lenOf v = some xs.length := Sl.lenOf h
theorem IsI.get {H : Hp} {v : CV} {xs : List Int} (h : IsI H v xs) {k : Nat} (hk : k < xs.length) :
    ∃ id g off o, idxOf 1 v (k : Int) = some (.p id g off) ∧ rdOb H id g = some o ∧ o.cells[off]? = some (.i xs[k]) := by
  obtain ⟨id, g, off, o, h1, h2, _, h3⟩ := Sl.get h hk
  refine ⟨id, g, off, o, h1, h2, ?_⟩
  have := h3 0 (by omega)
  simpa [hk] using this
theorem wrap64_id {n : Int} (h : -9223372036854775808 ≤ n ∧ n ≤ 9223372036854775807) : wrap64 n = n := by unfold wrap64; omega
end Go.Proofs.YtgdfgnppeekfjaaGreat.Vm
