import Derived.Test.YtgdfgnppeekfjaaGreatP8
import Derived.Test.YtgdfgnppeekfjaaGreatQy
import Derived.Test.YtgdfgnppeekfjaaGreatP9
section
/- Programs split. Plain. No conditions. -/
namespace Go.Proofs.YtgdfgnppeekfjaaGreat.Vm
set_option linter.unusedSimpArgs false
set_option linter.unusedVariables false
theorem crit0_in {f : FnR} {a : ArmR} (h : a ∈ crit0 f) : shapeB f = true ∧ ∃ i k : Nat, a = ⟨i, k⟩ ∧ i < f.blocks.length ∧ k < f.blocks.length ∧ (k : Int) ∈ succsAt f.blocks i ∧ (succsAt f.blocks i).length = 2 ∧ hot f.blocks k = true := by
  cases hsh : shapeB f with
  | false => unfold crit0 at h; rw [hsh] at h; simp at h
  | true =>
    unfold crit0 at h
    rw [if_pos hsh] at h
    unfold critTo at h
    rw [List.mem_flatMap] at h
    obtain ⟨i, hi, h⟩ := h
    rw [List.mem_range] at hi
    unfold critAt at h
    by_cases h2 : 1 < (succsAt f.blocks i).length
    · rw [if_pos h2] at h
      unfold critIn at h
      rw [List.take_length, List.mem_map] at h
      obtain ⟨k, hk, rfl⟩ := h
      rw [List.mem_filter] at hk
      have hr := shape_range hsh i k hk.1
      have h3 := succsAt_two f.blocks i
      refine ⟨rfl, i, k.toNat, by rw [Int.toNat_of_nonneg hr.1], hi, by omega, by rw [Int.toNat_of_nonneg hr.1]; exact hk.1, by omega, by rw [Int.toNat_of_nonneg hr.1]; exact hk.2⟩
    · rw [if_neg h2] at h; cases h
def turnA (fr at_ : Int) (a : ArmR) : ArmR := if a.fr = fr then ⟨at_, a.v⟩ else a
def turnP (fr at_ : Int) (p : PhiR) : PhiR := ⟨p.d, p.arms.map (turnA fr at_)⟩
def turnT (k at_ : Int) (t : TrmR) : TrmR := ⟨t.kind, t.a, if t.to = k then at_ else t.to, if t.els = k then at_ else t.els⟩
def splitN (bs : List BlkR) (k : Int) : List BlkR := bs ++ [⟨[], [], ⟨1, 0, k, 0⟩⟩]
def setT (bs : List BlkR) (u : Nat) (t : TrmR) : List BlkR := bs.set u ⟨(bs.getD u blk0).phis, (bs.getD u blk0).list, t⟩
def setP (bs : List BlkR) (k : Nat) (ps : List PhiR) : List BlkR := bs.set k ⟨ps, (bs.getD k blk0).list, (bs.getD k blk0).term⟩
def splitE (bs : List BlkR) (e : ArmR) : List BlkR :=
  setP (setT (splitN bs e.v) e.fr.toNat (turnT e.v bs.length ((splitN bs e.v).getD e.fr.toNat blk0).term)) e.v.toNat
    (((setT (splitN bs e.v) e.fr.toNat (turnT e.v bs.length ((splitN bs e.v).getD e.fr.toNat blk0).term)).getD e.v.toNat blk0).phis.map (turnP e.fr bs.length))
noncomputable def split0 (f : FnR) : FnR := if checkF f = 0 ∧ f.blocks.length + (crit0 f).length ≤ 16 then ⟨(crit0 f).foldl splitE f.blocks, f.values⟩ else f
noncomputable def splitOk (f : FnR) : Bool := pB (checkF f = 0 ∧ f.blocks.length + (crit0 f).length ≤ 16)
theorem setT_len (bs : List BlkR) (u : Nat) (t : TrmR) : (setT bs u t).length = bs.length := by simp [setT]
theorem setP_len (bs : List BlkR) (u : Nat) (t : List PhiR) : (setP bs u t).length = bs.length := by simp [setP]
theorem splitN_len (bs : List BlkR) (k : Int) : (splitN bs k).length = bs.length + 1 := by simp [splitN]
theorem splitE_len (bs : List BlkR) (e : ArmR) : (splitE bs e).length = bs.length + 1 := by unfold splitE; rw [setP_len, setT_len, splitN_len]
theorem splits_len : ∀ (es : List ArmR) (bs : List BlkR), (es.foldl splitE bs).length = bs.length + es.length := by
  intro es
  induction es with
  | nil => intro bs; rfl
  | cons e r ih => intro bs; rw [List.foldl_cons, ih, splitE_len]; simp; omega
theorem split0_le {f : FnR} (hb : f.blocks.length ≤ BIG) : (split0 f).blocks.length ≤ BIG := by
  unfold split0
  split
  · rename_i h
    simp only
    rw [splits_len]; simp only [BIG]; omega
  · exact hb
end Go.Proofs.YtgdfgnppeekfjaaGreat.Vm
end
section
/- Edges split: the arms of phis turned, by both. No conditions. -/
namespace Go.Proofs.YtgdfgnppeekfjaaGreat.Vm
open Go.RowKit (wrap64)
set_option linter.unusedSimpArgs false
set_option linter.unusedVariables false
set_option maxRecDepth 100000 in
theorem armsIn {G : Nat → Prop} {Y0 : Hp} {o7 o11 : Nat} {wa : CV} {fr vv at_ d : Int} {as_ : List ArmR} {e : Env} {Q : X × St → Prop} {x2 x4 x5 x31 x32 x33 x83 x84 x85 : IV}
    (h0 : FRow armF 2 Y0 wa as_ G) (hb : as_.length ≤ BIG) (hGb : ∀ j, G j → j < Y0.length) (h7 : rdOb Y0 o7 0 = some ⟨[.i fr, .i vv], 0, true, 2⟩) (h11 : rdOb Y0 o11 0 = some ⟨[.i d, wa], 0, true, 2⟩) (hG7 : ¬ G o7) (hG11 : ¬ G o11)
    (e2 : Env.get e 2 = x2) (e4 : Env.get e 4 = x4) (e5 : Env.get e 5 = x5) (e31 : Env.get e 31 = x31) (e32 : Env.get e 32 = x32) (e33 : Env.get e 33 = x33) (e83 : Env.get e 83 = x83) (e84 : Env.get e 84 = x84) (e85 : Env.get e 85 = x85)
    (e7 : Env.get e 7 = .c (.p o7 0 0)) (e8 : Env.get e 8 = .c (.i at_)) (e11 : Env.get e 11 = .c (.p o11 0 0)) (e90 : Env.get e 90 = .c wa) (e91 : Env.get e 91 = .c (.i as_.length)) (e92 : Env.get e 92 = .c (.i 0))
    (hQ : ∀ (Y : Hp) (e' : Env), FRow armF 2 Y wa (as_.map (turnA fr at_)) G → Frm (fun j => j < Y0.length ∧ ¬ G j) Y0 Y → Y0.length ≤ Y.length →
      Env.get e' 2 = x2 → Env.get e' 4 = x4 → Env.get e' 5 = x5 → Env.get e' 31 = x31 → Env.get e' 32 = x32 → Env.get e' 33 = x33 → Env.get e' 83 = x83 → Env.get e' 84 = x84 → Env.get e' 85 = x85 → Env.get e' 7 = .c (.p o7 0 0) → Env.get e' 8 = .c (.i at_) → Q (.exit 4, ⟨e', Y⟩)) :
    loopD (exW CM [0, 1, 2, 3, 4, 5, 7, 8, 9, 11, 12, 13, 29, 31, 32, 33, 34, 61, 72, 83, 84, 85, 86, 90, 91, 92, 93, 101] vf47b0) ⟨e, Y0⟩ Q := by
  obtain ⟨I, hI⟩ : ∃ I : Nat → St → Prop, ∀ i s, I i s ↔ (FRow armF 2 s.h wa ((as_.take i).map (turnA fr at_) ++ as_.drop i) G ∧ Frm (fun j => j < Y0.length ∧ ¬ G j) Y0 s.h ∧ Y0.length ≤ s.h.length ∧
      Env.get s.e 2 = x2 ∧ Env.get s.e 4 = x4 ∧ Env.get s.e 5 = x5 ∧ Env.get s.e 31 = x31 ∧ Env.get s.e 32 = x32 ∧ Env.get s.e 33 = x33 ∧ Env.get s.e 83 = x83 ∧ Env.get s.e 84 = x84 ∧ Env.get s.e 85 = x85 ∧ Env.get s.e 7 = .c (.p o7 0 0) ∧ Env.get s.e 8 = .c (.i at_) ∧
      Env.get s.e 11 = .c (.p o11 0 0) ∧ Env.get s.e 90 = .c wa ∧ Env.get s.e 91 = .c (.i as_.length) ∧ Env.get s.e 92 = .c (.i i)) := ⟨_, fun _ _ => Iff.rfl⟩
  have hl7 := rdOb_lt h7
  have hl11 := rdOb_lt h11
  refine wp_for CM_mono as_.length I ((hI _ ⟨_, _⟩).2 ⟨by simpa using h0, Frm.refl _ _, Nat.le_refl _, e2, e4, e5, e31, e32, e33, e83, e84, e85, e7, e8, e11, e90, e91, e92⟩) ?_ ?_
  · rintro i ⟨e0, Y⟩ hi hIs
    obtain ⟨hR, hf, hl, f2, f4, f5, f31, f32, f33, f83, f84, f85, f7, f8, f11, f90, f91, f92⟩ := (hI _ _).1 hIs
    simp only at hR hf hl f2 f4 f5 f31 f32 f33 f83 f84 f85 f7 f8 f11 f90 f91 f92 ⊢
    obtain ⟨a, ha⟩ : ∃ a, as_[i] = a := ⟨_, rfl⟩
    rw [drop_mid hi, ha] at hR
    obtain ⟨A, hA⟩ : ∃ A, (as_.take i).map (turnA fr at_) = A := ⟨_, rfl⟩
    have hAl : A.length = i := by rw [← hA]; simp; omega
    have hAs : (as_.take (i + 1)).map (turnA fr at_) = A ++ [turnA fr at_ a] := by rw [List.take_succ_eq_append_getElem hi, List.map_append, hA, ha]; rfl
    rw [hA] at hR
    obtain ⟨rid, rg, cs, G', r1, r2, r3, r4⟩ := hR.readS hAl
    have r3 : cs = armC a := r3
    subst r3
    have r2' : rdN Y rid rg (i * 2) 2 = some [.i a.fr, .i a.v] := r2
    obtain ⟨Y1, hY1⟩ : ∃ Y1, Y ++ [(⟨[.i a.fr, .i a.v], 0, true, 2⟩ : Ob)] = Y1 := ⟨_, rfl⟩
    have hp1 : Pre Y Y1 := ⟨_, hY1.symm⟩
    have l1 : Y1.length = Y.length + 1 := by rw [← hY1]; simp
    have n1 : rdOb Y1 Y.length 0 = some ⟨[.i a.fr, .i a.v], 0, true, 2⟩ := by rw [← hY1]; simp
    have hR1 := hR.fr armF_st (Frm.pre hp1)
    have k7 := hp1.rdOb (hf.ob ⟨hl7, hG7⟩ h7)
    have k11 := hp1.rdOb (hf.ob ⟨hl11, hG11⟩ h11)
    have hend : ∀ (Z : Hp) (e' : Env) (a' : ArmR), turnA fr at_ a = a' → FRow armF 2 Z wa (A ++ a' :: as_.drop (i + 1)) G → Frm (fun j => j < Y0.length ∧ ¬ G j) Y0 Z → Y0.length ≤ Z.length →
        (Env.get e' 2 = x2 ∧ Env.get e' 4 = x4 ∧ Env.get e' 5 = x5 ∧ Env.get e' 31 = x31 ∧ Env.get e' 32 = x32 ∧ Env.get e' 33 = x33 ∧ Env.get e' 83 = x83 ∧ Env.get e' 84 = x84 ∧ Env.get e' 85 = x85 ∧ Env.get e' 7 = .c (.p o7 0 0) ∧ Env.get e' 8 = .c (.i at_) ∧
          Env.get e' 11 = .c (.p o11 0 0) ∧ Env.get e' 90 = .c wa ∧ Env.get e' 91 = .c (.i as_.length) ∧ Env.get e' 92 = .c (.i (i + 1 : Nat))) → I (i + 1) ⟨e', Z⟩ := by
      intro Z e' a' ha' h1 h2 h3 he
      refine (hI _ ⟨_, _⟩).2 ⟨?_, h2, h3, he⟩
      rw [hAs, ha']
      simpa using h1
    unfold vf47b0
    cases hq : decide (a.fr = fr) with
    | true =>
      have ht : turnA fr at_ a = ⟨at_, a.v⟩ := by unfold turnA; rw [if_pos (of_decide_eq_true hq)]
      obtain ⟨id, g, cells, Z, s1, s2, s3, s4, s5, s6, s7⟩ := hR1.fieldS armF_st hAl 0 (by omega) (.i at_) ⟨at_, a.v⟩ (fun Z cs G h => by have h : cs = armC _ := h; subst h; rfl)
      rw [Nat.add_zero] at s3 s4
      have ep : id = rid ∧ g = rg := by have e := s1.symm.trans r1; injection e with e; injection e with e1 e2; exact ⟨e1, e2⟩
      obtain ⟨rfl, rfl⟩ := ep
      simp [f2, f4, f5, f31, f32, f33, f83, f84, f85, f7, f8, f11, f90, f91, f92, hi, r1, r2', p20, p21, p22, hY1, rdC_ob n1, rdC_ob k7, hq, rdC_ob k11, s2, s3, s4, up1 hi hb]
      refine hend _ _ _ ht s5 (hf.trans ((Frm.pre hp1).trans (s6.mono fun j hj => hj.2))) (by omega) ?_
      simp
    | false =>
      have ht : turnA fr at_ a = a := by unfold turnA; rw [if_neg (of_decide_eq_false hq)]
      simp [f2, f4, f5, f31, f32, f33, f83, f84, f85, f7, f8, f11, f90, f91, f92, hi, r1, r2', p20, p21, p22, hY1, rdC_ob n1, rdC_ob k7, hq, up1 hi hb]
      refine hend _ _ _ ht hR1 (hf.trans (Frm.pre hp1)) (by omega) ?_
      simp
  · rintro ⟨e0, Y⟩ hIs
    obtain ⟨hR, hf, hl, f2, f4, f5, f31, f32, f33, f83, f84, f85, f7, f8, f11, f90, f91, f92⟩ := (hI _ _).1 hIs
    simp only at hR hf hl f2 f4 f5 f31 f32 f33 f83 f84 f85 f7 f8 f11 f90 f91 f92 ⊢
    rw [List.take_length, List.drop_length, List.append_nil] at hR
    unfold vf47b0
    simp [f2, f4, f5, f31, f32, f33, f83, f84, f85, f7, f8, f11, f90, f91, f92]
    exact hQ Y _ hR hf hl (by simp) (by simp) (by simp) (by simp) (by simp) (by simp) (by simp) (by simp) (by simp) (by simp) (by simp)
set_option maxRecDepth 100000 in
theorem phisIn {G : Nat → Prop} {Y0 : Hp} {o7 : Nat} {z : CV} {fr vv at_ : Int} {ps : List PhiR} {e : Env} {Q : X × St → Prop} {x2 x4 x5 x31 x32 x33 : IV}
    (h0 : FRow phiF 2 Y0 z ps G) (hb : ps.length ≤ BIG) (hGb : ∀ j, G j → j < Y0.length) (h7 : rdOb Y0 o7 0 = some ⟨[.i fr, .i vv], 0, true, 2⟩) (hG7 : ¬ G o7)
    (e2 : Env.get e 2 = x2) (e4 : Env.get e 4 = x4) (e5 : Env.get e 5 = x5) (e31 : Env.get e 31 = x31) (e32 : Env.get e 32 = x32) (e33 : Env.get e 33 = x33) (e83 : Env.get e 83 = .c z) (e84 : Env.get e 84 = .c (.i ps.length)) (e85 : Env.get e 85 = .c (.i 0))
    (e7 : Env.get e 7 = .c (.p o7 0 0)) (e8 : Env.get e 8 = .c (.i at_))
    (hQ : ∀ (Y : Hp) (e' : Env), FRow phiF 2 Y z (ps.map (turnP fr at_)) G → Frm (fun j => j < Y0.length ∧ ¬ G j) Y0 Y → Y0.length ≤ Y.length →
      Env.get e' 2 = x2 → Env.get e' 4 = x4 → Env.get e' 5 = x5 → Env.get e' 31 = x31 → Env.get e' 32 = x32 → Env.get e' 33 = x33 → Q (.exit 2, ⟨e', Y⟩)) :
    loopD (exW CM [0, 1, 2, 3, 4, 5, 7, 8, 9, 11, 12, 13, 29, 31, 32, 33, 34, 61, 72, 83, 84, 85, 86, 90, 91, 92, 93, 101] vf47b1) ⟨e, Y0⟩ Q := by
  obtain ⟨I, hI⟩ : ∃ I : Nat → St → Prop, ∀ i s, I i s ↔ (FRow phiF 2 s.h z ((ps.take i).map (turnP fr at_) ++ ps.drop i) G ∧ Frm (fun j => j < Y0.length ∧ ¬ G j) Y0 s.h ∧ Y0.length ≤ s.h.length ∧
      Env.get s.e 2 = x2 ∧ Env.get s.e 4 = x4 ∧ Env.get s.e 5 = x5 ∧ Env.get s.e 31 = x31 ∧ Env.get s.e 32 = x32 ∧ Env.get s.e 33 = x33 ∧ Env.get s.e 83 = .c z ∧ Env.get s.e 84 = .c (.i ps.length) ∧ Env.get s.e 85 = .c (.i i) ∧ Env.get s.e 7 = .c (.p o7 0 0) ∧ Env.get s.e 8 = .c (.i at_)) := ⟨_, fun _ _ => Iff.rfl⟩
  have hl7 := rdOb_lt h7
  refine wp_for CM_mono ps.length I ((hI _ ⟨_, _⟩).2 ⟨by simpa using h0, Frm.refl _ _, Nat.le_refl _, e2, e4, e5, e31, e32, e33, e83, e84, e85, e7, e8⟩) ?_ ?_
  · rintro i ⟨e0, Y⟩ hi hIs
    obtain ⟨hR, hf, hl, f2, f4, f5, f31, f32, f33, f83, f84, f85, f7, f8⟩ := (hI _ _).1 hIs
    simp only at hR hf hl f2 f4 f5 f31 f32 f33 f83 f84 f85 f7 f8 ⊢
    obtain ⟨p, hp⟩ : ∃ p, ps[i] = p := ⟨_, rfl⟩
    rw [drop_mid hi, hp] at hR
    obtain ⟨A, hA⟩ : ∃ A, (ps.take i).map (turnP fr at_) = A := ⟨_, rfl⟩
    have hAl : A.length = i := by rw [← hA]; simp; omega
    have hAs : (ps.take (i + 1)).map (turnP fr at_) = A ++ [turnP fr at_ p] := by rw [List.take_succ_eq_append_getElem hi, List.map_append, hA, hp]; rfl
    rw [hA] at hR
    obtain ⟨rid, rg, cs, G', r1, r2, r3, r4⟩ := hR.readS hAl
    obtain ⟨wa, rfl, _, _⟩ := r3
    obtain ⟨Y1, hY1⟩ : ∃ Y1, Y ++ [(⟨[.i p.d, wa], 0, true, 2⟩ : Ob)] = Y1 := ⟨_, rfl⟩
    have hp1 : Pre Y Y1 := ⟨_, hY1.symm⟩
    have l1 : Y1.length = Y.length + 1 := by rw [← hY1]; simp
    have n1 : rdOb Y1 Y.length 0 = some ⟨[.i p.d, wa], 0, true, 2⟩ := by rw [← hY1]; simp
    have hR1 := hR.fr phiF_st (Frm.pre hp1)
    have k7 := hp1.rdOb (hf.ob ⟨hl7, hG7⟩ h7)
    obtain ⟨id, g, cs, Ga, s1, s2, s3, s4, s5, s6⟩ := hR1.nestS phiF_st hAl
    obtain ⟨wa', rfl, har, hab⟩ := s4
    have ep : id = rid ∧ g = rg := by have e := s1.symm.trans r1; injection e with e; injection e with e1 e2; exact ⟨e1, e2⟩
    obtain ⟨rfl, rfl⟩ := ep
    have hwa : wa' = wa := by
      have h1 := s3 1 _ rfl
      have h2 := rdN_to hp1 r2
      unfold rdC at h1
      unfold rdN at h2
      cases ho : rdOb Y1 id g with
      | none => rw [ho] at h1; cases h1
      | some o =>
        rw [ho] at h1 h2
        simp only [Option.bind_some] at h1 h2
        split at h2
        · injection h2 with h2
          have h3 : ((o.cells.drop (i * 2)).take 2)[1]? = some wa := by rw [h2]; rfl
          rw [List.getElem?_take, if_pos (by omega), List.getElem?_drop, h1] at h3
          injection h3
        · cases h2
    subst hwa
    have hlw := har.lenOf
    unfold vf47b1
    simp [f2, f4, f5, f31, f32, f33, f83, f84, f85, f7, f8, hi, r1, r2, p20, p21, p22, hY1, rdC_ob n1, hlw]
    refine armsIn (o7 := o7) (o11 := Y.length) (G := Ga) (as_ := p.arms) (fr := fr) (at_ := at_) (vv := vv) (d := p.d) (x2 := x2) (x4 := x4) (x5 := x5) (x31 := x31) (x32 := x32) (x33 := x33) (x83 := .c z) (x84 := .c (.i ps.length)) (x85 := .c (.i i))
      har hab (fun j hj => by have := hGb _ (s5 j hj).1; omega) k7 n1 (fun h => hG7 (s5 _ h).1) (fun h => by have := hGb _ (s5 _ h).1; omega) (by simp) (by simp) (by simp) (by simp) (by simp) (by simp) (by simp) (by simp) (by simp) (by simp) (by simp) (by simp) (by simp) (by simp) (by simp) ?_
    intro Z e' hZ hfZ hlZ g2 g4 g5 g31 g32 g33 g83 g84 g85 g7 g8
    simp [g2, g4, g5, g31, g32, g33, g83, g84, g85, g7, g8, up1 hi hb]
    refine (hI _ ⟨_, _⟩).2 ⟨?_, hf.trans ((Frm.pre hp1).trans (hfZ.mono fun j hj => ⟨by omega, fun h => hj.2 (s5 j h).1⟩)), by simp only; omega, by simp [g2, g4, g5, g31, g32, g33, g83, g84, g85, g7, g8]⟩
    rw [hAs]
    have := s6 Z (turnP fr at_ p) hlZ (hfZ.monoL fun j hj h => ⟨hj, h.2⟩) ⟨wa', rfl, hZ, by simp [turnP]; exact hab⟩
    simpa using this
  · rintro ⟨e0, Y⟩ hIs
    obtain ⟨hR, hf, hl, f2, f4, f5, f31, f32, f33, f83, f84, f85, f7, f8⟩ := (hI _ _).1 hIs
    simp only at hR hf hl f2 f4 f5 f31 f32 f33 f83 f84 f85 f7 f8 ⊢
    rw [List.take_length, List.drop_length, List.append_nil] at hR
    unfold vf47b1
    simp [f2, f4, f5, f31, f32, f33, f83, f84, f85, f7, f8]
    exact hQ Y _ hR hf hl (by simp) (by simp) (by simp) (by simp) (by simp) (by simp)
end Go.Proofs.YtgdfgnppeekfjaaGreat.Vm
end
section
/- Edges split: the arms of phis turned, by the specification. No conditions. -/
namespace Go.Proofs.YtgdfgnppeekfjaaGreat.Vm
open Go.RowKit (wrap64)
set_option linter.unusedSimpArgs false
set_option linter.unusedVariables false
set_option maxRecDepth 100000 in
theorem armsInS {G : Nat → Prop} {Y0 : Hp} {o7 idp gp k : Nat} {z wa : CV} {fr vv at_ : Int} {as_ : List ArmR} {e : Env} {Q : X × St → Prop} {x2 x4 x5 x6 : IV}
    (h0 : FRow armF 2 Y0 wa as_ G) (hb : as_.length ≤ BIG) (h7 : rdOb Y0 o7 0 = some ⟨[.i fr, .i vv], 0, true, 2⟩) (hG7 : ¬ G o7) (hix : idxOf 2 z (k : Int) = some (.p idp gp (k * 2))) (hwa : rdC Y0 idp gp (k * 2 + 1) = some wa) (hGp : ¬ G idp)
    (e2 : Env.get e 2 = x2) (e4 : Env.get e 4 = x4) (e5 : Env.get e 5 = x5) (e6 : Env.get e 6 = x6)
    (e7 : Env.get e 7 = .c (.p o7 0 0)) (e8 : Env.get e 8 = .c (.i at_)) (e10 : Env.get e 10 = .c z) (e11 : Env.get e 11 = .c (.i k)) (e12 : Env.get e 12 = .c (.i 0))
    (hQ : ∀ (Y : Hp) (e' : Env), FRow armF 2 Y wa (as_.map (turnA fr at_)) G → Frm (fun j => j < Y0.length ∧ ¬ G j) Y0 Y → Y0.length ≤ Y.length →
      Env.get e' 2 = x2 → Env.get e' 4 = x4 → Env.get e' 5 = x5 → Env.get e' 6 = x6 → Env.get e' 7 = .c (.p o7 0 0) → Env.get e' 8 = .c (.i at_) → Env.get e' 10 = .c z → Env.get e' 11 = .c (.i k) → Q (.exit 4, ⟨e', Y⟩)) :
    loopD (exW CM [0, 1, 2, 3, 4, 5, 6, 7, 8, 9, 10, 11, 12, 17, 27, 32, 62, 69, 89, 99, 113] vf46b0) ⟨e, Y0⟩ Q := by
  obtain ⟨I, hI⟩ : ∃ I : Nat → St → Prop, ∀ i s, I i s ↔ (FRow armF 2 s.h wa ((as_.take i).map (turnA fr at_) ++ as_.drop i) G ∧ Frm (fun j => j < Y0.length ∧ ¬ G j) Y0 s.h ∧ Y0.length ≤ s.h.length ∧
      Env.get s.e 2 = x2 ∧ Env.get s.e 4 = x4 ∧ Env.get s.e 5 = x5 ∧ Env.get s.e 6 = x6 ∧ Env.get s.e 7 = .c (.p o7 0 0) ∧ Env.get s.e 8 = .c (.i at_) ∧ Env.get s.e 10 = .c z ∧ Env.get s.e 11 = .c (.i k) ∧ Env.get s.e 12 = .c (.i i)) := ⟨_, fun _ _ => Iff.rfl⟩
  have hl7 := rdOb_lt h7
  obtain ⟨oz, hoz⟩ := rdOb_of_rdC hwa
  have hlz := rdOb_lt hoz
  refine wp_for CM_mono as_.length I ((hI _ ⟨_, _⟩).2 ⟨by simpa using h0, Frm.refl _ _, Nat.le_refl _, e2, e4, e5, e6, e7, e8, e10, e11, e12⟩) ?_ ?_
  · rintro i ⟨e0, Y⟩ hi hIs
    obtain ⟨hR, hf, hl, f2, f4, f5, f6, f7, f8, f10, f11, f12⟩ := (hI _ _).1 hIs
    simp only at hR hf hl f2 f4 f5 f6 f7 f8 f10 f11 f12 ⊢
    obtain ⟨a, ha⟩ : ∃ a, as_[i] = a := ⟨_, rfl⟩
    rw [drop_mid hi, ha] at hR
    obtain ⟨A, hA⟩ : ∃ A, (as_.take i).map (turnA fr at_) = A := ⟨_, rfl⟩
    have hAl : A.length = i := by rw [← hA]; simp; omega
    have hAs : (as_.take (i + 1)).map (turnA fr at_) = A ++ [turnA fr at_ a] := by rw [List.take_succ_eq_append_getElem hi, List.map_append, hA, ha]; rfl
    rw [hA] at hR
    obtain ⟨rid, rg, cs, G', r1, r2, r3, r4⟩ := hR.readS hAl
    have r3 : cs = armC a := r3
    subst r3
    have hlR := hR.lenOf
    rw [show (A ++ a :: as_.drop (i + 1)).length = as_.length by simp; omega] at hlR
    have r2c : rdC Y rid rg (i * 2) = some (.i a.fr) := by
      unfold rdN at r2; unfold rdC
      cases ho : rdOb Y rid rg with
      | none => rw [ho] at r2; cases r2
      | some o =>
        rw [ho] at r2
        simp only [Option.bind_some] at r2 ⊢
        split at r2
        · injection r2 with r2
          have h3 : ((o.cells.drop (i * 2)).take 2)[0]? = some (.i a.fr) := by rw [r2]; rfl
          rw [List.getElem?_take, if_pos (by omega), List.getElem?_drop] at h3
          exact h3
        · cases r2
    have k7 := hf.ob ⟨hl7, hG7⟩ h7
    have kz := hf.ob ⟨hlz, hGp⟩ hoz
    have kw : rdC Y idp gp (k * 2 + 1) = some wa := by rw [rdC_ob kz, ← rdC_ob hoz]; exact hwa
    have hend : ∀ (Z : Hp) (e' : Env) (a' : ArmR), turnA fr at_ a = a' → FRow armF 2 Z wa (A ++ a' :: as_.drop (i + 1)) G → Frm (fun j => j < Y0.length ∧ ¬ G j) Y0 Z → Y0.length ≤ Z.length →
        (Env.get e' 2 = x2 ∧ Env.get e' 4 = x4 ∧ Env.get e' 5 = x5 ∧ Env.get e' 6 = x6 ∧ Env.get e' 7 = .c (.p o7 0 0) ∧ Env.get e' 8 = .c (.i at_) ∧ Env.get e' 10 = .c z ∧ Env.get e' 11 = .c (.i k) ∧ Env.get e' 12 = .c (.i (i + 1 : Nat))) → I (i + 1) ⟨e', Z⟩ := by
      intro Z e' a' ha' h1 h2 h3 he
      refine (hI _ ⟨_, _⟩).2 ⟨?_, h2, h3, he⟩
      rw [hAs, ha']
      simpa using h1
    unfold vf46b0
    cases hq : decide (a.fr = fr) with
    | true =>
      have ht : turnA fr at_ a = ⟨at_, a.v⟩ := by unfold turnA; rw [if_pos (of_decide_eq_true hq)]
      obtain ⟨id, g, cells, Z, s1, s2, s3, s4, s5, s6, s7⟩ := hR.fieldS armF_st hAl 0 (by omega) (.i at_) ⟨at_, a.v⟩ (fun Z cs G h => by have h : cs = armC _ := h; subst h; rfl)
      rw [Nat.add_zero] at s3 s4
      have ep : id = rid ∧ g = rg := by have e := s1.symm.trans r1; injection e with e; injection e with e1 e2; exact ⟨e1, e2⟩
      obtain ⟨rfl, rfl⟩ := ep
      simp [f2, f4, f5, f6, f7, f8, f10, f11, f12, hix, kw, hlR, hi, r1, r2c, rdC_ob k7, hq, s2, s3, s4, up1 hi hb]
      refine hend _ _ _ ht s5 (hf.trans (s6.mono fun j hj => hj.2)) (by omega) ?_
      simp
    | false =>
      have ht : turnA fr at_ a = a := by unfold turnA; rw [if_neg (of_decide_eq_false hq)]
      simp [f2, f4, f5, f6, f7, f8, f10, f11, f12, hix, kw, hlR, hi, r1, r2c, rdC_ob k7, hq, up1 hi hb]
      refine hend _ _ _ ht hR hf hl ?_
      simp
  · rintro ⟨e0, Y⟩ hIs
    obtain ⟨hR, hf, hl, f2, f4, f5, f6, f7, f8, f10, f11, f12⟩ := (hI _ _).1 hIs
    simp only at hR hf hl f2 f4 f5 f6 f7 f8 f10 f11 f12 ⊢
    rw [List.take_length, List.drop_length, List.append_nil] at hR
    have hlR := hR.lenOf
    rw [List.length_map] at hlR
    have kz := hf.ob ⟨hlz, hGp⟩ hoz
    have kw : rdC Y idp gp (k * 2 + 1) = some wa := by rw [rdC_ob kz, ← rdC_ob hoz]; exact hwa
    unfold vf46b0
    simp [f2, f4, f5, f6, f7, f8, f10, f11, f12, hix, kw, hlR]
    exact hQ Y _ hR hf hl (by simp) (by simp) (by simp) (by simp) (by simp) (by simp) (by simp) (by simp)
set_option maxRecDepth 100000 in
theorem phisInS {G : Nat → Prop} {Y0 : Hp} {o7 : Nat} {z : CV} {fr vv at_ : Int} {ps : List PhiR} {e : Env} {Q : X × St → Prop} {x2 x4 x5 x6 : IV}
    (h0 : FRow phiF 2 Y0 z ps G) (hb : ps.length ≤ BIG) (h7 : rdOb Y0 o7 0 = some ⟨[.i fr, .i vv], 0, true, 2⟩) (hG7 : ¬ G o7)
    (e2 : Env.get e 2 = x2) (e4 : Env.get e 4 = x4) (e5 : Env.get e 5 = x5) (e6 : Env.get e 6 = x6) (e7 : Env.get e 7 = .c (.p o7 0 0)) (e8 : Env.get e 8 = .c (.i at_)) (e10 : Env.get e 10 = .c z) (e11 : Env.get e 11 = .c (.i 0))
    (hQ : ∀ (Y : Hp) (e' : Env), FRow phiF 2 Y z (ps.map (turnP fr at_)) G → Frm (fun j => j < Y0.length ∧ ¬ G j) Y0 Y → Y0.length ≤ Y.length →
      Env.get e' 2 = x2 → Env.get e' 4 = x4 → Env.get e' 5 = x5 → Env.get e' 6 = x6 → Q (.exit 2, ⟨e', Y⟩)) :
    loopD (exW CM [0, 1, 2, 3, 4, 5, 6, 7, 8, 9, 10, 11, 12, 17, 27, 32, 62, 69, 89, 99, 113] vf46b1) ⟨e, Y0⟩ Q := by
  obtain ⟨I, hI⟩ : ∃ I : Nat → St → Prop, ∀ i s, I i s ↔ (FRow phiF 2 s.h z ((ps.take i).map (turnP fr at_) ++ ps.drop i) G ∧ Frm (fun j => j < Y0.length ∧ ¬ G j) Y0 s.h ∧ Y0.length ≤ s.h.length ∧
      Env.get s.e 2 = x2 ∧ Env.get s.e 4 = x4 ∧ Env.get s.e 5 = x5 ∧ Env.get s.e 6 = x6 ∧ Env.get s.e 7 = .c (.p o7 0 0) ∧ Env.get s.e 8 = .c (.i at_) ∧ Env.get s.e 10 = .c z ∧ Env.get s.e 11 = .c (.i i)) := ⟨_, fun _ _ => Iff.rfl⟩
  have hl7 := rdOb_lt h7
  refine wp_for CM_mono ps.length I ((hI _ ⟨_, _⟩).2 ⟨by simpa using h0, Frm.refl _ _, Nat.le_refl _, e2, e4, e5, e6, e7, e8, e10, e11⟩) ?_ ?_
  · rintro i ⟨e0, Y⟩ hi hIs
    obtain ⟨hR, hf, hl, f2, f4, f5, f6, f7, f8, f10, f11⟩ := (hI _ _).1 hIs
    simp only at hR hf hl f2 f4 f5 f6 f7 f8 f10 f11 ⊢
    obtain ⟨p, hp⟩ : ∃ p, ps[i] = p := ⟨_, rfl⟩
    rw [drop_mid hi, hp] at hR
    obtain ⟨A, hA⟩ : ∃ A, (ps.take i).map (turnP fr at_) = A := ⟨_, rfl⟩
    have hAl : A.length = i := by rw [← hA]; simp; omega
    have hAs : (ps.take (i + 1)).map (turnP fr at_) = A ++ [turnP fr at_ p] := by rw [List.take_succ_eq_append_getElem hi, List.map_append, hA, hp]; rfl
    rw [hA] at hR
    have hlR := hR.lenOf
    rw [show (A ++ p :: ps.drop (i + 1)).length = ps.length by simp; omega] at hlR
    have k7 := hf.ob ⟨hl7, hG7⟩ h7
    obtain ⟨id, g, cs, Ga, s1, s2, s3, s4, s5, s6⟩ := hR.nestS phiF_st hAl
    obtain ⟨wa, rfl, har, hab⟩ := s4
    have hGi : ¬ Ga id := fun h => (s5 _ h).2 rfl
    unfold vf46b1
    simp [f2, f4, f5, f6, f7, f8, f10, f11, hlR, hi]
    refine armsInS (o7 := o7) (G := Ga) (as_ := p.arms) (fr := fr) (at_ := at_) (vv := vv) (x2 := x2) (x4 := x4) (x5 := x5) (x6 := x6)
      har hab k7 (fun h => hG7 (s5 _ h).1) s1 (s3 1 _ rfl) hGi (by simp) (by simp) (by simp) (by simp) (by simp) (by simp) (by simp) (by simp) (by simp) ?_
    intro Z e' hZ hfZ hlZ g2 g4 g5 g6 g7 g8 g10 g11
    simp [g2, g4, g5, g6, g7, g8, g10, g11, up1 hi hb]
    refine (hI _ ⟨_, _⟩).2 ⟨?_, hf.trans (hfZ.mono fun j hj => ⟨by omega, fun h => hj.2 (s5 j h).1⟩), by simp only; omega, by simp [g2, g4, g5, g6, g7, g8, g10, g11]⟩
    rw [hAs]
    have := s6 Z (turnP fr at_ p) hlZ (hfZ.monoL fun j hj h => ⟨hj, h.2⟩) ⟨wa, rfl, hZ, by simp [turnP]; exact hab⟩
    simpa using this
  · rintro ⟨e0, Y⟩ hIs
    obtain ⟨hR, hf, hl, f2, f4, f5, f6, f7, f8, f10, f11⟩ := (hI _ _).1 hIs
    simp only at hR hf hl f2 f4 f5 f6 f7 f8 f10 f11 ⊢
    rw [List.take_length, List.drop_length, List.append_nil] at hR
    have hlR := hR.lenOf
    rw [List.length_map] at hlR
    unfold vf46b1
    simp [f2, f4, f5, f6, f7, f8, f10, f11, hlR]
    exact hQ Y _ hR hf hl (by simp) (by simp) (by simp) (by simp)
end Go.Proofs.YtgdfgnppeekfjaaGreat.Vm
end
section
/- Edges split: a block put behind, a term changed. No conditions. -/
namespace Go.Proofs.YtgdfgnppeekfjaaGreat.Vm
open Go.RowKit (wrap64)
set_option linter.unusedSimpArgs false
set_option linter.unusedVariables false
section
variable {α : Type} {P : Hp → List CV → α → (Nat → Prop) → Prop} {sz : Nat} {X : Hp} {F : Nat → Prop} {w : CV} {xs : List α}
theorem FRow.part (hP : Stab P) (h : FRow P sz X w xs F) {k : Nat} (hk : k < xs.length) :
    ∃ id g cells cs, ∃ G : Nat → Prop, idxOf sz w (k : Int) = some (.p id g (k * sz)) ∧ rdOb X id g = some ⟨cells, g, true, sz⟩ ∧ k * sz + sz ≤ cells.length ∧ P X cs xs[k] G ∧ rdN X id g (k * sz) sz = some cs ∧ (∀ j c, cs[j]? = some c → rdC X id g (k * sz + j) = some c) ∧ F id ∧
      ∀ (j : Nat) (ys : List CV) (x' : α), j + ys.length ≤ sz → (∀ Z G, P Z cs xs[k] G → P Z (putAt cs j ys) x' G) →
        FRow P sz (X.set id ⟨putAt cells (k * sz + j) ys, g, true, sz⟩) w (xs.set k x') F := by
  obtain ⟨id, g, cells, Fs, rfl, hc⟩ := h.open hk
  clear h
  have hfit := hc.fit hk
  refine ⟨id, g, cells, chk cells sz k, Fs k, idx_sl hk, hc.ob, hfit, hc.el k hk, hc.nn hk, fun j c hj => ?_, hc.own, fun j ys x' hj hp => ?_⟩
  · have hjl : j < sz := by
      have := (List.getElem?_eq_some_iff.1 hj).1
      rwa [chk_len hfit] at this
    rw [hc.c hjl]; exact hj
  · have hset : ∀ G : Nat → Prop, ¬ G id → Frm G X (X.set id ⟨putAt cells (k * sz + j) ys, g, true, sz⟩) := fun G hG => Frm.set X _ hG
    have := (hc.put (Y := X.set id ⟨putAt cells (k * sz + j) ys, g, true, sz⟩) (x' := x') (G' := Fs k) hP hk (j := j) (ys := ys) hj (by rw [rdOb_set_self hc.lt]; simp) (hset _ fun hn => hn.2.1 rfl)
      (fun i hi => ⟨(hc.sub k i hk hi).1, (hc.sub k i hk hi).2.1, by simpa using (hc.sub k i hk hi).2.2, .inl hi⟩) (hp _ _ (hP.st (hset _ fun hn => (hc.sub k id hk hn).2.1 rfl) (hc.el k hk)))).row
    simpa using this
end
theorem Tree.termH {S : Nat → Prop} {X : Hp} {v : CV} {bs : List BlkR} {b : Nat} (h : Tree S X v bs) (hb : b < bs.length) :
    ∃ id g cells, idxOf 6 v (b : Int) = some (.p id g (b * 6)) ∧ rdOb X id g = some ⟨cells, g, true, 6⟩ ∧ b * 6 + 6 ≤ cells.length ∧ rdC X id g (b * 6 + 2 + 2) = some (.i bs[b].term.to) ∧ rdC X id g (b * 6 + 2 + 3) = some (.i bs[b].term.els) ∧
      rdN X id g (b * 6 + 2) 4 = some [.i bs[b].term.kind, .i bs[b].term.a, .i bs[b].term.to, .i bs[b].term.els] ∧ S id ∧
      (∀ x : Int, Tree S (X.set id ⟨putAt cells (b * 6 + 2 + 2) [.i x], g, true, 6⟩) v (setT bs b ⟨bs[b].term.kind, bs[b].term.a, x, bs[b].term.els⟩)) ∧
      (∀ x : Int, Tree S (X.set id ⟨putAt cells (b * 6 + 2 + 3) [.i x], g, true, 6⟩) v (setT bs b ⟨bs[b].term.kind, bs[b].term.a, bs[b].term.to, x⟩)) ∧
      (∀ t : TrmR, Tree S (X.set id ⟨putAt cells (b * 6 + 2) (trmC t), g, true, 6⟩) v (setT bs b t)) := by
  obtain ⟨id, g, cells, cs, G, h1, h2, h3, h4, h5, h6, h7, h8⟩ := FRow.part blkF_st h hb
  obtain ⟨z, u, Gz, Gu, rfl, h9⟩ := h4
  have hT : ∀ t : TrmR, setT bs b t = bs.set b ⟨bs[b].phis, bs[b].list, t⟩ := fun t => by unfold setT; rw [blk_at hb]
  refine ⟨id, g, cells, h1, h2, h3, h6 4 _ rfl, h6 5 _ rfl, ?_, h7, fun x => ?_, fun x => ?_, fun t => ?_⟩
  · rw [rdN_ob h2, if_pos (by simp only; omega)]
    rw [rdN_ob h2, if_pos (by simpa using h3)] at h5
    injection h5 with h5
    simp only at h5 ⊢
    congr 1
    have h10 := congrArg (fun l => (l.drop 2).take 4) h5
    simp only [List.drop_take, List.take_take, List.drop_drop] at h10
    exact h10
  · rw [hT]
    exact h8 4 [.i x] ⟨bs[b].phis, bs[b].list, ⟨bs[b].term.kind, bs[b].term.a, x, bs[b].term.els⟩⟩ (by simp) (fun Z G h => by
      obtain ⟨z', u', Gz, Gu, e, h⟩ := h
      injection e with e1 e2
      injection e2 with e2 e3
      subst e1; subst e2
      exact ⟨z, u, Gz, Gu, rfl, h⟩)
  · rw [hT]
    exact h8 5 [.i x] ⟨bs[b].phis, bs[b].list, ⟨bs[b].term.kind, bs[b].term.a, bs[b].term.to, x⟩⟩ (by simp) (fun Z G h => by
      obtain ⟨z', u', Gz, Gu, e, h⟩ := h
      injection e with e1 e2
      injection e2 with e2 e3
      subst e1; subst e2
      exact ⟨z, u, Gz, Gu, rfl, h⟩)
  · rw [hT]
    exact h8 2 (trmC t) ⟨bs[b].phis, bs[b].list, t⟩ (by simp [trmC]) (fun Z G h => by
      obtain ⟨z', u', Gz, Gu, e, h⟩ := h
      injection e with e1 e2
      injection e2 with e2 e3
      subst e1; subst e2
      exact ⟨z, u, Gz, Gu, rfl, h⟩)
/-- Where edges are being split. -/
structure SplitH (N o3 : Nat) (E : Nat → Prop) (m : Int) (X0 Y : Hp) (w : CV) (bs : List BlkR) : Prop where
  tree : Tree (fun j => N ≤ j ∧ ¬ E j ∧ j ≠ o3) Y w bs
  out : rdOb Y o3 0 = some ⟨[w, .i m], 0, true, 2⟩
  fr : Frm (fun j => j < X0.length ∧ (j < N ∨ (E j ∧ j ≠ o3))) X0 Y
  len : X0.length ≤ Y.length
theorem SplitH.app {N o3 : Nat} {E : Nat → Prop} {m : Int} {X0 Y : Hp} {w : CV} {bs : List BlkR} (h : SplitH N o3 E m X0 Y w bs) (L : Hp) : SplitH N o3 E m X0 (Y ++ L) w bs :=
  ⟨h.tree.fr blkF_st (Frm.app _ _ _), rdOb_app L h.out, h.fr.trans (Frm.app _ _ _), by have := h.len; simp only [List.length_append]; omega⟩
theorem SplitH.to {N o3 : Nat} {E : Nat → Prop} {m : Int} {X0 Y Z : Hp} {w : CV} {bs bs' : List BlkR} (h : SplitH N o3 E m X0 Y w bs) (hN : N ≤ o3) (hT : Tree (fun j => N ≤ j ∧ ¬ E j ∧ j ≠ o3) Z w bs') (hf : Frm (fun j => j < Y.length ∧ ¬ (N ≤ j ∧ ¬ E j ∧ j ≠ o3)) Y Z) (hl : Y.length ≤ Z.length) : SplitH N o3 E m X0 Z w bs' :=
  ⟨hT, hf.ob ⟨rdOb_lt h.out, by omega⟩ h.out, h.fr.trans (hf.mono fun j hj => ⟨by have := h.len; omega, fun hn => by rcases hj.2 with h1 | h1; omega; exact hn.2.1 h1.1⟩), Nat.le_trans h.len hl⟩
theorem SplitH.push {N o3 : Nat} {E : Nat → Prop} {m : Int} {X0 Y : Hp} {w : CV} {bs : List BlkR} (h : SplitH N o3 E m X0 Y w bs) (hN : N ≤ o3) (hNY : N ≤ Y.length) (hE : ∀ j, E j → j < Y.length) (hb : bs.length ≤ BIG) (k : Int) :
    ∃ i' g' Y1 Z Z2, Y ++ [(⟨[.ns, .ns, .i 1, .i 0, .i k, .i 0], 0, true, 6⟩ : Ob)] = Y1 ∧ srcOf Y1 6 (.sl Y.length 0 0 1) = some (1, [.ns, .ns, .i 1, .i 0, .i k, .i 0]) ∧
      doApp Y1 6 w 1 [.ns, .ns, .i 1, .i 0, .i k, .i 0] = some (.c (.sl i' g' 0 (bs.length + 1)), Z) ∧ rdOb Z o3 0 = some ⟨[w, .i m], 0, true, 2⟩ ∧ Z.set o3 ⟨[.sl i' g' 0 (bs.length + 1), .i m], 0, true, 2⟩ = Z2 ∧
      SplitH N o3 E m X0 Z2 (.sl i' g' 0 (bs.length + 1)) (splitN bs k) ∧ Y.length ≤ Z2.length ∧ Frm (fun j => j < Y.length ∧ (j < N ∨ E j ∧ j ≠ o3)) Y Z2 := by
  obtain ⟨Y1, hY1⟩ : ∃ Y1, Y ++ [(⟨[.ns, .ns, .i 1, .i 0, .i k, .i 0], 0, true, 6⟩ : Ob)] = Y1 := ⟨_, rfl⟩
  have hp1 : Pre Y Y1 := ⟨_, hY1.symm⟩
  have l1 : Y1.length = Y.length + 1 := by rw [← hY1]; simp
  have n1 : rdOb Y1 Y.length 0 = some ⟨[.ns, .ns, .i 1, .i 0, .i k, .i 0], 0, true, 6⟩ := by rw [← hY1]; simp
  have hlo := rdOb_lt h.out
  obtain ⟨i', g', Z, happ, hT, hf, hl⟩ := (h.tree.fr blkF_st (Frm.pre hp1)).snoc blkF_st hb (by omega) (by omega) (cs := [.ns, .ns, .i 1, .i 0, .i k, .i 0]) (x := ⟨[], [], ⟨1, 0, k, 0⟩⟩) (G := fun _ => False) rfl
    (fun W hW => ⟨.ns, .ns, fun _ => False, fun _ => False, rfl, FRow.ns, FRow.ns, fun i hi => hi.elim, fun i hi => hi.elim, by simp, by simp⟩) (fun i hi => hi.elim)
  have hOZ : rdOb Z o3 0 = some ⟨[w, .i m], 0, true, 2⟩ := hf.ob (fun hn => hn.2.2 rfl) (hp1.rdOb h.out)
  refine ⟨i', g', Y1, Z, _, rfl.trans hY1, by simp [srcOf, n1], happ, hOZ, rfl, ⟨?_, ?_, ?_, ?_⟩, ?_, ?_⟩
  · refine (hT.fr blkF_st (Frm.set _ _ ?_)).mono fun j hj => ?_
    · rintro (hn | hn | hn)
      · exact hn.2.2 rfl
      · exact hn
      · omega
    · rcases hj with hj | hj | hj
      · exact hj
      · exact hj.elim
      · exact ⟨by omega, fun he => by have := hE j he; omega, by omega⟩
  · rw [rdOb_set_self (rdOb_lt hOZ)]; simp
  · refine h.fr.trans ((Frm.pre hp1).trans ((hf.mono fun j hj hn => ?_).trans (Frm.set _ _ ?_)))
    · rcases hj.2 with h1 | h1
      · omega
      · exact hn.2.1 h1.1
    · intro hn; rcases hn.2 with h1 | h1
      · omega
      · exact h1.2 rfl
  · simp only [List.length_set]; have := h.len; omega
  · simp only [List.length_set]; omega
  · refine (Frm.pre hp1).trans ((hf.mono fun j hj hn => ?_).trans (Frm.set _ _ ?_))
    · rcases hj.2 with h1 | h1
      · omega
      · exact hn.2.1 h1.1
    · intro hn; rcases hn.2 with h1 | h1
      · omega
      · exact h1.2 rfl
def FnRes2 (H : Hp) (g : FnR) (ok : Bool) (r : IV × Hp) : Prop := ∃ w L, r = (.tup [(true, [w, .i g.values]), (false, [.b ok])], H ++ L) ∧ Tree (fun i => H.length ≤ i) (H ++ L) w g.blocks
theorem FnRes2.mk {H X : Hp} {w : CV} {g : FnR} {ok : Bool} {S : Nat → Prop} (hp : Pre H X) (hT : Tree S X w g.blocks) (hS : ∀ j, S j → H.length ≤ j) : FnRes2 H g ok (gcRet H (.tup [(true, [w, .i g.values]), (false, [.b ok])]) X) := by
  have hT := FRow.mono hT hS
  rcases FRow.form hT with rfl | ⟨i', g', n', rfl⟩
  · have hbs : g.blocks = [] := by
      rcases hT with ⟨_, h⟩ | ⟨_, _, _, _, h, _⟩
      · exact h
      · cases h
    rw [gcRet_flat hp (show flatV (.tup [(true, [.ns, .i g.values]), (false, [.b ok])]) = true from rfl)]
    exact ⟨.ns, [], by simp, .inl ⟨rfl, hbs⟩⟩
  · have e : gcRet H (.tup [(true, [.sl i' g' 0 n', .i g.values]), (false, [.b ok])]) X = (.tup [(true, [.sl i' g' 0 n', .i g.values]), (false, [.b ok])], X) := by
      unfold gcRet
      split
      · rw [if_neg (by simp [flatV, flatC])]
      · rfl
    rw [e]
    obtain ⟨L, rfl⟩ := hp
    exact ⟨_, L, rfl, hT⟩
end Go.Proofs.YtgdfgnppeekfjaaGreat.Vm
end
section
/- Programs split, by the program. No conditions. -/
namespace Go.Proofs.YtgdfgnppeekfjaaGreat.Vm
open Go.RowKit (wrap64)
set_option linter.unusedSimpArgs false
set_option linter.unusedVariables false
theorem q40 (a b c d x : CV) : putAt [a, b, c, d] 0 [x] = [x, b, c, d] := rfl
theorem q42 (a b c d x : CV) : putAt [a, b, c, d] 2 [x] = [a, b, x, d] := rfl
theorem q62 (a b c d e f w x y z : CV) : putAt [a, b, c, d, e, f] 2 [w, x, y, z] = [a, b, w, x, y, z] := rfl
theorem q60 (a b c d e f u v w x y z : CV) : putAt [a, b, c, d, e, f] 0 [u, v, w, x, y, z] = [u, v, w, x, y, z] := rfl
theorem setT_setT (bs : List BlkR) (u : Nat) (t t' : TrmR) (hu : u < bs.length) : setT (setT bs u t) u t' = setT bs u t' := by
  unfold setT
  rw [List.set_set]
  congr 1
  rw [blk_at (by simpa using hu), List.getElem_set_self]
theorem setT_same (bs : List BlkR) (u : Nat) (hu : u < bs.length) : setT bs u bs[u].term = bs := by
  unfold setT
  rw [blk_at hu]
  exact List.set_getElem_self hu
theorem setT_at (bs : List BlkR) (u : Nat) (t : TrmR) (hu : u < bs.length) : (setT bs u t)[u]'(by rw [setT_len]; exact hu) = ⟨bs[u].phis, bs[u].list, t⟩ := by
  simp only [setT, blk_at hu, List.getElem_set_self]
theorem setP_at (bs : List BlkR) (k : Nat) (hk : k < bs.length) (ps : List PhiR) : setP bs k ps = bs.set k ⟨ps, bs[k].list, bs[k].term⟩ := by unfold setP; rw [blk_at hk]
set_option maxRecDepth 100000 in
theorem implSplit {H : Hp} {v : CV} {f : FnR} (hv : Blocks H v f.blocks) (hb : f.blocks.length ≤ BIG) : CM 47 [.agg [v, .i f.values]] H (FnRes2 H (split0 f) (splitOk f)) := by
  refine cw47 ?_
  unfold vf47c
  obtain ⟨X1, hX1⟩ : ∃ X1, H ++ [(⟨[v, .i f.values], 0, true, 2⟩ : Ob), ⟨[.ns, .i 0], 0, true, 2⟩] = X1 := ⟨_, rfl⟩
  have hp1 : Pre H X1 := ⟨_, hX1.symm⟩
  have l1 : X1.length = H.length + 2 := by rw [← hX1]; simp
  have hB1 : rdOb X1 H.length 0 = some ⟨[v, .i f.values], 0, true, 2⟩ := by rw [← hX1]; simp
  have hR1 : rdOb X1 (H.length + 1) 0 = some ⟨[.ns, .i 0], 0, true, 2⟩ := by rw [← hX1]; simp
  simp [hX1, rdN_ob hB1]
  refine (implClone (hv.pre hp1) hb).mono ?_
  rintro _ ⟨w, L1, rfl, hT⟩
  obtain ⟨X2, hX2⟩ : ∃ X2, X1 ++ L1 = X2 := ⟨_, rfl⟩
  rw [hX2] at hT ⊢
  have hp2 : Pre X1 X2 := ⟨_, hX2.symm⟩
  have l2 := hp2.le
  obtain ⟨X3, hX3⟩ : ∃ X3, X2 ++ [(⟨[w, .i f.values], 0, true, 2⟩ : Ob)] = X3 := ⟨_, rfl⟩
  have hp3 : Pre X2 X3 := ⟨_, hX3.symm⟩
  have l3 : X3.length = X2.length + 1 := by rw [← hX3]; simp
  have hO3 : rdOb X3 X2.length 0 = some ⟨[w, .i f.values], 0, true, 2⟩ := by rw [← hX3]; simp
  have hT3 : Tree (fun j => X1.length ≤ j ∧ j < X2.length) X3 w f.blocks := hT.bound.fr blkF_st (Frm.pre hp3)
  have hB3 := hp3.rdOb (hp2.rdOb hB1)
  have hR3 := hp3.rdOb (hp2.rdOb hR1)
  have hp13 := hp1.trans (hp2.trans hp3)
  have hv3 := hv.pre hp13
  obtain ⟨ew, Le, hew, hcrit⟩ := implCrit0 (f := f) hv3 hb
  obtain ⟨X4, hX4⟩ : ∃ X4, X3 ++ Le = X4 := ⟨_, rfl⟩
  have hp4 : Pre X3 X4 := ⟨_, hX4.symm⟩
  have l4 := hp4.le
  have hE4 : Arms X4 ew (crit0 f) := by rw [← hX4]; exact hew.isE
  have hle := hE4.lenOf
  have hO4 := hp4.rdOb hO3
  have hB4 := hp4.rdOb hB3
  have hR4 := hp4.rdOb hR3
  have hv4 := hv3.pre hp4
  have hlv := hv4.lenOf
  have hcs := crit0_small (f := f)
  have hw64 : -9223372036854775808 ≤ (f.blocks.length : Int) + ((crit0 f).length : Int) ∧ (f.blocks.length : Int) + ((crit0 f).length : Int) ≤ 9223372036854775807 := by simp only [BIG] at hb hcs; omega
  have hid : ∀ id g off n, ew = .sl id g off n → id = X3.length := fun id g off n e => by
    rcases hew with ⟨h, _⟩ | ⟨h, _⟩
    · rw [h] at e; cases e
    · rw [h] at e; cases e; rfl
  have hfalse : ∀ (h : ¬ (checkF f = 0 ∧ f.blocks.length + (crit0 f).length ≤ 16)), split0 f = f ∧ splitOk f = false := fun h => ⟨by unfold split0; rw [if_neg h], pB_false h⟩
  obtain ⟨X6, hX6⟩ : ∃ X6, X4.set (H.length + 1) ⟨[w, .i f.values], 0, true, 2⟩ = X6 := ⟨_, rfl⟩
  have hR6 : rdOb X6 (H.length + 1) 0 = some ⟨[w, .i f.values], 0, true, 2⟩ := by rw [← hX6, rdOb_set_self (rdOb_lt hR4)]; simp
  have hbad : FnRes2 H f false (gcRet H (.tup [(true, [w, .i f.values]), (false, [.b false])]) X6) := by
    refine FnRes2.mk (H := H) (g := f) (S := fun j => X1.length ≤ j ∧ j < X2.length) ?_ ?_ (fun j hj => by omega)
    · rw [← hX6]; exact (hp13.trans hp4).set (by omega) _
    · rw [← hX6]; exact (hT3.fr blkF_st (Frm.pre hp4)).fr blkF_st (Frm.set _ _ (by omega))
  by_cases hck : checkF f = 0
  · by_cases hlen : f.blocks.length + (crit0 f).length ≤ 16
    · have hg : split0 f = ⟨(crit0 f).foldl splitE f.blocks, f.values⟩ ∧ splitOk f = true := ⟨by unfold split0; rw [if_pos ⟨hck, hlen⟩], pB_true ⟨hck, hlen⟩⟩
      have hsh := (well_iff.1 hck).sh
      have hn16 : ¬ (16 < (f.blocks.length : Int) + ((crit0 f).length : Int)) := by omega
      simp [putAt, hX3, rdN_ob hB3, hcrit, hX4, rdN_ob hB4, implCheck hv4 hb, hck, rdC_ob hB4, hlv, hle, wrap64_id hw64, hn16]
      clear hw64
      obtain ⟨es, hes⟩ : ∃ es, crit0 f = es := ⟨_, rfl⟩
      have hin : ∀ e ∈ es, ∃ u k : Nat, e = ⟨u, k⟩ ∧ u < f.blocks.length ∧ k < f.blocks.length := fun e he => by
        rw [← hes] at he
        obtain ⟨_, u, k, h1, h2, h3, _⟩ := crit0_in he
        exact ⟨u, k, h1, h2, h3⟩
      rw [hes] at hE4 hle hlen hg
      rw [hes]
      have hH0 : SplitH X1.length X2.length (fun j => j = X3.length ∧ j < X4.length) f.values X4 X4 w f.blocks :=
        ⟨(hT3.fr blkF_st (Frm.pre hp4)).mono fun j hj => ⟨hj.1, by omega, by omega⟩, hO4, Frm.refl _ _, Nat.le_refl _⟩
      obtain ⟨I, hI⟩ : ∃ I : Nat → St → Prop, ∀ i s, I i s ↔ (∃ w', SplitH X1.length X2.length (fun j => j = X3.length ∧ j < X4.length) f.values X4 s.h w' ((es.take i).foldl splitE f.blocks) ∧
        Env.get s.e 2 = .c (.p (H.length + 1) 0 0) ∧ Env.get s.e 4 = .c (.p X2.length 0 0) ∧ Env.get s.e 31 = .c ew ∧ Env.get s.e 32 = .c (.i es.length) ∧ Env.get s.e 33 = .c (.i i)) := ⟨_, fun _ _ => Iff.rfl⟩
      refine wp_for CM_mono es.length I ((hI _ ⟨_, _⟩).2 ⟨w, by simpa using hH0, by simp⟩) ?_ ?_
      · rintro i ⟨e, Y⟩ hi hIs
        obtain ⟨w', hH, e2, e4, e31, e32, e33⟩ := (hI _ _).1 hIs
        simp only at hH e2 e4 e31 e32 e33 ⊢
        obtain ⟨u, k, hek, hu, hk⟩ := hin es[i] (List.getElem_mem hi)
        obtain ⟨bs, hbs⟩ : ∃ bs, (es.take i).foldl splitE f.blocks = bs := ⟨_, rfl⟩
        have hbl : bs.length = f.blocks.length + i := by rw [← hbs, splits_len, List.length_take]; omega
        have hsucc : (es.take (i + 1)).foldl splitE f.blocks = splitE bs ⟨u, k⟩ := by rw [List.take_succ_eq_append_getElem hi, List.foldl_append, hbs, hek]; rfl
        rw [hbs] at hH
        have hEY : Arms Y ew es := by
          obtain ⟨css, h1, h2, h3⟩ := hE4
          refine ⟨css, ?_, h2, h3⟩
          rcases h1 with ⟨a, b, c⟩ | ⟨id, g, off, o, a, b, c⟩
          · exact .inl ⟨a, b, c⟩
          · have hlt := rdOb_lt b
            have := hid _ _ _ _ a
            exact .inr ⟨id, g, off, o, a, hH.fr.ob ⟨hlt, .inr ⟨⟨this, hlt⟩, by omega⟩⟩ b, c⟩
        have hXY := hH.len
        obtain ⟨eid, eg, eoff, q1, ⟨_, _, q2⟩, _⟩ := Arms.get hEY hi
        rw [hek] at q2
        simp only at q2
        obtain ⟨Y1, hY1⟩ : ∃ Y1, Y ++ [(⟨[.i (u : Int), .i (k : Int)], 0, true, 2⟩ : Ob)] = Y1 := ⟨_, rfl⟩
        have hp1Y : Pre Y Y1 := ⟨_, hY1.symm⟩
        have lY1 : Y1.length = Y.length + 1 := by rw [← hY1]; simp
        have n1 : rdOb Y1 Y.length 0 = some ⟨[.i (u : Int), .i (k : Int)], 0, true, 2⟩ := by rw [← hY1]; simp
        have hY4l : X4.length ≤ Y.length := hXY
        have hH1 : SplitH X1.length X2.length (fun j => (j = X3.length ∧ j < X4.length) ∨ j = Y.length) f.values Y1 Y1 w' bs :=
          ⟨((FRow.bound hH.tree).fr blkF_st (Frm.pre hp1Y)).mono fun j hj => ⟨hj.1.1, fun hn => by rcases hn with hn | hn; exact hj.1.2.1 hn; omega, hj.1.2.2⟩, hp1Y.rdOb hH.out, Frm.refl _ _, Nat.le_refl _⟩
        have hlw := FRow.lenOf hH1.tree
        have hbB : bs.length ≤ BIG := by simp only [BIG]; omega
        obtain ⟨i', g', Y2, Y3, Y4, hY2, hsrc, happ, hO3', hY4, hH4, lY4, _⟩ := hH1.push (by omega) (by omega) (fun j hj => by omega) hbB (k : Int)
        have n2 : rdOb Y2 Y.length 0 = some ⟨[.i (u : Int), .i (k : Int)], 0, true, 2⟩ := by rw [← hY2]; exact rdOb_app _ n1
        have o2 : rdOb Y2 X2.length 0 = some ⟨[w', .i f.values], 0, true, 2⟩ := by rw [← hY2]; exact rdOb_app _ hH1.out
        have o1 := hH1.out
        obtain ⟨w4, hw4⟩ : ∃ w4, CV.sl i' g' 0 (bs.length + 1) = w4 := ⟨_, rfl⟩
        rw [hw4] at hH4
        have hY4w : Y3.set X2.length ⟨[.sl i' g' 0 (bs.length + 1), .i f.values], 0, true, 2⟩ = Y4 := hY4
        have nE : ∀ Z bz, SplitH X1.length X2.length (fun j => (j = X3.length ∧ j < X4.length) ∨ j = Y.length) f.values Y1 Z w4 bz → rdOb Z Y.length 0 = some ⟨[.i (u : Int), .i (k : Int)], 0, true, 2⟩ := fun Z bz h => h.fr.ob ⟨by omega, .inr ⟨.inr rfl, by omega⟩⟩ n1
        have n4 := nE _ _ hH4
        obtain ⟨b1, hb1⟩ : ∃ b1, splitN bs k = b1 := ⟨_, rfl⟩
        rw [hb1] at hH4
        have hb1l : b1.length = bs.length + 1 := by rw [← hb1, splitN_len]
        have hu1 : u < b1.length := by omega
        have hk1 : k < b1.length := by omega
        obtain ⟨id, g, cells, c1, c2, c3, c4, c5, c6, c7, c8, c9, c10⟩ := hH4.tree.termH hu1
        obtain ⟨tt, htt⟩ : ∃ tt, b1[u].term = tt := ⟨_, rfl⟩
        rw [htt] at c4 c5 c6 c8 c9
        have hSE : splitE bs ⟨u, k⟩ = setP (setT b1 u (turnT k bs.length tt)) k (((setT b1 u (turnT k bs.length tt))[k]'(by rw [setT_len]; exact hk1)).phis.map (turnP u bs.length)) := by
          unfold splitE
          simp only [Int.toNat_natCast]
          rw [hb1, blk_at hu1, htt, blk_at (by rw [setT_len]; exact hk1)]
        have fin : ∀ (Z : Hp) (tF : TrmR), tF = turnT k bs.length tt → SplitH X1.length X2.length (fun j => (j = X3.length ∧ j < X4.length) ∨ j = Y.length) f.values Y1 Z w4 (setT b1 u tF) → X4.length ≤ Z.length →
            ∃ id3 g3 z, ∃ Gz : Nat → Prop, ∃ ps : List PhiR, idxOf 6 w4 (k : Int) = some (.p id3 g3 (k * 6)) ∧ rdC Z id3 g3 (k * 6) = some z ∧ FRow phiF 2 Z z ps Gz ∧ ps.length ≤ BIG ∧ (∀ j, Gz j → j < Z.length) ∧ ¬ Gz Y.length ∧
              ∀ Z', FRow phiF 2 Z' z (ps.map (turnP u bs.length)) Gz → Frm (fun j => j < Z.length ∧ ¬ Gz j) Z Z' → Z.length ≤ Z'.length → SplitH X1.length X2.length (fun j => j = X3.length ∧ j < X4.length) f.values X4 Z' w4 (splitE bs ⟨u, k⟩) := by
          intro Z tF htF hZ hlZ
          subst htF
          have hkT : k < (setT b1 u (turnT k bs.length tt)).length := by rw [setT_len]; exact hk1
          obtain ⟨id3, g3, z, Gz, d1, d2, d3, d4, d5, d6, d7⟩ := hZ.tree.phis hkT
          refine ⟨id3, g3, z, Gz, _, d1, d2, d3, d6, fun j hj => (d4 j hj).2.1, fun hn => (d4 _ hn).1.2.1 (.inr rfl), fun Z' hr hf hl => ?_⟩
          have hT' := d7 Z' _ hl (hf.monoL fun j hj h => ⟨hj, h.2⟩) hr (by rw [List.length_map]; exact d6)
          rw [hSE, setP_at _ _ hkT]
          have hH7 := hZ.to (by omega) hT' (hf.mono fun j hj => ⟨hj.1, fun hn => hj.2 (d4 j hn).1⟩) hl
          refine ⟨hH7.tree.mono fun j hj => ⟨hj.1, fun hn => hj.2.1 (.inl hn), hj.2.2⟩, hH7.out, hH.fr.trans ((Frm.pre hp1Y).trans (hH7.fr.mono fun j hj => ⟨by omega, by rcases hj.2 with h | h; exact .inl h; exact .inr ⟨.inl h.1, h.2⟩⟩)), by omega⟩
        have hid4 := rdOb_lt c2
        have o4 := hH4.out
        have hcl1 : u * 6 + 2 + 2 + 1 ≤ cells.length := by omega
        have hcl2 : u * 6 + 2 + 3 + 1 ≤ cells.length := by omega
        unfold vf47b2
        cases hA : decide (tt.to = (k : Int)) with
        | true =>
          have hA' := of_decide_eq_true hA
          obtain ⟨Y5, hY5⟩ : ∃ Y5, Y4.set id ⟨putAt cells (u * 6 + 2 + 2) [.i (bs.length : Int)], g, true, 6⟩ = Y5 := ⟨_, rfl⟩
          have c8' := c8 (bs.length : Int)
          rw [hY5] at c8'
          have lY5 : Y5.length = Y4.length := by rw [← hY5]; simp
          have hH5 := hH4.to (by omega) c8' (by rw [← hY5]; exact Frm.set _ _ (fun hn => hn.2 c7)) (by omega)
          have n5 := nE _ _ hH5
          have o5 := hH5.out
          have hu2 : u < (setT b1 u ⟨tt.kind, tt.a, bs.length, tt.els⟩).length := by rw [setT_len]; exact hu1
          obtain ⟨id', g', cells', c1', c2', c3', c4', c5', c6', c7', c8'', c9', c10'⟩ := hH5.tree.termH hu2
          have ei : id' = id ∧ g' = g := by have e := c1'.symm.trans c1; injection e with e; injection e with e1 e2; exact ⟨e1, e2⟩
          obtain ⟨rfl, rfl⟩ := ei
          rw [setT_at _ _ _ hu1] at c5' c9'
          simp only at c5' c9'
          have hcl3 : u * 6 + 2 + 3 + 1 ≤ cells'.length := by omega
          cases hB : decide (tt.els = (k : Int)) with
          | true =>
            have hB' := of_decide_eq_true hB
            obtain ⟨Y6, hY6⟩ : ∃ Y6, Y5.set id' ⟨putAt cells' (u * 6 + 2 + 3) [.i (bs.length : Int)], g', true, 6⟩ = Y6 := ⟨_, rfl⟩
            have c9'' := c9' (bs.length : Int)
            rw [hY6, setT_setT _ _ _ _ hu1] at c9''
            have lY6 : Y6.length = Y5.length := by rw [← hY6]; simp
            have hH6 := hH5.to (by omega) c9'' (by rw [← hY6]; exact Frm.set _ _ (fun hn => hn.2 c7')) (by omega)
            have oF := hH6.out
            have nF := nE _ _ hH6
            obtain ⟨id3, g3, z, Gz, ps, d1, d2, d3, d4, d5, d6, d7⟩ := fin Y6 _ (by unfold turnT; rw [if_pos hA', if_pos hB']) hH6 (by omega)
            have hlz := d3.lenOf
            subst hw4
            simp [e2, e4, e31, e32, e33, hi, q1, q2, p20, p21, p22, q40, q42, q60, q62, hY1, o1, rdC_ob o1, hlw, n1, rdC_ob n1, hY2, hsrc, happ, hO3', hY4w, rdC_ob o4, rdC_ob n4, c1, c4, hA, c2, hcl1, hY5, c5', rdC_ob n5, hB, c2', hcl3, hY6, rdC_ob oF, rdC_ob nF, d1, d2, hlz]
            refine phisIn (o7 := Y.length) (G := Gz) (fr := u) (vv := k) (at_ := bs.length) (x2 := .c (.p (H.length + 1) 0 0)) (x4 := .c (.p X2.length 0 0)) (x5 := Env.get e 5) (x31 := .c ew) (x32 := .c (.i es.length)) (x33 := .c (.i i)) d3 d4 d5 nF d6 (by simp) (by simp) (by simp) (by simp) (by simp) (by simp) (by simp) (by simp) (by simp) (by simp) (by simp) ?_
            intro Z' e' hr hf hl f2 f4 f5 f31 f32 f33
            simp [f2, f4, f5, f31, f32, f33, up1 hi (show es.length ≤ BIG by simp only [BIG]; omega)]
            have hfin := d7 Z' hr hf hl
            rw [← hsucc] at hfin
            exact (hI _ ⟨_, _⟩).2 ⟨_, hfin, by simp [f2, f4, f31, f32, f33]⟩
          | false =>
            have hB' := of_decide_eq_false hB
            have oF := hH5.out
            have nF := nE _ _ hH5
            obtain ⟨id3, g3, z, Gz, ps, d1, d2, d3, d4, d5, d6, d7⟩ := fin Y5 _ (by unfold turnT; rw [if_pos hA', if_neg hB']) hH5 (by omega)
            have hlz := d3.lenOf
            subst hw4
            simp [e2, e4, e31, e32, e33, hi, q1, q2, p20, p21, p22, q40, q42, q60, q62, hY1, o1, rdC_ob o1, hlw, n1, rdC_ob n1, hY2, hsrc, happ, hO3', hY4w, rdC_ob o4, rdC_ob n4, c1, c4, hA, c2, hcl1, hY5, c5', rdC_ob n5, hB, rdC_ob oF, rdC_ob nF, d1, d2, hlz]
            refine phisIn (o7 := Y.length) (G := Gz) (fr := u) (vv := k) (at_ := bs.length) (x2 := .c (.p (H.length + 1) 0 0)) (x4 := .c (.p X2.length 0 0)) (x5 := Env.get e 5) (x31 := .c ew) (x32 := .c (.i es.length)) (x33 := .c (.i i)) d3 d4 d5 nF d6 (by simp) (by simp) (by simp) (by simp) (by simp) (by simp) (by simp) (by simp) (by simp) (by simp) (by simp) ?_
            intro Z' e' hr hf hl f2 f4 f5 f31 f32 f33
            simp [f2, f4, f5, f31, f32, f33, up1 hi (show es.length ≤ BIG by simp only [BIG]; omega)]
            have hfin := d7 Z' hr hf hl
            rw [← hsucc] at hfin
            exact (hI _ ⟨_, _⟩).2 ⟨_, hfin, by simp [f2, f4, f31, f32, f33]⟩
        | false =>
          have hA' := of_decide_eq_false hA
          cases hB : decide (tt.els = (k : Int)) with
          | true =>
            have hB' := of_decide_eq_true hB
            obtain ⟨Y6, hY6⟩ : ∃ Y6, Y4.set id ⟨putAt cells (u * 6 + 2 + 3) [.i (bs.length : Int)], g, true, 6⟩ = Y6 := ⟨_, rfl⟩
            have c9'' := c9 (bs.length : Int)
            rw [hY6] at c9''
            have lY6 : Y6.length = Y4.length := by rw [← hY6]; simp
            have hH6 := hH4.to (by omega) c9'' (by rw [← hY6]; exact Frm.set _ _ (fun hn => hn.2 c7)) (by omega)
            have oF := hH6.out
            have nF := nE _ _ hH6
            obtain ⟨id3, g3, z, Gz, ps, d1, d2, d3, d4, d5, d6, d7⟩ := fin Y6 _ (by unfold turnT; rw [if_neg hA', if_pos hB']) hH6 (by omega)
            have hlz := d3.lenOf
            subst hw4
            simp [e2, e4, e31, e32, e33, hi, q1, q2, p20, p21, p22, q40, q42, q60, q62, hY1, o1, rdC_ob o1, hlw, n1, rdC_ob n1, hY2, hsrc, happ, hO3', hY4w, rdC_ob o4, rdC_ob n4, c1, c4, hA, c5, hB, c2, hcl2, hY6, rdC_ob oF, rdC_ob nF, d1, d2, hlz]
            refine phisIn (o7 := Y.length) (G := Gz) (fr := u) (vv := k) (at_ := bs.length) (x2 := .c (.p (H.length + 1) 0 0)) (x4 := .c (.p X2.length 0 0)) (x5 := Env.get e 5) (x31 := .c ew) (x32 := .c (.i es.length)) (x33 := .c (.i i)) d3 d4 d5 nF d6 (by simp) (by simp) (by simp) (by simp) (by simp) (by simp) (by simp) (by simp) (by simp) (by simp) (by simp) ?_
            intro Z' e' hr hf hl f2 f4 f5 f31 f32 f33
            simp [f2, f4, f5, f31, f32, f33, up1 hi (show es.length ≤ BIG by simp only [BIG]; omega)]
            have hfin := d7 Z' hr hf hl
            rw [← hsucc] at hfin
            exact (hI _ ⟨_, _⟩).2 ⟨_, hfin, by simp [f2, f4, f31, f32, f33]⟩
          | false =>
            have hB' := of_decide_eq_false hB
            have hH6 : SplitH X1.length X2.length (fun j => (j = X3.length ∧ j < X4.length) ∨ j = Y.length) f.values Y1 Y4 w4 (setT b1 u tt) := by
              have := setT_same b1 u hu1
              rw [htt] at this
              rw [this]; exact hH4
            have oF := hH6.out
            have nF := nE _ _ hH6
            obtain ⟨id3, g3, z, Gz, ps, d1, d2, d3, d4, d5, d6, d7⟩ := fin Y4 _ (by unfold turnT; rw [if_neg hA', if_neg hB']) hH6 (by omega)
            have hlz := d3.lenOf
            subst hw4
            simp [e2, e4, e31, e32, e33, hi, q1, q2, p20, p21, p22, q40, q42, q60, q62, hY1, o1, rdC_ob o1, hlw, n1, rdC_ob n1, hY2, hsrc, happ, hO3', hY4w, rdC_ob o4, rdC_ob n4, c1, c4, hA, c5, hB, rdC_ob oF, rdC_ob nF, d1, d2, hlz]
            refine phisIn (o7 := Y.length) (G := Gz) (fr := u) (vv := k) (at_ := bs.length) (x2 := .c (.p (H.length + 1) 0 0)) (x4 := .c (.p X2.length 0 0)) (x5 := Env.get e 5) (x31 := .c ew) (x32 := .c (.i es.length)) (x33 := .c (.i i)) d3 d4 d5 nF d6 (by simp) (by simp) (by simp) (by simp) (by simp) (by simp) (by simp) (by simp) (by simp) (by simp) (by simp) ?_
            intro Z' e' hr hf hl f2 f4 f5 f31 f32 f33
            simp [f2, f4, f5, f31, f32, f33, up1 hi (show es.length ≤ BIG by simp only [BIG]; omega)]
            have hfin := d7 Z' hr hf hl
            rw [← hsucc] at hfin
            exact (hI _ ⟨_, _⟩).2 ⟨_, hfin, by simp [f2, f4, f31, f32, f33]⟩
      · rintro ⟨e, Y⟩ hIs
        obtain ⟨w', hH, e2, e4, e31, e32, e33⟩ := (hI _ _).1 hIs
        simp only at hH e2 e4 e31 e32 e33 ⊢
        rw [List.take_length] at hH
        have hRY : rdOb Y (H.length + 1) 0 = some ⟨[.ns, .i 0], 0, true, 2⟩ := hH.fr.ob ⟨by omega, .inl (by omega)⟩ hR4
        obtain ⟨Y2, hY2⟩ : ∃ Y2, Y.set (H.length + 1) ⟨[w', .i f.values], 0, true, 2⟩ = Y2 := ⟨_, rfl⟩
        have hR2 : rdOb Y2 (H.length + 1) 0 = some ⟨[w', .i f.values], 0, true, 2⟩ := by rw [← hY2, rdOb_set_self (rdOb_lt hRY)]; simp
        have hpY : Pre H Y := (hH.fr.mono fun j (hj : j < H.length) => ⟨by omega, .inl (by omega)⟩).cut (hp13.trans hp4)
        unfold vf47b2
        simp [e2, e4, e31, e32, e33, rdN_ob hH.out, hRY, putAt, hY2, rdN_ob hR2]
        rw [hg.1, hg.2]
        refine FnRes2.mk (H := H) (g := ⟨es.foldl splitE f.blocks, f.values⟩) (S := fun j => X1.length ≤ j ∧ ¬ (j = X3.length ∧ j < X4.length) ∧ j ≠ X2.length) ?_ ?_ (fun j hj => by omega)
        · rw [← hY2]; exact hpY.set (by omega) _
        · rw [← hY2]; exact hH.tree.fr blkF_st (Frm.set _ _ (by omega))
    · obtain ⟨g1, g2⟩ := hfalse (fun h => hlen h.2)
      have hn16 : 16 < (f.blocks.length : Int) + ((crit0 f).length : Int) := by omega
      simp [putAt, hX3, rdN_ob hB3, hcrit, hX4, rdN_ob hB4, implCheck hv4 hb, hck, rdC_ob hB4, hlv, hle, wrap64_id hw64, hn16, rdN_ob hO4, hR4, hX6, rdN_ob hR6]
      rw [g1, g2]
      exact hbad
  · obtain ⟨g1, g2⟩ := hfalse (fun h => hck h.1)
    simp [putAt, hX3, rdN_ob hB3, hcrit, hX4, rdN_ob hB4, implCheck hv4 hb, hck, rdN_ob hO4, hR4, hX6, rdN_ob hR6]
    rw [g1, g2]
    exact hbad
end Go.Proofs.YtgdfgnppeekfjaaGreat.Vm
end
section
/- Programs split, by the specification. No conditions. -/
namespace Go.Proofs.YtgdfgnppeekfjaaGreat.Vm
open Go.RowKit (wrap64)
set_option linter.unusedSimpArgs false
set_option linter.unusedVariables false
theorem q43 (a b c d x : CV) : putAt [a, b, c, d] 3 [x] = [a, b, c, x] := rfl
theorem q44 (a b c d w x y z : CV) : putAt [a, b, c, d] 0 [w, x, y, z] = [w, x, y, z] := rfl
set_option maxRecDepth 100000 in
theorem specSplit {H : Hp} {v : CV} {f : FnR} (hv : Blocks H v f.blocks) (hb : f.blocks.length ≤ BIG) : CM 46 [.agg [v, .i f.values]] H (FnRes2 H (split0 f) (splitOk f)) := by
  refine cw46 ?_
  unfold vf46c
  obtain ⟨X1, hX1⟩ : ∃ X1, H ++ [(⟨[v, .i f.values], 0, true, 2⟩ : Ob), ⟨[.ns, .i 0], 0, true, 2⟩] = X1 := ⟨_, rfl⟩
  have hp1 : Pre H X1 := ⟨_, hX1.symm⟩
  have l1 : X1.length = H.length + 2 := by rw [← hX1]; simp
  have hB1 : rdOb X1 H.length 0 = some ⟨[v, .i f.values], 0, true, 2⟩ := by rw [← hX1]; simp
  have hR1 : rdOb X1 (H.length + 1) 0 = some ⟨[.ns, .i 0], 0, true, 2⟩ := by rw [← hX1]; simp
  simp [hX1, rdN_ob hB1]
  refine (specCopy (hv.pre hp1) hb).mono ?_
  rintro _ ⟨w, L1, rfl, hT⟩
  obtain ⟨X2, hX2⟩ : ∃ X2, X1 ++ L1 = X2 := ⟨_, rfl⟩
  rw [hX2] at hT ⊢
  have hp2 : Pre X1 X2 := ⟨_, hX2.symm⟩
  have l2 := hp2.le
  obtain ⟨X3, hX3⟩ : ∃ X3, X2 ++ [(⟨[w, .i f.values], 0, true, 2⟩ : Ob)] = X3 := ⟨_, rfl⟩
  have hp3 : Pre X2 X3 := ⟨_, hX3.symm⟩
  have l3 : X3.length = X2.length + 1 := by rw [← hX3]; simp
  have hO3 : rdOb X3 X2.length 0 = some ⟨[w, .i f.values], 0, true, 2⟩ := by rw [← hX3]; simp
  have hT3 : Tree (fun j => X1.length ≤ j ∧ j < X2.length) X3 w f.blocks := hT.bound.fr blkF_st (Frm.pre hp3)
  have hB3 := hp3.rdOb (hp2.rdOb hB1)
  have hR3 := hp3.rdOb (hp2.rdOb hR1)
  have hp13 := hp1.trans (hp2.trans hp3)
  have hv3 := hv.pre hp13
  have hfalse : ∀ (h : ¬ (checkF f = 0 ∧ f.blocks.length + (crit0 f).length ≤ 16)), split0 f = f ∧ splitOk f = false := fun h => ⟨by unfold split0; rw [if_neg h], pB_false h⟩
  have hbad : ∀ X4 X6, Pre X3 X4 → X4.set (H.length + 1) ⟨[w, .i f.values], 0, true, 2⟩ = X6 → FnRes2 H f false (gcRet H (.tup [(true, [w, .i f.values]), (false, [.b false])]) X6) := by
    intro X4 X6 hp4 hX6
    refine FnRes2.mk (H := H) (g := f) (S := fun j => X1.length ≤ j ∧ j < X2.length) ?_ ?_ (fun j hj => by omega)
    · rw [← hX6]; exact (hp13.trans hp4).set (by omega) _
    · rw [← hX6]; exact (hT3.fr blkF_st (Frm.pre hp4)).fr blkF_st (Frm.set _ _ (by omega))
  by_cases hck : checkF f = 0
  · have hsh := (well_iff.1 hck).sh
    have hcrit := specCrit (m := f.values) hv3 (shape_range hsh) hb
    have hc0 : critTo f.blocks f.blocks.length = crit0 f := by unfold crit0; rw [if_pos hsh]
    rw [hc0] at hcrit
    obtain ⟨X4, hX4⟩ : ∃ X4, X3 ++ [(⟨edC (crit0 f), 0, true, 2⟩ : Ob)] = X4 := ⟨_, rfl⟩
    have hp4 : Pre X3 X4 := ⟨_, hX4.symm⟩
    have l4 := hp4.le
    obtain ⟨ew, hewd⟩ : ∃ ew, CV.sl X3.length 0 0 (crit0 f).length = ew := ⟨_, rfl⟩
    have hew : RowE X3 ew [⟨edC (crit0 f), 0, true, 2⟩] (crit0 f) := .inr ⟨hewd.symm, rfl⟩
    have hE4 : Arms X4 ew (crit0 f) := by rw [← hX4]; exact hew.isE
    have hle := hE4.lenOf
    have hO4 := hp4.rdOb hO3
    have hB4 := hp4.rdOb hB3
    have hR4 := hp4.rdOb hR3
    have hv4 := hv3.pre hp4
    have hlv := hv4.lenOf
    have hcs := crit0_small (f := f)
    have hw64 : -9223372036854775808 ≤ (f.blocks.length : Int) + ((crit0 f).length : Int) ∧ (f.blocks.length : Int) + ((crit0 f).length : Int) ≤ 9223372036854775807 := by simp only [BIG] at hb hcs; omega
    have hid : ∀ id g off n, ew = .sl id g off n → id = X3.length := fun id g off n e => by
      rw [← hewd] at e; cases e; rfl
    obtain ⟨X6, hX6⟩ : ∃ X6, X4.set (H.length + 1) ⟨[w, .i f.values], 0, true, 2⟩ = X6 := ⟨_, rfl⟩
    have hR6 : rdOb X6 (H.length + 1) 0 = some ⟨[w, .i f.values], 0, true, 2⟩ := by rw [← hX6, rdOb_set_self (rdOb_lt hR4)]; simp
    rw [hewd] at hcrit
    by_cases hlen : f.blocks.length + (crit0 f).length ≤ 16
    · have hg : split0 f = ⟨(crit0 f).foldl splitE f.blocks, f.values⟩ ∧ splitOk f = true := ⟨by unfold split0; rw [if_pos ⟨hck, hlen⟩], pB_true ⟨hck, hlen⟩⟩
      have hn16 : ¬ (16 < (f.blocks.length : Int) + ((crit0 f).length : Int)) := by omega
      simp [putAt, hX3, rdN_ob hB3, specCheck hv3 hb, hck, hcrit, hX4, rdC_ob hB4, hlv, hle, wrap64_id hw64, hn16]
      clear hw64
      obtain ⟨es, hes⟩ : ∃ es, crit0 f = es := ⟨_, rfl⟩
      have hin : ∀ e ∈ es, ∃ u k : Nat, e = ⟨u, k⟩ ∧ u < f.blocks.length ∧ k < f.blocks.length := fun e he => by
        rw [← hes] at he
        obtain ⟨_, u, k, h1, h2, h3, _⟩ := crit0_in he
        exact ⟨u, k, h1, h2, h3⟩
      rw [hes] at hE4 hle hlen hg
      have hH0 : SplitH X1.length X2.length (fun j => j = X3.length ∧ j < X4.length) f.values X4 X4 w f.blocks :=
        ⟨(hT3.fr blkF_st (Frm.pre hp4)).mono fun j hj => ⟨hj.1, by omega, by omega⟩, hO4, Frm.refl _ _, Nat.le_refl _⟩
      obtain ⟨I, hI⟩ : ∃ I : Nat → St → Prop, ∀ i s, I i s ↔ (∃ w', SplitH X1.length X2.length (fun j => j = X3.length ∧ j < X4.length) f.values X4 s.h w' ((es.take i).foldl splitE f.blocks) ∧
        Env.get s.e 2 = .c (.p (H.length + 1) 0 0) ∧ Env.get s.e 4 = .c (.p X2.length 0 0) ∧ Env.get s.e 5 = .c ew ∧ Env.get s.e 6 = .c (.i i)) := ⟨_, fun _ _ => Iff.rfl⟩
      refine wp_for CM_mono es.length I ((hI _ ⟨_, _⟩).2 ⟨w, by simpa using hH0, by simp⟩) ?_ ?_
      · rintro i ⟨e, Y⟩ hi hIs
        obtain ⟨w', hH, e2, e4, e5, e6⟩ := (hI _ _).1 hIs
        simp only at hH e2 e4 e5 e6 ⊢
        obtain ⟨u, k, hek, hu, hk⟩ := hin es[i] (List.getElem_mem hi)
        obtain ⟨bs, hbs⟩ : ∃ bs, (es.take i).foldl splitE f.blocks = bs := ⟨_, rfl⟩
        have hbl : bs.length = f.blocks.length + i := by rw [← hbs, splits_len, List.length_take]; omega
        have hsucc : (es.take (i + 1)).foldl splitE f.blocks = splitE bs ⟨u, k⟩ := by rw [List.take_succ_eq_append_getElem hi, List.foldl_append, hbs, hek]; rfl
        rw [hbs] at hH
        have hEY : Arms Y ew es := by
          obtain ⟨css, h1, h2, h3⟩ := hE4
          refine ⟨css, ?_, h2, h3⟩
          rcases h1 with ⟨a, b, c⟩ | ⟨id, g, off, o, a, b, c⟩
          · exact .inl ⟨a, b, c⟩
          · have hlt := rdOb_lt b
            have := hid _ _ _ _ a
            exact .inr ⟨id, g, off, o, a, hH.fr.ob ⟨hlt, .inr ⟨⟨this, hlt⟩, by omega⟩⟩ b, c⟩
        have hXY := hH.len
        have hleY := hEY.lenOf
        obtain ⟨eid, eg, eoff, q1, ⟨_, _, q2⟩, _⟩ := Arms.get hEY hi
        rw [hek] at q2
        simp only at q2
        obtain ⟨Y1, hY1⟩ : ∃ Y1, Y ++ [(⟨[.i (u : Int), .i (k : Int)], 0, true, 2⟩ : Ob)] = Y1 := ⟨_, rfl⟩
        have hp1Y : Pre Y Y1 := ⟨_, hY1.symm⟩
        have lY1 : Y1.length = Y.length + 1 := by rw [← hY1]; simp
        have n1 : rdOb Y1 Y.length 0 = some ⟨[.i (u : Int), .i (k : Int)], 0, true, 2⟩ := by rw [← hY1]; simp
        have hY4l : X4.length ≤ Y.length := hXY
        have hH1 : SplitH X1.length X2.length (fun j => (j = X3.length ∧ j < X4.length) ∨ j = Y.length) f.values Y1 Y1 w' bs :=
          ⟨((FRow.bound hH.tree).fr blkF_st (Frm.pre hp1Y)).mono fun j hj => ⟨hj.1.1, fun hn => by rcases hn with hn | hn; exact hj.1.2.1 hn; omega, hj.1.2.2⟩, hp1Y.rdOb hH.out, Frm.refl _ _, Nat.le_refl _⟩
        have hlw := FRow.lenOf hH1.tree
        have hbB : bs.length ≤ BIG := by simp only [BIG]; omega
        obtain ⟨i', g', Y2, Y3, Y4, hY2, hsrc, happ, hO3', hY4, hH4, lY4, _⟩ := hH1.push (by omega) (by omega) (fun j hj => by omega) hbB (k : Int)
        have n2 : rdOb Y2 Y.length 0 = some ⟨[.i (u : Int), .i (k : Int)], 0, true, 2⟩ := by rw [← hY2]; exact rdOb_app _ n1
        have o2 : rdOb Y2 X2.length 0 = some ⟨[w', .i f.values], 0, true, 2⟩ := by rw [← hY2]; exact rdOb_app _ hH1.out
        have o1 := hH1.out
        obtain ⟨w4, hw4⟩ : ∃ w4, CV.sl i' g' 0 (bs.length + 1) = w4 := ⟨_, rfl⟩
        rw [hw4] at hH4
        have hY4w : Y3.set X2.length ⟨[.sl i' g' 0 (bs.length + 1), .i f.values], 0, true, 2⟩ = Y4 := hY4
        have nE : ∀ Z bz, SplitH X1.length X2.length (fun j => (j = X3.length ∧ j < X4.length) ∨ j = Y.length) f.values Y1 Z w4 bz → rdOb Z Y.length 0 = some ⟨[.i (u : Int), .i (k : Int)], 0, true, 2⟩ := fun Z bz h => h.fr.ob ⟨by omega, .inr ⟨.inr rfl, by omega⟩⟩ n1
        have n4 := nE _ _ hH4
        obtain ⟨b1, hb1⟩ : ∃ b1, splitN bs k = b1 := ⟨_, rfl⟩
        rw [hb1] at hH4
        have hb1l : b1.length = bs.length + 1 := by rw [← hb1, splitN_len]
        have hu1 : u < b1.length := by omega
        have hk1 : k < b1.length := by omega
        obtain ⟨id, g, cells, c1, c2, c3, c4, c5, c6, c7, c8, c9, c10⟩ := hH4.tree.termH hu1
        obtain ⟨tt, htt⟩ : ∃ tt, b1[u].term = tt := ⟨_, rfl⟩
        rw [htt] at c4 c5 c6 c8 c9
        have hSE : splitE bs ⟨u, k⟩ = setP (setT b1 u (turnT k bs.length tt)) k (((setT b1 u (turnT k bs.length tt))[k]'(by rw [setT_len]; exact hk1)).phis.map (turnP u bs.length)) := by
          unfold splitE
          simp only [Int.toNat_natCast]
          rw [hb1, blk_at hu1, htt, blk_at (by rw [setT_len]; exact hk1)]
        have fin : ∀ (Z : Hp) (tF : TrmR), tF = turnT k bs.length tt → SplitH X1.length X2.length (fun j => (j = X3.length ∧ j < X4.length) ∨ j = Y.length) f.values Y1 Z w4 (setT b1 u tF) → X4.length ≤ Z.length →
            ∃ id3 g3 z, ∃ Gz : Nat → Prop, ∃ ps : List PhiR, idxOf 6 w4 (k : Int) = some (.p id3 g3 (k * 6)) ∧ rdC Z id3 g3 (k * 6) = some z ∧ FRow phiF 2 Z z ps Gz ∧ ps.length ≤ BIG ∧ (∀ j, Gz j → j < Z.length) ∧ ¬ Gz Y.length ∧
              ∀ Z', FRow phiF 2 Z' z (ps.map (turnP u bs.length)) Gz → Frm (fun j => j < Z.length ∧ ¬ Gz j) Z Z' → Z.length ≤ Z'.length → SplitH X1.length X2.length (fun j => j = X3.length ∧ j < X4.length) f.values X4 Z' w4 (splitE bs ⟨u, k⟩) := by
          intro Z tF htF hZ hlZ
          subst htF
          have hkT : k < (setT b1 u (turnT k bs.length tt)).length := by rw [setT_len]; exact hk1
          obtain ⟨id3, g3, z, Gz, d1, d2, d3, d4, d5, d6, d7⟩ := hZ.tree.phis hkT
          refine ⟨id3, g3, z, Gz, _, d1, d2, d3, d6, fun j hj => (d4 j hj).2.1, fun hn => (d4 _ hn).1.2.1 (.inr rfl), fun Z' hr hf hl => ?_⟩
          have hT' := d7 Z' _ hl (hf.monoL fun j hj h => ⟨hj, h.2⟩) hr (by rw [List.length_map]; exact d6)
          rw [hSE, setP_at _ _ hkT]
          have hH7 := hZ.to (by omega) hT' (hf.mono fun j hj => ⟨hj.1, fun hn => hj.2 (d4 j hn).1⟩) hl
          refine ⟨hH7.tree.mono fun j hj => ⟨hj.1, fun hn => hj.2.1 (.inl hn), hj.2.2⟩, hH7.out, hH.fr.trans ((Frm.pre hp1Y).trans (hH7.fr.mono fun j hj => ⟨by omega, by rcases hj.2 with h | h; exact .inl h; exact .inr ⟨.inl h.1, h.2⟩⟩)), by omega⟩
        have hid4 := rdOb_lt c2
        have o4 := hH4.out
        obtain ⟨Y5, hY5⟩ : ∃ Y5, Y4 ++ [(⟨[.i tt.kind, .i tt.a, .i tt.to, .i tt.els], 0, true, 4⟩ : Ob)] = Y5 := ⟨_, rfl⟩
        have hp5 : Pre Y4 Y5 := ⟨_, hY5.symm⟩
        have lY5 : Y5.length = Y4.length + 1 := by rw [← hY5]; simp
        have t5 : rdOb Y5 Y4.length 0 = some ⟨[.i tt.kind, .i tt.a, .i tt.to, .i tt.els], 0, true, 4⟩ := by rw [← hY5]; simp
        have n5 := hp5.rdOb n4
        unfold vf46b2
        cases hA : decide (tt.to = (k : Int)) with
        | true =>
          have hA' := of_decide_eq_true hA
          obtain ⟨Y6, hY6⟩ : ∃ Y6, Y5.set Y4.length ⟨[.i tt.kind, .i tt.a, .i (bs.length : Int), .i tt.els], 0, true, 4⟩ = Y6 := ⟨_, rfl⟩
          have hp6 : Pre Y4 Y6 := by rw [← hY6]; exact hp5.set (Nat.le_refl _) _
          have t6 : rdOb Y6 Y4.length 0 = some ⟨[.i tt.kind, .i tt.a, .i (bs.length : Int), .i tt.els], 0, true, 4⟩ := by rw [← hY6, rdOb_set_self (by omega)]; simp
          have n6 := hp6.rdOb n4
          cases hB : decide (tt.els = (k : Int)) with
          | true =>
            have hB' := of_decide_eq_true hB
            obtain ⟨Y7, hY7⟩ : ∃ Y7, Y6.set Y4.length ⟨[.i tt.kind, .i tt.a, .i (bs.length : Int), .i (bs.length : Int)], 0, true, 4⟩ = Y7 := ⟨_, rfl⟩
            have hp7 : Pre Y4 Y7 := by rw [← hY7]; exact hp6.set (Nat.le_refl _) _
            have tZ : rdOb Y7 Y4.length 0 = some ⟨[.i tt.kind, .i tt.a, .i (bs.length : Int), .i (bs.length : Int)], 0, true, 4⟩ := by rw [← hY7, rdOb_set_self (rdOb_lt t6)]; simp
            have hpZ : Pre Y4 Y7 := hp7
            have hHZ : SplitH X1.length X2.length (fun j => (j = X3.length ∧ j < X4.length) ∨ j = Y.length) f.values Y1 Y7 w4 b1 := by
              have hpZ9 := hpZ; obtain ⟨LZ, hLZ⟩ := hpZ9
              rw [hLZ]; exact hH4.app LZ
            obtain ⟨idz, gz, cellsz, z1, z2, z3, _, _, _, z7, _, _, z10⟩ := hHZ.tree.termH hu1
            have ez : idz = id ∧ gz = g := by have e := z1.symm.trans c1; injection e with e; injection e with e1 e2; exact ⟨e1, e2⟩
            obtain ⟨rfl, rfl⟩ := ez
            obtain ⟨Y8, hY8⟩ : ∃ Y8, (Y7 : Hp).set idz ⟨putAt cellsz (u * 6 + 2) [.i tt.kind, .i tt.a, .i (bs.length : Int), .i (bs.length : Int)], gz, true, 6⟩ = Y8 := ⟨_, rfl⟩
            have z10' := z10 ⟨tt.kind, tt.a, (bs.length : Int), (bs.length : Int)⟩
            simp only [trmC] at z10'
            rw [hY8] at z10'
            have lY8 : Y8.length = (Y7 : Hp).length := by rw [← hY8]; simp
            have hH8 := hHZ.to (by omega) z10' (by rw [← hY8]; exact Frm.set _ _ (fun hn => hn.2 z7)) (by omega)
            have hcl : u * 6 + 2 + 4 ≤ cellsz.length := by omega
            have nZ := nE _ _ hHZ
            have oZ := hHZ.out
            have oF := hH8.out
            have nF := nE _ _ hH8
            have hlZ := hpZ.le
            obtain ⟨id3, g3, z, Gz, ps, d1, d2, d3, d4, d5, d6, d7⟩ := fin Y8 _ (by unfold turnT; rw [if_pos hA', if_pos hB']) hH8 (by omega)
            have hlz := d3.lenOf
            subst hw4
            simp [e2, e4, e5, e6, hleY, hi, q1, q2, p20, p21, p22, q40, q42, q43, q44, q60, q62, hY1, o1, rdC_ob o1, hlw, n1, rdC_ob n1, hY2, hsrc, happ, hO3', hY4w, rdC_ob o4, rdC_ob n4, c1, c6, hY5, rdC_ob t5, rdC_ob n5, hA, t5, hY6, rdC_ob t6, rdC_ob n6, hB, t6, hY7, rdC_ob nZ, rdC_ob oZ, rdN_ob tZ, z2, hcl, hY8, rdC_ob oF, rdC_ob nF, d1, d2]
            refine phisInS (o7 := Y.length) (G := Gz) (fr := u) (vv := k) (at_ := bs.length) (x2 := .c (.p (H.length + 1) 0 0)) (x4 := .c (.p X2.length 0 0)) (x5 := .c ew) (x6 := .c (.i i)) d3 d4 nF d6 (by simp) (by simp) (by simp) (by simp) (by simp) (by simp) (by simp) (by simp) ?_
            intro Z' e' hr hf hl f2 f4 f5 f6
            simp [f2, f4, f5, f6, up1 hi (show es.length ≤ BIG by simp only [BIG]; omega)]
            have hfin := d7 Z' hr hf hl
            rw [← hsucc] at hfin
            exact (hI _ ⟨_, _⟩).2 ⟨_, hfin, by simp [f2, f4, f5, f6]⟩
          | false =>
            have hB' := of_decide_eq_false hB
            have tZ := t6
            have hpZ : Pre Y4 Y6 := hp6
            have hHZ : SplitH X1.length X2.length (fun j => (j = X3.length ∧ j < X4.length) ∨ j = Y.length) f.values Y1 Y6 w4 b1 := by
              have hpZ9 := hpZ; obtain ⟨LZ, hLZ⟩ := hpZ9
              rw [hLZ]; exact hH4.app LZ
            obtain ⟨idz, gz, cellsz, z1, z2, z3, _, _, _, z7, _, _, z10⟩ := hHZ.tree.termH hu1
            have ez : idz = id ∧ gz = g := by have e := z1.symm.trans c1; injection e with e; injection e with e1 e2; exact ⟨e1, e2⟩
            obtain ⟨rfl, rfl⟩ := ez
            obtain ⟨Y8, hY8⟩ : ∃ Y8, (Y6 : Hp).set idz ⟨putAt cellsz (u * 6 + 2) [.i tt.kind, .i tt.a, .i (bs.length : Int), .i tt.els], gz, true, 6⟩ = Y8 := ⟨_, rfl⟩
            have z10' := z10 ⟨tt.kind, tt.a, (bs.length : Int), tt.els⟩
            simp only [trmC] at z10'
            rw [hY8] at z10'
            have lY8 : Y8.length = (Y6 : Hp).length := by rw [← hY8]; simp
            have hH8 := hHZ.to (by omega) z10' (by rw [← hY8]; exact Frm.set _ _ (fun hn => hn.2 z7)) (by omega)
            have hcl : u * 6 + 2 + 4 ≤ cellsz.length := by omega
            have nZ := nE _ _ hHZ
            have oZ := hHZ.out
            have oF := hH8.out
            have nF := nE _ _ hH8
            have hlZ := hpZ.le
            obtain ⟨id3, g3, z, Gz, ps, d1, d2, d3, d4, d5, d6, d7⟩ := fin Y8 _ (by unfold turnT; rw [if_pos hA', if_neg hB']) hH8 (by omega)
            have hlz := d3.lenOf
            subst hw4
            simp [e2, e4, e5, e6, hleY, hi, q1, q2, p20, p21, p22, q40, q42, q43, q44, q60, q62, hY1, o1, rdC_ob o1, hlw, n1, rdC_ob n1, hY2, hsrc, happ, hO3', hY4w, rdC_ob o4, rdC_ob n4, c1, c6, hY5, rdC_ob t5, rdC_ob n5, hA, t5, hY6, rdC_ob t6, rdC_ob n6, hB, rdC_ob nZ, rdC_ob oZ, rdN_ob tZ, z2, hcl, hY8, rdC_ob oF, rdC_ob nF, d1, d2]
            refine phisInS (o7 := Y.length) (G := Gz) (fr := u) (vv := k) (at_ := bs.length) (x2 := .c (.p (H.length + 1) 0 0)) (x4 := .c (.p X2.length 0 0)) (x5 := .c ew) (x6 := .c (.i i)) d3 d4 nF d6 (by simp) (by simp) (by simp) (by simp) (by simp) (by simp) (by simp) (by simp) ?_
            intro Z' e' hr hf hl f2 f4 f5 f6
            simp [f2, f4, f5, f6, up1 hi (show es.length ≤ BIG by simp only [BIG]; omega)]
            have hfin := d7 Z' hr hf hl
            rw [← hsucc] at hfin
            exact (hI _ ⟨_, _⟩).2 ⟨_, hfin, by simp [f2, f4, f5, f6]⟩
        | false =>
          have hA' := of_decide_eq_false hA
          cases hB : decide (tt.els = (k : Int)) with
          | true =>
            have hB' := of_decide_eq_true hB
            obtain ⟨Y7, hY7⟩ : ∃ Y7, Y5.set Y4.length ⟨[.i tt.kind, .i tt.a, .i tt.to, .i (bs.length : Int)], 0, true, 4⟩ = Y7 := ⟨_, rfl⟩
            have hp7 : Pre Y4 Y7 := by rw [← hY7]; exact hp5.set (Nat.le_refl _) _
            have tZ : rdOb Y7 Y4.length 0 = some ⟨[.i tt.kind, .i tt.a, .i tt.to, .i (bs.length : Int)], 0, true, 4⟩ := by rw [← hY7, rdOb_set_self (rdOb_lt t5)]; simp
            have hpZ : Pre Y4 Y7 := hp7
            have hHZ : SplitH X1.length X2.length (fun j => (j = X3.length ∧ j < X4.length) ∨ j = Y.length) f.values Y1 Y7 w4 b1 := by
              have hpZ9 := hpZ; obtain ⟨LZ, hLZ⟩ := hpZ9
              rw [hLZ]; exact hH4.app LZ
            obtain ⟨idz, gz, cellsz, z1, z2, z3, _, _, _, z7, _, _, z10⟩ := hHZ.tree.termH hu1
            have ez : idz = id ∧ gz = g := by have e := z1.symm.trans c1; injection e with e; injection e with e1 e2; exact ⟨e1, e2⟩
            obtain ⟨rfl, rfl⟩ := ez
            obtain ⟨Y8, hY8⟩ : ∃ Y8, (Y7 : Hp).set idz ⟨putAt cellsz (u * 6 + 2) [.i tt.kind, .i tt.a, .i tt.to, .i (bs.length : Int)], gz, true, 6⟩ = Y8 := ⟨_, rfl⟩
            have z10' := z10 ⟨tt.kind, tt.a, tt.to, (bs.length : Int)⟩
            simp only [trmC] at z10'
            rw [hY8] at z10'
            have lY8 : Y8.length = (Y7 : Hp).length := by rw [← hY8]; simp
            have hH8 := hHZ.to (by omega) z10' (by rw [← hY8]; exact Frm.set _ _ (fun hn => hn.2 z7)) (by omega)
            have hcl : u * 6 + 2 + 4 ≤ cellsz.length := by omega
            have nZ := nE _ _ hHZ
            have oZ := hHZ.out
            have oF := hH8.out
            have nF := nE _ _ hH8
            have hlZ := hpZ.le
            obtain ⟨id3, g3, z, Gz, ps, d1, d2, d3, d4, d5, d6, d7⟩ := fin Y8 _ (by unfold turnT; rw [if_neg hA', if_pos hB']) hH8 (by omega)
            have hlz := d3.lenOf
            subst hw4
            simp [e2, e4, e5, e6, hleY, hi, q1, q2, p20, p21, p22, q40, q42, q43, q44, q60, q62, hY1, o1, rdC_ob o1, hlw, n1, rdC_ob n1, hY2, hsrc, happ, hO3', hY4w, rdC_ob o4, rdC_ob n4, c1, c6, hY5, rdC_ob t5, rdC_ob n5, hA, hB, t5, hY7, rdC_ob nZ, rdC_ob oZ, rdN_ob tZ, z2, hcl, hY8, rdC_ob oF, rdC_ob nF, d1, d2]
            refine phisInS (o7 := Y.length) (G := Gz) (fr := u) (vv := k) (at_ := bs.length) (x2 := .c (.p (H.length + 1) 0 0)) (x4 := .c (.p X2.length 0 0)) (x5 := .c ew) (x6 := .c (.i i)) d3 d4 nF d6 (by simp) (by simp) (by simp) (by simp) (by simp) (by simp) (by simp) (by simp) ?_
            intro Z' e' hr hf hl f2 f4 f5 f6
            simp [f2, f4, f5, f6, up1 hi (show es.length ≤ BIG by simp only [BIG]; omega)]
            have hfin := d7 Z' hr hf hl
            rw [← hsucc] at hfin
            exact (hI _ ⟨_, _⟩).2 ⟨_, hfin, by simp [f2, f4, f5, f6]⟩
          | false =>
            have hB' := of_decide_eq_false hB
            have tZ := t5
            have hpZ : Pre Y4 Y5 := hp5
            have hHZ : SplitH X1.length X2.length (fun j => (j = X3.length ∧ j < X4.length) ∨ j = Y.length) f.values Y1 Y5 w4 b1 := by
              have hpZ9 := hpZ; obtain ⟨LZ, hLZ⟩ := hpZ9
              rw [hLZ]; exact hH4.app LZ
            obtain ⟨idz, gz, cellsz, z1, z2, z3, _, _, _, z7, _, _, z10⟩ := hHZ.tree.termH hu1
            have ez : idz = id ∧ gz = g := by have e := z1.symm.trans c1; injection e with e; injection e with e1 e2; exact ⟨e1, e2⟩
            obtain ⟨rfl, rfl⟩ := ez
            obtain ⟨Y8, hY8⟩ : ∃ Y8, (Y5 : Hp).set idz ⟨putAt cellsz (u * 6 + 2) [.i tt.kind, .i tt.a, .i tt.to, .i tt.els], gz, true, 6⟩ = Y8 := ⟨_, rfl⟩
            have z10' := z10 ⟨tt.kind, tt.a, tt.to, tt.els⟩
            simp only [trmC] at z10'
            rw [hY8] at z10'
            have lY8 : Y8.length = (Y5 : Hp).length := by rw [← hY8]; simp
            have hH8 := hHZ.to (by omega) z10' (by rw [← hY8]; exact Frm.set _ _ (fun hn => hn.2 z7)) (by omega)
            have hcl : u * 6 + 2 + 4 ≤ cellsz.length := by omega
            have nZ := nE _ _ hHZ
            have oZ := hHZ.out
            have oF := hH8.out
            have nF := nE _ _ hH8
            have hlZ := hpZ.le
            obtain ⟨id3, g3, z, Gz, ps, d1, d2, d3, d4, d5, d6, d7⟩ := fin Y8 _ (by unfold turnT; rw [if_neg hA', if_neg hB']) hH8 (by omega)
            have hlz := d3.lenOf
            subst hw4
            simp [e2, e4, e5, e6, hleY, hi, q1, q2, p20, p21, p22, q40, q42, q43, q44, q60, q62, hY1, o1, rdC_ob o1, hlw, n1, rdC_ob n1, hY2, hsrc, happ, hO3', hY4w, rdC_ob o4, rdC_ob n4, c1, c6, hY5, rdC_ob t5, rdC_ob n5, hA, hB, rdC_ob nZ, rdC_ob oZ, rdN_ob tZ, z2, hcl, hY8, rdC_ob oF, rdC_ob nF, d1, d2]
            refine phisInS (o7 := Y.length) (G := Gz) (fr := u) (vv := k) (at_ := bs.length) (x2 := .c (.p (H.length + 1) 0 0)) (x4 := .c (.p X2.length 0 0)) (x5 := .c ew) (x6 := .c (.i i)) d3 d4 nF d6 (by simp) (by simp) (by simp) (by simp) (by simp) (by simp) (by simp) (by simp) ?_
            intro Z' e' hr hf hl f2 f4 f5 f6
            simp [f2, f4, f5, f6, up1 hi (show es.length ≤ BIG by simp only [BIG]; omega)]
            have hfin := d7 Z' hr hf hl
            rw [← hsucc] at hfin
            exact (hI _ ⟨_, _⟩).2 ⟨_, hfin, by simp [f2, f4, f5, f6]⟩
      · rintro ⟨e, Y⟩ hIs
        obtain ⟨w', hH, e2, e4, e5, e6⟩ := (hI _ _).1 hIs
        simp only at hH e2 e4 e5 e6 ⊢
        rw [List.take_length] at hH
        have hRY : rdOb Y (H.length + 1) 0 = some ⟨[.ns, .i 0], 0, true, 2⟩ := hH.fr.ob ⟨by omega, .inl (by omega)⟩ hR4
        obtain ⟨Y2, hY2⟩ : ∃ Y2, Y.set (H.length + 1) ⟨[w', .i f.values], 0, true, 2⟩ = Y2 := ⟨_, rfl⟩
        have hR2 : rdOb Y2 (H.length + 1) 0 = some ⟨[w', .i f.values], 0, true, 2⟩ := by rw [← hY2, rdOb_set_self (rdOb_lt hRY)]; simp
        have hpY : Pre H Y := (hH.fr.mono fun j (hj : j < H.length) => ⟨by omega, .inl (by omega)⟩).cut (hp13.trans hp4)
        have hleY : lenOf ew = some es.length := hle
        unfold vf46b2
        simp [e2, e4, e5, e6, hleY, rdN_ob hH.out, hRY, putAt, hY2, rdN_ob hR2]
        rw [hg.1, hg.2]
        refine FnRes2.mk (H := H) (g := ⟨es.foldl splitE f.blocks, f.values⟩) (S := fun j => X1.length ≤ j ∧ ¬ (j = X3.length ∧ j < X4.length) ∧ j ≠ X2.length) ?_ ?_ (fun j hj => by omega)
        · rw [← hY2]; exact hpY.set (by omega) _
        · rw [← hY2]; exact hH.tree.fr blkF_st (Frm.set _ _ (by omega))
    · obtain ⟨g1, g2⟩ := hfalse (fun h => hlen h.2)
      have hn16 : 16 < (f.blocks.length : Int) + ((crit0 f).length : Int) := by omega
      simp [putAt, hX3, rdN_ob hB3, specCheck hv3 hb, hck, hcrit, hX4, rdC_ob hB4, hlv, hle, wrap64_id hw64, hn16, rdN_ob hO4, hR4, hX6, rdN_ob hR6]
      rw [g1, g2]
      exact hbad _ _ hp4 hX6
  · obtain ⟨g1, g2⟩ := hfalse (fun h => hck h.1)
    obtain ⟨X6, hX6⟩ : ∃ X6, X3.set (H.length + 1) ⟨[w, .i f.values], 0, true, 2⟩ = X6 := ⟨_, rfl⟩
    have hR6 : rdOb X6 (H.length + 1) 0 = some ⟨[w, .i f.values], 0, true, 2⟩ := by rw [← hX6, rdOb_set_self (rdOb_lt hR3)]; simp
    simp [putAt, hX3, rdN_ob hB3, specCheck hv3 hb, hck, rdN_ob hO3, hR3, hX6, rdN_ob hR6]
    rw [g1, g2]
    exact hbad _ _ (Pre.refl _) hX6
end Go.Proofs.YtgdfgnppeekfjaaGreat.Vm
end
