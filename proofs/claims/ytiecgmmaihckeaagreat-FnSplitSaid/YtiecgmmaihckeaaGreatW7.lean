/- A part of the proof: the machine and the walks. No conditions. -/
import Derived.Test.YtiecgmmaihckeaaGreatW6
namespace Go.Proofs.YtiecgmmaihckeaaGreat.Vm
open Go.RowKit (wrap64)
set_option linter.unusedSimpArgs false
set_option linter.unusedVariables false
set_option maxRecDepth 100000
noncomputable def pB (p:Prop):Bool:=@decide p (Classical.propDecidable p)

theorem pB_true {p:Prop} (h:p):pB p=true:=by unfold pB;simp[h]

theorem pB_false {p:Prop} (h:¬ p):pB p=false:=by unfold pB;simp[h]

def ArmsRight (bs:List BlkR):Prop:=∀ j (hj:j<bs.length),∀ p∈bs[j].phis,sortI (fromsF p)=predsF bs j

theorem asc_eq:∀ (B A:List Int),A.Pairwise (·<·)→B.Pairwise (·<·)→(∀ x∈A,x∈B)→B.length≤A.length→A=B:=by
 intro B
 induction B with
 | nil =>
  intro A _ _ h _
  cases A with
  | nil=>rfl
  | cons a r=>exact absurd (h a (by simp)) (by simp)
 | cons b B ih =>
  intro A hA hB h hl
  cases A with
  | nil=>simp at hl
  | cons a A =>
   rw[List.pairwise_cons]at hA hB
   have hab:a=b∨b<a:=by
    rcases List.mem_cons.1 (h a (by simp)) with e | e
    ·exact .inl e
    ·exact .inr (hB.1 _ e)
   have ht:A=B:=by
    refine ih A hA.2 hB.2 (fun x hx=>?_) (by simpa using hl)
    have hax:=hA.1 x hx
    rcases List.mem_cons.1 (h x (by simp[hx])) with e | e
    ·omega
    ·exact e
   subst ht
   rcases hab with e | e
   ·rw[e]
   ·rcases List.mem_cons.1 (h a (by simp)) with e2 | e2
    ·rw[e2]
    ·exact absurd (hA.1 a e2) (by omega)

theorem preds_asc (bs:List BlkR) (b:Int):(predsF bs b).Pairwise (·<·):=by
 unfold predsF predsTo
 rw[List.pairwise_map]
 exact (List.Pairwise.filter _ List.pairwise_lt_range).imp (fun h=>by omega)

theorem froms_apart {n m:Int} {p:PhiR} (h:phiB n m p=true):(fromsF p).Pairwise (·≠·):=by
 unfold phiB armsB at h
 simp only[Bool.and_eq_true,List.all_eq_true,List.mem_range]at h
 unfold fromsF
 rw[List.pairwise_map,List.pairwise_iff_getElem]
 intro i j hi hj hij
 have:=h.2 j hj
 rw[armB_at hj]at this
 simp only[Bool.and_eq_true,Bool.not_eq_true',List.any_eq_false,decide_eq_true_eq]at this
 exact this.2 _ (List.mem_take_iff_getElem.2 ⟨i,by omega,rfl⟩)

theorem arms_iff {bs:List BlkR} {b:Int} {n m:Int} {p:PhiR} (h:phiB n m p=true):sortI (fromsF p)=predsF bs b↔(p.arms.length=(predsF bs b).length∧∀ a∈p.arms,hasI (predsF bs b) a.fr=true):=by
 have hperm:(sortI (fromsF p)).Perm (fromsF p):=List.mergeSort_perm _ _
 constructor
 ·intro e
  refine⟨by rw[← e];simp[fromsF],fun a ha=>?_⟩
  rw[hasI_iff,← e]
  exact hperm.mem_iff.2 (List.mem_map.2 ⟨a,ha,rfl⟩)
 ·rintro⟨h1,h2⟩
  have hs:(sortI (fromsF p)).Pairwise (·≤·):=by
   have:=List.pairwise_mergeSort (le:=fun x y:Int=>decide (x≤y)) (fun a b c h1 h2=>by simp at *;omega) (fun a b=>by simp;omega) (fromsF p)
   exact this.imp (fun h=>by simpa using h)
  have hn:(sortI (fromsF p)).Pairwise (·≠·):=hperm.symm.pairwise (froms_apart h) (fun h=>Ne.symm h)
  refine asc_eq _ _ ?_ (preds_asc bs b) ?_ ?_
  ·have:=hs.and hn
   exact this.imp (fun h=>by omega)
  ·intro x hx
   obtain⟨a,ha,rfl⟩:=List.mem_map.1 (hperm.mem_iff.1 hx)
   exact hasI_iff.1 (h2 a ha)
  ·rw[sortI_len];simp[fromsF,h1]

set_option maxRecDepth 100000 in
theorem implArms {H:Hp} {v:CV} {f:FnR} (hv:Blocks H v f.blocks) (hsh:shapeB f=true) (k:IV×Hp→Prop) :
  CM 58 [.agg [v,.i f.values]] H k=k (.c (.b (pB (¬ ArmsRight f.blocks))),H):=by
 refine det (cw58 ?_) k
 unfold vf58c
 obtain⟨s1,s2,s3,s4⟩:=shape_len hsh
 obtain⟨X,hX⟩:∃ X,H++[(⟨[v,.i f.values],0,true,2⟩:Ob)]=X:=⟨_,rfl⟩
 have hp:Pre H X:=⟨_,hX.symm⟩
 have hB:rdOb X H.length 0=some ⟨[v,.i f.values],0,true,2⟩:=by rw[← hX];simp
 have hl:=hv.lenOf
 have hbb:f.blocks.length≤BIG:=by simp only[BIG];omega
 simp[hX,rdC_ob hB,hl]
 obtain⟨I,hI⟩:∃ I:Nat→St→Prop,∀ i st,I i st↔((∀ j (hj:j<f.blocks.length),j<i→∀ p∈f.blocks[j].phis,sortI (fromsF p)=predsF f.blocks j)∧Pre X st.h ∧
   Env.get st.e 1=.c (.p H.length 0 0)∧Env.get st.e 12=.c v∧Env.get st.e 13=.c (.i f.blocks.length)∧Env.get st.e 14=.c (.i i)):=⟨_,fun _ _=>Iff.rfl⟩
 refine wp_for CM_mono f.blocks.length I ((hI _ _).2 ⟨by simp,Pre.refl _,by simp⟩) ?_ ?_
 ·rintro i ⟨e,Y⟩ hi hIs
  obtain⟨hdone,hY,e1,e12,e13,e14⟩:=(hI _ _).1 hIs
  simp only at hY e1 e12 e13 e14 ⊢
  have hmem:f.blocks[i]∈f.blocks:=List.getElem_mem hi
  have hlens:=shape_lens hsh hmem
  obtain⟨i0,g0,off0,w,u,q1,_,q2,qp,ql,qpl,qll,_,_⟩:=Blocks.get hv hi
  have hHY:=hp.trans hY
  obtain⟨GY,hGY⟩:=id hHY
  have q2':=q2 GY
  rw[← hGY]at q2'
  obtain⟨t,ht⟩:∃ t,f.blocks[i].term=t:=⟨_,rfl⟩
  rw[ht]at q2'
  obtain⟨Y1,hY1⟩:∃ Y1,Y++[(⟨[w,u,.i t.kind,.i t.a,.i t.to,.i t.els],0,true,6⟩:Ob)]=Y1:=⟨_,rfl⟩
  have hpY1:Pre X Y1:=by rw[← hY1];exact hY.app _
  have h5:rdOb Y1 Y.length 0=some ⟨[w,u,.i t.kind,.i t.a,.i t.to,.i t.els],0,true,6⟩:=by rw[← hY1];simp
  have hBY:=hpY1.rdOb hB
  have hvY:=Blocks.pre (hp.trans hpY1) hv
  obtain⟨pw,L,hpw,hcall⟩:=implPreds (m:=f.values) (b:=(i:Int)) hvY hbb
  obtain⟨Y2,hY2⟩:∃ Y2,Y1++L=Y2:=⟨_,rfl⟩
  have hpwI:=hpw.isI
  have hpY2:Pre Y1 Y2:=⟨_,hY2.symm⟩
  rw[hY2]at hpwI
  have h52:=hpY2.rdOb h5
  have hpl:=qp.lenOf
  unfold vf58b2
  simp[e1,e12,e13,e14,hi,q1,q2'.2.2.2.2.2.2.2.2.2.2,put66c,hY1,rdN_ob hBY,hcall,hY2,rdC_ob h52,hpl]
  obtain⟨J,hJ⟩:∃ J:Nat→St→Prop,∀ j st,J j st↔((∀ p∈f.blocks[i].phis.take j,sortI (fromsF p)=predsF f.blocks i)∧Pre Y2 st.h ∧
    Env.get st.e 1=.c (.p H.length 0 0)∧Env.get st.e 12=.c v∧Env.get st.e 13=.c (.i f.blocks.length)∧Env.get st.e 14=.c (.i i)∧Env.get st.e 5=.c pw∧Env.get st.e 23=.c w∧Env.get st.e 24=.c (.i f.blocks[i].phis.length)∧Env.get st.e 25=.c (.i j)):=⟨_,fun _ _=>Iff.rfl⟩
  refine wp_for CM_mono f.blocks[i].phis.length J ((hJ _ _).2 ⟨by simp,Pre.refl _,by simp[e1,e12,e13,e14]⟩) ?_ ?_
  ·rintro j ⟨e',Z⟩ hj hJs
   obtain⟨hdj,hZ,e1,e12,e13,e14,e5,e23,e24,e25⟩:=(hJ _ _).1 hJs
   simp only at hZ e1 e12 e13 e14 e5 e23 e24 e25 ⊢
   obtain⟨id2,g2,off2,w2,r1,_,r2,qa,_⟩:=Phis.get qp hj
   have hHZ:=(hHY.trans (hY1▸⟨_,rfl⟩:Pre Y Y1)).trans (hpY2.trans hZ)
   obtain⟨GZ,hGZ⟩:=id hHZ
   have r2':=r2 GZ
   rw[← hGZ]at r2'
   obtain⟨ph,hph⟩:∃ ph,f.blocks[i].phis[j]=ph:=⟨_,rfl⟩
   have hphB:=shape_phi hsh hmem (List.getElem_mem hj)
   rw[hph]at r2' hphB qa
   obtain⟨_,hal,_⟩:=phi_vals hphB
   obtain⟨Z1,hZ1⟩:∃ Z1,Z++[(⟨[.i ph.d,w2],0,true,2⟩:Ob)]=Z1:=⟨_,rfl⟩
   have h7:rdOb Z1 Z.length 0=some ⟨[.i ph.d,w2],0,true,2⟩:=by rw[← hZ1];simp
   obtain⟨Z2,hZ2⟩:∃ Z2,Z1++[(⟨[],0,true,1⟩:Ob)]=Z2:=⟨_,rfl⟩
   have hpZ1:Pre Z Z1:=⟨_,hZ1.symm⟩
   have hpZ2:Pre Z1 Z2:=⟨_,hZ2.symm⟩
   have h72:=hpZ2.rdOb h7
   have hlZ2:Z2.length=Z1.length+1:=by rw[← hZ2];simp
   have h8:rdOb Z2 Z1.length 0=some ⟨[],0,true,1⟩:=by rw[← hZ2];simp
   have hall:=qa.lenOf
   have hfl:(fromsF ph).length=ph.arms.length:=by simp[fromsF]
   unfold vf58b1
   simp[e1,e12,e13,e14,e5,e23,e24,e25,hj,r1,r2'.2.2,putD0,hZ1,hZ2,rdC_ob h72,hall]
   obtain⟨K,hK⟩:∃ K:Nat→St→Prop,∀ k st,K k st↔(Pre Z1 st.h∧(∃ g,rdOb st.h Z1.length g=some ⟨((fromsF ph).take k).map .i,g,true,1⟩∧Env.get st.e 8=.c (.sl Z1.length g 0 k)) ∧
     Env.get st.e 1=.c (.p H.length 0 0)∧Env.get st.e 12=.c v∧Env.get st.e 13=.c (.i f.blocks.length)∧Env.get st.e 14=.c (.i i)∧Env.get st.e 5=.c pw∧Env.get st.e 23=.c w∧Env.get st.e 24=.c (.i f.blocks[i].phis.length)∧Env.get st.e 25=.c (.i j) ∧
     Env.get st.e 31=.c w2∧Env.get st.e 32=.c (.i ph.arms.length)∧Env.get st.e 33=.c (.i k)):=⟨_,fun _ _=>Iff.rfl⟩
   refine wp_for CM_mono ph.arms.length K ((hK _ _).2 ⟨hpZ2,⟨0,by simpa using h8,by simp⟩,by simp[e1,e12,e13,e14,e5,e23,e24,e25]⟩) ?_ ?_
   ·rintro k ⟨e2,W⟩ hk hKs
    obtain⟨hW,⟨g,ho,e8⟩,e1,e12,e13,e14,e5,e23,e24,e25,e31,e32,e33⟩:=(hK _ _).1 hKs
    simp only at hW ho e8 e1 e12 e13 e14 e5 e23 e24 e25 e31 e32 e33 ⊢
    obtain⟨id3,g3,off3,m1,⟨m2,m3,m4⟩,m5,m6,m7⟩:=Arms.get (qa.pre ((hHZ.trans hpZ1).trans hW)) hk
    have hfk:(fromsF ph).take (k+1)=(fromsF ph).take k++[ph.arms[k].fr]:=by
     rw[List.take_succ_eq_append_getElem (by omega)];simp[fromsF]
    have hlt:=rdOb_lt ho
    have hkl:((fromsF ph).take k).length=k:=by rw[List.length_take];omega
    obtain⟨W1,hW1⟩:∃ W1,W++[(⟨[.i ph.arms[k].fr,.i ph.arms[k].v],0,true,2⟩:Ob)]=W1:=⟨_,rfl⟩
    have hpW1:Pre W W1:=⟨_,hW1.symm⟩
    have h10:rdOb W1 W.length 0=some ⟨[.i ph.arms[k].fr,.i ph.arms[k].v],0,true,2⟩:=by rw[← hW1];simp
    have ho1:=hpW1.rdOb ho
    unfold vf58b0
    simp[e8,e1,e12,e13,e14,e5,e23,e24,e25,e31,e32,e33,hk,m1,m4,putD0,hW1,rdC_ob h10,srcOf,putL0]
    rw[app_own (cs:=((fromsF ph).take k).map .i) (rdOb_app _ ho1) (by simp;omega) (by simp) (by simp;simp only[LIM];omega)]
    simp[e8,e1,e12,e13,e14,e5,e23,e24,e25,e31,e32,e33,up1 hk (show ph.arms.length≤BIG by simp only[BIG];omega)]
    refine (hK _ _).2 ⟨((hW.trans hpW1).app _).set (by simp) _,⟨g+1,?_,by simp⟩,by simp[e1,e12,e13,e14,e5,e23,e24,e25,e31,e32]⟩
    have:=hpW1.le
    rw[rdOb_set_self (by simp;omega)]
    simp[hfk]
   ·rintro⟨e2,W⟩ hKs
    obtain⟨hW,⟨g,ho,e8⟩,e1,e12,e13,e14,e5,e23,e24,e25,e31,e32,e33⟩:=(hK _ _).1 hKs
    simp only at hW ho e8 e1 e12 e13 e14 e5 e23 e24 e25 e31 e32 e33 ⊢
    rw[← hfl,List.take_length]at ho
    rw[← hfl]at e8
    have hlt:=rdOb_lt ho
    have hpS:Pre Z1 (W.set Z1.length ⟨(sortI (fromsF ph)).map .i,g,true,1⟩):=hW.set (by omega) _
    have hI1:IsI (W.set Z1.length ⟨(sortI (fromsF ph)).map .i,g,true,1⟩) (.sl Z1.length g 0 (sortI (fromsF ph)).length) (sortI (fromsF ph)):=
     IsI.mk (o:=⟨(sortI (fromsF ph)).map .i,g,true,1⟩) (by rw[rdOb_set_self hlt];simp) rfl (by simp) (by rw[List.drop_zero,List.take_of_length_le (by simp)])
    rw[sortI_len]at hI1
    have hI2:=IsI.pre ((hZ.trans hpZ1).trans hpS) hpwI
    have hbl:(sortI (fromsF ph)).length≤BIG:=by rw[sortI_len,hfl];simp only[BIG];omega
    unfold vf58b0
    by_cases hs:sortI (fromsF ph)=predsF f.blocks i
    ·simp[e8,e1,e12,e13,e14,e5,e23,e24,e25,e31,e32,e33,sort_call ho (by rw[hfl];simp only[LIM];omega),equalInt hI1 hI2 hbl,decide_eq_true hs,up1 hj qpl]
     refine (hJ _ _).2 ⟨?_,(hZ.trans hpZ1).trans hpS,by simp[e1,e12,e13,e14,e5,e23,e24]⟩
     intro p hp'
     rw[List.take_succ_eq_append_getElem hj]at hp'
     rcases List.mem_append.1 hp' with h | h
     ·exact hdj p h
     ·simp at h;rw[h,hph];exact hs
    ·have hno:¬ ArmsRight f.blocks:=fun hc=>hs (hc i hi ph (hph▸List.getElem_mem hj))
     simp[e8,e1,e12,e13,e14,e5,e23,e24,e25,e31,e32,e33,sort_call ho (by rw[hfl];simp only[LIM];omega),equalInt hI1 hI2 hbl,hs]
     rw[gcRet_flat ((hHZ.trans hpZ1).trans hpS) rfl,pB_true hno]
  ·rintro⟨e',Z⟩ hJs
   obtain⟨hdj,hZ,e1,e12,e13,e14,e5,e23,e24,e25⟩:=(hJ _ _).1 hJs
   simp only at hZ e1 e12 e13 e14 e5 e23 e24 e25 ⊢
   rw[List.take_length]at hdj
   unfold vf58b1
   simp[e1,e12,e13,e14,e5,e23,e24,e25,up1 hi hbb]
   refine (hI _ _).2 ⟨?_,hpY1.trans (hpY2.trans hZ),by simp[e1,e12,e13]⟩
   intro j hj hji
   by_cases ej:j=i
   ·subst ej;exact hdj
   ·exact hdone j hj (by omega)
 ·rintro⟨e,Y⟩ hIs
  obtain⟨hdone,hY,e1,e12,e13,e14⟩:=(hI _ _).1 hIs
  simp only at hY e1 e12 e13 e14 ⊢
  have hyes:¬ ¬ ArmsRight f.blocks:=fun hc=>hc fun j hj=>hdone j hj hj
  unfold vf58b2
  simp[e1,e12,e13,e14]
  rw[gcRet_flat (hp.trans hY) rfl,pB_false hyes]
set_option maxRecDepth 100000 in
theorem specArms {H:Hp} {v:CV} {f:FnR} (hv:Blocks H v f.blocks) (hsh:shapeB f=true) (k:IV×Hp→Prop) :
  CM 90 [.agg [v,.i f.values]] H k=k (.c (.b (pB (ArmsRight f.blocks))),H):=by
 refine det (cw90 ?_) k
 unfold vf90c
 obtain⟨s1,s2,s3,s4⟩:=shape_len hsh
 obtain⟨X,hX⟩:∃ X,H++[(⟨[v,.i f.values],0,true,2⟩:Ob)]=X:=⟨_,rfl⟩
 have hp:Pre H X:=⟨_,hX.symm⟩
 have hB:rdOb X H.length 0=some ⟨[v,.i f.values],0,true,2⟩:=by rw[← hX];simp
 have hvX:=Blocks.pre hp hv
 have hl:=hvX.lenOf
 have hbb:f.blocks.length≤BIG:=by simp only[BIG];omega
 simp[hX]
 obtain⟨I,hI⟩:∃ I:Nat→St→Prop,∀ i st,I i st↔((∀ j (hj:j<f.blocks.length),j<i→∀ p∈f.blocks[j].phis,sortI (fromsF p)=predsF f.blocks j)∧Pre X st.h ∧
   Env.get st.e 1=.c (.p H.length 0 0)∧Env.get st.e 3=.c (.i i)):=⟨_,fun _ _=>Iff.rfl⟩
 refine wp_for CM_mono f.blocks.length I ((hI _ _).2 ⟨by simp,Pre.refl _,by simp⟩) ?_ ?_
 ·rintro i ⟨e,Y⟩ hi hIs
  obtain⟨hdone,hY,e1,e3⟩:=(hI _ _).1 hIs
  simp only at hY e1 e3 ⊢
  have hmem:f.blocks[i]∈f.blocks:=List.getElem_mem hi
  have hlens:=shape_lens hsh hmem
  have hBY:=hY.rdOb hB
  have hvY:=hvX.pre hY
  obtain⟨pw,L,hpw,hcall⟩:=specPreds (m:=f.values) (b:=(i:Int)) hvY hbb
  obtain⟨Y2,hY2⟩:∃ Y2,Y++L=Y2:=⟨_,rfl⟩
  have hpwI:=hpw.isI
  have hpY2:Pre Y Y2:=⟨_,hY2.symm⟩
  rw[hY2]at hpwI
  have hB2:=hpY2.rdOb hBY
  have hplen:=hpwI.lenOf
  have hpb:(predsF f.blocks i).length≤BIG:=by have:=predsTo_le f.blocks i f.blocks.length;unfold predsF;omega
  unfold vf90b2
  simp[e1,e3,hi,rdC_ob hBY,rdN_ob hBY,hl,hcall,hY2]
  obtain⟨J,hJ⟩:∃ J:Nat→St→Prop,∀ j st,J j st↔((∀ p∈f.blocks[i].phis.take j,sortI (fromsF p)=predsF f.blocks i)∧st.h=Y2 ∧
    Env.get st.e 1=.c (.p H.length 0 0)∧Env.get st.e 3=.c (.i i)∧Env.get st.e 4=.c pw∧Env.get st.e 5=.c (.i j)):=⟨_,fun _ _=>Iff.rfl⟩
  have hv2:=hvY.pre hpY2
  obtain⟨i0,g0,off0,w,u,q1,q2,_,qp,_,qpl,_,_,_⟩:=Blocks.get hv2 hi
  have hpl:=qp.lenOf
  refine wp_for CM_mono f.blocks[i].phis.length J ((hJ _ _).2 ⟨by simp,rfl,by simp[e1,e3]⟩) ?_ ?_
  ·rintro j ⟨e',Z⟩ hj hJs
   obtain⟨hdj,hZ,e1,e3,e4,e5⟩:=(hJ _ _).1 hJs
   simp only at hZ e1 e3 e4 e5 ⊢
   subst hZ
   obtain⟨id2,g2,off2,w2,r1,r2,_,qa,_⟩:=Phis.get qp hj
   obtain⟨ph,hph⟩:∃ ph,f.blocks[i].phis[j]=ph:=⟨_,rfl⟩
   have hphB:=shape_phi hsh hmem (List.getElem_mem hj)
   rw[hph]at r2 hphB qa
   obtain⟨_,hal,_⟩:=phi_vals hphB
   have hiff:=arms_iff (bs:=f.blocks) (b:=i) hphB
   have hall:=qa.lenOf
   have hbad:¬ sortI (fromsF ph)=predsF f.blocks i→pB (ArmsRight f.blocks)=false:=fun h=>pB_false fun hc=>h (hc i hi ph (hph▸List.getElem_mem hj))
   unfold vf90b1
   by_cases hlen:ph.arms.length=(predsF f.blocks i).length
   ·have hlen':(ph.arms.length:Int)=((predsF f.blocks i).length:Int):=by omega
    simp[e1,e3,e4,e5,rdC_ob hB2,q1,q2.1,hpl,hj,r1,r2.2,hall,hplen,hlen']
    obtain⟨K,hK⟩:∃ K:Nat→St→Prop,∀ k st,K k st↔((∀ a∈ph.arms.take k,hasI (predsF f.blocks i) a.fr=true)∧st.h=Z ∧
      Env.get st.e 1=.c (.p H.length 0 0)∧Env.get st.e 3=.c (.i i)∧Env.get st.e 4=.c pw∧Env.get st.e 5=.c (.i j)∧Env.get st.e 6=.c w2∧Env.get st.e 7=.c (.i k)):=⟨_,fun _ _=>Iff.rfl⟩
    refine wp_for CM_mono ph.arms.length K ((hK _ _).2 ⟨by simp,rfl,by simp[e1,e3,e4,e5]⟩) ?_ ?_
    ·rintro k ⟨e2,W⟩ hk hKs
     obtain⟨hdk,hW,e1,e3,e4,e5,e6,e7⟩:=(hK _ _).1 hKs
     simp only at hW e1 e3 e4 e5 e6 e7 ⊢
     subst hW
     obtain⟨id3,g3,off3,m1,⟨m2,m3,m4⟩,m5,m6,m7⟩:=Arms.get qa hk
     unfold vf90b0
     cases hh:hasI (predsF f.blocks i) ph.arms[k].fr with
     | true =>
      simp[e1,e3,e4,e5,e6,e7,hall,hk,m1,m2,l3Has_call hpwI hpb,hh,up1 hk (show ph.arms.length≤BIG by simp only[BIG];omega)]
      refine (hK _ _).2 ⟨?_,rfl,by simp[e1,e3,e4,e5,e6]⟩
      intro a ha
      rw[List.take_succ_eq_append_getElem hk]at ha
      rcases List.mem_append.1 ha with h | h
      ·exact hdk a h
      ·simp at h;rw[h];exact hh
     | false =>
      have hbd:=hbad fun hc=>by
       have:=(hiff.1 hc).2 _ (List.getElem_mem hk)
       rw[hh]at this;cases this
      simp[e1,e3,e4,e5,e6,e7,hall,hk,m1,m2,l3Has_call hpwI hpb,hh]
      rw[gcRet_flat ((hp.trans hY).trans hpY2) rfl,hbd]
    ·rintro⟨e2,W⟩ hKs
     obtain⟨hdk,hW,e1,e3,e4,e5,e6,e7⟩:=(hK _ _).1 hKs
     simp only at hW e1 e3 e4 e5 e6 e7 ⊢
     subst hW
     rw[List.take_length]at hdk
     unfold vf90b0
     simp[e1,e3,e4,e5,e6,e7,hall,up1 hj qpl]
     refine (hJ _ _).2 ⟨?_,rfl,by simp[e1,e3,e4]⟩
     intro p hp'
     rw[List.take_succ_eq_append_getElem hj]at hp'
     rcases List.mem_append.1 hp' with h | h
     ·exact hdj p h
     ·simp at h;rw[h,hph];exact hiff.2 ⟨hlen,hdk⟩
   ·have hbd:=hbad fun hc=>hlen (hiff.1 hc).1
    have hlen':¬ (ph.arms.length:Int)=((predsF f.blocks i).length:Int):=by omega
    simp[e1,e3,e4,e5,rdC_ob hB2,q1,q2.1,hpl,hj,r1,r2.2,hall,hplen,hlen']
    rw[gcRet_flat ((hp.trans hY).trans hpY2) rfl,hbd]
  ·rintro⟨e',Z⟩ hJs
   obtain⟨hdj,hZ,e1,e3,e4,e5⟩:=(hJ _ _).1 hJs
   simp only at hZ e1 e3 e4 e5 ⊢
   subst hZ
   rw[List.take_length]at hdj
   unfold vf90b1
   simp[e1,e3,e4,e5,rdC_ob hB2,q1,q2.1,hpl,up1 hi hbb]
   refine (hI _ _).2 ⟨?_,hY.trans hpY2,by simp[e1]⟩
   intro j hj hji
   by_cases ej:j=i
   ·subst ej;exact hdj
   ·exact hdone j hj (by omega)
 ·rintro⟨e,Y⟩ hIs
  obtain⟨hdone,hY,e1,e3⟩:=(hI _ _).1 hIs
  simp only at hY e1 e3 ⊢
  have hyes:ArmsRight f.blocks:=fun j hj=>hdone j hj hj
  unfold vf90b2
  simp[e1,e3,rdC_ob (hY.rdOb hB),hl]
  rw[gcRet_flat (hp.trans hY) rfl,pB_true hyes]
theorem putD0' (a b x y:CV):putAt [a,b] 0 [x,y]=[x,y]:=by simp[putAt]

theorem defGo_spec (v:Int):∀ (bs:List BlkR) (j:Nat),((defGo v bs j).2=-2∧(defGo v bs j).1=-1)∨∃ i,∃ hi:i<bs.length,(defGo v bs j).1=((j+i:Nat):Int) ∧
  (((defGo v bs j).2=-1∧bs[i].phis.any (fun p=>decide (p.d=v))=true)∨∃ n,∃ hn:n<bs[i].list.length,(defGo v bs j).2=(n:Int)∧madeAt v bs[i].list[n]=true):=by
 intro bs
 induction bs with
 | nil=>intro j;exact .inl ⟨rfl,rfl⟩
 | cons b r ih =>
  intro j
  cases hd:defBlk b v with
  | none =>
   have e:defGo v (b :: r) j=defGo v r (j+1):=by simp[defGo,hd]
   rw[e]
   rcases ih (j+1) with h | ⟨i,hi,h1,h2⟩
   ·exact .inl h
   ·exact .inr ⟨i+1,by simpa using hi,by rw[h1];congr 1;omega,h2⟩
  | some p =>
   have e:defGo v (b :: r) j=((j:Int),p):=by simp[defGo,hd]
   rw[e]
   refine .inr ⟨0,by simp,by simp,?_⟩
   unfold defBlk at hd
   split at hd
   ·rename_i hp
    injection hd with hd
    exact .inl ⟨hd.symm,hp⟩
   ·split at hd
    ·rename_i h0
     injection hd with hd
     right
     have:∃ n,∃ hn:n<b.list.length,findI (madeAt v) b.list=(n:Int)∧madeAt v b.list[n]=true:=by
      have hany:=findI_nonneg.1 h0
      unfold findI at h0 ⊢
      cases hf:b.list.findIdx? (madeAt v) with
      | none=>rw[hf]at h0;simp at h0
      | some n =>
       rw[List.findIdx?_eq_some_iff_getElem]at hf
       obtain⟨h1,h2,_⟩:=hf
       exact⟨n,h1,rfl,h2⟩
     obtain⟨n,hn,h1,h2⟩:=this
     exact⟨n,hn,by rw[← hd];exact h1,h2⟩
    ·cases hd
def DomsOwn (H:Hp) (bs:List BlkR) (r:IV×Hp):Prop:=∃ d X',r=(.c (.sl d 0 0 bs.length),X')∧Pre H X'∧DInv (fun id=>id<H.length) d bs.length (domF bs) X'

theorem DInv.own {K:Nat→Prop} {H Y:Hp} {d:Nat} {bs:List BlkR} (h:DInv K d bs.length (domF bs) Y) (hp:Pre H Y) (hd:H.length≤d) (hk:∀ id,id<H.length→K id):DomsOwn H bs (gcRet H (.c (.sl d 0 0 bs.length)) Y):=by
 have hw:=h.weak hk
 obtain⟨_,cells,h2,h3,h4⟩:=h
 by_cases hf:cells.all flatC=true
 ·rw[gcRet_row hp hd h2 rfl hf]
  refine⟨H.length,_,rfl,⟨_,rfl⟩,fun id hi=>⟨by omega,by simp;omega⟩,cells,by simp,h3,fun b hb=>?_⟩
  obtain⟨c,a1,a2,_,_⟩:=h4 b hb
  rcases a2 with⟨rfl,e⟩ | ⟨o,g,rfl,_⟩
  ·refine⟨.ns,a1,.inl ⟨rfl,e⟩,(fun id ⟨_,_,h⟩=>by cases h),fun b' c' _ _ _ id ⟨_,_,h⟩=>by cases h⟩
  ·have:=List.all_eq_true.1 hf _ (List.mem_of_getElem? a1)
   cases this
 ·have e:gcRet H (.c (.sl d 0 0 bs.length)) Y=(.c (.sl d 0 0 bs.length),Y):=by
   unfold gcRet
   rw[if_pos hp.take,if_neg (by simp[flatV,flatC])]
   simp only[hd,if_true,(rdOb_some.1 h2).1]
   rw[if_neg (by simp[hf])]
  rw[e]
  exact⟨d,Y,rfl,hp,hw⟩

def RowsI (X:Hp) (v:CV) (n:Nat) (f:Nat→List Int):Prop:=lenOf v=some n∧∀ b,b<n→∃ id g off c,idxOf 1 v (b:Int)=some (.p id g off)∧rdC X id g off=some c∧IsI X c (f b)

theorem Pre.rdC {X Y:Hp} (hp:Pre X Y) {id g off:Nat} {c:CV} (h:Vm.rdC X id g off=some c):Vm.rdC Y id g off=some c:=by
 unfold Vm.rdC at h ⊢
 cases ho:Vm.rdOb X id g with
 | none=>simp[ho]at h
 | some o=>rw[hp.rdOb ho];rw[ho]at h;exact h

theorem RowsI.pre {X Y:Hp} {v:CV} {n:Nat} {f:Nat→List Int} (h:RowsI X v n f) (hp:Pre X Y):RowsI Y v n f:=by
 refine⟨h.1,fun b hb=>?_⟩
 obtain⟨id,g,off,c,h1,h2,h3⟩:=h.2 b hb
 exact⟨id,g,off,c,h1,Pre.rdC hp h2,h3.pre hp⟩

theorem RowsI.mk {X:Hp} {d n:Nat} {cells:List CV} {f:Nat→List Int} (h:rdOb X d 0=some ⟨cells,0,true,1⟩) (hl:cells.length=n) (hr:∀ b,b<n→∃ c,cells[b]? = some c∧IsI X c (f b)):RowsI X (.sl d 0 0 n) n f:=by
 refine⟨rfl,fun b hb=>?_⟩
 obtain⟨c,h1,h2⟩:=hr b hb
 exact⟨d,0,b,c,by simp[idxOf,hb],by rw[rdC_ob h];exact h1,h2⟩

def sumTo (f:Nat→List Int):Nat→Nat
 | 0=>0
 | n+1=>sumTo f n+(f n).length

def mks (f:Nat→List Int) (b:Nat):List Int:=ups (1+(sumTo f b:Int)) (f b).length
def OwnRows (lo:Nat) (w:CV) (n:Nat) (g:Nat→List Int) (X:Hp):Prop:=(w=.ns∧n=0)∨∃ d,w=.sl d 0 0 n∧DInv (fun id=>id<lo) d n g X

theorem DInv.keepHi {lo d n:Nat} {f:Nat→List Int} {Y Z:Hp} (h:DInv (fun id=>id<lo) d n f Y) (hl:Y.length≤Z.length) (hk:∀ id g o,lo≤id→rdOb Y id g=some o→rdOb Z id g=some o):DInv (fun id=>id<lo) d n f Z:=by
 obtain⟨h1,cells,h2,h3,h4⟩:=h
 have hd:lo≤d:=by
  by_cases hlt:d<lo
  ·exact absurd rfl (h1 d hlt).1
  ·omega
 refine⟨fun id hi=>⟨(h1 id hi).1,by have:=(h1 id hi).2;omega⟩,cells,hk _ _ _ hd h2,h3,fun b hb=>?_⟩
 obtain⟨c,a1,a2,a3,a4⟩:=h4 b hb
 exact⟨c,a1,a2.keep fun id g o hi ho=>hk _ _ _ (by have:=(a3 id hi).1;omega) ho,a3,a4⟩

theorem OwnRows.keep {lo:Nat} {w:CV} {n:Nat} {g:Nat→List Int} {Y Z:Hp} (h:OwnRows lo w n g Y) (hl:Y.length≤Z.length) (hk:∀ id g o,lo≤id→rdOb Y id g=some o→rdOb Z id g=some o):OwnRows lo w n g Z:=by
 rcases h with h | ⟨d,rfl,h⟩
 ·exact .inl h
 ·exact .inr ⟨d,rfl,h.keepHi hl hk⟩

def domN (f:FnR):Nat:=if shapeB f=true then f.blocks.length else 0
theorem hasI_dom {bs:List BlkR} (hin:InRange bs) {a b:Nat} (ha:a<bs.length) (hb:b<bs.length):hasI (domF bs b) a=true↔Dom bs a b:=by
 rw[hasI_iff,← domB_iff hin ha hb]
 exact⟨domB_of_mem,mem_domF ha⟩
structure DomsIn (X:Hp) (d:Nat) (bs:List BlkR):Prop where
 ob:∃ cells,rdOb X d 0=some ⟨cells,0,true,1⟩∧cells.length=bs.length∧∀ b,b<bs.length→∃ c,cells[b]? = some c∧IsI X c (domF bs b)

theorem DomsIn.pre {X Y:Hp} (hp:Pre X Y) {d:Nat} {bs:List BlkR} (h:DomsIn X d bs):DomsIn Y d bs:=by
 obtain⟨cells,h1,h2,h3⟩:=h.ob
 refine⟨cells,hp.rdOb h1,h2,fun b hb=>?_⟩
 obtain⟨c,a,b⟩:=h3 b hb
 exact⟨c,a,IsI.pre hp b⟩

theorem among_in {X:Hp} {d:Nat} {bs:List BlkR} (h:DomsIn X d bs) (hb:bs.length≤BIG) (a b:Int) (k:IV×Hp→Prop) :
  CM 160 [.c (.sl d 0 0 bs.length),.c (.i a),.c (.i b)] X k=k (.c (.b (inB b 0 ((bs.length:Int) - 1) && hasI (domF bs b.toNat) a)),X):=by
 obtain⟨cells,h1,h2,h3⟩:=h.ob
 exact among_call h1 h2 h3 hb a b k

theorem at_call {Z:Hp} {v:CV} {f:FnR} {d:Nat} {x i:Int} {b:Nat} (hv:Blocks Z v f.blocks) (hsh:shapeB f=true) (hD:DomsIn Z d f.blocks) (hb:b<f.blocks.length) (k:IV×Hp→Prop) :
  CM 162 [.agg [v,.i f.values,.sl d 0 0 f.blocks.length],.c (.i x),.c (.i b),.c (.i i)] Z k=k (.c (.b (atB f.blocks x b i)),Z):=by
 refine det (cw162 ?_) k
 unfold vf162c
 obtain⟨s1,s2,s3,s4⟩:=shape_len hsh
 have hbb:f.blocks.length≤BIG:=by simp only[BIG];omega
 obtain⟨X,hX⟩:∃ X,Z++[(⟨[v,.i f.values,.sl d 0 0 f.blocks.length],0,true,3⟩:Ob)]=X:=⟨_,rfl⟩
 have hp:Pre Z X:=⟨_,hX.symm⟩
 have hB:rdOb X Z.length 0=some ⟨[v,.i f.values,.sl d 0 0 f.blocks.length],0,true,3⟩:=by rw[← hX];simp
 have hda:defAtF f x=homeF f.blocks x:=by unfold defAtF homeF;rw[if_pos hsh]
 have hib:inB (b:Int) 0 ((f.blocks.length:Int) - 1)=true:=decide_eq_true (by omega)
 obtain⟨h,hh⟩:∃ h,homeF f.blocks x=h:=⟨_,rfl⟩
 obtain⟨h1,h2⟩:=h
 by_cases he:h1=(b:Int)
 ·have:atB f.blocks x b i=decide (h2<i):=by unfold atB;rw[hh];simp[he]
  simp[hX,rdN_ob hB,implDefAt (Blocks.pre hp hv) hbb,hda,hh,he,this]
  rw[gcRet_flat hp rfl]
 ·have:atB f.blocks x b i=hasI (domF f.blocks b) h1:=by unfold atB;rw[hh];simp[he]
  simp[hX,rdN_ob hB,rdC_ob hB,implDefAt (Blocks.pre hp hv) hbb,hda,hh,he,this,among_in (hD.pre hp) hbb,hib]
  rw[gcRet_flat hp rfl]

theorem not_at1 {Z:Hp} {v:CV} {f:FnR} {d lid kid iid:Nat} {x:Int} {b i:Nat} (hv:Blocks Z v f.blocks) (hsh:shapeB f=true) (hD:DomsIn Z d f.blocks) (hb:b<f.blocks.length)
  (h1:rdOb Z lid 0=some ⟨[v,.i f.values,.sl d 0 0 f.blocks.length],0,true,3⟩) (h2:rdOb Z kid 0=some ⟨[.i b],0,true,1⟩) (h3:rdOb Z iid 0=some ⟨[.i i],0,true,1⟩) (k:IV×Hp→Prop) :
  CM 161 [.c (.i x),.c (.p lid 0 0),.c (.p kid 0 0),.c (.p iid 0 0)] Z k=k (.c (.b (!atB f.blocks x b i)),Z):=by
 refine det (cw161 ?_) k
 unfold vf161c
 simp[rdN_ob h1,rdC_ob h2,rdC_ob h3,at_call hv hsh hD hb]

theorem not_at2 {Z:Hp} {v:CV} {f:FnR} {d lid kid xid n:Nat} {x:Int} {b:Nat} {w u a1 a2 a3 a4:CV} (hv:Blocks Z v f.blocks) (hsh:shapeB f=true) (hD:DomsIn Z d f.blocks) (hb:b<f.blocks.length) (hu:lenOf u=some n)
  (h1:rdOb Z lid 0=some ⟨[v,.i f.values,.sl d 0 0 f.blocks.length],0,true,3⟩) (h2:rdOb Z kid 0=some ⟨[.i b],0,true,1⟩) (h3:rdOb Z xid 0=some ⟨[w,u,a1,a2,a3,a4],0,true,6⟩) (k:IV×Hp→Prop) :
  CM 163 [.c (.i x),.c (.p lid 0 0),.c (.p kid 0 0),.c (.p xid 0 0)] Z k=k (.c (.b (!atB f.blocks x b n)),Z):=by
 refine det (cw163 ?_) k
 unfold vf163c
 simp[rdN_ob h1,rdC_ob h2,rdC_ob h3,hu,at_call hv hsh hD hb]

def PhisOk (bs:List BlkR) (b:BlkR):Prop:=∀ p∈b.phis,∀ a∈p.arms,hasI (domF bs a.fr.toNat) (homeF bs a.v).1=true

def ListOk (bs:List BlkR) (b:BlkR) (j:Nat):Prop:=∀ i (hi:i<b.list.length),(usesF b.list[i]).any (fun x=>!atB bs x j i)=false

def BlkOk (bs:List BlkR) (j:Nat):Prop:=∀ hj:j<bs.length,PhisOk bs bs[j]∧ListOk bs bs[j] j∧(tusesF bs[j].term).any (fun x=>!atB bs x j bs[j].list.length)=false

set_option maxRecDepth 100000 in
theorem blockWell_call {H:Hp} {v:CV} {f:FnR} {d i:Nat} (hv:Blocks H v f.blocks) (hsh:shapeB f=true) (hD:DomsIn H d f.blocks) (hi:i<f.blocks.length) (k:IV×Hp→Prop) :
  CM 122 [.agg [v,.i f.values,.sl d 0 0 f.blocks.length],.c (.i i)] H k=k (.c (.b (pB (BlkOk f.blocks i))),H):=by
 refine det (cw122 ?_) k
 unfold vf122c
 obtain⟨s1,s2,s3,s4⟩:=shape_len hsh
 have hbb:f.blocks.length≤BIG:=by simp only[BIG];omega
 obtain⟨X,hX⟩:∃ X,H++[(⟨[v,.i f.values,.sl d 0 0 f.blocks.length],0,true,3⟩:Ob),⟨[.i i],0,true,1⟩]=X:=⟨_,rfl⟩
 have hp:Pre H X:=⟨_,hX.symm⟩
 have hB:rdOb X H.length 0=some ⟨[v,.i f.values,.sl d 0 0 f.blocks.length],0,true,3⟩:=by rw[← hX];simp
 have hC:rdOb X (H.length+1) 0=some ⟨[.i i],0,true,1⟩:=by rw[← hX];simp
 have hmem:f.blocks[i]∈f.blocks:=List.getElem_mem hi
 have hlens:=shape_lens hsh hmem
 obtain⟨i0,g0,off0,w,u,q1,_,q2,qp,ql,qpl,qll,_,_⟩:=Blocks.get hv hi
 obtain⟨GY,hGY⟩:=id hp
 have q2':=q2 GY
 rw[← hGY]at q2'
 obtain⟨t,ht⟩:∃ t,f.blocks[i].term=t:=⟨_,rfl⟩
 rw[ht]at q2'
 obtain⟨Y,hY⟩:∃ Y,X++[(⟨[w,u,.i t.kind,.i t.a,.i t.to,.i t.els],0,true,6⟩:Ob)]=Y:=⟨_,rfl⟩
 have hpY:Pre X Y:=⟨_,hY.symm⟩
 have h5:rdOb Y X.length 0=some ⟨[w,u,.i t.kind,.i t.a,.i t.to,.i t.els],0,true,6⟩:=by rw[← hY];simp
 have hpl:=qp.lenOf
 have hll:=ql.lenOf
 simp[hX,rdC_ob hB,rdC_ob hC,q1,q2'.2.2.2.2.2.2.2.2.2.2,put66c,hY,rdC_ob h5,hpl]
 obtain⟨I,hI⟩:∃ I:Nat→St→Prop,∀ j st,I j st↔((∀ p∈f.blocks[i].phis.take j,∀ a∈p.arms,hasI (domF f.blocks a.fr.toNat) (homeF f.blocks a.v).1=true)∧Pre Y st.h ∧
   Env.get st.e 2=.c (.p H.length 0 0)∧Env.get st.e 3=.c (.p (H.length+1) 0 0)∧Env.get st.e 5=.c (.p X.length 0 0)∧Env.get st.e 21=.c w∧Env.get st.e 22=.c (.i f.blocks[i].phis.length)∧Env.get st.e 23=.c (.i j)):=⟨_,fun _ _=>Iff.rfl⟩
 refine wp_for CM_mono f.blocks[i].phis.length I ((hI _ _).2 ⟨by simp,Pre.refl _,by simp⟩) ?_ ?_
 ·rintro j ⟨e,Z⟩ hj hIs
  obtain⟨hdj,hZ,e2,e3,e5,e21,e22,e23⟩:=(hI _ _).1 hIs
  simp only at hZ e2 e3 e5 e21 e22 e23 ⊢
  obtain⟨id2,g2,off2,w2,r1,_,r2,qa,_⟩:=Phis.get qp hj
  have hHZ:=(hp.trans hpY).trans hZ
  obtain⟨GZ,hGZ⟩:=id hHZ
  have r2':=r2 GZ
  rw[← hGZ]at r2'
  obtain⟨ph,hph⟩:∃ ph,f.blocks[i].phis[j]=ph:=⟨_,rfl⟩
  have hphB:=shape_phi hsh hmem (List.getElem_mem hj)
  rw[hph]at r2' hphB qa
  obtain⟨_,hal,harm⟩:=phi_vals hphB
  obtain⟨Z1,hZ1⟩:∃ Z1,Z++[(⟨[.i ph.d,w2],0,true,2⟩:Ob)]=Z1:=⟨_,rfl⟩
  have h7:rdOb Z1 Z.length 0=some ⟨[.i ph.d,w2],0,true,2⟩:=by rw[← hZ1];simp
  have hpZ1:Pre Z Z1:=⟨_,hZ1.symm⟩
  have hall:=qa.lenOf
  unfold vf122b1
  simp[e2,e3,e5,e21,e22,e23,hj,r1,r2'.2.2,putD0,hZ1,rdC_ob h7,hall]
  obtain⟨K,hK⟩:∃ K:Nat→St→Prop,∀ k st,K k st↔((∀ a∈ph.arms.take k,hasI (domF f.blocks a.fr.toNat) (homeF f.blocks a.v).1=true)∧Pre Y st.h ∧
    Env.get st.e 2=.c (.p H.length 0 0)∧Env.get st.e 3=.c (.p (H.length+1) 0 0)∧Env.get st.e 5=.c (.p X.length 0 0)∧Env.get st.e 21=.c w∧Env.get st.e 22=.c (.i f.blocks[i].phis.length)∧Env.get st.e 23=.c (.i j) ∧
    Env.get st.e 28=.c w2∧Env.get st.e 29=.c (.i ph.arms.length)∧Env.get st.e 30=.c (.i k)):=⟨_,fun _ _=>Iff.rfl⟩
  refine wp_for CM_mono ph.arms.length K ((hK _ _).2 ⟨by simp,hZ.trans hpZ1,by simp[e2,e3,e5,e21,e22,e23]⟩) ?_ ?_
  ·rintro k ⟨e',W⟩ hk hKs
   obtain⟨hdk,hW,e2,e3,e5,e21,e22,e23,e28,e29,e30⟩:=(hK _ _).1 hKs
   simp only at hW e2 e3 e5 e21 e22 e23 e28 e29 e30 ⊢
   have hHW:=(hp.trans hpY).trans hW
   obtain⟨id3,g3,off3,m1,⟨m2,m3,m4⟩,m5,m6,m7⟩:=Arms.get (qa.pre hHW) hk
   obtain⟨hfr,_⟩:=harm k hk
   obtain⟨a,ha⟩:∃ a,ph.arms[k]=a:=⟨_,rfl⟩
   rw[ha]at m2 m3 m4 hfr
   obtain⟨W1,hW1⟩:∃ W1,W++[(⟨[.i a.fr,.i a.v],0,true,2⟩:Ob)]=W1:=⟨_,rfl⟩
   have hpW1:Pre W W1:=⟨_,hW1.symm⟩
   have h9:rdOb W1 W.length 0=some ⟨[.i a.fr,.i a.v],0,true,2⟩:=by rw[← hW1];simp
   have hpX1:=(hpY.trans hW).trans hpW1
   have hBW:=hpX1.rdOb hB
   have hda:defAtF f a.v=homeF f.blocks a.v:=by unfold defAtF homeF;rw[if_pos hsh]
   have hvW:=Blocks.pre (hp.trans hpX1) hv
   have hDW:=hD.pre (hp.trans hpX1)
   unfold vf122b0
   cases hh:hasI (domF f.blocks a.fr.toNat) (homeF f.blocks a.v).1 with
   | true =>
    simp[e2,e3,e5,e21,e22,e23,e28,e29,e30,hk,m1,m4,putD0,hW1,rdC_ob h9,rdN_ob hBW,rdC_ob hBW,implDefAt hvW hbb,hda,among_in hDW hbb,hfr,hh,up1 hk (show ph.arms.length≤BIG by simp only[BIG];omega)]
    refine (hK _ _).2 ⟨?_,hW.trans hpW1,by simp[e2,e3,e5,e21,e22,e23,e28,e29]⟩
    intro x hx
    rw[List.take_succ_eq_append_getElem hk]at hx
    rcases List.mem_append.1 hx with h | h
    ·exact hdk x h
    ·simp at h;rw[h,ha];exact hh
   | false =>
    have hno:¬ BlkOk f.blocks i:=fun hc=>by
     have:=(hc hi).1 ph (hph▸List.getElem_mem hj) a (ha▸List.getElem_mem hk)
     rw[hh]at this;cases this
    simp[e2,e3,e5,e21,e22,e23,e28,e29,e30,hk,m1,m4,putD0,hW1,rdC_ob h9,rdN_ob hBW,rdC_ob hBW,implDefAt hvW hbb,hda,among_in hDW hbb,hfr,hh]
    rw[gcRet_flat (hp.trans hpX1) rfl,pB_false hno]
  ·rintro⟨e',W⟩ hKs
   obtain⟨hdk,hW,e2,e3,e5,e21,e22,e23,e28,e29,e30⟩:=(hK _ _).1 hKs
   simp only at hW e2 e3 e5 e21 e22 e23 e28 e29 e30 ⊢
   rw[List.take_length]at hdk
   unfold vf122b0
   simp[e2,e3,e5,e21,e22,e23,e28,e29,e30,up1 hj qpl]
   refine (hI _ _).2 ⟨?_,hW,by simp[e2,e3,e5,e21,e22]⟩
   intro p hp'
   rw[List.take_succ_eq_append_getElem hj]at hp'
   rcases List.mem_append.1 hp' with h | h
   ·exact hdj p h
   ·simp at h;rw[h,hph];exact hdk
 ·rintro⟨e,Z⟩ hIs
  obtain⟨hdj,hZ,e2,e3,e5,e21,e22,e23⟩:=(hI _ _).1 hIs
  simp only at hZ e2 e3 e5 e21 e22 e23 ⊢
  rw[List.take_length]at hdj
  have h5Z:=hZ.rdOb h5
  unfold vf122b1
  simp[e2,e3,e5,e21,e22,e23,rdC_ob h5Z,hll]
  obtain⟨J,hJ⟩:∃ J:Nat→St→Prop,∀ j st,J j st↔((∀ k (hk:k<f.blocks[i].list.length),k<j→(usesF f.blocks[i].list[k]).any (fun x=>!atB f.blocks x i k)=false)∧Pre Y st.h ∧
    Env.get st.e 2=.c (.p H.length 0 0)∧Env.get st.e 3=.c (.p (H.length+1) 0 0)∧Env.get st.e 5=.c (.p X.length 0 0)∧Env.get st.e 52=.c u∧Env.get st.e 53=.c (.i f.blocks[i].list.length)∧Env.get st.e 54=.c (.i j)):=⟨_,fun _ _=>Iff.rfl⟩
  refine wp_for CM_mono f.blocks[i].list.length J ((hJ _ _).2 ⟨by simp,hZ,by simp[e2,e3,e5]⟩) ?_ ?_
  ·rintro j ⟨e',W⟩ hj hJs
   obtain⟨hdl,hW,e2,e3,e5,e52,e53,e54⟩:=(hJ _ _).1 hJs
   simp only at hW e2 e3 e5 e52 e53 e54 ⊢
   obtain⟨id2,g2,off2,r1,_,r2,_⟩:=List5.get ql hj
   have hHW:=(hp.trans hpY).trans hW
   obtain⟨GW,hGW⟩:=id hHW
   have r2':=r2 GW
   rw[← hGW]at r2'
   obtain⟨x,hx⟩:∃ x,f.blocks[i].list[j]=x:=⟨_,rfl⟩
   rw[hx]at r2'
   obtain⟨W1,hW1⟩:∃ W1,W++[(⟨[.i j],0,true,1⟩:Ob),⟨[.i x.op,.i x.d,.i x.a,.i x.b,.i x.n],0,true,5⟩]=W1:=⟨_,rfl⟩
   have hpW1:Pre W W1:=⟨_,hW1.symm⟩
   have h12:rdOb W1 W.length 0=some ⟨[.i j],0,true,1⟩:=by rw[← hW1];simp
   have h13:rdOb W1 (W.length+1) 0=some ⟨[.i x.op,.i x.d,.i x.a,.i x.b,.i x.n],0,true,5⟩:=by rw[← hW1];simp
   obtain⟨uw,L,hw,hcall⟩:=implUses W1 x
   obtain⟨W2,hW2⟩:∃ W2,W1++L=W2:=⟨_,rfl⟩
   have hwI:=hw.isI
   have hpW2:Pre W1 W2:=⟨_,hW2.symm⟩
   rw[hW2]at hwI
   have hpX2:=((hpY.trans hW).trans hpW1).trans hpW2
   have hBW:=hpX2.rdOb hB
   have hCW:=hpX2.rdOb hC
   have h12W:=hpW2.rdOb h12
   have hvW:=Blocks.pre (hp.trans hpX2) hv
   have hDW:=hD.pre (hp.trans hpX2)
   have hcf:=fun k=>containsFInt hwI (Nat.le_trans (usesF_le x) (by simp[BIG])) (fid:=161) (caps:=[.p H.length 0 0,.p (H.length+1) 0 0,.p W.length 0 0]) (fun y=>!atB f.blocks y i j)
    (fun y _ k=>not_at1 hvW hsh hDW hi hBW hCW h12W k) k
   unfold vf122b2
   cases hh:(usesF x).any (fun y=>!atB f.blocks y i j) with
   | false =>
    simp[e2,e3,e5,e52,e53,e54,hj,r1,r2'.2.2.2.2.2,put5,putL0,hW1,rdN_ob h13,hcall,hW2,hcf,hh,up1 hj qll]
    refine (hJ _ _).2 ⟨?_,(hW.trans hpW1).trans hpW2,by simp[e2,e3,e5,e52,e53]⟩
    intro k hk hkj
    by_cases ek:k=j
    ·subst ek;rw[hx];exact hh
    ·exact hdl k hk (by omega)
   | true =>
    have hno:¬ BlkOk f.blocks i:=fun hc=>by
     have:=(hc hi).2.1 j hj
     rw[hx,hh]at this;cases this
    simp[e2,e3,e5,e52,e53,e54,hj,r1,r2'.2.2.2.2.2,put5,putL0,hW1,rdN_ob h13,hcall,hW2,hcf,hh]
    rw[gcRet_flat (hp.trans hpX2) rfl,pB_false hno]
  ·rintro⟨e',W⟩ hJs
   obtain⟨hdl,hW,e2,e3,e5,e52,e53,e54⟩:=(hJ _ _).1 hJs
   simp only at hW e2 e3 e5 e52 e53 e54 ⊢
   have h5W:=hW.rdOb h5
   obtain⟨uw,L,hw,hcall⟩:=implTUses W t
   obtain⟨W2,hW2⟩:∃ W2,W++L=W2:=⟨_,rfl⟩
   have hwI:=hw.isI
   have hpW2:Pre W W2:=⟨_,hW2.symm⟩
   rw[hW2]at hwI
   have hpX2:=(hpY.trans hW).trans hpW2
   have hBW:=hpX2.rdOb hB
   have hCW:=hpX2.rdOb hC
   have h5W2:=hpW2.rdOb h5W
   have hvW:=Blocks.pre (hp.trans hpX2) hv
   have hDW:=hD.pre (hp.trans hpX2)
   have hcf:=fun k=>containsFInt hwI (Nat.le_trans (tusesF_le t) (by simp[BIG])) (fid:=163) (caps:=[.p H.length 0 0,.p (H.length+1) 0 0,.p X.length 0 0]) (fun y=>!atB f.blocks y i f.blocks[i].list.length)
    (fun y _ k=>not_at2 hvW hsh hDW hi hll hBW hCW h5W2 k) k
   have hres:pB (BlkOk f.blocks i)=!(tusesF t).any (fun y=>!atB f.blocks y i f.blocks[i].list.length):=by
    cases hh:(tusesF t).any (fun y=>!atB f.blocks y i f.blocks[i].list.length) with
    | false=>rw[pB_true];rfl;exact fun _=>⟨hdj,fun k hk=>hdl k hk hk,by rw[ht];exact hh⟩
    | true =>
     rw[pB_false];rfl
     intro hc
     have:=(hc hi).2.2
     rw[ht,hh]at this;cases this
   unfold vf122b2
   simp[e2,e3,e5,e52,e53,e54,rdN_ob h5W,hcall,hW2,hcf]
   rw[gcRet_flat (hp.trans hpX2) rfl,hres]
def TakenOk (bs:List BlkR):Prop:=∀ j,BlkOk bs j

theorem DomsRes.mk' {Y:Hp} {d:Nat} {bs:List BlkR} {cells:List CV} (h1:rdOb Y d 0=some ⟨cells,0,true,1⟩) (h2:cells.length=bs.length) (h3:∀ b,b<bs.length→∃ c,cells[b]? = some c∧IsI Y c (domF bs b)):DomsIn Y d bs:=⟨cells,h1,h2,h3⟩

theorem putB3 (a b c d e x:CV):putAt (putAt [a,b,c] 0 [d,e]) 2 [x]=[d,e,x]:=rfl

theorem putB3l (a b c d e:CV):(putAt [a,b,c] 0 [d,e]).length=3:=rfl

theorem putB3m (a b c d e f:CV):putAt [a,b,c] 0 [d,e,f]=[d,e,f]:=rfl

theorem putB3n (a b c d e:CV):putAt [a,b,c] 0 [d,e]=[d,e,c]:=rfl

theorem putB3o (a b c x:CV):putAt [a,b,c] 2 [x]=[a,b,x]:=rfl

theorem IsI.set_other {X:Hp} {c:CV} {xs:List Int} (h:IsI X c xs) {lid:Nat} {o:Ob} (ho:rdOb X lid 0=some o) (hs:o.sz≠1) (o':Ob):IsI (X.set lid o') c xs:=by
 rcases h with⟨h1,h2,h3⟩ | ⟨id,g,off,ob,h1,h2,h3,h4⟩
 ·exact .inl ⟨h1,h2,h3⟩
 ·refine .inr ⟨id,g,off,ob,h1,?_,h3,h4⟩
  have hne:id≠lid:=fun e=>by
   subst e
   have a:=(rdOb_some.1 ho).1
   have b:=(rdOb_some.1 h2).1
   rw[a]at b;injection b with b;subst b;exact hs h3
  rw[rdOb_set_ne hne];exact h2

set_option maxRecDepth 100000 in
theorem implTaken {H:Hp} {v:CV} {f:FnR} (hv:Blocks H v f.blocks) (hsh:shapeB f=true) (k:IV×Hp→Prop) :
  CM 62 [.agg [v,.i f.values]] H k=k (.c (.b (pB (¬ TakenOk f.blocks))),H):=by
 refine det (cw62 ?_) k
 unfold vf62c
 obtain⟨s1,s2,s3,s4⟩:=shape_len hsh
 have hbb:f.blocks.length≤BIG:=by simp only[BIG];omega
 obtain⟨X,hX⟩:∃ X,H++[(⟨[v,.i f.values],0,true,2⟩:Ob)]=X:=⟨_,rfl⟩
 have hp:Pre H X:=⟨_,hX.symm⟩
 have hB:rdOb X H.length 0=some ⟨[v,.i f.values],0,true,2⟩:=by rw[← hX];simp
 unfold vf62r0 vf62t0
 simp[hX,rdN_ob hB]
 refine⟨?_,?_⟩
 ·refine (implDoms (m:=f.values) (hv.pre hp) hbb hsh).mono ?_
  rintro _ ⟨d,X2,cells,rfl,hp2,h1,h2,h3⟩
  obtain⟨Y,hY⟩:∃ Y,X2++[(⟨[v,.i f.values,.sl d 0 0 f.blocks.length],0,true,3⟩:Ob)]=Y:=⟨_,rfl⟩
  have hq:Pre X2 Y:=⟨_,hY.symm⟩
  have hlook:rdOb Y X2.length 0=some ⟨[v,.i f.values,.sl d 0 0 f.blocks.length],0,true,3⟩:=by rw[← hY];simp
  obtain⟨lid,hlid⟩:∃ lid,X2.length=lid:=⟨_,rfl⟩
  have hDY:DomsIn Y d f.blocks:=(DomsRes.mk' h1 h2 h3).pre hq
  have hpY:Pre H Y:=(hp.trans hp2).trans hq
  have hvY:=Blocks.pre hpY hv
  have hl:=hvY.lenOf
  have hBY:=(hp2.trans hq).rdOb hB
  rw[hlid]at hlook
  have hbk:rdOb (X2++[(⟨[.ns,.i 0,.ns],0,true,3⟩:Ob)]) lid 0=some ⟨[.ns,.i 0,.ns],0,true,3⟩:=by rw[← hlid];simp
  have hbB:rdOb (X2++[(⟨[.ns,.i 0,.ns],0,true,3⟩:Ob)]) H.length 0=some ⟨[v,.i f.values],0,true,2⟩:=rdOb_app _ (hp2.rdOb hB)
  simp[hp2.rdOb hB,hB,hbB,hbk,putB3,putB3l,putB3m,hY,hlid,hBY,rdC_ob hBY,hl]
  obtain⟨I,hI⟩:∃ I:Nat→St→Prop,∀ i st,I i st↔((∀ j,j<i→BlkOk f.blocks j)∧st.h=Y ∧
    Env.get st.e 3=.c (.p lid 0 0)∧Env.get st.e 11=.c (.i f.blocks.length)∧Env.get st.e 12=.c (.i i)):=⟨_,fun _ _=>Iff.rfl⟩
  refine wp_for CM_mono f.blocks.length I ((hI _ _).2 ⟨by simp,rfl,by simp[hlid]⟩) ?_ ?_
  ·rintro i ⟨e,Z⟩ hi hIs
   obtain⟨hdone,hZ,e3,e11,e12⟩:=(hI _ _).1 hIs
   simp only at hZ e3 e11 e12 ⊢
   subst hZ
   unfold vf62b0
   by_cases hok:BlkOk f.blocks i
   ·simp[e3,e11,e12,hi,rdN_ob hlook,blockWell_call hvY hsh hDY hi,pB_true hok,up1 hi hbb]
    refine (hI _ _).2 ⟨?_,rfl,by simp[e3,e11]⟩
    intro j hj
    by_cases ej:j=i
    ·subst ej;exact hok
    ·exact hdone j (by omega)
   ·have hno:¬ TakenOk f.blocks:=fun hc=>hok (hc i)
    simp[e3,e11,e12,hi,rdN_ob hlook,blockWell_call hvY hsh hDY hi,pB_false hok]
    rw[gcRet_flat hpY rfl,pB_true hno]
  ·rintro⟨e,Z⟩ hIs
   obtain⟨hdone,hZ,e3,e11,e12⟩:=(hI _ _).1 hIs
   simp only at hZ e3 e11 e12 ⊢
   subst hZ
   have hyes:¬ ¬ TakenOk f.blocks:=fun hc=>hc fun j hj=>hdone j hj hj
   unfold vf62b0
   simp[e3,e11,e12]
   rw[gcRet_flat hpY rfl,pB_false hyes]
 ·refine⟨(rdOb_app _ hB).trans hB.symm,?_⟩
  refine (implDoms (m:=f.values) ((hv.pre hp).app _) hbb hsh).mono ?_
  rintro _ ⟨d,X2,cells,rfl,hp2,h1,h2,h3⟩
  obtain⟨lid,hlid⟩:∃ lid,X.length=lid:=⟨_,rfl⟩
  have hbl:rdOb X2 X.length 0=some ⟨[.ns,.i 0,.ns],0,true,3⟩:=hp2.rdOb (by simp)
  have hlt:=rdOb_lt hbl
  have hpX2:Pre X X2:=Pre.trans ⟨_,rfl⟩ hp2
  obtain⟨Y,hY⟩:∃ Y,X2.set X.length ⟨[v,.i f.values,.sl d 0 0 f.blocks.length],0,true,3⟩=Y:=⟨_,rfl⟩
  have hpXY:Pre X Y:=by rw[← hY];exact hpX2.set (by omega) _
  have hlook:rdOb Y X.length 0=some ⟨[v,.i f.values,.sl d 0 0 f.blocks.length],0,true,3⟩:=by rw[← hY,rdOb_set_self hlt];simp
  have hDY:DomsIn Y d f.blocks:=by
   rw[← hY]
   refine⟨cells,?_,h2,fun b hb=>?_⟩
   ·have hne:d≠X.length:=fun e=>by rw[e,hbl]at h1;simp at h1
    rw[rdOb_set_ne hne];exact h1
   ·obtain⟨c,a1,a2⟩:=h3 b hb
    exact⟨c,a1,a2.set_other hbl (by decide) _⟩
  have hpY:Pre H Y:=hp.trans hpXY
  have hvY:=Blocks.pre hpY hv
  have hl:=hvY.lenOf
  have hBY:=hpXY.rdOb hB
  rw[hlid]at hlook hbl hY
  simp[hpX2.rdOb hB,rdOb_app _ hB,hB,putB3,putB3l,putB3m,putB3n,putB3o,hlid,hbl,hY,hBY,rdC_ob hBY,hl]
  obtain⟨I,hI⟩:∃ I:Nat→St→Prop,∀ i st,I i st↔((∀ j,j<i→BlkOk f.blocks j)∧st.h=Y ∧
    Env.get st.e 3=.c (.p lid 0 0)∧Env.get st.e 11=.c (.i f.blocks.length)∧Env.get st.e 12=.c (.i i)):=⟨_,fun _ _=>Iff.rfl⟩
  refine wp_for CM_mono f.blocks.length I ((hI _ _).2 ⟨by simp,rfl,by simp[hlid]⟩) ?_ ?_
  ·rintro i ⟨e,Z⟩ hi hIs
   obtain⟨hdone,hZ,e3,e11,e12⟩:=(hI _ _).1 hIs
   simp only at hZ e3 e11 e12 ⊢
   subst hZ
   unfold vf62b0
   by_cases hok:BlkOk f.blocks i
   ·simp[e3,e11,e12,hi,rdN_ob hlook,blockWell_call hvY hsh hDY hi,pB_true hok,up1 hi hbb]
    refine (hI _ _).2 ⟨?_,rfl,by simp[e3,e11]⟩
    intro j hj
    by_cases ej:j=i
    ·subst ej;exact hok
    ·exact hdone j (by omega)
   ·have hno:¬ TakenOk f.blocks:=fun hc=>hok (hc i)
    simp[e3,e11,e12,hi,rdN_ob hlook,blockWell_call hvY hsh hDY hi,pB_false hok]
    rw[gcRet_flat hpY rfl,pB_true hno]
  ·rintro⟨e,Z⟩ hIs
   obtain⟨hdone,hZ,e3,e11,e12⟩:=(hI _ _).1 hIs
   simp only at hZ e3 e11 e12 ⊢
   subst hZ
   have hyes:¬ ¬ TakenOk f.blocks:=fun hc=>hc fun j hj=>hdone j hj hj
   unfold vf62b0
   simp[e3,e11,e12]
   rw[gcRet_flat hpY rfl,pB_false hyes]
theorem hasI_neg (bs:List BlkR) (b:Nat) {h:Int} (hh:h<0):hasI (domF bs b) h=false:=by
 cases e:hasI (domF bs b) h with
 | false=>rfl
 | true =>
  obtain⟨a,_,ha,_⟩:=domF_mem (hasI_iff.1 e)
  omega

theorem arm_eq {bs:List BlkR} (hin:InRange bs) {b:Nat} (hb:b<bs.length) (hs:(seenF bs).getD b false=true) (x:Int):atB bs x b bs[b].list.length=hasI (domF bs b) (homeF bs x).1:=by
 unfold atB
 by_cases he:(homeF bs x).1=(b:Int)
 ·rw[if_pos he,he,(hasI_dom hin hb hb).2 (Dom.self ((seen_rch hin hb).1 hs))]
  refine decide_eq_true ?_
  rcases defGo_spec x bs 0 with⟨h1,h2⟩ | ⟨i,hi,h1,h2⟩
  ·change (homeF bs x).1=-1 at h2;omega
  ·change (homeF bs x).1=_ at h1
   have:i=b:=by omega
   subst this
   rcases h2 with⟨h2,_⟩ | ⟨n,hn,h2,_⟩
   ·change (homeF bs x).2=_ at h2;omega
   ·change (homeF bs x).2=_ at h2;omega
 ·rw[if_neg he]

theorem known_call {Z:Hp} {v:CV} {f:FnR} {d:Nat} {x i:Int} {b:Nat} (hv:Blocks Z v f.blocks) (hsh:shapeB f=true) (hD:DomsIn Z d f.blocks) (hb:b<f.blocks.length) (k:IV×Hp→Prop) :
  CM 149 [.agg [v,.i f.values],.c (.sl d 0 0 f.blocks.length),.c (.i x),.c (.i b),.c (.i i)] Z k=k (.c (.b (atB f.blocks x b i)),Z):=by
 refine det (cw149 ?_) k
 unfold vf149c
 obtain⟨s1,s2,s3,s4⟩:=shape_len hsh
 have hbb:f.blocks.length≤BIG:=by simp only[BIG];omega
 obtain⟨X,hX⟩:∃ X,Z++[(⟨[v,.i f.values],0,true,2⟩:Ob)]=X:=⟨_,rfl⟩
 have hp:Pre Z X:=⟨_,hX.symm⟩
 have hB:rdOb X Z.length 0=some ⟨[v,.i f.values],0,true,2⟩:=by rw[← hX];simp
 have hcall:=fun k=>specDefAt (m:=f.values) (v:=x) (Blocks.pre hp hv) hbb (fun b hb x hx hm=>(insB_d (shape_ins hsh hb hx) hm).1) k
 obtain⟨h,hh⟩:∃ h,homeF f.blocks x=h:=⟨_,rfl⟩
 have hh':defGo x f.blocks 0=h:=hh
 rw[hh']at hcall
 obtain⟨h1,h2⟩:=h
 obtain⟨cells,d1,d2,d3⟩:=(hD.pre hp).ob
 obtain⟨c,c1,c2⟩:=d3 b hb
 by_cases he:h1=(b:Int)
 ·have:atB f.blocks x b i=decide (h2<i):=by unfold atB;rw[hh];simp[he]
  simp[hX,rdN_ob hB,hcall,he,this]
  rw[gcRet_flat hp rfl]
 ·have h0:atB f.blocks x b i=hasI (domF f.blocks b) h1:=by unfold atB;rw[hh];simp[he]
  by_cases hn:0≤h1
  ·simp[hX,rdN_ob hB,hcall,he,h0,hn,idxOf,hb,rdC_ob d1,c1,l3Has_call c2 (domF_le hbb b)]
   rw[gcRet_flat hp rfl]
  ·rw[hasI_neg _ _ (by omega)]at h0
   simp[hX,rdN_ob hB,hcall,he,h0,hn]
   rw[gcRet_flat hp rfl]

theorem notAny {p:Int→Bool} {xs:List Int} {k:Nat} (hk:k<xs.length) (h:p xs[k]=false):xs.any (fun x=>!p x)=true:=List.any_eq_true.2 ⟨_,List.getElem_mem hk,by simp[h]⟩

theorem anyNone {p:Int→Bool} {xs:List Int} (h:∀ k (hk:k<xs.length),p xs[k]=true):xs.any (fun x=>!p x)=false:=by
 rw[List.any_eq_false]
 intro x hx
 obtain⟨k,hk,rfl⟩:=List.getElem_of_mem hx
 simp[h k hk]

set_option maxRecDepth 100000 in
theorem specTaken {H:Hp} {v:CV} {f:FnR} (hv:Blocks H v f.blocks) (hsh:shapeB f=true) (hseen:∀ b,b<f.blocks.length→(seenF f.blocks).getD b false=true) (k:IV×Hp→Prop) :
  CM 92 [.agg [v,.i f.values]] H k=k (.c (.b (pB (TakenOk f.blocks))),H):=by
 refine det (cw92 ?_) k
 unfold vf92c
 obtain⟨s1,s2,s3,s4⟩:=shape_len hsh
 have hbb:f.blocks.length≤BIG:=by simp only[BIG];omega
 have hin:InRange f.blocks:=shape_range hsh
 obtain⟨X,hX⟩:∃ X,H++[(⟨[v,.i f.values],0,true,2⟩:Ob)]=X:=⟨_,rfl⟩
 have hp:Pre H X:=⟨_,hX.symm⟩
 have hB:rdOb X H.length 0=some ⟨[v,.i f.values],0,true,2⟩:=by rw[← hX];simp
 simp[hX,rdN_ob hB]
 refine (specDoms (m:=f.values) (hv.pre hp) hin hbb (by omega)).mono ?_
 rintro _ ⟨d,X1,cells,rfl,hp1,d1,d2,d3⟩
 have hD:DomsIn X1 d f.blocks:=DomsRes.mk' d1 d2 d3
 have hpH:Pre H X1:=hp.trans hp1
 have hB1:=hp1.rdOb hB
 have hv1:=Blocks.pre hpH hv
 have hl:=hv1.lenOf
 simp
 obtain⟨I,hI⟩:∃ I:Nat→St→Prop,∀ i st,I i st↔((∀ j,j<i→BlkOk f.blocks j)∧Pre X1 st.h ∧
   Env.get st.e 1=.c (.p H.length 0 0)∧Env.get st.e 3=.c (.sl d 0 0 f.blocks.length)∧Env.get st.e 4=.c (.i i)):=⟨_,fun _ _=>Iff.rfl⟩
 refine wp_for CM_mono f.blocks.length I ((hI _ _).2 ⟨by simp,Pre.refl _,by simp⟩) ?_ ?_
 ·rintro i ⟨e,Y⟩ hi hIs
  obtain⟨hdone,hY,e1,e3,e4⟩:=(hI _ _).1 hIs
  simp only at hY e1 e3 e4 ⊢
  have hmem:f.blocks[i]∈f.blocks:=List.getElem_mem hi
  have hlens:=shape_lens hsh hmem
  have hBY:=hY.rdOb hB1
  have hvY:=hv1.pre hY
  obtain⟨i0,g0,off0,w,u,q1,q1',q2,qp,ql,qpl,qll,_,_⟩:=Blocks.get hvY hi
  have q2':=q2 []
  rw[List.append_nil]at q2'
  obtain⟨t,ht⟩:∃ t,f.blocks[i].term=t:=⟨_,rfl⟩
  rw[ht]at q2'
  obtain⟨Y1,hY1⟩:∃ Y1,Y++[(⟨[w,u,.i t.kind,.i t.a,.i t.to,.i t.els],0,true,6⟩:Ob)]=Y1:=⟨_,rfl⟩
  have hpY1:Pre Y Y1:=⟨_,hY1.symm⟩
  have h5:rdOb Y1 Y.length 0=some ⟨[w,u,.i t.kind,.i t.a,.i t.to,.i t.els],0,true,6⟩:=by rw[← hY1];simp
  have hpl:=qp.lenOf
  have hll:=ql.lenOf
  have hbad:¬ BlkOk f.blocks i→pB (TakenOk f.blocks)=false:=fun h=>pB_false fun hc=>h (hc i)
  unfold vf92b5
  simp[e1,e3,e4,hi,rdC_ob hBY,hl,q1,q2'.2.2.2.2.2.2.2.2.2.2,put66c,hY1]
  obtain⟨J,hJ⟩:∃ J:Nat→St→Prop,∀ j st,J j st↔((∀ k (hk:k<f.blocks[i].list.length),k<j→(usesF f.blocks[i].list[k]).any (fun x=>!atB f.blocks x i k)=false)∧Pre Y1 st.h ∧
    Env.get st.e 1=.c (.p H.length 0 0)∧Env.get st.e 3=.c (.sl d 0 0 f.blocks.length)∧Env.get st.e 4=.c (.i i)∧Env.get st.e 5=.c (.p Y.length 0 0)∧Env.get st.e 6=.c (.i j)):=⟨_,fun _ _=>Iff.rfl⟩
  refine wp_for CM_mono f.blocks[i].list.length J ((hJ _ _).2 ⟨by simp,Pre.refl _,by simp[e1,e3,e4]⟩) ?_ ?_
  ·rintro j ⟨e',Z⟩ hj hJs
   obtain⟨hdl,hZ,e1,e3,e4,e5,e6⟩:=(hJ _ _).1 hJs
   simp only at hZ e1 e3 e4 e5 e6 ⊢
   have h5Z:=hZ.rdOb h5
   obtain⟨id2,g2,off2,r1,_,r2,_⟩:=List5.get (List5.pre (hpY1.trans hZ) ql) hj
   have r2':=r2 []
   rw[List.append_nil]at r2'
   obtain⟨x,hx⟩:∃ x,f.blocks[i].list[j]=x:=⟨_,rfl⟩
   rw[hx]at r2'
   obtain⟨uw,L,hw,hcall⟩:=specUses Z x
   obtain⟨Z2,hZ2⟩:∃ Z2,Z++L=Z2:=⟨_,rfl⟩
   have hwI:=hw.isI
   have hpZ2:Pre Z Z2:=⟨_,hZ2.symm⟩
   rw[hZ2]at hwI
   have hpA:Pre X1 Z2:=((hY.trans hpY1).trans hZ).trans hpZ2
   have hBZ:=hpA.rdOb hB1
   have hvZ:=hv1.pre hpA
   have hDZ:=hD.pre hpA
   have hwl:=hwI.lenOf
   have hul:=usesF_le x
   unfold vf92b1
   simp[e1,e3,e4,e5,e6,rdC_ob h5Z,hll,hj,r1,r2'.2.2.2.2.2,hcall,hZ2]
   obtain⟨K,hK⟩:∃ K:Nat→St→Prop,∀ k st,K k st↔((∀ m (hm:m<(usesF x).length),m<k→atB f.blocks (usesF x)[m] i j=true)∧st.h=Z2 ∧
     Env.get st.e 1=.c (.p H.length 0 0)∧Env.get st.e 3=.c (.sl d 0 0 f.blocks.length)∧Env.get st.e 4=.c (.i i)∧Env.get st.e 5=.c (.p Y.length 0 0)∧Env.get st.e 6=.c (.i j)∧Env.get st.e 7=.c uw∧Env.get st.e 8=.c (.i k)):=⟨_,fun _ _=>Iff.rfl⟩
   refine wp_for CM_mono (usesF x).length K ((hK _ _).2 ⟨by simp,rfl,by simp[e1,e3,e4,e5,e6]⟩) ?_ ?_
   ·rintro k ⟨e2,W⟩ hk hKs
    obtain⟨hdu,hW,e1,e3,e4,e5,e6,e7,e8⟩:=(hK _ _).1 hKs
    simp only at hW e1 e3 e4 e5 e6 e7 e8 ⊢
    subst hW
    obtain⟨id3,g3,off3,p1,p2⟩:=hwI.at_ hk
    unfold vf92b0
    cases hat:atB f.blocks (usesF x)[k] i j with
    | true =>
     simp[e1,e3,e4,e5,e6,e7,e8,hwl,hk,rdN_ob hBZ,p1,p2,known_call hvZ hsh hDZ hi,hat,up1 hk (show (usesF x).length≤BIG by simp only[BIG];omega)]
     refine (hK _ _).2 ⟨?_,rfl,by simp[e1,e3,e4,e5,e6,e7]⟩
     intro m hm hmk
     by_cases em:m=k
     ·subst em;exact hat
     ·exact hdu m hm (by omega)
    | false =>
     have hb:=hbad fun hc=>by
      have:=(hc hi).2.1 j hj
      rw[hx,notAny hk (p:=fun y=>atB f.blocks y i j) hat]at this;cases this
     simp[e1,e3,e4,e5,e6,e7,e8,hwl,hk,rdN_ob hBZ,p1,p2,known_call hvZ hsh hDZ hi,hat]
     rw[gcRet_flat (hpH.trans hpA) rfl,hb]
   ·rintro⟨e2,W⟩ hKs
    obtain⟨hdu,hW,e1,e3,e4,e5,e6,e7,e8⟩:=(hK _ _).1 hKs
    simp only at hW e1 e3 e4 e5 e6 e7 e8 ⊢
    subst hW
    unfold vf92b0
    simp[e1,e3,e4,e5,e6,e7,e8,hwl,up1 hj qll]
    refine (hJ _ _).2 ⟨?_,hZ.trans hpZ2,by simp[e1,e3,e4,e5]⟩
    intro m hm hmj
    by_cases em:m=j
    ·subst em;rw[hx];exact anyNone (p:=fun y=>atB f.blocks y i m) fun q hq=>hdu q hq hq
    ·exact hdl m hm (by omega)
  ·rintro⟨e',Z⟩ hJs
   obtain⟨hdl,hZ,e1,e3,e4,e5,e6⟩:=(hJ _ _).1 hJs
   simp only at hZ e1 e3 e4 e5 e6 ⊢
   have h5Z:=hZ.rdOb h5
   obtain⟨uw,L,hw,hcall⟩:=specTUses Z t
   obtain⟨Z2,hZ2⟩:∃ Z2,Z++L=Z2:=⟨_,rfl⟩
   have hwI:=hw.isI
   have hpZ2:Pre Z Z2:=⟨_,hZ2.symm⟩
   rw[hZ2]at hwI
   have hpA:Pre X1 Z2:=((hY.trans hpY1).trans hZ).trans hpZ2
   have hBZ:=hpA.rdOb hB1
   have hvZ:=hv1.pre hpA
   have hDZ:=hD.pre hpA
   have h5A:=hpZ2.rdOb h5Z
   have hwl:=hwI.lenOf
   have hul:=tusesF_le t
   unfold vf92b1
   simp[e1,e3,e4,e5,e6,rdC_ob h5Z,rdN_ob h5Z,hll,hcall,hZ2]
   obtain⟨K,hK⟩:∃ K:Nat→St→Prop,∀ k st,K k st↔((∀ m (hm:m<(tusesF t).length),m<k→atB f.blocks (tusesF t)[m] i f.blocks[i].list.length=true)∧st.h=Z2 ∧
     Env.get st.e 1=.c (.p H.length 0 0)∧Env.get st.e 3=.c (.sl d 0 0 f.blocks.length)∧Env.get st.e 4=.c (.i i)∧Env.get st.e 5=.c (.p Y.length 0 0)∧Env.get st.e 9=.c uw∧Env.get st.e 10=.c (.i k)):=⟨_,fun _ _=>Iff.rfl⟩
   refine wp_for CM_mono (tusesF t).length K ((hK _ _).2 ⟨by simp,rfl,by simp[e1,e3,e4,e5]⟩) ?_ ?_
   ·rintro k ⟨e2,W⟩ hk hKs
    obtain⟨hdu,hW,e1,e3,e4,e5,e9,e10⟩:=(hK _ _).1 hKs
    simp only at hW e1 e3 e4 e5 e9 e10 ⊢
    subst hW
    obtain⟨id3,g3,off3,p1,p2⟩:=hwI.at_ hk
    unfold vf92b2
    cases hat:atB f.blocks (tusesF t)[k] i f.blocks[i].list.length with
    | true =>
     simp[e1,e3,e4,e5,e9,e10,hwl,hk,rdN_ob hBZ,rdC_ob h5A,hll,p1,p2,known_call hvZ hsh hDZ hi,hat,up1 hk (show (tusesF t).length≤BIG by simp only[BIG];omega)]
     refine (hK _ _).2 ⟨?_,rfl,by simp[e1,e3,e4,e5,e9]⟩
     intro m hm hmk
     by_cases em:m=k
     ·subst em;exact hat
     ·exact hdu m hm (by omega)
    | false =>
     have hb:=hbad fun hc=>by
      have:=(hc hi).2.2
      rw[ht,notAny hk (p:=fun y=>atB f.blocks y i f.blocks[i].list.length) hat]at this;cases this
     simp[e1,e3,e4,e5,e9,e10,hwl,hk,rdN_ob hBZ,rdC_ob h5A,hll,p1,p2,known_call hvZ hsh hDZ hi,hat]
     rw[gcRet_flat (hpH.trans hpA) rfl,hb]
   ·rintro⟨e2,W⟩ hKs
    obtain⟨hdu,hW,e1,e3,e4,e5,e9,e10⟩:=(hK _ _).1 hKs
    simp only at hW e1 e3 e4 e5 e9 e10 ⊢
    subst hW
    have hterm:(tusesF f.blocks[i].term).any (fun x=>!atB f.blocks x i f.blocks[i].list.length)=false:=by
     rw[ht];exact anyNone (p:=fun y=>atB f.blocks y i f.blocks[i].list.length) fun q hq=>hdu q hq hq
    have hlist:ListOk f.blocks f.blocks[i] i:=fun q hq=>hdl q hq hq
    unfold vf92b2
    simp[e1,e3,e4,e5,e9,e10,hwl]
    have hqp:=Phis.pre ((hpY1.trans hZ).trans hpZ2) qp
    obtain⟨A,hA⟩:∃ A:Nat→St→Prop,∀ j st,A j st↔((∀ p∈f.blocks[i].phis.take j,∀ a∈p.arms,hasI (domF f.blocks a.fr.toNat) (homeF f.blocks a.v).1=true)∧Pre W st.h ∧
      Env.get st.e 1=.c (.p H.length 0 0)∧Env.get st.e 3=.c (.sl d 0 0 f.blocks.length)∧Env.get st.e 4=.c (.i i)∧Env.get st.e 5=.c (.p Y.length 0 0)∧Env.get st.e 11=.c (.i j)):=⟨_,fun _ _=>Iff.rfl⟩
    refine wp_for CM_mono f.blocks[i].phis.length A ((hA _ _).2 ⟨by simp,Pre.refl _,by simp[e1,e3,e4,e5]⟩) ?_ ?_
    ·rintro j ⟨e',V⟩ hj hAs
     obtain⟨hdp,hV,e1,e3,e4,e5,e11⟩:=(hA _ _).1 hAs
     simp only at hV e1 e3 e4 e5 e11 ⊢
     obtain⟨id2,g2,off2,w2,r1,r2,_,qa,_⟩:=Phis.get (Phis.pre hV hqp) hj
     obtain⟨ph,hph⟩:∃ ph,f.blocks[i].phis[j]=ph:=⟨_,rfl⟩
     have hphB:=shape_phi hsh hmem (List.getElem_mem hj)
     rw[hph]at r2 hphB qa
     obtain⟨_,hal,harm⟩:=phi_vals hphB
     have hall:=qa.lenOf
     have h5V:=hV.rdOb h5A
     unfold vf92b4
     simp[e1,e3,e4,e5,e11,rdC_ob h5V,hpl,hj]
     obtain⟨B,hBd⟩:∃ B:Nat→St→Prop,∀ k st,B k st↔((∀ a∈ph.arms.take k,hasI (domF f.blocks a.fr.toNat) (homeF f.blocks a.v).1=true)∧Pre V st.h ∧
       Env.get st.e 1=.c (.p H.length 0 0)∧Env.get st.e 3=.c (.sl d 0 0 f.blocks.length)∧Env.get st.e 4=.c (.i i)∧Env.get st.e 5=.c (.p Y.length 0 0)∧Env.get st.e 11=.c (.i j)∧Env.get st.e 12=.c (.i k)):=⟨_,fun _ _=>Iff.rfl⟩
     refine wp_for CM_mono ph.arms.length B ((hBd _ _).2 ⟨by simp,Pre.refl _,by simp[e1,e3,e4,e5,e11]⟩) ?_ ?_
     ·rintro k ⟨e2,U⟩ hk hBs
      obtain⟨hda,hU,e1,e3,e4,e5,e11,e12⟩:=(hBd _ _).1 hBs
      simp only at hU e1 e3 e4 e5 e11 e12 ⊢
      obtain⟨hfr,_⟩:=harm k hk
      obtain⟨id3,g3,off3,m1,⟨m2,m3,m4⟩,m5,m6,m7⟩:=Arms.get (qa.pre hU) hk
      have r2U:=hU.rdC r2.2.1
      obtain⟨a,ha⟩:∃ a,ph.arms[k]=a:=⟨_,rfl⟩
      rw[ha]at m2 m3 m4 hfr
      obtain⟨fb,hfb,hfbl⟩:∃ fb:Nat,a.fr=fb∧fb<f.blocks.length:=by
       have:=of_decide_eq_true hfr
       exact⟨a.fr.toNat,by omega,by omega⟩
      obtain⟨U1,hU1⟩:∃ U1,U++[(⟨[.i a.fr,.i a.v],0,true,2⟩:Ob)]=U1:=⟨_,rfl⟩
      have hpU1:Pre U U1:=⟨_,hU1.symm⟩
      have h13:rdOb U1 U.length 0=some ⟨[.i fb,.i a.v],0,true,2⟩:=by rw[← hU1,hfb];simp
      have h5U:=hU.rdOb h5V
      have hpB:Pre X1 U1:=((hpA.trans hV).trans hU).trans hpU1
      have hBU:=hpB.rdOb hB1
      have hvU:=hv1.pre hpB
      have hDU:=hD.pre hpB
      obtain⟨ib,gb,offb,wb,ub,z1,z2,_,_,zl,_,zll,_,_⟩:=Blocks.get hvU hfbl
      have hzl:=zl.lenOf
      have hae:=arm_eq hin hfbl (hseen fb hfbl) a.v
      have htn:a.fr.toNat=fb:=by omega
      unfold vf92b3
      cases hh:hasI (domF f.blocks fb) (homeF f.blocks a.v).1 with
      | true =>
       rw[hh]at hae
       simp[e1,e3,e4,e5,e11,e12,rdC_ob h5U,r1,r2U,hall,hk,m1,m4,putD0,hU1,rdN_ob hBU,rdC_ob hBU,rdC_ob h13,z1,z2.2.1,hzl,known_call hvU hsh hDU hfbl,hae,up1 hk (show ph.arms.length≤BIG by simp only[BIG];omega)]
       refine (hBd _ _).2 ⟨?_,hU.trans hpU1,by simp[e1,e3,e4,e5,e11]⟩
       intro y hy
       rw[List.take_succ_eq_append_getElem hk]at hy
       rcases List.mem_append.1 hy with h | h
       ·exact hda y h
       ·simp at h;rw[h,ha,htn];exact hh
      | false =>
       rw[hh]at hae
       have hb:=hbad fun hc=>by
        have:=(hc hi).1 ph (hph▸List.getElem_mem hj) a (ha▸List.getElem_mem hk)
        rw[htn,hh]at this;cases this
       simp[e1,e3,e4,e5,e11,e12,rdC_ob h5U,r1,r2U,hall,hk,m1,m4,putD0,hU1,rdN_ob hBU,rdC_ob hBU,rdC_ob h13,z1,z2.2.1,hzl,known_call hvU hsh hDU hfbl,hae]
       rw[gcRet_flat (hpH.trans hpB) rfl,hb]
     ·rintro⟨e2,U⟩ hBs
      obtain⟨hda,hU,e1,e3,e4,e5,e11,e12⟩:=(hBd _ _).1 hBs
      simp only at hU e1 e3 e4 e5 e11 e12 ⊢
      rw[List.take_length]at hda
      have h5U:=hU.rdOb h5V
      have r2U:=hU.rdC r2.2.1
      unfold vf92b3
      simp[e1,e3,e4,e5,e11,e12,rdC_ob h5U,r1,r2U,hall,up1 hj qpl]
      refine (hA _ _).2 ⟨?_,hV.trans hU,by simp[e1,e3,e4,e5]⟩
      intro p hp'
      rw[List.take_succ_eq_append_getElem hj]at hp'
      rcases List.mem_append.1 hp' with h | h
      ·exact hdp p h
      ·simp at h;rw[h,hph];exact hda
    ·rintro⟨e',V⟩ hAs
     obtain⟨hdp,hV,e1,e3,e4,e5,e11⟩:=(hA _ _).1 hAs
     simp only at hV e1 e3 e4 e5 e11 ⊢
     rw[List.take_length]at hdp
     have h5V:=hV.rdOb h5A
     unfold vf92b4
     simp[e1,e3,e4,e5,e11,rdC_ob h5V,hpl,up1 hi hbb]
     refine (hI _ _).2 ⟨?_,hpA.trans hV,by simp[e1,e3]⟩
     intro j hj
     by_cases ej:j=i
     ·subst ej;exact fun _=>⟨hdp,hlist,hterm⟩
     ·exact hdone j (by omega)
 ·rintro⟨e,Y⟩ hIs
  obtain⟨hdone,hY,e1,e3,e4⟩:=(hI _ _).1 hIs
  simp only at hY e1 e3 e4 ⊢
  have hyes:TakenOk f.blocks:=fun j hj=>hdone j hj hj
  unfold vf92b5
  simp[e1,e3,e4,rdC_ob (hY.rdOb hB1),hl]
  rw[gcRet_flat (hpH.trans hY) rfl,pB_true hyes]
theorem cf_any:∀ l:List Bool,(l.any fun y=>decide (false=y))=decide (0<cf l):=by
 intro l
 induction l with
 | nil=>simp[cf]
 | cons a r ih=>cases a<;>simp[cf]at ih ⊢<;>omega

def phis0 (bs:List BlkR):Nat:=match bs with
 | []=>0
 | b :: _=>b.phis.length

theorem phis0_eq {bs:List BlkR} (h:0<bs.length):phis0 bs=(bs[0]).phis.length:=by
 cases bs with
 | nil=>simp at h
 | cons b r=>rfl

noncomputable def checkW (f:FnR):Int:=
 if decide (0<cf (seenF f.blocks))=true then 2
 else if 0<phis0 f.blocks∨0<(predsF f.blocks 0).length then 3
 else if pB (ArmsRight f.blocks)=false then 4
 else if ((madeF f).any fun n=>decide (1<n))=true then 5
 else if pB (TakenOk f.blocks)=false then 6 else 0

noncomputable def checkF (f:FnR):Int:=if shapeB f=true∧copiesB f.blocks=false then checkW f else 1

theorem pB_not (p:Prop):pB (¬ p)=!pB p:=by
 by_cases h:p
 ·rw[pB_true h,pB_false (by simpa using h)];rfl
 ·rw[pB_false h,pB_true h];rfl

theorem check1 (H:Hp) (x:Int) (k:IV×Hp→Prop):CM 61 [.c (.i x)] H k=k (.c (.b (decide (1<x))),H):=by
 refine det (cw61 ?_) k
 unfold vf61c
 simp

theorem blkZ {X:Hp} {v:CV} {bs:List BlkR} (hv:Blocks X v bs) (h0:0<bs.length):∃ id g off w,idxOf 6 v 0=some (.p id g off)∧rdC X id g off=some w∧lenOf w=some (phis0 bs):=by
 obtain⟨id,g,off,w,u,q1,q2,_,qp,_⟩:=Blocks.get hv h0
 exact⟨id,g,off,w,q1,q2.1,by rw[phis0_eq h0];exact qp.lenOf⟩

set_option maxRecDepth 100000 in
theorem implCheck {H:Hp} {v:CV} {f:FnR} (hv:Blocks H v f.blocks) (hb:f.blocks.length≤BIG) (k:IV×Hp→Prop) :
  CM 18 [.agg [v,.i f.values]] H k=k (.c (.i (checkF f)),H):=by
 refine det (cw18 ?_) k
 unfold vf18c
 obtain⟨X,hX⟩:∃ X,H++[(⟨[v,.i f.values],0,true,2⟩:Ob)]=X:=⟨_,rfl⟩
 have hp:Pre H X:=⟨_,hX.symm⟩
 have hB:rdOb X H.length 0=some ⟨[v,.i f.values],0,true,2⟩:=by rw[← hX];simp
 have hvX:=Blocks.pre hp hv
 cases hsh:shapeB f with
 | false =>
  have:checkF f=1:=by unfold checkF;simp[hsh]
  simp[hX,rdN_ob hB,implShape hvX hb,hsh,this]
  rw[gcRet_flat hp rfl]
 | true =>
  cases hco:copiesB f.blocks with
  | true =>
   have:checkF f=1:=by unfold checkF;simp[hco]
   simp[hX,rdN_ob hB,implShape hvX hb,hsh,implCopies hvX hb,hco,this]
   rw[gcRet_flat hp rfl]
  | false =>
   have hck:checkF f=checkW f:=by unfold checkF;simp[hsh,hco]
   have h0:0<f.blocks.length:=shape_pos hsh
   have hin:InRange f.blocks:=shape_range hsh
   simp[hX,rdN_ob hB,implShape hvX hb,hsh,implCopies hvX hb,hco]
   rw[hck]
   refine (implOrder (m:=f.values) hvX hin hb h0).mono ?_
   rintro _ ⟨o,g,s,gs,X2,rfl,hp2,_,_,_,hs⟩
   have hB2:=hp2.rdOb hB
   have hv2:=hvX.pre hp2
   have hpH:=hp.trans hp2
   have hsl:(seenF f.blocks).length=f.blocks.length:=(walk0_ok h0).1
   have hIL:IsL X2 (.sl s gs 0 f.blocks.length) (seenF f.blocks):=by
    have:=IsL.mk (off:=0) (xs:=seenF f.blocks) hs rfl (by simp) (by rw[List.drop_zero,List.take_of_length_le (by simp)])
    rwa [hsl]at this
   have hcb:=fun k=>containsBool (x:=false) hIL (by omega) k
   simp only[cf_any]at hcb
   by_cases hcf:0<cf (seenF f.blocks)
   ·have:checkW f=2:=by unfold checkW;simp[hcf]
    simp[hcb,hcf,this]
    rw[gcRet_flat hpH rfl]
   ·obtain⟨id0,g0,off0,w0,z1,z2,z3⟩:=blkZ hv2 h0
    by_cases hph:0<phis0 f.blocks
    ·have:checkW f=3:=by unfold checkW;simp[hcf,hph]
     simp[hcb,hcf,rdC_ob hB2,z1,z2,z3,hph,this]
     rw[gcRet_flat hpH rfl]
    ·obtain⟨pw,L,hpw,hcall⟩:=implPreds (m:=f.values) (b:=0) hv2 hb
     obtain⟨X3,hX3⟩:∃ X3,X2++L=X3:=⟨_,rfl⟩
     have hp3:Pre X2 X3:=⟨_,hX3.symm⟩
     have hpwI:=hpw.isI
     rw[hX3]at hpwI
     have hplen:=hpwI.lenOf
     have hB3:=hp3.rdOb hB2
     have hv3:=hv2.pre hp3
     have hpH3:=hpH.trans hp3
     by_cases hpr:0<(predsF f.blocks 0).length
     ·have:checkW f=3:=by unfold checkW;simp[hcf,hpr]
      simp[hcb,hcf,rdC_ob hB2,rdN_ob hB2,z1,z2,z3,hph,hcall,hX3,hplen,hpr,this]
      rw[gcRet_flat hpH3 rfl]
     ·simp[hcb,hcf,rdC_ob hB2,rdN_ob hB2,z1,z2,z3,hph,hcall,hX3,hplen,hpr,rdN_ob hB3,implArms hv3 hsh,pB_not]
      cases har:pB (ArmsRight f.blocks) with
      | false =>
       have:checkW f=4:=by unfold checkW;simp[hcf,hph,hpr,har]
       simp[this]
       rw[gcRet_flat hpH3 rfl]
      | true =>
       obtain⟨X4,hX4⟩:∃ X4,X3++[(⟨(madeF f).map .i,0,true,1⟩:Ob)]=X4:=⟨_,rfl⟩
       have hp4:Pre X3 X4:=⟨_,hX4.symm⟩
       have hml:(madeF f).length=f.values.toNat:=by unfold madeF;rw[ticksB_len];simp
       have h4:rdOb X4 X3.length 0=some ⟨(madeF f).map .i,0,true,1⟩:=by rw[← hX4];simp
       have hMI:IsI X4 (.sl X3.length 0 0 f.values.toNat) (madeF f):=by
        have:=IsI.mk (off:=0) (xs:=madeF f) h4 rfl (by simp) (by rw[List.drop_zero,List.take_of_length_le (by simp)])
        rwa [hml]at this
       obtain⟨s1,s2,s3,s4⟩:=shape_len hsh
       have hcf2:=fun k=>containsFInt hMI (by rw[hml];simp only[BIG];omega) (fid:=61) (caps:=[]) (fun n=>decide (1<n)) (fun x _ k=>check1 X4 x k) k
       have hB4:=hp4.rdOb hB3
       have hv4:=hv3.pre hp4
       have hpH4:=hpH3.trans hp4
       simp[rdN_ob hB3,implMade hv3 hsh,hX4,hcf2]
       cases hma:(madeF f).any fun n=>decide (1<n) with
       | true =>
        have:checkW f=5:=by unfold checkW;simp[hcf,hph,hpr,har,hma]
        simp[this]
        rw[gcRet_flat hpH4 rfl]
       | false =>
        simp[rdN_ob hB4,implTaken hv4 hsh,pB_not]
        cases hta:pB (TakenOk f.blocks) with
        | false =>
         have:checkW f=6:=by unfold checkW;simp[hcf,hph,hpr,har,hma,hta]
         simp[this]
         rw[gcRet_flat hpH4 rfl]
        | true =>
         have:checkW f=0:=by unfold checkW;simp[hcf,hph,hpr,har,hma,hta]
         simp[this]
         rw[gcRet_flat hpH4 rfl]

set_option maxRecDepth 100000 in
theorem specCheck {H:Hp} {v:CV} {f:FnR} (hv:Blocks H v f.blocks) (hb:f.blocks.length≤BIG) (k:IV×Hp→Prop) :
  CM 43 [.agg [v,.i f.values]] H k=k (.c (.i (checkF f)),H):=by
 refine det (cw43 ?_) k
 unfold vf43c
 obtain⟨X,hX⟩:∃ X,H++[(⟨[v,.i f.values],0,true,2⟩:Ob)]=X:=⟨_,rfl⟩
 have hp:Pre H X:=⟨_,hX.symm⟩
 have hB:rdOb X H.length 0=some ⟨[v,.i f.values],0,true,2⟩:=by rw[← hX];simp
 have hvX:=Blocks.pre hp hv
 cases hsh:shapeB f with
 | false =>
  have:checkF f=1:=by unfold checkF;simp[hsh]
  simp[hX,rdN_ob hB,specShape hvX hb,hsh,this]
  rw[gcRet_flat hp rfl]
 | true =>
  cases hco:copiesB f.blocks with
  | true =>
   have:checkF f=1:=by unfold checkF;simp[hco]
   simp[hX,rdN_ob hB,specShape hvX hb,hsh,specCopies hvX hb,hco,this]
   rw[gcRet_flat hp rfl]
  | false =>
   have hck:checkF f=checkW f:=by unfold checkF;simp[hsh,hco]
   have h0:0<f.blocks.length:=shape_pos hsh
   have hin:InRange f.blocks:=shape_range hsh
   have hok:=walk0_ok h0
   have hol:(ordF f.blocks).length=(walk0 f.blocks).2.length:=by unfold ordF;simp
   have hocf:(ordF f.blocks).length+cf (seenF f.blocks)=f.blocks.length:=by unfold seenF;omega
   obtain⟨X2,hX2⟩:∃ X2,X++[(⟨(ordF f.blocks).map .i,0,true,1⟩:Ob)]=X2:=⟨_,rfl⟩
   have hp2:Pre X X2:=⟨_,hX2.symm⟩
   have hB2:=hp2.rdOb hB
   have hv2:=hvX.pre hp2
   have hpH:=hp.trans hp2
   have hl2:=hv2.lenOf
   rw[hck]
   by_cases hcf:0<cf (seenF f.blocks)
   ·have:checkW f=2:=by unfold checkW;simp[hcf]
    have hne:¬ ((ordF f.blocks).length:Int)=(f.blocks.length:Int):=by omega
    simp[hX,rdN_ob hB,rdC_ob hB,specShape hvX hb,hsh,specCopies hvX hb,hco,specOrderL hvX hin hb h0,hX2,rdC_ob hB2,hB,hB2,hl2,hne,this]
    rw[gcRet_flat hpH rfl]
   ·have heq:((ordF f.blocks).length:Int)=(f.blocks.length:Int):=by omega
    obtain⟨id0,g0,off0,w0,z1,z2,z3⟩:=blkZ hv2 h0
    by_cases hph:0<phis0 f.blocks
    ·have:checkW f=3:=by unfold checkW;simp[hcf,hph]
     simp[hX,rdN_ob hB,rdC_ob hB,specShape hvX hb,hsh,specCopies hvX hb,hco,specOrderL hvX hin hb h0,hX2,rdC_ob hB2,hB,hB2,hl2,heq,z1,z2,z3,hph,this]
     rw[gcRet_flat hpH rfl]
    ·obtain⟨pw,L,hpw,hcall⟩:=specPreds (m:=f.values) (b:=0) hv2 hb
     obtain⟨X3,hX3⟩:∃ X3,X2++L=X3:=⟨_,rfl⟩
     have hp3:Pre X2 X3:=⟨_,hX3.symm⟩
     have hpwI:=hpw.isI
     rw[hX3]at hpwI
     have hplen:=hpwI.lenOf
     have hB3:=hp3.rdOb hB2
     have hv3:=hv2.pre hp3
     have hpH3:=hpH.trans hp3
     by_cases hpr:0<(predsF f.blocks 0).length
     ·have:checkW f=3:=by unfold checkW;simp[hcf,hpr]
      simp[hX,rdN_ob hB,rdC_ob hB,specShape hvX hb,hsh,specCopies hvX hb,hco,specOrderL hvX hin hb h0,hX2,rdC_ob hB2,hB,hB2,rdN_ob hB2,hl2,heq,z1,z2,z3,hph,hcall,hX3,hplen,hpr,this]
      rw[gcRet_flat hpH3 rfl]
     ·simp[hX,rdN_ob hB,rdC_ob hB,specShape hvX hb,hsh,specCopies hvX hb,hco,specOrderL hvX hin hb h0,hX2,rdC_ob hB2,hB,hB2,rdN_ob hB2,hl2,heq,z1,z2,z3,hph,hcall,hX3,hplen,hpr,rdN_ob hB3,specArms hv3 hsh]
      cases har:pB (ArmsRight f.blocks) with
      | false =>
       have:checkW f=4:=by unfold checkW;simp[hcf,hph,hpr,har]
       simp[this]
       rw[gcRet_flat hpH3 rfl]
      | true =>
       obtain⟨X4,hX4⟩:∃ X4,X3++[(⟨(madeF f).map .i,0,true,1⟩:Ob)]=X4:=⟨_,rfl⟩
       have hp4:Pre X3 X4:=⟨_,hX4.symm⟩
       have hml:(madeF f).length=f.values.toNat:=by unfold madeF;rw[ticksB_len];simp
       have h4:rdOb X4 X3.length 0=some ⟨(madeF f).map .i,0,true,1⟩:=by rw[← hX4];simp
       have hMI:IsI X4 (.sl X3.length 0 0 f.values.toNat) (madeF f):=by
        have:=IsI.mk (off:=0) (xs:=madeF f) h4 rfl (by simp) (by rw[List.drop_zero,List.take_of_length_le (by simp)])
        rwa [hml]at this
       obtain⟨s1,s2,s3,s4⟩:=shape_len hsh
       have hmb:(madeF f).length≤BIG:=by rw[hml];simp only[BIG];omega
       have hMl:=hMI.lenOf
       have hB4:=hp4.rdOb hB3
       have hv4:=hv3.pre hp4
       have hpH4:=hpH3.trans hp4
       have hseen:∀ b,b<f.blocks.length→(seenF f.blocks).getD b false=true:=by
        intro b hb'
        have hsl:(seenF f.blocks).length=f.blocks.length:=hok.1
        have hany:=cf_any (seenF f.blocks)
        rw[decide_eq_false hcf,List.any_eq_false]at hany
        have hlt:b<(seenF f.blocks).length:=by omega
        have:=hany _ (List.getElem_mem hlt)
        rw[List.getD_eq_getElem?_getD,List.getElem?_eq_getElem hlt]
        cases hx:(seenF f.blocks)[b] with
        | true=>rfl
        | false=>rw[hx]at this;simp at this
       simp[rdN_ob hB3,specMade5 hv3 hsh,hX4]
       obtain⟨I,hI⟩:∃ I:Nat→St→Prop,∀ i st,I i st↔((∀ j (hj:j<(madeF f).length),j<i→¬ 1<(madeF f)[j])∧st.h=X4 ∧
         Env.get st.e 1=.c (.p H.length 0 0)∧Env.get st.e 3=.c (.sl X3.length 0 0 f.values.toNat)∧Env.get st.e 4=.c (.i i)):=⟨_,fun _ _=>Iff.rfl⟩
       refine wp_for CM_mono (madeF f).length I ((hI _ _).2 ⟨by simp,rfl,by simp⟩) ?_ ?_
       ·rintro i ⟨e,Y⟩ hi hIs
        obtain⟨hdone,hY,e1,e3,e4⟩:=(hI _ _).1 hIs
        simp only at hY e1 e3 e4 ⊢
        subst hY
        obtain⟨id3,g3,off3,p1,p2⟩:=hMI.at_ hi
        have hiv:(i:Int)<f.values.toNat:=by omega
        unfold vf43b0
        by_cases hx:1<(madeF f)[i]
        ·have hma:((madeF f).any fun n=>decide (1<n))=true:=List.any_eq_true.2 ⟨_,List.getElem_mem hi,decide_eq_true hx⟩
         have:checkW f=5:=by unfold checkW;simp[hcf,hph,hpr,har,hma]
         simp[e1,e3,e4,hml▸hi,show max f.values 0=f.values by omega,show (i:Int)<f.values by omega,p1,p2,hx,this]
         rw[gcRet_flat hpH4 rfl]
        ·simp[e1,e3,e4,hml▸hi,show max f.values 0=f.values by omega,show (i:Int)<f.values by omega,p1,p2,hx,up1 hi hmb]
         refine (hI _ _).2 ⟨?_,rfl,by simp[e1,e3]⟩
         intro j hj hji
         by_cases ej:j=i
         ·subst ej;exact hx
         ·exact hdone j hj (by omega)
       ·rintro⟨e,Y⟩ hIs
        obtain⟨hdone,hY,e1,e3,e4⟩:=(hI _ _).1 hIs
        simp only at hY e1 e3 e4 ⊢
        subst hY
        have hma:((madeF f).any fun n=>decide (1<n))=false:=by
         rw[List.any_eq_false]
         intro x hx
         obtain⟨j,hj,rfl⟩:=List.getElem_of_mem hx
         simpa using hdone j hj hj
        unfold vf43b0
        simp[e1,e3,e4,hml,rdN_ob hB4,specTaken hv4 hsh hseen]
        cases hta:pB (TakenOk f.blocks) with
        | false =>
         have:checkW f=6:=by unfold checkW;simp[hcf,hph,hpr,har,hma,hta]
         simp[this]
         rw[gcRet_flat hpH4 rfl]
        | true =>
         have:checkW f=0:=by unfold checkW;simp[hcf,hph,hpr,har,hma,hta]
         simp[this]
         rw[gcRet_flat hpH4 rfl]
def defI (x:InsR):List Int:=if 0≤insDefF x then [insDefF x] else []

def defsB (b:BlkR):List Int:=b.phis.map (·.d)++b.list.flatMap defI

theorem tickB_defs (vs:List Int) (b:BlkR):tickB vs b=(defsB b).foldl tick vs:=by
 unfold tickB defsB
 rw[List.foldl_append,List.foldl_map,List.foldl_flatMap]
 congr 1
 funext ws x
 unfold tickI defI
 split<;>rfl

theorem madeF_defs (f:FnR):madeF f=(f.blocks.flatMap defsB).foldl tick (List.replicate f.values.toNat 0):=by
 unfold madeF
 rw[List.foldl_flatMap]
 congr 1
 funext ws b
 exact tickB_defs ws b

theorem tick_count {n:Nat} {d:Nat} (hd:d<n):∀ (ds vs:List Int),vs.length=n→(∀ x∈ds,∃ k:Nat,x=k∧k<n)→(ds.foldl tick vs).getD d 0=vs.getD d 0+(ds.count (d:Int):Int):=by
 intro ds
 induction ds with
 | nil=>intro vs _ _;simp
 | cons x r ih =>
  intro vs hl h
  obtain⟨k,rfl,hk⟩:=h x (by simp)
  rw[List.foldl_cons,ih _ (by rw[tick_len];exact hl) (fun y hy=>h y (by simp[hy])),List.count_cons]
  unfold tick
  rw[Int.toNat_natCast,List.getD_eq_getElem?_getD,List.getElem?_set]
  by_cases e:k=d
  ·subst e
   simp[hl,hk];omega
  ·have e2:¬ ((k:Int)=(d:Int)):=by omega
   rw[if_neg e,← List.getD_eq_getElem?_getD]
   simp[e2]

theorem flat2 {β:Type} {f:β→List Int} {d:Int}:∀ (bs:List β) (i j:Nat) (hj:j<bs.length) (hij:i<j),d∈f (bs[i]'(by omega))→d∈f bs[j]→2≤(bs.flatMap f).count d:=by
 intro bs
 induction bs with
 | nil=>intro i j hj;simp at hj
 | cons b r ih =>
  intro i j hj hij h1 h2
  rw[List.flatMap_cons,List.count_append]
  cases j with
  | zero=>omega
  | succ j =>
   have hj':j<r.length:=by simpa using hj
   cases i with
   | zero =>
    have a:0<(f b).count d:=List.count_pos_iff.2 (by simpa using h1)
    have c:0<(r.flatMap f).count d:=List.count_pos_iff.2 (List.mem_flatMap.2 ⟨_,List.getElem_mem hj',by simpa using h2⟩)
    omega
   | succ i =>
    have:=ih i j hj' (by omega) (by simpa using h1) (by simpa using h2)
    omega

theorem count_part {β:Type} {f:β→List Int} {d:Int} {bs:List β} {b:β} (hb:b∈bs):(f b).count d≤(bs.flatMap f).count d:=by
 induction bs with
 | nil=>simp at hb
 | cons c r ih =>
  rw[List.flatMap_cons,List.count_append]
  rcases List.mem_cons.1 hb with rfl | h
  ·omega
  ·have:=ih h;omega

theorem made_defs {f:FnR} (hsh:shapeB f=true):∀ x∈f.blocks.flatMap defsB,∃ k:Nat,x=k∧k<f.values.toNat:=by
 intro x hx
 obtain⟨b,hb,hx⟩:=List.mem_flatMap.1 hx
 unfold defsB at hx
 rcases List.mem_append.1 hx with h | h
 ·obtain⟨p,hp,rfl⟩:=List.mem_map.1 h
  exact val_nat (phi_vals (shape_phi hsh hb hp)).1
 ·obtain⟨y,hy,h⟩:=List.mem_flatMap.1 h
  unfold defI at h
  by_cases h0:0≤insDefF y
  ·rw[if_pos h0]at h
   simp at h
   rw[h]
   exact ins_def (shape_ins hsh hb hy) h0
  ·rw[if_neg h0]at h;simp at h

theorem once {f:FnR} (hsh:shapeB f=true) (hm:((madeF f).any fun n=>decide (1<n))=false) (d:Int):(f.blocks.flatMap defsB).count d≤1:=by
 by_cases hd:d∈f.blocks.flatMap defsB
 ·obtain⟨k,rfl,hk⟩:=made_defs hsh d hd
  have h:=tick_count hk (f.blocks.flatMap defsB) (List.replicate f.values.toNat 0) (by simp) (made_defs hsh)
  rw[← madeF_defs]at h
  have hl:(madeF f).length=f.values.toNat:=by unfold madeF;rw[ticksB_len];simp
  have hlt:k<(madeF f).length:=by omega
  rw[List.any_eq_false]at hm
  have h1:=hm _ (List.getElem_mem hlt)
  have h2:(madeF f).getD k 0=(madeF f)[k]:=by rw[List.getD_eq_getElem?_getD,List.getElem?_eq_getElem hlt];rfl
  have h3:(List.replicate f.values.toNat (0:Int)).getD k 0=0:=by rw[List.getD_eq_getElem?_getD,List.getElem?_replicate];split<;>rfl
  rw[h2,h3]at h
  simp at h1
  omega
 ·rw[List.count_eq_zero.2 hd];omega
def keepsF (op:Int):Bool:=decide (op=22) || decide (op=23) || decide (op=21)

inductive UsedP (bs:List BlkR):Int→Prop
 | term {b:BlkR} (hb:b∈bs) {v:Int} (hv:v∈tusesF b.term):UsedP bs v
 | stay {b:BlkR} (hb:b∈bs) {x:InsR} (hx:x∈b.list) (hs:keepsF x.op=true) {v:Int} (hv:v∈usesF x):UsedP bs v
 | make {b:BlkR} (hb:b∈bs) {x:InsR} (hx:x∈b.list) (hd:0≤insDefF x) (hu:UsedP bs (insDefF x)) {v:Int} (hv:v∈usesF x):UsedP bs v
 | phi {b:BlkR} (hb:b∈bs) {p:PhiR} (hp:p∈b.phis) (hu:UsedP bs p.d) {a:ArmR} (ha:a∈p.arms):UsedP bs a.v

structure Rnd (bs:List BlkR) (us0 us:List Bool) (m:Bool):Prop where
 len:us.length=us0.length
 snd:∀ j:Nat,us.getD j false=true→UsedP bs j
 no:m=false→us=us0
 yes:m=true→cf us<cf us0

theorem Rnd.refl {bs:List BlkR} {us:List Bool} (h:∀ j:Nat,us.getD j false=true→UsedP bs j):Rnd bs us us false:=⟨rfl,h,fun _=>rfl,fun h=>by cases h⟩

theorem Rnd.trans {bs:List BlkR} {a b c:List Bool} {m n:Bool} (h:Rnd bs a b m) (k:Rnd bs b c n):Rnd bs a c (m || n):=by
 refine⟨k.len.trans h.len,k.snd,fun hf=>?_,fun ht=>?_⟩
 ·rw[Bool.or_eq_false_iff]at hf
  rw[k.no hf.2,h.no hf.1]
 ·cases hm:m with
  | true =>
   have a1:=h.yes hm
   cases hn:n with
   | true=>have:=k.yes hn;omega
   | false=>rw[k.no hn];exact a1
  | false =>
   rw[hm,Bool.false_or]at ht
   rw[← h.no hm];exact k.yes ht
theorem set_set (X:Hp) (i:Nat) (a b:Ob):(X.set i a).set i b=X.set i b:=by simp
structure SameT (bs bs':List BlkR):Prop where
 len:bs'.length=bs.length
 term:∀ b (h:b<bs.length) (h':b<bs'.length),bs'[b].term=bs[b].term

theorem SameT.symm {bs bs':List BlkR} (h:SameT bs bs'):SameT bs' bs:=⟨h.len.symm,fun b h1 h2=>(h.term b h2 h1).symm⟩

theorem SameT.succs {bs bs':List BlkR} (h:SameT bs bs'):succsAt bs'=succsAt bs:=by
 funext j
 by_cases hj:j<bs.length
 ·rw[succsAt_eq hj,succsAt_eq (by rw[h.len];exact hj),h.term j hj]
 ·unfold succsAt
  rw[List.getElem?_eq_none (by have:=h.len;omega),List.getElem?_eq_none (by omega)]

theorem SameT.walk {bs bs':List BlkR} (h:SameT bs bs'):walkF bs'=walkF bs:=by
 funext n
 induction n with
 | zero=>rfl
 | succ n ih=>funext b p;simp only[walkF,h.succs,ih]

theorem SameT.walk0 {bs bs':List BlkR} (h:SameT bs bs'):walk0 bs'=walk0 bs:=by unfold Vm.walk0;rw[h.walk,h.len]

theorem SameT.seen {bs bs':List BlkR} (h:SameT bs bs'):seenF bs'=seenF bs:=by unfold seenF;rw[h.walk0]

theorem SameT.rch {bs bs':List BlkR} (h:SameT bs bs') {bar:Nat→Prop} {s j:Nat} (hr:Rch bs bar s j):Rch bs' bar s j:=by
 induction hr with
 | start h0=>exact .start h0
 | step _ hs hk ih=>exact .step ih (by rw[h.succs];exact hs) hk

theorem SameT.dom {bs bs':List BlkR} (h:SameT bs bs') {a b:Nat} (hd:Dom bs a b):Dom bs' a b:=⟨h.rch hd.1,h.rch hd.2.1,fun hr=>hd.2.2 (h.symm.rch hr)⟩


def Once (bs:List BlkR):Prop:=∀ d:Int,(bs.flatMap defsB).count d≤1

theorem mem_defI {x:InsR} {v:Int}:v∈defI x↔0≤insDefF x∧v=insDefF x:=by
 unfold defI
 split
 ·rename_i h;simp[h]
 ·rename_i h;simp[h]

theorem makes_val {x:InsR} {m:Int} (h:insB x m=true) (hm:makesF x.op=true):valB x.d m=true:=by
 have hk:=ins_kinds h
 unfold insB at h
 rcases hk with hw | ⟨hw,e | e | e | e | e | e⟩
 ·rw[if_pos hw]at h;simp only[Bool.and_eq_true]at h;exact h.1.1.1
 ·simp[hw,e]at h;exact h.1.1
 ·simp[hw,e]at h;exact h.1.1.1
 ·rw[e]at hm;exact absurd hm (by decide)
 ·rw[e]at hm;exact absurd hm (by decide)
 ·simp[hw,e]at h;exact h.1.1.1
 ·simp[hw,e]at h;exact h.1.1.1

theorem made_iff {x:InsR} {m v:Int} (h:insB x m=true):madeAt v x=true↔v∈defI x:=by
 rw[mem_defI]
 unfold madeAt insDefF
 rw[Bool.and_eq_true]
 constructor
 ·rintro⟨h1,h2⟩
  have h2:=of_decide_eq_true h2
  rw[if_pos h1]
  obtain⟨k,hk,_⟩:=val_nat (makes_val h h1)
  omega
 ·rintro⟨h1,h2⟩
  by_cases hm:makesF x.op=true
  ·rw[if_pos hm]at h2;exact⟨hm,decide_eq_true h2.symm⟩
  ·rw[if_neg hm]at h1;omega

theorem mem_defsB {b:BlkR} {v:Int}:v∈defsB b↔v∈b.phis.map (·.d)∨v∈b.list.flatMap defI:=by
 unfold defsB;rw[List.mem_append]

theorem once_blk {bs:List BlkR} (ho:Once bs) {v:Int} {i j:Nat} (hi:i<bs.length) (hj:j<bs.length) (h1:v∈defsB bs[i]) (h2:v∈defsB bs[j]):i=j:=by
 apply Classical.byContradiction
 intro hne
 have:=ho v
 rcases Nat.lt_or_gt_of_ne hne with h | h
 ·have:=flat2 (f:=defsB) bs i j hj h h1 h2;omega
 ·have:=flat2 (f:=defsB) bs j i hi h h2 h1;omega

theorem once_in {bs:List BlkR} (ho:Once bs) {b:BlkR} (hb:b∈bs) (v:Int):(b.phis.map (·.d)).count v+(b.list.flatMap defI).count v≤1:=by
 have h1:=count_part (f:=defsB) (d:=v) hb
 have h2:=ho v
 unfold defsB at h1
 rw[List.count_append]at h1
 have h3:List.count v (List.flatMap defsB bs)=List.count v (List.flatMap (fun b=>List.map (fun x=>x.d) b.phis++List.flatMap defI b.list) bs):=rfl
 omega

theorem once_list {bs:List BlkR} (ho:Once bs) {b:BlkR} (hb:b∈bs) {v:Int} {i j:Nat} (hi:i<b.list.length) (hj:j<b.list.length) (h1:v∈defI b.list[i]) (h2:v∈defI b.list[j]):i=j:=by
 apply Classical.byContradiction
 intro hne
 have:=once_in ho hb v
 rcases Nat.lt_or_gt_of_ne hne with h | h
 ·have:=flat2 (f:=defI) b.list i j hj h h1 h2;omega
 ·have:=flat2 (f:=defI) b.list j i hi h h2 h1;omega

theorem once_phi {bs:List BlkR} (ho:Once bs) {b:BlkR} (hb:b∈bs) {v:Int} (h1:v∈b.phis.map (·.d)) (h2:v∈b.list.flatMap defI):False:=by
 have:=once_in ho hb v
 have a:=List.count_pos_iff.2 h1
 have c:=List.count_pos_iff.2 h2
 omega

theorem home_spec {f:FnR} (hsh:shapeB f=true) (v:Int):((homeF f.blocks v).1=-1∧∀ b∈f.blocks,v∉defsB b) ∨
  ∃ i,∃ hi:i<f.blocks.length,(homeF f.blocks v).1=(i:Int)∧(((homeF f.blocks v).2=-1∧v∈f.blocks[i].phis.map (·.d))∨∃ n,∃ hn:n<f.blocks[i].list.length,(homeF f.blocks v).2=(n:Int)∧v∈defI f.blocks[i].list[n]):=by
 have hno:∀ (bs:List BlkR),(∀ b∈bs,b∈f.blocks)→∀ (j:Nat),(defGo v bs j).2=-2→∀ c∈bs,v∉defsB c:=by
  intro bs
  induction bs with
  | nil=>intro _ j _ c hc;simp at hc
  | cons a r ih =>
   intro hsub j h c hc
   cases ha:defBlk a v with
   | none =>
    have e:defGo v (a :: r) j=defGo v r (j+1):=by simp[defGo,ha]
    rw[e]at h
    rcases List.mem_cons.1 hc with rfl | hc
    ·unfold defBlk at ha
     split at ha
     ·cases ha
     ·rename_i hp
      split at ha
      ·cases ha
      ·rename_i hl
       rw[mem_defsB]
       rintro (h1 | h1)
       ·obtain⟨p,hp1,hp2⟩:=List.mem_map.1 h1
        exact hp (List.any_eq_true.2 ⟨p,hp1,decide_eq_true hp2⟩)
       ·obtain⟨x,hx,hv⟩:=List.mem_flatMap.1 h1
        exact hl (findI_nonneg.2 (List.any_eq_true.2 ⟨x,hx,(made_iff (shape_ins hsh (hsub _ (by simp)) hx)).2 hv⟩))
    ·exact ih (fun b hb=>hsub b (by simp[hb])) (j+1) h c hc
   | some p =>
    have e:defGo v (a :: r) j=((j:Int),p):=by simp[defGo,ha]
    rw[e]at h
    simp only at h
    unfold defBlk at ha
    split at ha
    ·injection ha with ha;omega
    ·split at ha
     ·injection ha with ha;omega
     ·cases ha
 rcases defGo_spec v f.blocks 0 with⟨h1,h2⟩ | ⟨i,hi,h1,h2⟩
 ·exact .inl ⟨h2,hno f.blocks (fun _ h=>h) 0 h1⟩
 ·refine .inr ⟨i,hi,by unfold homeF;rw[h1];simp,?_⟩
  rcases h2 with⟨h3,h4⟩ | ⟨n,hn,h3,h4⟩
  ·obtain⟨p,hp1,hp2⟩:=List.any_eq_true.1 h4
   exact .inl ⟨h3,List.mem_map.2 ⟨p,hp1,of_decide_eq_true hp2⟩⟩
  ·exact .inr ⟨n,hn,h3,(made_iff (shape_ins hsh (List.getElem_mem hi) (List.getElem_mem hn))).1 h4⟩

theorem hasI_domF {bs:List BlkR} (hin:InRange bs) {b:Nat} (hb:b<bs.length) (c:Int):hasI (domF bs b) c=true↔∃ k:Nat,c=k∧k<bs.length∧Dom bs k b:=by
 rw[hasI_iff]
 unfold domF domTo
 rw[List.mem_map]
 constructor
 ·rintro⟨k,hk,rfl⟩
  rw[List.mem_filter,List.mem_range]at hk
  exact⟨k,rfl,hk.1,(domB_iff hin hk.1 hb).1 hk.2⟩
 ·rintro⟨k,rfl,hk,hd⟩
  exact⟨k,by rw[List.mem_filter,List.mem_range];exact⟨hk,(domB_iff hin hk hb).2 hd⟩,rfl⟩

def OutDef (bs:List BlkR) (b:Nat) (v:Int):Prop:=∃ c,∃ hc:c<bs.length,c≠b∧Dom bs c b∧v∈defsB bs[c]

structure WellP (bs:List BlkR):Prop where
 phi:∀ b (hb:b<bs.length),∀ p∈bs[b].phis,∀ a∈p.arms,∃ c,∃ hc:c<bs.length,Dom bs c a.fr.toNat∧a.v∈defsB bs[c]
 ins:∀ b (hb:b<bs.length) l1 x l2,bs[b].list=l1++x :: l2→∀ v∈usesF x,v∈bs[b].phis.map (·.d)∨v∈l1.flatMap defI∨OutDef bs b v
 term:∀ b (hb:b<bs.length),∀ v∈tusesF bs[b].term,v∈defsB bs[b]∨OutDef bs b v

theorem at_iff {f:FnR} (hsh:shapeB f=true) (ho:Once f.blocks) {b:Nat} (hb:b<f.blocks.length) (v:Int) (i:Nat) :
  atB f.blocks v b i=true↔v∈f.blocks[b].phis.map (·.d)∨v∈(f.blocks[b].list.take i).flatMap defI∨OutDef f.blocks b v:=by
 have hin:=shape_range hsh
 have hmem:f.blocks[b]∈f.blocks:=List.getElem_mem hb
 have htk:∀ {w:Int} {k:Nat},w∈(f.blocks[b].list.take k).flatMap defI↔∃ n,∃ hn:n<f.blocks[b].list.length,n<k∧w∈defI f.blocks[b].list[n]:=by
  intro w k
  rw[List.mem_flatMap]
  constructor
  ·rintro⟨x,hx,hw⟩
   obtain⟨l,hl,rfl⟩:=List.mem_take_iff_getElem.1 hx
   exact⟨l,by omega,by omega,hw⟩
  ·rintro⟨n,hn,hk,hw⟩
   exact⟨_,List.mem_take_iff_getElem.2 ⟨n,by omega,rfl⟩,hw⟩
 unfold atB
 rcases home_spec hsh v with⟨h1,h2⟩ | ⟨c,hc,h1,h2⟩
 ·rw[if_neg (by omega),hasI_domF hin hb]
  constructor
  ·rintro⟨k,hk,_⟩;omega
  ·rintro (h | h | ⟨c,hc,_,_,h⟩)
   ·exact absurd (mem_defsB.2 (.inl h)) (h2 _ hmem)
   ·obtain⟨n,hn,_,hw⟩:=htk.1 h
    exact absurd (mem_defsB.2 (.inr (List.mem_flatMap.2 ⟨_,List.getElem_mem hn,hw⟩))) (h2 _ hmem)
   ·exact absurd h (h2 _ (List.getElem_mem hc))
 ·have hdc:v∈defsB f.blocks[c]:=by
   rw[mem_defsB]
   rcases h2 with⟨_,h2⟩ | ⟨n,hn,_,h2⟩
   ·exact .inl h2
   ·exact .inr (List.mem_flatMap.2 ⟨_,List.getElem_mem hn,h2⟩)
  by_cases hcb:c=b
  ·subst hcb
   rw[if_pos h1,decide_eq_true_eq]
   rcases h2 with⟨h3,h4⟩ | ⟨n,hn,h3,h4⟩
   ·rw[h3]
    exact⟨fun _=>.inl h4,fun _=>by omega⟩
   ·rw[h3]
    constructor
    ·intro h;exact .inr (.inl (htk.2 ⟨n,hn,by omega,h4⟩))
    ·rintro (h | h | ⟨d,hd,hne,_,h⟩)
     ·exact (once_phi ho hmem h (List.mem_flatMap.2 ⟨_,List.getElem_mem hn,h4⟩)).elim
     ·obtain⟨n',hn',hk,hw⟩:=htk.1 h
      have:=once_list ho hmem hn hn' h4 hw
      omega
     ·exact absurd (once_blk ho hd hc h hdc) hne
  ·rw[if_neg (by omega),hasI_domF hin hb]
   constructor
   ·rintro⟨k,hk,hk2,hd⟩
    have e:k=c:=by omega
    subst e
    exact .inr (.inr ⟨k,hc,hcb,hd,hdc⟩)
   ·rintro (h | h | ⟨d,hd,hne,hdm,h⟩)
    ·exact absurd (once_blk ho hc hb hdc (mem_defsB.2 (.inl h))) hcb
    ·obtain⟨n',hn',hk,hw⟩:=htk.1 h
     exact absurd (once_blk ho hc hb hdc (mem_defsB.2 (.inr (List.mem_flatMap.2 ⟨_,List.getElem_mem hn',hw⟩)))) hcb
    ·have e:=once_blk ho hd hc h hdc
     subst e
     exact⟨d,h1,hd,hdm⟩

theorem home_dom {f:FnR} (hsh:shapeB f=true) (ho:Once f.blocks) {b:Nat} (hb:b<f.blocks.length) (v:Int) :
  hasI (domF f.blocks b) (homeF f.blocks v).1=true↔∃ c,∃ hc:c<f.blocks.length,Dom f.blocks c b∧v∈defsB f.blocks[c]:=by
 rw[hasI_domF (shape_range hsh) hb]
 rcases home_spec hsh v with⟨h1,h2⟩ | ⟨c,hc,h1,h2⟩
 ·rw[h1]
  constructor
  ·rintro⟨k,hk,_⟩;omega
  ·rintro⟨c,hc,_,h⟩;exact absurd h (h2 _ (List.getElem_mem hc))
 ·have hdc:v∈defsB f.blocks[c]:=by
   rw[mem_defsB]
   rcases h2 with⟨_,h2⟩ | ⟨n,hn,_,h2⟩
   ·exact .inl h2
   ·exact .inr (List.mem_flatMap.2 ⟨_,List.getElem_mem hn,h2⟩)
  rw[h1]
  constructor
  ·rintro⟨k,hk,hk2,hd⟩
   have e:k=c:=by omega
   subst e
   exact⟨k,hc,hd,hdc⟩
  ·rintro⟨d,hd,hdm,h⟩
   have e:=once_blk ho hd hc h hdc
   subst e
   exact⟨d,rfl,hd,hdm⟩

theorem fr_lt {f:FnR} (hsh:shapeB f=true) {b:BlkR} (hb:b∈f.blocks) {p:PhiR} (hp:p∈b.phis) {a:ArmR} (ha:a∈p.arms):∃ k:Nat,a.fr=k∧k<f.blocks.length:=by
 obtain⟨i,hi,rfl⟩:=List.getElem_of_mem ha
 have:=((phi_vals (shape_phi hsh hb hp)).2.2 i hi).1
 have:=of_decide_eq_true (show decide (0≤p.arms[i].fr∧p.arms[i].fr≤(f.blocks.length:Int) - 1)=true from this)
 exact⟨p.arms[i].fr.toNat,by omega,by omega⟩

theorem taken_iff {f:FnR} (hsh:shapeB f=true) (ho:Once f.blocks):TakenOk f.blocks↔WellP f.blocks:=by
 constructor
 ·intro h
  refine⟨fun b hb p hp a ha=>?_,fun b hb l1 x l2 he v hv=>?_,fun b hb v hv=>?_⟩
  ·obtain⟨k,hk1,hk2⟩:=fr_lt hsh (List.getElem_mem hb) hp ha
   have:=(h b hb).1 p hp a ha
   rw[hk1]at this ⊢
   exact (home_dom hsh ho hk2 a.v).1 this
  ·have hi:l1.length<f.blocks[b].list.length:=by rw[he];simp
   have hx:f.blocks[b].list[l1.length]=x:=by
    have:f.blocks[b].list[l1.length]? = some x:=by rw[he,List.getElem?_append_right (Nat.le_refl _),Nat.sub_self];rfl
    rw[List.getElem?_eq_getElem hi]at this;injection this
   have h1:=(h b hb).2.1 l1.length hi
   rw[hx,List.any_eq_false]at h1
   have h2:=h1 v hv
   have h3:atB f.blocks v b l1.length=true:=by simpa using h2
   rw[at_iff hsh ho hb]at h3
   rw[he,List.take_left]at h3
   exact h3
  ·have h1:=(h b hb).2.2
   rw[List.any_eq_false]at h1
   have h3:atB f.blocks v b f.blocks[b].list.length=true:=by simpa using h1 v hv
   rw[at_iff hsh ho hb,List.take_length]at h3
   rw[mem_defsB,or_assoc]
   exact h3
 ·intro h j hj
  refine⟨fun p hp a ha=>?_,fun i hi=>?_,?_⟩
  ·obtain⟨k,hk1,hk2⟩:=fr_lt hsh (List.getElem_mem hj) hp ha
   have:=h.phi j hj p hp a ha
   rw[hk1]at this ⊢
   exact (home_dom hsh ho hk2 a.v).2 this
  ·rw[List.any_eq_false]
   intro v hv
   have:=h.ins j hj (f.blocks[j].list.take i) f.blocks[j].list[i] (f.blocks[j].list.drop (i+1)) (by rw[← List.drop_eq_getElem_cons hi,List.take_append_drop]) v hv
   rw[(at_iff hsh ho hj v i).2 this];simp
  ·rw[List.any_eq_false]
   intro v hv
   have:=h.term j hj v hv
   rw[mem_defsB,or_assoc]at this
   rw[(at_iff hsh ho hj v f.blocks[j].list.length).2 (by rw[List.take_length];exact this)];simp

structure Well (f:FnR):Prop where
 sh:shapeB f=true
 nc:copiesB f.blocks=false
 seen:cf (seenF f.blocks)=0
 entry:phis0 f.blocks=0∧(predsF f.blocks 0).length=0
 arms:ArmsRight f.blocks
 once:Once f.blocks
 wp:WellP f.blocks

theorem once_iff {f:FnR} (hsh:shapeB f=true):((madeF f).any fun n=>decide (1<n))=false↔Once f.blocks:=by
 constructor
 ·exact fun h=>once hsh h
 ·intro h
  rw[List.any_eq_false]
  intro n hn
  obtain⟨k,hk,rfl⟩:=List.getElem_of_mem hn
  have hl:(madeF f).length=f.values.toNat:=by unfold madeF;rw[ticksB_len];simp
  have h1:=tick_count (d:=k) (show k<f.values.toNat by omega) (f.blocks.flatMap defsB) (List.replicate f.values.toNat 0) (by simp) (made_defs hsh)
  rw[← madeF_defs]at h1
  have h2:(madeF f).getD k 0=(madeF f)[k]:=by rw[List.getD_eq_getElem?_getD,List.getElem?_eq_getElem hk];rfl
  have h3:(List.replicate f.values.toNat (0:Int)).getD k 0=0:=by rw[List.getD_eq_getElem?_getD,List.getElem?_replicate];split<;>rfl
  rw[h2,h3]at h1
  have:=h (k:Int)
  simp
  omega

theorem well_iff {f:FnR}:checkF f=0↔Well f:=by
 unfold checkF checkW
 constructor
 ·intro h
  by_cases h1:shapeB f=true∧copiesB f.blocks=false
  ·rw[if_pos h1]at h
   by_cases h2:0<cf (seenF f.blocks)
   ·simp[h2]at h
   ·by_cases h3:0<phis0 f.blocks∨0<(predsF f.blocks 0).length
    ·simp[h2,h3]at h
    ·by_cases h4:ArmsRight f.blocks
     ·cases h5:(madeF f).any fun n=>decide (1<n) with
      | true=>simp[h2,h3,pB_true h4,h5]at h
      | false =>
       by_cases h6:TakenOk f.blocks
       ·have ho:=(once_iff h1.1).1 h5
        exact⟨h1.1,h1.2,by omega,by omega,h4,ho,(taken_iff h1.1 ho).1 h6⟩
       ·simp[h2,h3,pB_true h4,h5,pB_false h6]at h
     ·simp[h2,h3,pB_false h4]at h
  ·rw[if_neg h1]at h;cases h
 ·rintro⟨h1,h2,h3,h4,h5,h6,h7⟩
  rw[if_pos ⟨h1,h2⟩,if_neg (by rw[h3];simp),if_neg (by omega),if_neg (by rw[pB_true h5];simp),if_neg (by rw[(once_iff h1).2 h6];simp),if_neg (by rw[pB_true ((taken_iff h1 h6).2 h7)];simp)]
def phisAt (bs:List BlkR) (k:Int):List PhiR:=match bs[k.toNat]? with
 | some b=>b.phis
 | none=>[]

def hot (bs:List BlkR) (k:Int):Bool:=decide (1<(predsF bs k).length) || decide (0<(phisAt bs k).length)

def critIn (bs:List BlkR) (i:Nat) (n:Nat):List ArmR:=(((succsAt bs i).take n).filter (hot bs)).map fun k=>⟨(i:Int),k⟩

def critAt (bs:List BlkR) (i:Nat):List ArmR:=if 1<(succsAt bs i).length then critIn bs i (succsAt bs i).length else []

def critTo (bs:List BlkR) (n:Nat):List ArmR:=(List.range n).flatMap (critAt bs)

theorem critTo_succ (bs:List BlkR) (n:Nat):critTo bs (n+1)=critTo bs n++critAt bs n:=by simp[critTo,List.range_succ]

theorem critIn_succ {bs:List BlkR} {i n:Nat} (hn:n<(succsAt bs i).length):critIn bs i (n+1)=critIn bs i n++(if hot bs (succsAt bs i)[n]=true then [⟨(i:Int),(succsAt bs i)[n]⟩] else []):=by
 unfold critIn
 rw[List.take_succ_eq_append_getElem hn,List.filter_append,List.map_append]
 congr 1
 cases h:hot bs (succsAt bs i)[n]<;>simp[h]

theorem succsAt_two (bs:List BlkR) (i:Nat):(succsAt bs i).length≤2:=by
 unfold succsAt
 split
 ·exact succsF_le _
 ·simp

theorem critIn_le (bs:List BlkR) (i n:Nat):(critIn bs i n).length≤2:=by
 unfold critIn
 rw[List.length_map]
 refine Nat.le_trans (List.length_filter_le _ _) ?_
 rw[List.length_take]
 have:=succsAt_two bs i
 omega

theorem critAt_le (bs:List BlkR) (i:Nat):(critAt bs i).length≤2:=by
 unfold critAt
 split
 ·exact critIn_le _ _ _
 ·simp

theorem critTo_le (bs:List BlkR) (n:Nat):(critTo bs n).length≤2 * n:=by
 induction n with
 | zero=>simp[critTo]
 | succ n ih =>
  rw[critTo_succ,List.length_append]
  have:=critAt_le bs n
  omega

structure CInv (H:Hp) (v:CV) (m:Int) (out:List ArmR) (w:CV) (Y:Hp):Prop where
 pre:Pre (H++[⟨[v,.i m],0,true,2⟩]) Y
 out:∃ g,w=.sl (H.length+1) g 0 out.length∧rdOb Y (H.length+1) g=some ⟨edC out,g,true,2⟩

theorem CInv.app {H Y:Hp} {v:CV} {m:Int} {out:List ArmR} {w:CV} (h:CInv H v m out w Y) (L:Hp):CInv H v m out w (Y++L):=by
 obtain⟨h1,g,h2,h3⟩:=h
 exact⟨h1.app L,g,h2,rdOb_app L h3⟩

theorem CInv.push {H Y:Hp} {v:CV} {m:Int} {out:List ArmR} {w:CV} (h:CInv H v m out w Y) (a:ArmR) (hl:out.length<4 * BIG) :
  ∃ w' Z,doApp Y 2 w 1 [.i a.fr,.i a.v]=some (.c w',Z)∧CInv H v m (out++[a]) w' Z∧∀ id g ob,id≠H.length+1→rdOb Y id g=some ob→rdOb Z id g=some ob:=by
 obtain⟨h1,g,rfl,h3⟩:=h
 have hlt:=rdOb_lt h3
 refine⟨_,_,app_own h3 (by simp) (by simp) (by simp;simp only[BIG]at hl;simp only[LIM];omega),⟨h1.set (by simp) _,g+1,by simp,?_⟩,fun id g' ob hne ho=>by rw[rdOb_set_ne hne];exact ho⟩
 rw[rdOb_set_self hlt,edC_snoc];simp[armC]

theorem CInv.box {H Y:Hp} {v:CV} {m:Int} {out:List ArmR} {w:CV} (h:CInv H v m out w Y):rdOb Y H.length 0=some ⟨[v,.i m],0,true,2⟩:=box_get h.pre

def crit0 (f:FnR):List ArmR:=if shapeB f=true then critTo f.blocks f.blocks.length else []

theorem crit0_le {f:FnR} (hb:f.blocks.length≤BIG):(crit0 f).length≤2 * BIG:=by
 unfold crit0
 split
 ·have:=critTo_le f.blocks f.blocks.length
  omega
 ·simp

theorem specCrit {H:Hp} {v:CV} {bs:List BlkR} {m:Int} (hv:Blocks H v bs) (hin:InRange bs) (hb:bs.length≤BIG) (k:IV×Hp→Prop) :
  CM 64 [.agg [v,.i m]] H k=k (.c (.sl H.length 0 0 (critTo bs bs.length).length),H++[⟨edC (critTo bs bs.length),0,true,2⟩]):=by
 refine det (cw64 ?_) k
 unfold vf64c
 simp
 obtain⟨I,hI⟩:∃ I:Nat→St→Prop,∀ i st,I i st↔(∃ w,CInv H v m (critTo bs i) w st.h∧Env.get st.e 1=.c (.p H.length 0 0)∧Env.get st.e 3=.c w∧Env.get st.e 4=.c (.i i)):=⟨_,fun _ _=>Iff.rfl⟩
 refine wp_for CM_mono bs.length I ((hI _ _).2 ⟨_,⟨⟨[⟨[],0,true,2⟩],by simp⟩,0,rfl,by simp[critTo]⟩,by simp[critTo]⟩) ?_ ?_
 ·rintro i ⟨e,X⟩ hi hIs
  obtain⟨w,hC,h1,h3,h4⟩:=(hI _ _).1 hIs
  simp only at hC h1 h3 h4 ⊢
  have hvX:Blocks X v bs:=hv.pre (Pre.trans ⟨_,rfl⟩ hC.pre)
  obtain⟨ws,Ls,hws,hsc⟩:=specSuccs (m:=m) hvX hi
  rw[← succsAt_eq hi]at hws
  have hbox:=hC.box
  have hXl:H.length+1<X.length:=by obtain⟨g,_,h⟩:=hC.out;exact rdOb_lt h
  have hls:=hws.len
  have h2:=succsAt_two bs i
  have hto:=critTo_le bs i
  unfold vf64b1
  simp[h1,h3,h4,hi,rdN_ob hbox,rdC_ob hbox,hvX.lenOf,hsc]
  by_cases hgt:1<(succsAt bs i).length
  ·have hgtI:(1:Int)<((succsAt bs i).length:Int):=by omega
   obtain⟨J,hJ⟩:∃ J:Nat→St→Prop,∀ j st,J j st↔(∃ w',CInv H v m (critTo bs i++critIn bs i j) w' st.h∧(∀ id g ob,id≠H.length+1→rdOb (X++Ls) id g=some ob→rdOb st.h id g=some ob)∧Env.get st.e 1=.c (.p H.length 0 0)∧Env.get st.e 3=.c w'∧Env.get st.e 4=.c (.i i)∧Env.get st.e 5=.c ws∧Env.get st.e 6=.c (.i j)):=⟨_,fun _ _=>Iff.rfl⟩
   refine wp_for CM_mono (succsAt bs i).length J ((hJ _ _).2 ⟨w,by simpa [critIn] using hC.app Ls,fun _ _ _ _ h=>h,by simp[h1,h3,h4]⟩) ?_ ?_
   ·rintro j ⟨e',Y⟩ hj hJs
    obtain⟨w',hD,hk,h1,h3,h4,h5,h6⟩:=(hJ _ _).1 hJs
    simp only at hD hk h1 h3 h4 h5 h6 ⊢
    have hsv:IsI Y ws (succsAt bs i):=hws.isI' fun g ob h=>hk _ g ob (by omega) h
    obtain⟨id,g,off,q1,q2⟩:=hsv.at_ hj
    obtain⟨n,hn,hnl⟩:∃ n:Nat,(succsAt bs i)[j]=n∧n<bs.length:=by
     obtain⟨a,b⟩:=hin i _ (List.getElem_mem hj)
     exact⟨(succsAt bs i)[j].toNat,by omega,by omega⟩
    have hvY:Blocks Y v bs:=hv.pre (Pre.trans ⟨_,rfl⟩ hD.pre)
    obtain⟨wp,Lp,hwp,hpc⟩:=specPreds (m:=m) (b:=(n:Int)) hvY hb
    have hboxY:=hD.box
    have hboxP:=(hD.app Lp).box
    have hvP:=hvY.app Lp
    obtain⟨id',g',off',z,u,r1,⟨r2,_⟩,_,hz,_⟩:=Blocks.get hvP hnl
    have hph:phisAt bs (n:Int)=bs[n].phis:=by simp[phisAt,hnl]
    have hin2:=critIn_le bs i j
    have hsucc:=critIn_succ hj
    rw[hn]at hsucc
    have hlw:=hwp.len
    have hj2:j+1≤2:=by omega
    have hsvP:IsI (Y++Lp) ws (succsAt bs i):=hsv.app Lp
    obtain⟨id2,g2,off2,q3,q4⟩:=hsvP.at_ hj
    have e12:id2=id∧g2=g∧off2=off:=by
     have e:=q3.symm.trans q1
     injection e with e;injection e with e1 e2 e3
     exact⟨e1,e2,e3⟩
    obtain⟨rfl,rfl,rfl⟩:=e12
    unfold vf64b0
    have hnext:∀ Z,(∀ id g ob,id≠H.length+1→rdOb (Y++Lp) id g=some ob→rdOb Z id g=some ob)→∀ id g ob,id≠H.length+1→rdOb (X++Ls) id g=some ob→rdOb Z id g=some ob:=fun Z hz id g ob a b=>hz id g ob a (rdOb_app _ (hk id g ob a b))
    cases hh:hot bs (n:Int) with
    | false =>
     have hh':=hh
     unfold hot at hh
     rw[Bool.or_eq_false_iff,hph]at hh
     obtain⟨f1,f2⟩:=hh
     have f1:=of_decide_eq_false f1
     have f2:=of_decide_eq_false f2
     rw[hh']at hsucc
     have f1I:¬ (1:Int)<((predsF bs (n:Int)).length:Int):=by omega
     have f2I:¬ (0:Int)<(bs[n].phis.length:Int):=by omega
     have f2J:bs[n].phis=[]:=List.length_eq_zero_iff.1 (by omega)
     simp[h1,h3,h4,h5,h6,hj,hls,hgtI,q1,q2,q4,hn,rdN_ob hboxY,hpc,hlw,f1I,rdC_ob hboxP,r1,r2,hz.lenOf,f2J,up1 hj (show (succsAt bs i).length≤BIG by simp only[BIG];omega)]
     exact (hJ _ _).2 ⟨w',by rw[hsucc];simpa using hD.app Lp,hnext _ fun _ _ _ _ h=>h,by simp[h1,h3,h4,h5]⟩
    | true =>
     rw[hh]at hsucc
     have hlen:(critTo bs i++critIn bs i j).length<4 * BIG:=by rw[List.length_append];omega
     obtain⟨w2,Z,p1,p2,p3⟩:=((hD.app Lp).app [⟨[.i (i:Int),.i (n:Int)],0,true,2⟩]).push ⟨(i:Int),(n:Int)⟩ hlen
     rw[List.append_assoc]at p1
     have hfin:∀ id g ob,id≠H.length+1→rdOb (X++Ls) id g=some ob→rdOb Z id g=some ob:=hnext Z fun id g ob a b=>p3 id g ob a (rdOb_app _ b)
     unfold hot at hh
     rw[hph]at hh
     by_cases f1:1<(predsF bs (n:Int)).length
     ·have f1I:(1:Int)<((predsF bs (n:Int)).length:Int):=by omega
      simp[h1,h3,h4,h5,h6,hj,hls,hgtI,q1,q2,q4,hn,rdN_ob hboxY,hpc,hlw,f1I,rdC_ob hboxP,r1,r2,hz.lenOf,up1 hj (show (succsAt bs i).length≤BIG by simp only[BIG];omega),srcOf,putAt,p1]
      exact (hJ _ _).2 ⟨w2,by rw[hsucc,← List.append_assoc];exact p2,hfin,by simp⟩
     ·rw[decide_eq_false f1,Bool.false_or]at hh
      have f2:=of_decide_eq_true hh
      have f1I:¬ (1:Int)<((predsF bs (n:Int)).length:Int):=by omega
      have f2I:(0:Int)<(bs[n].phis.length:Int):=by omega
      simp[h1,h3,h4,h5,h6,hj,hls,hgtI,q1,q2,q4,hn,rdN_ob hboxY,hpc,hlw,f1I,rdC_ob hboxP,r1,r2,hz.lenOf,f2I,f2,up1 hj (show (succsAt bs i).length≤BIG by simp only[BIG];omega),srcOf,putAt,p1]
      exact (hJ _ _).2 ⟨w2,by rw[hsucc,← List.append_assoc];exact p2,hfin,by simp⟩
   ·rintro⟨e',Y⟩ hJs
    obtain⟨w',hD,hk,h1,h3,h4,h5,h6⟩:=(hJ _ _).1 hJs
    simp only at hD hk h1 h3 h4 h5 h6 ⊢
    unfold vf64b0
    simp[h1,h3,h4,h5,h6,hls,up1 hi hb]
    exact (hI _ _).2 ⟨w',by rw[critTo_succ,critAt,if_pos hgt];exact hD,by simp[h1,h3]⟩
  ·have hgtI:¬ (1:Int)<((succsAt bs i).length:Int):=by omega
   refine wp_for CM_mono 0 (fun j st=>st.h=X++Ls∧Env.get st.e 1=.c (.p H.length 0 0)∧Env.get st.e 3=.c w∧Env.get st.e 4=.c (.i i)∧Env.get st.e 5=.c ws∧Env.get st.e 6=.c (.i j)) (by simp[h1,h3,h4]) (fun i s h=>absurd h (by omega)) ?_
   rintro⟨e',Y⟩ ⟨rfl,h1,h3,h4,h5,h6⟩
   simp only at h1 h3 h4 h5 h6 ⊢
   unfold vf64b0
   have hres:I (i+1) ⟨e',X++Ls⟩→True:=fun _=>trivial
   have hfin:CInv H v m (critTo bs (i+1)) w (X++Ls):=by rw[critTo_succ,critAt,if_neg hgt,List.append_nil];exact hC.app Ls
   by_cases h0:(succsAt bs i).length=0
   ·simp[h1,h3,h4,h5,h6,hls,hgtI,h0,up1 hi hb]
    exact (hI _ _).2 ⟨w,hfin,by simp[h1,h3]⟩
   ·have h0I:(0:Int)<((succsAt bs i).length:Int):=by omega
    have h0J:0<(succsAt bs i).length:=by omega
    simp[h1,h3,h4,h5,h6,hls,hgtI,h0I,h0J,up1 hi hb]
    exact (hI _ _).2 ⟨w,hfin,by simp[h1,h3]⟩
 ·rintro⟨e,X⟩ hIs
  obtain⟨w,hC,h1,h3,h4⟩:=(hI _ _).1 hIs
  simp only at hC h1 h3 h4 ⊢
  have hvX:Blocks X v bs:=hv.pre (Pre.trans ⟨_,rfl⟩ hC.pre)
  have hbox:=hC.box
  obtain⟨hp,g,rfl,ho⟩:=hC
  unfold vf64b1
  simp[h1,h3,h4,rdC_ob hbox,hvX.lenOf]
  rw[gcRet_row (Pre.trans ⟨_,rfl⟩ hp) (by omega) ho rfl (edC_flat _)]

theorem implCrit {H:Hp} {v:CV} {bs:List BlkR} {m:Int} (hv:Blocks H v bs) (hin:InRange bs) (hb:bs.length≤BIG) (hsh:shapeB ⟨bs,m⟩=true) (k:IV×Hp→Prop) :
  CM 23 [.agg [v,.i m]] H k=k (.c (.sl H.length 0 0 (critTo bs bs.length).length),H++[⟨edC (critTo bs bs.length),0,true,2⟩]):=by
 refine det (cw23 ?_) k
 unfold vf23c
 simp[implShape (f:=⟨bs,m⟩) (hv.app _) hb,hsh,hv.lenOf,(hv.app _).lenOf]
 obtain⟨I,hI⟩:∃ I:Nat→St→Prop,∀ i st,I i st↔(∃ w,CInv H v m (critTo bs i) w st.h∧Env.get st.e 1=.c (.p H.length 0 0)∧Env.get st.e 3=.c w∧Env.get st.e 14=.c (.i bs.length)∧Env.get st.e 15=.c (.i i)):=⟨_,fun _ _=>Iff.rfl⟩
 refine wp_for CM_mono bs.length I ((hI _ _).2 ⟨_,⟨⟨[⟨[],0,true,2⟩],by simp⟩,0,rfl,by simp[critTo]⟩,by simp[critTo]⟩) ?_ ?_
 ·rintro i ⟨e,X⟩ hi hIs
  obtain⟨w,hC,h1,h3,h14,h15⟩:=(hI _ _).1 hIs
  simp only at hC h1 h3 h14 h15 ⊢
  have hvX:Blocks X v bs:=hv.pre (Pre.trans ⟨_,rfl⟩ hC.pre)
  obtain⟨ws,Ls,hws,hsc⟩:=implSuccs (m:=m) hvX hi
  rw[← succsAt_eq hi]at hws
  have hbox:=hC.box
  have hXl:H.length+1<X.length:=by obtain⟨g,_,h⟩:=hC.out;exact rdOb_lt h
  have hls:=hws.len
  have h2:=succsAt_two bs i
  have hto:=critTo_le bs i
  unfold vf23b1
  by_cases hgt:1<(succsAt bs i).length
  ·have hgtI:((succsAt bs i).length:Int)=2:=by omega
   have hgtN:(succsAt bs i).length=2:=by omega
   simp[h1,h3,h14,h15,hi,rdN_ob hbox,rdC_ob hbox,hsc,hls,hgtI,hgtN]
   obtain⟨J,hJ⟩:∃ J:Nat→St→Prop,∀ j st,J j st↔(∃ w',CInv H v m (critTo bs i++critIn bs i j) w' st.h∧(∀ id g ob,id≠H.length+1→rdOb (X++Ls) id g=some ob→rdOb st.h id g=some ob)∧Env.get st.e 1=.c (.p H.length 0 0)∧Env.get st.e 3=.c w'∧Env.get st.e 4=.c (.i i)∧Env.get st.e 14=.c (.i bs.length)∧Env.get st.e 15=.c (.i i)∧Env.get st.e 24=.c ws∧Env.get st.e 25=.c (.i 2)∧Env.get st.e 26=.c (.i j)):=⟨_,fun _ _=>Iff.rfl⟩
   refine wp_for CM_mono (succsAt bs i).length J ((hJ _ _).2 ⟨w,by simpa [critIn] using hC.app Ls,fun _ _ _ _ h=>h,by simp[h1,h3,h14,h15]⟩) ?_ ?_
   ·rintro j ⟨e',Y⟩ hj hJs
    obtain⟨w',hD,hk,h1,h3,h4,h14,h15,h24,h25,h26⟩:=(hJ _ _).1 hJs
    simp only at hD hk h1 h3 h4 h14 h15 h24 h25 h26 ⊢
    have hsv:IsI Y ws (succsAt bs i):=hws.isI' fun g ob h=>hk _ g ob (by omega) h
    obtain⟨id,g,off,q1,q2⟩:=hsv.at_ hj
    obtain⟨n,hn,hnl⟩:∃ n:Nat,(succsAt bs i)[j]=n∧n<bs.length:=by
     obtain⟨a,b⟩:=hin i _ (List.getElem_mem hj)
     exact⟨(succsAt bs i)[j].toNat,by omega,by omega⟩
    have hvY:Blocks Y v bs:=hv.pre (Pre.trans ⟨_,rfl⟩ hD.pre)
    obtain⟨wp,Lp,hwp,hpc⟩:=implPreds (m:=m) (b:=(n:Int)) hvY hb
    have hboxY:=hD.box
    have hboxP:=(hD.app Lp).box
    have hvP:=hvY.app Lp
    obtain⟨id',g',off',z,u,r1,⟨r2,_⟩,_,hz,_⟩:=Blocks.get hvP hnl
    have hph:phisAt bs (n:Int)=bs[n].phis:=by simp[phisAt,hnl]
    have hin2:=critIn_le bs i j
    have hsucc:=critIn_succ hj
    rw[hn]at hsucc
    have hlw:=hwp.len
    have hj2:j+1≤2:=by omega
    have hsvP:IsI (Y++Lp) ws (succsAt bs i):=hsv.app Lp
    obtain⟨id2,g2,off2,q3,q4⟩:=hsvP.at_ hj
    have e12:id2=id∧g2=g∧off2=off:=by
     have e:=q3.symm.trans q1
     injection e with e;injection e with e1 e2 e3
     exact⟨e1,e2,e3⟩
    obtain⟨rfl,rfl,rfl⟩:=e12
    unfold vf23b0
    have hnext:∀ Z,(∀ id g ob,id≠H.length+1→rdOb (Y++Lp) id g=some ob→rdOb Z id g=some ob)→∀ id g ob,id≠H.length+1→rdOb (X++Ls) id g=some ob→rdOb Z id g=some ob:=fun Z hz id g ob a b=>hz id g ob a (rdOb_app _ (hk id g ob a b))
    cases hh:hot bs (n:Int) with
    | false =>
     have hh':=hh
     unfold hot at hh
     rw[Bool.or_eq_false_iff,hph]at hh
     obtain⟨f1,f2⟩:=hh
     have f1:=of_decide_eq_false f1
     have f2:=of_decide_eq_false f2
     rw[hh']at hsucc
     have f1I:¬ (1:Int)<((predsF bs (n:Int)).length:Int):=by omega
     have f2I:¬ (0:Int)<(bs[n].phis.length:Int):=by omega
     have f2J:bs[n].phis=[]:=List.length_eq_zero_iff.1 (by omega)
     simp[h1,h3,h4,h14,h15,h24,h25,h26,show (j:Int)<2 by omega,q1,q2,q4,hn,rdN_ob hboxY,hpc,hlw,f1I,rdC_ob hboxP,r1,r2,hz.lenOf,f2J,up1 hj (show (succsAt bs i).length≤BIG by simp only[BIG];omega)]
     exact (hJ _ _).2 ⟨w',by rw[hsucc];simpa using hD.app Lp,hnext _ fun _ _ _ _ h=>h,by simp[h1,h3,h4,h14,h15,h24,h25]⟩
    | true =>
     rw[hh]at hsucc
     have hlen:(critTo bs i++critIn bs i j).length<4 * BIG:=by rw[List.length_append];omega
     obtain⟨w2,Z,p1,p2,p3⟩:=((hD.app Lp).app [⟨[.i (i:Int),.i (n:Int)],0,true,2⟩]).push ⟨(i:Int),(n:Int)⟩ hlen
     rw[List.append_assoc]at p1
     have hfin:∀ id g ob,id≠H.length+1→rdOb (X++Ls) id g=some ob→rdOb Z id g=some ob:=hnext Z fun id g ob a b=>p3 id g ob a (rdOb_app _ b)
     unfold hot at hh
     rw[hph]at hh
     by_cases f1:1<(predsF bs (n:Int)).length
     ·have f1I:(1:Int)<((predsF bs (n:Int)).length:Int):=by omega
      simp[h1,h3,h4,h14,h15,h24,h25,h26,show (j:Int)<2 by omega,q1,q2,q4,hn,rdN_ob hboxY,hpc,hlw,f1I,rdC_ob hboxP,r1,r2,hz.lenOf,up1 hj (show (succsAt bs i).length≤BIG by simp only[BIG];omega),srcOf,putAt,p1]
      exact (hJ _ _).2 ⟨w2,by rw[hsucc,← List.append_assoc];exact p2,hfin,by simp⟩
     ·rw[decide_eq_false f1,Bool.false_or]at hh
      have f2:=of_decide_eq_true hh
      have f1I:¬ (1:Int)<((predsF bs (n:Int)).length:Int):=by omega
      have f2I:(0:Int)<(bs[n].phis.length:Int):=by omega
      simp[h1,h3,h4,h14,h15,h24,h25,h26,show (j:Int)<2 by omega,q1,q2,q4,hn,rdN_ob hboxY,hpc,hlw,f1I,rdC_ob hboxP,r1,r2,hz.lenOf,f2I,f2,up1 hj (show (succsAt bs i).length≤BIG by simp only[BIG];omega),srcOf,putAt,p1]
      exact (hJ _ _).2 ⟨w2,by rw[hsucc,← List.append_assoc];exact p2,hfin,by simp⟩
   ·rintro⟨e',Y⟩ hJs
    obtain⟨w',hD,hk,h1,h3,h4,h14,h15,h24,h25,h26⟩:=(hJ _ _).1 hJs
    simp only at hD hk h1 h3 h4 h14 h15 h24 h25 h26 ⊢
    unfold vf23b0
    simp[h1,h3,h4,h14,h15,h24,h25,h26,hgtN,up1 hi hb]
    exact (hI _ _).2 ⟨w',by rw[critTo_succ,critAt,if_pos hgt];exact hD,by simp[h1,h3,h14,h15]⟩
  ·have hgtI:¬ ((succsAt bs i).length:Int)=2:=by omega
   have hgtN:¬ (succsAt bs i).length=2:=by omega
   have hfin:CInv H v m (critTo bs (i+1)) w (X++Ls):=by rw[critTo_succ,critAt,if_neg hgt,List.append_nil];exact hC.app Ls
   simp[h1,h3,h14,h15,hi,rdN_ob hbox,rdC_ob hbox,hsc,hls,hgtI,hgtN,up1 hi hb]
   exact (hI _ _).2 ⟨w,hfin,by simp[h1,h3,h14,h15]⟩
 ·rintro⟨e,X⟩ hIs
  obtain⟨w,hC,h1,h3,h14,h15⟩:=(hI _ _).1 hIs
  simp only at hC h1 h3 h14 h15 ⊢
  have hvX:Blocks X v bs:=hv.pre (Pre.trans ⟨_,rfl⟩ hC.pre)
  have hbox:=hC.box
  obtain⟨hp,g,rfl,ho⟩:=hC
  unfold vf23b1
  simp[h1,h3,h14,h15,rdC_ob hbox,hvX.lenOf]
  rw[gcRet_row (Pre.trans ⟨_,rfl⟩ hp) (by omega) ho rfl (edC_flat _)]

theorem implCrit0 {H:Hp} {v:CV} {f:FnR} (hv:Blocks H v f.blocks) (hb:f.blocks.length≤BIG) :
  ∃ w L,RowE H w L (crit0 f)∧∀ k:IV×Hp→Prop,CM 23 [.agg [v,.i f.values]] H k=k (.c w,H++L):=by
 cases hsh:shapeB f with
 | false =>
  refine⟨.ns,[],.inl ⟨rfl,rfl,by simp[crit0,hsh]⟩,fun k=>det (cw23 ?_) k⟩
  unfold vf23c
  simp[implShape (hv.app _) hb,hsh]
 | true =>
  exact⟨_,_,.inr ⟨by simp[crit0,hsh],by simp[crit0,hsh]⟩,fun k=>implCrit (m:=f.values) hv (shape_range hsh) hb hsh k⟩

theorem crit0_small {f:FnR}:(crit0 f).length≤BIG:=by
 unfold crit0
 split
 ·rename_i h
  have:=critTo_le f.blocks f.blocks.length
  unfold shapeB inB at h
  simp only[Bool.and_eq_true,decide_eq_true_eq]at h
  simp only[BIG];omega
 ·simp
theorem crit0_in {f:FnR} {a:ArmR} (h:a∈crit0 f):shapeB f=true∧∃ i k:Nat,a=⟨i,k⟩∧i<f.blocks.length∧k<f.blocks.length∧(k:Int)∈succsAt f.blocks i∧(succsAt f.blocks i).length=2∧hot f.blocks k=true:=by
 cases hsh:shapeB f with
 | false=>unfold crit0 at h;rw[hsh]at h;simp at h
 | true =>
  unfold crit0 at h
  rw[if_pos hsh]at h
  unfold critTo at h
  rw[List.mem_flatMap]at h
  obtain⟨i,hi,h⟩:=h
  rw[List.mem_range]at hi
  unfold critAt at h
  by_cases h2:1<(succsAt f.blocks i).length
  ·rw[if_pos h2]at h
   unfold critIn at h
   rw[List.take_length,List.mem_map]at h
   obtain⟨k,hk,rfl⟩:=h
   rw[List.mem_filter]at hk
   have hr:=shape_range hsh i k hk.1
   have h3:=succsAt_two f.blocks i
   refine⟨rfl,i,k.toNat,by rw[Int.toNat_of_nonneg hr.1],hi,by omega,by rw[Int.toNat_of_nonneg hr.1];exact hk.1,by omega,by rw[Int.toNat_of_nonneg hr.1];exact hk.2⟩
  ·rw[if_neg h2]at h;cases h

def turnA (fr at_:Int) (a:ArmR):ArmR:=if a.fr=fr then ⟨at_,a.v⟩ else a

def turnP (fr at_:Int) (p:PhiR):PhiR:=⟨p.d,p.arms.map (turnA fr at_)⟩

def turnT (k at_:Int) (t:TrmR):TrmR:=⟨t.kind,t.a,if t.to=k then at_ else t.to,if t.els=k then at_ else t.els⟩

def splitN (bs:List BlkR) (k:Int):List BlkR:=bs++[⟨[],[],⟨1,0,k,0⟩⟩]

def setT (bs:List BlkR) (u:Nat) (t:TrmR):List BlkR:=bs.set u ⟨(bs.getD u blk0).phis,(bs.getD u blk0).list,t⟩

def setP (bs:List BlkR) (k:Nat) (ps:List PhiR):List BlkR:=bs.set k ⟨ps,(bs.getD k blk0).list,(bs.getD k blk0).term⟩

def splitE (bs:List BlkR) (e:ArmR):List BlkR:=
 setP (setT (splitN bs e.v) e.fr.toNat (turnT e.v bs.length ((splitN bs e.v).getD e.fr.toNat blk0).term)) e.v.toNat
  (((setT (splitN bs e.v) e.fr.toNat (turnT e.v bs.length ((splitN bs e.v).getD e.fr.toNat blk0).term)).getD e.v.toNat blk0).phis.map (turnP e.fr bs.length))

noncomputable def split0 (f:FnR):FnR:=if checkF f=0∧f.blocks.length+(crit0 f).length≤16 then ⟨(crit0 f).foldl splitE f.blocks,f.values⟩ else f

noncomputable def splitOk (f:FnR):Bool:=pB (checkF f=0∧f.blocks.length+(crit0 f).length≤16)

theorem setT_len (bs:List BlkR) (u:Nat) (t:TrmR):(setT bs u t).length=bs.length:=by simp[setT]

theorem setP_len (bs:List BlkR) (u:Nat) (t:List PhiR):(setP bs u t).length=bs.length:=by simp[setP]

theorem splitN_len (bs:List BlkR) (k:Int):(splitN bs k).length=bs.length+1:=by simp[splitN]

theorem splitE_len (bs:List BlkR) (e:ArmR):(splitE bs e).length=bs.length+1:=by unfold splitE;rw[setP_len,setT_len,splitN_len]

theorem splits_len:∀ (es:List ArmR) (bs:List BlkR),(es.foldl splitE bs).length=bs.length+es.length:=by
 intro es
 induction es with
 | nil=>intro bs;rfl
 | cons e r ih=>intro bs;rw[List.foldl_cons,ih,splitE_len];simp;omega

theorem split0_le {f:FnR} (hb:f.blocks.length≤BIG):(split0 f).blocks.length≤BIG:=by
 unfold split0
 split
 ·rename_i h
  simp only
  rw[splits_len];simp only[BIG];omega
 ·exact hb
structure Kn where
 k:List Bool
 n:List Int

theorem getD_mem {bs:List BlkR} {b:Nat} (h:b<bs.length):bs.getD b blk0∈bs:=by rw[blk_at h];exact List.getElem_mem h
theorem insGo_code (s:RunS) (x:InsR):(insGo s x).1=0∨(insGo s x).1=2:=by
 unfold insGo
 (repeat' split)<;>simp

theorem insGo_pre (s:RunS) (x:InsR):s.told <+: (insGo s x).2.told:=by
 unfold insGo
 (repeat' split)<;>simp[RunS.put]

theorem listGo_pre:∀ (xs:List InsR) (φ:Nat) (s:RunS),s.told <+: (listGo xs φ s).2.2.told:=by
 intro xs
 induction xs with
 | nil=>intro φ s;exact List.prefix_refl _
 | cons x r ih =>
  intro φ s
  cases φ with
  | zero=>exact List.prefix_refl _
  | succ φ =>
   simp only[listGo]
   split
   ·exact (insGo_pre s x).trans (ih φ _)
   ·exact insGo_pre s x

theorem runGo_pre (bs:List BlkR):∀ (n φ b:Nat) (fr:Int) (s:RunS),s.told <+: (runGo bs n φ b fr s).2.2.told:=by
 intro n
 induction n with
 | zero=>intro φ b fr s;exact List.prefix_refl _
 | succ n ih =>
  intro φ b fr s
  simp only[runGo]
  have h:s.told <+: (listGo (bs.getD b blk0).list φ (comeGo b fr (bs.getD b blk0).phis s)).2.2.told:=listGo_pre _ φ (comeGo b fr (bs.getD b blk0).phis s)
  generalize listGo (bs.getD b blk0).list φ (comeGo b fr (bs.getD b blk0).phis s)=r at *
  split
  ·split
   ·exact h
   ·split
    ·exact h
    ·exact h.trans (ih _ _ _ _)
  ·exact h


theorem listGo_more (d:Nat):∀ (xs:List InsR) (φ:Nat) (s:RunS),((listGo xs φ s).1≠1→listGo xs (φ+d) s=((listGo xs φ s).1,(listGo xs φ s).2.1+d,(listGo xs φ s).2.2)) ∧
  ((listGo xs φ s).1=1→(listGo xs φ s).2.2.told <+: (listGo xs (φ+d) s).2.2.told):=by
 intro xs
 induction xs with
 | nil=>intro φ s;exact⟨fun _=>rfl,fun h=>by simp[listGo]at h⟩
 | cons x r ih =>
  intro φ s
  cases φ with
  | zero=>exact⟨fun h=>absurd rfl h,fun _=>listGo_pre (x :: r) _ s⟩
  | succ φ =>
   rw[show φ+1+d=(φ+d)+1 by omega]
   simp only[listGo]
   by_cases h0:(insGo s x).1=0
   ·simp only[if_pos h0];exact ih φ _
   ·simp only[if_neg h0]
    refine⟨fun _=>trivial,fun h=>?_⟩
    rcases insGo_code s x with h1 | h1<;>omega

theorem runGo_fuel (bs:List BlkR) (d:Nat):∀ (n m φ b:Nat) (fr:Int) (s:RunS),φ<n→φ+d<m→((runGo bs n φ b fr s).1≠1→runGo bs m (φ+d) b fr s=runGo bs n φ b fr s) ∧
  ((runGo bs n φ b fr s).1=1→(runGo bs n φ b fr s).2.2.told <+: (runGo bs m (φ+d) b fr s).2.2.told):=by
 intro n
 induction n with
 | zero=>intro m φ b fr s h;omega
 | succ n ih =>
  intro m φ b fr s h1 h2
  cases m with
  | zero=>omega
  | succ m =>
   simp only[runGo]
   obtain⟨a,b'⟩:=listGo_more d (bs.getD b blk0).list φ (comeGo b fr (bs.getD b blk0).phis s)
   have hf:=listGo_fuel (bs.getD b blk0).list φ (comeGo b fr (bs.getD b blk0).phis s)
   generalize comeGo b fr (bs.getD b blk0).phis s=s1 at *
   have hb':(listGo (bs.getD b blk0).list φ s1).1=1→(listGo (bs.getD b blk0).list φ s1).2.2.told <+: (listGo (bs.getD b blk0).list (φ+d) s1).2.2.told:=b'
   generalize hr:listGo (bs.getD b blk0).list φ s1=r at *
   by_cases hc:r.1=1
   ·-- no fuel in the list
    have hn0:¬ r.1=0:=by omega
    simp only[if_neg hn0]
    refine⟨fun h=>absurd hc h,fun _=>?_⟩
    have hp:=hb' hc
    generalize listGo (bs.getD b blk0).list (φ+d) s1=r' at *
    split
    ·split
     ·exact hp
     ·split
      ·exact hp
      ·exact hp.trans (runGo_pre bs _ _ _ _ _)
    ·exact hp
   ·rw[a hc]
    simp only
    by_cases h0:r.1=0
    ·simp only[if_pos h0]
     by_cases hz:r.2.1=0
     ·simp only[if_pos hz]
      refine⟨fun h=>absurd rfl h,fun _=>?_⟩
      split
      ·exact List.prefix_refl _
      ·split
       ·exact List.prefix_refl _
       ·exact runGo_pre bs _ _ _ _ _
     ·have hz':¬ (r.2.1+d=0):=by omega
      simp only[if_neg hz,if_neg hz']
      by_cases hk:(bs.getD b blk0).term.kind=3
      ·simp only[if_pos hk]
       exact⟨fun _=>trivial,fun _=>List.prefix_refl _⟩
      ·simp only[if_neg hk]
       rw[show r.2.1+d - 1=(r.2.1 - 1)+d by omega]
       exact ih m (r.2.1 - 1) _ _ _ (by omega) (by omega)
    ·simp only[if_neg h0]
     exact⟨fun _=>trivial,fun _=>List.prefix_refl _⟩


def MoreR (s t:RunS):Prop:=t.vals=s.vals∧t.cells=s.cells∧t.told=s.told∧t.path=s.path∧∃ k,t.reads=s.reads++List.replicate k 0

theorem MoreR.get {s t:RunS} (h:MoreR s t) (v:Int):t.get v=s.get v:=by unfold RunS.get;rw[h.1]

theorem MoreR.put {s t:RunS} (h:MoreR s t) (d x:Int):MoreR (s.put d x) (t.put d x):=by
 obtain⟨a,b,c,e,k,hk⟩:=h
 exact⟨by simp[RunS.put,a],b,c,e,k,hk⟩


def Way (bs:List BlkR) (p:List Int):Prop:=(∀ x∈p,0≤x∧x<bs.length)∧∀ i (h:i+1<p.length),p[i+1]∈succsAt bs (p[i]'(by omega)).toNat

theorem Way.one {bs:List BlkR} {b:Nat} (hb:b<bs.length):Way bs [(b:Int)]:=⟨fun x hx=>by simp at hx;omega,fun i h=>by simp at h⟩

theorem Way.cons {bs:List BlkR} {b:Nat} {c:Int} {p:List Int} (hb:b<bs.length) (hc:c∈succsAt bs b) (h:Way bs (c :: p)):Way bs ((b:Int) :: c :: p):=by
 refine⟨fun x hx=>?_,fun i hi=>?_⟩
 ·rcases List.mem_cons.1 hx with rfl | hx
  ·omega
  ·exact h.1 x hx
 ·cases i with
  | zero=>simpa using hc
  | succ i=>exact h.2 i (by simpa using hi)

theorem nextGo_mem {bs:List BlkR} {m:Int} (hsh:shapeB ⟨bs,m⟩=true) {b:Nat} (hb:b<bs.length) {s:RunS} (hk:¬ (bs.getD b blk0).term.kind=3):nextGo (bs.getD b blk0).term s∈succsAt bs b∧∃ c:Nat,nextGo (bs.getD b blk0).term s=c∧c<bs.length:=by
 rw[blk_at hb]at hk ⊢
 have hin:=shape_range hsh
 have hmem:nextGo bs[b].term s∈succsAt bs b:=by
  rw[succsAt_eq hb]
  rcases term_kinds (shape_term hsh (List.getElem_mem hb)) with⟨h1,_⟩ | ⟨h1,_⟩ | ⟨h1,_⟩
  ·simp[nextGo,succsF,h1]
  ·unfold nextGo succsF
   by_cases e:bs[b].term.to=bs[b].term.els
   ·rw[if_pos (.inr ⟨h1,e⟩)]
    split<;>simp[e]
   ·rw[if_neg (by rintro (h | h);omega;exact e h.2),if_pos h1]
    split<;>simp
  ·exact absurd h1 hk
 refine⟨hmem,?_⟩
 have:=hin b _ hmem
 simp only at this
 exact⟨(nextGo bs[b].term s).toNat,by omega,by omega⟩
theorem spN_at (bs:List BlkR) (k:Int) {j:Nat} (hj:j<bs.length):(splitN bs k).getD j blk0=bs.getD j blk0:=by
 unfold splitN
 rw[List.getD_eq_getElem?_getD,List.getElem?_append_left hj,← List.getD_eq_getElem?_getD]

theorem spN_new (bs:List BlkR) (k:Int):(splitN bs k).getD bs.length blk0=⟨[],[],⟨1,0,k,0⟩⟩:=by
 unfold splitN
 rw[List.getD_eq_getElem?_getD,List.getElem?_append_right (Nat.le_refl _),Nat.sub_self];rfl

theorem spT_at (bs:List BlkR) {u:Nat} (hu:u<bs.length) (t:TrmR) (j:Nat):(setT bs u t).getD j blk0=if u=j then ⟨(bs.getD u blk0).phis,(bs.getD u blk0).list,t⟩ else bs.getD j blk0:=by
 unfold setT
 rw[List.getD_eq_getElem?_getD,List.getElem?_set]
 by_cases h:u=j
 ·rw[if_pos h,if_pos h,if_pos (by omega)];rfl
 ·rw[if_neg h,if_neg h,← List.getD_eq_getElem?_getD]

theorem spP_at (bs:List BlkR) {u:Nat} (hu:u<bs.length) (ps:List PhiR) (j:Nat):(setP bs u ps).getD j blk0=if u=j then ⟨ps,(bs.getD u blk0).list,(bs.getD u blk0).term⟩ else bs.getD j blk0:=by
 unfold setP
 rw[List.getD_eq_getElem?_getD,List.getElem?_set]
 by_cases h:u=j
 ·rw[if_pos h,if_pos h,if_pos (by omega)];rfl
 ·rw[if_neg h,if_neg h,← List.getD_eq_getElem?_getD]

structure Sp (m:Int) (bs gs:List BlkR) (u k:Nat):Prop where
 w:Well ⟨bs,m⟩
 len:gs.length=bs.length+1
 ul:u<bs.length
 kl:k<bs.length
 mem:(k:Int)∈succsAt bs u
 two:(succsAt bs u).length=2
 new:gs.getD bs.length blk0=⟨[],[],⟨1,0,k,0⟩⟩
 phis:∀ j,j<bs.length→(gs.getD j blk0).phis=if j=k then (bs.getD j blk0).phis.map (turnP u bs.length) else (bs.getD j blk0).phis
 list:∀ j,j<bs.length→(gs.getD j blk0).list=(bs.getD j blk0).list
 term:∀ j,j<bs.length→(gs.getD j blk0).term=if j=u then turnT k bs.length (bs.getD j blk0).term else (bs.getD j blk0).term

theorem sp_of {m:Int} {bs:List BlkR} {u k:Nat} (w:Well ⟨bs,m⟩) (hu:u<bs.length) (hk:k<bs.length) (hmem:(k:Int)∈succsAt bs u) (htwo:(succsAt bs u).length=2):Sp m bs (splitE bs ⟨u,k⟩) u k:=by
 have hat:∀ j,(splitE bs ⟨u,k⟩).getD j blk0=if k=j then ⟨(if u=k then (bs.getD u blk0).phis else (bs.getD k blk0).phis).map (turnP u bs.length),(bs.getD k blk0).list,if u=k then turnT k bs.length (bs.getD u blk0).term else (bs.getD k blk0).term⟩ else
   if u=j then ⟨(bs.getD u blk0).phis,(bs.getD u blk0).list,turnT k bs.length (bs.getD u blk0).term⟩ else (splitN bs k).getD j blk0:=by
  intro j
  unfold splitE
  simp only[Int.toNat_natCast]
  rw[spP_at _ (by rw[setT_len,splitN_len];omega),spT_at _ (by rw[splitN_len];omega),spT_at _ (by rw[splitN_len];omega),spN_at _ _ hu,spN_at _ _ hk]
  by_cases e1:k=j
  ·subst e1
   rw[if_pos rfl,if_pos rfl]
   by_cases e2:u=k
   ·subst e2;simp
   ·simp[e2]
  ·rw[if_neg e1,if_neg e1]
 refine⟨w,splitE_len _ _,hu,hk,hmem,htwo,?_,fun j hj=>?_,fun j hj=>?_,fun j hj=>?_⟩
 ·rw[hat,if_neg (by omega),if_neg (by omega),spN_new]
 ·rw[hat]
  by_cases e1:k=j
  ·subst e1
   by_cases e2:u=k
   ·subst e2;simp
   ·simp[e2]
  ·have e1':¬ j=k:=fun e=>e1 e.symm
   by_cases e2:u=j
   ·subst e2;simp[e1,e1']
   ·rw[if_neg e1,if_neg e2,spN_at _ _ hj];simp[e1']
 ·rw[hat]
  by_cases e1:k=j
  ·subst e1
   by_cases e2:u=k
   ·subst e2;simp
   ·simp[e2]
  ·by_cases e2:u=j
   ·subst e2;simp[e1]
   ·rw[if_neg e1,if_neg e2,spN_at _ _ hj]
 ·rw[hat]
  by_cases e1:k=j
  ·subst e1
   by_cases e2:u=k
   ·subst e2;simp
   ·have e2':¬ k=u:=fun e=>e2 e.symm
    simp[e2,e2']
  ·by_cases e2:u=j
   ·subst e2;simp[e1]
   ·have e2':¬ j=u:=fun e=>e2 e.symm
    rw[if_neg e1,if_neg e2,spN_at _ _ hj];simp[e2']

theorem succ_getD {bs:List BlkR} {j:Nat} (hj:j<bs.length):succsAt bs j=succsF (bs.getD j blk0).term:=by rw[succsAt_eq hj,blk_at hj]

theorem succs_none {bs:List BlkR} {j:Nat} (hj:bs.length≤j):succsAt bs j=[]:=by unfold succsAt;rw[List.getElem?_eq_none hj]

section

variable {m:Int} {bs gs:List BlkR} {u k:Nat}

theorem Sp.rng (h:Sp m bs gs u k):InRange bs:=shape_range (f:=⟨bs,m⟩) h.w.sh

theorem Sp.succ_new (h:Sp m bs gs u k):succsAt gs bs.length=[(k:Int)]:=by
 rw[succ_getD (by rw[h.len];omega),h.new];simp[succsF]

theorem Sp.succ_j (h:Sp m bs gs u k) {j:Nat} (hj:j<bs.length) (hne:j≠u):succsAt gs j=succsAt bs j:=by
 rw[succ_getD (by rw[h.len];omega),h.term j hj,if_neg hne,succ_getD hj]

theorem Sp.kind (h:Sp m bs gs u k):(bs.getD u blk0).term.kind=2∧(bs.getD u blk0).term.to≠(bs.getD u blk0).term.els∧succsAt bs u=[(bs.getD u blk0).term.to,(bs.getD u blk0).term.els]:=by
 have ht:=h.two
 rw[succ_getD h.ul]at ht ⊢
 unfold succsF at ht ⊢
 by_cases h1:(bs.getD u blk0).term.kind=1∨((bs.getD u blk0).term.kind=2∧(bs.getD u blk0).term.to=(bs.getD u blk0).term.els)
 ·rw[if_pos h1]at ht;simp at ht
 ·rw[if_neg h1]at ht ⊢
  by_cases h2:(bs.getD u blk0).term.kind=2
  ·rw[if_pos h2]
   exact⟨h2,fun e=>h1 (.inr ⟨h2,e⟩),rfl⟩
  ·rw[if_neg h2]at ht;simp at ht

theorem Sp.succ_u (h:Sp m bs gs u k):succsAt gs u=(succsAt bs u).map fun x=>if x=(k:Int) then (bs.length:Int) else x:=by
 obtain⟨h1,h2,h3⟩:=h.kind
 have hr:=h.rng u
 rw[h3]at hr
 have r1:=(hr (bs.getD u blk0).term.to (by simp)).2
 have r2:=(hr (bs.getD u blk0).term.els (by simp)).2
 rw[succ_getD (by rw[h.len];have:=h.ul;omega),h.term u h.ul,if_pos rfl,h3]
 unfold succsF turnT
 simp only
 rw[if_neg,if_pos h1]
 ·rfl
 ·rintro (e | ⟨_,e⟩)
  ·omega
  ·by_cases e1:(bs.getD u blk0).term.to=(k:Int)
   ·by_cases e2:(bs.getD u blk0).term.els=(k:Int)
    ·omega
    ·rw[if_pos e1,if_neg e2]at e;omega
   ·by_cases e2:(bs.getD u blk0).term.els=(k:Int)
    ·rw[if_neg e1,if_pos e2]at e;omega
    ·rw[if_neg e1,if_neg e2]at e;omega

theorem Sp.mem_u (h:Sp m bs gs u k) (q:Int):q∈succsAt gs u↔q=bs.length∨(q≠k∧q∈succsAt bs u):=by
 rw[h.succ_u,List.mem_map]
 constructor
 ·rintro⟨x,hx,rfl⟩
  by_cases e:x=(k:Int)
  ·rw[if_pos e];exact .inl rfl
  ·rw[if_neg e];exact .inr ⟨e,hx⟩
 ·rintro (rfl | ⟨h1,h2⟩)
  ·exact⟨k,h.mem,by rw[if_pos rfl]⟩
  ·exact⟨q,h2,by rw[if_neg h1]⟩


theorem Sp.fwd (h:Sp m bs gs u k) {j:Nat} (hr:Rch bs (fun _=>False) 0 j):Rch gs (fun _=>False) 0 j:=by
 induction hr with
 | start _=>exact .start id
 | @step i q hi hs _ ih =>
  have hil:i<bs.length:=by
   apply Classical.byContradiction
   intro hn
   rw[succs_none (by omega)]at hs;simp at hs
  by_cases e:i=u
  ·subst e
   by_cases e2:q=k
   ·subst e2
    have h1:Rch gs (fun _=>False) 0 bs.length:=.step ih ((h.mem_u _).2 (.inl rfl)) id
    exact .step h1 (by rw[h.succ_new];simp) id
   ·exact .step ih ((h.mem_u _).2 (.inr ⟨by omega,hs⟩)) id
  ·exact .step ih (by rw[h.succ_j hil e];exact hs) id

theorem Sp.fwdN (h:Sp m bs gs u k) (hr:Rch bs (fun _=>False) 0 u):Rch gs (fun _=>False) 0 bs.length:=.step (h.fwd hr) ((h.mem_u _).2 (.inl rfl)) id

theorem Sp.back (h:Sp m bs gs u k) {c:Nat} {j:Nat} (hr:Rch gs (·=c) 0 j):(j<bs.length→Rch bs (·=c) 0 j)∧(j=bs.length→Rch bs (·=c) 0 u):=by
 induction hr with
 | start h0=>exact⟨fun _=>.start h0,fun e=>by have:=h.ul;omega⟩
 | @step i q hi hs hq ih =>
  by_cases e:i=bs.length
  ·subst e
   rw[h.succ_new]at hs
   simp at hs
   have e2:q=k:=by omega
   subst e2
   exact⟨fun _=>.step (ih.2 rfl) h.mem hq,fun e=>by have:=h.kl;omega⟩
  ·have hil:i<bs.length:=by
    apply Classical.byContradiction
    intro hn
    rw[succs_none (by rw[h.len];omega)]at hs;simp at hs
   have hri:=ih.1 hil
   by_cases e1:i=u
   ·subst e1
    rcases (h.mem_u _).1 hs with e2 | ⟨_,e2⟩
    ·exact⟨fun hl=>by omega,fun _=>hri⟩
    ·have:=(h.rng i _ e2).2
     exact⟨fun _=>.step hri e2 hq,fun e=>by omega⟩
   ·rw[h.succ_j hil e1]at hs
    have:=(h.rng i _ hs).2
    exact⟨fun _=>.step hri hs hq,fun e=>by omega⟩

theorem Sp.dom (h:Sp m bs gs u k) {a b:Nat} (ha:a<bs.length) (hb:b<bs.length) (hd:Dom bs a b):Dom gs a b:=⟨h.fwd hd.1,h.fwd hd.2.1,fun hr=>hd.2.2 ((h.back hr).1 hb)⟩

theorem Sp.domN (h:Sp m bs gs u k) {a:Nat} (hd:Dom bs a u):Dom gs a bs.length:=⟨h.fwd hd.1,h.fwdN hd.2.1,fun hr=>hd.2.2 ((h.back hr).2 rfl)⟩


theorem predsF_mem {bs:List BlkR} {b q:Int}:q∈predsF bs b↔∃ i:Nat,q=i∧i<bs.length∧b∈succsAt bs i:=by
 unfold predsF predsTo
 rw[List.mem_map]
 constructor
 ·rintro⟨i,hi,rfl⟩
  rw[List.mem_filter,List.mem_range,hasI_iff]at hi
  exact⟨i,rfl,hi.1,hi.2⟩
 ·rintro⟨i,rfl,h1,h2⟩
  exact⟨i,by rw[List.mem_filter,List.mem_range,hasI_iff];exact⟨h1,h2⟩,rfl⟩

theorem Sp.preds_j (h:Sp m bs gs u k) {j:Nat} (hj:j<bs.length) (hne:j≠k):predsF gs j=predsF bs j:=by
 unfold predsF
 rw[h.len,predsTo_succ]
 have e:hasI (succsAt gs bs.length) j=false:=by
  rw[← Bool.not_eq_true,hasI_iff,h.succ_new]
  simp;omega
 rw[e,if_neg (by simp)]
 unfold predsTo
 congr 1
 apply List.filter_congr
 intro i hi
 rw[List.mem_range]at hi
 rw[Bool.eq_iff_iff,hasI_iff,hasI_iff]
 by_cases e1:i=u
 ·subst e1
  rw[h.mem_u]
  constructor
  ·rintro (h1 | ⟨_,h1⟩)
   ·omega
   ·exact h1
  ·intro h1;exact .inr ⟨by omega,h1⟩
 ·rw[h.succ_j hi e1]

theorem Sp.preds_k (h:Sp m bs gs u k):(predsF gs k).length=(predsF bs k).length:=by
 have e:hasI (succsAt gs bs.length) (k:Int)=true:=by rw[hasI_iff,h.succ_new];simp
 have e2:predsTo gs k bs.length=((List.range bs.length).filter fun x=>hasI (succsAt bs x) k && decide (x≠u)).map fun (j:Nat)=>(j:Int):=by
  unfold predsTo
  congr 1
  apply List.filter_congr
  intro i hi
  rw[List.mem_range]at hi
  rw[Bool.eq_iff_iff,Bool.and_eq_true,hasI_iff,hasI_iff,decide_eq_true_eq]
  by_cases e1:i=u
  ·subst e1
   rw[h.mem_u]
   have:=h.kl
   constructor
   ·rintro (h1 | ⟨h1,_⟩)
    ·omega
    ·exact absurd rfl h1
   ·rintro⟨_,h1⟩;exact absurd rfl h1
  ·rw[h.succ_j hi e1]
   exact⟨fun h=>⟨h,e1⟩,fun h=>h.1⟩
 unfold predsF
 rw[h.len,predsTo_succ,e,if_pos rfl,e2]
 unfold predsTo
 rw[List.length_append,List.length_map,List.length_map,filter_one (q:=fun j=>hasI (succsAt bs j) k) h.ul (hasI_iff.2 h.mem)]
 rfl

theorem Sp.preds_n (h:Sp m bs gs u k):(predsF gs bs.length).length=1:=by
 have e:∀ q,q∈predsF gs bs.length↔q=(u:Int):=by
  intro q
  rw[predsF_mem]
  constructor
  ·rintro⟨i,rfl,hi,hs⟩
   by_cases e1:i=u
   ·rw[e1]
   ·exfalso
    by_cases e2:i=bs.length
    ·subst e2
     rw[h.succ_new]at hs
     have:=h.kl
     simp at hs;omega
    ·have hil:i<bs.length:=by rw[h.len]at hi;omega
     rw[h.succ_j hil e1]at hs
     have:=(h.rng i _ hs).2;omega
  ·rintro rfl
   exact⟨u,rfl,by rw[h.len];have:=h.ul;omega,(h.mem_u _).2 (.inl rfl)⟩
 have hasc:=preds_asc gs (bs.length:Int)
 generalize predsF gs (bs.length:Int)=l at e hasc
 match l with
 | []=>exact absurd ((e u).2 rfl) (by simp)
 | [a]=>rfl
 | a :: b :: r =>
  have h1:=(e a).1 (by simp)
  have h2:=(e b).1 (by simp)
  rw[List.pairwise_cons]at hasc
  have:=hasc.1 b (by simp)
  omega


theorem Sp.defs (h:Sp m bs gs u k) {j:Nat} (hj:j<bs.length):defsB (gs.getD j blk0)=defsB (bs.getD j blk0):=by
 unfold defsB
 rw[h.phis j hj,h.list j hj]
 split
 ·rw[List.map_map];rfl
 ·rfl

theorem Sp.blocks (h:Sp m bs gs u k):gs=(List.range bs.length).map (fun j=>gs.getD j blk0)++[⟨[],[],⟨1,0,k,0⟩⟩]:=by
 apply List.ext_getElem?
 intro i
 by_cases h1:i<bs.length
 ·rw[List.getElem?_append_left (by simpa using h1),List.getElem?_map,List.getElem?_range h1,Option.map_some,blk_at (by rw[h.len];omega),List.getElem?_eq_getElem]
 ·rw[List.getElem?_append_right (by simp;omega)]
  simp only[List.length_map,List.length_range]
  by_cases h2:i=bs.length
  ·subst h2
   have:=h.new
   rw[blk_at (by rw[h.len];omega)]at this
   rw[List.getElem?_eq_getElem (by rw[h.len];omega),this,Nat.sub_self];rfl
  ·rw[List.getElem?_eq_none (by rw[h.len];omega),List.getElem?_eq_none (by simp;omega)]

theorem range_self {β:Type} (bs:List BlkR) (g:BlkR→β):(List.range bs.length).map (fun j=>g (bs.getD j blk0))=bs.map g:=by
 apply List.ext_getElem?
 intro i
 by_cases h1:i<bs.length
 ·rw[List.getElem?_map,List.getElem?_range h1,Option.map_some,List.getElem?_map,List.getElem?_eq_getElem h1,blk_at h1];rfl
 ·rw[List.getElem?_eq_none (by simp;omega),List.getElem?_eq_none (by simp;omega)]

theorem Sp.flat (h:Sp m bs gs u k):gs.flatMap defsB=bs.flatMap defsB:=by
 rw[h.blocks,List.flatMap_append,List.flatMap_def,List.map_map]
 have e:(List.range bs.length).map (defsB ∘ fun j=>gs.getD j blk0)=bs.map defsB:=by
  rw[← range_self]
  apply List.map_congr_left
  intro j hj
  rw[List.mem_range]at hj
  exact h.defs hj
 rw[e,← List.flatMap_def]
 simp[defsB]

theorem Sp.cost (h:Sp m bs gs u k):costTo gs gs.length=costTo bs bs.length:=by
 unfold costTo
 rw[List.take_length,List.take_length,h.blocks,List.map_append,List.map_map,List.sum_append]
 have e:(List.range bs.length).map ((fun b:BlkR=>b.phis.length+b.list.length) ∘ fun j=>gs.getD j blk0)=bs.map (fun b:BlkR=>b.phis.length+b.list.length):=by
  rw[← range_self]
  apply List.map_congr_left
  intro j hj
  rw[List.mem_range]at hj
  simp only[Function.comp]
  rw[h.phis j hj,h.list j hj]
  split<;>simp
 rw[e];simp

theorem in_more {x n:Int} (h:inB x 0 (n - 1)=true):inB x 0 (n+1 - 1)=true:=by
 have:=of_decide_eq_true (show decide (0≤x∧x≤n - 1)=true from h)
 exact decide_eq_true (show 0≤x∧x≤n+1 - 1 by omega)

theorem term_more {t:TrmR} {n m:Int} (h:termB t n m=true):termB t (n+1) m=true:=by
 unfold termB at h ⊢
 by_cases h1:t.kind=1
 ·rw[if_pos h1]at h ⊢
  simp only[Bool.and_eq_true]at h ⊢
  exact⟨⟨in_more h.1.1,h.1.2⟩,h.2⟩
 ·rw[if_neg h1]at h ⊢
  by_cases h2:t.kind=2
  ·rw[if_pos h2]at h ⊢
   simp only[Bool.and_eq_true]at h ⊢
   exact⟨⟨in_more h.1.1,in_more h.1.2⟩,h.2⟩
  ·rw[if_neg h2]at h ⊢
   exact h

theorem Sp.term_ok (h:Sp m bs gs u k) {j:Nat} (hj:j<bs.length):termB (gs.getD j blk0).term (bs.length+1:Nat) m=true:=by
 have ht:=shape_term (f:=⟨bs,m⟩) h.w.sh (getD_mem hj)
 simp only at ht
 rw[h.term j hj]
 push_cast
 by_cases e:j=u
 ·subst e
  rw[if_pos rfl]
  obtain⟨k2,_,_⟩:=h.kind
  unfold termB at ht
  rw[if_neg (by omega),if_pos k2]at ht
  simp only[Bool.and_eq_true]at ht
  unfold termB turnT
  simp only
  rw[if_neg (by omega),if_pos k2]
  simp only[Bool.and_eq_true]
  have hn:inB (bs.length:Int) 0 ((bs.length:Int)+1 - 1)=true:=decide_eq_true (by omega)
  refine⟨⟨?_,?_⟩,ht.2⟩
  ·split
   ·exact hn
   ·exact in_more ht.1.1
  ·split
   ·exact hn
   ·exact in_more ht.1.2
 ·rw[if_neg e]
  exact term_more ht

theorem phi_more {p:PhiR} {n m:Int} (h:phiB n m p=true):phiB (n+1) m p=true:=by
 unfold phiB armsB at h ⊢
 simp only[Bool.and_eq_true,List.all_eq_true,List.mem_range]at h ⊢
 refine⟨h.1,fun i hi=>?_⟩
 have:=h.2 i hi
 rw[armB_at hi]at this ⊢
 simp only[Bool.and_eq_true]at this ⊢
 exact⟨⟨in_more this.1.1,this.1.2⟩,this.2⟩

theorem turnA_v (u n:Int) (a:ArmR):(turnA u n a).v=a.v:=by unfold turnA;split<;>rfl

theorem turnA_fr (u n:Int) (a:ArmR):(turnA u n a).fr=if a.fr=u then n else a.fr:=by unfold turnA;split<;>rfl

theorem phi_turn {p:PhiR} {n m u:Int} (h0:0≤n) (h:phiB n m p=true):phiB (n+1) m (turnP u n p)=true:=by
 obtain⟨p1,p2,p3⟩:=phi_vals h
 unfold phiB armsB at h ⊢
 simp only[Bool.and_eq_true,List.all_eq_true,List.mem_range]at h ⊢
 refine⟨⟨h.1.1,by simp only[turnP,List.length_map];exact h.1.2⟩,fun i hi=>?_⟩
 have hi':i<p.arms.length:=by simpa [turnP] using hi
 have:=h.2 i hi'
 rw[armB_at hi']at this
 rw[armB_at hi]
 simp only[Bool.and_eq_true,Bool.not_eq_true',List.any_eq_false,decide_eq_true_eq]at this ⊢
 have e:(turnP u n p).arms[i]=turnA u n p.arms[i]:=by simp[turnP]
 rw[e,turnA_v,turnA_fr]
 have hin:=this.1.1
 have hin':=of_decide_eq_true (show decide (0≤p.arms[i].fr∧p.arms[i].fr≤n - 1)=true from hin)
 refine⟨⟨?_,this.1.2⟩,fun x hx=>?_⟩
 ·split
  ·exact decide_eq_true (by omega)
  ·exact in_more hin
 ·obtain⟨l,hl,rfl⟩:=List.mem_take_iff_getElem.1 hx
  have hl':l<p.arms.length:=by omega
  have e2:(turnP u n p).arms[l]=turnA u n p.arms[l]:=by simp[turnP]
  rw[e2,turnA_fr]
  have hne:=this.2 p.arms[l] (List.mem_take_iff_getElem.2 ⟨l,by omega,rfl⟩)
  have hll:=of_decide_eq_true (show decide (0≤p.arms[l].fr∧p.arms[l].fr≤n - 1)=true from (p3 l hl').1)
  split<;>split<;>omega

theorem Sp.phi_ok (h:Sp m bs gs u k) {j:Nat} (hj:j<bs.length):∀ p∈(gs.getD j blk0).phis,phiB (bs.length+1:Nat) m p=true:=by
 intro p hp
 rw[h.phis j hj]at hp
 push_cast
 by_cases e:j=k
 ·rw[if_pos e]at hp
  obtain⟨q,hq,rfl⟩:=List.mem_map.1 hp
  exact phi_turn (by omega) (shape_phi (f:=⟨bs,m⟩) h.w.sh (getD_mem hj) hq)
 ·rw[if_neg e]at hp
  exact phi_more (shape_phi (f:=⟨bs,m⟩) h.w.sh (getD_mem hj) hp)

theorem Sp.shape (h:Sp m bs gs u k) (h16:bs.length+1≤16):shapeB ⟨gs,m⟩=true:=by
 have hsh:=h.w.sh
 unfold shapeB at hsh ⊢
 simp only[Bool.and_eq_true]at hsh ⊢
 refine⟨⟨?_,hsh.1.2⟩,?_⟩
 ·rw[h.len];exact decide_eq_true (by omega)
 ·rw[List.all_eq_true]
  intro b hb
  obtain⟨j,hj,rfl⟩:=List.getElem_of_mem hb
  rw[← blk_at hj,h.len]
  by_cases hjl:j<bs.length
  ·have h1:=h.term_ok hjl
   have h2:=h.phi_ok hjl
   obtain⟨l1,l2⟩:=shape_lens (f:=⟨bs,m⟩) h.w.sh (getD_mem hjl)
   unfold blkB
   simp only[Bool.and_eq_true,List.all_eq_true,decide_eq_true_eq]
   refine⟨⟨⟨⟨?_,?_⟩,h1⟩,h2⟩,?_⟩
   ·rw[h.phis j hjl];split
    ·rw[List.length_map];exact l1
    ·exact l1
   ·rw[h.list j hjl];exact l2
   ·rw[h.list j hjl]
    exact fun x hx=>shape_ins (f:=⟨bs,m⟩) h.w.sh (getD_mem hjl) hx
  ·have e:j=bs.length:=by rw[h.len]at hj;omega
   subst e
   rw[h.new]
   have:=h.kl
   unfold blkB termB inB
   have e1:(0:Int)≤(k:Int)∧(k:Int)≤((bs.length+1:Nat):Int) - 1:=by omega
   simp[e1]
   omega

theorem cf_zero (l:List Bool):cf l=0↔∀ j,j<l.length→l.getD j false=true:=by
 unfold cf
 rw[List.count_eq_zero]
 constructor
 ·intro h j hj
  rw[getD_at hj]
  cases e:l[j] with
  | true=>rfl
  | false=>exact absurd (e▸List.getElem_mem hj) h
 ·intro h hm
  obtain⟨j,hj,e⟩:=List.getElem_of_mem hm
  have:=h j hj
  rw[getD_at hj,e]at this;cases this

theorem all_seen {f:FnR} (w:Well f) {j:Nat} (hj:j<f.blocks.length):Rch f.blocks (fun _=>False) 0 j:=by
 have h:=(cf_zero _).1 w.seen j (by rw[show (seenF f.blocks).length=f.blocks.length from (walk0_ok (shape_pos w.sh)).1];exact hj)
 exact (seen_rch (shape_range w.sh) hj).1 h

theorem Sp.k_pos (h:Sp m bs gs u k):k≠0:=by
 intro e
 have h1:=h.w.entry.2
 have:((u:Nat):Int)∈predsF bs 0:=predsF_mem.2 ⟨u,rfl,h.ul,by have:=h.mem;rw[e]at this;exact this⟩
 simp only at h1
 rw[List.length_eq_zero_iff.1 h1]at this
 simp at this

theorem Sp.well (h:Sp m bs gs u k) (h16:bs.length+1≤16):Well ⟨gs,m⟩:=by
 have hsh:=h.shape h16
 have hrg:=shape_range hsh
 have hpos:0<bs.length:=shape_pos (f:=⟨bs,m⟩) h.w.sh
 have hposg:0<gs.length:=by rw[h.len];omega
 have hout:∀ {b:Nat} {v:Int},b<bs.length→OutDef bs b v→OutDef gs b v:=by
  rintro b v hb ⟨c,hc,hne,hd,hv⟩
  refine⟨c,by rw[h.len];omega,hne,h.dom hc hb hd,?_⟩
  rw[← blk_at,h.defs hc,blk_at hc];exact hv
 have hdef:∀ {c:Nat} {v:Int} (hc:c<bs.length) (hc':c<gs.length),v∈defsB bs[c]→v∈defsB gs[c]:=fun hc hc' hv=>by
  rw[← blk_at,h.defs hc,blk_at hc];exact hv
 refine⟨hsh,?_,?_,?_,?_,?_,?_,?_,?_⟩
 ·have hc:=h.w.nc
  unfold copiesB at hc ⊢
  simp only at hc ⊢
  rw[List.any_eq_false]at hc ⊢
  intro b hb
  obtain⟨j,hj,rfl⟩:=List.getElem_of_mem hb
  rw[← blk_at hj]
  by_cases hjl:j<bs.length
  ·rw[h.list j hjl];exact hc _ (getD_mem hjl)
  ·have e:j=bs.length:=by rw[h.len]at hj;omega
   subst e
   rw[h.new];simp
 ·simp only
  rw[cf_zero]
  intro j hj
  have hj':j<gs.length:=by rwa [show (seenF gs).length=gs.length from (walk0_ok hposg).1]at hj
  rw[seen_rch hrg hj']
  simp only
  by_cases hjl:j<bs.length
  ·exact h.fwd (all_seen (f:=⟨bs,m⟩) h.w hjl)
  ·have e:j=bs.length:=by rw[h.len]at hj';omega
   subst e
   exact h.fwdN (all_seen (f:=⟨bs,m⟩) h.w h.ul)
 ·have h1:=h.w.entry
  simp only at h1 ⊢
  have hk0:=h.k_pos
  have e:=h.phis 0 hpos
  rw[if_neg (fun e=>hk0 e.symm),blk_at hposg,blk_at hpos]at e
  rw[phis0_eq hposg,e,← phis0_eq hpos]
  refine⟨h1.1,?_⟩
  have:=h.preds_j (j:=0) hpos (fun e=>hk0 e.symm)
  rw[Int.natCast_zero]at this
  rw[this];exact h1.2
 ·intro j hj p hp
  simp only at hj hp ⊢
  rw[← blk_at hj]at hp
  by_cases hjl:j<bs.length
  ·have hpok:=h.phi_ok hjl p hp
   rw[h.phis j hjl]at hp
   by_cases e:j=k
   ·subst e
    rw[if_pos rfl]at hp
    obtain⟨q,hq,rfl⟩:=List.mem_map.1 hp
    have hqa:=h.w.arms j hjl q (by simp only;rw[← blk_at hjl];exact hq)
    have hqok:=shape_phi (f:=⟨bs,m⟩) h.w.sh (getD_mem hjl) hq
    obtain⟨a1,a2⟩:=(arms_iff hqok).1 hqa
    refine (arms_iff hpok).2 ⟨?_,fun a ha=>?_⟩
    ·rw[h.preds_k]
     simp only[turnP,List.length_map];exact a1
    ·obtain⟨c,hc,rfl⟩:=List.mem_map.1 ha
     have:=a2 c hc
     rw[hasI_iff,predsF_mem]at this
     obtain⟨i,hi,hil,hs⟩:=this
     simp only at hil hs
     rw[hasI_iff,predsF_mem,turnA_fr]
     by_cases e2:c.fr=(u:Int)
     ·rw[if_pos e2]
      exact⟨bs.length,rfl,by rw[h.len];omega,by rw[h.succ_new];simp⟩
     ·rw[if_neg e2]
      refine⟨i,hi,by rw[h.len];omega,?_⟩
      rw[h.succ_j hil (by omega)];exact hs
   ·rw[if_neg e]at hp
    rw[h.preds_j hjl e]
    exact h.w.arms j hjl p (by simp only;rw[← blk_at hjl];exact hp)
  ·have e:j=bs.length:=by rw[h.len]at hj;omega
   subst e
   rw[h.new]at hp;simp at hp
 ·intro d
  simp only
  rw[h.flat];exact h.w.once d
 ·intro b hb p hp a ha
  simp only at hb hp
  rw[← blk_at hb]at hp
  by_cases hbl:b<bs.length
  ·rw[h.phis b hbl]at hp
   have key:∀ q∈(bs.getD b blk0).phis,∀ c∈q.arms,∃ d,∃ hd:d<bs.length,Dom bs d c.fr.toNat∧c.v∈defsB bs[d]:=fun q hq c hc=>h.w.wp.phi b hbl q (by simp only;rw[← blk_at hbl];exact hq) c hc
   have hfr:∀ q∈(bs.getD b blk0).phis,∀ c∈q.arms,∃ i:Nat,c.fr=i∧i<bs.length:=fun q hq c hc=>fr_lt (f:=⟨bs,m⟩) h.w.sh (getD_mem hbl) hq hc
   by_cases e:b=k
   ·rw[if_pos e]at hp
    obtain⟨q,hq,rfl⟩:=List.mem_map.1 hp
    obtain⟨c,hc,rfl⟩:=List.mem_map.1 ha
    obtain⟨d,hd,hdm,hv⟩:=key q hq c hc
    obtain⟨i,hi,hil⟩:=hfr q hq c hc
    refine⟨d,by rw[h.len];omega,?_,by rw[turnA_v];exact hdef hd _ hv⟩
    rw[turnA_fr]
    by_cases e2:c.fr=(u:Int)
    ·rw[if_pos e2,Int.toNat_natCast]
     rw[e2,Int.toNat_natCast]at hdm
     exact h.domN hdm
    ·rw[if_neg e2]
     exact h.dom hd (by omega) hdm
   ·rw[if_neg e]at hp
    obtain⟨d,hd,hdm,hv⟩:=key p hp a ha
    obtain⟨i,hi,hil⟩:=hfr p hp a ha
    exact⟨d,by rw[h.len];omega,h.dom hd (by omega) hdm,hdef hd _ hv⟩
  ·have e:b=bs.length:=by rw[h.len]at hb;omega
   subst e
   rw[h.new]at hp;simp at hp
 ·intro b hb l1 x l2 he v hv
  simp only at hb he ⊢
  rw[← blk_at hb]at he ⊢
  by_cases hbl:b<bs.length
  ·rw[h.list b hbl,blk_at hbl]at he
   have:=h.w.wp.ins b hbl l1 x l2 he v hv
   simp only at this
   have e:(gs.getD b blk0).phis.map (·.d)=bs[b].phis.map (·.d):=by
    rw[h.phis b hbl,← blk_at hbl]
    split
    ·rw[List.map_map];rfl
    ·rfl
   rw[e]
   rcases this with h1 | h1 | h1
   ·exact .inl h1
   ·exact .inr (.inl h1)
   ·exact .inr (.inr (hout hbl h1))
  ·have e:b=bs.length:=by rw[h.len]at hb;omega
   subst e
   rw[h.new]at he;simp at he
 ·intro b hb v hv
  simp only at hb hv ⊢
  rw[← blk_at hb]at hv ⊢
  by_cases hbl:b<bs.length
  ·have e:tusesF (gs.getD b blk0).term=tusesF (bs.getD b blk0).term:=by
    rw[h.term b hbl];split<;>rfl
   rw[e,blk_at hbl]at hv
   rw[h.defs hbl,blk_at hbl]
   rcases h.w.wp.term b hbl v hv with h1 | h1
   ·exact .inl h1
   ·exact .inr (hout hbl h1)
  ·have e:b=bs.length:=by rw[h.len]at hb;omega
   subst e
   rw[h.new]at hv;simp[tusesF]at hv


theorem phisAt_getD (bs:List BlkR) (j:Nat):phisAt bs j=(bs.getD j blk0).phis:=by
 unfold phisAt
 rw[Int.toNat_natCast,List.getD_eq_getElem?_getD]
 cases bs[j]?<;>rfl

theorem Sp.hot (h:Sp m bs gs u k) {q:Nat} (hq:q<bs.length):Vm.hot gs q=Vm.hot bs q:=by
 unfold Vm.hot
 rw[phisAt_getD,phisAt_getD,h.phis q hq]
 by_cases e:q=k
 ·subst e
  rw[h.preds_k,if_pos rfl,List.length_map]
 ·rw[h.preds_j hq e,if_neg e]

theorem Sp.hot_n (h:Sp m bs gs u k):Vm.hot gs bs.length=false:=by
 unfold Vm.hot
 rw[phisAt_getD,h.preds_n,h.new];rfl

theorem crit0_of {f:FnR} (hsh:shapeB f=true) {i k:Nat} (hi:i<f.blocks.length) (hs:(k:Int)∈succsAt f.blocks i) (h2:(succsAt f.blocks i).length=2) (hh:Vm.hot f.blocks k=true):(⟨i,k⟩:ArmR)∈crit0 f:=by
 unfold crit0
 rw[if_pos hsh]
 unfold critTo
 rw[List.mem_flatMap]
 refine⟨i,List.mem_range.2 hi,?_⟩
 unfold critAt
 rw[if_pos (by omega)]
 unfold critIn
 rw[List.take_length,List.mem_map]
 exact⟨k,List.mem_filter.2 ⟨hs,hh⟩,rfl⟩

theorem Sp.crit (h:Sp m bs gs u k) (h16:bs.length+1≤16) (a:ArmR):a∈crit0 ⟨gs,m⟩↔a∈crit0 ⟨bs,m⟩∧a≠⟨u,k⟩:=by
 have hsg:=h.shape h16
 constructor
 ·intro ha
  obtain⟨_,i,q,rfl,hi,hq,hs,h2,hh⟩:=crit0_in ha
  simp only at hi hq hs h2 hh
  have hqn:q≠bs.length:=fun e=>by rw[e,h.hot_n]at hh;cases hh
  have hql:q<bs.length:=by rw[h.len]at hq;omega
  rw[h.hot hql]at hh
  by_cases e1:i=bs.length
  ·subst e1;rw[h.succ_new]at h2;simp at h2
  ·have hil:i<bs.length:=by rw[h.len]at hi;omega
   by_cases e2:i=u
   ·subst e2
    rcases (h.mem_u _).1 hs with e3 | ⟨e3,hs'⟩
    ·omega
    ·exact⟨crit0_of h.w.sh hil hs' h.two hh,fun e=>by injection e with _ e;exact e3 e⟩
   ·rw[h.succ_j hil e2]at hs h2
    exact⟨crit0_of h.w.sh hil hs h2 hh,fun e=>by injection e with e _;omega⟩
 ·rintro⟨ha,hne⟩
  obtain⟨_,i,q,rfl,hi,hq,hs,h2,hh⟩:=crit0_in ha
  simp only at hi hq hs h2 hh
  refine crit0_of hsg (by simp only;rw[h.len];omega) ?_ ?_ (by simp only;rw[h.hot hq];exact hh)
  ·simp only
   by_cases e2:i=u
   ·subst e2
    refine (h.mem_u _).2 (.inr ⟨fun e=>hne ?_,hs⟩)
    rw[e]
   ·rw[h.succ_j hi e2];exact hs
  ·simp only
   by_cases e2:i=u
   ·subst e2
    rw[h.succ_u,List.length_map];exact h2
   ·rw[h.succ_j hi e2];exact h2

end
def RunS.wp (s:RunS) (q:List Int):RunS:={ s with path:=q }

theorem insGo_path (s:RunS) (q:List Int) (x:InsR):insGo (s.wp q) x=((insGo s x).1,(insGo s x).2.wp q):=by
 have e:∀ v,(s.wp q).get v=s.get v:=fun _=>rfl
 have e2:(s.wp q).cells=s.cells:=rfl
 have e3:(s.wp q).reads=s.reads:=rfl
 have e4:(s.wp q).told=s.told:=rfl
 unfold insGo
 simp only[e,e2,e3,e4]
 (repeat' split)<;>rfl

theorem listGo_path:∀ (xs:List InsR) (φ:Nat) (s:RunS) (q:List Int),listGo xs φ (s.wp q)=((listGo xs φ s).1,(listGo xs φ s).2.1,(listGo xs φ s).2.2.wp q):=by
 intro xs
 induction xs with
 | nil=>intro φ s q;rfl
 | cons x r ih =>
  intro φ s q
  cases φ with
  | zero=>rfl
  | succ φ =>
   simp only[listGo]
   rw[insGo_path]
   simp only
   by_cases h:(insGo s x).1=0
   ·rw[if_pos h,if_pos h,ih]
   ·rw[if_neg h,if_neg h]

theorem listGo_done:∀ (xs:List InsR) (φ:Nat) (s:RunS),(listGo xs φ s).1=0→∀ r,listGo xs (xs.length+r) s=(0,r,(listGo xs φ s).2.2):=by
 intro xs
 induction xs with
 | nil=>intro φ s _ r;simp[listGo]
 | cons x l ih =>
  intro φ s h r
  cases φ with
  | zero=>simp[listGo]at h
  | succ φ =>
   rw[show (x :: l).length+r=(l.length+r)+1 by simp;omega]
   simp only[listGo]at h ⊢
   by_cases h0:(insGo s x).1=0
   ·rw[if_pos h0]at h ⊢
    rw[if_pos h0]
    exact ih φ _ h r
   ·rw[if_neg h0]at h;exact absurd h h0

theorem runGo_step {bs:List BlkR} {n φ ψ b:Nat} {fr:Int} {s s':RunS} (h:listGo (bs.getD b blk0).list φ (comeGo b fr (bs.getD b blk0).phis s)=(0,ψ,s')) (hz:ψ≠0) (hk:(bs.getD b blk0).term.kind≠3) :
  runGo bs (n+1) φ b fr s=runGo bs n (ψ - 1) (nextGo (bs.getD b blk0).term s').toNat b s':=by
 simp only[runGo,h]
 rw[if_pos trivial,if_neg hz,if_neg hk]

theorem runGo_end {bs:List BlkR} {n φ ψ b:Nat} {fr:Int} {s s':RunS} (h:listGo (bs.getD b blk0).list φ (comeGo b fr (bs.getD b blk0).phis s)=(0,ψ,s')) (hz:ψ≠0) (hk:(bs.getD b blk0).term.kind=3) :
  runGo bs (n+1) φ b fr s=(0,s'.get (bs.getD b blk0).term.a,s'):=by
 simp only[runGo,h]
 rw[if_pos trivial,if_neg hz,if_pos hk]

theorem nextGo_turn (k n:Int) (t:TrmR) (s:RunS):nextGo (turnT k n t) s=if nextGo t s=k then n else nextGo t s:=by
 unfold nextGo turnT
 simp only
 split<;>rfl

theorem arms_turn (was:List Int) (u n d fr fr':Int):∀ (al:List ArmR) (vs:List Int),(∀ a∈al,(turnA u n a).fr=fr'↔a.fr=fr)→(al.map (turnA u n)).foldl (armGo was fr' d) vs=al.foldl (armGo was fr d) vs:=by
 intro al
 induction al with
 | nil=>intro vs _;rfl
 | cons a r ih =>
  intro vs h
  rw[List.map_cons,List.foldl_cons,List.foldl_cons,ih _ (fun c hc=>h c (by simp[hc]))]
  congr 1
  unfold armGo
  rw[turnA_v]
  by_cases e:a.fr=fr
  ·rw[if_pos e,if_pos ((h a (by simp)).2 e)]
  ·rw[if_neg e,if_neg (fun e2=>e ((h a (by simp)).1 e2))]

theorem phis_turn (was:List Int) (u n fr fr':Int):∀ (ps:List PhiR) (vs:List Int),(∀ p∈ps,∀ a∈p.arms,(turnA u n a).fr=fr'↔a.fr=fr)→(ps.map (turnP u n)).foldl (phiGo was fr') vs=ps.foldl (phiGo was fr) vs:=by
 intro ps
 induction ps with
 | nil=>intro vs _;rfl
 | cons p r ih =>
  intro vs h
  rw[List.map_cons,List.foldl_cons,List.foldl_cons,ih _ (fun c hc=>h c (by simp[hc]))]
  congr 1
  exact arms_turn was u n p.d fr fr' p.arms vs (h p (by simp))

section

variable {m:Int} {bs gs:List BlkR} {u k:Nat}

def frT (n u k b:Nat) (fr:Int):Int:=if b=k∧fr=u then n else fr

theorem Sp.come (h:Sp m bs gs u k) {b:Nat} (hb:b<bs.length) {fr:Int} (hfr:fr≠bs.length) (s:RunS) (q:List Int) :
  comeGo b (frT bs.length u k b fr) (gs.getD b blk0).phis (s.wp q)=(comeGo b fr (bs.getD b blk0).phis s).wp (q++[(b:Int)]):=by
 unfold comeGo
 have e:phisGo (gs.getD b blk0).phis (frT bs.length u k b fr) s.vals=phisGo (bs.getD b blk0).phis fr s.vals:=by
  rw[h.phis b hb]
  unfold phisGo
  by_cases e1:b=k
  ·rw[if_pos e1]
   refine phis_turn s.vals u bs.length fr _ _ _ fun p hp a ha=>?_
   obtain⟨i,hi,hil⟩:=fr_lt (f:=⟨bs,m⟩) h.w.sh (getD_mem hb) hp ha
   simp only at hil
   rw[turnA_fr]
   by_cases e2:fr=(u:Int)
   ·rw[show frT bs.length u k b fr=bs.length from if_pos ⟨e1,e2⟩,e2]
    by_cases e3:a.fr=(u:Int)
    ·rw[if_pos e3];exact⟨fun _=>e3,fun _=>rfl⟩
    ·rw[if_neg e3]
     exact⟨fun e=>by omega,fun e=>absurd e e3⟩
   ·rw[show frT bs.length u k b fr=fr from if_neg (fun hh=>e2 hh.2)]
    by_cases e3:a.fr=(u:Int)
    ·rw[if_pos e3]
     exact⟨fun e=>absurd e.symm hfr,fun e=>absurd (e.symm.trans e3) e2⟩
    ·rw[if_neg e3]
  ·rw[if_neg e1,show frT bs.length u k b fr=fr from if_neg (fun hh=>e1 hh.1)]
 show (⟨phisGo (gs.getD b blk0).phis (frT bs.length u k b fr) s.vals,s.cells,s.reads,s.told,q++[(b:Int)]⟩:RunS)=_
 rw[e];rfl

theorem Sp.halt (h:Sp m bs gs u k):∀ (n φ b:Nat) (fr:Int) (s:RunS) (x:Int) (s1:RunS) (q:List Int),runGo bs n φ b fr s=(0,x,s1)→b<bs.length→fr≠bs.length →
  ∃ n' φ' s2,φ'<n'∧runGo gs n' φ' b (frT bs.length u k b fr) (s.wp q)=(0,x,s2):=by
 intro n
 induction n with
 | zero=>intro φ b fr s x s1 q hr;simp[runGo]at hr
 | succ n ih =>
  intro φ b fr s x s1 q hr hb hfr
  simp only[runGo]at hr
  have hdone:=listGo_done (bs.getD b blk0).list φ (comeGo b fr (bs.getD b blk0).phis s)
  generalize listGo (bs.getD b blk0).list φ (comeGo b fr (bs.getD b blk0).phis s)=r at hr hdone
  by_cases h0:r.1=0
  ·rw[if_pos h0]at hr
   have hd:=hdone h0
   by_cases hz:r.2.1=0
   ·rw[if_pos hz]at hr;injection hr with hr _;cases hr
   ·rw[if_neg hz]at hr
    have hlist:∀ ψ,listGo (gs.getD b blk0).list ((bs.getD b blk0).list.length+ψ) (comeGo b (frT bs.length u k b fr) (gs.getD b blk0).phis (s.wp q))=(0,ψ,r.2.2.wp (q++[(b:Int)])):=fun ψ=>by
     rw[h.come hb hfr,h.list b hb,listGo_path,hd]
    have hkind:(gs.getD b blk0).term.kind=(bs.getD b blk0).term.kind:=by rw[h.term b hb];split<;>rfl
    by_cases hk:(bs.getD b blk0).term.kind=3
    ·rw[if_pos hk]at hr
     injection hr with _ hr
     injection hr with hx _
     refine⟨(bs.getD b blk0).list.length+1+1,(bs.getD b blk0).list.length+1,r.2.2.wp (q++[(b:Int)]),by omega,?_⟩
     rw[runGo_end (hlist 1) (by omega) (by rw[hkind];exact hk)]
     have ha:(gs.getD b blk0).term.a=(bs.getD b blk0).term.a:=by rw[h.term b hb];split<;>rfl
     rw[ha,← hx];rfl
    ·rw[if_neg hk]at hr
     obtain⟨hm,c,hc,hcl⟩:=nextGo_mem (bs:=bs) (m:=m) h.w.sh hb (s:=r.2.2) hk
     rw[hc,Int.toNat_natCast]at hr
     have hnx:nextGo (gs.getD b blk0).term (r.2.2.wp (q++[(b:Int)]))=if b=u∧c=k then (bs.length:Int) else (c:Int):=by
      have e0:∀ t,nextGo t (r.2.2.wp (q++[(b:Int)]))=nextGo t r.2.2:=fun _=>rfl
      rw[e0,h.term b hb]
      by_cases e1:b=u
      ·rw[if_pos e1,nextGo_turn,hc]
       by_cases e2:c=k
       ·rw[if_pos (by omega),if_pos ⟨e1,e2⟩]
       ·rw[if_neg (by omega),if_neg (fun hh=>e2 hh.2)]
      ·rw[if_neg e1,if_neg (fun hh=>e1 hh.1),hc]
     by_cases e:b=u∧c=k
     ·obtain⟨n',φ',s2,hlt,hgo⟩:=ih (r.2.1 - 1) c b r.2.2 x s1 (q++[(b:Int)]++[(bs.length:Int)]) hr hcl (by omega)
      have efr:frT bs.length u k c b=(bs.length:Int):=by unfold frT;rw[if_pos ⟨e.2,by omega⟩]
      rw[efr]at hgo
      refine⟨n'+((bs.getD b blk0).list.length+2),(bs.getD b blk0).list.length+(φ'+1+1),s2,by omega,?_⟩
      have step:runGo gs (n'+1) (φ'+1) bs.length (b:Int) (r.2.2.wp (q++[(b:Int)]))=(0,x,s2):=by
       have e3:listGo (gs.getD bs.length blk0).list (φ'+1) (comeGo bs.length (b:Int) (gs.getD bs.length blk0).phis (r.2.2.wp (q++[(b:Int)])))=(0,φ'+1,r.2.2.wp (q++[(b:Int)]++[(bs.length:Int)])):=by rw[h.new];rfl
       rw[runGo_step e3 (by omega) (by rw[h.new];show ¬ (1:Int)=3;decide),h.new]
       have e4:nextGo (⟨1,0,(k:Int),0⟩:TrmR) (r.2.2.wp (q++[(b:Int)]++[(bs.length:Int)]))=(k:Int):=rfl
       rw[e4,Int.toNat_natCast,Nat.add_sub_cancel,← e.2]
       exact hgo
      rw[show n'+((bs.getD b blk0).list.length+2)=(n'+(bs.getD b blk0).list.length+1)+1 by omega,runGo_step (hlist (φ'+1+1)) (by omega) (by rw[hkind];exact hk),hnx,if_pos e,Int.toNat_natCast,Nat.add_sub_cancel,← step]
      exact runGo_more gs _ _ _ _ _ _ (by omega) (by omega)
     ·obtain⟨n',φ',s2,hlt,hgo⟩:=ih (r.2.1 - 1) c b r.2.2 x s1 (q++[(b:Int)]) hr hcl (by omega)
      have efr:frT bs.length u k c b=(b:Int):=by unfold frT;rw[if_neg (fun hh=>e ⟨by omega,hh.1⟩)]
      rw[efr]at hgo
      refine⟨n'+((bs.getD b blk0).list.length+1),(bs.getD b blk0).list.length+(φ'+1),s2,by omega,?_⟩
      rw[show n'+((bs.getD b blk0).list.length+1)=(n'+(bs.getD b blk0).list.length)+1 by omega]
      rw[runGo_step (hlist (φ'+1)) (by omega) (by rw[hkind];exact hk),hnx,if_neg e,Int.toNat_natCast,Nat.add_sub_cancel,← hgo]
      exact runGo_more gs _ _ _ _ _ _ (by omega) (by omega)
  ·rw[if_neg h0]at hr
   injection hr with hr _;exact absurd hr h0

end

def Halts (bs:List BlkR) (m:Int) (reads:List Int) (x:Int):Prop:=∃ n φ s1,φ<n∧runGo bs n φ 0 (-1) (initS m reads)=(0,x,s1)

theorem Sp.halts {m:Int} {bs gs:List BlkR} {u k:Nat} (h:Sp m bs gs u k) {reads:List Int} {x:Int} (hh:Halts bs m reads x):Halts gs m reads x:=by
 obtain⟨n,φ,s1,_,hr⟩:=hh
 obtain⟨n',φ',s2,hlt,hgo⟩:=h.halt n φ 0 (-1) _ x s1 [] hr (shape_pos (f:=⟨bs,m⟩) h.w.sh) (by omega)
 have e:frT bs.length u k 0 (-1)=-1:=by unfold frT;rw[if_neg (fun hh=>by omega)]
 rw[e]at hgo
 exact⟨n',φ',s2,hlt,hgo⟩

theorem crit0_nodup (f:FnR):(crit0 f).Nodup:=by
 unfold crit0
 split
 ·unfold critTo List.Nodup
  rw[List.pairwise_flatMap]
  constructor
  ·intro i _
   unfold critAt
   split
   ·rename_i h2
    unfold critIn
    rw[List.take_length,List.pairwise_map]
    have hnd:(succsAt f.blocks i).Pairwise (·≠·):=by
     by_cases hi:i<f.blocks.length
     ·rw[succsAt_eq hi]at h2 ⊢
      unfold succsF at h2 ⊢
      by_cases h1:f.blocks[i].term.kind=1∨(f.blocks[i].term.kind=2∧f.blocks[i].term.to=f.blocks[i].term.els)
      ·rw[if_pos h1]at h2;simp at h2
      ·rw[if_neg h1]at h2 ⊢
       by_cases h3:f.blocks[i].term.kind=2
       ·rw[if_pos h3]
        simp only[List.pairwise_cons,List.mem_singleton,List.not_mem_nil,false_imp_iff,implies_true,List.Pairwise.nil,and_true]
        intro a ha e
        exact h1 (.inr ⟨h3,e.trans ha⟩)
       ·rw[if_neg h3]at h2;simp at h2
     ·rw[succs_none (by omega)]at h2;simp at h2
    refine (hnd.filter _).imp fun hab e=>hab ?_
    injection e
   ·exact List.Pairwise.nil
  ·refine List.nodup_range.imp fun {a b} hab x hx y hy e=>?_
   subst e
   have key:∀ i,x∈critAt f.blocks i→x.fr=(i:Int):=fun i hx=>by
    unfold critAt at hx
    split at hx
    ·unfold critIn at hx
     obtain⟨q,_,rfl⟩:=List.mem_map.1 hx
     rfl
    ·cases hx
   have h1:=key a hx
   have h2:=key b hy
   exact hab (by omega)
 ·exact List.Pairwise.nil

structure SplitAll (bs gs:List BlkR) (m:Int):Prop where
 w:Well ⟨gs,m⟩
 crit:crit0 ⟨gs,m⟩=[]
 cost:costTo gs gs.length=costTo bs bs.length
 halts:∀ reads x,Halts bs m reads x→Halts gs m reads x

theorem splitAll_of {m:Int}:∀ (es:List ArmR) (bs:List BlkR),Well ⟨bs,m⟩→bs.length+es.length≤16→es.Nodup→(∀ a,a∈es↔a∈crit0 ⟨bs,m⟩)→SplitAll bs (es.foldl splitE bs) m:=by
 intro es
 induction es with
 | nil =>
  intro bs w _ _ he
  refine⟨w,?_,rfl,fun _ _ h=>h⟩
  rw[List.eq_nil_iff_forall_not_mem]
  intro a ha
  exact absurd ((he a).2 ha) (by simp)
 | cons e r ih =>
  intro bs w hl hn he
  obtain⟨_,i,q,rfl,hi,hq,hs,h2,hh⟩:=crit0_in ((he e).1 (by simp))
  simp only at hi hq hs h2 hh
  have hS:=sp_of w hi hq hs h2
  simp only[List.length_cons]at hl
  rw[List.nodup_cons]at hn
  have hw:=hS.well (by omega)
  obtain⟨a1,a2,a3,a4⟩:=ih (splitE bs ⟨i,q⟩) hw (by rw[splitE_len];omega) hn.2 fun a=>by
   rw[hS.crit (by omega),← he,List.mem_cons]
   constructor
   ·intro ha;exact⟨.inr ha,fun e=>hn.1 (by rw[← e];exact ha)⟩
   ·rintro⟨ha | ha,hne⟩
    ·exact absurd ha hne
    ·exact ha
  rw[List.foldl_cons]
  exact⟨a1,a2,by rw[a3,hS.cost],fun reads x hx=>a4 reads x (hS.halts hx)⟩

theorem split0_eq {f:FnR} (h:splitOk f=true):checkF f=0∧split0 f=⟨(crit0 f).foldl splitE f.blocks,f.values⟩∧SplitAll f.blocks (split0 f).blocks f.values:=by
 have hp:checkF f=0∧f.blocks.length+(crit0 f).length≤16:=by
  unfold splitOk pB at h
  exact (@decide_eq_true_iff _ (Classical.propDecidable _)).1 h
 have e:split0 f=⟨(crit0 f).foldl splitE f.blocks,f.values⟩:=by unfold split0;rw[if_pos hp]
 refine⟨hp.1,e,?_⟩
 rw[e]
 exact splitAll_of (crit0 f) f.blocks (well_iff.1 hp.1) hp.2 (crit0_nodup f) fun _=>Iff.rfl

theorem split0_not {f:FnR} (h:splitOk f=false):split0 f=f:=by
 unfold split0
 rw[if_neg]
 intro hp
 unfold splitOk pB at h
 rw[(@decide_eq_true_iff _ (Classical.propDecidable _)).2 hp]at h;cases h

theorem split_len {f:FnR} (h:splitOk f=true):(split0 f).blocks.length=f.blocks.length+(crit0 f).length:=by
 rw[(split0_eq h).2.1];exact splits_len _ _

theorem split_check {f:FnR} (h:splitOk f=true):checkF (split0 f)=0:=by
 have e:=(split0_eq h).2.1
 have:=(split0_eq h).2.2.w
 rw[e]at this ⊢
 exact well_iff.2 this

theorem split_crit {f:FnR} (h:splitOk f=true):crit0 (split0 f)=[]:=by
 have e:=(split0_eq h).2.1
 have:=(split0_eq h).2.2.crit
 rw[e]at this ⊢
 exact this

theorem split_cost {f:FnR} (h:splitOk f=true):costF (split0 f)=costF f:=by
 have e:=(split0_eq h).2.1
 have h1:=(split0_eq h).2.2.cost
 have h2:=(split0_eq h).2.2.w.sh
 have h3:=(well_iff.1 (split0_eq h).1).sh
 rw[e]at h1 h2 ⊢
 unfold costF
 rw[if_pos h2,if_pos h3]
 simp only at h1 ⊢
 rw[h1]

theorem split_run {f:FnR} (h:splitOk f=true) {reads:List Int} {fuel:Int} (hd:(runW f reads fuel).1=0):(runW (split0 f) reads 5000).1≠2∧((runW (split0 f) reads 5000).1=0→(runW (split0 f) reads 5000).2.1=(runW f reads fuel).2.1):=by
 have e:=(split0_eq h).2.1
 have hA:=(split0_eq h).2.2
 rw[e]at hA ⊢
 have hsg:=hA.w.sh
 have hH:Halts f.blocks f.values reads (runW f reads fuel).2.1:=by
  unfold runW at hd ⊢
  split at hd
  ·rename_i hc
   rw[if_pos hc]
   exact⟨_,_,_,Nat.lt_succ_self _,Prod.ext hd rfl⟩
  ·simp at hd
 obtain⟨n,φ,s1,hlt,hr⟩:=hA.halts reads _ hH
 simp only at hr hsg
 unfold runW
 simp only
 rw[if_pos ⟨hsg,by decide⟩,show (min (5000:Int) 5000).toNat=5000 by decide]
 generalize (crit0 f).foldl splitE f.blocks=gs at *
 by_cases hle:φ≤5000
 ·obtain⟨d,hd2⟩:∃ d,5000=φ+d:=⟨5000 - φ,by omega⟩
  have:=(runGo_fuel gs d n (5000+1) φ 0 (-1) (initS f.values reads) hlt (by omega)).1 (by rw[hr];simp)
  rw[← hd2]at this
  rw[this,hr]
  exact⟨by simp,fun _=>rfl⟩
 ·obtain⟨d,hd2⟩:∃ d,φ=5000+d:=⟨φ - 5000,by omega⟩
  have:=(runGo_fuel gs d (5000+1) n 5000 0 (-1) (initS f.values reads) (by omega) (by omega)).1
  rw[← hd2,hr]at this
  by_cases h1:(runGo gs (5000+1) 5000 0 (-1) (initS f.values reads)).1=1
  ·rw[h1];exact⟨by decide,fun h=>by cases h⟩
  ·have:=this h1
   rw[← this]
   exact⟨by simp,fun _=>rfl⟩
theorem sameIns_call {H:Hp} {v w:CV} {xs:List InsR} (hv:List5 H v xs) (hw:List5 H w xs) (hb:xs.length≤BIG) (k:IV×Hp→Prop):CM 98 [.c v,.c w] H k=k (.c (.b true),H):=by
 refine det (cw98 ?_) k
 unfold vf98c
 simp[hv.lenOf,hw.lenOf]
 refine wp_for CM_mono xs.length (fun i s=>s.h=H∧Env.get s.e 0=.c v∧Env.get s.e 1=.c w∧Env.get s.e 5=.c (.i i)) (by simp) ?_ ?_
 ·rintro i ⟨e,X⟩ hi ⟨rfl,h0,h1,h5⟩
  simp only at h0 h1 h5 hv hw ⊢
  obtain⟨id,g,off,p1,p2,_⟩:=List5.get hv hi
  obtain⟨id',g',off',q1,q2,_⟩:=List5.get hw hi
  unfold vf98b0
  simp[h0,h1,h5,hv.lenOf,p1,p2.2.2.2.2.2,q1,q2.2.2.2.2.2,hi,up1 hi hb]
 ·rintro⟨e,X⟩ ⟨rfl,h0,h1,h5⟩
  simp only at h0 h1 h5 hv hw ⊢
  unfold vf98b0
  simp[h0,h1,h5,hv.lenOf]

theorem sameArms_call {H:Hp} {v w:CV} {xs:List ArmR} (hv:Arms H v xs) (hw:Arms H w xs) (hb:xs.length≤BIG) (k:IV×Hp→Prop):CM 99 [.c v,.c w] H k=k (.c (.b true),H):=by
 refine det (cw99 ?_) k
 unfold vf99c
 simp[hv.lenOf,hw.lenOf]
 refine wp_for CM_mono xs.length (fun i s=>s.h=H∧Env.get s.e 0=.c v∧Env.get s.e 1=.c w∧Env.get s.e 5=.c (.i i)) (by simp) ?_ ?_
 ·rintro i ⟨e,X⟩ hi ⟨rfl,h0,h1,h5⟩
  simp only at h0 h1 h5 hv hw ⊢
  obtain⟨id,g,off,p1,p2,_⟩:=Arms.get hv hi
  obtain⟨id',g',off',q1,q2,_⟩:=Arms.get hw hi
  unfold vf99b0
  simp[h0,h1,h5,hv.lenOf,p1,p2.2.2,q1,q2.2.2,hi,up1 hi hb]
 ·rintro⟨e,X⟩ ⟨rfl,h0,h1,h5⟩
  simp only at h0 h1 h5 hv hw ⊢
  unfold vf99b0
  simp[h0,h1,h5,hv.lenOf]

set_option maxRecDepth 100000 in
theorem sameBlk_call {H:Hp} {z u z' u':CV} {b:BlkR} (hz:Phis H z b.phis) (hz':Phis H z' b.phis) (hu:List5 H u b.list) (hu':List5 H u' b.list) (hb:b.phis.length≤BIG) (hb2:b.list.length≤BIG) (k:IV×Hp→Prop) :
  CM 50 [.agg [z,u,.i b.term.kind,.i b.term.a,.i b.term.to,.i b.term.els],.agg [z',u',.i b.term.kind,.i b.term.a,.i b.term.to,.i b.term.els]] H k=k (.c (.b true),H):=by
 refine det (cw50 ?_) k
 unfold vf50c
 obtain⟨X,hX⟩:∃ X,H++[(⟨[z,u,.i b.term.kind,.i b.term.a,.i b.term.to,.i b.term.els],0,true,6⟩:Ob),⟨[z',u',.i b.term.kind,.i b.term.a,.i b.term.to,.i b.term.els],0,true,6⟩]=X:=⟨_,rfl⟩
 have hp:Pre H X:=⟨_,hX.symm⟩
 have n1:rdOb X H.length 0=some ⟨[z,u,.i b.term.kind,.i b.term.a,.i b.term.to,.i b.term.els],0,true,6⟩:=by rw[← hX];simp[trmC]
 have n2:rdOb X (H.length+1) 0=some ⟨[z',u',.i b.term.kind,.i b.term.a,.i b.term.to,.i b.term.els],0,true,6⟩:=by rw[← hX];simp[trmC]
 have hzX:Phis X z b.phis:=Phis.pre hp hz
 have hzX':Phis X z' b.phis:=Phis.pre hp hz'
 have huX:List5 X u b.list:=List5.pre hp hu
 have huX':List5 X u' b.list:=List5.pre hp hu'
 simp[hX,rdC_ob n1,rdC_ob n2,rdN_ob n1,rdN_ob n2,hzX.lenOf,hzX'.lenOf,sameIns_call huX huX' hb2]
 refine wp_for CM_mono b.phis.length (fun i s=>s.h=X∧Env.get s.e 2=.c (.p H.length 0 0)∧Env.get s.e 3=.c (.p (H.length+1) 0 0)∧Env.get s.e 5=.c (.i i)) (by simp) ?_ ?_
 ·rintro i ⟨e,Y⟩ hi ⟨rfl,h2,h3,h5⟩
  simp only at h2 h3 h5 ⊢
  obtain⟨id,g,off,w1,p1,p2,_,p4,p5,_⟩:=Phis.get hzX hi
  obtain⟨id',g',off',w1',q1,q2,_,q4,q5,_⟩:=Phis.get hzX' hi
  unfold vf50b0
  simp[h2,h3,h5,rdC_ob n1,rdC_ob n2,hzX.lenOf,p1,p2.1,p2.2.1,q1,q2.1,q2.2.1,hi,sameArms_call p4 q4 p5,up1 hi hb]
 ·rintro⟨e,Y⟩ ⟨rfl,h2,h3,h5⟩
  simp only at h2 h3 h5 ⊢
  unfold vf50b0
  simp[h2,h3,h5,rdC_ob n1,hzX.lenOf]
  exact gcRet_flat hp (show flatV (.c (.b true))=true from rfl)

set_option maxRecDepth 100000 in
theorem sameFn_call {H:Hp} {v w:CV} {f:FnR} (hv:Blocks H v f.blocks) (hw:Blocks H w f.blocks) (hb:f.blocks.length≤BIG) (k:IV×Hp→Prop) :
  CM 14 [.agg [v,.i f.values],.agg [w,.i f.values]] H k=k (.c (.b true),H):=by
 refine det (cw14 ?_) k
 unfold vf14c
 obtain⟨X,hX⟩:∃ X,H++[(⟨[v,.i f.values],0,true,2⟩:Ob),⟨[w,.i f.values],0,true,2⟩]=X:=⟨_,rfl⟩
 have hp:Pre H X:=⟨_,hX.symm⟩
 have n1:rdOb X H.length 0=some ⟨[v,.i f.values],0,true,2⟩:=by rw[← hX];simp
 have n2:rdOb X (H.length+1) 0=some ⟨[w,.i f.values],0,true,2⟩:=by rw[← hX];simp
 have hvX:=hv.pre hp
 have hwX:=hw.pre hp
 simp[hX,rdC_ob n1,rdC_ob n2,hvX.lenOf,hwX.lenOf]
 refine wp_for CM_mono f.blocks.length (fun i s=>s.h=X∧Env.get s.e 2=.c (.p H.length 0 0)∧Env.get s.e 3=.c (.p (H.length+1) 0 0)∧Env.get s.e 5=.c (.i i)) (by simp) ?_ ?_
 ·rintro i ⟨e,Y⟩ hi ⟨rfl,h2,h3,h5⟩
  simp only at h2 h3 h5 ⊢
  obtain⟨id,g,off,z,u,p1,p2,_,p4,p5,p6,p7,_⟩:=hvX.get hi
  obtain⟨id',g',off',z',u',q1,q2,_,q4,q5,q6,q7,_⟩:=hwX.get hi
  have hbk:=sameBlk_call p4 q4 p5 q5 p6 p7
  unfold vf14b0
  simp[h2,h3,h5,rdC_ob n1,rdC_ob n2,hvX.lenOf,p1,p2.2.2.2.2.2.2.2.2.2.2,q1,q2.2.2.2.2.2.2.2.2.2.2,hi,hbk,up1 hi hb]
 ·rintro⟨e,Y⟩ ⟨rfl,h2,h3,h5⟩
  simp only at h2 h3 h5 ⊢
  unfold vf14b0
  simp[h2,h3,h5,rdC_ob n1,hvX.lenOf]
  exact gcRet_flat hp (show flatV (.c (.b true))=true from rfl)
theorem putAt_get3 {cs xs:List CV} {o:Nat} (h:o+xs.length≤cs.length) (i:Nat):(putAt cs o xs)[i]? = if i<o then cs[i]? else if i<o+xs.length then xs[i - o]? else cs[i]?:=by
 unfold putAt
 by_cases h1:i<o
 ·rw[if_pos h1,List.append_assoc,List.getElem?_append_left (by simp;omega),List.getElem?_take,if_pos h1]
 ·rw[if_neg h1]
  by_cases h2:i<o+xs.length
  ·rw[if_pos h2,List.append_assoc,List.getElem?_append_right (by simp;omega),List.getElem?_append_left (by simp;omega)]
   congr 1;simp;omega
  ·rw[if_neg h2,List.getElem?_append_right (by simp;omega),List.getElem?_drop]
   congr 1;simp;omega

def chk (cells:List CV) (sz k:Nat):List CV:=(cells.drop (k * sz)).take sz

theorem chk_at (cells:List CV) (sz k j:Nat):(chk cells sz k)[j]? = if j<sz then cells[k * sz+j]? else none:=by
 unfold chk
 rw[List.getElem?_take]
 split
 ·rw[List.getElem?_drop]
 ·rfl

theorem chk_len {cells:List CV} {sz k:Nat} (h:k * sz+sz≤cells.length):(chk cells sz k).length=sz:=by unfold chk;simp;omega

theorem chk_put {cells:List CV} {sz k j:Nat} {ys:List CV} (hj:j+ys.length≤sz) (h:k * sz+sz≤cells.length):chk (putAt cells (k * sz+j) ys) sz k=putAt (chk cells sz k) j ys:=by
 apply List.ext_getElem?
 intro i
 rw[chk_at,putAt_get3 (by omega),putAt_get3 (by rw[chk_len h];omega),chk_at]
 by_cases hi:i<sz
 ·simp only[if_pos hi]
  by_cases h1:i<j
  ·rw[if_pos h1,if_pos (by omega)]
  ·rw[if_neg h1,if_neg (by omega)]
   by_cases h2:i<j+ys.length
   ·rw[if_pos h2,if_pos (by omega)];congr 1;omega
   ·rw[if_neg h2,if_neg (by omega)]
 ·simp only[if_neg hi]
  rw[if_neg (by omega),if_neg (by omega)]

theorem chk_other {cells:List CV} {sz k k' j:Nat} {ys:List CV} (hk:k'≠k) (hj:j+ys.length≤sz) (h:k * sz+sz≤cells.length):chk (putAt cells (k * sz+j) ys) sz k'=chk cells sz k':=by
 apply List.ext_getElem?
 intro i
 rw[chk_at,chk_at]
 by_cases hi:i<sz
 ·rw[if_pos hi,if_pos hi,putAt_get3 (by omega)]
  rcases Nat.lt_or_gt_of_ne hk with h1 | h1
  ·have h2:(k'+1) * sz≤k * sz:=Nat.mul_le_mul_right _ h1
   rw[Nat.succ_mul]at h2
   rw[if_pos (by omega)]
  ·have h2:(k+1) * sz≤k' * sz:=Nat.mul_le_mul_right _ h1
   rw[Nat.succ_mul]at h2
   rw[if_neg (by omega),if_neg (by omega)]
 ·rw[if_neg hi,if_neg hi]

theorem chk_app {cells ds:List CV} {sz k:Nat} (h:k * sz+sz≤cells.length):chk (cells++ds) sz k=chk cells sz k:=by
 apply List.ext_getElem?
 intro i
 rw[chk_at,chk_at]
 by_cases hi:i<sz
 ·rw[if_pos hi,if_pos hi,List.getElem?_append_left (by omega)]
 ·rw[if_neg hi,if_neg hi]

theorem chk_last {cells cs:List CV} {sz k:Nat} (h:cells.length=k * sz) (hc:cs.length=sz):chk (cells++cs) sz k=cs:=by
 unfold chk
 rw[← h,List.drop_left,List.take_of_length_le (by omega)]

theorem chk_fit {cells:List CV} {sz k n m:Nat} (hm:cells.length=m * sz) (hn:n≤m) (hk:k<n):k * sz+sz≤cells.length:=by
 have h2:(k+1) * sz≤m * sz:=Nat.mul_le_mul_right _ (by omega)
 rw[Nat.succ_mul]at h2;omega

theorem chks_flat (cells:List CV) (sz:Nat):∀ n,n * sz≤cells.length→((List.range n).map (chk cells sz)).flatten=cells.take (n * sz):=by
 intro n
 induction n with
 | zero=>intro _;simp
 | succ n ih =>
  intro h
  rw[Nat.succ_mul]at h ⊢
  rw[List.range_succ,List.map_append,List.flatten_append,ih (by omega)]
  simp only[List.map_cons,List.map_nil,List.flatten_cons,List.flatten_nil,List.append_nil]
  unfold chk
  rw[List.take_add]


def Frm (G:Nat→Prop) (X Y:Hp):Prop:=∀ i,i<X.length→G i→Y[i]? = X[i]?

theorem Frm.lt {G:Nat→Prop} {X Y:Hp} (h:Frm G X Y) {i:Nat} (hi:i<X.length) (hG:G i):i<Y.length:=by
 have:=h i hi hG
 rw[List.getElem?_eq_getElem hi]at this
 exact (List.getElem?_eq_some_iff.1 this).1

theorem Frm.refl (G:Nat→Prop) (X:Hp):Frm G X X:=fun _ _ _=>rfl

theorem Frm.trans {G:Nat→Prop} {X Y Z:Hp} (h:Frm G X Y) (k:Frm G Y Z):Frm G X Z:=fun i hi hG=>(k i (h.lt hi hG) hG).trans (h i hi hG)

theorem Frm.mono {G G':Nat→Prop} {X Y:Hp} (h:Frm G X Y) (hG:∀ i,G' i→G i):Frm G' X Y:=fun i hi k=>h i hi (hG i k)

theorem Frm.monoL {G G':Nat→Prop} {X Y:Hp} (h:Frm G X Y) (hG:∀ i,i<X.length→G' i→G i):Frm G' X Y:=fun i hi k=>h i hi (hG i hi k)

theorem Frm.app (G:Nat→Prop) (X L:Hp):Frm G X (X++L):=fun i hi _=>List.getElem?_append_left hi

theorem Frm.set {G:Nat→Prop} (X:Hp) {id:Nat} (o:Ob) (h:¬ G id):Frm G X (X.set id o):=fun i hi hG=>List.getElem?_set_ne (by rintro rfl;exact h hG)

theorem Frm.pre {G:Nat→Prop} {X Y:Hp} (h:Pre X Y):Frm G X Y:=by obtain⟨L,rfl⟩:=h;exact Frm.app G X L

theorem Frm.ob {G:Nat→Prop} {X Y:Hp} (h:Frm G X Y) {id g:Nat} {o:Ob} (hg:G id) (ho:rdOb X id g=some o):rdOb Y id g=some o:=by
 have h1:=rdOb_some.1 ho
 exact rdOb_some.2 ⟨by rw[h id (rdOb_lt ho) hg];exact h1.1,h1.2⟩

theorem Frm.cut {X Y H:Hp} (h:Frm (fun i=>i<H.length) X Y) (hp:Pre H X):Pre H Y:=by
 obtain⟨L,rfl⟩:=hp
 refine⟨Y.drop H.length,?_⟩
 apply List.ext_getElem?
 intro i
 by_cases hi:i<H.length
 ·rw[List.getElem?_append_left hi,h i (by simp;omega) hi,List.getElem?_append_left hi]
 ·rw[List.getElem?_append_right (by omega),List.getElem?_drop]
  congr 1;omega

structure Stab {α:Type} (P:Hp→List CV→α→(Nat→Prop)→Prop):Prop where
 st:∀ {X Y:Hp} {cs:List CV} {x:α} {G:Nat→Prop},Frm G X Y→P X cs x G→P Y cs x G

structure FPc {α:Type} (P:Hp→List CV→α→(Nat→Prop)→Prop) (sz:Nat) (X:Hp) (id g:Nat) (cells:List CV) (xs:List α) (F:Nat→Prop) (Fs:Nat→Nat→Prop):Prop where
 ob:rdOb X id g=some ⟨cells,g,true,sz⟩
 len:∃ m,cells.length=m * sz∧xs.length≤m
 own:F id
 sub:∀ k i,k<xs.length→Fs k i→F i∧i≠id∧i<X.length
 dis:∀ j k i,j<xs.length→k<xs.length→j≠k→Fs j i→¬ Fs k i
 el:∀ k (h:k<xs.length),P X (chk cells sz k) xs[k] (Fs k)

def FRow {α:Type} (P:Hp→List CV→α→(Nat→Prop)→Prop) (sz:Nat) (X:Hp) (w:CV) (xs:List α) (F:Nat→Prop):Prop:=
 (w=.ns∧xs=[])∨∃ id g cells Fs,w=.sl id g 0 xs.length∧FPc P sz X id g cells xs F Fs

section

variable {α:Type} {P:Hp→List CV→α→(Nat→Prop)→Prop} {sz:Nat} {X Y:Hp} {id g:Nat} {cells:List CV} {xs:List α} {F F':Nat→Prop} {Fs:Nat→Nat→Prop} {w:CV}

theorem FPc.lt (h:FPc P sz X id g cells xs F Fs):id<X.length:=rdOb_lt h.ob

theorem FPc.fit (h:FPc P sz X id g cells xs F Fs) {k:Nat} (hk:k<xs.length):k * sz+sz≤cells.length:=by
 obtain⟨m,h1,h2⟩:=h.len
 exact chk_fit h1 h2 hk

theorem FPc.fr (hP:Stab P) (h:FPc P sz X id g cells xs F Fs) (hf:Frm F X Y):FPc P sz Y id g cells xs F Fs:=
 ⟨hf.ob h.own h.ob,h.len,h.own,fun k i hk hi=>⟨(h.sub k i hk hi).1,(h.sub k i hk hi).2.1,hf.lt (h.sub k i hk hi).2.2 (h.sub k i hk hi).1⟩,h.dis,fun k hk=>hP.st (hf.mono fun i hi=>(h.sub k i hk hi).1) (h.el k hk)⟩

theorem FPc.mono (h:FPc P sz X id g cells xs F Fs) (hF:∀ i,F i→F' i):FPc P sz X id g cells xs F' Fs:=
 ⟨h.ob,h.len,hF _ h.own,fun k i hk hi=>⟨hF _ (h.sub k i hk hi).1,(h.sub k i hk hi).2⟩,h.dis,h.el⟩

theorem FPc.row (h:FPc P sz X id g cells xs F Fs):FRow P sz X (.sl id g 0 xs.length) xs F:=.inr ⟨_,_,_,_,rfl,h⟩

theorem FRow.fr (hP:Stab P) (h:FRow P sz X w xs F) (hf:Frm F X Y):FRow P sz Y w xs F:=by
 rcases h with h | ⟨id,g,cells,Fs,h1,h2⟩
 ·exact .inl h
 ·exact .inr ⟨id,g,cells,Fs,h1,h2.fr hP hf⟩

theorem FRow.mono (h:FRow P sz X w xs F) (hF:∀ i,F i→F' i):FRow P sz X w xs F':=by
 rcases h with h | ⟨id,g,cells,Fs,h1,h2⟩
 ·exact .inl h
 ·exact .inr ⟨id,g,cells,Fs,h1,h2.mono hF⟩

theorem FRow.ns:FRow P sz X .ns [] F:=.inl ⟨rfl,rfl⟩

theorem FRow.form (h:FRow P sz X w xs F):w=.ns∨∃ i g n,w=.sl i g 0 n:=by
 rcases h with⟨rfl,rfl⟩ | ⟨id,g,cells,Fs,rfl,h2⟩
 ·exact .inl rfl
 ·exact .inr ⟨_,_,_,rfl⟩

theorem FRow.lenOf (h:FRow P sz X w xs F):lenOf w=some xs.length:=by
 rcases h with⟨rfl,rfl⟩ | ⟨id,g,cells,Fs,rfl,h2⟩<;>rfl

theorem FRow.open (h:FRow P sz X w xs F) {k:Nat} (hk:k<xs.length):∃ id g cells Fs,w=.sl id g 0 xs.length∧FPc P sz X id g cells xs F Fs:=by
 rcases h with⟨rfl,rfl⟩ | h
 ·simp at hk
 ·exact h

theorem idx_sl {id g n k sz:Nat} (hk:k<n):idxOf sz (.sl id g 0 n) (k:Int)=some (.p id g (k * sz)):=by simp[idxOf,hk]

theorem FPc.c (h:FPc P sz X id g cells xs F Fs) {k j:Nat} (hj:j<sz):rdC X id g (k * sz+j)=(chk cells sz k)[j]?:=by
 rw[rdC_ob h.ob,chk_at,if_pos hj]

theorem FPc.nn (h:FPc P sz X id g cells xs F Fs) {k:Nat} (hk:k<xs.length):rdN X id g (k * sz) sz=some (chk cells sz k):=by
 rw[rdN_ob h.ob,if_pos (h.fit hk)];rfl

theorem FPc.put (hP:Stab P) (h:FPc P sz X id g cells xs F Fs) {k:Nat} (hk:k<xs.length) {j:Nat} {ys:List CV} {x':α} {G':Nat→Prop} (hj:j+ys.length≤sz) (ho:rdOb Y id g=some ⟨putAt cells (k * sz+j) ys,g,true,sz⟩)
  (hf:Frm (fun i=>F i∧i≠id∧¬ Fs k i) X Y) (hG:∀ i,G' i→F i∧i≠id∧i<Y.length∧(Fs k i∨X.length≤i)) (hp:P Y (putAt (chk cells sz k) j ys) x' G') :
  FPc P sz Y id g (putAt cells (k * sz+j) ys) (xs.set k x') F (fun m i=>if m=k then G' i else Fs m i):=by
 have hfit:=h.fit hk
 refine⟨ho,?_,h.own,fun m i hm hi=>?_,fun a b i ha hb hab h1=>?_,fun m hm=>?_⟩
 ·obtain⟨m,h1,h2⟩:=h.len
  exact⟨m,by rw[putAt_length (by omega)];exact h1,by simpa using h2⟩
 ·simp only[List.length_set]at hm
  by_cases e:m=k
  ·rw[if_pos e]at hi
   exact⟨(hG i hi).1,(hG i hi).2.1,(hG i hi).2.2.1⟩
  ·rw[if_neg e]at hi
   obtain⟨q1,q2,q3⟩:=h.sub m i hm hi
   exact⟨q1,q2,hf.lt q3 ⟨q1,q2,fun h2=>h.dis m k i hm hk e hi h2⟩⟩
 ·simp only[List.length_set]at ha hb
  by_cases e:a=k
  ·rw[if_pos e]at h1
   rw[if_neg (by omega)]
   intro h2
   rcases (hG i h1).2.2.2 with h3 | h3
   ·exact h.dis k b i hk hb (by omega) h3 h2
   ·have:=(h.sub b i hb h2).2.2;omega
  ·rw[if_neg e]at h1
   by_cases e2:b=k
   ·rw[if_pos e2]
    intro h2
    rcases (hG i h2).2.2.2 with h3 | h3
    ·exact h.dis k a i hk ha (by omega) h3 h1
    ·have:=(h.sub a i ha h1).2.2;omega
   ·rw[if_neg e2]
    exact h.dis a b i ha hb hab h1
 ·simp only[List.length_set]at hm
  by_cases e:m=k
  ·subst e
   rw[chk_put hj hfit,List.getElem_set_self]
   simpa using hp
  ·rw[chk_other e hj hfit,List.getElem_set_ne (Ne.symm e)]
   simp only[if_neg e]
   exact hP.st (hf.mono fun i hi=>⟨(h.sub m i hm hi).1,(h.sub m i hm hi).2.1,fun h2=>h.dis m k i hm hk e hi h2⟩) (h.el m hm)

theorem putAt_no (cs:List CV) (o:Nat):putAt cs o []=cs:=by simp[putAt]

theorem FPc.nest (hP:Stab P) (h:FPc P sz X id g cells xs F Fs) {k:Nat} (hk:k<xs.length) {x':α} (hl:X.length≤Y.length) (hf:Frm (fun i=>F i∧¬ Fs k i) X Y) (hp:P Y (chk cells sz k) x' (Fs k)):FPc P sz Y id g cells (xs.set k x') F Fs:=by
 have ho:rdOb Y id g=some ⟨cells,g,true,sz⟩:=hf.ob ⟨h.own,fun h2=>(h.sub k id hk h2).2.1 rfl⟩ h.ob
 have:=h.put (Y:=Y) (j:=0) (ys:=[]) (x':=x') (G':=Fs k) hP hk (by simp) (by rw[putAt_no];exact ho) (hf.mono fun i hi=>⟨hi.1,hi.2.2⟩)
  (fun i hi=>⟨(h.sub k i hk hi).1,(h.sub k i hk hi).2.1,Nat.lt_of_lt_of_le (h.sub k i hk hi).2.2 hl,.inl hi⟩) (by rw[putAt_no];exact hp)
 rw[putAt_no]at this
 have e:(fun (m i:Nat)=>if m=k then Fs k i else Fs m i)=Fs:=by
  funext m i
  by_cases e:m=k
  ·rw[if_pos e,e]
  ·rw[if_neg e]
 rwa [e]at this

theorem FRow.field (hP:Stab P) (h:FRow P sz X w xs F) {k:Nat} (hk:k<xs.length) (j:Nat) (hj:j<sz) (c:CV) (x':α) (hp:∀ Z cs G,P Z cs xs[k] G→P Z (putAt cs j [c]) x' G) :
  ∃ id g cells Z,idxOf sz w (k:Int)=some (.p id g (k * sz))∧rdOb X id g=some ⟨cells,g,true,sz⟩∧k * sz+j+1≤cells.length∧X.set id ⟨putAt cells (k * sz+j) [c],g,true,sz⟩=Z∧FRow P sz Z w (xs.set k x') F∧Frm (fun i=>¬ F i) X Z∧Z.length=X.length:=by
 obtain⟨id,g,cells,Fs,rfl,hc⟩:=h.open hk
 clear h
 have hfit:=hc.fit hk
 have hset:∀ G:Nat→Prop,¬ G id→Frm G X (X.set id ⟨putAt cells (k * sz+j) [c],g,true,sz⟩):=fun G hG=>Frm.set X _ hG
 refine⟨id,g,cells,_,idx_sl hk,hc.ob,by omega,rfl,?_,hset _ (fun hn=>hn hc.own),by simp⟩
 have:=(hc.put (Y:=X.set id ⟨putAt cells (k * sz+j) [c],g,true,sz⟩) (x':=x') (G':=Fs k) hP hk (j:=j) (ys:=[c]) (by simp;omega) (by rw[rdOb_set_self hc.lt];simp) (hset _ fun hn=>hn.2.1 rfl)
  (fun i hi=>⟨(hc.sub k i hk hi).1,(hc.sub k i hk hi).2.1,by simpa using (hc.sub k i hk hi).2.2,.inl hi⟩) (hp _ _ _ (hP.st (hset _ fun hn=>(hc.sub k id hk hn).2.1 rfl) (hc.el k hk)))).row
 simpa using this

theorem FRow.bound (h:FRow P sz X w xs F):FRow P sz X w xs (fun i=>F i∧i<X.length):=by
 rcases h with h | ⟨id,g,cells,Fs,h1,h⟩
 ·exact .inl h
 ·exact .inr ⟨id,g,cells,Fs,h1,⟨h.ob,h.len,⟨h.own,h.lt⟩,fun k i hk hi=>⟨⟨(h.sub k i hk hi).1,(h.sub k i hk hi).2.2⟩,(h.sub k i hk hi).2⟩,h.dis,h.el⟩⟩

theorem FRow.view {P':Hp→List CV→α→Prop} (h:FRow P sz X w xs F) (hP:∀ cs x G,x∈xs→P X cs x G→P' X cs x):Row P' sz X w xs:=by
 rcases h with⟨rfl,rfl⟩ | ⟨id,g,cells,Fs,rfl,h⟩
 ·exact Row.ns
 ·obtain⟨m,h1,h2⟩:=h.len
  have hm:xs.length * sz≤m * sz:=Nat.mul_le_mul_right _ h2
  refine⟨(List.range xs.length).map (chk cells sz),.inr ⟨id,g,0,_,rfl,h.ob,rfl,by simp only;omega,?_⟩,by simp,fun k cs x a b=>?_⟩
  ·rw[chks_flat _ _ _ (by omega),List.drop_zero]
  ·have hk:=(List.getElem?_eq_some_iff.1 b).1
   rw[List.getElem?_map,List.getElem?_range hk]at a
   simp at a
   subst a
   have:=List.getElem?_eq_getElem hk
   rw[this]at b
   injection b with b
   subst b
   exact⟨chk_len (h.fit hk),hP _ _ _ (List.getElem_mem hk) (h.el k hk)⟩

theorem FRow.snoc (hP:Stab P) (h:FRow P sz X w xs F) (hb:xs.length≤BIG) (hs:sz≤8) (hs0:0<sz) {cs:List CV} {x:α} {G:Nat→Prop} (hc:cs.length=sz) (hp:∀ Z,Frm G X Z→P Z cs x G) (hG:∀ i,G i→¬ F i∧i<X.length) :
  ∃ i' g' Z,doApp X sz w 1 cs=some (.c (.sl i' g' 0 (xs.length+1)),Z)∧FRow P sz Z (.sl i' g' 0 (xs.length+1)) (xs++[x]) (fun i=>F i∨G i∨(i=X.length∧i<Z.length))∧Frm (fun i=>¬ F i) X Z∧X.length≤Z.length:=by
 rcases h with⟨rfl,rfl⟩ | ⟨id,g,cells,Fs,rfl,h⟩
 ·refine⟨X.length,0,X++[⟨cs,0,true,sz⟩],?_,?_,Frm.app _ _ _,by simp⟩
  ·simp[doApp,fresh,hc,LIM];omega
  ·refine .inr ⟨X.length,0,cs,fun _=>G,rfl,by simp,⟨1,by simp[hc],by simp⟩,.inr (.inr ⟨rfl,by simp⟩),fun k i _ hi=>⟨.inr (.inl hi),?_,?_⟩,fun a b i ha hb hab=>?_,fun k hk=>?_⟩
   ·have:=(hG i hi).2;omega
   ·have:=(hG i hi).2;simp;omega
   ·simp at ha hb;omega
   ·have:k=0:=by simpa using hk
    subst this
    have e:chk cs sz 0=cs:=by unfold chk;simp[← hc]
    rw[e]
    exact hp _ (Frm.app _ _ _)
 ·obtain⟨m,h1,h2⟩:=h.len
  by_cases hm:xs.length=m
  ·-- grown
   have hl:xs.length * sz=cells.length:=by rw[h1,hm]
   have hbz:m * sz≤BIG * 8:=Nat.mul_le_mul (by omega) hs
   have hZ:∀ G:Nat→Prop,¬ G id→Frm G X (X.set id ⟨cells++cs,g+1,true,sz⟩):=fun G hG=>Frm.set X _ hG
   refine⟨id,g+1,X.set id ⟨cells++cs,g+1,true,sz⟩,?_,?_,hZ _ (fun hn=>hn h.own),by simp⟩
   ·have e1:¬ (xs.length * sz+cs.length≤cells.length):=by omega
    have e2:xs.length * sz=cells.length∧cells.length+cs.length≤LIM:=⟨hl,by simp only[BIG]at hbz;simp only[LIM];omega⟩
    simp only[doApp,h.ob,Option.bind_some]
    rw[if_pos (by simp),if_neg e1,if_pos e2]
   ·refine .inr ⟨id,g+1,cells++cs,fun k i=>if k<xs.length then Fs k i else G i,by simp,by rw[rdOb_set_self h.lt];simp,⟨m+1,by rw[List.length_append,h1,hc,Nat.succ_mul],by simp;omega⟩,Or.inl h.own,fun k i hk hi=>?_,fun a b i ha hb hab h3 h4=>?_,fun k hk=>?_⟩
    ·by_cases e:k<xs.length
     ·rw[if_pos e]at hi
      obtain⟨q1,q2,q3⟩:=h.sub k i e hi
      exact⟨.inl q1,q2,by simpa using q3⟩
     ·rw[if_neg e]at hi
      obtain⟨q2,q3⟩:=hG i hi
      exact⟨.inr (.inl hi),fun e=>q2 (e▸h.own),by simpa using q3⟩
    ·simp at ha hb
     by_cases e:a<xs.length
     ·rw[if_pos e]at h3
      by_cases e2:b<xs.length
      ·rw[if_pos e2]at h4;exact h.dis a b i e e2 hab h3 h4
      ·rw[if_neg e2]at h4;exact (hG i h4).1 (h.sub a i e h3).1
     ·rw[if_neg e]at h3
      by_cases e2:b<xs.length
      ·rw[if_pos e2]at h4;exact (hG i h3).1 (h.sub b i e2 h4).1
      ·omega
    ·by_cases e:k<xs.length
     ·rw[chk_app (h.fit e),List.getElem_append_left e]
      simp only[if_pos e]
      exact hP.st (hZ _ fun hn=>(h.sub k id e hn).2.1 rfl) (h.el k e)
     ·have e2:k=xs.length:=by simp at hk;omega
      subst e2
      rw[chk_last hl.symm hc]
      simp only[Nat.lt_irrefl,if_false]
      rw[List.getElem_append_right (Nat.le_refl _)]
      simpa using hp _ (hZ _ fun hn=>(hG id hn).1 h.own)
  ·-- there was room
   have hmm:(xs.length+1) * sz≤m * sz:=Nat.mul_le_mul_right _ (by omega)
   rw[Nat.succ_mul]at hmm
   have hle:xs.length * sz+cs.length≤cells.length:=by omega
   have hZ:∀ G:Nat→Prop,¬ G id→Frm G X (X.set id ⟨putAt cells (xs.length * sz) cs,g,true,sz⟩):=fun G hG=>Frm.set X _ hG
   refine⟨id,g,X.set id ⟨putAt cells (xs.length * sz) cs,g,true,sz⟩,?_,?_,hZ _ (fun hn=>hn h.own),by simp⟩
   ·simp only[doApp,h.ob,Option.bind_some]
    rw[if_pos (by simp),if_pos hle]
   ·have hp0:putAt cells (xs.length * sz) cs=putAt cells (xs.length * sz+0) cs:=rfl
    refine .inr ⟨id,g,putAt cells (xs.length * sz) cs,fun k i=>if k<xs.length then Fs k i else G i,by simp,by rw[rdOb_set_self h.lt];simp,⟨m,by rw[putAt_length hle];exact h1,by simp;omega⟩,Or.inl h.own,fun k i hk hi=>?_,fun a b i ha hb hab h3 h4=>?_,fun k hk=>?_⟩
    ·by_cases e:k<xs.length
     ·rw[if_pos e]at hi
      obtain⟨q1,q2,q3⟩:=h.sub k i e hi
      exact⟨.inl q1,q2,by simpa using q3⟩
     ·rw[if_neg e]at hi
      obtain⟨q2,q3⟩:=hG i hi
      exact⟨.inr (.inl hi),fun e=>q2 (e▸h.own),by simpa using q3⟩
    ·simp at ha hb
     by_cases e:a<xs.length
     ·rw[if_pos e]at h3
      by_cases e2:b<xs.length
      ·rw[if_pos e2]at h4;exact h.dis a b i e e2 hab h3 h4
      ·rw[if_neg e2]at h4;exact (hG i h4).1 (h.sub a i e h3).1
     ·rw[if_neg e]at h3
      by_cases e2:b<xs.length
      ·rw[if_pos e2]at h4;exact (hG i h3).1 (h.sub b i e2 h4).1
      ·omega
    ·by_cases e:k<xs.length
     ·rw[hp0,chk_other (by omega) (by omega) (by omega),List.getElem_append_left e]
      simp only[if_pos e]
      exact hP.st (hZ _ fun hn=>(h.sub k id e hn).2.1 rfl) (h.el k e)
     ·have e2:k=xs.length:=by simp at hk;omega
      subst e2
      have e3:putAt (chk cells sz xs.length) 0 cs=cs:=by
       unfold putAt
       rw[List.drop_eq_nil_of_le (by rw[chk_len (by omega)];omega)];simp
      rw[hp0,chk_put (by omega) (by omega),e3]
      simp only[Nat.lt_irrefl,if_false]
      rw[List.getElem_append_right (Nat.le_refl _)]
      simpa using hp _ (hZ _ fun hn=>(hG id hn).1 h.own)

end


def armF (_:Hp) (cs:List CV) (a:ArmR) (_:Nat→Prop):Prop:=cs=armC a

def insF (_:Hp) (cs:List CV) (x:InsR) (_:Nat→Prop):Prop:=cs=insC x

def phiF (X:Hp) (cs:List CV) (p:PhiR) (G:Nat→Prop):Prop:=∃ z,cs=[.i p.d,z]∧FRow armF 2 X z p.arms G∧p.arms.length≤BIG

def blkF (X:Hp) (cs:List CV) (b:BlkR) (G:Nat→Prop):Prop:=
 ∃ (z u:CV) (Gz Gu:Nat→Prop),cs=z :: u :: trmC b.term∧FRow phiF 2 X z b.phis Gz∧FRow insF 5 X u b.list Gu∧(∀ i,Gz i→G i∧¬ Gu i)∧(∀ i,Gu i→G i)∧b.phis.length≤BIG∧b.list.length≤BIG

theorem armF_st:Stab armF:=⟨fun _ h=>h⟩

theorem insF_st:Stab insF:=⟨fun _ h=>h⟩

theorem phiF_st:Stab phiF:=by
 constructor
 intro X Y cs p G hf h
 obtain⟨z,h1,h2,h3⟩:=h
 exact⟨z,h1,h2.fr armF_st hf,h3⟩

theorem blkF_st:Stab blkF:=by
 constructor
 intro X Y cs p G hf h
 obtain⟨z,u,Gz,Gu,h1,h2,h3,h4,h5,h6⟩:=h
 exact⟨z,u,Gz,Gu,h1,h2.fr phiF_st (hf.mono fun i hi=>(h4 i hi).1),h3.fr insF_st (hf.mono h5),h4,h5,h6⟩

abbrev Tree (S:Nat→Prop) (X:Hp) (v:CV) (bs:List BlkR):Prop:=FRow blkF 6 X v bs S

theorem phiF.p {X:Hp} {cs:List CV} {p:PhiR} {G:Nat→Prop} (h:phiF X cs p G):phiP BIG X cs p:=by
 obtain⟨z,h1,h2,h3⟩:=h
 exact⟨z,h1,h2.view fun _ _ _ _ h=>h,h3⟩

theorem blkF.p {X:Hp} {cs:List CV} {b:BlkR} {G:Nat→Prop} (h:blkF X cs b G):blkP BIG X cs b:=by
 obtain⟨z,u,Gz,Gu,h1,h2,h3,h4,h5,h6,h7⟩:=h
 exact⟨z,u,h1,h2.view fun _ _ _ _ h=>phiF.p h,h3.view fun _ _ _ _ h=>h,h6,h7⟩

theorem Tree.blocks {S:Nat→Prop} {X:Hp} {v:CV} {bs:List BlkR} (h:Tree S X v bs):Blocks X v bs:=FRow.view h fun _ _ _ _ h=>blkF.p h

theorem Tree.at_ {S:Nat→Prop} {X:Hp} {v:CV} {bs:List BlkR} (h:Tree S X v bs) {b:Nat} (hb:b<bs.length) :
  ∃ id g cells Fs z u Gz Gu,v=.sl id g 0 bs.length∧FPc blkF 6 X id g cells bs S Fs∧chk cells 6 b=z :: u :: trmC bs[b].term∧FRow phiF 2 X z bs[b].phis Gz∧FRow insF 5 X u bs[b].list Gu ∧
   (∀ i,Gz i→Fs b i∧¬ Gu i)∧(∀ i,Gu i→Fs b i)∧bs[b].phis.length≤BIG∧bs[b].list.length≤BIG:=by
 obtain⟨id,g,cells,Fs,rfl,hc⟩:=FRow.open h hb
 clear h
 obtain⟨z,u,Gz,Gu,h1,h2,h3,h4,h5,h6,h7⟩:=hc.el b hb
 exact⟨id,g,cells,Fs,z,u,Gz,Gu,rfl,hc,h1,h2,h3,h4,h5,h6,h7⟩
section

variable {α:Type} {P:Hp→List CV→α→(Nat→Prop)→Prop} {sz:Nat} {X:Hp} {F:Nat→Prop} {w:CV} {ys r:List α} {x:α} {i:Nat}

theorem mid_get (ys r:List α) (x:α):(ys++x :: r)[ys.length]? = some x:=by rw[List.getElem?_append_right (Nat.le_refl _),Nat.sub_self];rfl

theorem mid_set (ys r:List α) (x y:α):(ys++x :: r).set ys.length y=ys++y :: r:=by rw[List.set_append];simp

theorem mid_at (ys r:List α) (x:α) (h:ys.length<(ys++x :: r).length):(ys++x :: r)[ys.length]=x:=by
 have:=mid_get ys r x
 rw[List.getElem?_eq_getElem h]at this
 injection this

theorem FRow.fieldS (hP:Stab P) (h:FRow P sz X w (ys++x :: r) F) (hi:ys.length=i) (j:Nat) (hj:j<sz) (c:CV) (x':α) (hp:∀ Z cs G,P Z cs x G→P Z (putAt cs j [c]) x' G) :
  ∃ id g cells Z,idxOf sz w (i:Int)=some (.p id g (i * sz))∧rdOb X id g=some ⟨cells,g,true,sz⟩∧i * sz+j+1≤cells.length∧X.set id ⟨putAt cells (i * sz+j) [c],g,true,sz⟩=Z∧FRow P sz Z w (ys++x' :: r) F∧Frm (fun i=>¬ F i) X Z∧Z.length=X.length:=by
 subst hi
 have hk:ys.length<(ys++x :: r).length:=by simp
 obtain⟨id,g,cells,Z,h1,h2,h3,h4,h5,h6,h7⟩:=h.field hP hk j hj c x' (by rw[mid_at];exact hp)
 rw[mid_set]at h5
 exact⟨id,g,cells,Z,h1,h2,h3,h4,h5,h6,h7⟩

theorem FRow.nestS (hP:Stab P) (h:FRow P sz X w (ys++x :: r) F) (hi:ys.length=i) :
  ∃ id g cs,∃ G:Nat→Prop,idxOf sz w (i:Int)=some (.p id g (i * sz))∧cs.length=sz∧(∀ j c,cs[j]? = some c→rdC X id g (i * sz+j)=some c)∧P X cs x G∧(∀ i,G i→F i∧i≠id) ∧
   ∀ Y x',X.length≤Y.length→Frm (fun i=>F i∧¬ G i) X Y→P Y cs x' G→FRow P sz Y w (ys++x' :: r) F:=by
 subst hi
 have hk:ys.length<(ys++x :: r).length:=by simp
 obtain⟨id,g,cells,Fs,rfl,hc⟩:=h.open hk
 clear h
 have hel:=hc.el _ hk
 rw[mid_at]at hel
 refine⟨id,g,_,Fs ys.length,idx_sl hk,chk_len (hc.fit hk),fun j c hjc=>?_,hel,fun i hi=>⟨(hc.sub _ i hk hi).1,(hc.sub _ i hk hi).2.1⟩,fun Y x' hl hf hp=>?_⟩
 ·have hj:j<sz:=by
   have:=(List.getElem?_eq_some_iff.1 hjc).1
   rwa [chk_len (hc.fit hk)]at this
  rw[hc.c hj];exact hjc
 ·have:=(hc.nest hP hk hl hf hp).row
  rw[mid_set]at this
  simpa using this

theorem FRow.readS (h:FRow P sz X w (ys++x :: r) F) (hi:ys.length=i):∃ id g cs,∃ G:Nat→Prop,idxOf sz w (i:Int)=some (.p id g (i * sz))∧rdN X id g (i * sz) sz=some cs∧P X cs x G∧id<X.length:=by
 subst hi
 have hk:ys.length<(ys++x :: r).length:=by simp
 obtain⟨id,g,cells,Fs,rfl,hc⟩:=h.open hk
 have hel:=hc.el _ hk
 rw[mid_at]at hel
 exact⟨id,g,_,_,idx_sl hk,hc.nn hk,hel,hc.lt⟩

theorem FRow.wholeS (hP:Stab P) (h:FRow P sz X w (ys++x :: r) F) (hi:ys.length=i) {cs:List CV} {x':α} (hc:cs.length=sz) (hp:∀ Z,P Z cs x' (fun _=>False)) :
  ∃ id g cells Z,idxOf sz w (i:Int)=some (.p id g (i * sz))∧rdOb X id g=some ⟨cells,g,true,sz⟩∧i * sz+sz≤cells.length∧X.set id ⟨putAt cells (i * sz) cs,g,true,sz⟩=Z∧FRow P sz Z w (ys++x' :: r) F∧Frm (fun i=>¬ F i) X Z∧Z.length=X.length:=by
 subst hi
 have hk:ys.length<(ys++x :: r).length:=by simp
 obtain⟨id,g,cells,Fs,rfl,hc2⟩:=h.open hk
 clear h
 have hset:∀ G:Nat→Prop,¬ G id→Frm G X (X.set id ⟨putAt cells (ys.length * sz) cs,g,true,sz⟩):=fun G hG=>Frm.set X _ hG
 refine⟨id,g,cells,_,idx_sl hk,hc2.ob,hc2.fit hk,rfl,?_,hset _ (fun hn=>hn hc2.own),by simp⟩
 have e0:∀ q:List CV,q.length=sz→putAt q 0 cs=cs:=fun q hq=>by
  unfold putAt
  rw[List.drop_eq_nil_of_le (by omega)];simp
 have:=(hc2.put (Y:=X.set id ⟨putAt cells (ys.length * sz) cs,g,true,sz⟩) (x':=x') (G':=fun _=>False) hP hk (j:=0) (ys:=cs) (by omega) (by rw[Nat.add_zero,rdOb_set_self hc2.lt];simp) (hset _ fun hn=>hn.2.1 rfl)
  (fun i hi=>hi.elim) (by rw[e0 _ (chk_len (hc2.fit hk))];exact hp _)).row
 rw[mid_set]at this
 simpa using this

theorem drop_mid {xs:List α} {i:Nat} (hi:i<xs.length):xs.drop i=xs[i] :: xs.drop (i+1):=List.drop_eq_getElem_cons hi

end
theorem flat_map_len {α:Type} {c:α→List CV} {sz:Nat} (hc:∀ x,(c x).length=sz) (xs:List α):(xs.map c).flatten.length=xs.length * sz:=by
 rw[flat_len (sz:=sz) (fun cs h=>by obtain⟨x,_,rfl⟩:=List.mem_map.1 h;exact hc x),List.length_map]

theorem chk_map {α:Type} {c:α→List CV} {sz:Nat} (hc:∀ x,(c x).length=sz) {xs:List α} {k:Nat} (hk:k<xs.length):chk (xs.map c).flatten sz k=c xs[k]:=by
 unfold chk
 rw[chunk (fun cs h=>by obtain⟨x,_,rfl⟩:=List.mem_map.1 h;exact hc x) (by simpa using hk)]
 simp

theorem FRow.leaf {α:Type} {P:Hp→List CV→α→(Nat→Prop)→Prop} {c:α→List CV} {sz:Nat} (hc:∀ x,(c x).length=sz) (hP:∀ X x G,P X (c x) x G) {X:Hp} {id g:Nat} {xs:List α} {F:Nat→Prop} (h:rdOb X id g=some ⟨(xs.map c).flatten,g,true,sz⟩) (hF:F id) :
  FRow P sz X (.sl id g 0 xs.length) xs F:=
 .inr ⟨id,g,_,fun _ _=>False,rfl,h,⟨xs.length,flat_map_len hc xs,Nat.le_refl _⟩,hF,fun k i _ h=>h.elim,fun a b i _ _ _ h=>h.elim,fun k hk=>by rw[chk_map hc hk];exact hP _ _ _⟩

theorem row_src {α:Type} {c:α→List CV} {sz:Nat} {H:Hp} {v:CV} {xs:List α} (h:Row (fun _ cs x=>cs=c x) sz H v xs):srcOf H sz v=some (xs.length,(xs.map c).flatten):=by
 obtain⟨css,h1,h2,h3⟩:=h
 have e:css=xs.map c:=by
  apply List.ext_getElem?
  intro k
  by_cases hk:k<xs.length
  ·have a:=List.getElem?_eq_getElem (show k<css.length by omega)
   have b:=List.getElem?_eq_getElem hk
   have:=(h3 k _ _ a b).2
   rw[a,List.getElem?_map,b,show css[k]=c xs[k] from this];rfl
  ·rw[List.getElem?_eq_none (by omega),List.getElem?_eq_none (by simp;omega)]
 subst e
 rcases h1 with⟨rfl,h4,h5⟩ | ⟨id,g,off,o,rfl,h4,h5,h6,h7⟩
 ·have:xs=[]:=List.length_eq_zero_iff.1 h4
  subst this;rfl
 ·simp[srcOf,h4,h6,h7]

theorem arms_srcF {H:Hp} {v:CV} {xs:List ArmR} (h:Arms H v xs):srcOf H 2 v=some (xs.length,(xs.map armC).flatten):=row_src h

theorem list_srcF {H:Hp} {v:CV} {xs:List InsR} (h:List5 H v xs):srcOf H 5 v=some (xs.length,(xs.map insC).flatten):=row_src h

theorem fillApp {H:Hp} {id sz n:Nat} {cells:List CV} (h:rdOb H id 0=some ⟨[],0,true,sz⟩) (hl:cells.length=n * sz) (hs:0<sz) (hb:n * sz≤LIM) :
  ∃ g,doApp H sz (.sl id 0 0 0) n cells=some (.c (.sl id g 0 n),H.set id ⟨cells,g,true,sz⟩):=by
 by_cases h0:0<n
 ·refine⟨1,?_⟩
  have hp:0<n * sz:=Nat.mul_pos h0 hs
  have:=app_own (X:=H) (o:=id) (g:=0) (n:=0) (sz:=sz) (m:=n) (cs:=[]) (xs:=cells) h (by simp) (by omega) (by simpa [hl] using hb)
  simpa using this
 ·have hn:n=0:=by omega
  subst hn
  have:cells=[]:=List.length_eq_zero_iff.1 (by simpa using hl)
  subst this
  exact⟨0,by simp[doApp,h,putAt]⟩

theorem armC_len (x:ArmR):(armC x).length=2:=rfl

theorem insC_len (x:InsR):(insC x).length=5:=rfl

theorem flat_map_flat {α:Type} {c:α→List CV} (hc:∀ x,(c x).all flatC=true) (xs:List α):((xs.map c).flatten).all flatC=true:=by
 rw[List.all_eq_true]
 intro y hy
 obtain⟨cs,h1,h2⟩:=List.mem_flatten.1 hy
 obtain⟨x,_,rfl⟩:=List.mem_map.1 h1
 exact List.all_eq_true.1 (hc x) y h2

theorem big_lim {n sz:Nat} (hb:n≤BIG) (hs:sz≤8):n * sz≤LIM:=by
 have:=Nat.mul_le_mul hb hs
 simp only[BIG]at this
 simp only[LIM];omega

theorem cloneIns {H:Hp} {v:CV} {xs:List InsR} (hv:List5 H v xs) (hb:xs.length≤BIG) :
  ∃ w L,FRow insF 5 (H++L) w xs (·=H.length)∧∀ k:IV×Hp→Prop,CM 80 [.c v] H k=k (.c w,H++L):=by
 by_cases hn:v=.ns
 ·subst hn
  have hx:xs=[]:=List.length_eq_zero_iff.1 (by have:=hv.lenOf;simp[lenOf]at this;omega)
  subst hx
  refine⟨.ns,[],FRow.ns,fun k=>det (cw80 ?_) k⟩
  unfold vf80c
  simp
 ·obtain⟨id,gg,off,n,rfl⟩:∃ id gg off n,v=.sl id gg off n:=by
   obtain⟨css,h1,_⟩:=hv
   rcases h1 with⟨h,_⟩ | ⟨id,gg,off,o,h,_⟩
   ·exact absurd h hn
   ·exact⟨_,_,_,_,h⟩
  refine⟨.sl H.length 0 0 xs.length,[⟨(xs.map insC).flatten,0,true,5⟩],FRow.leaf insC_len (fun _ _ _=>rfl) (by simp) rfl,fun k=>det (cw80 ?_) k⟩
  unfold vf80c
  have hsrc:=list_srcF (hv.app [⟨[],0,true,5⟩])
  obtain⟨g,hg⟩:=fillApp (H:=H++[⟨[],0,true,5⟩]) (id:=H.length) (sz:=5) (n:=xs.length) (by simp) (flat_map_len insC_len xs) (by omega) (big_lim hb (by omega))
  simp[hsrc,hg]
  rw[gcRet_row ⟨_,rfl⟩ (Nat.le_refl _) (o:=⟨(xs.map insC).flatten,g,true,5⟩) (by simp) rfl (flat_map_flat (fun x=>rfl) xs)]

theorem cloneArm {H:Hp} {v:CV} {xs:List ArmR} (hv:Arms H v xs) (hb:xs.length≤BIG) :
  ∃ w L,FRow armF 2 (H++L) w xs (·=H.length)∧∀ k:IV×Hp→Prop,CM 81 [.c v] H k=k (.c w,H++L):=by
 by_cases hn:v=.ns
 ·subst hn
  have hx:xs=[]:=List.length_eq_zero_iff.1 (by have:=hv.lenOf;simp[lenOf]at this;omega)
  subst hx
  refine⟨.ns,[],FRow.ns,fun k=>det (cw81 ?_) k⟩
  unfold vf81c
  simp
 ·obtain⟨id,gg,off,n,rfl⟩:∃ id gg off n,v=.sl id gg off n:=by
   obtain⟨css,h1,_⟩:=hv
   rcases h1 with⟨h,_⟩ | ⟨id,gg,off,o,h,_⟩
   ·exact absurd h hn
   ·exact⟨_,_,_,_,h⟩
  refine⟨.sl H.length 0 0 xs.length,[⟨(xs.map armC).flatten,0,true,2⟩],FRow.leaf armC_len (fun _ _ _=>rfl) (by simp) rfl,fun k=>det (cw81 ?_) k⟩
  unfold vf81c
  have hsrc:=arms_srcF (hv.app [⟨[],0,true,2⟩])
  obtain⟨g,hg⟩:=fillApp (H:=H++[⟨[],0,true,2⟩]) (id:=H.length) (sz:=2) (n:=xs.length) (by simp) (flat_map_len armC_len xs) (by omega) (big_lim hb (by omega))
  simp[hsrc,hg]
  rw[gcRet_row ⟨_,rfl⟩ (Nat.le_refl _) (o:=⟨(xs.map armC).flatten,g,true,2⟩) (by simp) rfl (flat_map_flat (fun x=>rfl) xs)]
abbrev BOb (z u:CV) (t:TrmR):Ob:=⟨[z,u,.i t.kind,.i t.a,.i t.to,.i t.els],0,true,6⟩

set_option maxRecDepth 100000 in
theorem cloneIn {H X6:Hp} {o6:Nat} {wz u:CV} {ps:List PhiR} {t:TrmR} {e:Env} {Q:X×St→Prop} {x1 x2 x3 x5 x13 x14 x15:IV} (hp:Phis H wz ps) (hb:ps.length≤BIG) (hp6:Pre H X6) (ho:H.length≤o6) (h6:rdOb X6 o6 0=some (BOb .ns u t))
  (e1:Env.get e 1=x1) (e2:Env.get e 2=x2) (e3:Env.get e 3=x3) (e5:Env.get e 5=x5) (e13:Env.get e 13=x13) (e14:Env.get e 14=x14) (e15:Env.get e 15=x15) (e6:Env.get e 6=.c (.p o6 0 0)) (e26:Env.get e 26=.c wz) (e27:Env.get e 27=.c (.i ps.length)) (e28:Env.get e 28=.c (.i 0))
  (hQ:∀ (Y:Hp) (z:CV) (e':Env),X6.length≤Y.length→rdOb Y o6 0=some (BOb z u t)→FRow phiF 2 Y z ps (fun i=>X6.length≤i∧i<Y.length)→Frm (fun i=>i<X6.length∧i≠o6) X6 Y →
   Env.get e' 1=x1→Env.get e' 2=x2→Env.get e' 3=x3→Env.get e' 5=x5→Env.get e' 13=x13→Env.get e' 14=x14→Env.get e' 15=x15→Env.get e' 6=.c (.p o6 0 0)→Q (.exit 2,⟨e',Y⟩)) :
  loopD (exW CM [0,1,2,3,5,6,8,13,14,15,16,26,27,28,29] vf32b0) ⟨e,X6⟩ Q:=by
 obtain⟨I,hI⟩:∃ I:Nat→St→Prop,∀ j s,I j s↔(∃ z,X6.length≤s.h.length∧rdOb s.h o6 0=some (BOb z u t)∧FRow phiF 2 s.h z (ps.take j) (fun i=>X6.length≤i∧i<s.h.length)∧Frm (fun i=>i<X6.length∧i≠o6) X6 s.h ∧
   Env.get s.e 1=x1∧Env.get s.e 2=x2∧Env.get s.e 3=x3∧Env.get s.e 5=x5∧Env.get s.e 13=x13∧Env.get s.e 14=x14∧Env.get s.e 15=x15∧Env.get s.e 6=.c (.p o6 0 0)∧Env.get s.e 26=.c wz∧Env.get s.e 27=.c (.i ps.length)∧Env.get s.e 28=.c (.i j)):=⟨_,fun _ _=>Iff.rfl⟩
 have hl6:=rdOb_lt h6
 refine wp_for CM_mono ps.length I ((hI _ _).2 ⟨.ns,Nat.le_refl _,h6,FRow.ns,Frm.refl _ _,e1,e2,e3,e5,e13,e14,e15,e6,e26,e27,e28⟩) ?_ ?_
 ·rintro j ⟨e0,X7⟩ hj hIs
  obtain⟨z,hlX,hO,hR,hf,f1,f2,f3,f5,f13,f14,f15,f6,f26,f27,f28⟩:=(hI _ _).1 hIs
  simp only at hlX hO hR hf f1 f2 f3 f5 f13 f14 f15 f6 f26 f27 f28 ⊢
  have hp7:Pre H X7:=(hf.mono fun i (hi:i<H.length)=>by have:=hp6.le;omega).cut hp6
  obtain⟨p,hpp⟩:∃ p,ps[j]=p:=⟨_,rfl⟩
  obtain⟨id,g,off,wa,q1,q2,q3,qa,qb,_,_⟩:=Phis.get (Phis.pre hp7 hp) hj
  rw[hpp]at q2 q3 qa qb
  obtain⟨Y1,hY1⟩:∃ Y1,X7++[(⟨[.i p.d,wa],0,true,2⟩:Ob)]=Y1:=⟨_,rfl⟩
  have hp1:Pre X7 Y1:=⟨_,hY1.symm⟩
  have l1:Y1.length=X7.length+1:=by rw[← hY1];simp
  have n1:rdOb Y1 X7.length 0=some ⟨[.i p.d,wa],0,true,2⟩:=by rw[← hY1];simp
  have k1:=hp1.rdOb hO
  obtain⟨w8,L8,har,hcl⟩:=cloneArm (Arms.pre hp1 qa) qb
  obtain⟨Y2,hY2⟩:∃ Y2,Y1++L8=Y2:=⟨_,rfl⟩
  rw[hY2]at har
  have hp2:Pre Y1 Y2:=⟨_,hY2.symm⟩
  have l2:=hp2.le
  have n2:=hp2.rdOb n1
  have k2:=hp2.rdOb k1
  obtain⟨Y3,hY3⟩:∃ Y3,Y2++[(⟨[.i p.d,w8],0,true,2⟩:Ob)]=Y3:=⟨_,rfl⟩
  have hp3:Pre Y2 Y3:=⟨_,hY3.symm⟩
  have l3:Y3.length=Y2.length+1:=by rw[← hY3];simp
  have n3:rdOb Y3 Y2.length 0=some ⟨[.i p.d,w8],0,true,2⟩:=by rw[← hY3];simp
  have k3:=hp3.rdOb k2
  have hsrc:srcOf Y3 2 (.sl Y2.length 0 0 1)=some (1,[.i p.d,w8]):=by simp[srcOf,n3]
  have hR3:=hR.fr phiF_st (Frm.pre (hp1.trans (hp2.trans hp3)))
  obtain⟨iz,gz,Y4,happ,hR4,hf4,l4⟩:=hR3.snoc phiF_st (by rw[List.length_take];omega) (by omega) (by omega) (cs:=[.i p.d,w8]) (x:=p) (G:=fun i=>i=Y1.length) rfl
   (fun Z hZ=>⟨w8,rfl,har.fr armF_st ((Frm.pre hp3).trans hZ),qb⟩) (fun i hi=>by subst hi;omega)
  rw[List.length_take,Nat.min_eq_left (by omega)]at happ hR4
  have k4:rdOb Y4 o6 0=some (BOb z u t):=hf4.ob (by omega) k3
  obtain⟨Y5,hY5⟩:∃ Y5,Y4.set o6 (BOb (.sl iz gz 0 (j+1)) u t)=Y5:=⟨_,rfl⟩
  have l5:Y5.length=Y4.length:=by rw[← hY5];simp
  have k5:rdOb Y5 o6 0=some (BOb (.sl iz gz 0 (j+1)) u t):=by rw[← hY5,rdOb_set_self (rdOb_lt k4)];simp
  have hf5:∀ G:Nat→Prop,¬ G o6→Frm G Y4 Y5:=fun G hG=>by rw[← hY5];exact Frm.set _ _ hG
  unfold vf32b0
  rcases har.form with rfl | ⟨i8,g8,n8,rfl⟩
  all_goals simp[f1,f2,f3,f5,f13,f14,f15,f6,f26,f27,f28,hj,q1,q2.2.2,putAt,hY1,rdC_ob n1,rdC_ob k1,hcl,hY2,hY3,k1,k2,n1,n2,k3,k4,hsrc,happ,hY5,up1 hj hb]
  all_goals refine (hI _ _).2 ⟨.sl iz gz 0 (j+1),by simp only;omega,k5,?_,?_,by simp⟩
  any_goals
   rw[List.take_succ_eq_append_getElem hj,hpp]
   refine (hR4.fr phiF_st (hf5 _ (by omega))).mono fun i hi=>?_
   simp only
   omega
  all_goals
   refine hf.trans (((Frm.pre (hp1.trans (hp2.trans hp3))).trans (hf4.mono fun i hi=>?_)).trans (hf5 _ fun hn=>hn.2 rfl))
   omega
 ·rintro⟨e0,X7⟩ hIs
  obtain⟨z,hlX,hO,hR,hf,f1,f2,f3,f5,f13,f14,f15,f6,f26,f27,f28⟩:=(hI _ _).1 hIs
  simp only at hlX hO hR hf f1 f2 f3 f5 f13 f14 f15 f6 f26 f27 f28 ⊢
  rw[List.take_length]at hR
  unfold vf32b0
  simp[f1,f2,f3,f5,f13,f14,f15,f6,f26,f27,f28]
  exact hQ X7 z _ hlX hO hR hf (by simp) (by simp) (by simp) (by simp) (by simp) (by simp) (by simp) (by simp)

theorem pushBlk {X0 X X6 Y:Hp} {o3 o6 i:Nat} {w z u:CV} {m:Int} {b:BlkR} {bs:List BlkR} {Gu:Nat→Prop} (h3:o3<X0.length) (hT:Tree (fun j=>X0.length≤j∧j<X.length) X w bs) (hbs:bs.length=i) (hib:i≤BIG) (hO:rdOb X o3 0=some ⟨[w,.i m],0,true,2⟩) (hf:Frm (fun j=>j<o3) X0 X) (hlX:X0.length≤X.length)
  (hp6:Pre X X6) (ho6:X.length≤o6) (hu:FRow insF 5 X6 u b.list Gu) (hGu:∀ j,Gu j→X.length≤j∧j<X6.length∧j≠o6)
  (hlY:X6.length≤Y.length) (hY:rdOb Y o6 0=some (BOb z u b.term)) (hz:FRow phiF 2 Y z b.phis (fun j=>X6.length≤j∧j<Y.length)) (hfY:Frm (fun j=>j<X6.length∧j≠o6) X6 Y) (hb1:b.phis.length≤BIG) (hb2:b.list.length≤BIG) :
  ∃ i' g' Y1 Z Z2,Y++[BOb z u b.term]=Y1∧rdOb Y o3 0=some ⟨[w,.i m],0,true,2⟩∧srcOf Y1 6 (.sl Y.length 0 0 1)=some (1,[z,u,.i b.term.kind,.i b.term.a,.i b.term.to,.i b.term.els]) ∧
   doApp Y1 6 w 1 [z,u,.i b.term.kind,.i b.term.a,.i b.term.to,.i b.term.els]=some (.c (.sl i' g' 0 (i+1)),Z)∧rdOb Z o3 0=some ⟨[w,.i m],0,true,2⟩∧Z.set o3 ⟨[.sl i' g' 0 (i+1),.i m],0,true,2⟩=Z2 ∧
   rdOb Z2 o3 0=some ⟨[.sl i' g' 0 (i+1),.i m],0,true,2⟩∧Tree (fun j=>X0.length≤j∧j<Z2.length) Z2 (.sl i' g' 0 (i+1)) (bs++[b])∧Frm (fun j=>j<o3) X0 Z2∧X0.length≤Z2.length:=by
 obtain⟨Y1,hY1⟩:∃ Y1,Y++[BOb z u b.term]=Y1:=⟨_,rfl⟩
 have hp1:Pre Y Y1:=⟨_,hY1.symm⟩
 have l1:Y1.length=Y.length+1:=by rw[← hY1];simp
 have n1:rdOb Y1 Y.length 0=some (BOb z u b.term):=by rw[← hY1];simp
 have l6:=hp6.le
 have hXY:∀ G:Nat→Prop,(∀ j,G j→j<X.length)→Frm G X Y:=fun G hG=>(Frm.pre hp6).trans (hfY.mono fun j hj=>by have:=hG j hj;omega)
 have hOY:rdOb Y o3 0=some ⟨[w,.i m],0,true,2⟩:=(hXY (fun j=>j<X0.length) (fun j hj=>by omega)).ob h3 hO
 have hTY:=(hT.fr blkF_st (hXY _ fun j hj=>hj.2)).fr blkF_st (Frm.pre hp1)
 subst hbs
 have huY:FRow insF 5 Y1 u b.list Gu:=(hu.fr insF_st (hfY.mono fun j hj=>⟨(hGu j hj).2.1,(hGu j hj).2.2⟩)).fr insF_st (Frm.pre hp1)
 have hzY:=hz.fr phiF_st (Frm.pre hp1)
 obtain⟨i',g',Z,happ,hT4,hf4,l4⟩:=hTY.snoc blkF_st hib (by omega) (by omega) (cs:=[z,u,.i b.term.kind,.i b.term.a,.i b.term.to,.i b.term.els]) (x:=b) (G:=fun j=>X.length≤j∧j<Y.length) rfl
  (fun W hW=>⟨z,u,_,Gu,rfl,hzY.fr phiF_st (hW.mono fun j hj=>by omega),huY.fr insF_st (hW.mono fun j hj=>by have:=hGu j hj;omega),fun j hj=>⟨by omega,fun hg=>by have:=hGu j hg;omega⟩,fun j hj=>by have:=hGu j hj;omega,hb1,hb2⟩)
  (fun j hj=>by omega)
 have hO4:rdOb Z o3 0=some ⟨[w,.i m],0,true,2⟩:=hf4.ob (by omega) (hp1.rdOb hOY)
 refine⟨i',g',Y1,Z,_,hY1,hOY,by simp[srcOf,n1],happ,hO4,rfl,by rw[rdOb_set_self (rdOb_lt hO4)];simp,?_,?_,?_⟩
 ·refine (hT4.fr blkF_st (Frm.set _ _ (by omega))).mono fun j hj=>?_
  simp only[List.length_set]
  omega
 ·exact hf.trans ((hXY _ fun j hj=>by omega).trans ((Frm.pre hp1).trans ((hf4.mono fun j hj=>by omega).trans (Frm.set _ _ (by omega)))))
 ·simp only[List.length_set];omega

set_option maxRecDepth 100000 in
theorem implClone {H:Hp} {v:CV} {m:Int} {bs:List BlkR} (hv:Blocks H v bs) (hb:bs.length≤BIG) :
  CM 32 [.agg [v,.i m]] H fun r=>∃ w L,r=(.agg [w,.i m],H++L)∧Tree (fun i=>H.length≤i) (H++L) w bs:=by
 refine cw32 ?_
 unfold vf32c
 obtain⟨X0,hX0⟩:∃ X0,H++[(⟨[v,.i m],0,true,2⟩:Ob),⟨[.ns,.i 0],0,true,2⟩,⟨[.ns,.i m],0,true,2⟩]=X0:=⟨_,rfl⟩
 have hp0:Pre H X0:=⟨_,hX0.symm⟩
 have hl0:X0.length=H.length+3:=by rw[← hX0];simp
 have hB0:rdOb X0 H.length 0=some ⟨[v,.i m],0,true,2⟩:=by rw[← hX0];simp
 have hR0:rdOb X0 (H.length+1) 0=some ⟨[.ns,.i 0],0,true,2⟩:=by rw[← hX0];simp
 have hO0:rdOb X0 (H.length+2) 0=some ⟨[.ns,.i m],0,true,2⟩:=by rw[← hX0];simp
 have hv0:=Blocks.pre hp0 hv
 have hl:=hv0.lenOf
 simp[putAt,hX0,rdC_ob hB0,hl]
 obtain⟨I,hI⟩:∃ I:Nat→St→Prop,∀ i s,I i s↔(∃ w,rdOb s.h (H.length+2) 0=some ⟨[w,.i m],0,true,2⟩∧Tree (fun j=>X0.length≤j∧j<s.h.length) s.h w (bs.take i)∧Frm (fun j=>j<H.length+2) X0 s.h∧X0.length≤s.h.length ∧
   Env.get s.e 1=.c (.p H.length 0 0)∧Env.get s.e 2=.c (.p (H.length+1) 0 0)∧Env.get s.e 3=.c (.p (H.length+2) 0 0)∧Env.get s.e 13=.c v∧Env.get s.e 14=.c (.i bs.length)∧Env.get s.e 15=.c (.i i)):=⟨_,fun _ _=>Iff.rfl⟩
 refine wp_for CM_mono bs.length I ((hI _ _).2 ⟨.ns,hO0,FRow.ns,Frm.refl _ _,Nat.le_refl _,by simp⟩) ?_ ?_
 ·rintro i ⟨e,X⟩ hi hIs
  obtain⟨w,hO,hT,hf,hlX,e1,e2,e3,e13,e14,e15⟩:=(hI _ _).1 hIs
  simp only at hO hT hf hlX e1 e2 e3 e13 e14 e15 ⊢
  obtain⟨b,hbb⟩:∃ b,bs[i]=b:=⟨_,rfl⟩
  have hpX:Pre H X:=(hf.mono fun j (hj:j<H.length)=>by omega).cut hp0
  obtain⟨id,g,off,wz,wu,q1,q2,q3,qp,ql,qpl,qll,_,_⟩:=Blocks.get (Blocks.pre hpX hv) hi
  rw[hbb]at q2 q3 qp ql qpl qll
  obtain⟨X5,hX5⟩:∃ X5,X++[BOb wz wu b.term]=X5:=⟨_,rfl⟩
  have hl5:X5.length=X.length+1:=by rw[← hX5];simp
  have h5:rdOb X5 X.length 0=some (BOb wz wu b.term):=by rw[← hX5];simp
  have hp5:Pre X X5:=⟨_,hX5.symm⟩
  have ql5:=List5.pre hp5 ql
  obtain⟨u1,L1,hu1,hc1⟩:=cloneIns ql5 qll
  obtain⟨A1,hA1⟩:∃ A1,X5++L1=A1:=⟨_,rfl⟩
  rw[hA1]at hu1
  have pA1:Pre X5 A1:=⟨_,hA1.symm⟩
  obtain⟨A2,hA2⟩:∃ A2,A1++[BOb .ns .ns ⟨0,0,0,0⟩]=A2:=⟨_,rfl⟩
  have pA2:Pre A1 A2:=⟨_,hA2.symm⟩
  have lA2:A2.length=A1.length+1:=by rw[← hA2];simp
  have oA2:rdOb A2 A1.length 0=some (BOb .ns .ns ⟨0,0,0,0⟩):=by rw[← hA2];simp
  obtain⟨A3,hA3⟩:∃ A3,A2.set A1.length (BOb .ns u1 b.term)=A3:=⟨_,rfl⟩
  have lA3:A3.length=A2.length:=by rw[← hA3];simp
  have oA3:rdOb A3 A1.length 0=some (BOb .ns u1 b.term):=by rw[← hA3,rdOb_set_self (by omega)];simp
  have pXA:Pre X A3:=by rw[← hA3];exact ((hp5.trans pA1).trans pA2).set (by have:=(hp5.trans pA1).le;omega) _
  have bA2:rdOb A2 X.length 0=some (BOb wz wu b.term):=pA2.rdOb (pA1.rdOb h5)
  have bA3:rdOb A3 X.length 0=some (BOb wz wu b.term):=by rw[← hA3,rdOb_set_ne (by have:=pA1.le;omega)];exact pA2.rdOb (pA1.rdOb h5)
  have uA3:FRow insF 5 A3 u1 b.list (fun j=>j=X5.length∧j<A1.length):=by
   rw[← hA3]
   refine FRow.fr insF_st ?_ (Frm.set (G:=fun j=>j=X5.length∧j<A1.length) _ _ (by omega))
   refine FRow.fr insF_st ?_ (Frm.pre pA2)
   rcases hu1 with h | ⟨i1,g1,c1,F1,h1,h2⟩
   ·exact .inl h
   ·have hlt:=h2.lt
    have hown:i1=X5.length:=h2.own
    exact .inr ⟨i1,g1,c1,F1,h1,⟨h2.ob,h2.len,⟨hown,hlt⟩,fun k j hk hj=>⟨⟨(h2.sub k j hk hj).1,by have:=h2.sub k j hk hj;omega⟩,(h2.sub k j hk hj).2⟩,h2.dis,h2.el⟩⟩
  obtain⟨B1,hB1⟩:∃ B1,X5++[BOb .ns .ns ⟨0,0,0,0⟩]=B1:=⟨_,rfl⟩
  have pB1:Pre X5 B1:=⟨_,hB1.symm⟩
  have lB1:B1.length=X5.length+1:=by rw[← hB1];simp
  have oB1:rdOb B1 X5.length 0=some (BOb .ns .ns ⟨0,0,0,0⟩):=by rw[← hB1];simp
  obtain⟨u2,L2,hu2,hc2⟩:=cloneIns (List5.pre pB1 ql5) qll
  obtain⟨B2,hB2⟩:∃ B2,B1++L2=B2:=⟨_,rfl⟩
  rw[hB2]at hu2
  have pB2:Pre B1 B2:=⟨_,hB2.symm⟩
  have oB2:=pB2.rdOb oB1
  have lB2:=pB2.le
  obtain⟨B3,hB3⟩:∃ B3,B2.set X5.length (BOb .ns u2 b.term)=B3:=⟨_,rfl⟩
  have lB3:B3.length=B2.length:=by rw[← hB3];simp
  have oB3:rdOb B3 X5.length 0=some (BOb .ns u2 b.term):=by rw[← hB3,rdOb_set_self (by omega)];simp
  have pXB:Pre X B3:=by rw[← hB3];exact ((hp5.trans pB1).trans pB2).set (by omega) _
  have bB2:rdOb B2 X.length 0=some (BOb wz wu b.term):=pB2.rdOb (pB1.rdOb h5)
  have bB3:rdOb B3 X.length 0=some (BOb wz wu b.term):=by rw[← hB3,rdOb_set_ne (by omega)];exact bB2
  have uB3:FRow insF 5 B3 u2 b.list (fun j=>j=B1.length∧j<B2.length):=by
   rw[← hB3]
   refine FRow.fr insF_st ?_ (Frm.set (G:=fun j=>j=B1.length∧j<B2.length) _ _ (by omega))
   rcases hu2 with h | ⟨i1,g1,c1,F1,h1,h2⟩
   ·exact .inl h
   ·have hlt:=h2.lt
    have hown:i1=B1.length:=h2.own
    exact .inr ⟨i1,g1,c1,F1,h1,⟨h2.ob,h2.len,⟨hown,hlt⟩,fun k j hk hj=>⟨⟨(h2.sub k j hk hj).1,by have:=h2.sub k j hk hj;omega⟩,(h2.sub k j hk hj).2⟩,h2.dis,h2.el⟩⟩
  have h5A1:=pA1.rdOb h5
  have h5B1:=pB1.rdOb h5
  have lA1:=pA1.le
  have hti:(bs.take i).length=i:=by rw[List.length_take];omega
  have hsnoc:bs.take (i+1)=bs.take i++[b]:=by rw[List.take_succ_eq_append_getElem hi,hbb]
  unfold vf32b1
  rcases hu1.form with rfl | ⟨i1,g1,n1,rfl⟩<;>rcases hu2.form with rfl | ⟨i2,g2,n2,rfl⟩
  all_goals
   simp[vf32t0,e1,e2,e3,e13,e14,e15,hi,q1,q2.2.2.2.2.2.2.2.2.2.2,putAt,hX5,rdC_ob h5,rdN_ob h5,hc1,hc2,hA1,rdN_ob h5A1,h5,h5A1,hA2,bA2,oA2,hA3,hB1,h5B1,rdC_ob h5B1,hB2,bB2,rdN_ob bB2,oB2,hB3,rdC_ob bA3,rdC_ob bB3,qp.lenOf]
   refine⟨cloneIn qp qpl pXA (by omega) oA3 rfl rfl rfl rfl rfl rfl rfl rfl rfl rfl rfl ?_,cloneIn qp qpl pXB (by omega) oB3 rfl rfl rfl rfl rfl rfl rfl rfl rfl rfl rfl ?_⟩
   ·intro Y z e' hlY hY hz hfY f1 f2 f3 f5 f13 f14 f15 f6
    obtain⟨i',g',Y1,Z,Z2,a1,a2,a3,a4,a5,a6,a7,a8,a9,a10⟩:=pushBlk (by omega) hT hti (by omega) hO hf hlX pXA (by omega) uA3 (fun j hj=>by omega) hlY hY hz hfY qpl qll
    rw[← hsnoc]at a8
    simp[f1,f2,f3,f5,f13,f14,f15,f6,putAt,rdC_ob a2,rdN_ob hY,a1,a3,a4,a5,a6,up1 hi hb]
    exact (hI _ _).2 ⟨_,a7,a8,a9,a10,by simp[f1,f2,f3,f13,f14,f15]⟩
   ·intro Y z e' hlY hY hz hfY f1 f2 f3 f5 f13 f14 f15 f6
    obtain⟨i',g',Y1,Z,Z2,a1,a2,a3,a4,a5,a6,a7,a8,a9,a10⟩:=pushBlk (by omega) hT hti (by omega) hO hf hlX pXB (by omega) uB3 (fun j hj=>by omega) hlY hY hz hfY qpl qll
    rw[← hsnoc]at a8
    simp[f1,f2,f3,f5,f13,f14,f15,f6,putAt,rdC_ob a2,rdN_ob hY,a1,a3,a4,a5,a6,up1 hi hb]
    exact (hI _ _).2 ⟨_,a7,a8,a9,a10,by simp[f1,f2,f3,f13,f14,f15]⟩
 ·rintro⟨e,X⟩ hIs
  obtain⟨w,hO,hT,hf,hlX,e1,e2,e3,e13,e14,e15⟩:=(hI _ _).1 hIs
  simp only at hO hT hf hlX e1 e2 e3 e13 e14 e15 ⊢
  rw[List.take_length]at hT
  have hpX:Pre H X:=(hf.mono fun j (hj:j<H.length)=>by omega).cut hp0
  have hRX:rdOb X (H.length+1) 0=some ⟨[.ns,.i 0],0,true,2⟩:=hf.ob (by omega) hR0
  obtain⟨X2,hX2⟩:∃ X2,X.set (H.length+1) ⟨[w,.i m],0,true,2⟩=X2:=⟨_,rfl⟩
  have hR2:rdOb X2 (H.length+1) 0=some ⟨[w,.i m],0,true,2⟩:=by rw[← hX2,rdOb_set_self (rdOb_lt hRX)];simp
  have hp2:Pre H X2:=by rw[← hX2];exact hpX.set (by omega) _
  have hT2:Tree (fun j=>H.length≤j) X2 w bs:=by
   rw[← hX2]
   exact (hT.fr blkF_st (Frm.set _ _ (by omega))).mono fun j hj=>by omega
  unfold vf32b1
  rcases hT.form with rfl | ⟨i',g',n',rfl⟩
  ·simp[e1,e2,e3,e13,e14,e15,rdN_ob hO,hRX,putAt,hX2,rdN_ob hR2]
   have hbs:bs=[]:=by
    rcases hT with⟨_,h⟩ | ⟨_,_,_,_,h,_⟩
    ·exact h
    ·cases h
   rw[show gcRet H (.agg [.ns,.i m]) X2=(.agg [.ns,.i m],H) from gcRet_flat hp2 rfl]
   exact⟨.ns,[],by simp,.inl ⟨rfl,hbs⟩⟩
  ·simp[e1,e2,e3,e13,e14,e15,rdN_ob hO,hRX,putAt,hX2,rdN_ob hR2]
   rw[gc_agg (by simp[flatC])]
   obtain⟨L,rfl⟩:=hp2
   exact⟨_,L,rfl,hT2⟩
theorem rdC_to {X Y:Hp} (hp:Pre X Y) {id g off:Nat} {c:CV} (h:rdC X id g off=some c):rdC Y id g off=some c:=by
 unfold rdC at h ⊢
 cases ho:rdOb X id g with
 | none=>simp[ho]at h
 | some o=>rw[hp.rdOb ho];rw[ho]at h;exact h

theorem rdN_to {X Y:Hp} (hp:Pre X Y) {id g off n:Nat} {c:List CV} (h:rdN X id g off n=some c):rdN Y id g off n=some c:=by
 unfold rdN at h ⊢
 cases ho:rdOb X id g with
 | none=>simp[ho]at h
 | some o=>rw[hp.rdOb ho];rw[ho]at h;exact h

theorem rdOb_of_rdC {X:Hp} {id g off:Nat} {c:CV} (h:rdC X id g off=some c):∃ o,rdOb X id g=some o:=by
 unfold rdC at h
 cases ho:rdOb X id g with
 | none=>simp[ho]at h
 | some o=>exact⟨o,rfl⟩

set_option maxRecDepth 100000 in
theorem copyIn {B X6:Hp} {o6 bf i id g off:Nat} {v wz u:CV} {m:Int} {ps:List PhiR} {t:TrmR} {e:Env} {Q:X×St→Prop} {x2 x3:IV} (hp:Phis B wz ps) (hb:ps.length≤BIG) (hp6:Pre B X6) (ho:B.length≤o6) (h6:rdOb X6 o6 0=some (BOb .ns u t))
  (hBf:rdOb B bf 0=some ⟨[v,.i m],0,true,2⟩) (hix:idxOf 6 v (i:Int)=some (.p id g off)) (hwz:rdC B id g off=some wz)
  (e1:Env.get e 1=.c (.p bf 0 0)) (e2:Env.get e 2=x2) (e3:Env.get e 3=x3) (e4:Env.get e 4=.c (.i i)) (e5:Env.get e 5=.c (.p o6 0 0)) (e6:Env.get e 6=.c (.i 0))
  (hQ:∀ (Y:Hp) (z:CV) (e':Env),X6.length≤Y.length→rdOb Y o6 0=some (BOb z u t)→FRow phiF 2 Y z ps (fun i=>X6.length≤i∧i<Y.length)→Frm (fun i=>i<X6.length∧i≠o6) X6 Y →
   Env.get e' 1=.c (.p bf 0 0)→Env.get e' 2=x2→Env.get e' 3=x3→Env.get e' 4=.c (.i i)→Env.get e' 5=.c (.p o6 0 0)→Q (.exit 2,⟨e',Y⟩)) :
  loopD (exW CM [0,1,2,3,4,5,6,7,15,41] vf42b0) ⟨e,X6⟩ Q:=by
 obtain⟨I,hI⟩:∃ I:Nat→St→Prop,∀ j s,I j s↔(∃ z,X6.length≤s.h.length∧rdOb s.h o6 0=some (BOb z u t)∧FRow phiF 2 s.h z (ps.take j) (fun i=>X6.length≤i∧i<s.h.length)∧Frm (fun i=>i<X6.length∧i≠o6) X6 s.h ∧
   Env.get s.e 1=.c (.p bf 0 0)∧Env.get s.e 2=x2∧Env.get s.e 3=x3∧Env.get s.e 4=.c (.i i)∧Env.get s.e 5=.c (.p o6 0 0)∧Env.get s.e 6=.c (.i j)):=⟨_,fun _ _=>Iff.rfl⟩
 have hl6:=rdOb_lt h6
 obtain⟨oz,hoz⟩:=rdOb_of_rdC hwz
 refine wp_for CM_mono ps.length I ((hI _ _).2 ⟨.ns,Nat.le_refl _,h6,FRow.ns,Frm.refl _ _,e1,e2,e3,e4,e5,e6⟩) ?_ ?_
 ·rintro j ⟨e0,X7⟩ hj hIs
  obtain⟨z,hlX,hO,hR,hf,f1,f2,f3,f4,f5,f6⟩:=(hI _ _).1 hIs
  simp only at hlX hO hR hf f1 f2 f3 f4 f5 f6 ⊢
  have hp7:Pre B X7:=(hf.mono fun i (hi:i<B.length)=>by have:=hp6.le;omega).cut hp6
  have hwz7:=rdC_to hp7 hwz
  have hBf7:=hp7.rdOb hBf
  have hoz7:=hp7.rdOb hoz
  obtain⟨p,hpp⟩:∃ p,ps[j]=p:=⟨_,rfl⟩
  have hpX:=Phis.pre hp7 hp
  have hlz:=hpX.lenOf
  obtain⟨id2,g2,off2,wa,q1,q2,q3,qa,qb,_,_⟩:=Phis.get hpX hj
  rw[hpp]at q2 q3 qa qb
  obtain⟨Y1,hY1⟩:∃ Y1,X7++[(⟨[.i p.d,wa],0,true,2⟩:Ob)]=Y1:=⟨_,rfl⟩
  have hp1:Pre X7 Y1:=⟨_,hY1.symm⟩
  have l1:Y1.length=X7.length+1:=by rw[← hY1];simp
  have n1:rdOb Y1 X7.length 0=some ⟨[.i p.d,wa],0,true,2⟩:=by rw[← hY1];simp
  have k1:=hp1.rdOb hO
  obtain⟨Y2,hY2⟩:∃ Y2,Y1++[(⟨[],0,true,2⟩:Ob)]=Y2:=⟨_,rfl⟩
  have hp2:Pre Y1 Y2:=⟨_,hY2.symm⟩
  have l2:Y2.length=Y1.length+1:=by rw[← hY2];simp
  have n2:=hp2.rdOb n1
  have k2:=hp2.rdOb k1
  have m2:rdOb Y2 Y1.length 0=some ⟨[],0,true,2⟩:=by rw[← hY2];simp
  have hsrcA:=arms_srcF (Arms.pre (hp1.trans hp2) qa)
  obtain⟨ga,hga⟩:=fillApp (n:=p.arms.length) m2 (flat_map_len armC_len p.arms) (by omega) (big_lim qb (by omega))
  obtain⟨Y3,hY3⟩:∃ Y3,Y2.set Y1.length ⟨(p.arms.map armC).flatten,ga,true,2⟩=Y3:=⟨_,rfl⟩
  have l3:Y3.length=Y2.length:=by rw[← hY3];simp
  have hf23:∀ G:Nat→Prop,¬ G Y1.length→Frm G Y2 Y3:=fun G hG=>by rw[← hY3];exact Frm.set _ _ hG
  have n3:rdOb Y3 X7.length 0=some ⟨[.i p.d,wa],0,true,2⟩:=(hf23 (fun i=>i=X7.length) (by omega)).ob rfl n2
  have k3:rdOb Y3 o6 0=some (BOb z u t):=(hf23 (fun i=>i=o6) (by have:=rdOb_lt hO;omega)).ob rfl k2
  have m3:rdOb Y3 Y1.length ga=some ⟨(p.arms.map armC).flatten,ga,true,2⟩:=by rw[← hY3,rdOb_set_self (rdOb_lt m2)];simp
  have har:FRow armF 2 Y3 (.sl Y1.length ga 0 p.arms.length) p.arms (fun i=>i=Y1.length):=FRow.leaf armC_len (fun _ _ _=>rfl) m3 rfl
  obtain⟨Y4,hY4⟩:∃ Y4,Y3++[(⟨[.i p.d,.sl Y1.length ga 0 p.arms.length],0,true,2⟩:Ob)]=Y4:=⟨_,rfl⟩
  have hp4:Pre Y3 Y4:=⟨_,hY4.symm⟩
  have l4:Y4.length=Y3.length+1:=by rw[← hY4];simp
  have n4:rdOb Y4 Y3.length 0=some ⟨[.i p.d,.sl Y1.length ga 0 p.arms.length],0,true,2⟩:=by rw[← hY4];simp
  have k4:=hp4.rdOb k3
  have hsrc:srcOf Y4 2 (.sl Y3.length 0 0 1)=some (1,[.i p.d,.sl Y1.length ga 0 p.arms.length]):=by simp[srcOf,n4]
  have h74:∀ G:Nat→Prop,¬ G Y1.length→Frm G X7 Y4:=fun G hG=>(Frm.pre (hp1.trans hp2)).trans ((hf23 G hG).trans (Frm.pre hp4))
  have hR4:=hR.fr phiF_st (h74 _ (by omega))
  obtain⟨iz,gz,Y5,happ,hR5,hf5,l5⟩:=hR4.snoc phiF_st (by rw[List.length_take];omega) (by omega) (by omega) (cs:=[.i p.d,.sl Y1.length ga 0 p.arms.length]) (x:=p) (G:=fun i=>i=Y1.length) rfl
   (fun Z hZ=>⟨_,rfl,har.fr armF_st ((Frm.pre hp4).trans hZ),qb⟩) (fun i hi=>by subst hi;omega)
  rw[List.length_take,Nat.min_eq_left (by omega)]at happ hR5
  have k5:rdOb Y5 o6 0=some (BOb z u t):=hf5.ob (by omega) k4
  obtain⟨Y6,hY6⟩:∃ Y6,Y5.set o6 (BOb (.sl iz gz 0 (j+1)) u t)=Y6:=⟨_,rfl⟩
  have l6:Y6.length=Y5.length:=by rw[← hY6];simp
  have k6:rdOb Y6 o6 0=some (BOb (.sl iz gz 0 (j+1)) u t):=by rw[← hY6,rdOb_set_self (rdOb_lt k5)];simp
  have hf6:∀ G:Nat→Prop,¬ G o6→Frm G Y5 Y6:=fun G hG=>by rw[← hY6];exact Frm.set _ _ hG
  unfold vf42b0
  simp[f1,f2,f3,f4,f5,f6,rdC_ob hBf7,hix,hwz7,hlz,hj,q1,q2.2.2,putAt,hY1,rdC_ob n1,rdC_ob k1,hY2,rdC_ob n2,hsrcA,hga,hY3,hY4,k1,k2,n1,n2,k3,n3,k4,k5,hsrc,happ,hY6,up1 hj hb]
  refine (hI _ _).2 ⟨.sl iz gz 0 (j+1),by simp only;omega,k6,?_,?_,by simp⟩
  ·rw[List.take_succ_eq_append_getElem hj,hpp]
   refine (hR5.fr phiF_st (hf6 _ (by omega))).mono fun i hi=>?_
   simp only
   omega
  ·refine hf.trans (((h74 _ (by omega)).trans (hf5.mono fun i hi=>?_)).trans (hf6 _ fun hn=>hn.2 rfl))
   omega
 ·rintro⟨e0,X7⟩ hIs
  obtain⟨z,hlX,hO,hR,hf,f1,f2,f3,f4,f5,f6⟩:=(hI _ _).1 hIs
  simp only at hlX hO hR hf f1 f2 f3 f4 f5 f6 ⊢
  have hp7:Pre B X7:=(hf.mono fun i (hi:i<B.length)=>by have:=hp6.le;omega).cut hp6
  have hwz7:=rdC_to hp7 hwz
  have hBf7:=hp7.rdOb hBf
  have hlz:=(Phis.pre hp7 hp).lenOf
  rw[List.take_length]at hR
  unfold vf42b0
  simp[f1,f2,f3,f4,f5,f6,rdC_ob hBf7,hix,hwz7,hlz]
  exact hQ X7 z _ hlX hO hR hf (by simp) (by simp) (by simp) (by simp) (by simp)

set_option maxRecDepth 100000 in
theorem specCopy {H:Hp} {v:CV} {m:Int} {bs:List BlkR} (hv:Blocks H v bs) (hb:bs.length≤BIG) :
  CM 42 [.agg [v,.i m]] H fun r=>∃ w L,r=(.agg [w,.i m],H++L)∧Tree (fun i=>H.length≤i) (H++L) w bs:=by
 refine cw42 ?_
 unfold vf42c
 obtain⟨X0,hX0⟩:∃ X0,H++[(⟨[v,.i m],0,true,2⟩:Ob),⟨[.ns,.i 0],0,true,2⟩,⟨[.ns,.i m],0,true,2⟩]=X0:=⟨_,rfl⟩
 have hp0:Pre H X0:=⟨_,hX0.symm⟩
 have hl0:X0.length=H.length+3:=by rw[← hX0];simp
 have hB0:rdOb X0 H.length 0=some ⟨[v,.i m],0,true,2⟩:=by rw[← hX0];simp
 have hR0:rdOb X0 (H.length+1) 0=some ⟨[.ns,.i 0],0,true,2⟩:=by rw[← hX0];simp
 have hO0:rdOb X0 (H.length+2) 0=some ⟨[.ns,.i m],0,true,2⟩:=by rw[← hX0];simp
 have hl:=hv.lenOf
 simp[putAt,hX0,rdC_ob hB0]
 obtain⟨I,hI⟩:∃ I:Nat→St→Prop,∀ i s,I i s↔(∃ w,rdOb s.h (H.length+2) 0=some ⟨[w,.i m],0,true,2⟩∧Tree (fun j=>X0.length≤j∧j<s.h.length) s.h w (bs.take i)∧Frm (fun j=>j<H.length+2) X0 s.h∧X0.length≤s.h.length ∧
   Env.get s.e 1=.c (.p H.length 0 0)∧Env.get s.e 2=.c (.p (H.length+1) 0 0)∧Env.get s.e 3=.c (.p (H.length+2) 0 0)∧Env.get s.e 4=.c (.i i)):=⟨_,fun _ _=>Iff.rfl⟩
 refine wp_for CM_mono bs.length I ((hI _ _).2 ⟨.ns,hO0,FRow.ns,Frm.refl _ _,Nat.le_refl _,by simp⟩) ?_ ?_
 ·rintro i ⟨e,X⟩ hi hIs
  obtain⟨w,hO,hT,hf,hlX,e1,e2,e3,e4⟩:=(hI _ _).1 hIs
  simp only at hO hT hf hlX e1 e2 e3 e4 ⊢
  obtain⟨b,hbb⟩:∃ b,bs[i]=b:=⟨_,rfl⟩
  have hpX:Pre H X:=(hf.mono fun j (hj:j<H.length)=>by omega).cut hp0
  have hBX:rdOb X H.length 0=some ⟨[v,.i m],0,true,2⟩:=hf.ob (by omega) hB0
  obtain⟨id,g,off,wz,wu,q1,q2,q3,qp,ql,qpl,qll,_,_⟩:=Blocks.get (Blocks.pre hpX hv) hi
  rw[hbb]at q2 q3 qp ql qpl qll
  obtain⟨oz,hoz⟩:=rdOb_of_rdC q2.1
  have hcell:∀ Y,Pre X Y→rdOb Y H.length 0=some ⟨[v,.i m],0,true,2⟩∧rdC Y id g off=some wz∧rdC Y id g (off+1)=some wu∧rdN Y id g (off+2) 4=some [.i b.term.kind,.i b.term.a,.i b.term.to,.i b.term.els]∧rdOb Y id g=some oz:=
   fun Y hY=>⟨hY.rdOb hBX,rdC_to hY q2.1,rdC_to hY q2.2.1,rdN_to hY (by simp_all [BlkAt]),hY.rdOb hoz⟩
  have hsz:(b.list.map insC).flatten.length=b.list.length * 5:=flat_map_len insC_len _
  obtain⟨A1,hA1⟩:∃ A1,X++[(⟨[],0,true,5⟩:Ob)]=A1:=⟨_,rfl⟩
  have pA1:Pre X A1:=⟨_,hA1.symm⟩
  have lA1:A1.length=X.length+1:=by rw[← hA1];simp
  have mA1:rdOb A1 X.length 0=some ⟨[],0,true,5⟩:=by rw[← hA1];simp
  have sA1:=list_srcF (List5.pre pA1 ql)
  obtain⟨ga,hga⟩:=fillApp (n:=b.list.length) mA1 hsz (by omega) (big_lim qll (by omega))
  obtain⟨A2,hA2⟩:∃ A2,A1.set X.length ⟨(b.list.map insC).flatten,ga,true,5⟩=A2:=⟨_,rfl⟩
  have pA2:Pre X A2:=by rw[← hA2];exact pA1.set (Nat.le_refl _) _
  have lA2:A2.length=X.length+1:=by rw[← hA2];simp[lA1]
  have mA2:rdOb A2 X.length ga=some ⟨(b.list.map insC).flatten,ga,true,5⟩:=by rw[← hA2,rdOb_set_self (by omega)];simp
  obtain⟨A3,hA3⟩:∃ A3,A2++[BOb .ns .ns ⟨0,0,0,0⟩]=A3:=⟨_,rfl⟩
  have pA3:Pre A2 A3:=⟨_,hA3.symm⟩
  have lA3:A3.length=A2.length+1:=by rw[← hA3];simp
  have oA3:rdOb A3 A2.length 0=some (BOb .ns .ns ⟨0,0,0,0⟩):=by rw[← hA3];simp
  obtain⟨A4,hA4⟩:∃ A4,A3.set A2.length (BOb .ns (.sl X.length ga 0 b.list.length) b.term)=A4:=⟨_,rfl⟩
  have lA4:A4.length=A3.length:=by rw[← hA4];simp
  have oA4:rdOb A4 A2.length 0=some (BOb .ns (.sl X.length ga 0 b.list.length) b.term):=by rw[← hA4,rdOb_set_self (by omega)];simp
  have pXA:Pre X A4:=by rw[← hA4];exact (pA2.trans pA3).set (by omega) _
  have uA4:FRow insF 5 A4 (.sl X.length ga 0 b.list.length) b.list (fun j=>j=X.length):=by
   refine FRow.leaf insC_len (fun _ _ _=>rfl) ?_ rfl
   rw[← hA4,rdOb_set_ne (by omega)];exact pA3.rdOb mA2
  obtain⟨C2,hC2⟩:∃ C2,A1++[BOb .ns .ns ⟨0,0,0,0⟩]=C2:=⟨_,rfl⟩
  have pC2:Pre A1 C2:=⟨_,hC2.symm⟩
  have lC2:C2.length=A1.length+1:=by rw[← hC2];simp
  have oC2:rdOb C2 A1.length 0=some (BOb .ns .ns ⟨0,0,0,0⟩):=by rw[← hC2];simp
  have mC2:=pC2.rdOb mA1
  have sC2:=list_srcF (List5.pre (pA1.trans pC2) ql)
  obtain⟨gc,hgc⟩:=fillApp (n:=b.list.length) mC2 hsz (by omega) (big_lim qll (by omega))
  obtain⟨C3,hC3⟩:∃ C3,C2.set X.length ⟨(b.list.map insC).flatten,gc,true,5⟩=C3:=⟨_,rfl⟩
  have lC3:C3.length=C2.length:=by rw[← hC3];simp
  have pC3:Pre X C3:=by rw[← hC3];exact (pA1.trans pC2).set (Nat.le_refl _) _
  have oC3:rdOb C3 A1.length 0=some (BOb .ns .ns ⟨0,0,0,0⟩):=by rw[← hC3,rdOb_set_ne (by omega)];exact oC2
  have mC3:rdOb C3 X.length gc=some ⟨(b.list.map insC).flatten,gc,true,5⟩:=by rw[← hC3,rdOb_set_self (by omega)];simp
  obtain⟨C4,hC4⟩:∃ C4,C3.set A1.length (BOb .ns (.sl X.length gc 0 b.list.length) b.term)=C4:=⟨_,rfl⟩
  have lC4:C4.length=C3.length:=by rw[← hC4];simp
  have oC4:rdOb C4 A1.length 0=some (BOb .ns (.sl X.length gc 0 b.list.length) b.term):=by rw[← hC4,rdOb_set_self (by omega)];simp
  have pXC:Pre X C4:=by rw[← hC4];exact pC3.set (by omega) _
  have uC4:FRow insF 5 C4 (.sl X.length gc 0 b.list.length) b.list (fun j=>j=X.length):=by
   refine FRow.leaf insC_len (fun _ _ _=>rfl) ?_ rfl
   rw[← hC4,rdOb_set_ne (by omega)];exact mC3
  obtain⟨D1,hD1⟩:∃ D1,X++[BOb .ns .ns ⟨0,0,0,0⟩]=D1:=⟨_,rfl⟩
  have pD1:Pre X D1:=⟨_,hD1.symm⟩
  have lD1:D1.length=X.length+1:=by rw[← hD1];simp
  have oD1:rdOb D1 X.length 0=some (BOb .ns .ns ⟨0,0,0,0⟩):=by rw[← hD1];simp
  obtain⟨D2,hD2⟩:∃ D2,D1++[(⟨[],0,true,5⟩:Ob)]=D2:=⟨_,rfl⟩
  have pD2:Pre D1 D2:=⟨_,hD2.symm⟩
  have lD2:D2.length=D1.length+1:=by rw[← hD2];simp
  have oD2:=pD2.rdOb oD1
  have mD2:rdOb D2 D1.length 0=some ⟨[],0,true,5⟩:=by rw[← hD2];simp
  have sD2:=list_srcF (List5.pre (pD1.trans pD2) ql)
  obtain⟨gd,hgd⟩:=fillApp (n:=b.list.length) mD2 hsz (by omega) (big_lim qll (by omega))
  obtain⟨D3,hD3⟩:∃ D3,D2.set D1.length ⟨(b.list.map insC).flatten,gd,true,5⟩=D3:=⟨_,rfl⟩
  have lD3:D3.length=D2.length:=by rw[← hD3];simp
  have pD3:Pre X D3:=by rw[← hD3];exact (pD1.trans pD2).set (by omega) _
  have oD3:rdOb D3 X.length 0=some (BOb .ns .ns ⟨0,0,0,0⟩):=by rw[← hD3,rdOb_set_ne (by omega)];exact oD2
  have mD3:rdOb D3 D1.length gd=some ⟨(b.list.map insC).flatten,gd,true,5⟩:=by rw[← hD3,rdOb_set_self (by omega)];simp
  obtain⟨D4,hD4⟩:∃ D4,D3.set X.length (BOb .ns (.sl D1.length gd 0 b.list.length) b.term)=D4:=⟨_,rfl⟩
  have lD4:D4.length=D3.length:=by rw[← hD4];simp
  have oD4:rdOb D4 X.length 0=some (BOb .ns (.sl D1.length gd 0 b.list.length) b.term):=by rw[← hD4,rdOb_set_self (by omega)];simp
  have pXD:Pre X D4:=by rw[← hD4];exact pD3.set (by omega) _
  have uD4:FRow insF 5 D4 (.sl D1.length gd 0 b.list.length) b.list (fun j=>j=D1.length):=by
   refine FRow.leaf insC_len (fun _ _ _=>rfl) ?_ rfl
   rw[← hD4,rdOb_set_ne (by omega)];exact mD3
  have hti:(bs.take i).length=i:=by rw[List.length_take];omega
  have hsnoc:bs.take (i+1)=bs.take i++[b]:=by rw[List.take_succ_eq_append_getElem hi,hbb]
  have gX:=hcell X (Pre.refl _)
  have gA1:=hcell _ pA1
  have gA2:=hcell _ pA2
  have gA3:=hcell _ (pA2.trans pA3)
  have gC2:=hcell _ (pA1.trans pC2)
  have gC3:=hcell _ pC3
  have gD1:=hcell _ pD1
  have gD2:=hcell _ (pD1.trans pD2)
  have gD3:=hcell _ pD3
  unfold vf42b1
  simp[vf42t0,e1,e2,e3,e4,hl,hi,q1,putAt,gX,rdC_ob gX.1,gA1,rdC_ob gA1.1,gA2,rdC_ob gA2.1,gA3,rdC_ob gA3.1,gC2,rdC_ob gC2.1,gC3,rdC_ob gC3.1,gD1,rdC_ob gD1.1,gD2,rdC_ob gD2.1,gD3,rdC_ob gD3.1,
   hA1,sA1,hga,hA2,hA3,oA3,hA4,hC2,sC2,hgc,hC3,oC3,hC4,hD1,hD2,sD2,hgd,hD3,oD3,hD4]
  refine⟨⟨copyIn qp qpl pXA (by omega) oA4 hBX q1 q2.1 rfl rfl rfl rfl rfl rfl ?_,copyIn qp qpl pXC (by omega) oC4 hBX q1 q2.1 rfl rfl rfl rfl rfl rfl ?_⟩,copyIn qp qpl pXD (by omega) oD4 hBX q1 q2.1 rfl rfl rfl rfl rfl rfl ?_⟩
  ·intro Y z e' hlY hY hz hfY f1 f2 f3 f4 f5
   obtain⟨i',g',Y1,Z,Z2,a1,a2,a3,a4,a5,a6,a7,a8,a9,a10⟩:=pushBlk (by omega) hT hti (by omega) hO hf hlX pXA (by omega) uA4 (fun j hj=>by omega) hlY hY hz hfY qpl qll
   rw[← hsnoc]at a8
   simp[f1,f2,f3,f4,f5,putAt,rdC_ob a2,rdN_ob hY,a1,a3,a4,a5,a6,up1 hi hb]
   exact (hI _ _).2 ⟨_,a7,a8,a9,a10,by simp[f1,f2,f3]⟩
  ·intro Y z e' hlY hY hz hfY f1 f2 f3 f4 f5
   obtain⟨i',g',Y1,Z,Z2,a1,a2,a3,a4,a5,a6,a7,a8,a9,a10⟩:=pushBlk (by omega) hT hti (by omega) hO hf hlX pXC (by omega) uC4 (fun j hj=>by omega) hlY hY hz hfY qpl qll
   rw[← hsnoc]at a8
   simp[f1,f2,f3,f4,f5,putAt,rdC_ob a2,rdN_ob hY,a1,a3,a4,a5,a6,up1 hi hb]
   exact (hI _ _).2 ⟨_,a7,a8,a9,a10,by simp[f1,f2,f3]⟩
  ·intro Y z e' hlY hY hz hfY f1 f2 f3 f4 f5
   obtain⟨i',g',Y1,Z,Z2,a1,a2,a3,a4,a5,a6,a7,a8,a9,a10⟩:=pushBlk (by omega) hT hti (by omega) hO hf hlX pXD (by omega) uD4 (fun j hj=>by omega) hlY hY hz hfY qpl qll
   rw[← hsnoc]at a8
   simp[f1,f2,f3,f4,f5,putAt,rdC_ob a2,rdN_ob hY,a1,a3,a4,a5,a6,up1 hi hb]
   exact (hI _ _).2 ⟨_,a7,a8,a9,a10,by simp[f1,f2,f3]⟩
 ·rintro⟨e,X⟩ hIs
  obtain⟨w,hO,hT,hf,hlX,e1,e2,e3,e4⟩:=(hI _ _).1 hIs
  simp only at hO hT hf hlX e1 e2 e3 e4 ⊢
  rw[List.take_length]at hT
  have hpX:Pre H X:=(hf.mono fun j (hj:j<H.length)=>by omega).cut hp0
  have hBX:rdOb X H.length 0=some ⟨[v,.i m],0,true,2⟩:=hf.ob (by omega) hB0
  have hRX:rdOb X (H.length+1) 0=some ⟨[.ns,.i 0],0,true,2⟩:=hf.ob (by omega) hR0
  obtain⟨X2,hX2⟩:∃ X2,X.set (H.length+1) ⟨[w,.i m],0,true,2⟩=X2:=⟨_,rfl⟩
  have hR2:rdOb X2 (H.length+1) 0=some ⟨[w,.i m],0,true,2⟩:=by rw[← hX2,rdOb_set_self (rdOb_lt hRX)];simp
  have hp2:Pre H X2:=by rw[← hX2];exact hpX.set (by omega) _
  have hT2:Tree (fun j=>H.length≤j) X2 w bs:=by
   rw[← hX2]
   exact (hT.fr blkF_st (Frm.set _ _ (by omega))).mono fun j hj=>by omega
  unfold vf42b1
  rcases hT.form with rfl | ⟨i',g',n',rfl⟩
  ·simp[e1,e2,e3,e4,rdC_ob hBX,hl,rdN_ob hO,hRX,putAt,hX2,rdN_ob hR2]
   have hbs:bs=[]:=by
    rcases hT with⟨_,h⟩ | ⟨_,_,_,_,h,_⟩
    ·exact h
    ·cases h
   rw[show gcRet H (.agg [.ns,.i m]) X2=(.agg [.ns,.i m],H) from gcRet_flat hp2 rfl]
   exact⟨.ns,[],by simp,.inl ⟨rfl,hbs⟩⟩
  ·simp[e1,e2,e3,e4,rdC_ob hBX,hl,rdN_ob hO,hRX,putAt,hX2,rdN_ob hR2]
   rw[gc_agg (by simp[flatC])]
   obtain⟨L,rfl⟩:=hp2
   exact⟨_,L,rfl,hT2⟩
abbrev KOb (ks:List Bool):Ob:=⟨ks.map .b,0,true,1⟩

abbrev NOb (ns:List Int):Ob:=⟨ns.map .i,0,true,1⟩

structure FoldH (Gu:Nat→Prop) (kid nid:Nat) (u:CV) (Y0 Y:Hp) (xs:List InsR) (q:Kn):Prop where
 row:FRow insF 5 Y u xs Gu
 k:rdOb Y kid 0=some (KOb q.k)
 n:rdOb Y nid 0=some (NOb q.n)
 fr:Frm (fun j=>j<Y0.length∧¬ Gu j∧j≠kid∧j≠nid) Y0 Y
 len:Y0.length≤Y.length

theorem FoldH.app {Gu:Nat→Prop} {kid nid:Nat} {u:CV} {Y0 Y:Hp} {xs:List InsR} {q:Kn} (h:FoldH Gu kid nid u Y0 Y xs q) (L:Hp):FoldH Gu kid nid u Y0 (Y++L) xs q:=
 ⟨h.row.fr insF_st (Frm.app _ _ _),rdOb_app L h.k,rdOb_app L h.n,h.fr.trans (Frm.app _ _ _),by have:=h.len;simp only[List.length_append];omega⟩

theorem FoldH.put {Gu:Nat→Prop} {kid nid i:Nat} {u:CV} {Y0 Y:Hp} {ys r:List InsR} {x:InsR} {q:Kn} (h:FoldH Gu kid nid u Y0 Y (ys++x :: r) q) (hi:ys.length=i) (hk:¬ Gu kid) (hn:¬ Gu nid) (x':InsR) :
  ∃ id g cells Z,idxOf 5 u (i:Int)=some (.p id g (i * 5))∧rdOb Y id g=some ⟨cells,g,true,5⟩∧i * 5+5≤cells.length∧Y.set id ⟨putAt cells (i * 5) [.i x'.op,.i x'.d,.i x'.a,.i x'.b,.i x'.n],g,true,5⟩=Z∧FoldH Gu kid nid u Y0 Z (ys++x' :: r) q∧Frm (fun j=>¬ Gu j) Y Z:=by
 obtain⟨id,g,cells,Z,h1,h2,h3,h4,h5,h6,h7⟩:=h.row.wholeS insF_st hi (cs:=insC x') (x':=x') rfl (fun _=>rfl)
 exact⟨id,g,cells,Z,h1,h2,h3,h4,⟨h5,h6.ob hk h.k,h6.ob hn h.n,h.fr.trans (h6.mono fun j hj=>hj.2.1),by rw[h7];exact h.len⟩,h6⟩

theorem FoldH.other {Gu:Nat→Prop} {kid nid:Nat} {u:CV} {Y0 Y:Hp} {xs:List InsR} {q:Kn} (h:FoldH Gu kid nid u Y0 Y xs q) {id:Nat} (o:Ob) (h0:Y0.length≤id) (hG:¬ Gu id) (hk:id≠kid) (hn:id≠nid):FoldH Gu kid nid u Y0 (Y.set id o) xs q:=
 ⟨h.row.fr insF_st (Frm.set Y o hG),by rw[rdOb_set_ne hk.symm];exact h.k,by rw[rdOb_set_ne hn.symm];exact h.n,h.fr.trans (Frm.set Y o (by omega)),by simp;exact h.len⟩
theorem Tree.list {S:Nat→Prop} {X:Hp} {v:CV} {bs:List BlkR} {b:Nat} (h:Tree S X v bs) (hb:b<bs.length) :
  ∃ id g u,∃ Gu:Nat→Prop,idxOf 6 v (b:Int)=some (.p id g (b * 6))∧rdC X id g (b * 6+1)=some u∧FRow insF 5 X u bs[b].list Gu∧(∀ j,Gu j→S j∧j<X.length∧j≠id)∧S id∧bs[b].list.length≤BIG ∧
   ∀ Y ls,X.length≤Y.length→Frm (fun j=>S j∧¬ Gu j) X Y→FRow insF 5 Y u ls Gu→ls.length≤BIG→Tree S Y v (bs.set b ⟨bs[b].phis,ls,bs[b].term⟩):=by
 obtain⟨id,g,cells,Fs,z,u,Gz,Gu,rfl,hc,h1,h2,h3,h4,h5,h6,h7⟩:=h.at_ hb
 clear h
 refine⟨id,g,u,Gu,idx_sl hb,?_,h3,fun j hj=>⟨(hc.sub b j hb (h5 j hj)).1,(hc.sub b j hb (h5 j hj)).2.2,(hc.sub b j hb (h5 j hj)).2.1⟩,hc.own,h7,fun Y ls hl hf hr hlb=>?_⟩
 ·rw[hc.c (by omega),h1];rfl
 ·have:=(hc.nest blkF_st hb (x':=⟨bs[b].phis,ls,bs[b].term⟩) hl (hf.mono fun j hj=>⟨hj.1,fun h=>hj.2 (h5 j h)⟩)
   ⟨z,u,Gz,Gu,h1,h2.fr phiF_st (hf.mono fun j hj=>⟨(hc.sub b j hb (h4 j hj).1).1,(h4 j hj).2⟩),hr,h4,h5,h6,hlb⟩).row
  simpa using this

theorem Tree.phis {S:Nat→Prop} {X:Hp} {v:CV} {bs:List BlkR} {b:Nat} (h:Tree S X v bs) (hb:b<bs.length) :
  ∃ id g z,∃ Gz:Nat→Prop,idxOf 6 v (b:Int)=some (.p id g (b * 6))∧rdC X id g (b * 6)=some z∧FRow phiF 2 X z bs[b].phis Gz∧(∀ j,Gz j→S j∧j<X.length∧j≠id)∧S id∧bs[b].phis.length≤BIG ∧
   ∀ Y ps,X.length≤Y.length→Frm (fun j=>S j∧¬ Gz j) X Y→FRow phiF 2 Y z ps Gz→ps.length≤BIG→Tree S Y v (bs.set b ⟨ps,bs[b].list,bs[b].term⟩):=by
 obtain⟨id,g,cells,Fs,z,u,Gz,Gu,rfl,hc,h1,h2,h3,h4,h5,h6,h7⟩:=h.at_ hb
 clear h
 refine⟨id,g,z,Gz,idx_sl hb,?_,h2,fun j hj=>⟨(hc.sub b j hb (h4 j hj).1).1,(hc.sub b j hb (h4 j hj).1).2.2,(hc.sub b j hb (h4 j hj).1).2.1⟩,hc.own,h6,fun Y ps hl hf hr hlb=>?_⟩
 ·have:=hc.c (k:=b) (j:=0) (by omega)
  rw[Nat.add_zero]at this
  rw[this,h1];rfl
 ·have:=(hc.nest blkF_st hb (x':=⟨ps,bs[b].list,bs[b].term⟩) hl (hf.mono fun j hj=>⟨hj.1,fun h=>hj.2 (h4 j h).1⟩)
   ⟨z,u,Gz,Gu,h1,hr,h3.fr insF_st (hf.mono fun j hj=>⟨(hc.sub b j hb (h5 j hj)).1,fun h=>(h4 j h).2 hj⟩),h4,h5,hlb,h7⟩).row
  simpa using this

def FnRes (H:Hp) (g:FnR) (r:IV×Hp):Prop:=∃ w L,r=(.agg [w,.i g.values],H++L)∧Tree (fun i=>H.length≤i) (H++L) w g.blocks

theorem FnRes.mk {H X:Hp} {w:CV} {g:FnR} {S:Nat→Prop} (hp:Pre H X) (hT:Tree S X w g.blocks) (hS:∀ j,S j→H.length≤j):FnRes H g (gcRet H (.agg [w,.i g.values]) X):=by
 have hT:=FRow.mono hT hS
 rcases FRow.form hT with rfl | ⟨i',g',n',rfl⟩
 ·have hbs:g.blocks=[]:=by
   rcases hT with⟨_,h⟩ | ⟨_,_,_,_,h,_⟩
   ·exact h
   ·cases h
  rw[gcRet_flat hp (show flatV (.agg [.ns,.i g.values])=true from rfl)]
  exact⟨.ns,[],by simp,.inl ⟨rfl,hbs⟩⟩
 ·rw[gc_agg (by simp[flatC])]
  obtain⟨L,rfl⟩:=hp
  exact⟨_,L,rfl,hT⟩
structure CObj (X:Hp) (id g sz:Nat) (css:List (List CV)) (rest:List CV):Prop where
 ob:rdOb X id g=some ⟨css.flatten++rest,g,true,sz⟩
 len:∀ cs∈css,cs.length=sz

theorem CObj.at_ {X:Hp} {id g sz:Nat} {css:List (List CV)} {rest:List CV} (h:CObj X id g sz css rest) {k:Nat} (hk:k<css.length):rdN X id g (k * sz) sz=some css[k]:=by
 obtain⟨h1,h2⟩:=flat_drop h.len (List.getElem?_eq_getElem hk)
 rw[rdN_ob h.ob,if_pos (by simp only[List.length_append];omega)]
 simp only
 rw[List.drop_append,List.take_append_of_le_length (by rw[List.length_drop];omega),h1]

structure Onl (id:Nat) (X Y:Hp):Prop where
 fr:Frm (fun j=>j≠id) X Y
 len:X.length≤Y.length

theorem Onl.refl (id:Nat) (X:Hp):Onl id X X:=⟨Frm.refl _ _,Nat.le_refl _⟩

theorem Onl.app {id:Nat} {X Y:Hp} (h:Onl id X Y) (L:Hp):Onl id X (Y++L):=⟨h.fr.trans (Frm.app _ _ _),by have:=h.len;simp only[List.length_append];omega⟩

theorem Onl.set {id:Nat} {X Y:Hp} (h:Onl id X Y) (o:Ob):Onl id X (Y.set id o):=⟨h.fr.trans (Frm.set _ _ (by simp)),by have:=h.len;simp;omega⟩
theorem p20 (a b x:CV):putAt [a,b] 0 [x]=[x,b]:=rfl

theorem p21 (a b x:CV):putAt [a,b] 1 [x]=[a,x]:=rfl

theorem p22 (a b x y:CV):putAt [a,b] 0 [x,y]=[x,y]:=rfl

section

variable {α:Type} {P:Hp→List CV→α→(Nat→Prop)→Prop} {sz:Nat} {X Z:Hp} {id g:Nat} {cells:List CV} {xs:List α} {F:Nat→Prop} {Fs:Nat→Nat→Prop}

end
set_option maxRecDepth 100000 in
theorem armsIn {G:Nat→Prop} {Y0:Hp} {o7 o11:Nat} {wa:CV} {fr vv at_ d:Int} {as_:List ArmR} {e:Env} {Q:X×St→Prop} {x2 x4 x5 x31 x32 x33 x83 x84 x85:IV}
  (h0:FRow armF 2 Y0 wa as_ G) (hb:as_.length≤BIG) (hGb:∀ j,G j→j<Y0.length) (h7:rdOb Y0 o7 0=some ⟨[.i fr,.i vv],0,true,2⟩) (h11:rdOb Y0 o11 0=some ⟨[.i d,wa],0,true,2⟩) (hG7:¬ G o7) (hG11:¬ G o11)
  (e2:Env.get e 2=x2) (e4:Env.get e 4=x4) (e5:Env.get e 5=x5) (e31:Env.get e 31=x31) (e32:Env.get e 32=x32) (e33:Env.get e 33=x33) (e83:Env.get e 83=x83) (e84:Env.get e 84=x84) (e85:Env.get e 85=x85)
  (e7:Env.get e 7=.c (.p o7 0 0)) (e8:Env.get e 8=.c (.i at_)) (e11:Env.get e 11=.c (.p o11 0 0)) (e90:Env.get e 90=.c wa) (e91:Env.get e 91=.c (.i as_.length)) (e92:Env.get e 92=.c (.i 0))
  (hQ:∀ (Y:Hp) (e':Env),FRow armF 2 Y wa (as_.map (turnA fr at_)) G→Frm (fun j=>j<Y0.length∧¬ G j) Y0 Y→Y0.length≤Y.length →
   Env.get e' 2=x2→Env.get e' 4=x4→Env.get e' 5=x5→Env.get e' 31=x31→Env.get e' 32=x32→Env.get e' 33=x33→Env.get e' 83=x83→Env.get e' 84=x84→Env.get e' 85=x85→Env.get e' 7=.c (.p o7 0 0)→Env.get e' 8=.c (.i at_)→Q (.exit 4,⟨e',Y⟩)) :
  loopD (exW CM [0,1,2,3,4,5,7,8,9,11,12,13,29,31,32,33,34,61,72,83,84,85,86,90,91,92,93,101] vf21b0) ⟨e,Y0⟩ Q:=by
 obtain⟨I,hI⟩:∃ I:Nat→St→Prop,∀ i s,I i s↔(FRow armF 2 s.h wa ((as_.take i).map (turnA fr at_)++as_.drop i) G∧Frm (fun j=>j<Y0.length∧¬ G j) Y0 s.h∧Y0.length≤s.h.length ∧
   Env.get s.e 2=x2∧Env.get s.e 4=x4∧Env.get s.e 5=x5∧Env.get s.e 31=x31∧Env.get s.e 32=x32∧Env.get s.e 33=x33∧Env.get s.e 83=x83∧Env.get s.e 84=x84∧Env.get s.e 85=x85∧Env.get s.e 7=.c (.p o7 0 0)∧Env.get s.e 8=.c (.i at_) ∧
   Env.get s.e 11=.c (.p o11 0 0)∧Env.get s.e 90=.c wa∧Env.get s.e 91=.c (.i as_.length)∧Env.get s.e 92=.c (.i i)):=⟨_,fun _ _=>Iff.rfl⟩
 have hl7:=rdOb_lt h7
 have hl11:=rdOb_lt h11
 refine wp_for CM_mono as_.length I ((hI _ ⟨_,_⟩).2 ⟨by simpa using h0,Frm.refl _ _,Nat.le_refl _,e2,e4,e5,e31,e32,e33,e83,e84,e85,e7,e8,e11,e90,e91,e92⟩) ?_ ?_
 ·rintro i ⟨e0,Y⟩ hi hIs
  obtain⟨hR,hf,hl,f2,f4,f5,f31,f32,f33,f83,f84,f85,f7,f8,f11,f90,f91,f92⟩:=(hI _ _).1 hIs
  simp only at hR hf hl f2 f4 f5 f31 f32 f33 f83 f84 f85 f7 f8 f11 f90 f91 f92 ⊢
  obtain⟨a,ha⟩:∃ a,as_[i]=a:=⟨_,rfl⟩
  rw[drop_mid hi,ha]at hR
  obtain⟨A,hA⟩:∃ A,(as_.take i).map (turnA fr at_)=A:=⟨_,rfl⟩
  have hAl:A.length=i:=by rw[← hA];simp;omega
  have hAs:(as_.take (i+1)).map (turnA fr at_)=A++[turnA fr at_ a]:=by rw[List.take_succ_eq_append_getElem hi,List.map_append,hA,ha];rfl
  rw[hA]at hR
  obtain⟨rid,rg,cs,G',r1,r2,r3,r4⟩:=hR.readS hAl
  have r3:cs=armC a:=r3
  subst r3
  have r2':rdN Y rid rg (i * 2) 2=some [.i a.fr,.i a.v]:=r2
  obtain⟨Y1,hY1⟩:∃ Y1,Y++[(⟨[.i a.fr,.i a.v],0,true,2⟩:Ob)]=Y1:=⟨_,rfl⟩
  have hp1:Pre Y Y1:=⟨_,hY1.symm⟩
  have l1:Y1.length=Y.length+1:=by rw[← hY1];simp
  have n1:rdOb Y1 Y.length 0=some ⟨[.i a.fr,.i a.v],0,true,2⟩:=by rw[← hY1];simp
  have hR1:=hR.fr armF_st (Frm.pre hp1)
  have k7:=hp1.rdOb (hf.ob ⟨hl7,hG7⟩ h7)
  have k11:=hp1.rdOb (hf.ob ⟨hl11,hG11⟩ h11)
  have hend:∀ (Z:Hp) (e':Env) (a':ArmR),turnA fr at_ a=a'→FRow armF 2 Z wa (A++a' :: as_.drop (i+1)) G→Frm (fun j=>j<Y0.length∧¬ G j) Y0 Z→Y0.length≤Z.length →
    (Env.get e' 2=x2∧Env.get e' 4=x4∧Env.get e' 5=x5∧Env.get e' 31=x31∧Env.get e' 32=x32∧Env.get e' 33=x33∧Env.get e' 83=x83∧Env.get e' 84=x84∧Env.get e' 85=x85∧Env.get e' 7=.c (.p o7 0 0)∧Env.get e' 8=.c (.i at_) ∧
     Env.get e' 11=.c (.p o11 0 0)∧Env.get e' 90=.c wa∧Env.get e' 91=.c (.i as_.length)∧Env.get e' 92=.c (.i (i+1:Nat)))→I (i+1) ⟨e',Z⟩:=by
   intro Z e' a' ha' h1 h2 h3 he
   refine (hI _ ⟨_,_⟩).2 ⟨?_,h2,h3,he⟩
   rw[hAs,ha']
   simpa using h1
  unfold vf21b0
  cases hq:decide (a.fr=fr) with
  | true =>
   have ht:turnA fr at_ a=⟨at_,a.v⟩:=by unfold turnA;rw[if_pos (of_decide_eq_true hq)]
   obtain⟨id,g,cells,Z,s1,s2,s3,s4,s5,s6,s7⟩:=hR1.fieldS armF_st hAl 0 (by omega) (.i at_) ⟨at_,a.v⟩ (fun Z cs G h=>by have h:cs=armC _:=h;subst h;rfl)
   rw[Nat.add_zero]at s3 s4
   have ep:id=rid∧g=rg:=by have e:=s1.symm.trans r1;injection e with e;injection e with e1 e2;exact⟨e1,e2⟩
   obtain⟨rfl,rfl⟩:=ep
   simp[f2,f4,f5,f31,f32,f33,f83,f84,f85,f7,f8,f11,f90,f91,f92,hi,r1,r2',p20,p21,p22,hY1,rdC_ob n1,rdC_ob k7,hq,rdC_ob k11,s2,s3,s4,up1 hi hb]
   refine hend _ _ _ ht s5 (hf.trans ((Frm.pre hp1).trans (s6.mono fun j hj=>hj.2))) (by omega) ?_
   simp
  | false =>
   have ht:turnA fr at_ a=a:=by unfold turnA;rw[if_neg (of_decide_eq_false hq)]
   simp[f2,f4,f5,f31,f32,f33,f83,f84,f85,f7,f8,f11,f90,f91,f92,hi,r1,r2',p20,p21,p22,hY1,rdC_ob n1,rdC_ob k7,hq,up1 hi hb]
   refine hend _ _ _ ht hR1 (hf.trans (Frm.pre hp1)) (by omega) ?_
   simp
 ·rintro⟨e0,Y⟩ hIs
  obtain⟨hR,hf,hl,f2,f4,f5,f31,f32,f33,f83,f84,f85,f7,f8,f11,f90,f91,f92⟩:=(hI _ _).1 hIs
  simp only at hR hf hl f2 f4 f5 f31 f32 f33 f83 f84 f85 f7 f8 f11 f90 f91 f92 ⊢
  rw[List.take_length,List.drop_length,List.append_nil]at hR
  unfold vf21b0
  simp[f2,f4,f5,f31,f32,f33,f83,f84,f85,f7,f8,f11,f90,f91,f92]
  exact hQ Y _ hR hf hl (by simp) (by simp) (by simp) (by simp) (by simp) (by simp) (by simp) (by simp) (by simp) (by simp) (by simp)

set_option maxRecDepth 100000 in
theorem phisIn {G:Nat→Prop} {Y0:Hp} {o7:Nat} {z:CV} {fr vv at_:Int} {ps:List PhiR} {e:Env} {Q:X×St→Prop} {x2 x4 x5 x31 x32 x33:IV}
  (h0:FRow phiF 2 Y0 z ps G) (hb:ps.length≤BIG) (hGb:∀ j,G j→j<Y0.length) (h7:rdOb Y0 o7 0=some ⟨[.i fr,.i vv],0,true,2⟩) (hG7:¬ G o7)
  (e2:Env.get e 2=x2) (e4:Env.get e 4=x4) (e5:Env.get e 5=x5) (e31:Env.get e 31=x31) (e32:Env.get e 32=x32) (e33:Env.get e 33=x33) (e83:Env.get e 83=.c z) (e84:Env.get e 84=.c (.i ps.length)) (e85:Env.get e 85=.c (.i 0))
  (e7:Env.get e 7=.c (.p o7 0 0)) (e8:Env.get e 8=.c (.i at_))
  (hQ:∀ (Y:Hp) (e':Env),FRow phiF 2 Y z (ps.map (turnP fr at_)) G→Frm (fun j=>j<Y0.length∧¬ G j) Y0 Y→Y0.length≤Y.length →
   Env.get e' 2=x2→Env.get e' 4=x4→Env.get e' 5=x5→Env.get e' 31=x31→Env.get e' 32=x32→Env.get e' 33=x33→Q (.exit 2,⟨e',Y⟩)) :
  loopD (exW CM [0,1,2,3,4,5,7,8,9,11,12,13,29,31,32,33,34,61,72,83,84,85,86,90,91,92,93,101] vf21b1) ⟨e,Y0⟩ Q:=by
 obtain⟨I,hI⟩:∃ I:Nat→St→Prop,∀ i s,I i s↔(FRow phiF 2 s.h z ((ps.take i).map (turnP fr at_)++ps.drop i) G∧Frm (fun j=>j<Y0.length∧¬ G j) Y0 s.h∧Y0.length≤s.h.length ∧
   Env.get s.e 2=x2∧Env.get s.e 4=x4∧Env.get s.e 5=x5∧Env.get s.e 31=x31∧Env.get s.e 32=x32∧Env.get s.e 33=x33∧Env.get s.e 83=.c z∧Env.get s.e 84=.c (.i ps.length)∧Env.get s.e 85=.c (.i i)∧Env.get s.e 7=.c (.p o7 0 0)∧Env.get s.e 8=.c (.i at_)):=⟨_,fun _ _=>Iff.rfl⟩
 have hl7:=rdOb_lt h7
 refine wp_for CM_mono ps.length I ((hI _ ⟨_,_⟩).2 ⟨by simpa using h0,Frm.refl _ _,Nat.le_refl _,e2,e4,e5,e31,e32,e33,e83,e84,e85,e7,e8⟩) ?_ ?_
 ·rintro i ⟨e0,Y⟩ hi hIs
  obtain⟨hR,hf,hl,f2,f4,f5,f31,f32,f33,f83,f84,f85,f7,f8⟩:=(hI _ _).1 hIs
  simp only at hR hf hl f2 f4 f5 f31 f32 f33 f83 f84 f85 f7 f8 ⊢
  obtain⟨p,hp⟩:∃ p,ps[i]=p:=⟨_,rfl⟩
  rw[drop_mid hi,hp]at hR
  obtain⟨A,hA⟩:∃ A,(ps.take i).map (turnP fr at_)=A:=⟨_,rfl⟩
  have hAl:A.length=i:=by rw[← hA];simp;omega
  have hAs:(ps.take (i+1)).map (turnP fr at_)=A++[turnP fr at_ p]:=by rw[List.take_succ_eq_append_getElem hi,List.map_append,hA,hp];rfl
  rw[hA]at hR
  obtain⟨rid,rg,cs,G',r1,r2,r3,r4⟩:=hR.readS hAl
  obtain⟨wa,rfl,_,_⟩:=r3
  obtain⟨Y1,hY1⟩:∃ Y1,Y++[(⟨[.i p.d,wa],0,true,2⟩:Ob)]=Y1:=⟨_,rfl⟩
  have hp1:Pre Y Y1:=⟨_,hY1.symm⟩
  have l1:Y1.length=Y.length+1:=by rw[← hY1];simp
  have n1:rdOb Y1 Y.length 0=some ⟨[.i p.d,wa],0,true,2⟩:=by rw[← hY1];simp
  have hR1:=hR.fr phiF_st (Frm.pre hp1)
  have k7:=hp1.rdOb (hf.ob ⟨hl7,hG7⟩ h7)
  obtain⟨id,g,cs,Ga,s1,s2,s3,s4,s5,s6⟩:=hR1.nestS phiF_st hAl
  obtain⟨wa',rfl,har,hab⟩:=s4
  have ep:id=rid∧g=rg:=by have e:=s1.symm.trans r1;injection e with e;injection e with e1 e2;exact⟨e1,e2⟩
  obtain⟨rfl,rfl⟩:=ep
  have hwa:wa'=wa:=by
   have h1:=s3 1 _ rfl
   have h2:=rdN_to hp1 r2
   unfold rdC at h1
   unfold rdN at h2
   cases ho:rdOb Y1 id g with
   | none=>rw[ho]at h1;cases h1
   | some o =>
    rw[ho]at h1 h2
    simp only[Option.bind_some]at h1 h2
    split at h2
    ·injection h2 with h2
     have h3:((o.cells.drop (i * 2)).take 2)[1]? = some wa:=by rw[h2];rfl
     rw[List.getElem?_take,if_pos (by omega),List.getElem?_drop,h1]at h3
     injection h3
    ·cases h2
  subst hwa
  have hlw:=har.lenOf
  unfold vf21b1
  simp[f2,f4,f5,f31,f32,f33,f83,f84,f85,f7,f8,hi,r1,r2,p20,p21,p22,hY1,rdC_ob n1,hlw]
  refine armsIn (o7:=o7) (o11:=Y.length) (G:=Ga) (as_:=p.arms) (fr:=fr) (at_:=at_) (vv:=vv) (d:=p.d) (x2:=x2) (x4:=x4) (x5:=x5) (x31:=x31) (x32:=x32) (x33:=x33) (x83:=.c z) (x84:=.c (.i ps.length)) (x85:=.c (.i i))
   har hab (fun j hj=>by have:=hGb _ (s5 j hj).1;omega) k7 n1 (fun h=>hG7 (s5 _ h).1) (fun h=>by have:=hGb _ (s5 _ h).1;omega) (by simp) (by simp) (by simp) (by simp) (by simp) (by simp) (by simp) (by simp) (by simp) (by simp) (by simp) (by simp) (by simp) (by simp) (by simp) ?_
  intro Z e' hZ hfZ hlZ g2 g4 g5 g31 g32 g33 g83 g84 g85 g7 g8
  simp[g2,g4,g5,g31,g32,g33,g83,g84,g85,g7,g8,up1 hi hb]
  refine (hI _ ⟨_,_⟩).2 ⟨?_,hf.trans ((Frm.pre hp1).trans (hfZ.mono fun j hj=>⟨by omega,fun h=>hj.2 (s5 j h).1⟩)),by simp only;omega,by simp[g2,g4,g5,g31,g32,g33,g83,g84,g85,g7,g8]⟩
  rw[hAs]
  have:=s6 Z (turnP fr at_ p) hlZ (hfZ.monoL fun j hj h=>⟨hj,h.2⟩) ⟨wa',rfl,hZ,by simp[turnP];exact hab⟩
  simpa using this
 ·rintro⟨e0,Y⟩ hIs
  obtain⟨hR,hf,hl,f2,f4,f5,f31,f32,f33,f83,f84,f85,f7,f8⟩:=(hI _ _).1 hIs
  simp only at hR hf hl f2 f4 f5 f31 f32 f33 f83 f84 f85 f7 f8 ⊢
  rw[List.take_length,List.drop_length,List.append_nil]at hR
  unfold vf21b1
  simp[f2,f4,f5,f31,f32,f33,f83,f84,f85,f7,f8]
  exact hQ Y _ hR hf hl (by simp) (by simp) (by simp) (by simp) (by simp) (by simp)
end Go.Proofs.YtiecgmmaihckeaaGreat.Vm
