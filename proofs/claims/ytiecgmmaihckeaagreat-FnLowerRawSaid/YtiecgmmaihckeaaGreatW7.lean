/- A part of the proof: the machine and the walks. No conditions. -/
import Derived.Test.YtiecgmmaihckeaaGreatW6
namespace Go.Proofs.YtiecgmmaihckeaaGreat.Vm
open Go.RowKit (wrap64)
set_option linter.unusedSimpArgs false
set_option linter.unusedVariables false
set_option maxRecDepth 100000
theorem hasI_neg (bs:List BlkR) (b:Nat) {h:Int} (hh:h<0):hasI (domF bs b) h=false:=by
 cases e:hasI (domF bs b) h with
 | false=>rfl
 | true =>
  obtain⟨a,_,ha,_⟩:=domF_mem (hasI_iff.1 e)
  omega

theorem arm_eq {bs:List BlkR} (hin:InRange bs) {b:Nat} (hb:b<bs.length) (hs:(seenF bs).getD b false=true) (x:Int):atB bs x b bs[b].list.length=hasI (domF bs b) (homeF bs x).1:=by
 unfold atB
 by_cases he:(homeF bs x).1=(b:Int)
 ·rw[if_pos he,he,(hasI_dom hin hb hb).2 (Dom.self ((seen_rch hin hb).1 hs))]
  refine decide_eq_true ?_
  rcases defGo_spec x bs 0 with⟨h1,h2⟩ | ⟨i,hi,h1,h2⟩
  ·change (homeF bs x).1=-1 at h2;omega
  ·change (homeF bs x).1=_ at h1
   have:i=b:=by omega
   subst this
   rcases h2 with⟨h2,_⟩ | ⟨n,hn,h2,_⟩
   ·change (homeF bs x).2=_ at h2;omega
   ·change (homeF bs x).2=_ at h2;omega
 ·rw[if_neg he]

theorem known_call {Z:Hp} {v:CV} {f:FnR} {d:Nat} {x i:Int} {b:Nat} (hv:Blocks Z v f.blocks) (hsh:shapeB f=true) (hD:DomsIn Z d f.blocks) (hb:b<f.blocks.length) (k:IV×Hp→Prop) :
  CM 149 [.agg [v,.i f.values],.c (.sl d 0 0 f.blocks.length),.c (.i x),.c (.i b),.c (.i i)] Z k=k (.c (.b (atB f.blocks x b i)),Z):=by
 refine det (cw149 ?_) k
 unfold vf149c
 obtain⟨s1,s2,s3,s4⟩:=shape_len hsh
 have hbb:f.blocks.length≤BIG:=by simp only[BIG];omega
 obtain⟨X,hX⟩:∃ X,Z++[(⟨[v,.i f.values],0,true,2⟩:Ob)]=X:=⟨_,rfl⟩
 have hp:Pre Z X:=⟨_,hX.symm⟩
 have hB:rdOb X Z.length 0=some ⟨[v,.i f.values],0,true,2⟩:=by rw[← hX];simp
 have hcall:=fun k=>specDefAt (m:=f.values) (v:=x) (Blocks.pre hp hv) hbb (fun b hb x hx hm=>(insB_d (shape_ins hsh hb hx) hm).1) k
 obtain⟨h,hh⟩:∃ h,homeF f.blocks x=h:=⟨_,rfl⟩
 have hh':defGo x f.blocks 0=h:=hh
 rw[hh']at hcall
 obtain⟨h1,h2⟩:=h
 obtain⟨cells,d1,d2,d3⟩:=(hD.pre hp).ob
 obtain⟨c,c1,c2⟩:=d3 b hb
 by_cases he:h1=(b:Int)
 ·have:atB f.blocks x b i=decide (h2<i):=by unfold atB;rw[hh];simp[he]
  simp[hX,rdN_ob hB,hcall,he,this]
  rw[gcRet_flat hp rfl]
 ·have h0:atB f.blocks x b i=hasI (domF f.blocks b) h1:=by unfold atB;rw[hh];simp[he]
  by_cases hn:0≤h1
  ·simp[hX,rdN_ob hB,hcall,he,h0,hn,idxOf,hb,rdC_ob d1,c1,l3Has_call c2 (domF_le hbb b)]
   rw[gcRet_flat hp rfl]
  ·rw[hasI_neg _ _ (by omega)]at h0
   simp[hX,rdN_ob hB,hcall,he,h0,hn]
   rw[gcRet_flat hp rfl]

theorem notAny {p:Int→Bool} {xs:List Int} {k:Nat} (hk:k<xs.length) (h:p xs[k]=false):xs.any (fun x=>!p x)=true:=List.any_eq_true.2 ⟨_,List.getElem_mem hk,by simp[h]⟩

theorem anyNone {p:Int→Bool} {xs:List Int} (h:∀ k (hk:k<xs.length),p xs[k]=true):xs.any (fun x=>!p x)=false:=by
 rw[List.any_eq_false]
 intro x hx
 obtain⟨k,hk,rfl⟩:=List.getElem_of_mem hx
 simp[h k hk]

set_option maxRecDepth 100000 in
theorem specTaken {H:Hp} {v:CV} {f:FnR} (hv:Blocks H v f.blocks) (hsh:shapeB f=true) (hseen:∀ b,b<f.blocks.length→(seenF f.blocks).getD b false=true) (k:IV×Hp→Prop) :
  CM 92 [.agg [v,.i f.values]] H k=k (.c (.b (pB (TakenOk f.blocks))),H):=by
 refine det (cw92 ?_) k
 unfold vf92c
 obtain⟨s1,s2,s3,s4⟩:=shape_len hsh
 have hbb:f.blocks.length≤BIG:=by simp only[BIG];omega
 have hin:InRange f.blocks:=shape_range hsh
 obtain⟨X,hX⟩:∃ X,H++[(⟨[v,.i f.values],0,true,2⟩:Ob)]=X:=⟨_,rfl⟩
 have hp:Pre H X:=⟨_,hX.symm⟩
 have hB:rdOb X H.length 0=some ⟨[v,.i f.values],0,true,2⟩:=by rw[← hX];simp
 simp[hX,rdN_ob hB]
 refine (specDoms (m:=f.values) (hv.pre hp) hin hbb (by omega)).mono ?_
 rintro _ ⟨d,X1,cells,rfl,hp1,d1,d2,d3⟩
 have hD:DomsIn X1 d f.blocks:=DomsRes.mk' d1 d2 d3
 have hpH:Pre H X1:=hp.trans hp1
 have hB1:=hp1.rdOb hB
 have hv1:=Blocks.pre hpH hv
 have hl:=hv1.lenOf
 simp
 obtain⟨I,hI⟩:∃ I:Nat→St→Prop,∀ i st,I i st↔((∀ j,j<i→BlkOk f.blocks j)∧Pre X1 st.h ∧
   Env.get st.e 1=.c (.p H.length 0 0)∧Env.get st.e 3=.c (.sl d 0 0 f.blocks.length)∧Env.get st.e 4=.c (.i i)):=⟨_,fun _ _=>Iff.rfl⟩
 refine wp_for CM_mono f.blocks.length I ((hI _ _).2 ⟨by simp,Pre.refl _,by simp⟩) ?_ ?_
 ·rintro i ⟨e,Y⟩ hi hIs
  obtain⟨hdone,hY,e1,e3,e4⟩:=(hI _ _).1 hIs
  simp only at hY e1 e3 e4 ⊢
  have hmem:f.blocks[i]∈f.blocks:=List.getElem_mem hi
  have hlens:=shape_lens hsh hmem
  have hBY:=hY.rdOb hB1
  have hvY:=hv1.pre hY
  obtain⟨i0,g0,off0,w,u,q1,q1',q2,qp,ql,qpl,qll,_,_⟩:=Blocks.get hvY hi
  have q2':=q2 []
  rw[List.append_nil]at q2'
  obtain⟨t,ht⟩:∃ t,f.blocks[i].term=t:=⟨_,rfl⟩
  rw[ht]at q2'
  obtain⟨Y1,hY1⟩:∃ Y1,Y++[(⟨[w,u,.i t.kind,.i t.a,.i t.to,.i t.els],0,true,6⟩:Ob)]=Y1:=⟨_,rfl⟩
  have hpY1:Pre Y Y1:=⟨_,hY1.symm⟩
  have h5:rdOb Y1 Y.length 0=some ⟨[w,u,.i t.kind,.i t.a,.i t.to,.i t.els],0,true,6⟩:=by rw[← hY1];simp
  have hpl:=qp.lenOf
  have hll:=ql.lenOf
  have hbad:¬ BlkOk f.blocks i→pB (TakenOk f.blocks)=false:=fun h=>pB_false fun hc=>h (hc i)
  unfold vf92b5
  simp[e1,e3,e4,hi,rdC_ob hBY,hl,q1,q2'.2.2.2.2.2.2.2.2.2.2,put66c,hY1]
  obtain⟨J,hJ⟩:∃ J:Nat→St→Prop,∀ j st,J j st↔((∀ k (hk:k<f.blocks[i].list.length),k<j→(usesF f.blocks[i].list[k]).any (fun x=>!atB f.blocks x i k)=false)∧Pre Y1 st.h ∧
    Env.get st.e 1=.c (.p H.length 0 0)∧Env.get st.e 3=.c (.sl d 0 0 f.blocks.length)∧Env.get st.e 4=.c (.i i)∧Env.get st.e 5=.c (.p Y.length 0 0)∧Env.get st.e 6=.c (.i j)):=⟨_,fun _ _=>Iff.rfl⟩
  refine wp_for CM_mono f.blocks[i].list.length J ((hJ _ _).2 ⟨by simp,Pre.refl _,by simp[e1,e3,e4]⟩) ?_ ?_
  ·rintro j ⟨e',Z⟩ hj hJs
   obtain⟨hdl,hZ,e1,e3,e4,e5,e6⟩:=(hJ _ _).1 hJs
   simp only at hZ e1 e3 e4 e5 e6 ⊢
   have h5Z:=hZ.rdOb h5
   obtain⟨id2,g2,off2,r1,_,r2,_⟩:=List5.get (List5.pre (hpY1.trans hZ) ql) hj
   have r2':=r2 []
   rw[List.append_nil]at r2'
   obtain⟨x,hx⟩:∃ x,f.blocks[i].list[j]=x:=⟨_,rfl⟩
   rw[hx]at r2'
   obtain⟨uw,L,hw,hcall⟩:=specUses Z x
   obtain⟨Z2,hZ2⟩:∃ Z2,Z++L=Z2:=⟨_,rfl⟩
   have hwI:=hw.isI
   have hpZ2:Pre Z Z2:=⟨_,hZ2.symm⟩
   rw[hZ2]at hwI
   have hpA:Pre X1 Z2:=((hY.trans hpY1).trans hZ).trans hpZ2
   have hBZ:=hpA.rdOb hB1
   have hvZ:=hv1.pre hpA
   have hDZ:=hD.pre hpA
   have hwl:=hwI.lenOf
   have hul:=usesF_le x
   unfold vf92b1
   simp[e1,e3,e4,e5,e6,rdC_ob h5Z,hll,hj,r1,r2'.2.2.2.2.2,hcall,hZ2]
   obtain⟨K,hK⟩:∃ K:Nat→St→Prop,∀ k st,K k st↔((∀ m (hm:m<(usesF x).length),m<k→atB f.blocks (usesF x)[m] i j=true)∧st.h=Z2 ∧
     Env.get st.e 1=.c (.p H.length 0 0)∧Env.get st.e 3=.c (.sl d 0 0 f.blocks.length)∧Env.get st.e 4=.c (.i i)∧Env.get st.e 5=.c (.p Y.length 0 0)∧Env.get st.e 6=.c (.i j)∧Env.get st.e 7=.c uw∧Env.get st.e 8=.c (.i k)):=⟨_,fun _ _=>Iff.rfl⟩
   refine wp_for CM_mono (usesF x).length K ((hK _ _).2 ⟨by simp,rfl,by simp[e1,e3,e4,e5,e6]⟩) ?_ ?_
   ·rintro k ⟨e2,W⟩ hk hKs
    obtain⟨hdu,hW,e1,e3,e4,e5,e6,e7,e8⟩:=(hK _ _).1 hKs
    simp only at hW e1 e3 e4 e5 e6 e7 e8 ⊢
    subst hW
    obtain⟨id3,g3,off3,p1,p2⟩:=hwI.at_ hk
    unfold vf92b0
    cases hat:atB f.blocks (usesF x)[k] i j with
    | true =>
     simp[e1,e3,e4,e5,e6,e7,e8,hwl,hk,rdN_ob hBZ,p1,p2,known_call hvZ hsh hDZ hi,hat,up1 hk (show (usesF x).length≤BIG by simp only[BIG];omega)]
     refine (hK _ _).2 ⟨?_,rfl,by simp[e1,e3,e4,e5,e6,e7]⟩
     intro m hm hmk
     by_cases em:m=k
     ·subst em;exact hat
     ·exact hdu m hm (by omega)
    | false =>
     have hb:=hbad fun hc=>by
      have:=(hc hi).2.1 j hj
      rw[hx,notAny hk (p:=fun y=>atB f.blocks y i j) hat]at this;cases this
     simp[e1,e3,e4,e5,e6,e7,e8,hwl,hk,rdN_ob hBZ,p1,p2,known_call hvZ hsh hDZ hi,hat]
     rw[gcRet_flat (hpH.trans hpA) rfl,hb]
   ·rintro⟨e2,W⟩ hKs
    obtain⟨hdu,hW,e1,e3,e4,e5,e6,e7,e8⟩:=(hK _ _).1 hKs
    simp only at hW e1 e3 e4 e5 e6 e7 e8 ⊢
    subst hW
    unfold vf92b0
    simp[e1,e3,e4,e5,e6,e7,e8,hwl,up1 hj qll]
    refine (hJ _ _).2 ⟨?_,hZ.trans hpZ2,by simp[e1,e3,e4,e5]⟩
    intro m hm hmj
    by_cases em:m=j
    ·subst em;rw[hx];exact anyNone (p:=fun y=>atB f.blocks y i m) fun q hq=>hdu q hq hq
    ·exact hdl m hm (by omega)
  ·rintro⟨e',Z⟩ hJs
   obtain⟨hdl,hZ,e1,e3,e4,e5,e6⟩:=(hJ _ _).1 hJs
   simp only at hZ e1 e3 e4 e5 e6 ⊢
   have h5Z:=hZ.rdOb h5
   obtain⟨uw,L,hw,hcall⟩:=specTUses Z t
   obtain⟨Z2,hZ2⟩:∃ Z2,Z++L=Z2:=⟨_,rfl⟩
   have hwI:=hw.isI
   have hpZ2:Pre Z Z2:=⟨_,hZ2.symm⟩
   rw[hZ2]at hwI
   have hpA:Pre X1 Z2:=((hY.trans hpY1).trans hZ).trans hpZ2
   have hBZ:=hpA.rdOb hB1
   have hvZ:=hv1.pre hpA
   have hDZ:=hD.pre hpA
   have h5A:=hpZ2.rdOb h5Z
   have hwl:=hwI.lenOf
   have hul:=tusesF_le t
   unfold vf92b1
   simp[e1,e3,e4,e5,e6,rdC_ob h5Z,rdN_ob h5Z,hll,hcall,hZ2]
   obtain⟨K,hK⟩:∃ K:Nat→St→Prop,∀ k st,K k st↔((∀ m (hm:m<(tusesF t).length),m<k→atB f.blocks (tusesF t)[m] i f.blocks[i].list.length=true)∧st.h=Z2 ∧
     Env.get st.e 1=.c (.p H.length 0 0)∧Env.get st.e 3=.c (.sl d 0 0 f.blocks.length)∧Env.get st.e 4=.c (.i i)∧Env.get st.e 5=.c (.p Y.length 0 0)∧Env.get st.e 9=.c uw∧Env.get st.e 10=.c (.i k)):=⟨_,fun _ _=>Iff.rfl⟩
   refine wp_for CM_mono (tusesF t).length K ((hK _ _).2 ⟨by simp,rfl,by simp[e1,e3,e4,e5]⟩) ?_ ?_
   ·rintro k ⟨e2,W⟩ hk hKs
    obtain⟨hdu,hW,e1,e3,e4,e5,e9,e10⟩:=(hK _ _).1 hKs
    simp only at hW e1 e3 e4 e5 e9 e10 ⊢
    subst hW
    obtain⟨id3,g3,off3,p1,p2⟩:=hwI.at_ hk
    unfold vf92b2
    cases hat:atB f.blocks (tusesF t)[k] i f.blocks[i].list.length with
    | true =>
     simp[e1,e3,e4,e5,e9,e10,hwl,hk,rdN_ob hBZ,rdC_ob h5A,hll,p1,p2,known_call hvZ hsh hDZ hi,hat,up1 hk (show (tusesF t).length≤BIG by simp only[BIG];omega)]
     refine (hK _ _).2 ⟨?_,rfl,by simp[e1,e3,e4,e5,e9]⟩
     intro m hm hmk
     by_cases em:m=k
     ·subst em;exact hat
     ·exact hdu m hm (by omega)
    | false =>
     have hb:=hbad fun hc=>by
      have:=(hc hi).2.2
      rw[ht,notAny hk (p:=fun y=>atB f.blocks y i f.blocks[i].list.length) hat]at this;cases this
     simp[e1,e3,e4,e5,e9,e10,hwl,hk,rdN_ob hBZ,rdC_ob h5A,hll,p1,p2,known_call hvZ hsh hDZ hi,hat]
     rw[gcRet_flat (hpH.trans hpA) rfl,hb]
   ·rintro⟨e2,W⟩ hKs
    obtain⟨hdu,hW,e1,e3,e4,e5,e9,e10⟩:=(hK _ _).1 hKs
    simp only at hW e1 e3 e4 e5 e9 e10 ⊢
    subst hW
    have hterm:(tusesF f.blocks[i].term).any (fun x=>!atB f.blocks x i f.blocks[i].list.length)=false:=by
     rw[ht];exact anyNone (p:=fun y=>atB f.blocks y i f.blocks[i].list.length) fun q hq=>hdu q hq hq
    have hlist:ListOk f.blocks f.blocks[i] i:=fun q hq=>hdl q hq hq
    unfold vf92b2
    simp[e1,e3,e4,e5,e9,e10,hwl]
    have hqp:=Phis.pre ((hpY1.trans hZ).trans hpZ2) qp
    obtain⟨A,hA⟩:∃ A:Nat→St→Prop,∀ j st,A j st↔((∀ p∈f.blocks[i].phis.take j,∀ a∈p.arms,hasI (domF f.blocks a.fr.toNat) (homeF f.blocks a.v).1=true)∧Pre W st.h ∧
      Env.get st.e 1=.c (.p H.length 0 0)∧Env.get st.e 3=.c (.sl d 0 0 f.blocks.length)∧Env.get st.e 4=.c (.i i)∧Env.get st.e 5=.c (.p Y.length 0 0)∧Env.get st.e 11=.c (.i j)):=⟨_,fun _ _=>Iff.rfl⟩
    refine wp_for CM_mono f.blocks[i].phis.length A ((hA _ _).2 ⟨by simp,Pre.refl _,by simp[e1,e3,e4,e5]⟩) ?_ ?_
    ·rintro j ⟨e',V⟩ hj hAs
     obtain⟨hdp,hV,e1,e3,e4,e5,e11⟩:=(hA _ _).1 hAs
     simp only at hV e1 e3 e4 e5 e11 ⊢
     obtain⟨id2,g2,off2,w2,r1,r2,_,qa,_⟩:=Phis.get (Phis.pre hV hqp) hj
     obtain⟨ph,hph⟩:∃ ph,f.blocks[i].phis[j]=ph:=⟨_,rfl⟩
     have hphB:=shape_phi hsh hmem (List.getElem_mem hj)
     rw[hph]at r2 hphB qa
     obtain⟨_,hal,harm⟩:=phi_vals hphB
     have hall:=qa.lenOf
     have h5V:=hV.rdOb h5A
     unfold vf92b4
     simp[e1,e3,e4,e5,e11,rdC_ob h5V,hpl,hj]
     obtain⟨B,hBd⟩:∃ B:Nat→St→Prop,∀ k st,B k st↔((∀ a∈ph.arms.take k,hasI (domF f.blocks a.fr.toNat) (homeF f.blocks a.v).1=true)∧Pre V st.h ∧
       Env.get st.e 1=.c (.p H.length 0 0)∧Env.get st.e 3=.c (.sl d 0 0 f.blocks.length)∧Env.get st.e 4=.c (.i i)∧Env.get st.e 5=.c (.p Y.length 0 0)∧Env.get st.e 11=.c (.i j)∧Env.get st.e 12=.c (.i k)):=⟨_,fun _ _=>Iff.rfl⟩
     refine wp_for CM_mono ph.arms.length B ((hBd _ _).2 ⟨by simp,Pre.refl _,by simp[e1,e3,e4,e5,e11]⟩) ?_ ?_
     ·rintro k ⟨e2,U⟩ hk hBs
      obtain⟨hda,hU,e1,e3,e4,e5,e11,e12⟩:=(hBd _ _).1 hBs
      simp only at hU e1 e3 e4 e5 e11 e12 ⊢
      obtain⟨hfr,_⟩:=harm k hk
      obtain⟨id3,g3,off3,m1,⟨m2,m3,m4⟩,m5,m6,m7⟩:=Arms.get (qa.pre hU) hk
      have r2U:=hU.rdC r2.2.1
      obtain⟨a,ha⟩:∃ a,ph.arms[k]=a:=⟨_,rfl⟩
      rw[ha]at m2 m3 m4 hfr
      obtain⟨fb,hfb,hfbl⟩:∃ fb:Nat,a.fr=fb∧fb<f.blocks.length:=by
       have:=of_decide_eq_true hfr
       exact⟨a.fr.toNat,by omega,by omega⟩
      obtain⟨U1,hU1⟩:∃ U1,U++[(⟨[.i a.fr,.i a.v],0,true,2⟩:Ob)]=U1:=⟨_,rfl⟩
      have hpU1:Pre U U1:=⟨_,hU1.symm⟩
      have h13:rdOb U1 U.length 0=some ⟨[.i fb,.i a.v],0,true,2⟩:=by rw[← hU1,hfb];simp
      have h5U:=hU.rdOb h5V
      have hpB:Pre X1 U1:=((hpA.trans hV).trans hU).trans hpU1
      have hBU:=hpB.rdOb hB1
      have hvU:=hv1.pre hpB
      have hDU:=hD.pre hpB
      obtain⟨ib,gb,offb,wb,ub,z1,z2,_,_,zl,_,zll,_,_⟩:=Blocks.get hvU hfbl
      have hzl:=zl.lenOf
      have hae:=arm_eq hin hfbl (hseen fb hfbl) a.v
      have htn:a.fr.toNat=fb:=by omega
      unfold vf92b3
      cases hh:hasI (domF f.blocks fb) (homeF f.blocks a.v).1 with
      | true =>
       rw[hh]at hae
       simp[e1,e3,e4,e5,e11,e12,rdC_ob h5U,r1,r2U,hall,hk,m1,m4,putD0,hU1,rdN_ob hBU,rdC_ob hBU,rdC_ob h13,z1,z2.2.1,hzl,known_call hvU hsh hDU hfbl,hae,up1 hk (show ph.arms.length≤BIG by simp only[BIG];omega)]
       refine (hBd _ _).2 ⟨?_,hU.trans hpU1,by simp[e1,e3,e4,e5,e11]⟩
       intro y hy
       rw[List.take_succ_eq_append_getElem hk]at hy
       rcases List.mem_append.1 hy with h | h
       ·exact hda y h
       ·simp at h;rw[h,ha,htn];exact hh
      | false =>
       rw[hh]at hae
       have hb:=hbad fun hc=>by
        have:=(hc hi).1 ph (hph▸List.getElem_mem hj) a (ha▸List.getElem_mem hk)
        rw[htn,hh]at this;cases this
       simp[e1,e3,e4,e5,e11,e12,rdC_ob h5U,r1,r2U,hall,hk,m1,m4,putD0,hU1,rdN_ob hBU,rdC_ob hBU,rdC_ob h13,z1,z2.2.1,hzl,known_call hvU hsh hDU hfbl,hae]
       rw[gcRet_flat (hpH.trans hpB) rfl,hb]
     ·rintro⟨e2,U⟩ hBs
      obtain⟨hda,hU,e1,e3,e4,e5,e11,e12⟩:=(hBd _ _).1 hBs
      simp only at hU e1 e3 e4 e5 e11 e12 ⊢
      rw[List.take_length]at hda
      have h5U:=hU.rdOb h5V
      have r2U:=hU.rdC r2.2.1
      unfold vf92b3
      simp[e1,e3,e4,e5,e11,e12,rdC_ob h5U,r1,r2U,hall,up1 hj qpl]
      refine (hA _ _).2 ⟨?_,hV.trans hU,by simp[e1,e3,e4,e5]⟩
      intro p hp'
      rw[List.take_succ_eq_append_getElem hj]at hp'
      rcases List.mem_append.1 hp' with h | h
      ·exact hdp p h
      ·simp at h;rw[h,hph];exact hda
    ·rintro⟨e',V⟩ hAs
     obtain⟨hdp,hV,e1,e3,e4,e5,e11⟩:=(hA _ _).1 hAs
     simp only at hV e1 e3 e4 e5 e11 ⊢
     rw[List.take_length]at hdp
     have h5V:=hV.rdOb h5A
     unfold vf92b4
     simp[e1,e3,e4,e5,e11,rdC_ob h5V,hpl,up1 hi hbb]
     refine (hI _ _).2 ⟨?_,hpA.trans hV,by simp[e1,e3]⟩
     intro j hj
     by_cases ej:j=i
     ·subst ej;exact fun _=>⟨hdp,hlist,hterm⟩
     ·exact hdone j (by omega)
 ·rintro⟨e,Y⟩ hIs
  obtain⟨hdone,hY,e1,e3,e4⟩:=(hI _ _).1 hIs
  simp only at hY e1 e3 e4 ⊢
  have hyes:TakenOk f.blocks:=fun j hj=>hdone j hj hj
  unfold vf92b5
  simp[e1,e3,e4,rdC_ob (hY.rdOb hB1),hl]
  rw[gcRet_flat (hpH.trans hY) rfl,pB_true hyes]
theorem cf_any:∀ l:List Bool,(l.any fun y=>decide (false=y))=decide (0<cf l):=by
 intro l
 induction l with
 | nil=>simp[cf]
 | cons a r ih=>cases a<;>simp[cf]at ih ⊢<;>omega

def phis0 (bs:List BlkR):Nat:=match bs with
 | []=>0
 | b :: _=>b.phis.length

theorem phis0_eq {bs:List BlkR} (h:0<bs.length):phis0 bs=(bs[0]).phis.length:=by
 cases bs with
 | nil=>simp at h
 | cons b r=>rfl

noncomputable def checkW (f:FnR):Int:=
 if decide (0<cf (seenF f.blocks))=true then 2
 else if 0<phis0 f.blocks∨0<(predsF f.blocks 0).length then 3
 else if pB (ArmsRight f.blocks)=false then 4
 else if ((madeF f).any fun n=>decide (1<n))=true then 5
 else if pB (TakenOk f.blocks)=false then 6 else 0

noncomputable def checkF (f:FnR):Int:=if shapeB f=true∧copiesB f.blocks=false then checkW f else 1

theorem pB_not (p:Prop):pB (¬ p)=!pB p:=by
 by_cases h:p
 ·rw[pB_true h,pB_false (by simpa using h)];rfl
 ·rw[pB_false h,pB_true h];rfl

theorem check1 (H:Hp) (x:Int) (k:IV×Hp→Prop):CM 61 [.c (.i x)] H k=k (.c (.b (decide (1<x))),H):=by
 refine det (cw61 ?_) k
 unfold vf61c
 simp

theorem blkZ {X:Hp} {v:CV} {bs:List BlkR} (hv:Blocks X v bs) (h0:0<bs.length):∃ id g off w,idxOf 6 v 0=some (.p id g off)∧rdC X id g off=some w∧lenOf w=some (phis0 bs):=by
 obtain⟨id,g,off,w,u,q1,q2,_,qp,_⟩:=Blocks.get hv h0
 exact⟨id,g,off,w,q1,q2.1,by rw[phis0_eq h0];exact qp.lenOf⟩

set_option maxRecDepth 100000 in
theorem implCheck {H:Hp} {v:CV} {f:FnR} (hv:Blocks H v f.blocks) (hb:f.blocks.length≤BIG) (k:IV×Hp→Prop) :
  CM 18 [.agg [v,.i f.values]] H k=k (.c (.i (checkF f)),H):=by
 refine det (cw18 ?_) k
 unfold vf18c
 obtain⟨X,hX⟩:∃ X,H++[(⟨[v,.i f.values],0,true,2⟩:Ob)]=X:=⟨_,rfl⟩
 have hp:Pre H X:=⟨_,hX.symm⟩
 have hB:rdOb X H.length 0=some ⟨[v,.i f.values],0,true,2⟩:=by rw[← hX];simp
 have hvX:=Blocks.pre hp hv
 cases hsh:shapeB f with
 | false =>
  have:checkF f=1:=by unfold checkF;simp[hsh]
  simp[hX,rdN_ob hB,implShape hvX hb,hsh,this]
  rw[gcRet_flat hp rfl]
 | true =>
  cases hco:copiesB f.blocks with
  | true =>
   have:checkF f=1:=by unfold checkF;simp[hco]
   simp[hX,rdN_ob hB,implShape hvX hb,hsh,implCopies hvX hb,hco,this]
   rw[gcRet_flat hp rfl]
  | false =>
   have hck:checkF f=checkW f:=by unfold checkF;simp[hsh,hco]
   have h0:0<f.blocks.length:=shape_pos hsh
   have hin:InRange f.blocks:=shape_range hsh
   simp[hX,rdN_ob hB,implShape hvX hb,hsh,implCopies hvX hb,hco]
   rw[hck]
   refine (implOrder (m:=f.values) hvX hin hb h0).mono ?_
   rintro _ ⟨o,g,s,gs,X2,rfl,hp2,_,_,_,hs⟩
   have hB2:=hp2.rdOb hB
   have hv2:=hvX.pre hp2
   have hpH:=hp.trans hp2
   have hsl:(seenF f.blocks).length=f.blocks.length:=(walk0_ok h0).1
   have hIL:IsL X2 (.sl s gs 0 f.blocks.length) (seenF f.blocks):=by
    have:=IsL.mk (off:=0) (xs:=seenF f.blocks) hs rfl (by simp) (by rw[List.drop_zero,List.take_of_length_le (by simp)])
    rwa [hsl]at this
   have hcb:=fun k=>containsBool (x:=false) hIL (by omega) k
   simp only[cf_any]at hcb
   by_cases hcf:0<cf (seenF f.blocks)
   ·have:checkW f=2:=by unfold checkW;simp[hcf]
    simp[hcb,hcf,this]
    rw[gcRet_flat hpH rfl]
   ·obtain⟨id0,g0,off0,w0,z1,z2,z3⟩:=blkZ hv2 h0
    by_cases hph:0<phis0 f.blocks
    ·have:checkW f=3:=by unfold checkW;simp[hcf,hph]
     simp[hcb,hcf,rdC_ob hB2,z1,z2,z3,hph,this]
     rw[gcRet_flat hpH rfl]
    ·obtain⟨pw,L,hpw,hcall⟩:=implPreds (m:=f.values) (b:=0) hv2 hb
     obtain⟨X3,hX3⟩:∃ X3,X2++L=X3:=⟨_,rfl⟩
     have hp3:Pre X2 X3:=⟨_,hX3.symm⟩
     have hpwI:=hpw.isI
     rw[hX3]at hpwI
     have hplen:=hpwI.lenOf
     have hB3:=hp3.rdOb hB2
     have hv3:=hv2.pre hp3
     have hpH3:=hpH.trans hp3
     by_cases hpr:0<(predsF f.blocks 0).length
     ·have:checkW f=3:=by unfold checkW;simp[hcf,hpr]
      simp[hcb,hcf,rdC_ob hB2,rdN_ob hB2,z1,z2,z3,hph,hcall,hX3,hplen,hpr,this]
      rw[gcRet_flat hpH3 rfl]
     ·simp[hcb,hcf,rdC_ob hB2,rdN_ob hB2,z1,z2,z3,hph,hcall,hX3,hplen,hpr,rdN_ob hB3,implArms hv3 hsh,pB_not]
      cases har:pB (ArmsRight f.blocks) with
      | false =>
       have:checkW f=4:=by unfold checkW;simp[hcf,hph,hpr,har]
       simp[this]
       rw[gcRet_flat hpH3 rfl]
      | true =>
       obtain⟨X4,hX4⟩:∃ X4,X3++[(⟨(madeF f).map .i,0,true,1⟩:Ob)]=X4:=⟨_,rfl⟩
       have hp4:Pre X3 X4:=⟨_,hX4.symm⟩
       have hml:(madeF f).length=f.values.toNat:=by unfold madeF;rw[ticksB_len];simp
       have h4:rdOb X4 X3.length 0=some ⟨(madeF f).map .i,0,true,1⟩:=by rw[← hX4];simp
       have hMI:IsI X4 (.sl X3.length 0 0 f.values.toNat) (madeF f):=by
        have:=IsI.mk (off:=0) (xs:=madeF f) h4 rfl (by simp) (by rw[List.drop_zero,List.take_of_length_le (by simp)])
        rwa [hml]at this
       obtain⟨s1,s2,s3,s4⟩:=shape_len hsh
       have hcf2:=fun k=>containsFInt hMI (by rw[hml];simp only[BIG];omega) (fid:=61) (caps:=[]) (fun n=>decide (1<n)) (fun x _ k=>check1 X4 x k) k
       have hB4:=hp4.rdOb hB3
       have hv4:=hv3.pre hp4
       have hpH4:=hpH3.trans hp4
       simp[rdN_ob hB3,implMade hv3 hsh,hX4,hcf2]
       cases hma:(madeF f).any fun n=>decide (1<n) with
       | true =>
        have:checkW f=5:=by unfold checkW;simp[hcf,hph,hpr,har,hma]
        simp[this]
        rw[gcRet_flat hpH4 rfl]
       | false =>
        simp[rdN_ob hB4,implTaken hv4 hsh,pB_not]
        cases hta:pB (TakenOk f.blocks) with
        | false =>
         have:checkW f=6:=by unfold checkW;simp[hcf,hph,hpr,har,hma,hta]
         simp[this]
         rw[gcRet_flat hpH4 rfl]
        | true =>
         have:checkW f=0:=by unfold checkW;simp[hcf,hph,hpr,har,hma,hta]
         simp[this]
         rw[gcRet_flat hpH4 rfl]

set_option maxRecDepth 100000 in
theorem specCheck {H:Hp} {v:CV} {f:FnR} (hv:Blocks H v f.blocks) (hb:f.blocks.length≤BIG) (k:IV×Hp→Prop) :
  CM 43 [.agg [v,.i f.values]] H k=k (.c (.i (checkF f)),H):=by
 refine det (cw43 ?_) k
 unfold vf43c
 obtain⟨X,hX⟩:∃ X,H++[(⟨[v,.i f.values],0,true,2⟩:Ob)]=X:=⟨_,rfl⟩
 have hp:Pre H X:=⟨_,hX.symm⟩
 have hB:rdOb X H.length 0=some ⟨[v,.i f.values],0,true,2⟩:=by rw[← hX];simp
 have hvX:=Blocks.pre hp hv
 cases hsh:shapeB f with
 | false =>
  have:checkF f=1:=by unfold checkF;simp[hsh]
  simp[hX,rdN_ob hB,specShape hvX hb,hsh,this]
  rw[gcRet_flat hp rfl]
 | true =>
  cases hco:copiesB f.blocks with
  | true =>
   have:checkF f=1:=by unfold checkF;simp[hco]
   simp[hX,rdN_ob hB,specShape hvX hb,hsh,specCopies hvX hb,hco,this]
   rw[gcRet_flat hp rfl]
  | false =>
   have hck:checkF f=checkW f:=by unfold checkF;simp[hsh,hco]
   have h0:0<f.blocks.length:=shape_pos hsh
   have hin:InRange f.blocks:=shape_range hsh
   have hok:=walk0_ok h0
   have hol:(ordF f.blocks).length=(walk0 f.blocks).2.length:=by unfold ordF;simp
   have hocf:(ordF f.blocks).length+cf (seenF f.blocks)=f.blocks.length:=by unfold seenF;omega
   obtain⟨X2,hX2⟩:∃ X2,X++[(⟨(ordF f.blocks).map .i,0,true,1⟩:Ob)]=X2:=⟨_,rfl⟩
   have hp2:Pre X X2:=⟨_,hX2.symm⟩
   have hB2:=hp2.rdOb hB
   have hv2:=hvX.pre hp2
   have hpH:=hp.trans hp2
   have hl2:=hv2.lenOf
   rw[hck]
   by_cases hcf:0<cf (seenF f.blocks)
   ·have:checkW f=2:=by unfold checkW;simp[hcf]
    have hne:¬ ((ordF f.blocks).length:Int)=(f.blocks.length:Int):=by omega
    simp[hX,rdN_ob hB,rdC_ob hB,specShape hvX hb,hsh,specCopies hvX hb,hco,specOrderL hvX hin hb h0,hX2,rdC_ob hB2,hB,hB2,hl2,hne,this]
    rw[gcRet_flat hpH rfl]
   ·have heq:((ordF f.blocks).length:Int)=(f.blocks.length:Int):=by omega
    obtain⟨id0,g0,off0,w0,z1,z2,z3⟩:=blkZ hv2 h0
    by_cases hph:0<phis0 f.blocks
    ·have:checkW f=3:=by unfold checkW;simp[hcf,hph]
     simp[hX,rdN_ob hB,rdC_ob hB,specShape hvX hb,hsh,specCopies hvX hb,hco,specOrderL hvX hin hb h0,hX2,rdC_ob hB2,hB,hB2,hl2,heq,z1,z2,z3,hph,this]
     rw[gcRet_flat hpH rfl]
    ·obtain⟨pw,L,hpw,hcall⟩:=specPreds (m:=f.values) (b:=0) hv2 hb
     obtain⟨X3,hX3⟩:∃ X3,X2++L=X3:=⟨_,rfl⟩
     have hp3:Pre X2 X3:=⟨_,hX3.symm⟩
     have hpwI:=hpw.isI
     rw[hX3]at hpwI
     have hplen:=hpwI.lenOf
     have hB3:=hp3.rdOb hB2
     have hv3:=hv2.pre hp3
     have hpH3:=hpH.trans hp3
     by_cases hpr:0<(predsF f.blocks 0).length
     ·have:checkW f=3:=by unfold checkW;simp[hcf,hpr]
      simp[hX,rdN_ob hB,rdC_ob hB,specShape hvX hb,hsh,specCopies hvX hb,hco,specOrderL hvX hin hb h0,hX2,rdC_ob hB2,hB,hB2,rdN_ob hB2,hl2,heq,z1,z2,z3,hph,hcall,hX3,hplen,hpr,this]
      rw[gcRet_flat hpH3 rfl]
     ·simp[hX,rdN_ob hB,rdC_ob hB,specShape hvX hb,hsh,specCopies hvX hb,hco,specOrderL hvX hin hb h0,hX2,rdC_ob hB2,hB,hB2,rdN_ob hB2,hl2,heq,z1,z2,z3,hph,hcall,hX3,hplen,hpr,rdN_ob hB3,specArms hv3 hsh]
      cases har:pB (ArmsRight f.blocks) with
      | false =>
       have:checkW f=4:=by unfold checkW;simp[hcf,hph,hpr,har]
       simp[this]
       rw[gcRet_flat hpH3 rfl]
      | true =>
       obtain⟨X4,hX4⟩:∃ X4,X3++[(⟨(madeF f).map .i,0,true,1⟩:Ob)]=X4:=⟨_,rfl⟩
       have hp4:Pre X3 X4:=⟨_,hX4.symm⟩
       have hml:(madeF f).length=f.values.toNat:=by unfold madeF;rw[ticksB_len];simp
       have h4:rdOb X4 X3.length 0=some ⟨(madeF f).map .i,0,true,1⟩:=by rw[← hX4];simp
       have hMI:IsI X4 (.sl X3.length 0 0 f.values.toNat) (madeF f):=by
        have:=IsI.mk (off:=0) (xs:=madeF f) h4 rfl (by simp) (by rw[List.drop_zero,List.take_of_length_le (by simp)])
        rwa [hml]at this
       obtain⟨s1,s2,s3,s4⟩:=shape_len hsh
       have hmb:(madeF f).length≤BIG:=by rw[hml];simp only[BIG];omega
       have hMl:=hMI.lenOf
       have hB4:=hp4.rdOb hB3
       have hv4:=hv3.pre hp4
       have hpH4:=hpH3.trans hp4
       have hseen:∀ b,b<f.blocks.length→(seenF f.blocks).getD b false=true:=by
        intro b hb'
        have hsl:(seenF f.blocks).length=f.blocks.length:=hok.1
        have hany:=cf_any (seenF f.blocks)
        rw[decide_eq_false hcf,List.any_eq_false]at hany
        have hlt:b<(seenF f.blocks).length:=by omega
        have:=hany _ (List.getElem_mem hlt)
        rw[List.getD_eq_getElem?_getD,List.getElem?_eq_getElem hlt]
        cases hx:(seenF f.blocks)[b] with
        | true=>rfl
        | false=>rw[hx]at this;simp at this
       simp[rdN_ob hB3,specMade5 hv3 hsh,hX4]
       obtain⟨I,hI⟩:∃ I:Nat→St→Prop,∀ i st,I i st↔((∀ j (hj:j<(madeF f).length),j<i→¬ 1<(madeF f)[j])∧st.h=X4 ∧
         Env.get st.e 1=.c (.p H.length 0 0)∧Env.get st.e 3=.c (.sl X3.length 0 0 f.values.toNat)∧Env.get st.e 4=.c (.i i)):=⟨_,fun _ _=>Iff.rfl⟩
       refine wp_for CM_mono (madeF f).length I ((hI _ _).2 ⟨by simp,rfl,by simp⟩) ?_ ?_
       ·rintro i ⟨e,Y⟩ hi hIs
        obtain⟨hdone,hY,e1,e3,e4⟩:=(hI _ _).1 hIs
        simp only at hY e1 e3 e4 ⊢
        subst hY
        obtain⟨id3,g3,off3,p1,p2⟩:=hMI.at_ hi
        have hiv:(i:Int)<f.values.toNat:=by omega
        unfold vf43b0
        by_cases hx:1<(madeF f)[i]
        ·have hma:((madeF f).any fun n=>decide (1<n))=true:=List.any_eq_true.2 ⟨_,List.getElem_mem hi,decide_eq_true hx⟩
         have:checkW f=5:=by unfold checkW;simp[hcf,hph,hpr,har,hma]
         simp[e1,e3,e4,hml▸hi,show max f.values 0=f.values by omega,show (i:Int)<f.values by omega,p1,p2,hx,this]
         rw[gcRet_flat hpH4 rfl]
        ·simp[e1,e3,e4,hml▸hi,show max f.values 0=f.values by omega,show (i:Int)<f.values by omega,p1,p2,hx,up1 hi hmb]
         refine (hI _ _).2 ⟨?_,rfl,by simp[e1,e3]⟩
         intro j hj hji
         by_cases ej:j=i
         ·subst ej;exact hx
         ·exact hdone j hj (by omega)
       ·rintro⟨e,Y⟩ hIs
        obtain⟨hdone,hY,e1,e3,e4⟩:=(hI _ _).1 hIs
        simp only at hY e1 e3 e4 ⊢
        subst hY
        have hma:((madeF f).any fun n=>decide (1<n))=false:=by
         rw[List.any_eq_false]
         intro x hx
         obtain⟨j,hj,rfl⟩:=List.getElem_of_mem hx
         simpa using hdone j hj hj
        unfold vf43b0
        simp[e1,e3,e4,hml,rdN_ob hB4,specTaken hv4 hsh hseen]
        cases hta:pB (TakenOk f.blocks) with
        | false =>
         have:checkW f=6:=by unfold checkW;simp[hcf,hph,hpr,har,hma,hta]
         simp[this]
         rw[gcRet_flat hpH4 rfl]
        | true =>
         have:checkW f=0:=by unfold checkW;simp[hcf,hph,hpr,har,hma,hta]
         simp[this]
         rw[gcRet_flat hpH4 rfl]
def defI (x:InsR):List Int:=if 0≤insDefF x then [insDefF x] else []

def defsB (b:BlkR):List Int:=b.phis.map (·.d)++b.list.flatMap defI

theorem tickB_defs (vs:List Int) (b:BlkR):tickB vs b=(defsB b).foldl tick vs:=by
 unfold tickB defsB
 rw[List.foldl_append,List.foldl_map,List.foldl_flatMap]
 congr 1
 funext ws x
 unfold tickI defI
 split<;>rfl

theorem madeF_defs (f:FnR):madeF f=(f.blocks.flatMap defsB).foldl tick (List.replicate f.values.toNat 0):=by
 unfold madeF
 rw[List.foldl_flatMap]
 congr 1
 funext ws b
 exact tickB_defs ws b

theorem tick_count {n:Nat} {d:Nat} (hd:d<n):∀ (ds vs:List Int),vs.length=n→(∀ x∈ds,∃ k:Nat,x=k∧k<n)→(ds.foldl tick vs).getD d 0=vs.getD d 0+(ds.count (d:Int):Int):=by
 intro ds
 induction ds with
 | nil=>intro vs _ _;simp
 | cons x r ih =>
  intro vs hl h
  obtain⟨k,rfl,hk⟩:=h x (by simp)
  rw[List.foldl_cons,ih _ (by rw[tick_len];exact hl) (fun y hy=>h y (by simp[hy])),List.count_cons]
  unfold tick
  rw[Int.toNat_natCast,List.getD_eq_getElem?_getD,List.getElem?_set]
  by_cases e:k=d
  ·subst e
   simp[hl,hk];omega
  ·have e2:¬ ((k:Int)=(d:Int)):=by omega
   rw[if_neg e,← List.getD_eq_getElem?_getD]
   simp[e2]

theorem flat2 {β:Type} {f:β→List Int} {d:Int}:∀ (bs:List β) (i j:Nat) (hj:j<bs.length) (hij:i<j),d∈f (bs[i]'(by omega))→d∈f bs[j]→2≤(bs.flatMap f).count d:=by
 intro bs
 induction bs with
 | nil=>intro i j hj;simp at hj
 | cons b r ih =>
  intro i j hj hij h1 h2
  rw[List.flatMap_cons,List.count_append]
  cases j with
  | zero=>omega
  | succ j =>
   have hj':j<r.length:=by simpa using hj
   cases i with
   | zero =>
    have a:0<(f b).count d:=List.count_pos_iff.2 (by simpa using h1)
    have c:0<(r.flatMap f).count d:=List.count_pos_iff.2 (List.mem_flatMap.2 ⟨_,List.getElem_mem hj',by simpa using h2⟩)
    omega
   | succ i =>
    have:=ih i j hj' (by omega) (by simpa using h1) (by simpa using h2)
    omega

theorem count_part {β:Type} {f:β→List Int} {d:Int} {bs:List β} {b:β} (hb:b∈bs):(f b).count d≤(bs.flatMap f).count d:=by
 induction bs with
 | nil=>simp at hb
 | cons c r ih =>
  rw[List.flatMap_cons,List.count_append]
  rcases List.mem_cons.1 hb with rfl | h
  ·omega
  ·have:=ih h;omega

theorem made_defs {f:FnR} (hsh:shapeB f=true):∀ x∈f.blocks.flatMap defsB,∃ k:Nat,x=k∧k<f.values.toNat:=by
 intro x hx
 obtain⟨b,hb,hx⟩:=List.mem_flatMap.1 hx
 unfold defsB at hx
 rcases List.mem_append.1 hx with h | h
 ·obtain⟨p,hp,rfl⟩:=List.mem_map.1 h
  exact val_nat (phi_vals (shape_phi hsh hb hp)).1
 ·obtain⟨y,hy,h⟩:=List.mem_flatMap.1 h
  unfold defI at h
  by_cases h0:0≤insDefF y
  ·rw[if_pos h0]at h
   simp at h
   rw[h]
   exact ins_def (shape_ins hsh hb hy) h0
  ·rw[if_neg h0]at h;simp at h

theorem once {f:FnR} (hsh:shapeB f=true) (hm:((madeF f).any fun n=>decide (1<n))=false) (d:Int):(f.blocks.flatMap defsB).count d≤1:=by
 by_cases hd:d∈f.blocks.flatMap defsB
 ·obtain⟨k,rfl,hk⟩:=made_defs hsh d hd
  have h:=tick_count hk (f.blocks.flatMap defsB) (List.replicate f.values.toNat 0) (by simp) (made_defs hsh)
  rw[← madeF_defs]at h
  have hl:(madeF f).length=f.values.toNat:=by unfold madeF;rw[ticksB_len];simp
  have hlt:k<(madeF f).length:=by omega
  rw[List.any_eq_false]at hm
  have h1:=hm _ (List.getElem_mem hlt)
  have h2:(madeF f).getD k 0=(madeF f)[k]:=by rw[List.getD_eq_getElem?_getD,List.getElem?_eq_getElem hlt];rfl
  have h3:(List.replicate f.values.toNat (0:Int)).getD k 0=0:=by rw[List.getD_eq_getElem?_getD,List.getElem?_replicate];split<;>rfl
  rw[h2,h3]at h
  simp at h1
  omega
 ·rw[List.count_eq_zero.2 hd];omega
def keepsF (op:Int):Bool:=decide (op=22) || decide (op=23) || decide (op=21)

inductive UsedP (bs:List BlkR):Int→Prop
 | term {b:BlkR} (hb:b∈bs) {v:Int} (hv:v∈tusesF b.term):UsedP bs v
 | stay {b:BlkR} (hb:b∈bs) {x:InsR} (hx:x∈b.list) (hs:keepsF x.op=true) {v:Int} (hv:v∈usesF x):UsedP bs v
 | make {b:BlkR} (hb:b∈bs) {x:InsR} (hx:x∈b.list) (hd:0≤insDefF x) (hu:UsedP bs (insDefF x)) {v:Int} (hv:v∈usesF x):UsedP bs v
 | phi {b:BlkR} (hb:b∈bs) {p:PhiR} (hp:p∈b.phis) (hu:UsedP bs p.d) {a:ArmR} (ha:a∈p.arms):UsedP bs a.v

structure Rnd (bs:List BlkR) (us0 us:List Bool) (m:Bool):Prop where
 len:us.length=us0.length
 snd:∀ j:Nat,us.getD j false=true→UsedP bs j
 no:m=false→us=us0
 yes:m=true→cf us<cf us0

theorem Rnd.refl {bs:List BlkR} {us:List Bool} (h:∀ j:Nat,us.getD j false=true→UsedP bs j):Rnd bs us us false:=⟨rfl,h,fun _=>rfl,fun h=>by cases h⟩

theorem Rnd.trans {bs:List BlkR} {a b c:List Bool} {m n:Bool} (h:Rnd bs a b m) (k:Rnd bs b c n):Rnd bs a c (m || n):=by
 refine⟨k.len.trans h.len,k.snd,fun hf=>?_,fun ht=>?_⟩
 ·rw[Bool.or_eq_false_iff]at hf
  rw[k.no hf.2,h.no hf.1]
 ·cases hm:m with
  | true =>
   have a1:=h.yes hm
   cases hn:n with
   | true=>have:=k.yes hn;omega
   | false=>rw[k.no hn];exact a1
  | false =>
   rw[hm,Bool.false_or]at ht
   rw[← h.no hm];exact k.yes ht
theorem set_set (X:Hp) (i:Nat) (a b:Ob):(X.set i a).set i b=X.set i b:=by simp
structure SameT (bs bs':List BlkR):Prop where
 len:bs'.length=bs.length
 term:∀ b (h:b<bs.length) (h':b<bs'.length),bs'[b].term=bs[b].term

theorem SameT.symm {bs bs':List BlkR} (h:SameT bs bs'):SameT bs' bs:=⟨h.len.symm,fun b h1 h2=>(h.term b h2 h1).symm⟩

theorem SameT.succs {bs bs':List BlkR} (h:SameT bs bs'):succsAt bs'=succsAt bs:=by
 funext j
 by_cases hj:j<bs.length
 ·rw[succsAt_eq hj,succsAt_eq (by rw[h.len];exact hj),h.term j hj]
 ·unfold succsAt
  rw[List.getElem?_eq_none (by have:=h.len;omega),List.getElem?_eq_none (by omega)]

theorem SameT.walk {bs bs':List BlkR} (h:SameT bs bs'):walkF bs'=walkF bs:=by
 funext n
 induction n with
 | zero=>rfl
 | succ n ih=>funext b p;simp only[walkF,h.succs,ih]

theorem SameT.walk0 {bs bs':List BlkR} (h:SameT bs bs'):walk0 bs'=walk0 bs:=by unfold Vm.walk0;rw[h.walk,h.len]

theorem SameT.seen {bs bs':List BlkR} (h:SameT bs bs'):seenF bs'=seenF bs:=by unfold seenF;rw[h.walk0]


def Once (bs:List BlkR):Prop:=∀ d:Int,(bs.flatMap defsB).count d≤1

theorem mem_defI {x:InsR} {v:Int}:v∈defI x↔0≤insDefF x∧v=insDefF x:=by
 unfold defI
 split
 ·rename_i h;simp[h]
 ·rename_i h;simp[h]

theorem makes_val {x:InsR} {m:Int} (h:insB x m=true) (hm:makesF x.op=true):valB x.d m=true:=by
 have hk:=ins_kinds h
 unfold insB at h
 rcases hk with hw | ⟨hw,e | e | e | e | e | e⟩
 ·rw[if_pos hw]at h;simp only[Bool.and_eq_true]at h;exact h.1.1.1
 ·simp[hw,e]at h;exact h.1.1
 ·simp[hw,e]at h;exact h.1.1.1
 ·rw[e]at hm;exact absurd hm (by decide)
 ·rw[e]at hm;exact absurd hm (by decide)
 ·simp[hw,e]at h;exact h.1.1.1
 ·simp[hw,e]at h;exact h.1.1.1

theorem made_iff {x:InsR} {m v:Int} (h:insB x m=true):madeAt v x=true↔v∈defI x:=by
 rw[mem_defI]
 unfold madeAt insDefF
 rw[Bool.and_eq_true]
 constructor
 ·rintro⟨h1,h2⟩
  have h2:=of_decide_eq_true h2
  rw[if_pos h1]
  obtain⟨k,hk,_⟩:=val_nat (makes_val h h1)
  omega
 ·rintro⟨h1,h2⟩
  by_cases hm:makesF x.op=true
  ·rw[if_pos hm]at h2;exact⟨hm,decide_eq_true h2.symm⟩
  ·rw[if_neg hm]at h1;omega

theorem mem_defsB {b:BlkR} {v:Int}:v∈defsB b↔v∈b.phis.map (·.d)∨v∈b.list.flatMap defI:=by
 unfold defsB;rw[List.mem_append]

theorem once_blk {bs:List BlkR} (ho:Once bs) {v:Int} {i j:Nat} (hi:i<bs.length) (hj:j<bs.length) (h1:v∈defsB bs[i]) (h2:v∈defsB bs[j]):i=j:=by
 apply Classical.byContradiction
 intro hne
 have:=ho v
 rcases Nat.lt_or_gt_of_ne hne with h | h
 ·have:=flat2 (f:=defsB) bs i j hj h h1 h2;omega
 ·have:=flat2 (f:=defsB) bs j i hi h h2 h1;omega

theorem once_in {bs:List BlkR} (ho:Once bs) {b:BlkR} (hb:b∈bs) (v:Int):(b.phis.map (·.d)).count v+(b.list.flatMap defI).count v≤1:=by
 have h1:=count_part (f:=defsB) (d:=v) hb
 have h2:=ho v
 unfold defsB at h1
 rw[List.count_append]at h1
 have h3:List.count v (List.flatMap defsB bs)=List.count v (List.flatMap (fun b=>List.map (fun x=>x.d) b.phis++List.flatMap defI b.list) bs):=rfl
 omega

theorem once_list {bs:List BlkR} (ho:Once bs) {b:BlkR} (hb:b∈bs) {v:Int} {i j:Nat} (hi:i<b.list.length) (hj:j<b.list.length) (h1:v∈defI b.list[i]) (h2:v∈defI b.list[j]):i=j:=by
 apply Classical.byContradiction
 intro hne
 have:=once_in ho hb v
 rcases Nat.lt_or_gt_of_ne hne with h | h
 ·have:=flat2 (f:=defI) b.list i j hj h h1 h2;omega
 ·have:=flat2 (f:=defI) b.list j i hi h h2 h1;omega

theorem once_phi {bs:List BlkR} (ho:Once bs) {b:BlkR} (hb:b∈bs) {v:Int} (h1:v∈b.phis.map (·.d)) (h2:v∈b.list.flatMap defI):False:=by
 have:=once_in ho hb v
 have a:=List.count_pos_iff.2 h1
 have c:=List.count_pos_iff.2 h2
 omega

theorem home_spec {f:FnR} (hsh:shapeB f=true) (v:Int):((homeF f.blocks v).1=-1∧∀ b∈f.blocks,v∉defsB b) ∨
  ∃ i,∃ hi:i<f.blocks.length,(homeF f.blocks v).1=(i:Int)∧(((homeF f.blocks v).2=-1∧v∈f.blocks[i].phis.map (·.d))∨∃ n,∃ hn:n<f.blocks[i].list.length,(homeF f.blocks v).2=(n:Int)∧v∈defI f.blocks[i].list[n]):=by
 have hno:∀ (bs:List BlkR),(∀ b∈bs,b∈f.blocks)→∀ (j:Nat),(defGo v bs j).2=-2→∀ c∈bs,v∉defsB c:=by
  intro bs
  induction bs with
  | nil=>intro _ j _ c hc;simp at hc
  | cons a r ih =>
   intro hsub j h c hc
   cases ha:defBlk a v with
   | none =>
    have e:defGo v (a :: r) j=defGo v r (j+1):=by simp[defGo,ha]
    rw[e]at h
    rcases List.mem_cons.1 hc with rfl | hc
    ·unfold defBlk at ha
     split at ha
     ·cases ha
     ·rename_i hp
      split at ha
      ·cases ha
      ·rename_i hl
       rw[mem_defsB]
       rintro (h1 | h1)
       ·obtain⟨p,hp1,hp2⟩:=List.mem_map.1 h1
        exact hp (List.any_eq_true.2 ⟨p,hp1,decide_eq_true hp2⟩)
       ·obtain⟨x,hx,hv⟩:=List.mem_flatMap.1 h1
        exact hl (findI_nonneg.2 (List.any_eq_true.2 ⟨x,hx,(made_iff (shape_ins hsh (hsub _ (by simp)) hx)).2 hv⟩))
    ·exact ih (fun b hb=>hsub b (by simp[hb])) (j+1) h c hc
   | some p =>
    have e:defGo v (a :: r) j=((j:Int),p):=by simp[defGo,ha]
    rw[e]at h
    simp only at h
    unfold defBlk at ha
    split at ha
    ·injection ha with ha;omega
    ·split at ha
     ·injection ha with ha;omega
     ·cases ha
 rcases defGo_spec v f.blocks 0 with⟨h1,h2⟩ | ⟨i,hi,h1,h2⟩
 ·exact .inl ⟨h2,hno f.blocks (fun _ h=>h) 0 h1⟩
 ·refine .inr ⟨i,hi,by unfold homeF;rw[h1];simp,?_⟩
  rcases h2 with⟨h3,h4⟩ | ⟨n,hn,h3,h4⟩
  ·obtain⟨p,hp1,hp2⟩:=List.any_eq_true.1 h4
   exact .inl ⟨h3,List.mem_map.2 ⟨p,hp1,of_decide_eq_true hp2⟩⟩
  ·exact .inr ⟨n,hn,h3,(made_iff (shape_ins hsh (List.getElem_mem hi) (List.getElem_mem hn))).1 h4⟩

theorem hasI_domF {bs:List BlkR} (hin:InRange bs) {b:Nat} (hb:b<bs.length) (c:Int):hasI (domF bs b) c=true↔∃ k:Nat,c=k∧k<bs.length∧Dom bs k b:=by
 rw[hasI_iff]
 unfold domF domTo
 rw[List.mem_map]
 constructor
 ·rintro⟨k,hk,rfl⟩
  rw[List.mem_filter,List.mem_range]at hk
  exact⟨k,rfl,hk.1,(domB_iff hin hk.1 hb).1 hk.2⟩
 ·rintro⟨k,rfl,hk,hd⟩
  exact⟨k,by rw[List.mem_filter,List.mem_range];exact⟨hk,(domB_iff hin hk hb).2 hd⟩,rfl⟩

def OutDef (bs:List BlkR) (b:Nat) (v:Int):Prop:=∃ c,∃ hc:c<bs.length,c≠b∧Dom bs c b∧v∈defsB bs[c]

structure WellP (bs:List BlkR):Prop where
 phi:∀ b (hb:b<bs.length),∀ p∈bs[b].phis,∀ a∈p.arms,∃ c,∃ hc:c<bs.length,Dom bs c a.fr.toNat∧a.v∈defsB bs[c]
 ins:∀ b (hb:b<bs.length) l1 x l2,bs[b].list=l1++x :: l2→∀ v∈usesF x,v∈bs[b].phis.map (·.d)∨v∈l1.flatMap defI∨OutDef bs b v
 term:∀ b (hb:b<bs.length),∀ v∈tusesF bs[b].term,v∈defsB bs[b]∨OutDef bs b v

theorem at_iff {f:FnR} (hsh:shapeB f=true) (ho:Once f.blocks) {b:Nat} (hb:b<f.blocks.length) (v:Int) (i:Nat) :
  atB f.blocks v b i=true↔v∈f.blocks[b].phis.map (·.d)∨v∈(f.blocks[b].list.take i).flatMap defI∨OutDef f.blocks b v:=by
 have hin:=shape_range hsh
 have hmem:f.blocks[b]∈f.blocks:=List.getElem_mem hb
 have htk:∀ {w:Int} {k:Nat},w∈(f.blocks[b].list.take k).flatMap defI↔∃ n,∃ hn:n<f.blocks[b].list.length,n<k∧w∈defI f.blocks[b].list[n]:=by
  intro w k
  rw[List.mem_flatMap]
  constructor
  ·rintro⟨x,hx,hw⟩
   obtain⟨l,hl,rfl⟩:=List.mem_take_iff_getElem.1 hx
   exact⟨l,by omega,by omega,hw⟩
  ·rintro⟨n,hn,hk,hw⟩
   exact⟨_,List.mem_take_iff_getElem.2 ⟨n,by omega,rfl⟩,hw⟩
 unfold atB
 rcases home_spec hsh v with⟨h1,h2⟩ | ⟨c,hc,h1,h2⟩
 ·rw[if_neg (by omega),hasI_domF hin hb]
  constructor
  ·rintro⟨k,hk,_⟩;omega
  ·rintro (h | h | ⟨c,hc,_,_,h⟩)
   ·exact absurd (mem_defsB.2 (.inl h)) (h2 _ hmem)
   ·obtain⟨n,hn,_,hw⟩:=htk.1 h
    exact absurd (mem_defsB.2 (.inr (List.mem_flatMap.2 ⟨_,List.getElem_mem hn,hw⟩))) (h2 _ hmem)
   ·exact absurd h (h2 _ (List.getElem_mem hc))
 ·have hdc:v∈defsB f.blocks[c]:=by
   rw[mem_defsB]
   rcases h2 with⟨_,h2⟩ | ⟨n,hn,_,h2⟩
   ·exact .inl h2
   ·exact .inr (List.mem_flatMap.2 ⟨_,List.getElem_mem hn,h2⟩)
  by_cases hcb:c=b
  ·subst hcb
   rw[if_pos h1,decide_eq_true_eq]
   rcases h2 with⟨h3,h4⟩ | ⟨n,hn,h3,h4⟩
   ·rw[h3]
    exact⟨fun _=>.inl h4,fun _=>by omega⟩
   ·rw[h3]
    constructor
    ·intro h;exact .inr (.inl (htk.2 ⟨n,hn,by omega,h4⟩))
    ·rintro (h | h | ⟨d,hd,hne,_,h⟩)
     ·exact (once_phi ho hmem h (List.mem_flatMap.2 ⟨_,List.getElem_mem hn,h4⟩)).elim
     ·obtain⟨n',hn',hk,hw⟩:=htk.1 h
      have:=once_list ho hmem hn hn' h4 hw
      omega
     ·exact absurd (once_blk ho hd hc h hdc) hne
  ·rw[if_neg (by omega),hasI_domF hin hb]
   constructor
   ·rintro⟨k,hk,hk2,hd⟩
    have e:k=c:=by omega
    subst e
    exact .inr (.inr ⟨k,hc,hcb,hd,hdc⟩)
   ·rintro (h | h | ⟨d,hd,hne,hdm,h⟩)
    ·exact absurd (once_blk ho hc hb hdc (mem_defsB.2 (.inl h))) hcb
    ·obtain⟨n',hn',hk,hw⟩:=htk.1 h
     exact absurd (once_blk ho hc hb hdc (mem_defsB.2 (.inr (List.mem_flatMap.2 ⟨_,List.getElem_mem hn',hw⟩)))) hcb
    ·have e:=once_blk ho hd hc h hdc
     subst e
     exact⟨d,h1,hd,hdm⟩

theorem home_dom {f:FnR} (hsh:shapeB f=true) (ho:Once f.blocks) {b:Nat} (hb:b<f.blocks.length) (v:Int) :
  hasI (domF f.blocks b) (homeF f.blocks v).1=true↔∃ c,∃ hc:c<f.blocks.length,Dom f.blocks c b∧v∈defsB f.blocks[c]:=by
 rw[hasI_domF (shape_range hsh) hb]
 rcases home_spec hsh v with⟨h1,h2⟩ | ⟨c,hc,h1,h2⟩
 ·rw[h1]
  constructor
  ·rintro⟨k,hk,_⟩;omega
  ·rintro⟨c,hc,_,h⟩;exact absurd h (h2 _ (List.getElem_mem hc))
 ·have hdc:v∈defsB f.blocks[c]:=by
   rw[mem_defsB]
   rcases h2 with⟨_,h2⟩ | ⟨n,hn,_,h2⟩
   ·exact .inl h2
   ·exact .inr (List.mem_flatMap.2 ⟨_,List.getElem_mem hn,h2⟩)
  rw[h1]
  constructor
  ·rintro⟨k,hk,hk2,hd⟩
   have e:k=c:=by omega
   subst e
   exact⟨k,hc,hd,hdc⟩
  ·rintro⟨d,hd,hdm,h⟩
   have e:=once_blk ho hd hc h hdc
   subst e
   exact⟨d,rfl,hd,hdm⟩

theorem fr_lt {f:FnR} (hsh:shapeB f=true) {b:BlkR} (hb:b∈f.blocks) {p:PhiR} (hp:p∈b.phis) {a:ArmR} (ha:a∈p.arms):∃ k:Nat,a.fr=k∧k<f.blocks.length:=by
 obtain⟨i,hi,rfl⟩:=List.getElem_of_mem ha
 have:=((phi_vals (shape_phi hsh hb hp)).2.2 i hi).1
 have:=of_decide_eq_true (show decide (0≤p.arms[i].fr∧p.arms[i].fr≤(f.blocks.length:Int) - 1)=true from this)
 exact⟨p.arms[i].fr.toNat,by omega,by omega⟩

theorem taken_iff {f:FnR} (hsh:shapeB f=true) (ho:Once f.blocks):TakenOk f.blocks↔WellP f.blocks:=by
 constructor
 ·intro h
  refine⟨fun b hb p hp a ha=>?_,fun b hb l1 x l2 he v hv=>?_,fun b hb v hv=>?_⟩
  ·obtain⟨k,hk1,hk2⟩:=fr_lt hsh (List.getElem_mem hb) hp ha
   have:=(h b hb).1 p hp a ha
   rw[hk1]at this ⊢
   exact (home_dom hsh ho hk2 a.v).1 this
  ·have hi:l1.length<f.blocks[b].list.length:=by rw[he];simp
   have hx:f.blocks[b].list[l1.length]=x:=by
    have:f.blocks[b].list[l1.length]? = some x:=by rw[he,List.getElem?_append_right (Nat.le_refl _),Nat.sub_self];rfl
    rw[List.getElem?_eq_getElem hi]at this;injection this
   have h1:=(h b hb).2.1 l1.length hi
   rw[hx,List.any_eq_false]at h1
   have h2:=h1 v hv
   have h3:atB f.blocks v b l1.length=true:=by simpa using h2
   rw[at_iff hsh ho hb]at h3
   rw[he,List.take_left]at h3
   exact h3
  ·have h1:=(h b hb).2.2
   rw[List.any_eq_false]at h1
   have h3:atB f.blocks v b f.blocks[b].list.length=true:=by simpa using h1 v hv
   rw[at_iff hsh ho hb,List.take_length]at h3
   rw[mem_defsB,or_assoc]
   exact h3
 ·intro h j hj
  refine⟨fun p hp a ha=>?_,fun i hi=>?_,?_⟩
  ·obtain⟨k,hk1,hk2⟩:=fr_lt hsh (List.getElem_mem hj) hp ha
   have:=h.phi j hj p hp a ha
   rw[hk1]at this ⊢
   exact (home_dom hsh ho hk2 a.v).2 this
  ·rw[List.any_eq_false]
   intro v hv
   have:=h.ins j hj (f.blocks[j].list.take i) f.blocks[j].list[i] (f.blocks[j].list.drop (i+1)) (by rw[← List.drop_eq_getElem_cons hi,List.take_append_drop]) v hv
   rw[(at_iff hsh ho hj v i).2 this];simp
  ·rw[List.any_eq_false]
   intro v hv
   have:=h.term j hj v hv
   rw[mem_defsB,or_assoc]at this
   rw[(at_iff hsh ho hj v f.blocks[j].list.length).2 (by rw[List.take_length];exact this)];simp

structure Well (f:FnR):Prop where
 sh:shapeB f=true
 nc:copiesB f.blocks=false
 seen:cf (seenF f.blocks)=0
 entry:phis0 f.blocks=0∧(predsF f.blocks 0).length=0
 arms:ArmsRight f.blocks
 once:Once f.blocks
 wp:WellP f.blocks

theorem once_iff {f:FnR} (hsh:shapeB f=true):((madeF f).any fun n=>decide (1<n))=false↔Once f.blocks:=by
 constructor
 ·exact fun h=>once hsh h
 ·intro h
  rw[List.any_eq_false]
  intro n hn
  obtain⟨k,hk,rfl⟩:=List.getElem_of_mem hn
  have hl:(madeF f).length=f.values.toNat:=by unfold madeF;rw[ticksB_len];simp
  have h1:=tick_count (d:=k) (show k<f.values.toNat by omega) (f.blocks.flatMap defsB) (List.replicate f.values.toNat 0) (by simp) (made_defs hsh)
  rw[← madeF_defs]at h1
  have h2:(madeF f).getD k 0=(madeF f)[k]:=by rw[List.getD_eq_getElem?_getD,List.getElem?_eq_getElem hk];rfl
  have h3:(List.replicate f.values.toNat (0:Int)).getD k 0=0:=by rw[List.getD_eq_getElem?_getD,List.getElem?_replicate];split<;>rfl
  rw[h2,h3]at h1
  have:=h (k:Int)
  simp
  omega

theorem well_iff {f:FnR}:checkF f=0↔Well f:=by
 unfold checkF checkW
 constructor
 ·intro h
  by_cases h1:shapeB f=true∧copiesB f.blocks=false
  ·rw[if_pos h1]at h
   by_cases h2:0<cf (seenF f.blocks)
   ·simp[h2]at h
   ·by_cases h3:0<phis0 f.blocks∨0<(predsF f.blocks 0).length
    ·simp[h2,h3]at h
    ·by_cases h4:ArmsRight f.blocks
     ·cases h5:(madeF f).any fun n=>decide (1<n) with
      | true=>simp[h2,h3,pB_true h4,h5]at h
      | false =>
       by_cases h6:TakenOk f.blocks
       ·have ho:=(once_iff h1.1).1 h5
        exact⟨h1.1,h1.2,by omega,by omega,h4,ho,(taken_iff h1.1 ho).1 h6⟩
       ·simp[h2,h3,pB_true h4,h5,pB_false h6]at h
     ·simp[h2,h3,pB_false h4]at h
  ·rw[if_neg h1]at h;cases h
 ·rintro⟨h1,h2,h3,h4,h5,h6,h7⟩
  rw[if_pos ⟨h1,h2⟩,if_neg (by rw[h3];simp),if_neg (by omega),if_neg (by rw[pB_true h5];simp),if_neg (by rw[(once_iff h1).2 h6];simp),if_neg (by rw[pB_true ((taken_iff h1 h6).2 h7)];simp)]
def phisAt (bs:List BlkR) (k:Int):List PhiR:=match bs[k.toNat]? with
 | some b=>b.phis
 | none=>[]

def hot (bs:List BlkR) (k:Int):Bool:=decide (1<(predsF bs k).length) || decide (0<(phisAt bs k).length)

def critIn (bs:List BlkR) (i:Nat) (n:Nat):List ArmR:=(((succsAt bs i).take n).filter (hot bs)).map fun k=>⟨(i:Int),k⟩

def critAt (bs:List BlkR) (i:Nat):List ArmR:=if 1<(succsAt bs i).length then critIn bs i (succsAt bs i).length else []

def critTo (bs:List BlkR) (n:Nat):List ArmR:=(List.range n).flatMap (critAt bs)

theorem critTo_succ (bs:List BlkR) (n:Nat):critTo bs (n+1)=critTo bs n++critAt bs n:=by simp[critTo,List.range_succ]

theorem critIn_succ {bs:List BlkR} {i n:Nat} (hn:n<(succsAt bs i).length):critIn bs i (n+1)=critIn bs i n++(if hot bs (succsAt bs i)[n]=true then [⟨(i:Int),(succsAt bs i)[n]⟩] else []):=by
 unfold critIn
 rw[List.take_succ_eq_append_getElem hn,List.filter_append,List.map_append]
 congr 1
 cases h:hot bs (succsAt bs i)[n]<;>simp[h]

theorem succsAt_two (bs:List BlkR) (i:Nat):(succsAt bs i).length≤2:=by
 unfold succsAt
 split
 ·exact succsF_le _
 ·simp

theorem critIn_le (bs:List BlkR) (i n:Nat):(critIn bs i n).length≤2:=by
 unfold critIn
 rw[List.length_map]
 refine Nat.le_trans (List.length_filter_le _ _) ?_
 rw[List.length_take]
 have:=succsAt_two bs i
 omega

theorem critAt_le (bs:List BlkR) (i:Nat):(critAt bs i).length≤2:=by
 unfold critAt
 split
 ·exact critIn_le _ _ _
 ·simp

theorem critTo_le (bs:List BlkR) (n:Nat):(critTo bs n).length≤2 * n:=by
 induction n with
 | zero=>simp[critTo]
 | succ n ih =>
  rw[critTo_succ,List.length_append]
  have:=critAt_le bs n
  omega

structure CInv (H:Hp) (v:CV) (m:Int) (out:List ArmR) (w:CV) (Y:Hp):Prop where
 pre:Pre (H++[⟨[v,.i m],0,true,2⟩]) Y
 out:∃ g,w=.sl (H.length+1) g 0 out.length∧rdOb Y (H.length+1) g=some ⟨edC out,g,true,2⟩

theorem CInv.app {H Y:Hp} {v:CV} {m:Int} {out:List ArmR} {w:CV} (h:CInv H v m out w Y) (L:Hp):CInv H v m out w (Y++L):=by
 obtain⟨h1,g,h2,h3⟩:=h
 exact⟨h1.app L,g,h2,rdOb_app L h3⟩

theorem CInv.push {H Y:Hp} {v:CV} {m:Int} {out:List ArmR} {w:CV} (h:CInv H v m out w Y) (a:ArmR) (hl:out.length<4 * BIG) :
  ∃ w' Z,doApp Y 2 w 1 [.i a.fr,.i a.v]=some (.c w',Z)∧CInv H v m (out++[a]) w' Z∧∀ id g ob,id≠H.length+1→rdOb Y id g=some ob→rdOb Z id g=some ob:=by
 obtain⟨h1,g,rfl,h3⟩:=h
 have hlt:=rdOb_lt h3
 refine⟨_,_,app_own h3 (by simp) (by simp) (by simp;simp only[BIG]at hl;simp only[LIM];omega),⟨h1.set (by simp) _,g+1,by simp,?_⟩,fun id g' ob hne ho=>by rw[rdOb_set_ne hne];exact ho⟩
 rw[rdOb_set_self hlt,edC_snoc];simp[armC]

theorem CInv.box {H Y:Hp} {v:CV} {m:Int} {out:List ArmR} {w:CV} (h:CInv H v m out w Y):rdOb Y H.length 0=some ⟨[v,.i m],0,true,2⟩:=box_get h.pre

def crit0 (f:FnR):List ArmR:=if shapeB f=true then critTo f.blocks f.blocks.length else []

theorem specCrit {H:Hp} {v:CV} {bs:List BlkR} {m:Int} (hv:Blocks H v bs) (hin:InRange bs) (hb:bs.length≤BIG) (k:IV×Hp→Prop) :
  CM 64 [.agg [v,.i m]] H k=k (.c (.sl H.length 0 0 (critTo bs bs.length).length),H++[⟨edC (critTo bs bs.length),0,true,2⟩]):=by
 refine det (cw64 ?_) k
 unfold vf64c
 simp
 obtain⟨I,hI⟩:∃ I:Nat→St→Prop,∀ i st,I i st↔(∃ w,CInv H v m (critTo bs i) w st.h∧Env.get st.e 1=.c (.p H.length 0 0)∧Env.get st.e 3=.c w∧Env.get st.e 4=.c (.i i)):=⟨_,fun _ _=>Iff.rfl⟩
 refine wp_for CM_mono bs.length I ((hI _ _).2 ⟨_,⟨⟨[⟨[],0,true,2⟩],by simp⟩,0,rfl,by simp[critTo]⟩,by simp[critTo]⟩) ?_ ?_
 ·rintro i ⟨e,X⟩ hi hIs
  obtain⟨w,hC,h1,h3,h4⟩:=(hI _ _).1 hIs
  simp only at hC h1 h3 h4 ⊢
  have hvX:Blocks X v bs:=hv.pre (Pre.trans ⟨_,rfl⟩ hC.pre)
  obtain⟨ws,Ls,hws,hsc⟩:=specSuccs (m:=m) hvX hi
  rw[← succsAt_eq hi]at hws
  have hbox:=hC.box
  have hXl:H.length+1<X.length:=by obtain⟨g,_,h⟩:=hC.out;exact rdOb_lt h
  have hls:=hws.len
  have h2:=succsAt_two bs i
  have hto:=critTo_le bs i
  unfold vf64b1
  simp[h1,h3,h4,hi,rdN_ob hbox,rdC_ob hbox,hvX.lenOf,hsc]
  by_cases hgt:1<(succsAt bs i).length
  ·have hgtI:(1:Int)<((succsAt bs i).length:Int):=by omega
   obtain⟨J,hJ⟩:∃ J:Nat→St→Prop,∀ j st,J j st↔(∃ w',CInv H v m (critTo bs i++critIn bs i j) w' st.h∧(∀ id g ob,id≠H.length+1→rdOb (X++Ls) id g=some ob→rdOb st.h id g=some ob)∧Env.get st.e 1=.c (.p H.length 0 0)∧Env.get st.e 3=.c w'∧Env.get st.e 4=.c (.i i)∧Env.get st.e 5=.c ws∧Env.get st.e 6=.c (.i j)):=⟨_,fun _ _=>Iff.rfl⟩
   refine wp_for CM_mono (succsAt bs i).length J ((hJ _ _).2 ⟨w,by simpa [critIn] using hC.app Ls,fun _ _ _ _ h=>h,by simp[h1,h3,h4]⟩) ?_ ?_
   ·rintro j ⟨e',Y⟩ hj hJs
    obtain⟨w',hD,hk,h1,h3,h4,h5,h6⟩:=(hJ _ _).1 hJs
    simp only at hD hk h1 h3 h4 h5 h6 ⊢
    have hsv:IsI Y ws (succsAt bs i):=hws.isI' fun g ob h=>hk _ g ob (by omega) h
    obtain⟨id,g,off,q1,q2⟩:=hsv.at_ hj
    obtain⟨n,hn,hnl⟩:∃ n:Nat,(succsAt bs i)[j]=n∧n<bs.length:=by
     obtain⟨a,b⟩:=hin i _ (List.getElem_mem hj)
     exact⟨(succsAt bs i)[j].toNat,by omega,by omega⟩
    have hvY:Blocks Y v bs:=hv.pre (Pre.trans ⟨_,rfl⟩ hD.pre)
    obtain⟨wp,Lp,hwp,hpc⟩:=specPreds (m:=m) (b:=(n:Int)) hvY hb
    have hboxY:=hD.box
    have hboxP:=(hD.app Lp).box
    have hvP:=hvY.app Lp
    obtain⟨id',g',off',z,u,r1,⟨r2,_⟩,_,hz,_⟩:=Blocks.get hvP hnl
    have hph:phisAt bs (n:Int)=bs[n].phis:=by simp[phisAt,hnl]
    have hin2:=critIn_le bs i j
    have hsucc:=critIn_succ hj
    rw[hn]at hsucc
    have hlw:=hwp.len
    have hj2:j+1≤2:=by omega
    have hsvP:IsI (Y++Lp) ws (succsAt bs i):=hsv.app Lp
    obtain⟨id2,g2,off2,q3,q4⟩:=hsvP.at_ hj
    have e12:id2=id∧g2=g∧off2=off:=by
     have e:=q3.symm.trans q1
     injection e with e;injection e with e1 e2 e3
     exact⟨e1,e2,e3⟩
    obtain⟨rfl,rfl,rfl⟩:=e12
    unfold vf64b0
    have hnext:∀ Z,(∀ id g ob,id≠H.length+1→rdOb (Y++Lp) id g=some ob→rdOb Z id g=some ob)→∀ id g ob,id≠H.length+1→rdOb (X++Ls) id g=some ob→rdOb Z id g=some ob:=fun Z hz id g ob a b=>hz id g ob a (rdOb_app _ (hk id g ob a b))
    cases hh:hot bs (n:Int) with
    | false =>
     have hh':=hh
     unfold hot at hh
     rw[Bool.or_eq_false_iff,hph]at hh
     obtain⟨f1,f2⟩:=hh
     have f1:=of_decide_eq_false f1
     have f2:=of_decide_eq_false f2
     rw[hh']at hsucc
     have f1I:¬ (1:Int)<((predsF bs (n:Int)).length:Int):=by omega
     have f2I:¬ (0:Int)<(bs[n].phis.length:Int):=by omega
     have f2J:bs[n].phis=[]:=List.length_eq_zero_iff.1 (by omega)
     simp[h1,h3,h4,h5,h6,hj,hls,hgtI,q1,q2,q4,hn,rdN_ob hboxY,hpc,hlw,f1I,rdC_ob hboxP,r1,r2,hz.lenOf,f2J,up1 hj (show (succsAt bs i).length≤BIG by simp only[BIG];omega)]
     exact (hJ _ _).2 ⟨w',by rw[hsucc];simpa using hD.app Lp,hnext _ fun _ _ _ _ h=>h,by simp[h1,h3,h4,h5]⟩
    | true =>
     rw[hh]at hsucc
     have hlen:(critTo bs i++critIn bs i j).length<4 * BIG:=by rw[List.length_append];omega
     obtain⟨w2,Z,p1,p2,p3⟩:=((hD.app Lp).app [⟨[.i (i:Int),.i (n:Int)],0,true,2⟩]).push ⟨(i:Int),(n:Int)⟩ hlen
     rw[List.append_assoc]at p1
     have hfin:∀ id g ob,id≠H.length+1→rdOb (X++Ls) id g=some ob→rdOb Z id g=some ob:=hnext Z fun id g ob a b=>p3 id g ob a (rdOb_app _ b)
     unfold hot at hh
     rw[hph]at hh
     by_cases f1:1<(predsF bs (n:Int)).length
     ·have f1I:(1:Int)<((predsF bs (n:Int)).length:Int):=by omega
      simp[h1,h3,h4,h5,h6,hj,hls,hgtI,q1,q2,q4,hn,rdN_ob hboxY,hpc,hlw,f1I,rdC_ob hboxP,r1,r2,hz.lenOf,up1 hj (show (succsAt bs i).length≤BIG by simp only[BIG];omega),srcOf,putAt,p1]
      exact (hJ _ _).2 ⟨w2,by rw[hsucc,← List.append_assoc];exact p2,hfin,by simp⟩
     ·rw[decide_eq_false f1,Bool.false_or]at hh
      have f2:=of_decide_eq_true hh
      have f1I:¬ (1:Int)<((predsF bs (n:Int)).length:Int):=by omega
      have f2I:(0:Int)<(bs[n].phis.length:Int):=by omega
      simp[h1,h3,h4,h5,h6,hj,hls,hgtI,q1,q2,q4,hn,rdN_ob hboxY,hpc,hlw,f1I,rdC_ob hboxP,r1,r2,hz.lenOf,f2I,f2,up1 hj (show (succsAt bs i).length≤BIG by simp only[BIG];omega),srcOf,putAt,p1]
      exact (hJ _ _).2 ⟨w2,by rw[hsucc,← List.append_assoc];exact p2,hfin,by simp⟩
   ·rintro⟨e',Y⟩ hJs
    obtain⟨w',hD,hk,h1,h3,h4,h5,h6⟩:=(hJ _ _).1 hJs
    simp only at hD hk h1 h3 h4 h5 h6 ⊢
    unfold vf64b0
    simp[h1,h3,h4,h5,h6,hls,up1 hi hb]
    exact (hI _ _).2 ⟨w',by rw[critTo_succ,critAt,if_pos hgt];exact hD,by simp[h1,h3]⟩
  ·have hgtI:¬ (1:Int)<((succsAt bs i).length:Int):=by omega
   refine wp_for CM_mono 0 (fun j st=>st.h=X++Ls∧Env.get st.e 1=.c (.p H.length 0 0)∧Env.get st.e 3=.c w∧Env.get st.e 4=.c (.i i)∧Env.get st.e 5=.c ws∧Env.get st.e 6=.c (.i j)) (by simp[h1,h3,h4]) (fun i s h=>absurd h (by omega)) ?_
   rintro⟨e',Y⟩ ⟨rfl,h1,h3,h4,h5,h6⟩
   simp only at h1 h3 h4 h5 h6 ⊢
   unfold vf64b0
   have hres:I (i+1) ⟨e',X++Ls⟩→True:=fun _=>trivial
   have hfin:CInv H v m (critTo bs (i+1)) w (X++Ls):=by rw[critTo_succ,critAt,if_neg hgt,List.append_nil];exact hC.app Ls
   by_cases h0:(succsAt bs i).length=0
   ·simp[h1,h3,h4,h5,h6,hls,hgtI,h0,up1 hi hb]
    exact (hI _ _).2 ⟨w,hfin,by simp[h1,h3]⟩
   ·have h0I:(0:Int)<((succsAt bs i).length:Int):=by omega
    have h0J:0<(succsAt bs i).length:=by omega
    simp[h1,h3,h4,h5,h6,hls,hgtI,h0I,h0J,up1 hi hb]
    exact (hI _ _).2 ⟨w,hfin,by simp[h1,h3]⟩
 ·rintro⟨e,X⟩ hIs
  obtain⟨w,hC,h1,h3,h4⟩:=(hI _ _).1 hIs
  simp only at hC h1 h3 h4 ⊢
  have hvX:Blocks X v bs:=hv.pre (Pre.trans ⟨_,rfl⟩ hC.pre)
  have hbox:=hC.box
  obtain⟨hp,g,rfl,ho⟩:=hC
  unfold vf64b1
  simp[h1,h3,h4,rdC_ob hbox,hvX.lenOf]
  rw[gcRet_row (Pre.trans ⟨_,rfl⟩ hp) (by omega) ho rfl (edC_flat _)]

theorem implCrit {H:Hp} {v:CV} {bs:List BlkR} {m:Int} (hv:Blocks H v bs) (hin:InRange bs) (hb:bs.length≤BIG) (hsh:shapeB ⟨bs,m⟩=true) (k:IV×Hp→Prop) :
  CM 23 [.agg [v,.i m]] H k=k (.c (.sl H.length 0 0 (critTo bs bs.length).length),H++[⟨edC (critTo bs bs.length),0,true,2⟩]):=by
 refine det (cw23 ?_) k
 unfold vf23c
 simp[implShape (f:=⟨bs,m⟩) (hv.app _) hb,hsh,hv.lenOf,(hv.app _).lenOf]
 obtain⟨I,hI⟩:∃ I:Nat→St→Prop,∀ i st,I i st↔(∃ w,CInv H v m (critTo bs i) w st.h∧Env.get st.e 1=.c (.p H.length 0 0)∧Env.get st.e 3=.c w∧Env.get st.e 14=.c (.i bs.length)∧Env.get st.e 15=.c (.i i)):=⟨_,fun _ _=>Iff.rfl⟩
 refine wp_for CM_mono bs.length I ((hI _ _).2 ⟨_,⟨⟨[⟨[],0,true,2⟩],by simp⟩,0,rfl,by simp[critTo]⟩,by simp[critTo]⟩) ?_ ?_
 ·rintro i ⟨e,X⟩ hi hIs
  obtain⟨w,hC,h1,h3,h14,h15⟩:=(hI _ _).1 hIs
  simp only at hC h1 h3 h14 h15 ⊢
  have hvX:Blocks X v bs:=hv.pre (Pre.trans ⟨_,rfl⟩ hC.pre)
  obtain⟨ws,Ls,hws,hsc⟩:=implSuccs (m:=m) hvX hi
  rw[← succsAt_eq hi]at hws
  have hbox:=hC.box
  have hXl:H.length+1<X.length:=by obtain⟨g,_,h⟩:=hC.out;exact rdOb_lt h
  have hls:=hws.len
  have h2:=succsAt_two bs i
  have hto:=critTo_le bs i
  unfold vf23b1
  by_cases hgt:1<(succsAt bs i).length
  ·have hgtI:((succsAt bs i).length:Int)=2:=by omega
   have hgtN:(succsAt bs i).length=2:=by omega
   simp[h1,h3,h14,h15,hi,rdN_ob hbox,rdC_ob hbox,hsc,hls,hgtI,hgtN]
   obtain⟨J,hJ⟩:∃ J:Nat→St→Prop,∀ j st,J j st↔(∃ w',CInv H v m (critTo bs i++critIn bs i j) w' st.h∧(∀ id g ob,id≠H.length+1→rdOb (X++Ls) id g=some ob→rdOb st.h id g=some ob)∧Env.get st.e 1=.c (.p H.length 0 0)∧Env.get st.e 3=.c w'∧Env.get st.e 4=.c (.i i)∧Env.get st.e 14=.c (.i bs.length)∧Env.get st.e 15=.c (.i i)∧Env.get st.e 24=.c ws∧Env.get st.e 25=.c (.i 2)∧Env.get st.e 26=.c (.i j)):=⟨_,fun _ _=>Iff.rfl⟩
   refine wp_for CM_mono (succsAt bs i).length J ((hJ _ _).2 ⟨w,by simpa [critIn] using hC.app Ls,fun _ _ _ _ h=>h,by simp[h1,h3,h14,h15]⟩) ?_ ?_
   ·rintro j ⟨e',Y⟩ hj hJs
    obtain⟨w',hD,hk,h1,h3,h4,h14,h15,h24,h25,h26⟩:=(hJ _ _).1 hJs
    simp only at hD hk h1 h3 h4 h14 h15 h24 h25 h26 ⊢
    have hsv:IsI Y ws (succsAt bs i):=hws.isI' fun g ob h=>hk _ g ob (by omega) h
    obtain⟨id,g,off,q1,q2⟩:=hsv.at_ hj
    obtain⟨n,hn,hnl⟩:∃ n:Nat,(succsAt bs i)[j]=n∧n<bs.length:=by
     obtain⟨a,b⟩:=hin i _ (List.getElem_mem hj)
     exact⟨(succsAt bs i)[j].toNat,by omega,by omega⟩
    have hvY:Blocks Y v bs:=hv.pre (Pre.trans ⟨_,rfl⟩ hD.pre)
    obtain⟨wp,Lp,hwp,hpc⟩:=implPreds (m:=m) (b:=(n:Int)) hvY hb
    have hboxY:=hD.box
    have hboxP:=(hD.app Lp).box
    have hvP:=hvY.app Lp
    obtain⟨id',g',off',z,u,r1,⟨r2,_⟩,_,hz,_⟩:=Blocks.get hvP hnl
    have hph:phisAt bs (n:Int)=bs[n].phis:=by simp[phisAt,hnl]
    have hin2:=critIn_le bs i j
    have hsucc:=critIn_succ hj
    rw[hn]at hsucc
    have hlw:=hwp.len
    have hj2:j+1≤2:=by omega
    have hsvP:IsI (Y++Lp) ws (succsAt bs i):=hsv.app Lp
    obtain⟨id2,g2,off2,q3,q4⟩:=hsvP.at_ hj
    have e12:id2=id∧g2=g∧off2=off:=by
     have e:=q3.symm.trans q1
     injection e with e;injection e with e1 e2 e3
     exact⟨e1,e2,e3⟩
    obtain⟨rfl,rfl,rfl⟩:=e12
    unfold vf23b0
    have hnext:∀ Z,(∀ id g ob,id≠H.length+1→rdOb (Y++Lp) id g=some ob→rdOb Z id g=some ob)→∀ id g ob,id≠H.length+1→rdOb (X++Ls) id g=some ob→rdOb Z id g=some ob:=fun Z hz id g ob a b=>hz id g ob a (rdOb_app _ (hk id g ob a b))
    cases hh:hot bs (n:Int) with
    | false =>
     have hh':=hh
     unfold hot at hh
     rw[Bool.or_eq_false_iff,hph]at hh
     obtain⟨f1,f2⟩:=hh
     have f1:=of_decide_eq_false f1
     have f2:=of_decide_eq_false f2
     rw[hh']at hsucc
     have f1I:¬ (1:Int)<((predsF bs (n:Int)).length:Int):=by omega
     have f2I:¬ (0:Int)<(bs[n].phis.length:Int):=by omega
     have f2J:bs[n].phis=[]:=List.length_eq_zero_iff.1 (by omega)
     simp[h1,h3,h4,h14,h15,h24,h25,h26,show (j:Int)<2 by omega,q1,q2,q4,hn,rdN_ob hboxY,hpc,hlw,f1I,rdC_ob hboxP,r1,r2,hz.lenOf,f2J,up1 hj (show (succsAt bs i).length≤BIG by simp only[BIG];omega)]
     exact (hJ _ _).2 ⟨w',by rw[hsucc];simpa using hD.app Lp,hnext _ fun _ _ _ _ h=>h,by simp[h1,h3,h4,h14,h15,h24,h25]⟩
    | true =>
     rw[hh]at hsucc
     have hlen:(critTo bs i++critIn bs i j).length<4 * BIG:=by rw[List.length_append];omega
     obtain⟨w2,Z,p1,p2,p3⟩:=((hD.app Lp).app [⟨[.i (i:Int),.i (n:Int)],0,true,2⟩]).push ⟨(i:Int),(n:Int)⟩ hlen
     rw[List.append_assoc]at p1
     have hfin:∀ id g ob,id≠H.length+1→rdOb (X++Ls) id g=some ob→rdOb Z id g=some ob:=hnext Z fun id g ob a b=>p3 id g ob a (rdOb_app _ b)
     unfold hot at hh
     rw[hph]at hh
     by_cases f1:1<(predsF bs (n:Int)).length
     ·have f1I:(1:Int)<((predsF bs (n:Int)).length:Int):=by omega
      simp[h1,h3,h4,h14,h15,h24,h25,h26,show (j:Int)<2 by omega,q1,q2,q4,hn,rdN_ob hboxY,hpc,hlw,f1I,rdC_ob hboxP,r1,r2,hz.lenOf,up1 hj (show (succsAt bs i).length≤BIG by simp only[BIG];omega),srcOf,putAt,p1]
      exact (hJ _ _).2 ⟨w2,by rw[hsucc,← List.append_assoc];exact p2,hfin,by simp⟩
     ·rw[decide_eq_false f1,Bool.false_or]at hh
      have f2:=of_decide_eq_true hh
      have f1I:¬ (1:Int)<((predsF bs (n:Int)).length:Int):=by omega
      have f2I:(0:Int)<(bs[n].phis.length:Int):=by omega
      simp[h1,h3,h4,h14,h15,h24,h25,h26,show (j:Int)<2 by omega,q1,q2,q4,hn,rdN_ob hboxY,hpc,hlw,f1I,rdC_ob hboxP,r1,r2,hz.lenOf,f2I,f2,up1 hj (show (succsAt bs i).length≤BIG by simp only[BIG];omega),srcOf,putAt,p1]
      exact (hJ _ _).2 ⟨w2,by rw[hsucc,← List.append_assoc];exact p2,hfin,by simp⟩
   ·rintro⟨e',Y⟩ hJs
    obtain⟨w',hD,hk,h1,h3,h4,h14,h15,h24,h25,h26⟩:=(hJ _ _).1 hJs
    simp only at hD hk h1 h3 h4 h14 h15 h24 h25 h26 ⊢
    unfold vf23b0
    simp[h1,h3,h4,h14,h15,h24,h25,h26,hgtN,up1 hi hb]
    exact (hI _ _).2 ⟨w',by rw[critTo_succ,critAt,if_pos hgt];exact hD,by simp[h1,h3,h14,h15]⟩
  ·have hgtI:¬ ((succsAt bs i).length:Int)=2:=by omega
   have hgtN:¬ (succsAt bs i).length=2:=by omega
   have hfin:CInv H v m (critTo bs (i+1)) w (X++Ls):=by rw[critTo_succ,critAt,if_neg hgt,List.append_nil];exact hC.app Ls
   simp[h1,h3,h14,h15,hi,rdN_ob hbox,rdC_ob hbox,hsc,hls,hgtI,hgtN,up1 hi hb]
   exact (hI _ _).2 ⟨w,hfin,by simp[h1,h3,h14,h15]⟩
 ·rintro⟨e,X⟩ hIs
  obtain⟨w,hC,h1,h3,h14,h15⟩:=(hI _ _).1 hIs
  simp only at hC h1 h3 h14 h15 ⊢
  have hvX:Blocks X v bs:=hv.pre (Pre.trans ⟨_,rfl⟩ hC.pre)
  have hbox:=hC.box
  obtain⟨hp,g,rfl,ho⟩:=hC
  unfold vf23b1
  simp[h1,h3,h14,h15,rdC_ob hbox,hvX.lenOf]
  rw[gcRet_row (Pre.trans ⟨_,rfl⟩ hp) (by omega) ho rfl (edC_flat _)]

theorem implCrit0 {H:Hp} {v:CV} {f:FnR} (hv:Blocks H v f.blocks) (hb:f.blocks.length≤BIG) :
  ∃ w L,RowE H w L (crit0 f)∧∀ k:IV×Hp→Prop,CM 23 [.agg [v,.i f.values]] H k=k (.c w,H++L):=by
 cases hsh:shapeB f with
 | false =>
  refine⟨.ns,[],.inl ⟨rfl,rfl,by simp[crit0,hsh]⟩,fun k=>det (cw23 ?_) k⟩
  unfold vf23c
  simp[implShape (hv.app _) hb,hsh]
 | true =>
  exact⟨_,_,.inr ⟨by simp[crit0,hsh],by simp[crit0,hsh]⟩,fun k=>implCrit (m:=f.values) hv (shape_range hsh) hb hsh k⟩

theorem crit0_small {f:FnR}:(crit0 f).length≤BIG:=by
 unfold crit0
 split
 ·rename_i h
  have:=critTo_le f.blocks f.blocks.length
  unfold shapeB inB at h
  simp only[Bool.and_eq_true,decide_eq_true_eq]at h
  simp only[BIG];omega
 ·simp
theorem crit0_in {f:FnR} {a:ArmR} (h:a∈crit0 f):shapeB f=true∧∃ i k:Nat,a=⟨i,k⟩∧i<f.blocks.length∧k<f.blocks.length∧(k:Int)∈succsAt f.blocks i∧(succsAt f.blocks i).length=2∧hot f.blocks k=true:=by
 cases hsh:shapeB f with
 | false=>unfold crit0 at h;rw[hsh]at h;simp at h
 | true =>
  unfold crit0 at h
  rw[if_pos hsh]at h
  unfold critTo at h
  rw[List.mem_flatMap]at h
  obtain⟨i,hi,h⟩:=h
  rw[List.mem_range]at hi
  unfold critAt at h
  by_cases h2:1<(succsAt f.blocks i).length
  ·rw[if_pos h2]at h
   unfold critIn at h
   rw[List.take_length,List.mem_map]at h
   obtain⟨k,hk,rfl⟩:=h
   rw[List.mem_filter]at hk
   have hr:=shape_range hsh i k hk.1
   have h3:=succsAt_two f.blocks i
   refine⟨rfl,i,k.toNat,by rw[Int.toNat_of_nonneg hr.1],hi,by omega,by rw[Int.toNat_of_nonneg hr.1];exact hk.1,by omega,by rw[Int.toNat_of_nonneg hr.1];exact hk.2⟩
  ·rw[if_neg h2]at h;cases h

def turnA (fr at_:Int) (a:ArmR):ArmR:=if a.fr=fr then ⟨at_,a.v⟩ else a

def turnP (fr at_:Int) (p:PhiR):PhiR:=⟨p.d,p.arms.map (turnA fr at_)⟩

def turnT (k at_:Int) (t:TrmR):TrmR:=⟨t.kind,t.a,if t.to=k then at_ else t.to,if t.els=k then at_ else t.els⟩

def splitN (bs:List BlkR) (k:Int):List BlkR:=bs++[⟨[],[],⟨1,0,k,0⟩⟩]

def setT (bs:List BlkR) (u:Nat) (t:TrmR):List BlkR:=bs.set u ⟨(bs.getD u blk0).phis,(bs.getD u blk0).list,t⟩

def setP (bs:List BlkR) (k:Nat) (ps:List PhiR):List BlkR:=bs.set k ⟨ps,(bs.getD k blk0).list,(bs.getD k blk0).term⟩

def splitE (bs:List BlkR) (e:ArmR):List BlkR:=
 setP (setT (splitN bs e.v) e.fr.toNat (turnT e.v bs.length ((splitN bs e.v).getD e.fr.toNat blk0).term)) e.v.toNat
  (((setT (splitN bs e.v) e.fr.toNat (turnT e.v bs.length ((splitN bs e.v).getD e.fr.toNat blk0).term)).getD e.v.toNat blk0).phis.map (turnP e.fr bs.length))

noncomputable def split0 (f:FnR):FnR:=if checkF f=0∧f.blocks.length+(crit0 f).length≤16 then ⟨(crit0 f).foldl splitE f.blocks,f.values⟩ else f

noncomputable def splitOk (f:FnR):Bool:=pB (checkF f=0∧f.blocks.length+(crit0 f).length≤16)

theorem setT_len (bs:List BlkR) (u:Nat) (t:TrmR):(setT bs u t).length=bs.length:=by simp[setT]

theorem setP_len (bs:List BlkR) (u:Nat) (t:List PhiR):(setP bs u t).length=bs.length:=by simp[setP]

theorem splitN_len (bs:List BlkR) (k:Int):(splitN bs k).length=bs.length+1:=by simp[splitN]

theorem splitE_len (bs:List BlkR) (e:ArmR):(splitE bs e).length=bs.length+1:=by unfold splitE;rw[setP_len,setT_len,splitN_len]

theorem splits_len:∀ (es:List ArmR) (bs:List BlkR),(es.foldl splitE bs).length=bs.length+es.length:=by
 intro es
 induction es with
 | nil=>intro bs;rfl
 | cons e r ih=>intro bs;rw[List.foldl_cons,ih,splitE_len];simp;omega

theorem split0_le {f:FnR} (hb:f.blocks.length≤BIG):(split0 f).blocks.length≤BIG:=by
 unfold split0
 split
 ·rename_i h
  simp only
  rw[splits_len];simp only[BIG];omega
 ·exact hb
theorem edC_app (a b:List ArmR):edC (a++b)=edC a++edC b:=by simp[edC]

theorem edC_cons (a:ArmR) (r:List ArmR):edC (a :: r)=.i a.fr :: .i a.v :: edC r:=rfl

theorem edC_split {ms:List ArmR} {k:Nat} (hk:k<ms.length):edC ms=edC (ms.take k)++.i ms[k].fr :: .i ms[k].v :: edC (ms.drop (k+1)):=by
 have e:ms=ms.take k++ms[k] :: ms.drop (k+1):=by rw[← List.drop_eq_getElem_cons hk,List.take_append_drop]
 calc edC ms=edC (ms.take k++ms[k] :: ms.drop (k+1)):=by rw[← e]
  _=_:=by rw[edC_app,edC_cons]

theorem take_len2 {ms:List ArmR} {k:Nat} (hk:k<ms.length):(edC (ms.take k)).length=k * 2:=by
 rw[edC_len,List.length_take,Nat.min_eq_left (by omega)]

def MvO (X:Hp) (id g:Nat) (ms:List ArmR) (rest:List CV):Prop:=rdOb X id g=some ⟨edC ms++rest,g,true,2⟩

theorem MvO.lt {X:Hp} {id g:Nat} {ms:List ArmR} {rest:List CV} (h:MvO X id g ms rest):id<X.length:=rdOb_lt h

theorem MvO.row {X:Hp} {id g:Nat} {ms:List ArmR} {rest:List CV} (h:MvO X id g ms rest):Arms X (.sl id g 0 ms.length) ms:=by
 refine⟨ms.map armC,.inr ⟨id,g,0,_,rfl,h,rfl,by simp,?_⟩,by simp,fun k cs x a b=>?_⟩
 ·rw[List.drop_zero,List.take_append_of_le_length (by simp),List.take_of_length_le (by simp)];rfl
 ·rw[List.getElem?_map,b]at a
  simp at a;subst a
  exact⟨rfl,rfl⟩

theorem MvO.at {X:Hp} {id g:Nat} {ms:List ArmR} {rest:List CV} (h:MvO X id g ms rest) {k:Nat} (hk:k<ms.length) :
  rdN X id g (k * 2) 2=some [.i ms[k].fr,.i ms[k].v]∧rdC X id g (k * 2)=some (.i ms[k].fr)∧rdC X id g (k * 2+1)=some (.i ms[k].v):=by
 have hl:=take_len2 hk
 have e:edC ms++rest=edC (ms.take k)++.i ms[k].fr :: .i ms[k].v :: (edC (ms.drop (k+1))++rest):=by rw[edC_split hk];simp
 have h':rdOb X id g=some ⟨edC (ms.take k)++.i ms[k].fr :: .i ms[k].v :: (edC (ms.drop (k+1))++rest),g,true,2⟩:=by rw[← e];exact h
 refine⟨?_,?_,?_⟩
 ·rw[rdN_ob h',if_pos (by simp;omega)]
  simp only
  rw[← hl,List.drop_left];rfl
 ·rw[rdC_ob h']
  simp only
  rw[← hl,List.getElem?_append_right (Nat.le_refl _),Nat.sub_self];rfl
 ·rw[rdC_ob h']
  simp only
  rw[← hl,List.getElem?_append_right (by omega),show (edC (ms.take k)).length+1 - (edC (ms.take k)).length=1 by omega];rfl

theorem set_split {ms:List ArmR} {k:Nat} (hk:k<ms.length) (a:ArmR):edC (ms.set k a)=edC (ms.take k)++.i a.fr :: .i a.v :: edC (ms.drop (k+1)):=by
 rw[List.set_eq_take_append_cons_drop,if_pos hk,edC_app,edC_cons]

theorem mv_put {ms:List ArmR} {rest:List CV} {k:Nat} (hk:k<ms.length) (a:ArmR):putAt (edC ms++rest) (k * 2) [.i a.fr,.i a.v]=edC (ms.set k a)++rest∧k * 2+2≤(edC ms++rest).length:=by
 have hl:=take_len2 hk
 refine⟨?_,by simp;omega⟩
 rw[set_split hk,edC_split hk]
 generalize edC (ms.take k)=P at hl
 rw[← hl]
 simp[putAt,List.drop_append]

theorem mv_putv {ms:List ArmR} {rest:List CV} {k:Nat} (hk:k<ms.length) (x:Int):putAt (edC ms++rest) (k * 2+1) [.i x]=edC (ms.set k ⟨ms[k].fr,x⟩)++rest∧k * 2+1+1≤(edC ms++rest).length:=by
 have hl:=take_len2 hk
 refine⟨?_,by simp;omega⟩
 rw[putAt_get (by simp;omega),set_split hk,edC_split hk]
 generalize edC (ms.take k)=P at hl
 rw[← hl]
 simp[List.set_append,show P.length+1 - P.length=1 by omega]

def But (id:Nat) (X Z:Hp):Prop:=X.length≤Z.length∧∀ i g o,i≠id→rdOb X i g=some o→rdOb Z i g=some o

theorem But.refl (id:Nat) (X:Hp):But id X X:=⟨Nat.le_refl _,fun _ _ _ _ h=>h⟩

theorem But.trans {id:Nat} {X Y Z:Hp} (h:But id X Y) (k:But id Y Z):But id X Z:=⟨Nat.le_trans h.1 k.1,fun i g o hi ho=>k.2 i g o hi (h.2 i g o hi ho)⟩

theorem But.app (id:Nat) (X L:Hp):But id X (X++L):=⟨by simp,fun _ _ _ _ h=>rdOb_app L h⟩

theorem But.set (id:Nat) (X:Hp) (o:Ob):But id X (X.set id o):=⟨by simp,fun i g ob hi ho=>by rw[rdOb_set_ne hi];exact ho⟩

theorem But.low {id lo:Nat} {X Z:Hp} (h:But id X Z) (hl:lo≤id):Low lo X Z:=fun i g o hi ho=>h.2 i g o (by omega) ho

theorem cloneAppM {H:Hp} (ms:List ArmR) (hb:ms.length≤BIG):∃ g,doApp (H++[(⟨[],0,true,2⟩:Ob)]) 2 (.sl H.length 0 0 0) ms.length (edC ms)=some (.c (.sl H.length g 0 ms.length),H++[(⟨edC ms,g,true,2⟩:Ob)]):=by
 by_cases h0:0<ms.length
 ·refine⟨1,?_⟩
  have:=app_own (X:=H++[⟨[],0,true,2⟩]) (o:=H.length) (g:=0) (n:=0) (sz:=2) (m:=ms.length) (cs:=[]) (xs:=edC ms) (by simp) (by simp) (by simp;omega) (by simp only[BIG]at hb;simp only[LIM,List.length_nil,edC_len];omega)
  simpa using this
 ·have:ms=[]:=List.length_eq_zero_iff.1 (by omega)
  subst this
  exact⟨0,by simp[doApp,putAt]⟩

theorem arms_src {H:Hp} {v:CV} {ms:List ArmR} (h:Arms H v ms):srcOf H 2 v=some (ms.length,edC ms):=by
 obtain⟨css,h1,h2,h3⟩:=h
 have e:css=ms.map armC:=by
  apply List.ext_getElem?
  intro k
  by_cases hk:k<ms.length
  ·have a:=List.getElem?_eq_getElem (show k<css.length by omega)
   have b:=List.getElem?_eq_getElem hk
   have:=(h3 k _ _ a b).2
   rw[a,List.getElem?_map,b,show css[k]=armC ms[k] from this];rfl
  ·rw[List.getElem?_eq_none (by omega),List.getElem?_eq_none (by simp;omega)]
 subst e
 rcases h1 with⟨rfl,h4,h5⟩ | ⟨id,g,off,o,rfl,h4,h5,h6,h7⟩
 ·have:ms=[]:=List.length_eq_zero_iff.1 h4
  subst this;rfl
 ·simp[srcOf,h4,h6,h7];rfl

theorem cloneMove {H:Hp} {v:CV} {ms:List ArmR} (hv:Arms H v ms) (hnn:v≠.ns) (hb:ms.length≤BIG) (k:IV×Hp→Prop) :
  CM 126 [.c v] H k=k (.c (.sl H.length 0 0 ms.length),H++[⟨edC ms,0,true,2⟩]):=by
 refine det (cw126 ?_) k
 unfold vf126c
 have hsrc:=arms_src (hv.app [⟨[],0,true,2⟩])
 obtain⟨g,hg⟩:=cloneAppM (H:=H) ms hb
 obtain⟨id,gg,off,n,rfl⟩:∃ id gg off n,v=.sl id gg off n:=by
  obtain⟨css,h1,_⟩:=hv
  rcases h1 with⟨h,_⟩ | ⟨id,gg,off,o,h,_⟩
  ·exact absurd h hnn
  ·exact⟨_,_,_,_,h⟩
 simp[hsrc,hg]
 rw[gcRet_row ⟨_,rfl⟩ (Nat.le_refl _) (o:=⟨edC ms,g,true,2⟩) (by simp) rfl (by simpa using edC_flat ms)]

def leftM (p:ArmR→Bool) (xs:List ArmR) (i:Nat):List ArmR:=(xs.take i).filter fun x=>!p x

theorem leftM_succ {p:ArmR→Bool} {xs:List ArmR} {i:Nat} (hi:i<xs.length):leftM p xs (i+1)=leftM p xs i++(if p xs[i]=true then [] else [xs[i]]):=by
 unfold leftM
 rw[List.take_succ_eq_append_getElem hi,List.filter_append]
 congr 1
 cases h:p xs[i]<;>simp[h]

theorem leftM_le (p:ArmR→Bool) (xs:List ArmR) (i:Nat):(leftM p xs i).length≤i:=by
 unfold leftM
 exact Nat.le_trans (List.length_filter_le _ _) (by rw[List.length_take];omega)

theorem set_left {L xs:List ArmR} (h:L.length<xs.length) (a:ArmR):(L++xs.drop L.length).set L.length a=(L++[a])++xs.drop (L.length+1):=by
 have e:(xs.drop L.length).set 0 a=a :: xs.drop (L.length+1):=by rw[List.drop_eq_getElem_cons h];rfl
 rw[List.set_append,if_neg (by omega),Nat.sub_self,e];simp

theorem deleteMove {X:Hp} {id:Nat} {xs:List ArmR} (h:MvO X id 0 xs []) (hb:xs.length≤BIG) {fid:Nat} (p:ArmR→Bool)
  (hp:∀ (Y:Hp) (a:ArmR) (k:IV×Hp→Prop),CM fid [.agg [.i a.fr,.i a.v]] Y k=k (.c (.b (p a)),Y)) :
  CM 125 [.c (.sl id 0 0 xs.length),.f fid []] X fun r=>∃ Z rest,r=(.c (.sl id 0 0 (leftM p xs xs.length).length),Z)∧But id X Z∧MvO Z id 0 (leftM p xs xs.length) rest:=by
 refine cw125 ?_
 unfold vf125c
 have hlt:=h.lt
 have hix:=fun k=>indexMove h.row hb (fid:=fid) (caps:=[]) p (fun i hi cs hcs k=>by
  have hcs:cs=armC _:=hcs
  subst hcs
  exact hp X _ k) k
 have hlook:∀ i,i≤xs.length→(∀ j (hj:j<i) (hx:j<xs.length),p xs[j]=false)→leftM p xs i=xs.take i:=fun i hi hf=>by
  unfold leftM
  rw[List.filter_eq_self]
  intro x hx
  obtain⟨l,hl,rfl⟩:=List.mem_take_iff_getElem.1 hx
  rw[hf l (by omega) (by omega)];rfl
 cases hany:xs.any p with
 | false =>
  have hf:findI p xs=-1:=by
   cases hd:decide (0≤findI p xs) with
   | true=>rw[findI_nonneg.1 (of_decide_eq_true hd)]at hany;cases hany
   | false =>
    refine findI_none fun j hj=>?_
    rw[List.any_eq_false]at hany
    simpa using hany _ (List.getElem_mem hj)
  have hall:leftM p xs xs.length=xs:=by
   rw[hlook _ (Nat.le_refl _) fun j _ hx=>by
    rw[List.any_eq_false]at hany
    simpa using hany _ (List.getElem_mem hx),List.take_length]
  simp[hix,hf]
  rw[gc_inner hlt,hall]
  exact⟨X,rfl,But.refl _ _,[],h⟩
 | true =>
  obtain⟨j,hj,hfj,hpj,hbf⟩:∃ j:Nat,∃ hj:j<xs.length,findI p xs=j∧p (xs[j]'hj)=true∧∀ i (hi:i<j),p (xs[i]'(by omega))=false:=by
   have h1:=findI_nonneg.2 hany
   unfold findI at h1 ⊢
   cases hf:xs.findIdx? p with
   | none=>rw[hf]at h1;exact absurd h1 (by decide)
   | some j =>
    rw[List.findIdx?_eq_some_iff_getElem]at hf
    obtain⟨hj,h2,h3⟩:=hf
    exact⟨j,hj,rfl,h2,fun i hi=>by simpa using h3 i hi⟩
  have hl0:leftM p xs (j+1)=xs.take j:=by
   rw[leftM_succ hj,if_pos hpj,List.append_nil,hlook j (by omega) fun l hl hx=>hbf l hl]
  simp[hix,hfj,up1 hj hb,show ¬ ((j:Int)=-1) by omega]
  obtain⟨I,hI⟩:∃ I:Nat→St→Prop,∀ i st,I i st↔(But id X st.h∧MvO st.h id 0 (leftM p xs (j+1+i)++xs.drop (leftM p xs (j+1+i)).length) []∧(leftM p xs (j+1+i)).length<j+1+i∧Env.get st.e 0=.c (.sl id 0 0 xs.length)∧Env.get st.e 1=.f fid []∧Env.get st.e 5=.c (.i (leftM p xs (j+1+i)).length)∧Env.get st.e 6=.c (.i ((j+1+i:Nat):Int))):=⟨_,fun _ _=>Iff.rfl⟩
  refine wp_for CM_mono (xs.length - (j+1)) I ((hI _ _).2 ⟨But.refl _ _,?_,?_,?_⟩) ?_ ?_
  ·simp only[Nat.add_zero,hl0]
   rw[List.length_take,Nat.min_eq_left (by omega),List.take_append_drop];exact h
  ·simp only[Nat.add_zero,hl0,List.length_take];omega
  ·simp[hl0];omega
  ·rintro i ⟨e,Y⟩ hi hIs
   obtain⟨hB,hY,hlen,h0,h1,h5,h6⟩:=(hI _ _).1 hIs
   simp only at hB hY hlen h0 h1 h5 h6 ⊢
   obtain⟨n,hn⟩:∃ n,n=j+1+i:=⟨_,rfl⟩
   have hnl:n<xs.length:=by omega
   rw[← hn]at hY hlen h5 h6
   have hsu:=leftM_succ (p:=p) hnl
   generalize hF:leftM p xs n=F at hY hlen h5 hsu
   have hFl:F.length<xs.length:=by omega
   have hlm:(F++xs.drop F.length).length=xs.length:=by simp;omega
   have hg:(F++xs.drop F.length)[n]'(by omega)=xs[n]:=by
    rw[List.getElem_append_right (by omega),List.getElem_drop]
    congr 1;omega
   obtain⟨r1,r2,r3⟩:=hY.at (k:=n) (by omega)
   rw[hg]at r1
   obtain⟨Y1,hY1⟩:∃ Y1,Y++[(⟨[.i xs[n].fr,.i xs[n].v],0,true,2⟩:Ob)]=Y1:=⟨_,rfl⟩
   have hM1:MvO Y1 id 0 (F++xs.drop F.length) []:=by rw[← hY1];exact rdOb_app _ hY
   have hB1:But id X Y1:=by rw[← hY1];exact hB.trans (But.app _ _ _)
   have hlY:=hY.lt
   have hlY1:=hM1.lt
   have hnew:rdN Y1 Y.length 0 0 2=some [.i xs[n].fr,.i xs[n].v]:=by rw[← hY1,rdN_ob (o:=⟨[.i xs[n].fr,.i xs[n].v],0,true,2⟩) (by simp)];simp
   have en:j+1+(i+1)=n+1:=by omega
   have hp2:putAt [.i 0,.i 0] 0 [.i xs[n].fr,.i xs[n].v]=[.i xs[n].fr,.i xs[n].v]:=rfl
   unfold vf125b0
   cases hpx:p xs[n] with
   | true =>
    rw[if_pos hpx,List.append_nil]at hsu
    simp[h0,h1,h5,h6,hnl,idxOf,r1,hp2,hY1,hnew,hp,hpx,up1 hnl hb]
    exact (hI _ _).2 ⟨hB1,by rw[en,hsu];exact hM1,by rw[en,hsu];omega,by simp[h0,h1,h5,en,hsu]⟩
   | false =>
    rw[if_neg (by simp[hpx])]at hsu
    obtain⟨w1,w2⟩:=mv_put (ms:=F++xs.drop F.length) (rest:=[]) (k:=F.length) (by omega) xs[n]
    rw[set_left hFl]at w1
    have hM1':rdOb Y1 id 0=some ⟨edC (F++xs.drop F.length)++[],0,true,2⟩:=hM1
    generalize hcs:edC (F++xs.drop F.length)++[]=cs at w1 w2 hM1'
    simp[h0,h1,h5,h6,hnl,hFl,idxOf,r1,hp2,hY1,hnew,hp,hpx,hM1',w1,w2,up1 hnl hb,up1 hFl hb]
    refine (hI _ _).2 ⟨hB1.trans (But.set _ _ _),?_,by rw[en,hsu];simp;omega,by simp[en,hsu,h0,h1]⟩
    rw[en,hsu,show (F++[xs[n]]).length=F.length+1 by simp]
    show rdOb (Y1.set id _) id 0=_
    rw[rdOb_set_self hlY1];simp
  ·rintro⟨e,Y⟩ hIs
   obtain⟨hB,hY,hlen,h0,h1,h5,h6⟩:=(hI _ _).1 hIs
   simp only at hB hY hlen h0 h1 h5 h6 ⊢
   rw[show j+1+(xs.length - (j+1))=xs.length by omega]at hY hlen h5 h6
   generalize hF:leftM p xs xs.length=F at hY hlen h5
   have hlY:=hY.lt
   have hcl:(edC F).length=F.length * 2:=by simp
   obtain⟨zs,hzs⟩:∃ zs:List CV,(List.replicate (xs.length - F.length) [CV.i 0,CV.i 0]).flatten=zs:=⟨_,rfl⟩
   have hzl:zs.length=(xs.length - F.length) * 2:=by rw[← hzs];simp
   have hYo:rdOb Y id 0=some ⟨edC (F++xs.drop F.length)++[],0,true,2⟩:=hY
   have hput:putAt (edC (F++xs.drop F.length)++[]) (F.length * 2) zs=edC F++zs:=by
    unfold putAt
    rw[List.append_nil,edC_app,List.take_append_of_le_length (by omega),List.take_of_length_le (by omega),List.drop_eq_nil_of_le (by simp;omega),List.append_nil]
   have hle:F.length * 2+(xs.length - F.length) * 2≤(edC (F++xs.drop F.length)++[]).length:=by simp;omega
   generalize hcs:edC (F++xs.drop F.length)++[]=cs at hYo hput hle
   have hs1:doSlice Y 2 (.sl id 0 0 xs.length) (some (.c (.i (F.length:Int)))) none=some (.c (.sl id 0 (F.length * 2) (xs.length - F.length))):=by
    simp[doSlice,hYo]<;>omega
   have hs2:doSlice (Y.set id ⟨edC F++zs,0,true,2⟩) 2 (.sl id 0 0 xs.length) none (some (.c (.i (F.length:Int))))=some (.c (.sl id 0 0 F.length)):=by
    simp[doSlice,rdOb_set_self hlY]<;>omega
   unfold vf125b0
   simp[h0,h1,h5,h6,hs1,hYo,hzs,hle,hput,hs2]
   rw[gc_inner hlt]
   exact⟨_,rfl,hB.trans (But.set _ _ _),zs,by show rdOb (Y.set id _) id 0=_;rw[rdOb_set_self hlY];simp⟩
theorem erase_split {ms:List ArmR} {i:Nat} (hi:i<ms.length):ms.eraseIdx i=ms.take i++ms.drop (i+1):=by rw[List.eraseIdx_eq_take_drop_succ]

theorem dropMove {X:Hp} {id:Nat} {ms:List ArmR} {rest:List CV} (h:MvO X id 0 ms rest) (hb:ms.length≤BIG) {i:Nat} (hi:i<ms.length) :
  CM 129 [.c (.sl id 0 0 ms.length),.c (.i i),.c (.i ((i:Int)+1))] X fun r=>∃ Z rest',r=(.c (.sl id 0 0 (ms.eraseIdx i).length),Z)∧But id X Z∧MvO Z id 0 (ms.eraseIdx i) rest':=by
 refine cw129 ?_
 unfold vf129c
 have hlt:=h.lt
 have ho:rdOb X id 0=some ⟨edC ms++rest,0,true,2⟩:=h
 obtain⟨n,hn⟩:∃ n,n=ms.length:=⟨_,rfl⟩
 have hel:(ms.eraseIdx i).length=n - 1:=by rw[List.length_eraseIdx,if_pos hi,hn]
 obtain⟨D,hD⟩:∃ D,(edC ms++rest).drop (i * 2+(edC (ms.drop (i+1))).length)=D:=⟨_,rfl⟩
 have hDl:D.length=2+rest.length:=by rw[← hD];simp;omega
 have hput:putAt (edC ms++rest) (i * 2) (edC (ms.drop (i+1)))=edC (ms.eraseIdx i)++D:=by
  unfold putAt
  rw[hD,erase_split hi,edC_app]
  congr 2
  have:edC ms++rest=edC (ms.take i)++(edC (ms.drop i)++rest):=by rw[← List.append_assoc,← edC_app,List.take_append_drop]
  rw[this,List.take_append_of_le_length (by rw[take_len2 hi];exact Nat.le_refl _),List.take_of_length_le (by rw[take_len2 hi];exact Nat.le_refl _)]
 obtain⟨a,b,D',hD'⟩:∃ a b D',D=a :: b :: D':=by
  match D,hDl with
  | a :: b :: D',_=>exact⟨a,b,D',rfl⟩
  | [a],h=>simp at h;omega
  | [],h=>simp at h;omega
 have hput2:putAt (edC (ms.eraseIdx i)++D) ((n - 1) * 2) [.i 0,.i 0]=edC (ms.eraseIdx i)++(.i 0 :: .i 0 :: D'):=by
  have hl:(edC (ms.eraseIdx i)).length=(n - 1) * 2:=by rw[edC_len,hel]
  rw[hD',← hl]
  simp[putAt,List.drop_append]
 have hcl:(edC ms++rest).length=n * 2+rest.length:=by rw[hn];simp
 have hcl2:(edC (ms.eraseIdx i)++D).length=(n - 1) * 2+(2+rest.length):=by rw[List.length_append,edC_len,hel,hDl]
 have hsrc:srcOf X 2 (.sl id 0 ((i+1) * 2) (n - (i+1)))=some (n - (i+1),edC (ms.drop (i+1))):=by
  have e1:((edC ms++rest).drop ((i+1) * 2)).take ((n - (i+1)) * 2)=edC (ms.drop (i+1)):=by
   have:edC ms++rest=edC (ms.take (i+1))++(edC (ms.drop (i+1))++rest):=by rw[← List.append_assoc,← edC_app,List.take_append_drop]
   have hl:(edC (ms.take (i+1))).length=(i+1) * 2:=by simp;omega
   rw[this,← hl,List.drop_left,List.take_append_of_le_length (by simp;omega),List.take_of_length_le (by simp;omega)]
  have h1:(i+1) * 2+(n - (i+1)) * 2≤(edC ms++rest).length:=by omega
  unfold srcOf
  simp only[ho,Option.bind_some]
  rw[if_pos h1,e1]
 have happ:doApp X 2 (.sl id 0 0 i) (n - (i+1)) (edC (ms.drop (i+1)))=some (.c (.sl id 0 0 (n - 1)),X.set id ⟨edC (ms.eraseIdx i)++D,0,true,2⟩):=by
  have h1:i * 2+(edC (ms.drop (i+1))).length≤(edC ms++rest).length:=by simp;omega
  have e:i+(n - (i+1))=n - 1:=by omega
  unfold doApp
  simp only[ho,Option.bind_some]
  rw[if_pos (by simp),if_pos h1,hput,e]
 generalize hc1:edC ms++rest=c1 at ho hcl
 generalize hc2:edC (ms.eraseIdx i)++D=c2 at happ hput2 hcl2
 have hs1:doSlice X 2 (.sl id 0 0 n) none (some (.c (.i i)))=some (.c (.sl id 0 0 i)):=by
  simp[doSlice,ho]<;>omega
 have hs2:doSlice X 2 (.sl id 0 0 n) (some (.c (.i ((i:Int)+1)))) none=some (.c (.sl id 0 ((i+1) * 2) (n - (i+1)))):=by
  have e:((i:Int)+1).toNat=i+1:=by omega
  simp[doSlice,ho,e]<;>omega
 obtain⟨X2,hX2⟩:∃ X2,X.set id ⟨c2,0,true,2⟩=X2:=⟨_,rfl⟩
 have ho2:rdOb X2 id 0=some ⟨c2,0,true,2⟩:=by rw[← hX2,rdOb_set_self hlt];simp
 have hs3:doSlice X2 2 (.sl id 0 0 (n - 1)) (some (.c (.i ((n - 1:Nat):Int)))) (some (.c (.i n)))=some (.c (.sl id 0 ((n - 1) * 2) 1)):=by
  have e1:¬ ((n:Int)≤((n - 1:Nat):Int)):=by omega
  have e2:n - (n - 1)=1:=by omega
  have e3:((n - 1:Nat):Int)≤n:=by omega
  simp[doSlice,ho2,e1,e2,e3]<;>omega
 have hle:(n - 1) * 2+2≤c2.length:=by omega
 have hne:¬ ((i:Int)=(i:Int)+1):=by omega
 have hbk1:(i:Int)+1≤(n:Int):=by omega
 have hbk0:(i:Int)≤(i:Int)+1:=by omega
 rw[← hn]
 have hlt2:id<X2.length:=rdOb_lt ho2
 simp[hne,hbk0,hs1,hs2,hsrc,happ,hX2,hs3,ho2,hle,hput2,hbk1]
 rw[gc_inner hlt]
 exact⟨X2.set id ⟨edC (ms.eraseIdx i)++(.i 0 :: .i 0 :: D'),0,true,2⟩,by rw[hel],⟨by simp[← hX2],fun j g o hj ho=>by rw[rdOb_set_ne hj,← hX2,rdOb_set_ne hj];exact ho⟩,.i 0 :: .i 0 :: D',by show rdOb (X2.set id _) id 0=_;rw[rdOb_set_self hlt2];simp⟩


def frB (ms:List ArmR) (m:ArmR):Bool:=!ms.any fun o=>decide (o.v=m.fr)

theorem rdC_pre {X Y:Hp} (hp:Pre X Y) {id g off:Nat} {c:CV} (h:rdC X id g off=some c):rdC Y id g off=some c:=by
 unfold rdC at h ⊢
 cases ho:rdOb X id g with
 | none=>simp[ho]at h
 | some o=>rw[hp.rdOb ho];rw[ho]at h;exact h

theorem freeOther {X:Hp} {p g:Nat} {m:ArmR} (h:rdOb X p g=some ⟨[.i m.fr,.i m.v],g,true,2⟩) (hne:m.fr≠m.v) (a:ArmR) (k:IV×Hp→Prop) :
  CM 171 [.agg [.i a.fr,.i a.v],.c (.p p g 0)] X k=k (.c (.b (decide (a.v=m.fr))),X):=by
 refine det (cw171 ?_) k
 unfold vf171c
 obtain⟨a1,a2⟩:=a
 obtain⟨m1,m2⟩:=m
 simp only at h hne ⊢
 obtain⟨X1,hX1⟩:∃ X1,X++[(⟨[.i a1,.i a2],0,true,2⟩:Ob)]=X1:=⟨_,rfl⟩
 have h1:rdOb X1 p g=some ⟨[.i m1,.i m2],g,true,2⟩:=by rw[← hX1];exact rdOb_app _ h
 have h2:rdOb X1 X.length 0=some ⟨[.i a1,.i a2],0,true,2⟩:=by rw[← hX1];simp
 have n1:rdN X1 p g 0 2=some [.i m1,.i m2]:=by rw[rdN_ob h1];simp
 have n2:rdN X1 X.length 0 0 2=some [.i a1,.i a2]:=by rw[rdN_ob h2];simp
 have k1:rdC X1 p g 0=some (.i m1):=by rw[rdC_ob h1];rfl
 have k2:rdC X1 X.length 0 1=some (.i a2):=by rw[rdC_ob h2];rfl
 have hp:Pre X X1:=⟨_,hX1.symm⟩
 have hne':¬ m2=m1:=fun h=>hne h.symm
 by_cases e1:a1=m1
 ·subst e1
  by_cases e2:a2=m2
  ·subst e2
   simp[hX1,n1,n2,k1,k2,hne',allInt]
   exact gcRet_flat hp rfl
  ·by_cases e4:a2=a1
   ·subst e4
    simp[hX1,n1,n2,k1,k2,e2,allInt]
    exact gcRet_flat hp rfl
   ·simp[hX1,n1,n2,k1,k2,e2,e4,allInt]
    exact gcRet_flat hp rfl
 ·by_cases e4:a2=m1
  ·subst e4
   simp[hX1,n1,n2,k1,k2,e1,allInt]
   exact gcRet_flat hp rfl
  ·simp[hX1,n1,n2,k1,k2,e1,e4,allInt]
   exact gcRet_flat hp rfl

theorem freeOne {X:Hp} {q:Nat} {w:CV} {ms:List ArmR} (h:rdC X q 0 0=some w) (hw:Arms X w ms) (hb:ms.length≤BIG) {m:ArmR} (hne:m.fr≠m.v) (k:IV×Hp→Prop) :
  CM 170 [.agg [.i m.fr,.i m.v],.c (.p q 0 0)] X k=k (.c (.b (frB ms m)),X):=by
 refine det (cw170 ?_) k
 unfold vf170c
 obtain⟨X1,hX1⟩:∃ X1,X++[(⟨[.i m.fr,.i m.v],0,true,2⟩:Ob)]=X1:=⟨_,rfl⟩
 have hp:Pre X X1:=⟨_,hX1.symm⟩
 have h1:rdC X1 q 0 0=some w:=rdC_pre hp h
 have h2:rdOb X1 X.length 0=some ⟨[.i m.fr,.i m.v],0,true,2⟩:=by rw[← hX1];simp
 have hc:=fun k=>containsMove (Row.pre (fun _ _=>armP.pre) hp hw) hb (fid:=171) (caps:=[.p X.length 0 0]) (fun o=>decide (o.v=m.fr)) (fun i hi cs hcs k=>by
  have hcs:cs=armC _:=hcs
  subst hcs
  exact freeOther h2 hne _ k) k
 simp[hX1,h1,hc]
 rw[gcRet_flat hp rfl]
 simp[frB]

theorem freeMove_call {X:Hp} {id g off n:Nat} {ms:List ArmR} (hw:Arms X (.sl id g off n) ms) (hb:ms.length≤BIG) (hne:∀ m∈ms,m.fr≠m.v) (k:IV×Hp→Prop) :
  CM 128 [.c (.sl id g off n)] X k=k (.c (.i (findI (frB ms) ms)),X):=by
 refine det (cw128 ?_) k
 unfold vf128c
 obtain⟨X1,hX1⟩:∃ X1,X++[(⟨[.sl id g off n],0,true,1⟩:Ob)]=X1:=⟨_,rfl⟩
 have hp:Pre X X1:=⟨_,hX1.symm⟩
 have h2:rdOb X1 X.length 0=some ⟨[.sl id g off n],0,true,1⟩:=by rw[← hX1];simp
 have h1:rdC X1 X.length 0 0=some (.sl id g off n):=by rw[rdC_ob h2];rfl
 have hw1:=Row.pre (fun _ _=>armP.pre) hp hw
 have hc:=fun k=>indexMove hw1 hb (fid:=170) (caps:=[.p X.length 0 0]) (frB ms) (fun i hi cs hcs k=>by
  have hcs:cs=armC _:=hcs
  subst hcs
  exact freeOne h1 hw1 hb (hne _ (List.getElem_mem hi)) k) k
 simp[hX1,h1,hc]
 rw[gcRet_flat hp rfl]


def turnM (n b:Int) (a:ArmR):ArmR:=if a.v=b then ⟨a.fr,n⟩ else a

def seqF (n:Int):Nat→List ArmR→List ArmR→List ArmR
 | 0,_,out=>out
 | f+1,left,out =>
  if left.length=0 then out
  else if 0≤findI (frB left) left then seqF n f (left.eraseIdx (findI (frB left) left).toNat) (out++[left.getD (findI (frB left) left).toNat ⟨0,0⟩])
  else seqF n f (left.map (turnM n (left.getD 0 ⟨0,0⟩).fr)) (out++[⟨n,(left.getD 0 ⟨0,0⟩).fr⟩])

def GoodM (n:Int) (ms:List ArmR):Prop:=∀ m∈ms,m.fr≠m.v∧m.fr<n

def muM (ms:List ArmR):Nat:=2 * ms.length+(if ms.any (frB ms)=true then 0 else 1)

theorem seq_nil (n:Int) (f:Nat) (out:List ArmR):seqF n f [] out=out:=by cases f<;>rfl

theorem findI_at {p:ArmR→Bool} {xs:List ArmR} (h:0≤findI p xs):∃ i:Nat,findI p xs=i∧∃ hi:i<xs.length,p xs[i]=true:=by
 unfold findI at h ⊢
 cases hf:xs.findIdx? p with
 | none=>rw[hf]at h;exact absurd h (by decide)
 | some j =>
  rw[List.findIdx?_eq_some_iff_getElem]at hf
  obtain⟨hj,h2,h3⟩:=hf
  exact⟨j,rfl,hj,h2⟩

theorem good_erase {n:Int} {ms:List ArmR} (h:GoodM n ms) (i:Nat):GoodM n (ms.eraseIdx i):=fun m hm=>h m (List.mem_of_mem_eraseIdx hm)

theorem mu_erase {ms:List ArmR} {i:Nat} (hi:i<ms.length):muM (ms.eraseIdx i)<muM ms:=by
 unfold muM
 rw[List.length_eraseIdx,if_pos hi]
 split<;>split<;>omega

theorem good_turn {n b:Int} {ms:List ArmR} (h:GoodM n ms):GoodM n (ms.map (turnM n b)):=by
 intro m hm
 rw[List.mem_map]at hm
 obtain⟨a,ha,rfl⟩:=hm
 have:=h a ha
 unfold turnM
 split
 ·exact⟨by simp only;omega,this.2⟩
 ·exact this

theorem mu_turn {n:Int} {ms:List ArmR} (h:GoodM n ms) (h0:0<ms.length) (hf:findI (frB ms) ms<0):muM (ms.map (turnM n (ms.getD 0 ⟨0,0⟩).fr))<muM ms:=by
 have hno:ms.any (frB ms)=false:=by
  cases ha:ms.any (frB ms) with
  | false=>rfl
  | true=>have:=findI_nonneg.2 ha;omega
 unfold muM
 rw[List.length_map,hno]
 have hyes:(ms.map (turnM n (ms.getD 0 ⟨0,0⟩).fr)).any (frB (ms.map (turnM n (ms.getD 0 ⟨0,0⟩).fr)))=true:=by
  match ms,h0 with
  | a :: r,_ =>
   have hga:=h a (by simp)
   rw[List.any_eq_true]
   refine⟨turnM n a.fr a,by simp,?_⟩
   unfold frB
   rw[Bool.not_eq_true',List.any_eq_false]
   intro o ho
   rw[List.mem_map]at ho
   obtain⟨c,hc,rfl⟩:=ho
   have e:(turnM n a.fr a).fr=a.fr:=by unfold turnM;split<;>rfl
   rw[e]
   simp only[decide_eq_true_eq]
   simp only[List.getD_cons_zero]
   unfold turnM
   split
   ·simp only;omega
   ·assumption
 rw[hyes]
 simp
theorem MvO.but {id g i:Nat} {X Z:Hp} {ms:List ArmR} {rest:List CV} (h:MvO X i g ms rest) (hb:But id X Z) (hne:i≠id):MvO Z i g ms rest:=hb.2 _ _ _ hne h

theorem MvO.app {i g:Nat} {X:Hp} {ms:List ArmR} {rest:List CV} (h:MvO X i g ms rest) (L:Hp):MvO (X++L) i g ms rest:=rdOb_app L h

theorem MvO.push {X:Hp} {b g:Nat} {out:List ArmR} (h:MvO X b g out []) (hl:out.length≤100) (a:ArmR) :
  doApp (X++[(⟨[.i a.fr,.i a.v],0,true,2⟩:Ob)]) 2 (.sl b g 0 out.length) 1 [.i a.fr,.i a.v]=some (.c (.sl b (g+1) 0 (out.length+1)),(X++[(⟨[.i a.fr,.i a.v],0,true,2⟩:Ob)]).set b ⟨edC (out++[a]),g+1,true,2⟩) ∧
  But b X ((X++[(⟨[.i a.fr,.i a.v],0,true,2⟩:Ob)]).set b ⟨edC (out++[a]),g+1,true,2⟩)∧MvO ((X++[(⟨[.i a.fr,.i a.v],0,true,2⟩:Ob)]).set b ⟨edC (out++[a]),g+1,true,2⟩) b (g+1) (out++[a]) []:=by
 have hlt:=h.lt
 have h':rdOb X b g=some ⟨edC out,g,true,2⟩:=by have h2:rdOb X b g=some ⟨edC out++[],g,true,2⟩:=h;rwa [List.append_nil]at h2
 have happ:=app_own (X:=X++[(⟨[.i a.fr,.i a.v],0,true,2⟩:Ob)]) (o:=b) (g:=g) (n:=out.length) (sz:=2) (m:=1) (cs:=edC out) (xs:=[.i a.fr,.i a.v]) (rdOb_app _ h') (by simp) (by simp) (by simp only[LIM,List.length_cons,List.length_nil,edC_len];omega)
 have e:edC out++[.i a.fr,.i a.v]=edC (out++[a]):=by rw[edC_snoc];rfl
 rw[e]at happ
 exact⟨happ,(But.app _ _ _).trans (But.set _ _ _),by show rdOb _ _ _=_;rw[rdOb_set_self (by simp;omega),List.append_nil];simp⟩

def turnTo (n b:Int) (ms:List ArmR) (j:Nat):List ArmR:=(ms.take j).map (turnM n b)++ms.drop j

theorem turnTo_len (n b:Int) (ms:List ArmR) (j:Nat):(turnTo n b ms j).length=ms.length:=by
 unfold turnTo;rw[List.length_append,List.length_map,← List.length_append,List.take_append_drop]

theorem turnTo_all (n b:Int) (ms:List ArmR):turnTo n b ms ms.length=ms.map (turnM n b):=by simp[turnTo]

theorem turnTo_at {n b:Int} {ms:List ArmR} {j:Nat} (hj:j<ms.length):(turnTo n b ms j)[j]'(by rw[turnTo_len];exact hj)=ms[j]:=by
 unfold turnTo
 rw[List.getElem_append_right (by simp;omega),List.getElem_drop]
 congr 1
 simp;omega

theorem turnTo_succ {n b:Int} {ms:List ArmR} {j:Nat} (hj:j<ms.length):turnTo n b ms (j+1)=(turnTo n b ms j).set j (turnM n b ms[j]):=by
 unfold turnTo
 have hl:((ms.take j).map (turnM n b)).length=j:=by simp;omega
 have e:(ms.drop j).set 0 (turnM n b ms[j])=turnM n b ms[j] :: ms.drop (j+1):=by rw[List.drop_eq_getElem_cons hj];rfl
 rw[List.set_append,if_neg (by omega),hl,Nat.sub_self,e,List.take_succ_eq_append_getElem hj,List.map_append,List.append_assoc];rfl

theorem turnTo_same {n b:Int} {ms:List ArmR} {j:Nat} (hj:j<ms.length) (h:¬ ms[j].v=b):turnTo n b ms (j+1)=turnTo n b ms j:=by
 rw[turnTo_succ hj]
 have e:turnM n b ms[j]=(turnTo n b ms j)[j]'(by rw[turnTo_len];exact hj):=by rw[turnTo_at hj];unfold turnM;rw[if_neg h]
 rw[e,List.set_getElem_self]

theorem getD_idx {ms:List ArmR} {i:Nat} (h:i<ms.length):ms.getD i ⟨0,0⟩=ms[i]:=by rw[List.getD_eq_getElem?_getD,List.getElem?_eq_getElem h];rfl

def idM (m:ArmR):Bool:=decide (m.fr=m.v)

theorem impl_idM (Y:Hp) (a:ArmR) (k:IV×Hp→Prop):CM 127 [.agg [.i a.fr,.i a.v]] Y k=k (.c (.b (idM a)),Y):=by
 refine det (cw127 ?_) k
 unfold vf127c
 simp[idM]

def SeqRes (H:Hp) (ms:List ArmR) (n:Int) (r:IV×Hp):Prop:=∃ Z b g,r=(.tup [(false,[.sl b g 0 (seqF n 60 (leftM idM ms ms.length) []).length]),(false,[.b true])],Z)∧Pre H Z∧H.length≤b∧MvO Z b g (seqF n 60 (leftM idM ms ms.length) []) []

theorem gc_tup3 {H:Hp} {w u:CV} (hu:flatC w=false) (Y:Hp):gcRet H (.tup [(false,[w]),(false,[u])]) Y=(.tup [(false,[w]),(false,[u])],Y):=by
 unfold gcRet;split
 ·rw[if_neg (by unfold flatV;simp only[List.all_cons,List.all_nil,Bool.and_true,hu,Bool.false_and];decide)]
 ·rfl

theorem mvB_all {n:Int} {ms:List ArmR} (h:movesB n ms=true):ms.length≤24∧∀ m∈ms,m.fr<n:=by
 unfold movesB at h
 rw[Bool.and_eq_true,decide_eq_true_eq]at h
 refine⟨h.2,fun m hm=>?_⟩
 obtain⟨i,hi,rfl⟩:=List.getElem_of_mem hm
 have h1:=h.1
 unfold mvsB at h1
 rw[List.all_eq_true]at h1
 have h2:=h1 i (List.mem_range.2 hi)
 rw[mvB_at hi]at h2
 simp only[Bool.and_eq_true,decide_eq_true_eq]at h2
 omega

theorem left_good {n:Int} {ms:List ArmR} (h:∀ m∈ms,m.fr<n):GoodM n (leftM idM ms ms.length):=by
 intro m hm
 unfold leftM at hm
 rw[List.take_length,List.mem_filter]at hm
 refine⟨fun e=>?_,h m hm.1⟩
 have:=hm.2
 unfold idM at this
 simp[e]at this

theorem left_mu {ms:List ArmR} (h:ms.length≤24):muM (leftM idM ms ms.length)≤60∧(leftM idM ms ms.length).length≤24:=by
 have:=leftM_le idM ms ms.length
 unfold muM
 split<;>omega

set_option maxRecDepth 100000 in
theorem implSeq {H:Hp} {id0 g0 off0 n0:Nat} {ms:List ArmR} {n:Int} (hw:Arms H (.sl id0 g0 off0 n0) ms) (hb:ms.length≤BIG) (hok:movesB n ms=true):CM 67 [.c (.sl id0 g0 off0 n0),.c (.i n)] H (SeqRes H ms n):=by
 obtain⟨h24,hfr⟩:=mvB_all hok
 refine cw67 ?_
 unfold vf67c
 simp[implMoves hw hb,hok,cloneMove hw (by simp) hb]
 obtain⟨a,ha⟩:∃ a,a=H.length:=⟨_,rfl⟩
 have hM0:MvO (H++[(⟨edC ms,0,true,2⟩:Ob)]) a 0 ms []:=by show rdOb _ _ _=_;rw[ha];simp
 have hp0:Pre H (H++[(⟨edC ms,0,true,2⟩:Ob)]):=⟨_,rfl⟩
 rw[← ha]
 generalize H++[(⟨edC ms,0,true,2⟩:Ob)]=X0 at hM0 hp0 ⊢
 refine (deleteMove hM0 hb idM impl_idM).mono ?_
 rintro _ ⟨X1,rest1,rfl,hB1,hM1⟩
 obtain⟨hmu,hl24⟩:=left_mu h24
 have hgood:=left_good hfr
 unfold SeqRes
 generalize leftM idM ms ms.length=L0 at hM1 hmu hgood hl24 ⊢
 obtain⟨F,hF⟩:∃ F,seqF n 60 L0 []=F:=⟨_,rfl⟩
 rw[hF]
 have hlow1:Low H.length X0 X1:=hB1.low (by omega)
 have hlt1:=hM1.lt
 simp
 obtain⟨I,hI⟩:∃ I:Nat→St→Prop,∀ f st,I f st↔∃ left out rest b g,Low H.length X0 st.h∧MvO st.h a 0 left rest∧MvO st.h b g out []∧X1.length≤b∧GoodM n left∧muM left≤f∧left.length≤24∧out.length+f≤60∧seqF n f left out=F∧Env.get st.e 1=.c (.i n)∧Env.get st.e 6=.c (.sl a 0 0 left.length)∧Env.get st.e 7=.c (.sl b g 0 out.length):=⟨_,fun _ _=>Iff.rfl⟩
 refine wp_loop CM_mono I (k:=60) ((hI _ _).2 ⟨L0,[],rest1,X1.length,0,hlow1.trans (Low.app _ _ _),hM1.app _,by show rdOb _ _ _=_;simp,Nat.le_refl _,hgood,hmu,hl24,by simp,hF,by simp⟩) ?_
 rintro f ⟨e,Y⟩ hIs
 obtain⟨left,out,rest,b,g,hL,hMa,hMb,hbX,hG,hmu',hll,hol,hseq,e1,e6,e7⟩:=(hI _ _).1 hIs
 simp only at hL hMa hMb e1 e6 e7 ⊢
 have hab:a≠b:=by omega
 have hlY:=hMa.lt
 unfold vf67b1
 by_cases h0:left.length=0
 ·have:left=[]:=List.length_eq_zero_iff.1 h0
  subst this
  rw[seq_nil]at hseq
  subst hseq
  simp[e1,e6,e7,gc_tup3 (w:=.sl b g 0 out.length) rfl]
  exact⟨Y,b,g,⟨⟨rfl,rfl⟩,rfl⟩,hL.pre hp0 (Nat.le_refl _),by have:=hp0.le;have:=hB1.1;omega,hMb⟩
 ·have hpos:(0:Int)<(left.length:Int):=by omega
  have hpos':0<left.length:=by omega
  obtain⟨f',rfl⟩:∃ f',f=f'+1:=⟨f - 1,by unfold muM at hmu';omega⟩
  have hne:∀ m∈left,m.fr≠m.v:=fun m hm=>(hG m hm).1
  have hfm:=fun k=>freeMove_call hMa.row (by simp only[BIG];omega) hne k
  by_cases hfr0:0≤findI (frB left) left
  ·obtain⟨i,hfi,hi,hfp⟩:=findI_at hfr0
   have hseq':seqF n f' (left.eraseIdx i) (out++[left[i]])=F:=by
    rw[← hseq]
    conv=>rhs;unfold seqF
    rw[if_neg h0,if_pos hfr0,hfi,Int.toNat_natCast,getD_idx hi]
   obtain⟨r1,r2,r3⟩:=hMa.at hi
   obtain⟨p1,p2,p3⟩:=hMb.push (by omega) left[i]
   obtain⟨Y2,hY2⟩:∃ Y2,(Y++[(⟨[.i left[i].fr,.i left[i].v],0,true,2⟩:Ob)]).set b ⟨edC (out++[left[i]]),g+1,true,2⟩=Y2:=⟨_,rfl⟩
   rw[hY2]at p1 p2 p3
   have hMa2:=hMa.but p2 hab
   simp[e1,e6,e7,hpos,hpos',hfm,hfi,idxOf,hi,r1,srcOf,putD0,p1,up1 hi (show left.length≤BIG by simp only[BIG];omega)]
   refine (dropMove hMa2 (by simp only[BIG];omega) hi).mono ?_
   rintro _ ⟨Y3,rest',rfl,hB3,hMa3⟩
   simp
   refine⟨f',by omega,(hI _ _).2 ⟨left.eraseIdx i,out++[left[i]],rest',b,g+1,(hL.trans (p2.low (by have:=hp0.le;have:=hB1.1;omega))).trans (hB3.low (by omega)),hMa3,p3.but hB3 (Ne.symm hab),hbX,good_erase hG i,by have:=mu_erase hi;omega,by rw[List.length_eraseIdx,if_pos hi];omega,by simp;omega,hseq',by simp[e1]⟩⟩
  ·have hfr1:findI (frB left) left<0:=by omega
   obtain⟨m0,hm0⟩:∃ m0,left[0]=m0:=⟨_,rfl⟩
   have hgd:left.getD 0 ⟨0,0⟩=m0:=by rw[getD_idx hpos',hm0]
   have hmt:=mu_turn hG hpos' hfr1
   have hseq':seqF n f' (left.map (turnM n m0.fr)) (out++[⟨n,m0.fr⟩])=F:=by
    rw[← hseq]
    conv=>rhs;unfold seqF
    rw[if_neg h0,if_neg hfr0,hgd]
   rw[hgd]at hmt
   obtain⟨r1,r2,r3⟩:=hMa.at hpos'
   rw[hm0]at r2
   rw[Nat.zero_mul]at r2
   obtain⟨p1,p2,p3⟩:=hMb.push (by omega) ⟨n,m0.fr⟩
   simp only at p1 p2 p3
   obtain⟨Y2,hY2⟩:∃ Y2,(Y++[(⟨[.i n,.i m0.fr],0,true,2⟩:Ob)]).set b ⟨edC (out++[⟨n,m0.fr⟩]),g+1,true,2⟩=Y2:=⟨_,rfl⟩
   rw[hY2]at p1 p2 p3
   have hMa2:=hMa.but p2 hab
   simp[e1,e6,e7,hpos,hpos',hfm,hfr0,idxOf,r2,srcOf,putL0,putL1,putD0,p1]
   obtain⟨T,hT⟩:∃ T:Nat→St→Prop,∀ j st,T j st↔(But a Y2 st.h∧MvO st.h a 0 (turnTo n m0.fr left j) rest∧Env.get st.e 1=.c (.i n)∧Env.get st.e 6=.c (.sl a 0 0 left.length)∧Env.get st.e 7=.c (.sl b (g+1) 0 (out.length+1))∧Env.get st.e 9=.c (.i m0.fr)∧Env.get st.e 49=.c (.sl a 0 0 left.length)∧Env.get st.e 50=.c (.i left.length)∧Env.get st.e 51=.c (.i j)):=⟨_,fun _ _=>Iff.rfl⟩
   refine wp_for CM_mono left.length T ((hT _ _).2 ⟨But.refl _ _,hMa2,by simp[e1,e6]⟩) ?_ ?_
   ·rintro j ⟨e',W⟩ hj hTs
    obtain⟨hBW,hMW,e1,e6,e7,e9,e49,e50,e51⟩:=(hT _ _).1 hTs
    simp only at hBW hMW e1 e6 e7 e9 e49 e50 e51 ⊢
    obtain⟨s1,s2,s3⟩:=hMW.at (k:=j) (by rw[turnTo_len];exact hj)
    rw[turnTo_at hj]at s1 s2 s3
    obtain⟨W1,hW1⟩:∃ W1,W++[(⟨[.i left[j].fr,.i left[j].v],0,true,2⟩:Ob)]=W1:=⟨_,rfl⟩
    have hMW1:MvO W1 a 0 (turnTo n m0.fr left j) rest:=by rw[← hW1];exact hMW.app _
    have hBW1:But a Y2 W1:=by rw[← hW1];exact hBW.trans (But.app _ _ _)
    have hnew:rdC W1 W.length 0 1=some (.i left[j].v):=by rw[← hW1,rdC_ob (o:=⟨[.i left[j].fr,.i left[j].v],0,true,2⟩) (by simp)];rfl
    have hp2:putAt [.i 0,.i 0] 0 [.i left[j].fr,.i left[j].v]=[.i left[j].fr,.i left[j].v]:=rfl
    have hltW:=hMW1.lt
    unfold vf67b0
    by_cases hv:left[j].v=m0.fr
    ·obtain⟨q1,q2⟩:=mv_putv (ms:=turnTo n m0.fr left j) (rest:=rest) (k:=j) (by rw[turnTo_len];exact hj) n
     rw[turnTo_at hj]at q1
     have hset:(turnTo n m0.fr left j).set j ⟨left[j].fr,n⟩=turnTo n m0.fr left (j+1):=by rw[turnTo_succ hj];unfold turnM;rw[if_pos hv]
     rw[hset]at q1
     have hMo:rdOb W1 a 0=some ⟨edC (turnTo n m0.fr left j)++rest,0,true,2⟩:=hMW1
     generalize hcs:edC (turnTo n m0.fr left j)++rest=cs at q1 q2 hMo
     rw[hv]at hW1 hnew hp2 s1
     simp[e1,e6,e7,e9,e49,e50,e51,hj,idxOf,s1,hp2,hW1,hnew,hMo,q1,q2,up1 hj (show left.length≤BIG by simp only[BIG];omega)]
     exact (hT _ _).2 ⟨hBW1.trans (But.set _ _ _),by show rdOb (W1.set a _) a 0=_;rw[rdOb_set_self hltW];simp,by simp[e1,e6,e7,e9,e49,e50]⟩
    ·have hsame:=turnTo_same (n:=n) hj hv
     simp[e1,e6,e7,e9,e49,e50,e51,hj,idxOf,s1,hp2,hW1,hnew,hv,up1 hj (show left.length≤BIG by simp only[BIG];omega)]
     exact (hT _ _).2 ⟨hBW1,by rw[hsame];exact hMW1,by simp[e1,e6,e7,e9,e49,e50]⟩
   ·rintro⟨e',W⟩ hTs
    obtain⟨hBW,hMW,e1,e6,e7,e9,e49,e50,e51⟩:=(hT _ _).1 hTs
    simp only at hBW hMW e1 e6 e7 e9 e49 e50 e51 ⊢
    rw[turnTo_all]at hMW
    unfold vf67b0
    simp[e1,e6,e7,e9,e49,e50,e51]
    exact⟨f',by omega,(hI _ _).2 ⟨left.map (turnM n m0.fr),out++[⟨n,m0.fr⟩],rest,b,g+1,(hL.trans (p2.low (by have:=hp0.le;have:=hB1.1;omega))).trans (hBW.low (by omega)),hMW,p3.but hBW (Ne.symm hab),hbX,good_turn hG,by omega,by simpa using hll,by simp;omega,hseq',by simp[e1,e6,e7]⟩⟩
theorem l9Free_call {X:Hp} {w:CV} {ms:List ArmR} (hw:Arms X w ms) (hb:ms.length≤BIG) (hne:∀ m∈ms,m.fr≠m.v) (k:IV×Hp→Prop) :
  CM 130 [.c w] X k=k (.c (.i (findI (frB ms) ms)),X):=by
 refine det (cw130 ?_) k
 unfold vf130c
 simp
 refine wp_for CM_mono ms.length (fun i s=>(∀ j (hj:j<i) (hx:j<ms.length),frB ms ms[j]=false)∧s.h=X∧Env.get s.e 0=.c w∧Env.get s.e 3=.c (.i i)) (by simp) ?_ ?_
 ·rintro i ⟨e,Y⟩ hi ⟨ht,rfl,h0,h3⟩
  simp only at h0 h3 hw ⊢
  unfold vf130b1
  simp[h0,h3,hw.lenOf,hi]
  obtain⟨id1,g1,off1,q1,q2,q3,q4,q5⟩:=hw.get hi
  refine wp_for CM_mono ms.length (fun j s=>s.h=Y∧Env.get s.e 0=.c w∧Env.get s.e 3=.c (.i i)∧Env.get s.e 4=.c (.b ((ms.take j).any fun o=>decide (o.v=ms[i].fr)))∧Env.get s.e 5=.c (.i j)) (by simp[h0,h3]) ?_ ?_
  ·rintro j ⟨e',Y'⟩ hj ⟨rfl,h0,h3,h4,h5⟩
   simp only at h0 h3 h4 h5 hw q2 q3 q4 ⊢
   obtain⟨id2,g2,off2,r1,r2,r3,r4,r5⟩:=hw.get hj
   have hsucc:((ms.take (j+1)).any fun o=>decide (o.v=ms[i].fr))=(((ms.take j).any fun o=>decide (o.v=ms[i].fr)) || decide (ms[j].v=ms[i].fr)):=by
    rw[List.take_succ_eq_append_getElem hj,List.any_append];simp
   unfold vf130b0
   cases hA:((ms.take j).any fun o=>decide (o.v=ms[i].fr)) with
   | true =>
    rw[hA]at h4 hsucc
    simp at hsucc
    simp[h0,h3,h4,h5,hw.lenOf,hj,up1 hj hb]
    simpa using hsucc
   | false =>
    rw[hA]at h4 hsucc
    by_cases hij:j=i
    ·subst hij
     have hv:¬ ms[j].v=ms[j].fr:=fun h=>hne _ (List.getElem_mem hj) h.symm
     simp[hv]at hsucc
     simp[h0,h3,h4,h5,hw.lenOf,hj,up1 hj hb]
     simpa using hsucc
    ·have hij':¬ ((j:Int)=(i:Int)):=by omega
     by_cases hv:ms[j].v=ms[i].fr
     ·simp[hv]at hsucc
      simp[h0,h3,h4,h5,hw.lenOf,hj,hij,hij',q1,q2,q3,q4,r1,r2,r3,r4,hv,up1 hj hb]
      simpa using hsucc
     ·simp[hv]at hsucc
      simp[h0,h3,h4,h5,hw.lenOf,hj,hij,hij',q1,q2,q3,q4,r1,r2,r3,r4,hv,up1 hj hb]
      simpa using hsucc
  ·rintro⟨e',Y'⟩ ⟨rfl,h0,h3,h4,h5⟩
   simp only at h0 h3 h4 h5 hw ⊢
   rw[List.take_length]at h4
   unfold vf130b0
   cases hA:(ms.any fun o=>decide (o.v=ms[i].fr)) with
   | true =>
    rw[hA]at h4
    have hf:frB ms ms[i]=false:=by unfold frB;rw[hA];rfl
    simp[h0,h3,h4,h5,hw.lenOf,up1 hi hb]
    intro l hl hx
    by_cases el:l=i
    ·subst el;exact hf
    ·exact ht l (by omega) hx
   | false =>
    rw[hA]at h4
    have hf:frB ms ms[i]=true:=by unfold frB;rw[hA];rfl
    simp[h0,h3,h4,h5,hw.lenOf,findI_some hi (fun j hj=>ht j hj (by omega)) hf]
 ·rintro⟨e,Y⟩ ⟨ht,rfl,h0,h3⟩
  simp only at h0 h3 hw ⊢
  unfold vf130b1
  simp[h0,h3,hw.lenOf,findI_none (fun j hj=>ht j hj hj)]

theorem appM {X:Hp} {id g:Nat} {A:List ArmR} (h:MvO X id g A []) (hl:A.length≤100) (B:List ArmR) (hB:B.length≤100) :
  ∃ g' Z,doApp X 2 (.sl id g 0 A.length) B.length (edC B)=some (.c (.sl id g' 0 (A.length+B.length)),Z)∧But id X Z∧MvO Z id g' (A++B) []:=by
 have hlt:=h.lt
 have h':rdOb X id g=some ⟨edC A,g,true,2⟩:=by have h2:rdOb X id g=some ⟨edC A++[],g,true,2⟩:=h;rwa [List.append_nil]at h2
 by_cases h0:0<B.length
 ·have:=app_own (X:=X) (o:=id) (g:=g) (n:=A.length) (sz:=2) (m:=B.length) (cs:=edC A) (xs:=edC B) h' (by simp) (by simp;omega) (by simp only[LIM,edC_len];omega)
  refine⟨g+1,_,this,But.set _ _ _,?_⟩
  show rdOb _ _ _=_
  rw[rdOb_set_self hlt,List.append_nil,← edC_app];simp
 ·have:B=[]:=List.length_eq_zero_iff.1 (by omega)
  subst this
  refine⟨g,X,?_,But.refl _ _,by rw[List.append_nil];exact h⟩
  have e:X.set id ⟨edC A,g,true,2⟩=X:=by
   have:=(rdOb_some.1 h').1
   rw[List.getElem?_eq_getElem hlt]at this
   injection this with this
   rw[← this];simp
  simp[doApp,h',putAt,e]

theorem MvO.same {X Y:Hp} {id g off n:Nat} {ms:List ArmR} {rest:List CV} (h:MvO X id g ms rest) (k:MvO Y id g ms rest):sameAt (.sl id g off n) X Y:=by
 show rdOb Y id g=rdOb X id g
 rw[show rdOb Y id g=_ from k,show rdOb X id g=_ from h]

set_option maxRecDepth 100000 in
theorem specSeq0 {H:Hp} {w:CV} {ms:List ArmR} {n:Int} (hw:Arms H w ms) (hok:movesB n ms=true):CM 70 [.c w,.c (.i n)] H fun r=>∃ Z b g,r=(.c (.sl b g 0 (seqF n 60 (leftM idM ms ms.length) []).length),Z)∧Pre H Z∧H.length≤b∧MvO Z b g (seqF n 60 (leftM idM ms ms.length) []) []:=by
 obtain⟨h24,hfr⟩:=mvB_all hok
 have hb:ms.length≤BIG:=by simp only[BIG];omega
 refine cw70 ?_
 unfold vf70c
 simp
 obtain⟨J,hJ⟩:∃ J:Nat→St→Prop,∀ i st,J i st↔∃ g,Low H.length H st.h∧MvO st.h H.length g (leftM idM ms i) []∧Env.get st.e 0=.c w∧Env.get st.e 1=.c (.i n)∧Env.get st.e 5=.c (.sl H.length g 0 (leftM idM ms i).length)∧Env.get st.e 6=.c (.i i):=⟨_,fun _ _=>Iff.rfl⟩
 refine wp_for CM_mono ms.length J ((hJ _ _).2 ⟨0,Low.app _ _ _,by show rdOb _ _ _=_;simp[leftM],by simp[leftM]⟩) ?_ ?_
 ·rintro i ⟨e,Y⟩ hi hJs
  obtain⟨g,hL,hM,h0,h1,h5,h6⟩:=(hJ _ _).1 hJs
  simp only at hL hM h0 h1 h5 h6 ⊢
  have hwY:Arms Y w ms:=Row.pre (fun _ _=>armP.pre) (hL.pre (Pre.refl _) (Nat.le_refl _)) hw
  obtain⟨id1,g1,off1,q1,q2,q3,q4,q5⟩:=hwY.get hi
  have hsu:=leftM_succ (p:=idM) hi
  have hle:=leftM_le idM ms i
  unfold vf70b0
  by_cases hv:ms[i].fr=ms[i].v
  ·rw[if_pos (show idM ms[i]=true by unfold idM;rw[hv];simp),List.append_nil]at hsu
   simp[h0,h1,h5,h6,hwY.lenOf,hi,q1,q2,q3,q4,hv,up1 hi hb]
   exact (hJ _ _).2 ⟨g,hL,by rw[hsu];exact hM,by simp[h0,h1,h5,hsu]⟩
  ·rw[if_neg (show ¬ idM ms[i]=true by unfold idM;simpa using hv)]at hsu
   obtain⟨p1,p2,p3⟩:=hM.push (by omega) ms[i]
   generalize leftM idM ms i=L at hsu p1 p2 p3 h5 hM
   obtain⟨Y2,hY2⟩:∃ Y2,(Y++[(⟨[.i ms[i].fr,.i ms[i].v],0,true,2⟩:Ob)]).set H.length ⟨edC (L++[ms[i]]),g+1,true,2⟩=Y2:=⟨_,rfl⟩
   rw[hY2]at p1 p2 p3
   simp[h0,h1,h5,h6,hwY.lenOf,hi,q1,q2,q3,q4,hv,srcOf,putD0,p1,up1 hi hb]
   exact (hJ _ _).2 ⟨g+1,hL.trans (p2.low (Nat.le_refl _)),by rw[hsu];exact p3,by simp[h0,h1,hsu]⟩
 ·rintro⟨e,Y⟩ hJs
  obtain⟨g0,hL0,hM0,h0,h1,h5,h6⟩:=(hJ _ _).1 hJs
  simp only at hL0 hM0 h0 h1 h5 h6 ⊢
  have hwY:Arms Y w ms:=Row.pre (fun _ _=>armP.pre) (hL0.pre (Pre.refl _) (Nat.le_refl _)) hw
  obtain⟨hmu,hl24⟩:=left_mu h24
  have hgood:=left_good hfr
  generalize leftM idM ms ms.length=L0 at hM0 hmu hgood hl24 h5 ⊢
  obtain⟨F,hF⟩:∃ F,seqF n 60 L0 []=F:=⟨_,rfl⟩
  rw[hF]
  have hlt0:=hM0.lt
  unfold vf70b0
  simp[h0,h1,h5,h6,hwY.lenOf]
  obtain⟨I,hI⟩:∃ I:Nat→St→Prop,∀ f st,I f st↔∃ left out a g b h,Low H.length H st.h∧MvO st.h a g left []∧MvO st.h b h out []∧H.length≤a∧H.length≤b∧a≠b∧GoodM n left∧muM left≤f∧left.length≤24∧out.length+f≤60∧seqF n f left out=F∧Env.get st.e 1=.c (.i n)∧Env.get st.e 5=.c (.sl a g 0 left.length)∧Env.get st.e 7=.c (.sl b h 0 out.length):=⟨_,fun _ _=>Iff.rfl⟩
  refine wp_loop CM_mono I (k:=60) ((hI _ _).2 ⟨L0,[],H.length,g0,Y.length,0,hL0.trans (Low.app _ _ _),hM0.app _,by show rdOb _ _ _=_;simp,Nat.le_refl _,by omega,by omega,hgood,hmu,hl24,by simp,hF,by simp[h1,h5]⟩) ?_
  rintro f ⟨e,Y⟩ hIs
  obtain⟨left,out,a,g,b,h,hL,hMa,hMb,haH,hbH,hab,hG,hmu',hll,hol,hseq,e1,e5,e7⟩:=(hI _ _).1 hIs
  simp only at hL hMa hMb e1 e5 e7 ⊢
  have hlY:=hMa.lt
  unfold vf70b2
  by_cases h0:left.length=0
  ·have:left=[]:=List.length_eq_zero_iff.1 h0
   subst this
   rw[seq_nil]at hseq
   subst hseq
   simp[e1,e5,e7]
   have hgc:∀ Z,Pre H Z→MvO Z b h out []→∃ Z' b' h',gcRet H (.c (.sl b h 0 out.length)) Z=(.c (.sl b' h' 0 out.length),Z')∧Pre H Z'∧H.length≤b'∧MvO Z' b' h' out []:=fun Z hpZ hM=>by
    have ho:rdOb Z b h=some ⟨edC out++[],h,true,2⟩:=hM
    rw[gcRet_row hpZ hbH ho rfl (by simpa using edC_flat out)]
    exact⟨_,_,_,rfl,⟨_,rfl⟩,Nat.le_refl _,by show rdOb _ _ _=_;simp⟩
   obtain⟨Z',b',h',e',e2,e2',e3⟩:=hgc Y (hL.pre (Pre.refl _) (Nat.le_refl _)) hMb
   rw[e']
   exact⟨Z',b',h',rfl,e2,e2',e3⟩
  ·have hpos:(0:Int)<(left.length:Int):=by omega
   have hpos':0<left.length:=by omega
   obtain⟨f',rfl⟩:∃ f',f=f'+1:=⟨f - 1,by unfold muM at hmu';omega⟩
   have hne:∀ m∈left,m.fr≠m.v:=fun m hm=>(hG m hm).1
   have hfm:=fun k=>l9Free_call hMa.row (by simp only[BIG];omega) hne k
   by_cases hfr0:0≤findI (frB left) left
   ·obtain⟨i,hfi,hi,hfp⟩:=findI_at hfr0
    have hseq':seqF n f' (left.eraseIdx i) (out++[left[i]])=F:=by
     rw[← hseq]
     conv=>rhs;unfold seqF
     rw[if_neg h0,if_pos hfr0,hfi,Int.toNat_natCast,getD_idx hi]
    obtain⟨r1,r2,r3⟩:=hMa.at hi
    obtain⟨p1,p2,p3⟩:=hMb.push (by omega) left[i]
    obtain⟨Y2,hY2⟩:∃ Y2,(Y++[(⟨[.i left[i].fr,.i left[i].v],0,true,2⟩:Ob)]).set b ⟨edC (out++[left[i]]),h+1,true,2⟩=Y2:=⟨_,rfl⟩
    rw[hY2]at p1 p2 p3
    have hMa2:=hMa.but p2 hab
    obtain⟨Y3,hY3⟩:∃ Y3,Y2++[(⟨[],0,true,2⟩:Ob)]=Y3:=⟨_,rfl⟩
    have hN3:MvO Y3 Y2.length 0 [] []:=by show rdOb _ _ _=_;rw[← hY3];simp
    have hMa3:MvO Y3 a g left []:=by rw[← hY3];exact hMa2.app _
    have hMb3:MvO Y3 b (h+1) (out++[left[i]]) []:=by rw[← hY3];exact p3.app _
    have haY:=hMa2.lt
    have hbY:=p3.lt
    have hle:=hi
    obtain⟨wa,s1,ra,s2,s3⟩:=hMa3.row.slice (l:=0) (m:=i) (Nat.zero_le _) (by omega)
    have s4:=s2 rfl
    simp only[List.drop_zero,Nat.sub_zero]at ra
    have src1:=arms_src ra
    have hli:(left.take i).length=i:=by simp;omega
    rw[hli]at src1
    obtain⟨g4,Y4,a1,a2,a3⟩:=appM hN3 (by simp) (left.take i) (by simp;omega)
    rw[hli]at a1
    simp only[List.length_nil,Nat.zero_add,List.nil_append]at a1 a3
    have hMa4:=hMa3.but a2 (by omega)
    have hMb4:=hMb3.but a2 (by omega)
    obtain⟨wb,t1,rb,t2,t3⟩:=hMa4.row.slice (l:=i+1) (m:=left.length) (by omega) (Nat.le_refl _)
    have t4:=t3 rfl
    rw[List.take_of_length_le (by simp)]at rb
    have src2:=arms_src rb
    have hld:(left.drop (i+1)).length=left.length - (i+1):=by simp
    rw[hld]at src2
    obtain⟨g5,Y5,b1,b2,b3⟩:=appM a3 (by simp;omega) (left.drop (i+1)) (by simp;omega)
    rw[hld,hli]at b1
    rw[← erase_split hi]at b3
    have hel:i+(left.length - (i+1))=(left.eraseIdx i).length:=by rw[List.length_eraseIdx,if_pos hi];omega
    rw[hel]at b1
    have hcast:((i+1:Nat):Int)=(i:Int)+1:=by omega
    rw[hcast]at t4
    have hMa5:=hMa4.but b2 (by omega)
    have hnn:¬ ((i:Int)<0):=by omega
    have hs0:srcOf (Y++[(⟨[.i left[i].fr,.i left[i].v],0,true,2⟩:Ob)]) 2 (.sl Y.length 0 0 1)=some (1,[.i left[i].fr,.i left[i].v]):=by simp[srcOf]
    have o2:rdOb Y2 a g=some ⟨edC left++[],g,true,2⟩:=hMa2
    have o3:rdOb Y3 a g=some ⟨edC left++[],g,true,2⟩:=hMa3
    have o4:rdOb Y4 a g=some ⟨edC left++[],g,true,2⟩:=hMa4
    have o5:rdOb Y5 a g=some ⟨edC left++[],g,true,2⟩:=hMa5
    generalize edC left++[]=cl at o2 o3 o4 o5
    simp[e1,e5,e7,hpos,hpos',hfm,hfi,hnn,idxOf,hi,r1,hs0,putD0,p1,hY3,s4,src1,a1,t4,src2,b1,o2,o3,o4,o5,sameAt,up1 hi (show left.length≤BIG by simp only[BIG];omega)]
    have lo4:Low H.length Y2 Y5:=((show Low H.length Y2 Y3 by rw[← hY3];exact Low.app _ _ _).trans (a2.low (by omega))).trans (b2.low (by omega))
    exact⟨f',by omega,(hI _ _).2 ⟨left.eraseIdx i,out++[left[i]],Y2.length,g5,b,h+1,(hL.trans (p2.low hbH)).trans lo4,b3,hMb4.but b2 (by omega),by omega,hbH,by omega,good_erase hG i,by have:=mu_erase hi;omega,by rw[List.length_eraseIdx,if_pos hi];omega,by simp;omega,hseq',by simp[e1]⟩⟩
   ·have hfr1:findI (frB left) left<0:=by omega
    obtain⟨m0,hm0⟩:∃ m0,left[0]=m0:=⟨_,rfl⟩
    have hgd:left.getD 0 ⟨0,0⟩=m0:=by rw[getD_idx hpos',hm0]
    have hmt:=mu_turn hG hpos' hfr1
    have hseq':seqF n f' (left.map (turnM n m0.fr)) (out++[⟨n,m0.fr⟩])=F:=by
     rw[← hseq]
     conv=>rhs;unfold seqF
     rw[if_neg h0,if_neg hfr0,hgd]
    rw[hgd]at hmt
    obtain⟨r1,r2,r3⟩:=hMa.at hpos'
    rw[hm0]at r2
    rw[Nat.zero_mul]at r2
    obtain⟨p1,p2,p3⟩:=hMb.push (by omega) ⟨n,m0.fr⟩
    simp only at p1 p2 p3
    obtain⟨Y2,hY2⟩:∃ Y2,(Y++[(⟨[.i n,.i m0.fr],0,true,2⟩:Ob)]).set b ⟨edC (out++[⟨n,m0.fr⟩]),h+1,true,2⟩=Y2:=⟨_,rfl⟩
    rw[hY2]at p1 p2 p3
    have hMa2:=hMa.but p2 hab
    simp[e1,e5,e7,hpos,hpos',hfm,hfr1,idxOf,r2,srcOf,putL0,putL1,putD0,p1]
    obtain⟨T,hT⟩:∃ T:Nat→St→Prop,∀ j st,T j st↔(But a Y2 st.h∧MvO st.h a g (turnTo n m0.fr left j) []∧Env.get st.e 1=.c (.i n)∧Env.get st.e 5=.c (.sl a g 0 left.length)∧Env.get st.e 7=.c (.sl b (h+1) 0 (out.length+1))∧Env.get st.e 9=.c (.i m0.fr)∧Env.get st.e 10=.c (.i j)):=⟨_,fun _ _=>Iff.rfl⟩
    refine wp_for CM_mono left.length T ((hT _ _).2 ⟨But.refl _ _,hMa2,by simp[e1,e5]⟩) ?_ ?_
    ·rintro j ⟨e',W⟩ hj hTs
     obtain⟨hBW,hMW,e1,e5,e7,e9,e10⟩:=(hT _ _).1 hTs
     simp only at hBW hMW e1 e5 e7 e9 e10 ⊢
     obtain⟨s1,s2,s3⟩:=hMW.at (k:=j) (by rw[turnTo_len];exact hj)
     rw[turnTo_at hj]at s1 s2 s3
     have hltW:=hMW.lt
     unfold vf70b1
     by_cases hv:left[j].v=m0.fr
     ·obtain⟨q1,q2⟩:=mv_putv (ms:=turnTo n m0.fr left j) (rest:=[]) (k:=j) (by rw[turnTo_len];exact hj) n
      rw[turnTo_at hj]at q1
      have hset:(turnTo n m0.fr left j).set j ⟨left[j].fr,n⟩=turnTo n m0.fr left (j+1):=by rw[turnTo_succ hj];unfold turnM;rw[if_pos hv]
      rw[hset]at q1
      have hMo:rdOb W a g=some ⟨edC (turnTo n m0.fr left j)++[],g,true,2⟩:=hMW
      generalize hcs:edC (turnTo n m0.fr left j)++[]=cs at q1 q2 hMo
      rw[hv]at s3
      simp[e1,e5,e7,e9,e10,hj,idxOf,s3,hMo,q1,q2,up1 hj (show left.length≤BIG by simp only[BIG];omega)]
      exact (hT _ _).2 ⟨hBW.trans (But.set _ _ _),by show rdOb (W.set a _) a g=_;rw[rdOb_set_self hltW];simp,by simp[e1,e5,e7,e9]⟩
     ·have hsame:=turnTo_same (n:=n) hj hv
      simp[e1,e5,e7,e9,e10,hj,idxOf,s3,hv,up1 hj (show left.length≤BIG by simp only[BIG];omega)]
      exact (hT _ _).2 ⟨hBW,by rw[hsame];exact hMW,by simp[e1,e5,e7,e9]⟩
    ·rintro⟨e',W⟩ hTs
     obtain⟨hBW,hMW,e1,e5,e7,e9,e10⟩:=(hT _ _).1 hTs
     simp only at hBW hMW e1 e5 e7 e9 e10 ⊢
     rw[turnTo_all]at hMW
     unfold vf70b1
     simp[e1,e5,e7,e9,e10]
     exact⟨f',by omega,(hI _ _).2 ⟨left.map (turnM n m0.fr),out++[⟨n,m0.fr⟩],a,g,b,h+1,(hL.trans (p2.low hbH)).trans (hBW.low haH),hMW,p3.but hBW (Ne.symm hab),haH,hbH,hab,good_turn hG,by omega,by simpa using hll,by simp;omega,hseq',by simp[e1,e5,e7]⟩⟩
def OwnG (lo:Nat) (Z:Hp) (w:CV) (xs:List ArmR):Prop:=(w=.ns∧xs=[])∨∃ b g,w=.sl b g 0 xs.length∧lo≤b∧MvO Z b g xs []

theorem OwnG.row {lo:Nat} {Z:Hp} {w:CV} {xs:List ArmR} (h:OwnG lo Z w xs):Arms Z w xs:=by
 rcases h with⟨rfl,rfl⟩ | ⟨b,g,rfl,_,h⟩
 ·exact Row.ns
 ·exact h.row

theorem OwnG.keep {lo:Nat} {Y Z:Hp} {w:CV} {xs:List ArmR} (h:OwnG lo Y w xs) (hk:∀ id g o,lo≤id→rdOb Y id g=some o→rdOb Z id g=some o):OwnG lo Z w xs:=by
 rcases h with h | ⟨b,g,h1,h2,h3⟩
 ·exact .inl h
 ·exact .inr ⟨b,g,h1,h2,hk _ _ _ h2 h3⟩
def mvsOf (b d:Int) (xs:List ArmR):List ArmR:=(xs.filter fun a=>decide (a.fr=b)).map fun a=>⟨d,a.v⟩

def mvsP (b:Int) (ps:List PhiR):List ArmR:=ps.flatMap fun p=>mvsOf b p.d p.arms

def seqL (n:Int) (ms:List ArmR):List ArmR:=seqF n 60 (leftM idM ms ms.length) []

def cpI (m:ArmR):InsR:=⟨25,m.fr,m.v,0,0⟩

def lowerL (f:FnR) (b:Nat):List InsR:=if (succsAt f.blocks b).length=1 then (seqL f.values (mvsP b (f.blocks.getD ((succsAt f.blocks b).getD 0 0).toNat blk0).phis)).map cpI else []

def lowerB (f:FnR) (b:Nat):BlkR:=⟨[],(f.blocks.getD b blk0).list++lowerL f b,(f.blocks.getD b blk0).term⟩

def lowerTo (f:FnR) (i:Nat):List BlkR:=(List.range i).map (lowerB f)++f.blocks.drop i

def lowerF (f:FnR):FnR:=⟨lowerTo f f.blocks.length,f.values+1⟩

def LowerC (f:FnR):Prop:=checkF f=0∧(crit0 f).length=0∧shapeB (lowerF f)=true

noncomputable instance:DecidablePred LowerC:=fun _=>Classical.propDecidable _

noncomputable def lower0 (f:FnR):FnR:=if LowerC f then lowerF f else ⟨[],0⟩

noncomputable def lowerOk (f:FnR):Bool:=pB (LowerC f)

theorem lowerTo_len (f:FnR) (i:Nat) (hi:i≤f.blocks.length):(lowerTo f i).length=f.blocks.length:=by
 unfold lowerTo;simp;omega

theorem lowerTo_at (f:FnR) (i:Nat) (hi:i<f.blocks.length):(lowerTo f i)[i]'(by rw[lowerTo_len f i (by omega)];exact hi)=f.blocks[i]:=by
 unfold lowerTo
 rw[List.getElem_append_right (by simp)]
 simp

theorem lowerTo_succ (f:FnR) (i:Nat) (hi:i<f.blocks.length):(lowerTo f i).set i (lowerB f i)=lowerTo f (i+1):=by
 unfold lowerTo
 rw[List.set_append_right _ _ (by simp),List.range_succ,List.map_append,List.append_assoc]
 congr 1
 rw[List.length_map,List.length_range,Nat.sub_self,List.drop_eq_getElem_cons hi]
 rfl

theorem lower0_le {f:FnR} (hb:f.blocks.length≤BIG):(lower0 f).blocks.length≤BIG:=by
 unfold lower0
 split
 ·unfold lowerF;simp only;rw[lowerTo_len f _ (Nat.le_refl _)];exact hb
 ·simp

theorem seqF_len (n:Int):∀ (k:Nat) (left out:List ArmR),(seqF n k left out).length≤out.length+k:=by
 intro k
 induction k with
 | zero=>intro left out;exact Nat.le_refl _
 | succ k ih =>
  intro left out
  unfold seqF
  split
  ·omega
  ·split
   ·refine Nat.le_trans (ih _ _) ?_;simp;omega
   ·refine Nat.le_trans (ih _ _) ?_;simp;omega

theorem seqL_len (n:Int) (ms:List ArmR):(seqL n ms).length≤60:=by
 have:=seqF_len n 60 (leftM idM ms ms.length) []
 unfold seqL;simpa using this

theorem mvsOf_nil {b d:Int} {xs:List ArmR} (h:∀ a∈xs,a.fr≠b):mvsOf b d xs=[]:=by
 unfold mvsOf
 rw[List.filter_eq_nil_iff.2 (fun a ha=>by simpa using h a ha)];rfl

theorem mvsOf_one {b d:Int}:∀ {xs:List ArmR},(∀ i j (hi:i<xs.length) (hj:j<xs.length),i<j→xs[i].fr≠xs[j].fr)→mvsOf b d xs=[]∨∃ a∈xs,a.fr=b∧mvsOf b d xs=[⟨d,a.v⟩]:=by
 intro xs
 induction xs with
 | nil=>intro _;exact .inl rfl
 | cons a r ih =>
  intro h
  by_cases ha:a.fr=b
  ·refine .inr ⟨a,by simp,ha,?_⟩
   have hr:mvsOf b d r=[]:=mvsOf_nil fun c hc e=>by
    obtain⟨j,hj,rfl⟩:=List.getElem_of_mem hc
    exact h 0 (j+1) (by simp) (by simpa using hj) (by omega) (by simpa using ha.trans e.symm)
   unfold mvsOf at hr ⊢
   rw[List.filter_cons,if_pos (by simpa using ha),List.map_cons,hr]
  ·have e:mvsOf b d (a :: r)=mvsOf b d r:=by
    unfold mvsOf
    rw[List.filter_cons,if_neg (by simpa using ha)]
   rw[e]
   rcases ih (fun i j hi hj hij=>by have:=h (i+1) (j+1) (by simpa using hi) (by simpa using hj) (by omega);simpa using this) with h1 | ⟨c,hc,h1⟩
   ·exact .inl h1
   ·exact .inr ⟨c,by simp[hc],h1⟩

theorem arms_once {f:FnR} (hsh:shapeB f=true) {b:BlkR} (hb:b∈f.blocks) {p:PhiR} (hp:p∈b.phis):∀ i j (hi:i<p.arms.length) (hj:j<p.arms.length),i<j→p.arms[i].fr≠p.arms[j].fr:=by
 intro i j hi hj hij e
 have h1:=shape_phi hsh hb hp
 unfold phiB at h1
 simp only[Bool.and_eq_true]at h1
 have h2:=h1.2
 unfold armsB at h2
 rw[List.all_eq_true]at h2
 have h3:=h2 j (List.mem_range.2 hj)
 rw[armB_at hj]at h3
 simp only[Bool.and_eq_true,Bool.not_eq_true',List.any_eq_false]at h3
 have:=h3.2 p.arms[i] (List.mem_take_iff_getElem.2 ⟨i,by omega,rfl⟩)
 simp[e]at this

theorem mvs_sub {f:FnR} (hsh:shapeB f=true) {b:BlkR} (hb:b∈f.blocks) (u:Int):∀ ps:List PhiR,(∀ p∈ps,p∈b.phis)→((mvsP u ps).map (·.fr)).Sublist (ps.map (·.d))∧∀ m∈mvsP u ps,∃ p∈ps,∃ a∈p.arms,a.fr=u∧m=⟨p.d,a.v⟩:=by
 intro ps
 induction ps with
 | nil=>intro _;exact⟨List.Sublist.refl _,fun m hm=>by simp[mvsP]at hm⟩
 | cons p r ih =>
  intro h
  obtain⟨h1,h2⟩:=ih fun q hq=>h q (by simp[hq])
  have e:mvsP u (p :: r)=mvsOf u p.d p.arms++mvsP u r:=rfl
  rw[e]
  rcases mvsOf_one (b:=u) (d:=p.d) (arms_once hsh hb (h p (by simp))) with h3 | ⟨a,ha,hau,h3⟩
  ·rw[h3]
   exact⟨List.Sublist.cons _ h1,fun m hm=>by
    obtain⟨q,hq,x⟩:=h2 m (by simpa using hm)
    exact⟨q,by simp[hq],x⟩⟩
  ·rw[h3]
   refine⟨List.Sublist.cons_cons _ h1,fun m hm=>?_⟩
   rcases List.mem_append.1 hm with hm | hm
   ·exact⟨p,by simp,a,ha,hau,by simpa using hm⟩
   ·obtain⟨q,hq,x⟩:=h2 m hm
    exact⟨q,by simp[hq],x⟩

theorem val_in {v m:Int} (h:valB v m=true):0≤v∧v<m:=by
 obtain⟨k,hk,h2⟩:=val_nat h
 omega

theorem moves_ok {f:FnR} (hsh:shapeB f=true) (ho:Once f.blocks) {b:BlkR} (hb:b∈f.blocks) (u:Int):movesB f.values (mvsP u b.phis)=true∧(mvsP u b.phis).length≤24:=by
 obtain⟨h1,h2⟩:=mvs_sub hsh hb u b.phis fun _ h=>h
 have hl:(mvsP u b.phis).length≤24:=by
  have h3:=h1.length_le
  simp only[List.length_map]at h3
  have h4:=hsh
  unfold shapeB at h4
  simp only[Bool.and_eq_true,List.all_eq_true]at h4
  have h5:=h4.2 b hb
  unfold blkB at h5
  simp only[Bool.and_eq_true,decide_eq_true_eq]at h5
  omega
 have hnd:((mvsP u b.phis).map (·.fr)).Nodup:=by
  refine h1.nodup ?_
  rw[List.nodup_iff_count]
  intro v
  have:=once_in ho hb v
  omega
 refine⟨?_,hl⟩
 unfold movesB
 rw[Bool.and_eq_true,decide_eq_true_eq]
 refine⟨mvsB_true fun j hj=>?_,hl⟩
 rw[mvB_at hj]
 obtain⟨p,hp,a,ha,_,hm⟩:=h2 _ (List.getElem_mem hj)
 have hpv:=phi_vals (shape_phi hsh hb hp)
 obtain⟨i,hi,rfl⟩:=List.getElem_of_mem ha
 have hd:=val_in hpv.1
 have hv:=val_in (hpv.2.2 i hi).2
 simp only[Bool.and_eq_true,decide_eq_true_eq,Bool.not_eq_true',List.any_eq_false]
 have ef:((mvsP u b.phis)[j]).fr=p.d:=by rw[hm]
 have ev:((mvsP u b.phis)[j]).v=p.arms[i].v:=by rw[hm]
 refine⟨⟨⟨⟨by rw[ef];exact hd.1,by rw[ef];exact hd.2⟩,by rw[ev];exact hv.1⟩,by rw[ev];exact hv.2⟩,fun x hx=>?_⟩
 obtain⟨l,hl',rfl⟩:=List.mem_take_iff_getElem.1 hx
 intro e
 have hne:=List.pairwise_iff_getElem.1 hnd l j (by simp;omega) (by simpa using hj) (by omega)
 exact hne (by simpa using e)
structure Kn where
 k:List Bool
 n:List Int
def MoreR (s t:RunS):Prop:=t.vals=s.vals∧t.cells=s.cells∧t.told=s.told∧t.path=s.path∧∃ k,t.reads=s.reads++List.replicate k 0

theorem MoreR.get {s t:RunS} (h:MoreR s t) (v:Int):t.get v=s.get v:=by unfold RunS.get;rw[h.1]

theorem MoreR.put {s t:RunS} (h:MoreR s t) (d x:Int):MoreR (s.put d x) (t.put d x):=by
 obtain⟨a,b,c,e,k,hk⟩:=h
 exact⟨by simp[RunS.put,a],b,c,e,k,hk⟩


def Way (bs:List BlkR) (p:List Int):Prop:=(∀ x∈p,0≤x∧x<bs.length)∧∀ i (h:i+1<p.length),p[i+1]∈succsAt bs (p[i]'(by omega)).toNat

theorem Way.one {bs:List BlkR} {b:Nat} (hb:b<bs.length):Way bs [(b:Int)]:=⟨fun x hx=>by simp at hx;omega,fun i h=>by simp at h⟩

theorem Way.cons {bs:List BlkR} {b:Nat} {c:Int} {p:List Int} (hb:b<bs.length) (hc:c∈succsAt bs b) (h:Way bs (c :: p)):Way bs ((b:Int) :: c :: p):=by
 refine⟨fun x hx=>?_,fun i hi=>?_⟩
 ·rcases List.mem_cons.1 hx with rfl | hx
  ·omega
  ·exact h.1 x hx
 ·cases i with
  | zero=>simpa using hc
  | succ i=>exact h.2 i (by simpa using hi)
structure Sp (m:Int) (bs gs:List BlkR) (u k:Nat):Prop where
 w:Well ⟨bs,m⟩
 len:gs.length=bs.length+1
 ul:u<bs.length
 kl:k<bs.length
 mem:(k:Int)∈succsAt bs u
 two:(succsAt bs u).length=2
 new:gs.getD bs.length blk0=⟨[],[],⟨1,0,k,0⟩⟩
 phis:∀ j,j<bs.length→(gs.getD j blk0).phis=if j=k then (bs.getD j blk0).phis.map (turnP u bs.length) else (bs.getD j blk0).phis
 list:∀ j,j<bs.length→(gs.getD j blk0).list=(bs.getD j blk0).list
 term:∀ j,j<bs.length→(gs.getD j blk0).term=if j=u then turnT k bs.length (bs.getD j blk0).term else (bs.getD j blk0).term

theorem succ_getD {bs:List BlkR} {j:Nat} (hj:j<bs.length):succsAt bs j=succsF (bs.getD j blk0).term:=by rw[succsAt_eq hj,blk_at hj]

section

variable {m:Int} {bs gs:List BlkR} {u k:Nat}

theorem Sp.rng (h:Sp m bs gs u k):InRange bs:=shape_range (f:=⟨bs,m⟩) h.w.sh

theorem Sp.succ_new (h:Sp m bs gs u k):succsAt gs bs.length=[(k:Int)]:=by
 rw[succ_getD (by rw[h.len];omega),h.new];simp[succsF]

theorem Sp.succ_j (h:Sp m bs gs u k) {j:Nat} (hj:j<bs.length) (hne:j≠u):succsAt gs j=succsAt bs j:=by
 rw[succ_getD (by rw[h.len];omega),h.term j hj,if_neg hne,succ_getD hj]

theorem Sp.kind (h:Sp m bs gs u k):(bs.getD u blk0).term.kind=2∧(bs.getD u blk0).term.to≠(bs.getD u blk0).term.els∧succsAt bs u=[(bs.getD u blk0).term.to,(bs.getD u blk0).term.els]:=by
 have ht:=h.two
 rw[succ_getD h.ul]at ht ⊢
 unfold succsF at ht ⊢
 by_cases h1:(bs.getD u blk0).term.kind=1∨((bs.getD u blk0).term.kind=2∧(bs.getD u blk0).term.to=(bs.getD u blk0).term.els)
 ·rw[if_pos h1]at ht;simp at ht
 ·rw[if_neg h1]at ht ⊢
  by_cases h2:(bs.getD u blk0).term.kind=2
  ·rw[if_pos h2]
   exact⟨h2,fun e=>h1 (.inr ⟨h2,e⟩),rfl⟩
  ·rw[if_neg h2]at ht;simp at ht

theorem Sp.succ_u (h:Sp m bs gs u k):succsAt gs u=(succsAt bs u).map fun x=>if x=(k:Int) then (bs.length:Int) else x:=by
 obtain⟨h1,h2,h3⟩:=h.kind
 have hr:=h.rng u
 rw[h3]at hr
 have r1:=(hr (bs.getD u blk0).term.to (by simp)).2
 have r2:=(hr (bs.getD u blk0).term.els (by simp)).2
 rw[succ_getD (by rw[h.len];have:=h.ul;omega),h.term u h.ul,if_pos rfl,h3]
 unfold succsF turnT
 simp only
 rw[if_neg,if_pos h1]
 ·rfl
 ·rintro (e | ⟨_,e⟩)
  ·omega
  ·by_cases e1:(bs.getD u blk0).term.to=(k:Int)
   ·by_cases e2:(bs.getD u blk0).term.els=(k:Int)
    ·omega
    ·rw[if_pos e1,if_neg e2]at e;omega
   ·by_cases e2:(bs.getD u blk0).term.els=(k:Int)
    ·rw[if_neg e1,if_pos e2]at e;omega
    ·rw[if_neg e1,if_neg e2]at e;omega

theorem Sp.mem_u (h:Sp m bs gs u k) (q:Int):q∈succsAt gs u↔q=bs.length∨(q≠k∧q∈succsAt bs u):=by
 rw[h.succ_u,List.mem_map]
 constructor
 ·rintro⟨x,hx,rfl⟩
  by_cases e:x=(k:Int)
  ·rw[if_pos e];exact .inl rfl
  ·rw[if_neg e];exact .inr ⟨e,hx⟩
 ·rintro (rfl | ⟨h1,h2⟩)
  ·exact⟨k,h.mem,by rw[if_pos rfl]⟩
  ·exact⟨q,h2,by rw[if_neg h1]⟩



theorem predsF_mem {bs:List BlkR} {b q:Int}:q∈predsF bs b↔∃ i:Nat,q=i∧i<bs.length∧b∈succsAt bs i:=by
 unfold predsF predsTo
 rw[List.mem_map]
 constructor
 ·rintro⟨i,hi,rfl⟩
  rw[List.mem_filter,List.mem_range,hasI_iff]at hi
  exact⟨i,rfl,hi.1,hi.2⟩
 ·rintro⟨i,rfl,h1,h2⟩
  exact⟨i,by rw[List.mem_filter,List.mem_range,hasI_iff];exact⟨h1,h2⟩,rfl⟩

theorem Sp.preds_j (h:Sp m bs gs u k) {j:Nat} (hj:j<bs.length) (hne:j≠k):predsF gs j=predsF bs j:=by
 unfold predsF
 rw[h.len,predsTo_succ]
 have e:hasI (succsAt gs bs.length) j=false:=by
  rw[← Bool.not_eq_true,hasI_iff,h.succ_new]
  simp;omega
 rw[e,if_neg (by simp)]
 unfold predsTo
 congr 1
 apply List.filter_congr
 intro i hi
 rw[List.mem_range]at hi
 rw[Bool.eq_iff_iff,hasI_iff,hasI_iff]
 by_cases e1:i=u
 ·subst e1
  rw[h.mem_u]
  constructor
  ·rintro (h1 | ⟨_,h1⟩)
   ·omega
   ·exact h1
  ·intro h1;exact .inr ⟨by omega,h1⟩
 ·rw[h.succ_j hi e1]

theorem Sp.preds_k (h:Sp m bs gs u k):(predsF gs k).length=(predsF bs k).length:=by
 have e:hasI (succsAt gs bs.length) (k:Int)=true:=by rw[hasI_iff,h.succ_new];simp
 have e2:predsTo gs k bs.length=((List.range bs.length).filter fun x=>hasI (succsAt bs x) k && decide (x≠u)).map fun (j:Nat)=>(j:Int):=by
  unfold predsTo
  congr 1
  apply List.filter_congr
  intro i hi
  rw[List.mem_range]at hi
  rw[Bool.eq_iff_iff,Bool.and_eq_true,hasI_iff,hasI_iff,decide_eq_true_eq]
  by_cases e1:i=u
  ·subst e1
   rw[h.mem_u]
   have:=h.kl
   constructor
   ·rintro (h1 | ⟨h1,_⟩)
    ·omega
    ·exact absurd rfl h1
   ·rintro⟨_,h1⟩;exact absurd rfl h1
  ·rw[h.succ_j hi e1]
   exact⟨fun h=>⟨h,e1⟩,fun h=>h.1⟩
 unfold predsF
 rw[h.len,predsTo_succ,e,if_pos rfl,e2]
 unfold predsTo
 rw[List.length_append,List.length_map,List.length_map,filter_one (q:=fun j=>hasI (succsAt bs j) k) h.ul (hasI_iff.2 h.mem)]
 rfl


theorem Sp.defs (h:Sp m bs gs u k) {j:Nat} (hj:j<bs.length):defsB (gs.getD j blk0)=defsB (bs.getD j blk0):=by
 unfold defsB
 rw[h.phis j hj,h.list j hj]
 split
 ·rw[List.map_map];rfl
 ·rfl

theorem Sp.blocks (h:Sp m bs gs u k):gs=(List.range bs.length).map (fun j=>gs.getD j blk0)++[⟨[],[],⟨1,0,k,0⟩⟩]:=by
 apply List.ext_getElem?
 intro i
 by_cases h1:i<bs.length
 ·rw[List.getElem?_append_left (by simpa using h1),List.getElem?_map,List.getElem?_range h1,Option.map_some,blk_at (by rw[h.len];omega),List.getElem?_eq_getElem]
 ·rw[List.getElem?_append_right (by simp;omega)]
  simp only[List.length_map,List.length_range]
  by_cases h2:i=bs.length
  ·subst h2
   have:=h.new
   rw[blk_at (by rw[h.len];omega)]at this
   rw[List.getElem?_eq_getElem (by rw[h.len];omega),this,Nat.sub_self];rfl
  ·rw[List.getElem?_eq_none (by rw[h.len];omega),List.getElem?_eq_none (by simp;omega)]

theorem range_self {β:Type} (bs:List BlkR) (g:BlkR→β):(List.range bs.length).map (fun j=>g (bs.getD j blk0))=bs.map g:=by
 apply List.ext_getElem?
 intro i
 by_cases h1:i<bs.length
 ·rw[List.getElem?_map,List.getElem?_range h1,Option.map_some,List.getElem?_map,List.getElem?_eq_getElem h1,blk_at h1];rfl
 ·rw[List.getElem?_eq_none (by simp;omega),List.getElem?_eq_none (by simp;omega)]

theorem Sp.flat (h:Sp m bs gs u k):gs.flatMap defsB=bs.flatMap defsB:=by
 rw[h.blocks,List.flatMap_append,List.flatMap_def,List.map_map]
 have e:(List.range bs.length).map (defsB ∘ fun j=>gs.getD j blk0)=bs.map defsB:=by
  rw[← range_self]
  apply List.map_congr_left
  intro j hj
  rw[List.mem_range]at hj
  exact h.defs hj
 rw[e,← List.flatMap_def]
 simp[defsB]


theorem phisAt_getD (bs:List BlkR) (j:Nat):phisAt bs j=(bs.getD j blk0).phis:=by
 unfold phisAt
 rw[Int.toNat_natCast,List.getD_eq_getElem?_getD]
 cases bs[j]?<;>rfl

theorem Sp.hot (h:Sp m bs gs u k) {q:Nat} (hq:q<bs.length):Vm.hot gs q=Vm.hot bs q:=by
 unfold Vm.hot
 rw[phisAt_getD,phisAt_getD,h.phis q hq]
 by_cases e:q=k
 ·subst e
  rw[h.preds_k,if_pos rfl,List.length_map]
 ·rw[h.preds_j hq e,if_neg e]

theorem crit0_of {f:FnR} (hsh:shapeB f=true) {i k:Nat} (hi:i<f.blocks.length) (hs:(k:Int)∈succsAt f.blocks i) (h2:(succsAt f.blocks i).length=2) (hh:Vm.hot f.blocks k=true):(⟨i,k⟩:ArmR)∈crit0 f:=by
 unfold crit0
 rw[if_pos hsh]
 unfold critTo
 rw[List.mem_flatMap]
 refine⟨i,List.mem_range.2 hi,?_⟩
 unfold critAt
 rw[if_pos (by omega)]
 unfold critIn
 rw[List.take_length,List.mem_map]
 exact⟨k,List.mem_filter.2 ⟨hs,hh⟩,rfl⟩

end
def newAt (xs:List Int) (j:Nat):Bool:=decide (j=0) || !decide (xs.getD j 0=xs.getD (j - 1) 0)

def compTo (xs:List Int) (k:Nat):List Int:=((List.range k).filter (newAt xs)).map fun j=>xs.getD j 0

def compI (xs:List Int):List Int:=compTo xs xs.length

theorem compTo_succ (xs:List Int) (k:Nat):compTo xs (k+1)=compTo xs k++(if newAt xs k=true then [xs.getD k 0] else []):=by
 unfold compTo
 rw[List.range_succ,List.filter_append,List.map_append]
 congr 1
 cases h:newAt xs k<;>simp[h]

theorem compTo_le (xs:List Int) (k:Nat):(compTo xs k).length≤k:=by
 unfold compTo
 rw[List.length_map]
 exact Nat.le_trans (List.length_filter_le _ _) (by simp)

theorem compTo_take {xs:List Int} {k:Nat} (hk:k≤xs.length) (h:∀ j,j<k→newAt xs j=true):compTo xs k=xs.take k:=by
 induction k with
 | zero=>rfl
 | succ k ih =>
  rw[compTo_succ,ih (by omega) (fun j hj=>h j (by omega)),if_pos (h k (by omega)),List.take_succ_eq_append_getElem (by omega),List.getD_eq_getElem?_getD,List.getElem?_eq_getElem (by omega)];rfl

def compS (xs:List Int) (k:Nat):List Int:=compTo xs k++xs.drop (compTo xs k).length

theorem compS_len {xs:List Int} {k:Nat} (hk:k≤xs.length):(compS xs k).length=xs.length:=by
 have:=compTo_le xs k
 unfold compS;simp;omega

theorem compS_at {xs:List Int} {k p:Nat} (h:(compTo xs k).length≤p):(compS xs k).getD p 0=xs.getD p 0:=by
 unfold compS
 rw[List.getD_eq_getElem?_getD,List.getElem?_append_right h,List.getElem?_drop,List.getD_eq_getElem?_getD]
 congr 2;omega

theorem compS_same {xs:List Int} {k:Nat} (h:newAt xs k=false):compS xs (k+1)=compS xs k∧compTo xs (k+1)=compTo xs k:=by
 have e:compTo xs (k+1)=compTo xs k:=by rw[compTo_succ,h];simp
 unfold compS;rw[e];exact⟨rfl,rfl⟩

theorem compS_new {xs:List Int} {k:Nat} (hk:k<xs.length) (h:newAt xs k=true):compS xs (k+1)=(compS xs k).set (compTo xs k).length (xs.getD k 0)∧(compTo xs (k+1)).length=(compTo xs k).length+1:=by
 have e:compTo xs (k+1)=compTo xs k++[xs.getD k 0]:=by rw[compTo_succ,h];simp
 have hle:=compTo_le xs k
 constructor
 ·unfold compS
  have hd:=List.drop_eq_getElem_cons (show (compTo xs k).length<xs.length by omega)
  rw[e,List.set_append_right _ _ (Nat.le_refl _),Nat.sub_self,hd,List.set_cons_zero,List.append_assoc,List.length_append]
  rfl
 ·rw[e];simp

theorem gc_rowI {X Z:Hp} {id g n:Nat} (hlt:id<X.length):gcRet X (.c (.sl id g 0 n)) Z=(.c (.sl id g 0 n),Z):=by
 unfold gcRet
 split
 ·rw[if_neg (by simp[flatV,flatC])]
  simp only
  rw[if_neg (by omega)]
 ·rfl

theorem getD_ix {xs:List Int} {k:Nat} (hk:k<xs.length):xs.getD k 0=xs[k]:=by
 rw[List.getD_eq_getElem?_getD,List.getElem?_eq_getElem hk];rfl

theorem rdc_int {H:Hp} {id g k:Nat} {xs:List Int} (ho:rdOb H id g=some ⟨xs.map .i,g,true,1⟩) (hk:k<xs.length):rdC H id g k=some (.i (xs.getD k 0)):=by
 rw[rdC_ob ho]
 simp[hk,getD_ix hk]

set_option maxRecDepth 100000 in
theorem compact_call {H:Hp} {id g:Nat} {xs:List Int} (ho:rdOb H id g=some ⟨xs.map .i,g,true,1⟩) (hb:xs.length≤BIG) :
  CM 73 [.c (.sl id g 0 xs.length)] H fun r=>∃ Z rest,r=(.c (.sl id g 0 (compI xs).length),Z)∧Z=H.set id ⟨(compI xs++rest).map .i,g,true,1⟩:=by
 have hlt:=rdOb_lt ho
 have hH:H.set id ⟨xs.map .i,g,true,1⟩=H:=by
  have h1:=(rdOb_some.1 ho).1
  apply List.ext_getElem?
  intro i
  rw[List.getElem?_set]
  split
  ·rename_i h;subst h;simp[hlt,h1]at h1 ⊢
   first | exact h1.symm | simp_all
  ·rfl
 refine cw73 ?_
 unfold vf73c
 have hall:(∀ j,j<xs.length→newAt xs j=true)→∀ Z,Z=H→∃ Z' rest,(IV.c (.sl id g 0 xs.length),Z)=(IV.c (.sl id g 0 (compI xs).length),Z')∧Z'=H.set id ⟨(compI xs++rest).map .i,g,true,1⟩:=by
  intro h Z hZ
  have e:compI xs=xs:=by unfold compI;rw[compTo_take (Nat.le_refl _) h,List.take_length]
  exact⟨_,[],by rw[e],by rw[e,List.append_nil,hH,hZ]⟩
 by_cases h2:xs.length<2
 ·have h2i:(xs.length:Int)<2:=by omega
  simp[h2i]
  have:=hall (fun j hj=>by
   have:j=0:=by omega
   subst this;simp[newAt]) H rfl
  rw[gc_rowI hlt]
  simpa using this
 ·have h2i:¬ (xs.length:Int)<2:=by omega
  simp[h2i]
  have hix:∀ k,k<xs.length→idxOf 1 (.sl id g 0 xs.length) (k:Int)=some (.p id g k):=fun k hk=>by simp[idxOf,hk]
  obtain⟨I,hI⟩:∃ I:Nat→St→Prop,∀ i s,I i s↔((∀ j,j≤i→newAt xs j=true)∧s.h=H∧Env.get s.e 0=.c (.sl id g 0 xs.length)∧Env.get s.e 3=.c (.i ((i+1:Nat):Int))):=⟨_,fun _ _=>Iff.rfl⟩
  refine wp_for CM_mono (xs.length - 1) I ((hI _ ⟨_,_⟩).2 ⟨fun j hj=>?_,rfl,by simp⟩) ?_ ?_
  ·have:j=0:=by omega
   subst this;simp[newAt]
  ·rintro i ⟨e,Y⟩ hi hIs
   obtain⟨hn,rfl,e0,e3⟩:=(hI _ _).1 hIs
   simp only at ho hlt hH hall hI e0 e3 hIs ⊢
   have hi1:i+1<xs.length:=by omega
   have q1:=hix (i+1) hi1
   have q0:=hix i (by omega)
   have c1:=rdc_int ho hi1
   have c0:=rdc_int ho (show i<xs.length by omega)
   have hlI:((i+1:Nat):Int)<(xs.length:Int):=by omega
   have hw:wrap64 (((i+1:Nat):Int) - 1)=(i:Int):=by rw[wrap64_id (by simp only[BIG]at hb;omega)];omega
   have hna:newAt xs (i+1)=!decide (xs.getD (i+1) 0=xs.getD i 0):=by unfold newAt;simp
   obtain⟨x,hx⟩:∃ x,xs.getD (i+1) 0=x:=⟨_,rfl⟩
   obtain⟨y,hy⟩:∃ y,xs.getD i 0=y:=⟨_,rfl⟩
   rw[hx]at c1 hna
   rw[hy]at c0 hna
   obtain⟨k,hk⟩:∃ k,i+1=k:=⟨_,rfl⟩
   rw[hk]at e3 q1 c1 hlI hw hna hi1
   unfold vf73b1
   by_cases hxy:x=y
   ·rw[hxy]at c1
    have hnk:newAt xs k=false:=by rw[hna];simp[hxy]
    have hck:compTo xs k=xs.take k:=compTo_take (by omega) fun j hj=>hn j (by omega)
    have hcl:(compTo xs (k+1)).length=k:=by rw[(compS_same hnk).2,hck,List.length_take];omega
    have hS0:compS xs (k+1)=xs:=by
     rw[(compS_same hnk).1];unfold compS
     rw[hck,List.length_take,Nat.min_eq_left (by omega),List.take_append_drop]
    have hs1:doSlice Y 1 (.sl id g 0 xs.length) (some (.c (.i (k:Int)))) none=some (.c (.sl id g k (xs.length - k))):=by
     simp[doSlice,ho]<;>omega
    simp[e0,e3,hlI,q1,c1,hw,q0,c0,hs1]
    obtain⟨J,hJ⟩:∃ J:Nat→St→Prop,∀ j s,J j s↔((compTo xs (k+1+j)).length≤k+j∧s.h=Y.set id ⟨(compS xs (k+1+j)).map .i,g,true,1⟩∧Env.get s.e 0=.c (.sl id g 0 xs.length)∧Env.get s.e 3=.c (.i ((compTo xs (k+1+j)).length:Int))∧Env.get s.e 4=.c (.sl id g k (xs.length - k))∧Env.get s.e 5=.c (.i ((j+1:Nat):Int))):=⟨_,fun _ _=>Iff.rfl⟩
    refine wp_for CM_mono (xs.length - k - 1) J ((hJ _ ⟨_,_⟩).2 ⟨by rw[Nat.add_zero,hcl];omega,by rw[Nat.add_zero,hS0];exact hH.symm,?_⟩) ?_ ?_
    ·rw[Nat.add_zero,hcl];simp
    ·rintro j ⟨e',Z⟩ hj hJs
     obtain⟨hle,hZ,f0,f3,f4,f5⟩:=(hJ _ _).1 hJs
     simp only at hZ f0 f3 f4 f5 ⊢
     obtain⟨p,hp⟩:∃ p,k+1+j=p:=⟨_,rfl⟩
     have hpl:p<xs.length:=by omega
     have hU:=compS_len (xs:=xs) (k:=p) (by omega)
     rw[hp]at hle hZ f3
     obtain⟨c,hc⟩:∃ c,(compTo xs p).length=c:=⟨_,rfl⟩
     rw[hc]at hle f3
     have hoZ:rdOb Z id g=some ⟨(compS xs p).map .i,g,true,1⟩:=by rw[hZ,rdOb_set_self hlt];simp
     have d1:=rdc_int hoZ (k:=p) (by omega)
     have d0:=rdc_int hoZ (k:=p - 1) (by omega)
     rw[compS_at (by omega)]at d1 d0
     have j1:idxOf 1 (.sl id g k (xs.length - k)) ((j+1:Nat):Int)=some (.p id g p):=by simp[idxOf];omega
     have j0:idxOf 1 (.sl id g k (xs.length - k)) (j:Int)=some (.p id g (p - 1)):=by simp[idxOf];omega
     have jc:=hix c (by omega)
     have hlJ:((j+1:Nat):Int)<((xs.length - k:Nat):Int):=by omega
     have hwj:wrap64 (((j+1:Nat):Int) - 1)=(j:Int):=by rw[wrap64_id (by simp only[BIG]at hb;omega)];omega
     have hnp:newAt xs p=!decide (xs.getD p 0=xs.getD (p - 1) 0):=by unfold newAt;simp;omega
     obtain⟨x',hx'⟩:∃ x',xs.getD p 0=x':=⟨_,rfl⟩
     obtain⟨y',hy'⟩:∃ y',xs.getD (p - 1) 0=y':=⟨_,rfl⟩
     rw[hx']at d1 hnp
     rw[hy']at d0 hnp
     obtain⟨j2,hj2⟩:∃ j2,j+1=j2:=⟨_,rfl⟩
     rw[hj2]at f5 j1 hlJ hwj
     have hj2l:j2<xs.length:=by omega
     have hcl2:c<xs.length:=by omega
     unfold vf73b0
     by_cases hxy':x'=y'
     ·rw[hxy']at d1
      have hnf:newAt xs p=false:=by rw[hnp];simp[hxy']
      simp[f0,f3,f4,f5,hlJ,j1,d1,hwj,j0,d0,up1 hj2l hb]
      refine (hJ _ ⟨_,_⟩).2 ⟨?_,?_,?_⟩
      ·rw[show k+1+(j+1)=p+1 by omega,(compS_same hnf).2,hc];omega
      ·rw[show k+1+(j+1)=p+1 by omega,(compS_same hnf).1];exact hZ
      ·rw[show k+1+(j+1)=p+1 by omega,(compS_same hnf).2,hc];simp[← hj2]
     ·have hnt:newAt xs p=true:=by rw[hnp];simp[hxy']
      obtain⟨m1,m2⟩:=compS_new hpl hnt
      rw[hc,hx']at m1
      rw[hc]at m2
      have hput:putAt ((compS xs p).map .i) c [CV.i x']=(compS xs (p+1)).map .i:=by
       rw[putAt_get (by rw[List.length_map];omega),m1,List.map_set]
      have hcU:c+1≤(compS xs p).length:=by omega
      simp[f0,f3,f4,f5,hlJ,j1,d1,hwj,j0,d0,hxy',jc,hoZ,hput,hcU,up1 hj2l hb,up1 hcl2 hb]
      refine (hJ _ ⟨_,_⟩).2 ⟨?_,?_,?_⟩
      ·rw[show k+1+(j+1)=p+1 by omega,m2];omega
      ·rw[show k+1+(j+1)=p+1 by omega,hZ];simp
      ·rw[show k+1+(j+1)=p+1 by omega,m2];simp[← hj2]
    ·rintro⟨e',Z⟩ hJs
     obtain⟨hle,hZ,f0,f3,f4,f5⟩:=(hJ _ _).1 hJs
     simp only at hZ f0 f3 f4 f5 ⊢
     rw[show k+1+(xs.length - k - 1)=xs.length by omega]at hle hZ f3
     rw[show xs.length - k - 1+1=xs.length - k by omega]at f5
     have hCe:compTo xs xs.length=compI xs:=rfl
     have hU:=compS_len (xs:=xs) (k:=xs.length) (Nat.le_refl _)
     obtain⟨C,hC⟩:∃ C,compI xs=C:=⟨_,rfl⟩
     rw[hCe,hC]at hle f3
     have hSe:compS xs xs.length=C++xs.drop C.length:=by unfold compS;rw[hCe,hC]
     have hoZ:rdOb Z id g=some ⟨(C++xs.drop C.length).map .i,g,true,1⟩:=by rw[hZ,rdOb_set_self hlt,hSe];simp
     have hCl:C.length≤xs.length:=by omega
     have hs1:doSlice Z 1 (.sl id g 0 xs.length) (some (.c (.i (C.length:Int)))) none=some (.c (.sl id g C.length (xs.length - C.length))):=by
      simp[doSlice,hoZ]<;>omega
     obtain⟨R,hR⟩:∃ R,List.replicate (xs.length - C.length) (0:Int)=R:=⟨_,rfl⟩
     have hput:putAt ((C++xs.drop C.length).map .i) C.length (List.replicate (xs.length - C.length) [CV.i 0]).flatten=(C++R).map .i:=by
      have e:(List.replicate (xs.length - C.length) [CV.i 0]).flatten=R.map .i:=by
       rw[← hR,List.map_replicate]
       generalize xs.length - C.length=q
       induction q with
       | zero=>rfl
       | succ q ih=>rw[List.replicate_succ,List.flatten_cons,ih,List.replicate_succ];rfl
      rw[e,List.map_append,List.map_append]
      have hRl:R.length=xs.length - C.length:=by rw[← hR];simp
      unfold putAt
      simp[hRl]
     obtain⟨Z2,hZ2⟩:∃ Z2,Z.set id ⟨(C++R).map .i,g,true,1⟩=Z2:=⟨_,rfl⟩
     have hoZ2:rdOb Z2 id g=some ⟨(C++R).map .i,g,true,1⟩:=by rw[← hZ2,rdOb_set_self (rdOb_lt hoZ)];simp
     have hs2:doSlice Z2 1 (.sl id g 0 xs.length) none (some (.c (.i (C.length:Int))))=some (.c (.sl id g 0 C.length)):=by
      simp[doSlice,hoZ2]<;>omega
     have hle2:C.length+(xs.length - C.length)≤((C++xs.drop C.length).map CV.i).length:=by simp
     obtain⟨cs,hcs⟩:∃ cs,(C++xs.drop C.length).map CV.i=cs:=⟨_,rfl⟩
     rw[hcs]at hoZ hput hle2
     obtain⟨cs2,hcs2⟩:∃ cs2,(C++R).map CV.i=cs2:=⟨_,rfl⟩
     rw[hcs2]at hput hZ2
     have hlc:((xs.length - k:Nat):Int)=((xs.length - k:Nat):Int):=rfl
     obtain⟨zs,hzs⟩:∃ zs,(List.replicate (xs.length - C.length) [CV.i 0]).flatten=zs:=⟨_,rfl⟩
     rw[hzs]at hput
     unfold vf73b0
     simp[f0,f3,f4,f5,hs1,hoZ,hzs,hle2,hput,hZ2,hs2,gc_rowI hlt]
     refine⟨Z2,⟨by rw[hC],rfl⟩,R,?_⟩
     rw[hC,← hZ2,hZ,List.set_set,← hcs2];simp
   ·simp[e0,e3,hlI,q1,c1,hw,q0,c0,hxy,up1 hi1 hb]
    refine (hI _ ⟨_,_⟩).2 ⟨fun j hj=>?_,rfl,?_⟩
    ·by_cases hjk:j=k
     ·subst hjk;rw[hna];simp[hxy]
     ·exact hn j (by omega)
    ·simp[← hk]
  ·rintro⟨e,Y⟩ hIs
   obtain⟨hn,rfl,e0,e3⟩:=(hI _ _).1 hIs
   simp only at ho hlt hH hall hI e0 e3 hIs ⊢
   rw[show xs.length - 1+1=xs.length by omega]at e3
   unfold vf73b1
   simp[e0,e3,gc_rowI hlt]
   have:=hall (fun j hj=>hn j (by omega)) Y rfl
   simpa using this
def tgsL (xs:List InsR):List Int:=(xs.filter fun x=>decide (x.op=25)).map (·.d)

def tgsB (bs:List BlkR):List Int:=bs.flatMap fun b=>tgsL b.list

def targF (f:FnR):List Int:=if shapeB f=true then compI (sortI (tgsB f.blocks)) else []

theorem tgsB_succ {bs:List BlkR} {i:Nat} (hi:i<bs.length):tgsB (bs.take (i+1))=tgsB (bs.take i)++tgsL bs[i].list:=by
 unfold tgsB
 rw[List.take_succ_eq_append_getElem hi,List.flatMap_append]
 simp

theorem tgsL_succ {xs:List InsR} {i:Nat} (hi:i<xs.length):tgsL (xs.take (i+1))=tgsL (xs.take i)++(if xs[i].op=25 then [xs[i].d] else []):=by
 unfold tgsL
 rw[List.take_succ_eq_append_getElem hi,List.filter_append,List.map_append]
 congr 1
 by_cases h:xs[i].op=25<;>simp[h]

theorem tgsL_le (xs:List InsR) (j:Nat):(tgsL (xs.take j)).length≤xs.length:=by
 unfold tgsL
 rw[List.length_map]
 exact Nat.le_trans (List.length_filter_le _ _) (by rw[List.length_take];omega)

theorem tgsB_le {bs:List BlkR} {q:Nat} (h:∀ b∈bs,b.list.length≤q) (i:Nat):(tgsB (bs.take i)).length≤i * q:=by
 induction i with
 | zero=>simp[tgsB]
 | succ i ih =>
  by_cases hi:i<bs.length
  ·rw[tgsB_succ hi,List.length_append,Nat.succ_mul]
   have h1:=tgsL_le bs[i].list bs[i].list.length
   rw[List.take_length]at h1
   have h2:=h _ (List.getElem_mem hi)
   omega
  ·rw[List.take_of_length_le (by omega)]
   rw[List.take_of_length_le (by omega)]at ih
   rw[Nat.succ_mul];omega

theorem int_push {X:Hp} {b g:Nat} {xs:List Int} (h:rdOb X b g=some ⟨xs.map .i,g,true,1⟩) (hl:xs.length≤1000) (a:Int) :
  ∃ Z,doApp X 1 (.sl b g 0 xs.length) 1 [.i a]=some (.c (.sl b (g+1) 0 (xs.length+1)),Z)∧Z=X.set b ⟨(xs++[a]).map .i,g+1,true,1⟩:=by
 have happ:=app_own (X:=X) (o:=b) (g:=g) (n:=xs.length) (sz:=1) (m:=1) (cs:=xs.map .i) (xs:=[.i a]) h (by simp) (by simp) (by simp only[LIM,List.length_cons,List.length_nil,List.length_map];omega)
 exact⟨_,happ,by simp⟩

set_option maxRecDepth 100000 in
theorem implTargets {H:Hp} {v:CV} {f:FnR} (hv:Blocks H v f.blocks) (hb:f.blocks.length≤BIG) :
  CM 27 [.agg [v,.i f.values]] H fun r=>∃ w L,r=(.c w,H++L)∧IsI (H++L) w (targF f):=by
 refine cw27 ?_
 unfold vf27c
 obtain⟨X1,hX1⟩:∃ X1,H++[(⟨[v,.i f.values],0,true,2⟩:Ob)]=X1:=⟨_,rfl⟩
 have hp1:Pre H X1:=⟨_,hX1.symm⟩
 have l1:X1.length=H.length+1:=by rw[← hX1];simp
 have hB1:rdOb X1 H.length 0=some ⟨[v,.i f.values],0,true,2⟩:=by rw[← hX1];simp
 have hv1:=hv.pre hp1
 cases hs:shapeB f with
 | false =>
  have e:targF f=[]:=by unfold targF;rw[hs];simp
  simp[hX1,rdN_ob hB1,implShape hv1 hb,hs]
  rw[gcRet_flat hp1 (show flatV (.c .ns)=true from rfl),e]
  refine⟨.ns,[],by simp,?_⟩
  exact .inl ⟨rfl,rfl,rfl⟩
 | true =>
  have e:targF f=compI (sortI (tgsB f.blocks)):=by unfold targF;rw[if_pos hs]
  obtain⟨X2,hX2⟩:∃ X2,X1++[(⟨[],0,true,1⟩:Ob)]=X2:=⟨_,rfl⟩
  have hp2:Pre X1 X2:=⟨_,hX2.symm⟩
  simp[hX1,rdN_ob hB1,implShape hv1 hb,hs,hX2,rdC_ob (hp2.rdOb hB1),hv1.lenOf]
  have hsm:f.blocks.length≤16∧∀ b∈f.blocks,b.list.length≤24:=by
   have h:=hs
   unfold shapeB inB at h
   simp only[Bool.and_eq_true,decide_eq_true_eq,List.all_eq_true]at h
   refine⟨by omega,fun b hb=>?_⟩
   have h5:=h.2 b hb
   unfold blkB at h5
   simp only[Bool.and_eq_true,decide_eq_true_eq]at h5
   omega
  obtain⟨o,ho⟩:∃ o,X1.length=o:=⟨_,rfl⟩
  obtain⟨I,hI⟩:∃ I:Nat→St→Prop,∀ i s,I i s↔(∃ g,Low o X1 s.h∧rdOb s.h o g=some ⟨(tgsB (f.blocks.take i)).map .i,g,true,1⟩∧Env.get s.e 3=.c (.sl o g 0 (tgsB (f.blocks.take i)).length)∧Env.get s.e 13=.c v∧Env.get s.e 14=.c (.i f.blocks.length)∧Env.get s.e 15=.c (.i i)):=⟨_,fun _ _=>Iff.rfl⟩
  refine wp_for CM_mono f.blocks.length I ((hI _ ⟨_,_⟩).2 ⟨0,by rw[← hX2];exact Low.app _ _ _,?_,?_⟩) ?_ ?_
  ·subst ho;show rdOb _ _ _=_;rw[← hX2];simp[tgsB]
  ·simp[tgsB,ho]
  ·rintro i ⟨e',Y⟩ hi hIs
   obtain⟨g,hL,hM,e3,e13,e14,e15⟩:=(hI _ _).1 hIs
   simp only at hL hM e3 e13 e14 e15 ⊢
   have hpY:Pre X1 Y:=hL.pre (Pre.refl _) (by omega)
   obtain⟨id1,g1,off1,z,u,q1,_,q3,_,hu,_,hub,_,_⟩:=hv1.get hi
   have q2:BlkAt Y id1 g1 off1 z u f.blocks[i].term:=by obtain⟨L,rfl⟩:=id hpY;exact q3 L
   obtain⟨b,hbk⟩:∃ b,f.blocks[i]=b:=⟨_,rfl⟩
   have hsucc:=tgsB_succ hi
   have hble:=hsm.2 _ (List.getElem_mem hi)
   have hAl:=tgsB_le hsm.2 i
   rw[hbk]at q2 hu hub hsucc hble
   obtain⟨A,hA⟩:∃ A,tgsB (f.blocks.take i)=A:=⟨_,rfl⟩
   rw[hA]at hM e3 hsucc hAl
   obtain⟨Y1,hY1⟩:∃ Y1,Y++[(⟨[z,u,.i b.term.kind,.i b.term.a,.i b.term.to,.i b.term.els],0,true,6⟩:Ob)]=Y1:=⟨_,rfl⟩
   have n1:rdOb Y1 Y.length 0=some ⟨[z,u,.i b.term.kind,.i b.term.a,.i b.term.to,.i b.term.els],0,true,6⟩:=by rw[← hY1];simp
   have hp1':Pre Y Y1:=⟨_,hY1.symm⟩
   have hM1:=hp1'.rdOb hM
   have hlt:=rdOb_lt hM
   have hL1:Low o X1 Y1:=by rw[← hY1];exact hL.trans (Low.app _ _ _)
   have hu1:List5 Y1 u b.list:=List5.pre (hpY.trans hp1') hu
   have hlu:=hu1.lenOf
   unfold vf27b1
   simp[e3,e13,e14,e15,hi,q1,q2.2.2.2.2.2.2.2.2.2.2,putAt,hY1,rdN_ob n1,n1,rdC_ob n1,hlu]
   obtain⟨J,hJ⟩:∃ J:Nat→St→Prop,∀ j s,J j s↔(∃ g,Low o X1 s.h∧(∀ id gg ob,id≠o→rdOb Y1 id gg=some ob→rdOb s.h id gg=some ob)∧rdOb s.h o g=some ⟨(A++tgsL (b.list.take j)).map .i,g,true,1⟩∧Env.get s.e 3=.c (.sl o g 0 (A++tgsL (b.list.take j)).length)∧Env.get s.e 13=.c v∧Env.get s.e 14=.c (.i f.blocks.length)∧Env.get s.e 15=.c (.i i)∧Env.get s.e 20=.c u∧Env.get s.e 21=.c (.i b.list.length)∧Env.get s.e 22=.c (.i j)):=⟨_,fun _ _=>Iff.rfl⟩
   refine wp_for CM_mono b.list.length J ((hJ _ ⟨_,_⟩).2 ⟨g,hL1,fun _ _ _ _ h=>h,by simpa [tgsL] using hM1,?_⟩) ?_ ?_
   ·simp[tgsL]
   ·rintro j ⟨e'',Z⟩ hj hJs
    obtain⟨g2,hL2,hk2,hM2,f3,f13,f14,f15,f20,f21,f22⟩:=(hJ _ _).1 hJs
    simp only at hL2 hk2 hM2 f3 f13 f14 f15 f20 f21 f22 ⊢
    have hpZ:Pre X1 Z:=hL2.pre (Pre.refl _) (by omega)
    obtain⟨id3,g3,off3,r1,r2,_⟩:=List5.get (List5.pre hpZ hu) hj
    have hso:=tgsL_succ hj
    have hlj:=tgsL_le b.list j
    obtain⟨x,hx⟩:∃ x,b.list[j]=x:=⟨_,rfl⟩
    rw[hx]at r2 hso
    obtain⟨C,hC⟩:∃ C,A++tgsL (b.list.take j)=C:=⟨_,rfl⟩
    have hCs:A++tgsL (b.list.take (j+1))=C++(if x.op=25 then [x.d] else []):=by rw[hso,← List.append_assoc,hC]
    have hCl:C.length≤1000:=by
     have:i * 24≤16 * 24:=Nat.mul_le_mul_right _ (by omega)
     rw[← hC,List.length_append];omega
    rw[hC]at hM2 f3
    obtain⟨Z1,hZ1⟩:∃ Z1,Z++[(⟨[.i x.op,.i x.d,.i x.a,.i x.b,.i x.n],0,true,5⟩:Ob)]=Z1:=⟨_,rfl⟩
    have hpz1:Pre Z Z1:=⟨_,hZ1.symm⟩
    have m1:rdOb Z1 Z.length 0=some ⟨[.i x.op,.i x.d,.i x.a,.i x.b,.i x.n],0,true,5⟩:=by rw[← hZ1];simp
    have hM3:=hpz1.rdOb hM2
    have hL3:Low o X1 Z1:=by rw[← hZ1];exact hL2.trans (Low.app _ _ _)
    unfold vf27b0
    cases hop:decide (x.op=25) with
    | true =>
     have hop':=of_decide_eq_true hop
     rw[if_pos hop']at hCs
     obtain⟨Z2,hZ2⟩:∃ Z2,Z1++[(⟨[.i x.d],0,true,1⟩:Ob)]=Z2:=⟨_,rfl⟩
     have hpz2:Pre Z1 Z2:=⟨_,hZ2.symm⟩
     have m2:rdOb Z2 Z1.length 0=some ⟨[.i x.d],0,true,1⟩:=by rw[← hZ2];simp
     obtain⟨Z3,happ,hZ3⟩:=int_push (hpz2.rdOb hM3) hCl x.d
     have hlt2:=rdOb_lt (hpz2.rdOb hM3)
     simp[f3,f13,f14,f15,f20,f21,f22,hj,r1,r2.2.2.2.2.2,putAt,hZ1,rdN_ob m1,m1,rdC_ob m1,hop,hZ2,srcOf,m2,happ,up1 hj hub]
     refine (hJ _ ⟨_,_⟩).2 ⟨g2+1,?_,?_,?_,?_⟩
     ·rw[hZ3];exact fun id gg ob hi h=>by rw[rdOb_set_ne (by omega)];exact hpz2.rdOb (hL3 id gg ob hi h)
     ·intro id gg ob hne h
      rw[hZ3]
      show rdOb (Z2.set o _) id gg=some ob
      rw[rdOb_set_ne hne]
      exact hpz2.rdOb (hpz1.rdOb (hk2 id gg ob hne h))
     ·show rdOb Z3 o (g2+1)=_
      rw[hZ3,rdOb_set_self hlt2,hCs];simp
     ·rw[hCs];simp
    | false =>
     have hop':=of_decide_eq_false hop
     rw[if_neg hop',List.append_nil]at hCs
     simp[f3,f13,f14,f15,f20,f21,f22,hj,r1,r2.2.2.2.2.2,putAt,hZ1,rdN_ob m1,m1,rdC_ob m1,hop,up1 hj hub]
     refine (hJ _ ⟨_,_⟩).2 ⟨g2,hL3,fun id gg ob hne h=>hpz1.rdOb (hk2 id gg ob hne h),by rw[hCs];exact hM3,?_⟩
     rw[hCs];simp
   ·rintro⟨e'',Z⟩ hJs
    obtain⟨g2,hL2,hk2,hM2,f3,f13,f14,f15,f20,f21,f22⟩:=(hJ _ _).1 hJs
    simp only at hL2 hk2 hM2 f3 f13 f14 f15 f20 f21 f22 ⊢
    rw[List.take_length,← hsucc]at hM2 f3
    unfold vf27b0
    simp[f3,f13,f14,f15,f20,f21,f22,up1 hi hb]
    refine (hI _ ⟨_,_⟩).2 ⟨g2,hL2,hM2,?_⟩
    simp
  ·rintro⟨e',Y⟩ hIs
   obtain⟨g,hL,hM,e3,e13,e14,e15⟩:=(hI _ _).1 hIs
   simp only at hL hM e3 e13 e14 e15 ⊢
   rw[List.take_length]at hM e3
   have hAl:=tgsB_le hsm.2 f.blocks.length
   rw[List.take_length]at hAl
   have hpY:Pre X1 Y:=hL.pre (Pre.refl _) (by omega)
   have hAl':(tgsB f.blocks).length≤400:=by
    have:f.blocks.length * 24≤16 * 24:=Nat.mul_le_mul_right _ hsm.1
    omega
   have hsl:(sortI (tgsB f.blocks)).length=(tgsB f.blocks).length:=sortI_len _
   unfold vf27b1
   obtain⟨Y2,hY2⟩:∃ Y2,Y.set o ⟨(sortI (tgsB f.blocks)).map .i,g,true,1⟩=Y2:=⟨_,rfl⟩
   have hM2:rdOb Y2 o g=some ⟨(sortI (tgsB f.blocks)).map .i,g,true,1⟩:=by rw[← hY2,rdOb_set_self (rdOb_lt hM)];simp
   have hpY2:Pre X1 Y2:=by rw[← hY2];exact hpY.set (by omega) _
   simp[e3,e13,e14,e15,sort_call hM (by simp only[LIM];omega),hY2]
   have hcc:=compact_call hM2 (by rw[hsl];simp only[BIG];omega)
   rw[hsl]at hcc
   refine hcc.mono ?_
   rintro _ ⟨Z,rest,rfl,hZ⟩
   simp
   have hMZ:rdOb Z o g=some ⟨(compI (sortI (tgsB f.blocks))++rest).map .i,g,true,1⟩:=by rw[hZ,rdOb_set_self (rdOb_lt hM2)];simp
   have hpZ:Pre H Z:=by rw[hZ];exact (hp1.trans hpY2).set (by omega) _
   rw[gcRet_row hpZ (by omega) hMZ rfl (by simp[flatC])]
   refine⟨_,_,rfl,?_⟩
   rw[e]
   exact IsI.mk (o:=⟨(compI (sortI (tgsB f.blocks))++rest).map .i,0,true,1⟩) (by simp) rfl (by simp) (by simp)
theorem compTo_mem (xs:List Int):∀ (k j:Nat),j<k→xs.getD j 0∈compTo xs k:=by
 intro k
 induction k with
 | zero=>intro j h;omega
 | succ k ih =>
  intro j hj
  rw[compTo_succ]
  by_cases e:j=k
  ·subst e
   cases hn:newAt xs j with
   | true=>simp
   | false =>
    unfold newAt at hn
    simp only[Bool.or_eq_false_iff,decide_eq_false_iff_not,Bool.not_eq_false',decide_eq_true_eq]at hn
    rw[hn.2]
    exact List.mem_append_left _ (ih (j - 1) (by omega))
  ·exact List.mem_append_left _ (ih j (by omega))

theorem compI_mem {xs:List Int} {d:Int} (h:d∈xs):d∈compI xs:=by
 obtain⟨j,hj,rfl⟩:=List.getElem_of_mem h
 rw[← getD_ix hj]
 exact compTo_mem xs xs.length j hj

theorem sortI_mem {xs:List Int} {d:Int} (h:d∈xs):d∈sortI xs:=(List.mergeSort_perm _ _).mem_iff.2 h

theorem turn_frs (n b:Int) (ms:List ArmR):(ms.map (turnM n b)).map (·.fr)=ms.map (·.fr):=by
 rw[List.map_map]
 apply List.map_congr_left
 intro m _
 simp only[Function.comp,turnM]
 split<;>rfl

theorem seqF_has {n:Int}:∀ (f:Nat) (left out:List ArmR),GoodM n left→muM left≤f→∀ d,d∈left.map (·.fr)∨d∈out.map (·.fr)→d∈(seqF n f left out).map (·.fr):=by
 intro f
 induction f with
 | zero =>
  intro left out _ hmu d hd
  have:left=[]:=List.length_eq_zero_iff.1 (by unfold muM at hmu;omega)
  subst this
  rcases hd with hd | hd
  ·simp at hd
  ·exact hd
 | succ f ih =>
  intro left out h hmu d hd
  unfold seqF
  by_cases h0:left.length=0
  ·rw[if_pos h0]
   have:left=[]:=List.length_eq_zero_iff.1 h0
   subst this
   rcases hd with hd | hd
   ·simp at hd
   ·exact hd
  ·rw[if_neg h0]
   by_cases hfr:0≤findI (frB left) left
   ·rw[if_pos hfr]
    obtain⟨i,hfi,hi,hfp⟩:=findI_at hfr
    rw[hfi,Int.toNat_natCast]
    have hmu1:=mu_erase hi
    refine ih _ _ (good_erase h i) (by omega) d ?_
    have hgd:left.getD i ⟨0,0⟩=left[i]:=by rw[List.getD_eq_getElem?_getD,List.getElem?_eq_getElem hi];rfl
    rw[hgd]
    rcases hd with hd | hd
    ·obtain⟨m,hm,rfl⟩:=List.mem_map.1 hd
     obtain⟨j,hj,rfl⟩:=List.getElem_of_mem hm
     by_cases e:j=i
     ·subst e;exact .inr (by simp)
     ·refine .inl (List.mem_map.2 ⟨left[j],?_,rfl⟩)
      rw[List.mem_eraseIdx_iff_getElem]
      exact⟨j,hj,e,rfl⟩
    ·exact .inr (by simp only[List.map_append,List.mem_append];exact .inl hd)
   ·rw[if_neg hfr]
    have hmu1:=mu_turn h (by omega) (by omega)
    refine ih _ _ (good_turn h) (by omega) d ?_
    rw[turn_frs]
    rcases hd with hd | hd
    ·exact .inl hd
    ·exact .inr (by simp only[List.map_append,List.mem_append];exact .inl hd)

theorem lower_made {f:FnR} (h:LowerC f) {j:Nat} (hj:j<f.blocks.length) {p:PhiR} (hp:p∈f.blocks[j].phis) {a:ArmR} (ha:a∈p.arms) (hne:a.v≠p.d):p.d∈targF (lowerF f):=by
 have w:=well_iff.1 h.1
 have hcr:crit0 f=[]:=List.length_eq_zero_iff.1 h.2.1
 have hpok:=shape_phi w.sh (List.getElem_mem hj) hp
 have hfr:=((arms_iff hpok).1 (w.arms j hj p hp)).2 a ha
 rw[hasI_iff,predsF_mem]at hfr
 obtain⟨i,hi,hil,hs⟩:=hfr
 have hone:succsAt f.blocks i=[(j:Int)]:=by
  have h2:=succsAt_two f.blocks i
  have hhot:hot f.blocks j=true:=by
   unfold hot
   rw[phisAt_getD,blk_at hj,Bool.or_eq_true]
   exact .inr (decide_eq_true (List.length_pos_of_mem hp))
  have hne2:(succsAt f.blocks i).length≠2:=fun e2=>by
   have:=crit0_of w.sh hil hs e2 hhot
   rw[hcr]at this;cases this
  generalize succsAt f.blocks i=l at hs h2 hne2
  match l with
  | []=>simp at hs
  | [x]=>simp at hs;rw[hs]
  | x :: y :: r=>simp only[List.length_cons]at h2 hne2;omega
 have hm:(⟨p.d,a.v⟩:ArmR)∈mvsP i f.blocks[j].phis:=by
  unfold mvsP
  rw[List.mem_flatMap]
  refine⟨p,hp,?_⟩
  unfold mvsOf
  exact List.mem_map.2 ⟨a,List.mem_filter.2 ⟨ha,decide_eq_true hi⟩,rfl⟩
 obtain⟨mo,ml⟩:=moves_ok w.sh w.once (List.getElem_mem hj) (i:Int)
 generalize hms:mvsP i f.blocks[j].phis=ms at hm mo ml
 have hleft:(⟨p.d,a.v⟩:ArmR)∈leftM idM ms ms.length:=by
  unfold leftM
  rw[List.take_length]
  refine List.mem_filter.2 ⟨hm,?_⟩
  unfold idM
  simp only[Bool.not_eq_true',decide_eq_false_iff_not]
  exact fun e=>hne e.symm
 have hgood:GoodM f.values (leftM idM ms ms.length):=by
  intro q hq
  unfold leftM at hq
  rw[List.take_length]at hq
  obtain⟨hq1,hq2⟩:=List.mem_filter.1 hq
  unfold idM at hq2
  simp only[Bool.not_eq_true',decide_eq_false_iff_not]at hq2
  refine⟨hq2,?_⟩
  rw[← hms]at hq1
  obtain⟨_,hx⟩:=mvs_sub w.sh (List.getElem_mem hj) (i:Int) f.blocks[j].phis fun _ h=>h
  obtain⟨p',hp',a',ha',_,e⟩:=hx q hq1
  rw[e]
  obtain⟨k,hk,hk2⟩:=val_nat (phi_vals (shape_phi w.sh (List.getElem_mem hj) hp')).1
  simp only;omega
 have hlen:(leftM idM ms ms.length).length≤24:=by
  unfold leftM
  rw[List.take_length]
  exact Nat.le_trans (List.length_filter_le _ _) ml
 have hmu:muM (leftM idM ms ms.length)≤60:=by
  unfold muM;split<;>omega
 have hin:=seqF_has (n:=f.values) 60 (leftM idM ms ms.length) [] hgood hmu p.d (.inl (List.mem_map.2 ⟨_,hleft,rfl⟩))
 unfold targF
 rw[if_pos h.2.2]
 refine compI_mem (sortI_mem ?_)
 unfold tgsB
 rw[List.mem_flatMap]
 refine⟨lowerB f i,?_,?_⟩
 ·unfold lowerF lowerTo
  simp only[List.drop_length,List.append_nil]
  exact List.mem_map.2 ⟨i,List.mem_range.2 hil,rfl⟩
 ·unfold tgsL lowerB lowerL
  simp only
  rw[hone]
  simp only[List.length_cons,List.length_nil,if_true,List.getD_cons_zero,Int.toNat_natCast]
  rw[blk_at hj,hms]
  obtain⟨q,hq,e⟩:=List.mem_map.1 hin
  refine List.mem_map.2 ⟨cpI q,List.mem_filter.2 ⟨List.mem_append_right _ (List.mem_map.2 ⟨q,hq,rfl⟩),by simp[cpI]⟩,?_⟩
  exact e

theorem lower_plain {f:FnR} (h:LowerC f):plainF (lowerF f)=true:=by
 unfold plainF
 rw[h.2.2,Bool.true_and,List.all_eq_true]
 intro b hb
 unfold lowerF lowerTo at hb
 simp only[List.drop_length,List.append_nil]at hb
 obtain⟨i,_,rfl⟩:=List.mem_map.1 hb
 simp[lowerB]

theorem lower_len (f:FnR):(lowerF f).blocks.length=f.blocks.length:=lowerTo_len f _ (Nat.le_refl _)

theorem lowerOk_iff {f:FnR}:lowerOk f=true↔LowerC f:=by
 unfold lowerOk pB
 exact @decide_eq_true_iff _ (Classical.propDecidable _)
theorem putAt_get3 {cs xs:List CV} {o:Nat} (h:o+xs.length≤cs.length) (i:Nat):(putAt cs o xs)[i]? = if i<o then cs[i]? else if i<o+xs.length then xs[i - o]? else cs[i]?:=by
 unfold putAt
 by_cases h1:i<o
 ·rw[if_pos h1,List.append_assoc,List.getElem?_append_left (by simp;omega),List.getElem?_take,if_pos h1]
 ·rw[if_neg h1]
  by_cases h2:i<o+xs.length
  ·rw[if_pos h2,List.append_assoc,List.getElem?_append_right (by simp;omega),List.getElem?_append_left (by simp;omega)]
   congr 1;simp;omega
  ·rw[if_neg h2,List.getElem?_append_right (by simp;omega),List.getElem?_drop]
   congr 1;simp;omega

def chk (cells:List CV) (sz k:Nat):List CV:=(cells.drop (k * sz)).take sz

theorem chk_at (cells:List CV) (sz k j:Nat):(chk cells sz k)[j]? = if j<sz then cells[k * sz+j]? else none:=by
 unfold chk
 rw[List.getElem?_take]
 split
 ·rw[List.getElem?_drop]
 ·rfl

theorem chk_len {cells:List CV} {sz k:Nat} (h:k * sz+sz≤cells.length):(chk cells sz k).length=sz:=by unfold chk;simp;omega

theorem chk_put {cells:List CV} {sz k j:Nat} {ys:List CV} (hj:j+ys.length≤sz) (h:k * sz+sz≤cells.length):chk (putAt cells (k * sz+j) ys) sz k=putAt (chk cells sz k) j ys:=by
 apply List.ext_getElem?
 intro i
 rw[chk_at,putAt_get3 (by omega),putAt_get3 (by rw[chk_len h];omega),chk_at]
 by_cases hi:i<sz
 ·simp only[if_pos hi]
  by_cases h1:i<j
  ·rw[if_pos h1,if_pos (by omega)]
  ·rw[if_neg h1,if_neg (by omega)]
   by_cases h2:i<j+ys.length
   ·rw[if_pos h2,if_pos (by omega)];congr 1;omega
   ·rw[if_neg h2,if_neg (by omega)]
 ·simp only[if_neg hi]
  rw[if_neg (by omega),if_neg (by omega)]

theorem chk_other {cells:List CV} {sz k k' j:Nat} {ys:List CV} (hk:k'≠k) (hj:j+ys.length≤sz) (h:k * sz+sz≤cells.length):chk (putAt cells (k * sz+j) ys) sz k'=chk cells sz k':=by
 apply List.ext_getElem?
 intro i
 rw[chk_at,chk_at]
 by_cases hi:i<sz
 ·rw[if_pos hi,if_pos hi,putAt_get3 (by omega)]
  rcases Nat.lt_or_gt_of_ne hk with h1 | h1
  ·have h2:(k'+1) * sz≤k * sz:=Nat.mul_le_mul_right _ h1
   rw[Nat.succ_mul]at h2
   rw[if_pos (by omega)]
  ·have h2:(k+1) * sz≤k' * sz:=Nat.mul_le_mul_right _ h1
   rw[Nat.succ_mul]at h2
   rw[if_neg (by omega),if_neg (by omega)]
 ·rw[if_neg hi,if_neg hi]

theorem chk_app {cells ds:List CV} {sz k:Nat} (h:k * sz+sz≤cells.length):chk (cells++ds) sz k=chk cells sz k:=by
 apply List.ext_getElem?
 intro i
 rw[chk_at,chk_at]
 by_cases hi:i<sz
 ·rw[if_pos hi,if_pos hi,List.getElem?_append_left (by omega)]
 ·rw[if_neg hi,if_neg hi]

theorem chk_last {cells cs:List CV} {sz k:Nat} (h:cells.length=k * sz) (hc:cs.length=sz):chk (cells++cs) sz k=cs:=by
 unfold chk
 rw[← h,List.drop_left,List.take_of_length_le (by omega)]

theorem chk_fit {cells:List CV} {sz k n m:Nat} (hm:cells.length=m * sz) (hn:n≤m) (hk:k<n):k * sz+sz≤cells.length:=by
 have h2:(k+1) * sz≤m * sz:=Nat.mul_le_mul_right _ (by omega)
 rw[Nat.succ_mul]at h2;omega

theorem chks_flat (cells:List CV) (sz:Nat):∀ n,n * sz≤cells.length→((List.range n).map (chk cells sz)).flatten=cells.take (n * sz):=by
 intro n
 induction n with
 | zero=>intro _;simp
 | succ n ih =>
  intro h
  rw[Nat.succ_mul]at h ⊢
  rw[List.range_succ,List.map_append,List.flatten_append,ih (by omega)]
  simp only[List.map_cons,List.map_nil,List.flatten_cons,List.flatten_nil,List.append_nil]
  unfold chk
  rw[List.take_add]


def Frm (G:Nat→Prop) (X Y:Hp):Prop:=∀ i,i<X.length→G i→Y[i]? = X[i]?

theorem Frm.lt {G:Nat→Prop} {X Y:Hp} (h:Frm G X Y) {i:Nat} (hi:i<X.length) (hG:G i):i<Y.length:=by
 have:=h i hi hG
 rw[List.getElem?_eq_getElem hi]at this
 exact (List.getElem?_eq_some_iff.1 this).1

theorem Frm.refl (G:Nat→Prop) (X:Hp):Frm G X X:=fun _ _ _=>rfl

theorem Frm.trans {G:Nat→Prop} {X Y Z:Hp} (h:Frm G X Y) (k:Frm G Y Z):Frm G X Z:=fun i hi hG=>(k i (h.lt hi hG) hG).trans (h i hi hG)

theorem Frm.mono {G G':Nat→Prop} {X Y:Hp} (h:Frm G X Y) (hG:∀ i,G' i→G i):Frm G' X Y:=fun i hi k=>h i hi (hG i k)

theorem Frm.monoL {G G':Nat→Prop} {X Y:Hp} (h:Frm G X Y) (hG:∀ i,i<X.length→G' i→G i):Frm G' X Y:=fun i hi k=>h i hi (hG i hi k)

theorem Frm.app (G:Nat→Prop) (X L:Hp):Frm G X (X++L):=fun i hi _=>List.getElem?_append_left hi

theorem Frm.set {G:Nat→Prop} (X:Hp) {id:Nat} (o:Ob) (h:¬ G id):Frm G X (X.set id o):=fun i hi hG=>List.getElem?_set_ne (by rintro rfl;exact h hG)

theorem Frm.pre {G:Nat→Prop} {X Y:Hp} (h:Pre X Y):Frm G X Y:=by obtain⟨L,rfl⟩:=h;exact Frm.app G X L

theorem Frm.ob {G:Nat→Prop} {X Y:Hp} (h:Frm G X Y) {id g:Nat} {o:Ob} (hg:G id) (ho:rdOb X id g=some o):rdOb Y id g=some o:=by
 have h1:=rdOb_some.1 ho
 exact rdOb_some.2 ⟨by rw[h id (rdOb_lt ho) hg];exact h1.1,h1.2⟩

theorem Frm.cut {X Y H:Hp} (h:Frm (fun i=>i<H.length) X Y) (hp:Pre H X):Pre H Y:=by
 obtain⟨L,rfl⟩:=hp
 refine⟨Y.drop H.length,?_⟩
 apply List.ext_getElem?
 intro i
 by_cases hi:i<H.length
 ·rw[List.getElem?_append_left hi,h i (by simp;omega) hi,List.getElem?_append_left hi]
 ·rw[List.getElem?_append_right (by omega),List.getElem?_drop]
  congr 1;omega

structure Stab {α:Type} (P:Hp→List CV→α→(Nat→Prop)→Prop):Prop where
 st:∀ {X Y:Hp} {cs:List CV} {x:α} {G:Nat→Prop},Frm G X Y→P X cs x G→P Y cs x G

structure FPc {α:Type} (P:Hp→List CV→α→(Nat→Prop)→Prop) (sz:Nat) (X:Hp) (id g:Nat) (cells:List CV) (xs:List α) (F:Nat→Prop) (Fs:Nat→Nat→Prop):Prop where
 ob:rdOb X id g=some ⟨cells,g,true,sz⟩
 len:∃ m,cells.length=m * sz∧xs.length≤m
 own:F id
 sub:∀ k i,k<xs.length→Fs k i→F i∧i≠id∧i<X.length
 dis:∀ j k i,j<xs.length→k<xs.length→j≠k→Fs j i→¬ Fs k i
 el:∀ k (h:k<xs.length),P X (chk cells sz k) xs[k] (Fs k)

def FRow {α:Type} (P:Hp→List CV→α→(Nat→Prop)→Prop) (sz:Nat) (X:Hp) (w:CV) (xs:List α) (F:Nat→Prop):Prop:=
 (w=.ns∧xs=[])∨∃ id g cells Fs,w=.sl id g 0 xs.length∧FPc P sz X id g cells xs F Fs

section

variable {α:Type} {P:Hp→List CV→α→(Nat→Prop)→Prop} {sz:Nat} {X Y:Hp} {id g:Nat} {cells:List CV} {xs:List α} {F F':Nat→Prop} {Fs:Nat→Nat→Prop} {w:CV}

theorem FPc.lt (h:FPc P sz X id g cells xs F Fs):id<X.length:=rdOb_lt h.ob

theorem FPc.fit (h:FPc P sz X id g cells xs F Fs) {k:Nat} (hk:k<xs.length):k * sz+sz≤cells.length:=by
 obtain⟨m,h1,h2⟩:=h.len
 exact chk_fit h1 h2 hk

theorem FPc.fr (hP:Stab P) (h:FPc P sz X id g cells xs F Fs) (hf:Frm F X Y):FPc P sz Y id g cells xs F Fs:=
 ⟨hf.ob h.own h.ob,h.len,h.own,fun k i hk hi=>⟨(h.sub k i hk hi).1,(h.sub k i hk hi).2.1,hf.lt (h.sub k i hk hi).2.2 (h.sub k i hk hi).1⟩,h.dis,fun k hk=>hP.st (hf.mono fun i hi=>(h.sub k i hk hi).1) (h.el k hk)⟩

theorem FPc.mono (h:FPc P sz X id g cells xs F Fs) (hF:∀ i,F i→F' i):FPc P sz X id g cells xs F' Fs:=
 ⟨h.ob,h.len,hF _ h.own,fun k i hk hi=>⟨hF _ (h.sub k i hk hi).1,(h.sub k i hk hi).2⟩,h.dis,h.el⟩

theorem FPc.row (h:FPc P sz X id g cells xs F Fs):FRow P sz X (.sl id g 0 xs.length) xs F:=.inr ⟨_,_,_,_,rfl,h⟩

theorem FRow.fr (hP:Stab P) (h:FRow P sz X w xs F) (hf:Frm F X Y):FRow P sz Y w xs F:=by
 rcases h with h | ⟨id,g,cells,Fs,h1,h2⟩
 ·exact .inl h
 ·exact .inr ⟨id,g,cells,Fs,h1,h2.fr hP hf⟩

theorem FRow.mono (h:FRow P sz X w xs F) (hF:∀ i,F i→F' i):FRow P sz X w xs F':=by
 rcases h with h | ⟨id,g,cells,Fs,h1,h2⟩
 ·exact .inl h
 ·exact .inr ⟨id,g,cells,Fs,h1,h2.mono hF⟩

theorem FRow.ns:FRow P sz X .ns [] F:=.inl ⟨rfl,rfl⟩

theorem FRow.form (h:FRow P sz X w xs F):w=.ns∨∃ i g n,w=.sl i g 0 n:=by
 rcases h with⟨rfl,rfl⟩ | ⟨id,g,cells,Fs,rfl,h2⟩
 ·exact .inl rfl
 ·exact .inr ⟨_,_,_,rfl⟩

theorem FRow.lenOf (h:FRow P sz X w xs F):lenOf w=some xs.length:=by
 rcases h with⟨rfl,rfl⟩ | ⟨id,g,cells,Fs,rfl,h2⟩<;>rfl

theorem FRow.open (h:FRow P sz X w xs F) {k:Nat} (hk:k<xs.length):∃ id g cells Fs,w=.sl id g 0 xs.length∧FPc P sz X id g cells xs F Fs:=by
 rcases h with⟨rfl,rfl⟩ | h
 ·simp at hk
 ·exact h

theorem idx_sl {id g n k sz:Nat} (hk:k<n):idxOf sz (.sl id g 0 n) (k:Int)=some (.p id g (k * sz)):=by simp[idxOf,hk]

theorem FPc.c (h:FPc P sz X id g cells xs F Fs) {k j:Nat} (hj:j<sz):rdC X id g (k * sz+j)=(chk cells sz k)[j]?:=by
 rw[rdC_ob h.ob,chk_at,if_pos hj]

theorem FPc.nn (h:FPc P sz X id g cells xs F Fs) {k:Nat} (hk:k<xs.length):rdN X id g (k * sz) sz=some (chk cells sz k):=by
 rw[rdN_ob h.ob,if_pos (h.fit hk)];rfl

theorem FPc.put (hP:Stab P) (h:FPc P sz X id g cells xs F Fs) {k:Nat} (hk:k<xs.length) {j:Nat} {ys:List CV} {x':α} {G':Nat→Prop} (hj:j+ys.length≤sz) (ho:rdOb Y id g=some ⟨putAt cells (k * sz+j) ys,g,true,sz⟩)
  (hf:Frm (fun i=>F i∧i≠id∧¬ Fs k i) X Y) (hG:∀ i,G' i→F i∧i≠id∧i<Y.length∧(Fs k i∨X.length≤i)) (hp:P Y (putAt (chk cells sz k) j ys) x' G') :
  FPc P sz Y id g (putAt cells (k * sz+j) ys) (xs.set k x') F (fun m i=>if m=k then G' i else Fs m i):=by
 have hfit:=h.fit hk
 refine⟨ho,?_,h.own,fun m i hm hi=>?_,fun a b i ha hb hab h1=>?_,fun m hm=>?_⟩
 ·obtain⟨m,h1,h2⟩:=h.len
  exact⟨m,by rw[putAt_length (by omega)];exact h1,by simpa using h2⟩
 ·simp only[List.length_set]at hm
  by_cases e:m=k
  ·rw[if_pos e]at hi
   exact⟨(hG i hi).1,(hG i hi).2.1,(hG i hi).2.2.1⟩
  ·rw[if_neg e]at hi
   obtain⟨q1,q2,q3⟩:=h.sub m i hm hi
   exact⟨q1,q2,hf.lt q3 ⟨q1,q2,fun h2=>h.dis m k i hm hk e hi h2⟩⟩
 ·simp only[List.length_set]at ha hb
  by_cases e:a=k
  ·rw[if_pos e]at h1
   rw[if_neg (by omega)]
   intro h2
   rcases (hG i h1).2.2.2 with h3 | h3
   ·exact h.dis k b i hk hb (by omega) h3 h2
   ·have:=(h.sub b i hb h2).2.2;omega
  ·rw[if_neg e]at h1
   by_cases e2:b=k
   ·rw[if_pos e2]
    intro h2
    rcases (hG i h2).2.2.2 with h3 | h3
    ·exact h.dis k a i hk ha (by omega) h3 h1
    ·have:=(h.sub a i ha h1).2.2;omega
   ·rw[if_neg e2]
    exact h.dis a b i ha hb hab h1
 ·simp only[List.length_set]at hm
  by_cases e:m=k
  ·subst e
   rw[chk_put hj hfit,List.getElem_set_self]
   simpa using hp
  ·rw[chk_other e hj hfit,List.getElem_set_ne (Ne.symm e)]
   simp only[if_neg e]
   exact hP.st (hf.mono fun i hi=>⟨(h.sub m i hm hi).1,(h.sub m i hm hi).2.1,fun h2=>h.dis m k i hm hk e hi h2⟩) (h.el m hm)

theorem putAt_no (cs:List CV) (o:Nat):putAt cs o []=cs:=by simp[putAt]

theorem FPc.nest (hP:Stab P) (h:FPc P sz X id g cells xs F Fs) {k:Nat} (hk:k<xs.length) {x':α} (hl:X.length≤Y.length) (hf:Frm (fun i=>F i∧¬ Fs k i) X Y) (hp:P Y (chk cells sz k) x' (Fs k)):FPc P sz Y id g cells (xs.set k x') F Fs:=by
 have ho:rdOb Y id g=some ⟨cells,g,true,sz⟩:=hf.ob ⟨h.own,fun h2=>(h.sub k id hk h2).2.1 rfl⟩ h.ob
 have:=h.put (Y:=Y) (j:=0) (ys:=[]) (x':=x') (G':=Fs k) hP hk (by simp) (by rw[putAt_no];exact ho) (hf.mono fun i hi=>⟨hi.1,hi.2.2⟩)
  (fun i hi=>⟨(h.sub k i hk hi).1,(h.sub k i hk hi).2.1,Nat.lt_of_lt_of_le (h.sub k i hk hi).2.2 hl,.inl hi⟩) (by rw[putAt_no];exact hp)
 rw[putAt_no]at this
 have e:(fun (m i:Nat)=>if m=k then Fs k i else Fs m i)=Fs:=by
  funext m i
  by_cases e:m=k
  ·rw[if_pos e,e]
  ·rw[if_neg e]
 rwa [e]at this

theorem FRow.field (hP:Stab P) (h:FRow P sz X w xs F) {k:Nat} (hk:k<xs.length) (j:Nat) (hj:j<sz) (c:CV) (x':α) (hp:∀ Z cs G,P Z cs xs[k] G→P Z (putAt cs j [c]) x' G) :
  ∃ id g cells Z,idxOf sz w (k:Int)=some (.p id g (k * sz))∧rdOb X id g=some ⟨cells,g,true,sz⟩∧k * sz+j+1≤cells.length∧X.set id ⟨putAt cells (k * sz+j) [c],g,true,sz⟩=Z∧FRow P sz Z w (xs.set k x') F∧Frm (fun i=>¬ F i) X Z∧Z.length=X.length:=by
 obtain⟨id,g,cells,Fs,rfl,hc⟩:=h.open hk
 clear h
 have hfit:=hc.fit hk
 have hset:∀ G:Nat→Prop,¬ G id→Frm G X (X.set id ⟨putAt cells (k * sz+j) [c],g,true,sz⟩):=fun G hG=>Frm.set X _ hG
 refine⟨id,g,cells,_,idx_sl hk,hc.ob,by omega,rfl,?_,hset _ (fun hn=>hn hc.own),by simp⟩
 have:=(hc.put (Y:=X.set id ⟨putAt cells (k * sz+j) [c],g,true,sz⟩) (x':=x') (G':=Fs k) hP hk (j:=j) (ys:=[c]) (by simp;omega) (by rw[rdOb_set_self hc.lt];simp) (hset _ fun hn=>hn.2.1 rfl)
  (fun i hi=>⟨(hc.sub k i hk hi).1,(hc.sub k i hk hi).2.1,by simpa using (hc.sub k i hk hi).2.2,.inl hi⟩) (hp _ _ _ (hP.st (hset _ fun hn=>(hc.sub k id hk hn).2.1 rfl) (hc.el k hk)))).row
 simpa using this

theorem FRow.bound (h:FRow P sz X w xs F):FRow P sz X w xs (fun i=>F i∧i<X.length):=by
 rcases h with h | ⟨id,g,cells,Fs,h1,h⟩
 ·exact .inl h
 ·exact .inr ⟨id,g,cells,Fs,h1,⟨h.ob,h.len,⟨h.own,h.lt⟩,fun k i hk hi=>⟨⟨(h.sub k i hk hi).1,(h.sub k i hk hi).2.2⟩,(h.sub k i hk hi).2⟩,h.dis,h.el⟩⟩

theorem FRow.view {P':Hp→List CV→α→Prop} (h:FRow P sz X w xs F) (hP:∀ cs x G,x∈xs→P X cs x G→P' X cs x):Row P' sz X w xs:=by
 rcases h with⟨rfl,rfl⟩ | ⟨id,g,cells,Fs,rfl,h⟩
 ·exact Row.ns
 ·obtain⟨m,h1,h2⟩:=h.len
  have hm:xs.length * sz≤m * sz:=Nat.mul_le_mul_right _ h2
  refine⟨(List.range xs.length).map (chk cells sz),.inr ⟨id,g,0,_,rfl,h.ob,rfl,by simp only;omega,?_⟩,by simp,fun k cs x a b=>?_⟩
  ·rw[chks_flat _ _ _ (by omega),List.drop_zero]
  ·have hk:=(List.getElem?_eq_some_iff.1 b).1
   rw[List.getElem?_map,List.getElem?_range hk]at a
   simp at a
   subst a
   have:=List.getElem?_eq_getElem hk
   rw[this]at b
   injection b with b
   subst b
   exact⟨chk_len (h.fit hk),hP _ _ _ (List.getElem_mem hk) (h.el k hk)⟩

theorem FRow.snoc (hP:Stab P) (h:FRow P sz X w xs F) (hb:xs.length≤BIG) (hs:sz≤8) (hs0:0<sz) {cs:List CV} {x:α} {G:Nat→Prop} (hc:cs.length=sz) (hp:∀ Z,Frm G X Z→P Z cs x G) (hG:∀ i,G i→¬ F i∧i<X.length) :
  ∃ i' g' Z,doApp X sz w 1 cs=some (.c (.sl i' g' 0 (xs.length+1)),Z)∧FRow P sz Z (.sl i' g' 0 (xs.length+1)) (xs++[x]) (fun i=>F i∨G i∨(i=X.length∧i<Z.length))∧Frm (fun i=>¬ F i) X Z∧X.length≤Z.length:=by
 rcases h with⟨rfl,rfl⟩ | ⟨id,g,cells,Fs,rfl,h⟩
 ·refine⟨X.length,0,X++[⟨cs,0,true,sz⟩],?_,?_,Frm.app _ _ _,by simp⟩
  ·simp[doApp,fresh,hc,LIM];omega
  ·refine .inr ⟨X.length,0,cs,fun _=>G,rfl,by simp,⟨1,by simp[hc],by simp⟩,.inr (.inr ⟨rfl,by simp⟩),fun k i _ hi=>⟨.inr (.inl hi),?_,?_⟩,fun a b i ha hb hab=>?_,fun k hk=>?_⟩
   ·have:=(hG i hi).2;omega
   ·have:=(hG i hi).2;simp;omega
   ·simp at ha hb;omega
   ·have:k=0:=by simpa using hk
    subst this
    have e:chk cs sz 0=cs:=by unfold chk;simp[← hc]
    rw[e]
    exact hp _ (Frm.app _ _ _)
 ·obtain⟨m,h1,h2⟩:=h.len
  by_cases hm:xs.length=m
  ·-- grown
   have hl:xs.length * sz=cells.length:=by rw[h1,hm]
   have hbz:m * sz≤BIG * 8:=Nat.mul_le_mul (by omega) hs
   have hZ:∀ G:Nat→Prop,¬ G id→Frm G X (X.set id ⟨cells++cs,g+1,true,sz⟩):=fun G hG=>Frm.set X _ hG
   refine⟨id,g+1,X.set id ⟨cells++cs,g+1,true,sz⟩,?_,?_,hZ _ (fun hn=>hn h.own),by simp⟩
   ·have e1:¬ (xs.length * sz+cs.length≤cells.length):=by omega
    have e2:xs.length * sz=cells.length∧cells.length+cs.length≤LIM:=⟨hl,by simp only[BIG]at hbz;simp only[LIM];omega⟩
    simp only[doApp,h.ob,Option.bind_some]
    rw[if_pos (by simp),if_neg e1,if_pos e2]
   ·refine .inr ⟨id,g+1,cells++cs,fun k i=>if k<xs.length then Fs k i else G i,by simp,by rw[rdOb_set_self h.lt];simp,⟨m+1,by rw[List.length_append,h1,hc,Nat.succ_mul],by simp;omega⟩,Or.inl h.own,fun k i hk hi=>?_,fun a b i ha hb hab h3 h4=>?_,fun k hk=>?_⟩
    ·by_cases e:k<xs.length
     ·rw[if_pos e]at hi
      obtain⟨q1,q2,q3⟩:=h.sub k i e hi
      exact⟨.inl q1,q2,by simpa using q3⟩
     ·rw[if_neg e]at hi
      obtain⟨q2,q3⟩:=hG i hi
      exact⟨.inr (.inl hi),fun e=>q2 (e▸h.own),by simpa using q3⟩
    ·simp at ha hb
     by_cases e:a<xs.length
     ·rw[if_pos e]at h3
      by_cases e2:b<xs.length
      ·rw[if_pos e2]at h4;exact h.dis a b i e e2 hab h3 h4
      ·rw[if_neg e2]at h4;exact (hG i h4).1 (h.sub a i e h3).1
     ·rw[if_neg e]at h3
      by_cases e2:b<xs.length
      ·rw[if_pos e2]at h4;exact (hG i h3).1 (h.sub b i e2 h4).1
      ·omega
    ·by_cases e:k<xs.length
     ·rw[chk_app (h.fit e),List.getElem_append_left e]
      simp only[if_pos e]
      exact hP.st (hZ _ fun hn=>(h.sub k id e hn).2.1 rfl) (h.el k e)
     ·have e2:k=xs.length:=by simp at hk;omega
      subst e2
      rw[chk_last hl.symm hc]
      simp only[Nat.lt_irrefl,if_false]
      rw[List.getElem_append_right (Nat.le_refl _)]
      simpa using hp _ (hZ _ fun hn=>(hG id hn).1 h.own)
  ·-- there was room
   have hmm:(xs.length+1) * sz≤m * sz:=Nat.mul_le_mul_right _ (by omega)
   rw[Nat.succ_mul]at hmm
   have hle:xs.length * sz+cs.length≤cells.length:=by omega
   have hZ:∀ G:Nat→Prop,¬ G id→Frm G X (X.set id ⟨putAt cells (xs.length * sz) cs,g,true,sz⟩):=fun G hG=>Frm.set X _ hG
   refine⟨id,g,X.set id ⟨putAt cells (xs.length * sz) cs,g,true,sz⟩,?_,?_,hZ _ (fun hn=>hn h.own),by simp⟩
   ·simp only[doApp,h.ob,Option.bind_some]
    rw[if_pos (by simp),if_pos hle]
   ·have hp0:putAt cells (xs.length * sz) cs=putAt cells (xs.length * sz+0) cs:=rfl
    refine .inr ⟨id,g,putAt cells (xs.length * sz) cs,fun k i=>if k<xs.length then Fs k i else G i,by simp,by rw[rdOb_set_self h.lt];simp,⟨m,by rw[putAt_length hle];exact h1,by simp;omega⟩,Or.inl h.own,fun k i hk hi=>?_,fun a b i ha hb hab h3 h4=>?_,fun k hk=>?_⟩
    ·by_cases e:k<xs.length
     ·rw[if_pos e]at hi
      obtain⟨q1,q2,q3⟩:=h.sub k i e hi
      exact⟨.inl q1,q2,by simpa using q3⟩
     ·rw[if_neg e]at hi
      obtain⟨q2,q3⟩:=hG i hi
      exact⟨.inr (.inl hi),fun e=>q2 (e▸h.own),by simpa using q3⟩
    ·simp at ha hb
     by_cases e:a<xs.length
     ·rw[if_pos e]at h3
      by_cases e2:b<xs.length
      ·rw[if_pos e2]at h4;exact h.dis a b i e e2 hab h3 h4
      ·rw[if_neg e2]at h4;exact (hG i h4).1 (h.sub a i e h3).1
     ·rw[if_neg e]at h3
      by_cases e2:b<xs.length
      ·rw[if_pos e2]at h4;exact (hG i h3).1 (h.sub b i e2 h4).1
      ·omega
    ·by_cases e:k<xs.length
     ·rw[hp0,chk_other (by omega) (by omega) (by omega),List.getElem_append_left e]
      simp only[if_pos e]
      exact hP.st (hZ _ fun hn=>(h.sub k id e hn).2.1 rfl) (h.el k e)
     ·have e2:k=xs.length:=by simp at hk;omega
      subst e2
      have e3:putAt (chk cells sz xs.length) 0 cs=cs:=by
       unfold putAt
       rw[List.drop_eq_nil_of_le (by rw[chk_len (by omega)];omega)];simp
      rw[hp0,chk_put (by omega) (by omega),e3]
      simp only[Nat.lt_irrefl,if_false]
      rw[List.getElem_append_right (Nat.le_refl _)]
      simpa using hp _ (hZ _ fun hn=>(hG id hn).1 h.own)

end


def armF (_:Hp) (cs:List CV) (a:ArmR) (_:Nat→Prop):Prop:=cs=armC a

def insF (_:Hp) (cs:List CV) (x:InsR) (_:Nat→Prop):Prop:=cs=insC x

def phiF (X:Hp) (cs:List CV) (p:PhiR) (G:Nat→Prop):Prop:=∃ z,cs=[.i p.d,z]∧FRow armF 2 X z p.arms G∧p.arms.length≤BIG

def blkF (X:Hp) (cs:List CV) (b:BlkR) (G:Nat→Prop):Prop:=
 ∃ (z u:CV) (Gz Gu:Nat→Prop),cs=z :: u :: trmC b.term∧FRow phiF 2 X z b.phis Gz∧FRow insF 5 X u b.list Gu∧(∀ i,Gz i→G i∧¬ Gu i)∧(∀ i,Gu i→G i)∧b.phis.length≤BIG∧b.list.length≤BIG

theorem armF_st:Stab armF:=⟨fun _ h=>h⟩

theorem insF_st:Stab insF:=⟨fun _ h=>h⟩

theorem phiF_st:Stab phiF:=by
 constructor
 intro X Y cs p G hf h
 obtain⟨z,h1,h2,h3⟩:=h
 exact⟨z,h1,h2.fr armF_st hf,h3⟩

theorem blkF_st:Stab blkF:=by
 constructor
 intro X Y cs p G hf h
 obtain⟨z,u,Gz,Gu,h1,h2,h3,h4,h5,h6⟩:=h
 exact⟨z,u,Gz,Gu,h1,h2.fr phiF_st (hf.mono fun i hi=>(h4 i hi).1),h3.fr insF_st (hf.mono h5),h4,h5,h6⟩

abbrev Tree (S:Nat→Prop) (X:Hp) (v:CV) (bs:List BlkR):Prop:=FRow blkF 6 X v bs S

theorem phiF.p {X:Hp} {cs:List CV} {p:PhiR} {G:Nat→Prop} (h:phiF X cs p G):phiP BIG X cs p:=by
 obtain⟨z,h1,h2,h3⟩:=h
 exact⟨z,h1,h2.view fun _ _ _ _ h=>h,h3⟩

theorem blkF.p {X:Hp} {cs:List CV} {b:BlkR} {G:Nat→Prop} (h:blkF X cs b G):blkP BIG X cs b:=by
 obtain⟨z,u,Gz,Gu,h1,h2,h3,h4,h5,h6,h7⟩:=h
 exact⟨z,u,h1,h2.view fun _ _ _ _ h=>phiF.p h,h3.view fun _ _ _ _ h=>h,h6,h7⟩

theorem Tree.blocks {S:Nat→Prop} {X:Hp} {v:CV} {bs:List BlkR} (h:Tree S X v bs):Blocks X v bs:=FRow.view h fun _ _ _ _ h=>blkF.p h

theorem Tree.at_ {S:Nat→Prop} {X:Hp} {v:CV} {bs:List BlkR} (h:Tree S X v bs) {b:Nat} (hb:b<bs.length) :
  ∃ id g cells Fs z u Gz Gu,v=.sl id g 0 bs.length∧FPc blkF 6 X id g cells bs S Fs∧chk cells 6 b=z :: u :: trmC bs[b].term∧FRow phiF 2 X z bs[b].phis Gz∧FRow insF 5 X u bs[b].list Gu ∧
   (∀ i,Gz i→Fs b i∧¬ Gu i)∧(∀ i,Gu i→Fs b i)∧bs[b].phis.length≤BIG∧bs[b].list.length≤BIG:=by
 obtain⟨id,g,cells,Fs,rfl,hc⟩:=FRow.open h hb
 clear h
 obtain⟨z,u,Gz,Gu,h1,h2,h3,h4,h5,h6,h7⟩:=hc.el b hb
 exact⟨id,g,cells,Fs,z,u,Gz,Gu,rfl,hc,h1,h2,h3,h4,h5,h6,h7⟩
section

variable {α:Type} {P:Hp→List CV→α→(Nat→Prop)→Prop} {sz:Nat} {X:Hp} {F:Nat→Prop} {w:CV} {ys r:List α} {x:α} {i:Nat}

theorem mid_get (ys r:List α) (x:α):(ys++x :: r)[ys.length]? = some x:=by rw[List.getElem?_append_right (Nat.le_refl _),Nat.sub_self];rfl

theorem mid_set (ys r:List α) (x y:α):(ys++x :: r).set ys.length y=ys++y :: r:=by rw[List.set_append];simp

theorem mid_at (ys r:List α) (x:α) (h:ys.length<(ys++x :: r).length):(ys++x :: r)[ys.length]=x:=by
 have:=mid_get ys r x
 rw[List.getElem?_eq_getElem h]at this
 injection this

theorem FRow.fieldS (hP:Stab P) (h:FRow P sz X w (ys++x :: r) F) (hi:ys.length=i) (j:Nat) (hj:j<sz) (c:CV) (x':α) (hp:∀ Z cs G,P Z cs x G→P Z (putAt cs j [c]) x' G) :
  ∃ id g cells Z,idxOf sz w (i:Int)=some (.p id g (i * sz))∧rdOb X id g=some ⟨cells,g,true,sz⟩∧i * sz+j+1≤cells.length∧X.set id ⟨putAt cells (i * sz+j) [c],g,true,sz⟩=Z∧FRow P sz Z w (ys++x' :: r) F∧Frm (fun i=>¬ F i) X Z∧Z.length=X.length:=by
 subst hi
 have hk:ys.length<(ys++x :: r).length:=by simp
 obtain⟨id,g,cells,Z,h1,h2,h3,h4,h5,h6,h7⟩:=h.field hP hk j hj c x' (by rw[mid_at];exact hp)
 rw[mid_set]at h5
 exact⟨id,g,cells,Z,h1,h2,h3,h4,h5,h6,h7⟩

theorem FRow.nestS (hP:Stab P) (h:FRow P sz X w (ys++x :: r) F) (hi:ys.length=i) :
  ∃ id g cs,∃ G:Nat→Prop,idxOf sz w (i:Int)=some (.p id g (i * sz))∧cs.length=sz∧(∀ j c,cs[j]? = some c→rdC X id g (i * sz+j)=some c)∧P X cs x G∧(∀ i,G i→F i∧i≠id) ∧
   ∀ Y x',X.length≤Y.length→Frm (fun i=>F i∧¬ G i) X Y→P Y cs x' G→FRow P sz Y w (ys++x' :: r) F:=by
 subst hi
 have hk:ys.length<(ys++x :: r).length:=by simp
 obtain⟨id,g,cells,Fs,rfl,hc⟩:=h.open hk
 clear h
 have hel:=hc.el _ hk
 rw[mid_at]at hel
 refine⟨id,g,_,Fs ys.length,idx_sl hk,chk_len (hc.fit hk),fun j c hjc=>?_,hel,fun i hi=>⟨(hc.sub _ i hk hi).1,(hc.sub _ i hk hi).2.1⟩,fun Y x' hl hf hp=>?_⟩
 ·have hj:j<sz:=by
   have:=(List.getElem?_eq_some_iff.1 hjc).1
   rwa [chk_len (hc.fit hk)]at this
  rw[hc.c hj];exact hjc
 ·have:=(hc.nest hP hk hl hf hp).row
  rw[mid_set]at this
  simpa using this

theorem FRow.readS (h:FRow P sz X w (ys++x :: r) F) (hi:ys.length=i):∃ id g cs,∃ G:Nat→Prop,idxOf sz w (i:Int)=some (.p id g (i * sz))∧rdN X id g (i * sz) sz=some cs∧P X cs x G∧id<X.length:=by
 subst hi
 have hk:ys.length<(ys++x :: r).length:=by simp
 obtain⟨id,g,cells,Fs,rfl,hc⟩:=h.open hk
 have hel:=hc.el _ hk
 rw[mid_at]at hel
 exact⟨id,g,_,_,idx_sl hk,hc.nn hk,hel,hc.lt⟩

theorem FRow.wholeS (hP:Stab P) (h:FRow P sz X w (ys++x :: r) F) (hi:ys.length=i) {cs:List CV} {x':α} (hc:cs.length=sz) (hp:∀ Z,P Z cs x' (fun _=>False)) :
  ∃ id g cells Z,idxOf sz w (i:Int)=some (.p id g (i * sz))∧rdOb X id g=some ⟨cells,g,true,sz⟩∧i * sz+sz≤cells.length∧X.set id ⟨putAt cells (i * sz) cs,g,true,sz⟩=Z∧FRow P sz Z w (ys++x' :: r) F∧Frm (fun i=>¬ F i) X Z∧Z.length=X.length:=by
 subst hi
 have hk:ys.length<(ys++x :: r).length:=by simp
 obtain⟨id,g,cells,Fs,rfl,hc2⟩:=h.open hk
 clear h
 have hset:∀ G:Nat→Prop,¬ G id→Frm G X (X.set id ⟨putAt cells (ys.length * sz) cs,g,true,sz⟩):=fun G hG=>Frm.set X _ hG
 refine⟨id,g,cells,_,idx_sl hk,hc2.ob,hc2.fit hk,rfl,?_,hset _ (fun hn=>hn hc2.own),by simp⟩
 have e0:∀ q:List CV,q.length=sz→putAt q 0 cs=cs:=fun q hq=>by
  unfold putAt
  rw[List.drop_eq_nil_of_le (by omega)];simp
 have:=(hc2.put (Y:=X.set id ⟨putAt cells (ys.length * sz) cs,g,true,sz⟩) (x':=x') (G':=fun _=>False) hP hk (j:=0) (ys:=cs) (by omega) (by rw[Nat.add_zero,rdOb_set_self hc2.lt];simp) (hset _ fun hn=>hn.2.1 rfl)
  (fun i hi=>hi.elim) (by rw[e0 _ (chk_len (hc2.fit hk))];exact hp _)).row
 rw[mid_set]at this
 simpa using this

theorem drop_mid {xs:List α} {i:Nat} (hi:i<xs.length):xs.drop i=xs[i] :: xs.drop (i+1):=List.drop_eq_getElem_cons hi

end
theorem flat_map_len {α:Type} {c:α→List CV} {sz:Nat} (hc:∀ x,(c x).length=sz) (xs:List α):(xs.map c).flatten.length=xs.length * sz:=by
 rw[flat_len (sz:=sz) (fun cs h=>by obtain⟨x,_,rfl⟩:=List.mem_map.1 h;exact hc x),List.length_map]

theorem chk_map {α:Type} {c:α→List CV} {sz:Nat} (hc:∀ x,(c x).length=sz) {xs:List α} {k:Nat} (hk:k<xs.length):chk (xs.map c).flatten sz k=c xs[k]:=by
 unfold chk
 rw[chunk (fun cs h=>by obtain⟨x,_,rfl⟩:=List.mem_map.1 h;exact hc x) (by simpa using hk)]
 simp

theorem FRow.leaf {α:Type} {P:Hp→List CV→α→(Nat→Prop)→Prop} {c:α→List CV} {sz:Nat} (hc:∀ x,(c x).length=sz) (hP:∀ X x G,P X (c x) x G) {X:Hp} {id g:Nat} {xs:List α} {F:Nat→Prop} (h:rdOb X id g=some ⟨(xs.map c).flatten,g,true,sz⟩) (hF:F id) :
  FRow P sz X (.sl id g 0 xs.length) xs F:=
 .inr ⟨id,g,_,fun _ _=>False,rfl,h,⟨xs.length,flat_map_len hc xs,Nat.le_refl _⟩,hF,fun k i _ h=>h.elim,fun a b i _ _ _ h=>h.elim,fun k hk=>by rw[chk_map hc hk];exact hP _ _ _⟩

theorem row_src {α:Type} {c:α→List CV} {sz:Nat} {H:Hp} {v:CV} {xs:List α} (h:Row (fun _ cs x=>cs=c x) sz H v xs):srcOf H sz v=some (xs.length,(xs.map c).flatten):=by
 obtain⟨css,h1,h2,h3⟩:=h
 have e:css=xs.map c:=by
  apply List.ext_getElem?
  intro k
  by_cases hk:k<xs.length
  ·have a:=List.getElem?_eq_getElem (show k<css.length by omega)
   have b:=List.getElem?_eq_getElem hk
   have:=(h3 k _ _ a b).2
   rw[a,List.getElem?_map,b,show css[k]=c xs[k] from this];rfl
  ·rw[List.getElem?_eq_none (by omega),List.getElem?_eq_none (by simp;omega)]
 subst e
 rcases h1 with⟨rfl,h4,h5⟩ | ⟨id,g,off,o,rfl,h4,h5,h6,h7⟩
 ·have:xs=[]:=List.length_eq_zero_iff.1 h4
  subst this;rfl
 ·simp[srcOf,h4,h6,h7]

theorem arms_srcF {H:Hp} {v:CV} {xs:List ArmR} (h:Arms H v xs):srcOf H 2 v=some (xs.length,(xs.map armC).flatten):=row_src h

theorem list_srcF {H:Hp} {v:CV} {xs:List InsR} (h:List5 H v xs):srcOf H 5 v=some (xs.length,(xs.map insC).flatten):=row_src h

theorem fillApp {H:Hp} {id sz n:Nat} {cells:List CV} (h:rdOb H id 0=some ⟨[],0,true,sz⟩) (hl:cells.length=n * sz) (hs:0<sz) (hb:n * sz≤LIM) :
  ∃ g,doApp H sz (.sl id 0 0 0) n cells=some (.c (.sl id g 0 n),H.set id ⟨cells,g,true,sz⟩):=by
 by_cases h0:0<n
 ·refine⟨1,?_⟩
  have hp:0<n * sz:=Nat.mul_pos h0 hs
  have:=app_own (X:=H) (o:=id) (g:=0) (n:=0) (sz:=sz) (m:=n) (cs:=[]) (xs:=cells) h (by simp) (by omega) (by simpa [hl] using hb)
  simpa using this
 ·have hn:n=0:=by omega
  subst hn
  have:cells=[]:=List.length_eq_zero_iff.1 (by simpa using hl)
  subst this
  exact⟨0,by simp[doApp,h,putAt]⟩

theorem armC_len (x:ArmR):(armC x).length=2:=rfl

theorem insC_len (x:InsR):(insC x).length=5:=rfl

theorem flat_map_flat {α:Type} {c:α→List CV} (hc:∀ x,(c x).all flatC=true) (xs:List α):((xs.map c).flatten).all flatC=true:=by
 rw[List.all_eq_true]
 intro y hy
 obtain⟨cs,h1,h2⟩:=List.mem_flatten.1 hy
 obtain⟨x,_,rfl⟩:=List.mem_map.1 h1
 exact List.all_eq_true.1 (hc x) y h2

theorem big_lim {n sz:Nat} (hb:n≤BIG) (hs:sz≤8):n * sz≤LIM:=by
 have:=Nat.mul_le_mul hb hs
 simp only[BIG]at this
 simp only[LIM];omega

theorem cloneIns {H:Hp} {v:CV} {xs:List InsR} (hv:List5 H v xs) (hb:xs.length≤BIG) :
  ∃ w L,FRow insF 5 (H++L) w xs (·=H.length)∧∀ k:IV×Hp→Prop,CM 80 [.c v] H k=k (.c w,H++L):=by
 by_cases hn:v=.ns
 ·subst hn
  have hx:xs=[]:=List.length_eq_zero_iff.1 (by have:=hv.lenOf;simp[lenOf]at this;omega)
  subst hx
  refine⟨.ns,[],FRow.ns,fun k=>det (cw80 ?_) k⟩
  unfold vf80c
  simp
 ·obtain⟨id,gg,off,n,rfl⟩:∃ id gg off n,v=.sl id gg off n:=by
   obtain⟨css,h1,_⟩:=hv
   rcases h1 with⟨h,_⟩ | ⟨id,gg,off,o,h,_⟩
   ·exact absurd h hn
   ·exact⟨_,_,_,_,h⟩
  refine⟨.sl H.length 0 0 xs.length,[⟨(xs.map insC).flatten,0,true,5⟩],FRow.leaf insC_len (fun _ _ _=>rfl) (by simp) rfl,fun k=>det (cw80 ?_) k⟩
  unfold vf80c
  have hsrc:=list_srcF (hv.app [⟨[],0,true,5⟩])
  obtain⟨g,hg⟩:=fillApp (H:=H++[⟨[],0,true,5⟩]) (id:=H.length) (sz:=5) (n:=xs.length) (by simp) (flat_map_len insC_len xs) (by omega) (big_lim hb (by omega))
  simp[hsrc,hg]
  rw[gcRet_row ⟨_,rfl⟩ (Nat.le_refl _) (o:=⟨(xs.map insC).flatten,g,true,5⟩) (by simp) rfl (flat_map_flat (fun x=>rfl) xs)]

theorem cloneArm {H:Hp} {v:CV} {xs:List ArmR} (hv:Arms H v xs) (hb:xs.length≤BIG) :
  ∃ w L,FRow armF 2 (H++L) w xs (·=H.length)∧∀ k:IV×Hp→Prop,CM 81 [.c v] H k=k (.c w,H++L):=by
 by_cases hn:v=.ns
 ·subst hn
  have hx:xs=[]:=List.length_eq_zero_iff.1 (by have:=hv.lenOf;simp[lenOf]at this;omega)
  subst hx
  refine⟨.ns,[],FRow.ns,fun k=>det (cw81 ?_) k⟩
  unfold vf81c
  simp
 ·obtain⟨id,gg,off,n,rfl⟩:∃ id gg off n,v=.sl id gg off n:=by
   obtain⟨css,h1,_⟩:=hv
   rcases h1 with⟨h,_⟩ | ⟨id,gg,off,o,h,_⟩
   ·exact absurd h hn
   ·exact⟨_,_,_,_,h⟩
  refine⟨.sl H.length 0 0 xs.length,[⟨(xs.map armC).flatten,0,true,2⟩],FRow.leaf armC_len (fun _ _ _=>rfl) (by simp) rfl,fun k=>det (cw81 ?_) k⟩
  unfold vf81c
  have hsrc:=arms_srcF (hv.app [⟨[],0,true,2⟩])
  obtain⟨g,hg⟩:=fillApp (H:=H++[⟨[],0,true,2⟩]) (id:=H.length) (sz:=2) (n:=xs.length) (by simp) (flat_map_len armC_len xs) (by omega) (big_lim hb (by omega))
  simp[hsrc,hg]
  rw[gcRet_row ⟨_,rfl⟩ (Nat.le_refl _) (o:=⟨(xs.map armC).flatten,g,true,2⟩) (by simp) rfl (flat_map_flat (fun x=>rfl) xs)]
abbrev BOb (z u:CV) (t:TrmR):Ob:=⟨[z,u,.i t.kind,.i t.a,.i t.to,.i t.els],0,true,6⟩

set_option maxRecDepth 100000 in
theorem cloneIn {H X6:Hp} {o6:Nat} {wz u:CV} {ps:List PhiR} {t:TrmR} {e:Env} {Q:X×St→Prop} {x1 x2 x3 x5 x13 x14 x15:IV} (hp:Phis H wz ps) (hb:ps.length≤BIG) (hp6:Pre H X6) (ho:H.length≤o6) (h6:rdOb X6 o6 0=some (BOb .ns u t))
  (e1:Env.get e 1=x1) (e2:Env.get e 2=x2) (e3:Env.get e 3=x3) (e5:Env.get e 5=x5) (e13:Env.get e 13=x13) (e14:Env.get e 14=x14) (e15:Env.get e 15=x15) (e6:Env.get e 6=.c (.p o6 0 0)) (e26:Env.get e 26=.c wz) (e27:Env.get e 27=.c (.i ps.length)) (e28:Env.get e 28=.c (.i 0))
  (hQ:∀ (Y:Hp) (z:CV) (e':Env),X6.length≤Y.length→rdOb Y o6 0=some (BOb z u t)→FRow phiF 2 Y z ps (fun i=>X6.length≤i∧i<Y.length)→Frm (fun i=>i<X6.length∧i≠o6) X6 Y →
   Env.get e' 1=x1→Env.get e' 2=x2→Env.get e' 3=x3→Env.get e' 5=x5→Env.get e' 13=x13→Env.get e' 14=x14→Env.get e' 15=x15→Env.get e' 6=.c (.p o6 0 0)→Q (.exit 2,⟨e',Y⟩)) :
  loopD (exW CM [0,1,2,3,5,6,8,13,14,15,16,26,27,28,29] vf32b0) ⟨e,X6⟩ Q:=by
 obtain⟨I,hI⟩:∃ I:Nat→St→Prop,∀ j s,I j s↔(∃ z,X6.length≤s.h.length∧rdOb s.h o6 0=some (BOb z u t)∧FRow phiF 2 s.h z (ps.take j) (fun i=>X6.length≤i∧i<s.h.length)∧Frm (fun i=>i<X6.length∧i≠o6) X6 s.h ∧
   Env.get s.e 1=x1∧Env.get s.e 2=x2∧Env.get s.e 3=x3∧Env.get s.e 5=x5∧Env.get s.e 13=x13∧Env.get s.e 14=x14∧Env.get s.e 15=x15∧Env.get s.e 6=.c (.p o6 0 0)∧Env.get s.e 26=.c wz∧Env.get s.e 27=.c (.i ps.length)∧Env.get s.e 28=.c (.i j)):=⟨_,fun _ _=>Iff.rfl⟩
 have hl6:=rdOb_lt h6
 refine wp_for CM_mono ps.length I ((hI _ _).2 ⟨.ns,Nat.le_refl _,h6,FRow.ns,Frm.refl _ _,e1,e2,e3,e5,e13,e14,e15,e6,e26,e27,e28⟩) ?_ ?_
 ·rintro j ⟨e0,X7⟩ hj hIs
  obtain⟨z,hlX,hO,hR,hf,f1,f2,f3,f5,f13,f14,f15,f6,f26,f27,f28⟩:=(hI _ _).1 hIs
  simp only at hlX hO hR hf f1 f2 f3 f5 f13 f14 f15 f6 f26 f27 f28 ⊢
  have hp7:Pre H X7:=(hf.mono fun i (hi:i<H.length)=>by have:=hp6.le;omega).cut hp6
  obtain⟨p,hpp⟩:∃ p,ps[j]=p:=⟨_,rfl⟩
  obtain⟨id,g,off,wa,q1,q2,q3,qa,qb,_,_⟩:=Phis.get (Phis.pre hp7 hp) hj
  rw[hpp]at q2 q3 qa qb
  obtain⟨Y1,hY1⟩:∃ Y1,X7++[(⟨[.i p.d,wa],0,true,2⟩:Ob)]=Y1:=⟨_,rfl⟩
  have hp1:Pre X7 Y1:=⟨_,hY1.symm⟩
  have l1:Y1.length=X7.length+1:=by rw[← hY1];simp
  have n1:rdOb Y1 X7.length 0=some ⟨[.i p.d,wa],0,true,2⟩:=by rw[← hY1];simp
  have k1:=hp1.rdOb hO
  obtain⟨w8,L8,har,hcl⟩:=cloneArm (Arms.pre hp1 qa) qb
  obtain⟨Y2,hY2⟩:∃ Y2,Y1++L8=Y2:=⟨_,rfl⟩
  rw[hY2]at har
  have hp2:Pre Y1 Y2:=⟨_,hY2.symm⟩
  have l2:=hp2.le
  have n2:=hp2.rdOb n1
  have k2:=hp2.rdOb k1
  obtain⟨Y3,hY3⟩:∃ Y3,Y2++[(⟨[.i p.d,w8],0,true,2⟩:Ob)]=Y3:=⟨_,rfl⟩
  have hp3:Pre Y2 Y3:=⟨_,hY3.symm⟩
  have l3:Y3.length=Y2.length+1:=by rw[← hY3];simp
  have n3:rdOb Y3 Y2.length 0=some ⟨[.i p.d,w8],0,true,2⟩:=by rw[← hY3];simp
  have k3:=hp3.rdOb k2
  have hsrc:srcOf Y3 2 (.sl Y2.length 0 0 1)=some (1,[.i p.d,w8]):=by simp[srcOf,n3]
  have hR3:=hR.fr phiF_st (Frm.pre (hp1.trans (hp2.trans hp3)))
  obtain⟨iz,gz,Y4,happ,hR4,hf4,l4⟩:=hR3.snoc phiF_st (by rw[List.length_take];omega) (by omega) (by omega) (cs:=[.i p.d,w8]) (x:=p) (G:=fun i=>i=Y1.length) rfl
   (fun Z hZ=>⟨w8,rfl,har.fr armF_st ((Frm.pre hp3).trans hZ),qb⟩) (fun i hi=>by subst hi;omega)
  rw[List.length_take,Nat.min_eq_left (by omega)]at happ hR4
  have k4:rdOb Y4 o6 0=some (BOb z u t):=hf4.ob (by omega) k3
  obtain⟨Y5,hY5⟩:∃ Y5,Y4.set o6 (BOb (.sl iz gz 0 (j+1)) u t)=Y5:=⟨_,rfl⟩
  have l5:Y5.length=Y4.length:=by rw[← hY5];simp
  have k5:rdOb Y5 o6 0=some (BOb (.sl iz gz 0 (j+1)) u t):=by rw[← hY5,rdOb_set_self (rdOb_lt k4)];simp
  have hf5:∀ G:Nat→Prop,¬ G o6→Frm G Y4 Y5:=fun G hG=>by rw[← hY5];exact Frm.set _ _ hG
  unfold vf32b0
  rcases har.form with rfl | ⟨i8,g8,n8,rfl⟩
  all_goals simp[f1,f2,f3,f5,f13,f14,f15,f6,f26,f27,f28,hj,q1,q2.2.2,putAt,hY1,rdC_ob n1,rdC_ob k1,hcl,hY2,hY3,k1,k2,n1,n2,k3,k4,hsrc,happ,hY5,up1 hj hb]
  all_goals refine (hI _ _).2 ⟨.sl iz gz 0 (j+1),by simp only;omega,k5,?_,?_,by simp⟩
  any_goals
   rw[List.take_succ_eq_append_getElem hj,hpp]
   refine (hR4.fr phiF_st (hf5 _ (by omega))).mono fun i hi=>?_
   simp only
   omega
  all_goals
   refine hf.trans (((Frm.pre (hp1.trans (hp2.trans hp3))).trans (hf4.mono fun i hi=>?_)).trans (hf5 _ fun hn=>hn.2 rfl))
   omega
 ·rintro⟨e0,X7⟩ hIs
  obtain⟨z,hlX,hO,hR,hf,f1,f2,f3,f5,f13,f14,f15,f6,f26,f27,f28⟩:=(hI _ _).1 hIs
  simp only at hlX hO hR hf f1 f2 f3 f5 f13 f14 f15 f6 f26 f27 f28 ⊢
  rw[List.take_length]at hR
  unfold vf32b0
  simp[f1,f2,f3,f5,f13,f14,f15,f6,f26,f27,f28]
  exact hQ X7 z _ hlX hO hR hf (by simp) (by simp) (by simp) (by simp) (by simp) (by simp) (by simp) (by simp)

theorem pushBlk {X0 X X6 Y:Hp} {o3 o6 i:Nat} {w z u:CV} {m:Int} {b:BlkR} {bs:List BlkR} {Gu:Nat→Prop} (h3:o3<X0.length) (hT:Tree (fun j=>X0.length≤j∧j<X.length) X w bs) (hbs:bs.length=i) (hib:i≤BIG) (hO:rdOb X o3 0=some ⟨[w,.i m],0,true,2⟩) (hf:Frm (fun j=>j<o3) X0 X) (hlX:X0.length≤X.length)
  (hp6:Pre X X6) (ho6:X.length≤o6) (hu:FRow insF 5 X6 u b.list Gu) (hGu:∀ j,Gu j→X.length≤j∧j<X6.length∧j≠o6)
  (hlY:X6.length≤Y.length) (hY:rdOb Y o6 0=some (BOb z u b.term)) (hz:FRow phiF 2 Y z b.phis (fun j=>X6.length≤j∧j<Y.length)) (hfY:Frm (fun j=>j<X6.length∧j≠o6) X6 Y) (hb1:b.phis.length≤BIG) (hb2:b.list.length≤BIG) :
  ∃ i' g' Y1 Z Z2,Y++[BOb z u b.term]=Y1∧rdOb Y o3 0=some ⟨[w,.i m],0,true,2⟩∧srcOf Y1 6 (.sl Y.length 0 0 1)=some (1,[z,u,.i b.term.kind,.i b.term.a,.i b.term.to,.i b.term.els]) ∧
   doApp Y1 6 w 1 [z,u,.i b.term.kind,.i b.term.a,.i b.term.to,.i b.term.els]=some (.c (.sl i' g' 0 (i+1)),Z)∧rdOb Z o3 0=some ⟨[w,.i m],0,true,2⟩∧Z.set o3 ⟨[.sl i' g' 0 (i+1),.i m],0,true,2⟩=Z2 ∧
   rdOb Z2 o3 0=some ⟨[.sl i' g' 0 (i+1),.i m],0,true,2⟩∧Tree (fun j=>X0.length≤j∧j<Z2.length) Z2 (.sl i' g' 0 (i+1)) (bs++[b])∧Frm (fun j=>j<o3) X0 Z2∧X0.length≤Z2.length:=by
 obtain⟨Y1,hY1⟩:∃ Y1,Y++[BOb z u b.term]=Y1:=⟨_,rfl⟩
 have hp1:Pre Y Y1:=⟨_,hY1.symm⟩
 have l1:Y1.length=Y.length+1:=by rw[← hY1];simp
 have n1:rdOb Y1 Y.length 0=some (BOb z u b.term):=by rw[← hY1];simp
 have l6:=hp6.le
 have hXY:∀ G:Nat→Prop,(∀ j,G j→j<X.length)→Frm G X Y:=fun G hG=>(Frm.pre hp6).trans (hfY.mono fun j hj=>by have:=hG j hj;omega)
 have hOY:rdOb Y o3 0=some ⟨[w,.i m],0,true,2⟩:=(hXY (fun j=>j<X0.length) (fun j hj=>by omega)).ob h3 hO
 have hTY:=(hT.fr blkF_st (hXY _ fun j hj=>hj.2)).fr blkF_st (Frm.pre hp1)
 subst hbs
 have huY:FRow insF 5 Y1 u b.list Gu:=(hu.fr insF_st (hfY.mono fun j hj=>⟨(hGu j hj).2.1,(hGu j hj).2.2⟩)).fr insF_st (Frm.pre hp1)
 have hzY:=hz.fr phiF_st (Frm.pre hp1)
 obtain⟨i',g',Z,happ,hT4,hf4,l4⟩:=hTY.snoc blkF_st hib (by omega) (by omega) (cs:=[z,u,.i b.term.kind,.i b.term.a,.i b.term.to,.i b.term.els]) (x:=b) (G:=fun j=>X.length≤j∧j<Y.length) rfl
  (fun W hW=>⟨z,u,_,Gu,rfl,hzY.fr phiF_st (hW.mono fun j hj=>by omega),huY.fr insF_st (hW.mono fun j hj=>by have:=hGu j hj;omega),fun j hj=>⟨by omega,fun hg=>by have:=hGu j hg;omega⟩,fun j hj=>by have:=hGu j hj;omega,hb1,hb2⟩)
  (fun j hj=>by omega)
 have hO4:rdOb Z o3 0=some ⟨[w,.i m],0,true,2⟩:=hf4.ob (by omega) (hp1.rdOb hOY)
 refine⟨i',g',Y1,Z,_,hY1,hOY,by simp[srcOf,n1],happ,hO4,rfl,by rw[rdOb_set_self (rdOb_lt hO4)];simp,?_,?_,?_⟩
 ·refine (hT4.fr blkF_st (Frm.set _ _ (by omega))).mono fun j hj=>?_
  simp only[List.length_set]
  omega
 ·exact hf.trans ((hXY _ fun j hj=>by omega).trans ((Frm.pre hp1).trans ((hf4.mono fun j hj=>by omega).trans (Frm.set _ _ (by omega)))))
 ·simp only[List.length_set];omega

set_option maxRecDepth 100000 in
theorem implClone {H:Hp} {v:CV} {m:Int} {bs:List BlkR} (hv:Blocks H v bs) (hb:bs.length≤BIG) :
  CM 32 [.agg [v,.i m]] H fun r=>∃ w L,r=(.agg [w,.i m],H++L)∧Tree (fun i=>H.length≤i) (H++L) w bs:=by
 refine cw32 ?_
 unfold vf32c
 obtain⟨X0,hX0⟩:∃ X0,H++[(⟨[v,.i m],0,true,2⟩:Ob),⟨[.ns,.i 0],0,true,2⟩,⟨[.ns,.i m],0,true,2⟩]=X0:=⟨_,rfl⟩
 have hp0:Pre H X0:=⟨_,hX0.symm⟩
 have hl0:X0.length=H.length+3:=by rw[← hX0];simp
 have hB0:rdOb X0 H.length 0=some ⟨[v,.i m],0,true,2⟩:=by rw[← hX0];simp
 have hR0:rdOb X0 (H.length+1) 0=some ⟨[.ns,.i 0],0,true,2⟩:=by rw[← hX0];simp
 have hO0:rdOb X0 (H.length+2) 0=some ⟨[.ns,.i m],0,true,2⟩:=by rw[← hX0];simp
 have hv0:=Blocks.pre hp0 hv
 have hl:=hv0.lenOf
 simp[putAt,hX0,rdC_ob hB0,hl]
 obtain⟨I,hI⟩:∃ I:Nat→St→Prop,∀ i s,I i s↔(∃ w,rdOb s.h (H.length+2) 0=some ⟨[w,.i m],0,true,2⟩∧Tree (fun j=>X0.length≤j∧j<s.h.length) s.h w (bs.take i)∧Frm (fun j=>j<H.length+2) X0 s.h∧X0.length≤s.h.length ∧
   Env.get s.e 1=.c (.p H.length 0 0)∧Env.get s.e 2=.c (.p (H.length+1) 0 0)∧Env.get s.e 3=.c (.p (H.length+2) 0 0)∧Env.get s.e 13=.c v∧Env.get s.e 14=.c (.i bs.length)∧Env.get s.e 15=.c (.i i)):=⟨_,fun _ _=>Iff.rfl⟩
 refine wp_for CM_mono bs.length I ((hI _ _).2 ⟨.ns,hO0,FRow.ns,Frm.refl _ _,Nat.le_refl _,by simp⟩) ?_ ?_
 ·rintro i ⟨e,X⟩ hi hIs
  obtain⟨w,hO,hT,hf,hlX,e1,e2,e3,e13,e14,e15⟩:=(hI _ _).1 hIs
  simp only at hO hT hf hlX e1 e2 e3 e13 e14 e15 ⊢
  obtain⟨b,hbb⟩:∃ b,bs[i]=b:=⟨_,rfl⟩
  have hpX:Pre H X:=(hf.mono fun j (hj:j<H.length)=>by omega).cut hp0
  obtain⟨id,g,off,wz,wu,q1,q2,q3,qp,ql,qpl,qll,_,_⟩:=Blocks.get (Blocks.pre hpX hv) hi
  rw[hbb]at q2 q3 qp ql qpl qll
  obtain⟨X5,hX5⟩:∃ X5,X++[BOb wz wu b.term]=X5:=⟨_,rfl⟩
  have hl5:X5.length=X.length+1:=by rw[← hX5];simp
  have h5:rdOb X5 X.length 0=some (BOb wz wu b.term):=by rw[← hX5];simp
  have hp5:Pre X X5:=⟨_,hX5.symm⟩
  have ql5:=List5.pre hp5 ql
  obtain⟨u1,L1,hu1,hc1⟩:=cloneIns ql5 qll
  obtain⟨A1,hA1⟩:∃ A1,X5++L1=A1:=⟨_,rfl⟩
  rw[hA1]at hu1
  have pA1:Pre X5 A1:=⟨_,hA1.symm⟩
  obtain⟨A2,hA2⟩:∃ A2,A1++[BOb .ns .ns ⟨0,0,0,0⟩]=A2:=⟨_,rfl⟩
  have pA2:Pre A1 A2:=⟨_,hA2.symm⟩
  have lA2:A2.length=A1.length+1:=by rw[← hA2];simp
  have oA2:rdOb A2 A1.length 0=some (BOb .ns .ns ⟨0,0,0,0⟩):=by rw[← hA2];simp
  obtain⟨A3,hA3⟩:∃ A3,A2.set A1.length (BOb .ns u1 b.term)=A3:=⟨_,rfl⟩
  have lA3:A3.length=A2.length:=by rw[← hA3];simp
  have oA3:rdOb A3 A1.length 0=some (BOb .ns u1 b.term):=by rw[← hA3,rdOb_set_self (by omega)];simp
  have pXA:Pre X A3:=by rw[← hA3];exact ((hp5.trans pA1).trans pA2).set (by have:=(hp5.trans pA1).le;omega) _
  have bA2:rdOb A2 X.length 0=some (BOb wz wu b.term):=pA2.rdOb (pA1.rdOb h5)
  have bA3:rdOb A3 X.length 0=some (BOb wz wu b.term):=by rw[← hA3,rdOb_set_ne (by have:=pA1.le;omega)];exact pA2.rdOb (pA1.rdOb h5)
  have uA3:FRow insF 5 A3 u1 b.list (fun j=>j=X5.length∧j<A1.length):=by
   rw[← hA3]
   refine FRow.fr insF_st ?_ (Frm.set (G:=fun j=>j=X5.length∧j<A1.length) _ _ (by omega))
   refine FRow.fr insF_st ?_ (Frm.pre pA2)
   rcases hu1 with h | ⟨i1,g1,c1,F1,h1,h2⟩
   ·exact .inl h
   ·have hlt:=h2.lt
    have hown:i1=X5.length:=h2.own
    exact .inr ⟨i1,g1,c1,F1,h1,⟨h2.ob,h2.len,⟨hown,hlt⟩,fun k j hk hj=>⟨⟨(h2.sub k j hk hj).1,by have:=h2.sub k j hk hj;omega⟩,(h2.sub k j hk hj).2⟩,h2.dis,h2.el⟩⟩
  obtain⟨B1,hB1⟩:∃ B1,X5++[BOb .ns .ns ⟨0,0,0,0⟩]=B1:=⟨_,rfl⟩
  have pB1:Pre X5 B1:=⟨_,hB1.symm⟩
  have lB1:B1.length=X5.length+1:=by rw[← hB1];simp
  have oB1:rdOb B1 X5.length 0=some (BOb .ns .ns ⟨0,0,0,0⟩):=by rw[← hB1];simp
  obtain⟨u2,L2,hu2,hc2⟩:=cloneIns (List5.pre pB1 ql5) qll
  obtain⟨B2,hB2⟩:∃ B2,B1++L2=B2:=⟨_,rfl⟩
  rw[hB2]at hu2
  have pB2:Pre B1 B2:=⟨_,hB2.symm⟩
  have oB2:=pB2.rdOb oB1
  have lB2:=pB2.le
  obtain⟨B3,hB3⟩:∃ B3,B2.set X5.length (BOb .ns u2 b.term)=B3:=⟨_,rfl⟩
  have lB3:B3.length=B2.length:=by rw[← hB3];simp
  have oB3:rdOb B3 X5.length 0=some (BOb .ns u2 b.term):=by rw[← hB3,rdOb_set_self (by omega)];simp
  have pXB:Pre X B3:=by rw[← hB3];exact ((hp5.trans pB1).trans pB2).set (by omega) _
  have bB2:rdOb B2 X.length 0=some (BOb wz wu b.term):=pB2.rdOb (pB1.rdOb h5)
  have bB3:rdOb B3 X.length 0=some (BOb wz wu b.term):=by rw[← hB3,rdOb_set_ne (by omega)];exact bB2
  have uB3:FRow insF 5 B3 u2 b.list (fun j=>j=B1.length∧j<B2.length):=by
   rw[← hB3]
   refine FRow.fr insF_st ?_ (Frm.set (G:=fun j=>j=B1.length∧j<B2.length) _ _ (by omega))
   rcases hu2 with h | ⟨i1,g1,c1,F1,h1,h2⟩
   ·exact .inl h
   ·have hlt:=h2.lt
    have hown:i1=B1.length:=h2.own
    exact .inr ⟨i1,g1,c1,F1,h1,⟨h2.ob,h2.len,⟨hown,hlt⟩,fun k j hk hj=>⟨⟨(h2.sub k j hk hj).1,by have:=h2.sub k j hk hj;omega⟩,(h2.sub k j hk hj).2⟩,h2.dis,h2.el⟩⟩
  have h5A1:=pA1.rdOb h5
  have h5B1:=pB1.rdOb h5
  have lA1:=pA1.le
  have hti:(bs.take i).length=i:=by rw[List.length_take];omega
  have hsnoc:bs.take (i+1)=bs.take i++[b]:=by rw[List.take_succ_eq_append_getElem hi,hbb]
  unfold vf32b1
  rcases hu1.form with rfl | ⟨i1,g1,n1,rfl⟩<;>rcases hu2.form with rfl | ⟨i2,g2,n2,rfl⟩
  all_goals
   simp[vf32t0,e1,e2,e3,e13,e14,e15,hi,q1,q2.2.2.2.2.2.2.2.2.2.2,putAt,hX5,rdC_ob h5,rdN_ob h5,hc1,hc2,hA1,rdN_ob h5A1,h5,h5A1,hA2,bA2,oA2,hA3,hB1,h5B1,rdC_ob h5B1,hB2,bB2,rdN_ob bB2,oB2,hB3,rdC_ob bA3,rdC_ob bB3,qp.lenOf]
   refine⟨cloneIn qp qpl pXA (by omega) oA3 rfl rfl rfl rfl rfl rfl rfl rfl rfl rfl rfl ?_,cloneIn qp qpl pXB (by omega) oB3 rfl rfl rfl rfl rfl rfl rfl rfl rfl rfl rfl ?_⟩
   ·intro Y z e' hlY hY hz hfY f1 f2 f3 f5 f13 f14 f15 f6
    obtain⟨i',g',Y1,Z,Z2,a1,a2,a3,a4,a5,a6,a7,a8,a9,a10⟩:=pushBlk (by omega) hT hti (by omega) hO hf hlX pXA (by omega) uA3 (fun j hj=>by omega) hlY hY hz hfY qpl qll
    rw[← hsnoc]at a8
    simp[f1,f2,f3,f5,f13,f14,f15,f6,putAt,rdC_ob a2,rdN_ob hY,a1,a3,a4,a5,a6,up1 hi hb]
    exact (hI _ _).2 ⟨_,a7,a8,a9,a10,by simp[f1,f2,f3,f13,f14,f15]⟩
   ·intro Y z e' hlY hY hz hfY f1 f2 f3 f5 f13 f14 f15 f6
    obtain⟨i',g',Y1,Z,Z2,a1,a2,a3,a4,a5,a6,a7,a8,a9,a10⟩:=pushBlk (by omega) hT hti (by omega) hO hf hlX pXB (by omega) uB3 (fun j hj=>by omega) hlY hY hz hfY qpl qll
    rw[← hsnoc]at a8
    simp[f1,f2,f3,f5,f13,f14,f15,f6,putAt,rdC_ob a2,rdN_ob hY,a1,a3,a4,a5,a6,up1 hi hb]
    exact (hI _ _).2 ⟨_,a7,a8,a9,a10,by simp[f1,f2,f3,f13,f14,f15]⟩
 ·rintro⟨e,X⟩ hIs
  obtain⟨w,hO,hT,hf,hlX,e1,e2,e3,e13,e14,e15⟩:=(hI _ _).1 hIs
  simp only at hO hT hf hlX e1 e2 e3 e13 e14 e15 ⊢
  rw[List.take_length]at hT
  have hpX:Pre H X:=(hf.mono fun j (hj:j<H.length)=>by omega).cut hp0
  have hRX:rdOb X (H.length+1) 0=some ⟨[.ns,.i 0],0,true,2⟩:=hf.ob (by omega) hR0
  obtain⟨X2,hX2⟩:∃ X2,X.set (H.length+1) ⟨[w,.i m],0,true,2⟩=X2:=⟨_,rfl⟩
  have hR2:rdOb X2 (H.length+1) 0=some ⟨[w,.i m],0,true,2⟩:=by rw[← hX2,rdOb_set_self (rdOb_lt hRX)];simp
  have hp2:Pre H X2:=by rw[← hX2];exact hpX.set (by omega) _
  have hT2:Tree (fun j=>H.length≤j) X2 w bs:=by
   rw[← hX2]
   exact (hT.fr blkF_st (Frm.set _ _ (by omega))).mono fun j hj=>by omega
  unfold vf32b1
  rcases hT.form with rfl | ⟨i',g',n',rfl⟩
  ·simp[e1,e2,e3,e13,e14,e15,rdN_ob hO,hRX,putAt,hX2,rdN_ob hR2]
   have hbs:bs=[]:=by
    rcases hT with⟨_,h⟩ | ⟨_,_,_,_,h,_⟩
    ·exact h
    ·cases h
   rw[show gcRet H (.agg [.ns,.i m]) X2=(.agg [.ns,.i m],H) from gcRet_flat hp2 rfl]
   exact⟨.ns,[],by simp,.inl ⟨rfl,hbs⟩⟩
  ·simp[e1,e2,e3,e13,e14,e15,rdN_ob hO,hRX,putAt,hX2,rdN_ob hR2]
   rw[gc_agg (by simp[flatC])]
   obtain⟨L,rfl⟩:=hp2
   exact⟨_,L,rfl,hT2⟩
theorem rdC_to {X Y:Hp} (hp:Pre X Y) {id g off:Nat} {c:CV} (h:rdC X id g off=some c):rdC Y id g off=some c:=by
 unfold rdC at h ⊢
 cases ho:rdOb X id g with
 | none=>simp[ho]at h
 | some o=>rw[hp.rdOb ho];rw[ho]at h;exact h

theorem rdN_to {X Y:Hp} (hp:Pre X Y) {id g off n:Nat} {c:List CV} (h:rdN X id g off n=some c):rdN Y id g off n=some c:=by
 unfold rdN at h ⊢
 cases ho:rdOb X id g with
 | none=>simp[ho]at h
 | some o=>rw[hp.rdOb ho];rw[ho]at h;exact h

theorem rdOb_of_rdC {X:Hp} {id g off:Nat} {c:CV} (h:rdC X id g off=some c):∃ o,rdOb X id g=some o:=by
 unfold rdC at h
 cases ho:rdOb X id g with
 | none=>simp[ho]at h
 | some o=>exact⟨o,rfl⟩

set_option maxRecDepth 100000 in
theorem copyIn {B X6:Hp} {o6 bf i id g off:Nat} {v wz u:CV} {m:Int} {ps:List PhiR} {t:TrmR} {e:Env} {Q:X×St→Prop} {x2 x3:IV} (hp:Phis B wz ps) (hb:ps.length≤BIG) (hp6:Pre B X6) (ho:B.length≤o6) (h6:rdOb X6 o6 0=some (BOb .ns u t))
  (hBf:rdOb B bf 0=some ⟨[v,.i m],0,true,2⟩) (hix:idxOf 6 v (i:Int)=some (.p id g off)) (hwz:rdC B id g off=some wz)
  (e1:Env.get e 1=.c (.p bf 0 0)) (e2:Env.get e 2=x2) (e3:Env.get e 3=x3) (e4:Env.get e 4=.c (.i i)) (e5:Env.get e 5=.c (.p o6 0 0)) (e6:Env.get e 6=.c (.i 0))
  (hQ:∀ (Y:Hp) (z:CV) (e':Env),X6.length≤Y.length→rdOb Y o6 0=some (BOb z u t)→FRow phiF 2 Y z ps (fun i=>X6.length≤i∧i<Y.length)→Frm (fun i=>i<X6.length∧i≠o6) X6 Y →
   Env.get e' 1=.c (.p bf 0 0)→Env.get e' 2=x2→Env.get e' 3=x3→Env.get e' 4=.c (.i i)→Env.get e' 5=.c (.p o6 0 0)→Q (.exit 2,⟨e',Y⟩)) :
  loopD (exW CM [0,1,2,3,4,5,6,7,15,41] vf42b0) ⟨e,X6⟩ Q:=by
 obtain⟨I,hI⟩:∃ I:Nat→St→Prop,∀ j s,I j s↔(∃ z,X6.length≤s.h.length∧rdOb s.h o6 0=some (BOb z u t)∧FRow phiF 2 s.h z (ps.take j) (fun i=>X6.length≤i∧i<s.h.length)∧Frm (fun i=>i<X6.length∧i≠o6) X6 s.h ∧
   Env.get s.e 1=.c (.p bf 0 0)∧Env.get s.e 2=x2∧Env.get s.e 3=x3∧Env.get s.e 4=.c (.i i)∧Env.get s.e 5=.c (.p o6 0 0)∧Env.get s.e 6=.c (.i j)):=⟨_,fun _ _=>Iff.rfl⟩
 have hl6:=rdOb_lt h6
 obtain⟨oz,hoz⟩:=rdOb_of_rdC hwz
 refine wp_for CM_mono ps.length I ((hI _ _).2 ⟨.ns,Nat.le_refl _,h6,FRow.ns,Frm.refl _ _,e1,e2,e3,e4,e5,e6⟩) ?_ ?_
 ·rintro j ⟨e0,X7⟩ hj hIs
  obtain⟨z,hlX,hO,hR,hf,f1,f2,f3,f4,f5,f6⟩:=(hI _ _).1 hIs
  simp only at hlX hO hR hf f1 f2 f3 f4 f5 f6 ⊢
  have hp7:Pre B X7:=(hf.mono fun i (hi:i<B.length)=>by have:=hp6.le;omega).cut hp6
  have hwz7:=rdC_to hp7 hwz
  have hBf7:=hp7.rdOb hBf
  have hoz7:=hp7.rdOb hoz
  obtain⟨p,hpp⟩:∃ p,ps[j]=p:=⟨_,rfl⟩
  have hpX:=Phis.pre hp7 hp
  have hlz:=hpX.lenOf
  obtain⟨id2,g2,off2,wa,q1,q2,q3,qa,qb,_,_⟩:=Phis.get hpX hj
  rw[hpp]at q2 q3 qa qb
  obtain⟨Y1,hY1⟩:∃ Y1,X7++[(⟨[.i p.d,wa],0,true,2⟩:Ob)]=Y1:=⟨_,rfl⟩
  have hp1:Pre X7 Y1:=⟨_,hY1.symm⟩
  have l1:Y1.length=X7.length+1:=by rw[← hY1];simp
  have n1:rdOb Y1 X7.length 0=some ⟨[.i p.d,wa],0,true,2⟩:=by rw[← hY1];simp
  have k1:=hp1.rdOb hO
  obtain⟨Y2,hY2⟩:∃ Y2,Y1++[(⟨[],0,true,2⟩:Ob)]=Y2:=⟨_,rfl⟩
  have hp2:Pre Y1 Y2:=⟨_,hY2.symm⟩
  have l2:Y2.length=Y1.length+1:=by rw[← hY2];simp
  have n2:=hp2.rdOb n1
  have k2:=hp2.rdOb k1
  have m2:rdOb Y2 Y1.length 0=some ⟨[],0,true,2⟩:=by rw[← hY2];simp
  have hsrcA:=arms_srcF (Arms.pre (hp1.trans hp2) qa)
  obtain⟨ga,hga⟩:=fillApp (n:=p.arms.length) m2 (flat_map_len armC_len p.arms) (by omega) (big_lim qb (by omega))
  obtain⟨Y3,hY3⟩:∃ Y3,Y2.set Y1.length ⟨(p.arms.map armC).flatten,ga,true,2⟩=Y3:=⟨_,rfl⟩
  have l3:Y3.length=Y2.length:=by rw[← hY3];simp
  have hf23:∀ G:Nat→Prop,¬ G Y1.length→Frm G Y2 Y3:=fun G hG=>by rw[← hY3];exact Frm.set _ _ hG
  have n3:rdOb Y3 X7.length 0=some ⟨[.i p.d,wa],0,true,2⟩:=(hf23 (fun i=>i=X7.length) (by omega)).ob rfl n2
  have k3:rdOb Y3 o6 0=some (BOb z u t):=(hf23 (fun i=>i=o6) (by have:=rdOb_lt hO;omega)).ob rfl k2
  have m3:rdOb Y3 Y1.length ga=some ⟨(p.arms.map armC).flatten,ga,true,2⟩:=by rw[← hY3,rdOb_set_self (rdOb_lt m2)];simp
  have har:FRow armF 2 Y3 (.sl Y1.length ga 0 p.arms.length) p.arms (fun i=>i=Y1.length):=FRow.leaf armC_len (fun _ _ _=>rfl) m3 rfl
  obtain⟨Y4,hY4⟩:∃ Y4,Y3++[(⟨[.i p.d,.sl Y1.length ga 0 p.arms.length],0,true,2⟩:Ob)]=Y4:=⟨_,rfl⟩
  have hp4:Pre Y3 Y4:=⟨_,hY4.symm⟩
  have l4:Y4.length=Y3.length+1:=by rw[← hY4];simp
  have n4:rdOb Y4 Y3.length 0=some ⟨[.i p.d,.sl Y1.length ga 0 p.arms.length],0,true,2⟩:=by rw[← hY4];simp
  have k4:=hp4.rdOb k3
  have hsrc:srcOf Y4 2 (.sl Y3.length 0 0 1)=some (1,[.i p.d,.sl Y1.length ga 0 p.arms.length]):=by simp[srcOf,n4]
  have h74:∀ G:Nat→Prop,¬ G Y1.length→Frm G X7 Y4:=fun G hG=>(Frm.pre (hp1.trans hp2)).trans ((hf23 G hG).trans (Frm.pre hp4))
  have hR4:=hR.fr phiF_st (h74 _ (by omega))
  obtain⟨iz,gz,Y5,happ,hR5,hf5,l5⟩:=hR4.snoc phiF_st (by rw[List.length_take];omega) (by omega) (by omega) (cs:=[.i p.d,.sl Y1.length ga 0 p.arms.length]) (x:=p) (G:=fun i=>i=Y1.length) rfl
   (fun Z hZ=>⟨_,rfl,har.fr armF_st ((Frm.pre hp4).trans hZ),qb⟩) (fun i hi=>by subst hi;omega)
  rw[List.length_take,Nat.min_eq_left (by omega)]at happ hR5
  have k5:rdOb Y5 o6 0=some (BOb z u t):=hf5.ob (by omega) k4
  obtain⟨Y6,hY6⟩:∃ Y6,Y5.set o6 (BOb (.sl iz gz 0 (j+1)) u t)=Y6:=⟨_,rfl⟩
  have l6:Y6.length=Y5.length:=by rw[← hY6];simp
  have k6:rdOb Y6 o6 0=some (BOb (.sl iz gz 0 (j+1)) u t):=by rw[← hY6,rdOb_set_self (rdOb_lt k5)];simp
  have hf6:∀ G:Nat→Prop,¬ G o6→Frm G Y5 Y6:=fun G hG=>by rw[← hY6];exact Frm.set _ _ hG
  unfold vf42b0
  simp[f1,f2,f3,f4,f5,f6,rdC_ob hBf7,hix,hwz7,hlz,hj,q1,q2.2.2,putAt,hY1,rdC_ob n1,rdC_ob k1,hY2,rdC_ob n2,hsrcA,hga,hY3,hY4,k1,k2,n1,n2,k3,n3,k4,k5,hsrc,happ,hY6,up1 hj hb]
  refine (hI _ _).2 ⟨.sl iz gz 0 (j+1),by simp only;omega,k6,?_,?_,by simp⟩
  ·rw[List.take_succ_eq_append_getElem hj,hpp]
   refine (hR5.fr phiF_st (hf6 _ (by omega))).mono fun i hi=>?_
   simp only
   omega
  ·refine hf.trans (((h74 _ (by omega)).trans (hf5.mono fun i hi=>?_)).trans (hf6 _ fun hn=>hn.2 rfl))
   omega
 ·rintro⟨e0,X7⟩ hIs
  obtain⟨z,hlX,hO,hR,hf,f1,f2,f3,f4,f5,f6⟩:=(hI _ _).1 hIs
  simp only at hlX hO hR hf f1 f2 f3 f4 f5 f6 ⊢
  have hp7:Pre B X7:=(hf.mono fun i (hi:i<B.length)=>by have:=hp6.le;omega).cut hp6
  have hwz7:=rdC_to hp7 hwz
  have hBf7:=hp7.rdOb hBf
  have hlz:=(Phis.pre hp7 hp).lenOf
  rw[List.take_length]at hR
  unfold vf42b0
  simp[f1,f2,f3,f4,f5,f6,rdC_ob hBf7,hix,hwz7,hlz]
  exact hQ X7 z _ hlX hO hR hf (by simp) (by simp) (by simp) (by simp) (by simp)

set_option maxRecDepth 100000 in
theorem specCopy {H:Hp} {v:CV} {m:Int} {bs:List BlkR} (hv:Blocks H v bs) (hb:bs.length≤BIG) :
  CM 42 [.agg [v,.i m]] H fun r=>∃ w L,r=(.agg [w,.i m],H++L)∧Tree (fun i=>H.length≤i) (H++L) w bs:=by
 refine cw42 ?_
 unfold vf42c
 obtain⟨X0,hX0⟩:∃ X0,H++[(⟨[v,.i m],0,true,2⟩:Ob),⟨[.ns,.i 0],0,true,2⟩,⟨[.ns,.i m],0,true,2⟩]=X0:=⟨_,rfl⟩
 have hp0:Pre H X0:=⟨_,hX0.symm⟩
 have hl0:X0.length=H.length+3:=by rw[← hX0];simp
 have hB0:rdOb X0 H.length 0=some ⟨[v,.i m],0,true,2⟩:=by rw[← hX0];simp
 have hR0:rdOb X0 (H.length+1) 0=some ⟨[.ns,.i 0],0,true,2⟩:=by rw[← hX0];simp
 have hO0:rdOb X0 (H.length+2) 0=some ⟨[.ns,.i m],0,true,2⟩:=by rw[← hX0];simp
 have hl:=hv.lenOf
 simp[putAt,hX0,rdC_ob hB0]
 obtain⟨I,hI⟩:∃ I:Nat→St→Prop,∀ i s,I i s↔(∃ w,rdOb s.h (H.length+2) 0=some ⟨[w,.i m],0,true,2⟩∧Tree (fun j=>X0.length≤j∧j<s.h.length) s.h w (bs.take i)∧Frm (fun j=>j<H.length+2) X0 s.h∧X0.length≤s.h.length ∧
   Env.get s.e 1=.c (.p H.length 0 0)∧Env.get s.e 2=.c (.p (H.length+1) 0 0)∧Env.get s.e 3=.c (.p (H.length+2) 0 0)∧Env.get s.e 4=.c (.i i)):=⟨_,fun _ _=>Iff.rfl⟩
 refine wp_for CM_mono bs.length I ((hI _ _).2 ⟨.ns,hO0,FRow.ns,Frm.refl _ _,Nat.le_refl _,by simp⟩) ?_ ?_
 ·rintro i ⟨e,X⟩ hi hIs
  obtain⟨w,hO,hT,hf,hlX,e1,e2,e3,e4⟩:=(hI _ _).1 hIs
  simp only at hO hT hf hlX e1 e2 e3 e4 ⊢
  obtain⟨b,hbb⟩:∃ b,bs[i]=b:=⟨_,rfl⟩
  have hpX:Pre H X:=(hf.mono fun j (hj:j<H.length)=>by omega).cut hp0
  have hBX:rdOb X H.length 0=some ⟨[v,.i m],0,true,2⟩:=hf.ob (by omega) hB0
  obtain⟨id,g,off,wz,wu,q1,q2,q3,qp,ql,qpl,qll,_,_⟩:=Blocks.get (Blocks.pre hpX hv) hi
  rw[hbb]at q2 q3 qp ql qpl qll
  obtain⟨oz,hoz⟩:=rdOb_of_rdC q2.1
  have hcell:∀ Y,Pre X Y→rdOb Y H.length 0=some ⟨[v,.i m],0,true,2⟩∧rdC Y id g off=some wz∧rdC Y id g (off+1)=some wu∧rdN Y id g (off+2) 4=some [.i b.term.kind,.i b.term.a,.i b.term.to,.i b.term.els]∧rdOb Y id g=some oz:=
   fun Y hY=>⟨hY.rdOb hBX,rdC_to hY q2.1,rdC_to hY q2.2.1,rdN_to hY (by simp_all [BlkAt]),hY.rdOb hoz⟩
  have hsz:(b.list.map insC).flatten.length=b.list.length * 5:=flat_map_len insC_len _
  obtain⟨A1,hA1⟩:∃ A1,X++[(⟨[],0,true,5⟩:Ob)]=A1:=⟨_,rfl⟩
  have pA1:Pre X A1:=⟨_,hA1.symm⟩
  have lA1:A1.length=X.length+1:=by rw[← hA1];simp
  have mA1:rdOb A1 X.length 0=some ⟨[],0,true,5⟩:=by rw[← hA1];simp
  have sA1:=list_srcF (List5.pre pA1 ql)
  obtain⟨ga,hga⟩:=fillApp (n:=b.list.length) mA1 hsz (by omega) (big_lim qll (by omega))
  obtain⟨A2,hA2⟩:∃ A2,A1.set X.length ⟨(b.list.map insC).flatten,ga,true,5⟩=A2:=⟨_,rfl⟩
  have pA2:Pre X A2:=by rw[← hA2];exact pA1.set (Nat.le_refl _) _
  have lA2:A2.length=X.length+1:=by rw[← hA2];simp[lA1]
  have mA2:rdOb A2 X.length ga=some ⟨(b.list.map insC).flatten,ga,true,5⟩:=by rw[← hA2,rdOb_set_self (by omega)];simp
  obtain⟨A3,hA3⟩:∃ A3,A2++[BOb .ns .ns ⟨0,0,0,0⟩]=A3:=⟨_,rfl⟩
  have pA3:Pre A2 A3:=⟨_,hA3.symm⟩
  have lA3:A3.length=A2.length+1:=by rw[← hA3];simp
  have oA3:rdOb A3 A2.length 0=some (BOb .ns .ns ⟨0,0,0,0⟩):=by rw[← hA3];simp
  obtain⟨A4,hA4⟩:∃ A4,A3.set A2.length (BOb .ns (.sl X.length ga 0 b.list.length) b.term)=A4:=⟨_,rfl⟩
  have lA4:A4.length=A3.length:=by rw[← hA4];simp
  have oA4:rdOb A4 A2.length 0=some (BOb .ns (.sl X.length ga 0 b.list.length) b.term):=by rw[← hA4,rdOb_set_self (by omega)];simp
  have pXA:Pre X A4:=by rw[← hA4];exact (pA2.trans pA3).set (by omega) _
  have uA4:FRow insF 5 A4 (.sl X.length ga 0 b.list.length) b.list (fun j=>j=X.length):=by
   refine FRow.leaf insC_len (fun _ _ _=>rfl) ?_ rfl
   rw[← hA4,rdOb_set_ne (by omega)];exact pA3.rdOb mA2
  obtain⟨C2,hC2⟩:∃ C2,A1++[BOb .ns .ns ⟨0,0,0,0⟩]=C2:=⟨_,rfl⟩
  have pC2:Pre A1 C2:=⟨_,hC2.symm⟩
  have lC2:C2.length=A1.length+1:=by rw[← hC2];simp
  have oC2:rdOb C2 A1.length 0=some (BOb .ns .ns ⟨0,0,0,0⟩):=by rw[← hC2];simp
  have mC2:=pC2.rdOb mA1
  have sC2:=list_srcF (List5.pre (pA1.trans pC2) ql)
  obtain⟨gc,hgc⟩:=fillApp (n:=b.list.length) mC2 hsz (by omega) (big_lim qll (by omega))
  obtain⟨C3,hC3⟩:∃ C3,C2.set X.length ⟨(b.list.map insC).flatten,gc,true,5⟩=C3:=⟨_,rfl⟩
  have lC3:C3.length=C2.length:=by rw[← hC3];simp
  have pC3:Pre X C3:=by rw[← hC3];exact (pA1.trans pC2).set (Nat.le_refl _) _
  have oC3:rdOb C3 A1.length 0=some (BOb .ns .ns ⟨0,0,0,0⟩):=by rw[← hC3,rdOb_set_ne (by omega)];exact oC2
  have mC3:rdOb C3 X.length gc=some ⟨(b.list.map insC).flatten,gc,true,5⟩:=by rw[← hC3,rdOb_set_self (by omega)];simp
  obtain⟨C4,hC4⟩:∃ C4,C3.set A1.length (BOb .ns (.sl X.length gc 0 b.list.length) b.term)=C4:=⟨_,rfl⟩
  have lC4:C4.length=C3.length:=by rw[← hC4];simp
  have oC4:rdOb C4 A1.length 0=some (BOb .ns (.sl X.length gc 0 b.list.length) b.term):=by rw[← hC4,rdOb_set_self (by omega)];simp
  have pXC:Pre X C4:=by rw[← hC4];exact pC3.set (by omega) _
  have uC4:FRow insF 5 C4 (.sl X.length gc 0 b.list.length) b.list (fun j=>j=X.length):=by
   refine FRow.leaf insC_len (fun _ _ _=>rfl) ?_ rfl
   rw[← hC4,rdOb_set_ne (by omega)];exact mC3
  obtain⟨D1,hD1⟩:∃ D1,X++[BOb .ns .ns ⟨0,0,0,0⟩]=D1:=⟨_,rfl⟩
  have pD1:Pre X D1:=⟨_,hD1.symm⟩
  have lD1:D1.length=X.length+1:=by rw[← hD1];simp
  have oD1:rdOb D1 X.length 0=some (BOb .ns .ns ⟨0,0,0,0⟩):=by rw[← hD1];simp
  obtain⟨D2,hD2⟩:∃ D2,D1++[(⟨[],0,true,5⟩:Ob)]=D2:=⟨_,rfl⟩
  have pD2:Pre D1 D2:=⟨_,hD2.symm⟩
  have lD2:D2.length=D1.length+1:=by rw[← hD2];simp
  have oD2:=pD2.rdOb oD1
  have mD2:rdOb D2 D1.length 0=some ⟨[],0,true,5⟩:=by rw[← hD2];simp
  have sD2:=list_srcF (List5.pre (pD1.trans pD2) ql)
  obtain⟨gd,hgd⟩:=fillApp (n:=b.list.length) mD2 hsz (by omega) (big_lim qll (by omega))
  obtain⟨D3,hD3⟩:∃ D3,D2.set D1.length ⟨(b.list.map insC).flatten,gd,true,5⟩=D3:=⟨_,rfl⟩
  have lD3:D3.length=D2.length:=by rw[← hD3];simp
  have pD3:Pre X D3:=by rw[← hD3];exact (pD1.trans pD2).set (by omega) _
  have oD3:rdOb D3 X.length 0=some (BOb .ns .ns ⟨0,0,0,0⟩):=by rw[← hD3,rdOb_set_ne (by omega)];exact oD2
  have mD3:rdOb D3 D1.length gd=some ⟨(b.list.map insC).flatten,gd,true,5⟩:=by rw[← hD3,rdOb_set_self (by omega)];simp
  obtain⟨D4,hD4⟩:∃ D4,D3.set X.length (BOb .ns (.sl D1.length gd 0 b.list.length) b.term)=D4:=⟨_,rfl⟩
  have lD4:D4.length=D3.length:=by rw[← hD4];simp
  have oD4:rdOb D4 X.length 0=some (BOb .ns (.sl D1.length gd 0 b.list.length) b.term):=by rw[← hD4,rdOb_set_self (by omega)];simp
  have pXD:Pre X D4:=by rw[← hD4];exact pD3.set (by omega) _
  have uD4:FRow insF 5 D4 (.sl D1.length gd 0 b.list.length) b.list (fun j=>j=D1.length):=by
   refine FRow.leaf insC_len (fun _ _ _=>rfl) ?_ rfl
   rw[← hD4,rdOb_set_ne (by omega)];exact mD3
  have hti:(bs.take i).length=i:=by rw[List.length_take];omega
  have hsnoc:bs.take (i+1)=bs.take i++[b]:=by rw[List.take_succ_eq_append_getElem hi,hbb]
  have gX:=hcell X (Pre.refl _)
  have gA1:=hcell _ pA1
  have gA2:=hcell _ pA2
  have gA3:=hcell _ (pA2.trans pA3)
  have gC2:=hcell _ (pA1.trans pC2)
  have gC3:=hcell _ pC3
  have gD1:=hcell _ pD1
  have gD2:=hcell _ (pD1.trans pD2)
  have gD3:=hcell _ pD3
  unfold vf42b1
  simp[vf42t0,e1,e2,e3,e4,hl,hi,q1,putAt,gX,rdC_ob gX.1,gA1,rdC_ob gA1.1,gA2,rdC_ob gA2.1,gA3,rdC_ob gA3.1,gC2,rdC_ob gC2.1,gC3,rdC_ob gC3.1,gD1,rdC_ob gD1.1,gD2,rdC_ob gD2.1,gD3,rdC_ob gD3.1,
   hA1,sA1,hga,hA2,hA3,oA3,hA4,hC2,sC2,hgc,hC3,oC3,hC4,hD1,hD2,sD2,hgd,hD3,oD3,hD4]
  refine⟨⟨copyIn qp qpl pXA (by omega) oA4 hBX q1 q2.1 rfl rfl rfl rfl rfl rfl ?_,copyIn qp qpl pXC (by omega) oC4 hBX q1 q2.1 rfl rfl rfl rfl rfl rfl ?_⟩,copyIn qp qpl pXD (by omega) oD4 hBX q1 q2.1 rfl rfl rfl rfl rfl rfl ?_⟩
  ·intro Y z e' hlY hY hz hfY f1 f2 f3 f4 f5
   obtain⟨i',g',Y1,Z,Z2,a1,a2,a3,a4,a5,a6,a7,a8,a9,a10⟩:=pushBlk (by omega) hT hti (by omega) hO hf hlX pXA (by omega) uA4 (fun j hj=>by omega) hlY hY hz hfY qpl qll
   rw[← hsnoc]at a8
   simp[f1,f2,f3,f4,f5,putAt,rdC_ob a2,rdN_ob hY,a1,a3,a4,a5,a6,up1 hi hb]
   exact (hI _ _).2 ⟨_,a7,a8,a9,a10,by simp[f1,f2,f3]⟩
  ·intro Y z e' hlY hY hz hfY f1 f2 f3 f4 f5
   obtain⟨i',g',Y1,Z,Z2,a1,a2,a3,a4,a5,a6,a7,a8,a9,a10⟩:=pushBlk (by omega) hT hti (by omega) hO hf hlX pXC (by omega) uC4 (fun j hj=>by omega) hlY hY hz hfY qpl qll
   rw[← hsnoc]at a8
   simp[f1,f2,f3,f4,f5,putAt,rdC_ob a2,rdN_ob hY,a1,a3,a4,a5,a6,up1 hi hb]
   exact (hI _ _).2 ⟨_,a7,a8,a9,a10,by simp[f1,f2,f3]⟩
  ·intro Y z e' hlY hY hz hfY f1 f2 f3 f4 f5
   obtain⟨i',g',Y1,Z,Z2,a1,a2,a3,a4,a5,a6,a7,a8,a9,a10⟩:=pushBlk (by omega) hT hti (by omega) hO hf hlX pXD (by omega) uD4 (fun j hj=>by omega) hlY hY hz hfY qpl qll
   rw[← hsnoc]at a8
   simp[f1,f2,f3,f4,f5,putAt,rdC_ob a2,rdN_ob hY,a1,a3,a4,a5,a6,up1 hi hb]
   exact (hI _ _).2 ⟨_,a7,a8,a9,a10,by simp[f1,f2,f3]⟩
 ·rintro⟨e,X⟩ hIs
  obtain⟨w,hO,hT,hf,hlX,e1,e2,e3,e4⟩:=(hI _ _).1 hIs
  simp only at hO hT hf hlX e1 e2 e3 e4 ⊢
  rw[List.take_length]at hT
  have hpX:Pre H X:=(hf.mono fun j (hj:j<H.length)=>by omega).cut hp0
  have hBX:rdOb X H.length 0=some ⟨[v,.i m],0,true,2⟩:=hf.ob (by omega) hB0
  have hRX:rdOb X (H.length+1) 0=some ⟨[.ns,.i 0],0,true,2⟩:=hf.ob (by omega) hR0
  obtain⟨X2,hX2⟩:∃ X2,X.set (H.length+1) ⟨[w,.i m],0,true,2⟩=X2:=⟨_,rfl⟩
  have hR2:rdOb X2 (H.length+1) 0=some ⟨[w,.i m],0,true,2⟩:=by rw[← hX2,rdOb_set_self (rdOb_lt hRX)];simp
  have hp2:Pre H X2:=by rw[← hX2];exact hpX.set (by omega) _
  have hT2:Tree (fun j=>H.length≤j) X2 w bs:=by
   rw[← hX2]
   exact (hT.fr blkF_st (Frm.set _ _ (by omega))).mono fun j hj=>by omega
  unfold vf42b1
  rcases hT.form with rfl | ⟨i',g',n',rfl⟩
  ·simp[e1,e2,e3,e4,rdC_ob hBX,hl,rdN_ob hO,hRX,putAt,hX2,rdN_ob hR2]
   have hbs:bs=[]:=by
    rcases hT with⟨_,h⟩ | ⟨_,_,_,_,h,_⟩
    ·exact h
    ·cases h
   rw[show gcRet H (.agg [.ns,.i m]) X2=(.agg [.ns,.i m],H) from gcRet_flat hp2 rfl]
   exact⟨.ns,[],by simp,.inl ⟨rfl,hbs⟩⟩
  ·simp[e1,e2,e3,e4,rdC_ob hBX,hl,rdN_ob hO,hRX,putAt,hX2,rdN_ob hR2]
   rw[gc_agg (by simp[flatC])]
   obtain⟨L,rfl⟩:=hp2
   exact⟨_,L,rfl,hT2⟩
abbrev KOb (ks:List Bool):Ob:=⟨ks.map .b,0,true,1⟩

abbrev NOb (ns:List Int):Ob:=⟨ns.map .i,0,true,1⟩

structure FoldH (Gu:Nat→Prop) (kid nid:Nat) (u:CV) (Y0 Y:Hp) (xs:List InsR) (q:Kn):Prop where
 row:FRow insF 5 Y u xs Gu
 k:rdOb Y kid 0=some (KOb q.k)
 n:rdOb Y nid 0=some (NOb q.n)
 fr:Frm (fun j=>j<Y0.length∧¬ Gu j∧j≠kid∧j≠nid) Y0 Y
 len:Y0.length≤Y.length

theorem FoldH.app {Gu:Nat→Prop} {kid nid:Nat} {u:CV} {Y0 Y:Hp} {xs:List InsR} {q:Kn} (h:FoldH Gu kid nid u Y0 Y xs q) (L:Hp):FoldH Gu kid nid u Y0 (Y++L) xs q:=
 ⟨h.row.fr insF_st (Frm.app _ _ _),rdOb_app L h.k,rdOb_app L h.n,h.fr.trans (Frm.app _ _ _),by have:=h.len;simp only[List.length_append];omega⟩

theorem FoldH.put {Gu:Nat→Prop} {kid nid i:Nat} {u:CV} {Y0 Y:Hp} {ys r:List InsR} {x:InsR} {q:Kn} (h:FoldH Gu kid nid u Y0 Y (ys++x :: r) q) (hi:ys.length=i) (hk:¬ Gu kid) (hn:¬ Gu nid) (x':InsR) :
  ∃ id g cells Z,idxOf 5 u (i:Int)=some (.p id g (i * 5))∧rdOb Y id g=some ⟨cells,g,true,5⟩∧i * 5+5≤cells.length∧Y.set id ⟨putAt cells (i * 5) [.i x'.op,.i x'.d,.i x'.a,.i x'.b,.i x'.n],g,true,5⟩=Z∧FoldH Gu kid nid u Y0 Z (ys++x' :: r) q∧Frm (fun j=>¬ Gu j) Y Z:=by
 obtain⟨id,g,cells,Z,h1,h2,h3,h4,h5,h6,h7⟩:=h.row.wholeS insF_st hi (cs:=insC x') (x':=x') rfl (fun _=>rfl)
 exact⟨id,g,cells,Z,h1,h2,h3,h4,⟨h5,h6.ob hk h.k,h6.ob hn h.n,h.fr.trans (h6.mono fun j hj=>hj.2.1),by rw[h7];exact h.len⟩,h6⟩
theorem Tree.list {S:Nat→Prop} {X:Hp} {v:CV} {bs:List BlkR} {b:Nat} (h:Tree S X v bs) (hb:b<bs.length) :
  ∃ id g u,∃ Gu:Nat→Prop,idxOf 6 v (b:Int)=some (.p id g (b * 6))∧rdC X id g (b * 6+1)=some u∧FRow insF 5 X u bs[b].list Gu∧(∀ j,Gu j→S j∧j<X.length∧j≠id)∧S id∧bs[b].list.length≤BIG ∧
   ∀ Y ls,X.length≤Y.length→Frm (fun j=>S j∧¬ Gu j) X Y→FRow insF 5 Y u ls Gu→ls.length≤BIG→Tree S Y v (bs.set b ⟨bs[b].phis,ls,bs[b].term⟩):=by
 obtain⟨id,g,cells,Fs,z,u,Gz,Gu,rfl,hc,h1,h2,h3,h4,h5,h6,h7⟩:=h.at_ hb
 clear h
 refine⟨id,g,u,Gu,idx_sl hb,?_,h3,fun j hj=>⟨(hc.sub b j hb (h5 j hj)).1,(hc.sub b j hb (h5 j hj)).2.2,(hc.sub b j hb (h5 j hj)).2.1⟩,hc.own,h7,fun Y ls hl hf hr hlb=>?_⟩
 ·rw[hc.c (by omega),h1];rfl
 ·have:=(hc.nest blkF_st hb (x':=⟨bs[b].phis,ls,bs[b].term⟩) hl (hf.mono fun j hj=>⟨hj.1,fun h=>hj.2 (h5 j h)⟩)
   ⟨z,u,Gz,Gu,h1,h2.fr phiF_st (hf.mono fun j hj=>⟨(hc.sub b j hb (h4 j hj).1).1,(h4 j hj).2⟩),hr,h4,h5,h6,hlb⟩).row
  simpa using this

theorem Tree.phis {S:Nat→Prop} {X:Hp} {v:CV} {bs:List BlkR} {b:Nat} (h:Tree S X v bs) (hb:b<bs.length) :
  ∃ id g z,∃ Gz:Nat→Prop,idxOf 6 v (b:Int)=some (.p id g (b * 6))∧rdC X id g (b * 6)=some z∧FRow phiF 2 X z bs[b].phis Gz∧(∀ j,Gz j→S j∧j<X.length∧j≠id)∧S id∧bs[b].phis.length≤BIG ∧
   ∀ Y ps,X.length≤Y.length→Frm (fun j=>S j∧¬ Gz j) X Y→FRow phiF 2 Y z ps Gz→ps.length≤BIG→Tree S Y v (bs.set b ⟨ps,bs[b].list,bs[b].term⟩):=by
 obtain⟨id,g,cells,Fs,z,u,Gz,Gu,rfl,hc,h1,h2,h3,h4,h5,h6,h7⟩:=h.at_ hb
 clear h
 refine⟨id,g,z,Gz,idx_sl hb,?_,h2,fun j hj=>⟨(hc.sub b j hb (h4 j hj).1).1,(hc.sub b j hb (h4 j hj).1).2.2,(hc.sub b j hb (h4 j hj).1).2.1⟩,hc.own,h6,fun Y ps hl hf hr hlb=>?_⟩
 ·have:=hc.c (k:=b) (j:=0) (by omega)
  rw[Nat.add_zero]at this
  rw[this,h1];rfl
 ·have:=(hc.nest blkF_st hb (x':=⟨ps,bs[b].list,bs[b].term⟩) hl (hf.mono fun j hj=>⟨hj.1,fun h=>hj.2 (h4 j h).1⟩)
   ⟨z,u,Gz,Gu,h1,hr,h3.fr insF_st (hf.mono fun j hj=>⟨(hc.sub b j hb (h5 j hj)).1,fun h=>(h4 j h).2 hj⟩),h4,h5,hlb,h7⟩).row
  simpa using this

def FnRes (H:Hp) (g:FnR) (r:IV×Hp):Prop:=∃ w L,r=(.agg [w,.i g.values],H++L)∧Tree (fun i=>H.length≤i) (H++L) w g.blocks

theorem FnRes.mk {H X:Hp} {w:CV} {g:FnR} {S:Nat→Prop} (hp:Pre H X) (hT:Tree S X w g.blocks) (hS:∀ j,S j→H.length≤j):FnRes H g (gcRet H (.agg [w,.i g.values]) X):=by
 have hT:=FRow.mono hT hS
 rcases FRow.form hT with rfl | ⟨i',g',n',rfl⟩
 ·have hbs:g.blocks=[]:=by
   rcases hT with⟨_,h⟩ | ⟨_,_,_,_,h,_⟩
   ·exact h
   ·cases h
  rw[gcRet_flat hp (show flatV (.agg [.ns,.i g.values])=true from rfl)]
  exact⟨.ns,[],by simp,.inl ⟨rfl,hbs⟩⟩
 ·rw[gc_agg (by simp[flatC])]
  obtain⟨L,rfl⟩:=hp
  exact⟨_,L,rfl,hT⟩
structure CObj (X:Hp) (id g sz:Nat) (css:List (List CV)) (rest:List CV):Prop where
 ob:rdOb X id g=some ⟨css.flatten++rest,g,true,sz⟩
 len:∀ cs∈css,cs.length=sz

theorem CObj.at_ {X:Hp} {id g sz:Nat} {css:List (List CV)} {rest:List CV} (h:CObj X id g sz css rest) {k:Nat} (hk:k<css.length):rdN X id g (k * sz) sz=some css[k]:=by
 obtain⟨h1,h2⟩:=flat_drop h.len (List.getElem?_eq_getElem hk)
 rw[rdN_ob h.ob,if_pos (by simp only[List.length_append];omega)]
 simp only
 rw[List.drop_append,List.take_append_of_le_length (by rw[List.length_drop];omega),h1]

structure Onl (id:Nat) (X Y:Hp):Prop where
 fr:Frm (fun j=>j≠id) X Y
 len:X.length≤Y.length

theorem Onl.refl (id:Nat) (X:Hp):Onl id X X:=⟨Frm.refl _ _,Nat.le_refl _⟩

theorem Onl.app {id:Nat} {X Y:Hp} (h:Onl id X Y) (L:Hp):Onl id X (Y++L):=⟨h.fr.trans (Frm.app _ _ _),by have:=h.len;simp only[List.length_append];omega⟩

theorem Onl.set {id:Nat} {X Y:Hp} (h:Onl id X Y) (o:Ob):Onl id X (Y.set id o):=⟨h.fr.trans (Frm.set _ _ (by simp)),by have:=h.len;simp;omega⟩
theorem p20 (a b x:CV):putAt [a,b] 0 [x]=[x,b]:=rfl

theorem p21 (a b x:CV):putAt [a,b] 1 [x]=[a,x]:=rfl

theorem p22 (a b x y:CV):putAt [a,b] 0 [x,y]=[x,y]:=rfl

section

variable {α:Type} {P:Hp→List CV→α→(Nat→Prop)→Prop} {sz:Nat} {X Z:Hp} {id g:Nat} {cells:List CV} {xs:List α} {F:Nat→Prop} {Fs:Nat→Nat→Prop}

end

theorem Tree.phisH {S:Nat→Prop} {X:Hp} {v:CV} {bs:List BlkR} {b:Nat} (h:Tree S X v bs) (hb:b<bs.length) :
  ∃ id g cells z u,∃ Gz:Nat→Prop,idxOf 6 v (b:Int)=some (.p id g (b * 6))∧rdOb X id g=some ⟨cells,g,true,6⟩∧b * 6+6≤cells.length∧rdN X id g (b * 6) 6=some (z :: u :: trmC bs[b].term)∧rdC X id g (b * 6)=some z∧FRow phiF 2 X z bs[b].phis Gz∧(∀ j,Gz j→S j∧j<X.length∧j≠id)∧S id∧bs[b].phis.length≤BIG ∧
   ∀ Y ps z' (Gz':Nat→Prop),X.length≤Y.length→Frm (fun j=>S j∧¬ Gz j) X Y→FRow phiF 2 Y z' ps Gz'→(∀ j,Gz' j→Gz j∨(X.length≤j∧S j∧j<Y.length))→ps.length≤BIG →
    rdOb Y id g=some ⟨cells,g,true,6⟩∧Tree S (Y.set id ⟨putAt cells (b * 6) [z'],g,true,6⟩) v (bs.set b ⟨ps,bs[b].list,bs[b].term⟩):=by
 obtain⟨id,g,cells,Fs,z,u,Gz,Gu,rfl,hc,h1,h2,h3,h4,h5,h6,h7⟩:=h.at_ hb
 clear h
 have hsub:∀ j,Gz j→S j∧j<X.length∧j≠id:=fun j hj=>⟨(hc.sub b j hb (h4 j hj).1).1,(hc.sub b j hb (h4 j hj).1).2.2,(hc.sub b j hb (h4 j hj).1).2.1⟩
 have hlt:=hc.lt
 refine⟨id,g,cells,z,u,Gz,idx_sl hb,hc.ob,hc.fit hb,by rw[hc.nn hb,h1],?_,h2,hsub,hc.own,h6,fun Y ps z' Gz' hl hf hr hg hlb=>?_⟩
 ·have:=hc.c (k:=b) (j:=0) (by omega)
  rw[Nat.add_zero]at this
  rw[this,h1];rfl
 ·have hob:rdOb Y id g=some ⟨cells,g,true,6⟩:=hf.ob ⟨hc.own,fun h=>(hsub id h).2.2 rfl⟩ hc.ob
  refine⟨hob,?_⟩
  obtain⟨Y',hY'⟩:∃ Y',Y.set id ⟨putAt cells (b * 6) [z'],g,true,6⟩=Y':=⟨_,rfl⟩
  have hfs:∀ G:Nat→Prop,¬ G id→Frm G Y Y':=fun G hG=>by rw[← hY'];exact Frm.set Y _ hG
  have hl':Y'.length=Y.length:=by rw[← hY'];simp
  rw[hY']
  have:=(hc.put blkF_st hb (j:=0) (ys:=[z']) (x':=⟨ps,bs[b].list,bs[b].term⟩) (G':=fun i=>Fs b i∨(X.length≤i∧S i∧i<Y.length)) (Y:=Y') (by simp) (by rw[Nat.add_zero,← hY',rdOb_set_self (rdOb_lt hob)];simp)
   ((hf.mono fun j hj=>⟨hj.1,fun h=>hj.2.2 (h4 j h).1⟩).trans (hfs _ fun hn=>hn.2.1 rfl))
   (fun i hi=>by
    rcases hi with hi | hi
    ·have:=hc.sub b i hb hi
     exact⟨this.1,this.2.1,by omega,.inl hi⟩
    ·exact⟨hi.2.1,by omega,by omega,.inr hi.1⟩)
   (by
    rw[h1]
    refine⟨z',u,Gz',Gu,rfl,hr.fr phiF_st (hfs _ fun hn=>?_),(h3.fr insF_st (hf.mono fun j hj=>⟨(hc.sub b j hb (h5 j hj)).1,fun h=>(h4 j h).2 hj⟩)).fr insF_st (hfs _ fun hn=>(hc.sub b id hb (h5 id hn)).2.1 rfl),fun i hi=>?_,fun i hi=>.inl (h5 i hi),hlb,h7⟩
    ·rcases hg id hn with h | h
     ·exact (hsub id h).2.2 rfl
     ·omega
    ·rcases hg i hi with h | h
     ·exact⟨.inl (h4 i h).1,(h4 i h).2⟩
     ·exact⟨.inr h,fun hu=>by have:=(hc.sub b i hb (h5 i hu)).2.2;omega⟩)).row
  simpa using this

theorem Tree.listH {S:Nat→Prop} {X:Hp} {v:CV} {bs:List BlkR} {b:Nat} (h:Tree S X v bs) (hb:b<bs.length) :
  ∃ id g cells z u,∃ Gu:Nat→Prop,idxOf 6 v (b:Int)=some (.p id g (b * 6))∧rdOb X id g=some ⟨cells,g,true,6⟩∧b * 6+6≤cells.length∧rdN X id g (b * 6) 6=some (z :: u :: trmC bs[b].term)∧rdC X id g (b * 6+1)=some u∧FRow insF 5 X u bs[b].list Gu∧(∀ j,Gu j→S j∧j<X.length∧j≠id)∧S id∧bs[b].list.length≤BIG ∧
   ∀ Y ls u' (Gu':Nat→Prop),X.length≤Y.length→Frm (fun j=>S j∧¬ Gu j) X Y→FRow insF 5 Y u' ls Gu'→(∀ j,Gu' j→Gu j∨(X.length≤j∧S j∧j<Y.length))→ls.length≤BIG →
    rdOb Y id g=some ⟨cells,g,true,6⟩∧Tree S (Y.set id ⟨putAt cells (b * 6+1) [u'],g,true,6⟩) v (bs.set b ⟨bs[b].phis,ls,bs[b].term⟩):=by
 obtain⟨id,g,cells,Fs,z,u,Gz,Gu,rfl,hc,h1,h2,h3,h4,h5,h6,h7⟩:=h.at_ hb
 clear h
 have hsub:∀ j,Gu j→S j∧j<X.length∧j≠id:=fun j hj=>⟨(hc.sub b j hb (h5 j hj)).1,(hc.sub b j hb (h5 j hj)).2.2,(hc.sub b j hb (h5 j hj)).2.1⟩
 have hlt:=hc.lt
 refine⟨id,g,cells,z,u,Gu,idx_sl hb,hc.ob,hc.fit hb,by rw[hc.nn hb,h1],by rw[hc.c (by omega),h1];rfl,h3,hsub,hc.own,h7,fun Y ls u' Gu' hl hf hr hg hlb=>?_⟩
 have hob:rdOb Y id g=some ⟨cells,g,true,6⟩:=hf.ob ⟨hc.own,fun h=>(hsub id h).2.2 rfl⟩ hc.ob
 refine⟨hob,?_⟩
 obtain⟨Y',hY'⟩:∃ Y',Y.set id ⟨putAt cells (b * 6+1) [u'],g,true,6⟩=Y':=⟨_,rfl⟩
 have hfs:∀ G:Nat→Prop,¬ G id→Frm G Y Y':=fun G hG=>by rw[← hY'];exact Frm.set Y _ hG
 have hl':Y'.length=Y.length:=by rw[← hY'];simp
 rw[hY']
 have:=(hc.put blkF_st hb (j:=1) (ys:=[u']) (x':=⟨bs[b].phis,ls,bs[b].term⟩) (G':=fun i=>Fs b i∨(X.length≤i∧S i∧i<Y.length)) (Y:=Y') (by simp) (by rw[← hY',rdOb_set_self (rdOb_lt hob)];simp)
  ((hf.mono fun j hj=>⟨hj.1,fun h=>hj.2.2 (h5 j h)⟩).trans (hfs _ fun hn=>hn.2.1 rfl))
  (fun i hi=>by
   rcases hi with hi | hi
   ·have:=hc.sub b i hb hi
    exact⟨this.1,this.2.1,by omega,.inl hi⟩
   ·exact⟨hi.2.1,by omega,by omega,.inr hi.1⟩)
  (by
   rw[h1]
   refine⟨z,u',Gz,Gu',rfl,(h2.fr phiF_st (hf.mono fun j hj=>⟨(hc.sub b j hb (h4 j hj).1).1,fun h=>(h4 j hj).2 h⟩)).fr phiF_st (hfs _ fun hn=>(hc.sub b id hb (h4 id hn).1).2.1 rfl),hr.fr insF_st (hfs _ fun hn=>?_),fun i hi=>⟨.inl (h4 i hi).1,fun hu=>?_⟩,fun i hi=>?_,h6,hlb⟩
   ·rcases hg id hn with h | h
    ·exact (hsub id h).2.2 rfl
    ·omega
   ·rcases hg i hu with h | h
    ·exact (h4 i hi).2 h
    ·have:=(hc.sub b i hb (h4 i hi).1).2.2;omega
   ·rcases hg i hi with h | h
    ·exact .inl (h5 i h)
    ·exact .inr h)).row
 simpa using this
set_option maxRecDepth 100000 in
theorem armsInS {G:Nat→Prop} {Y0:Hp} {o7 idp gp k:Nat} {z wa:CV} {fr vv at_:Int} {as_:List ArmR} {e:Env} {Q:X×St→Prop} {x2 x4 x5 x6:IV}
  (h0:FRow armF 2 Y0 wa as_ G) (hb:as_.length≤BIG) (h7:rdOb Y0 o7 0=some ⟨[.i fr,.i vv],0,true,2⟩) (hG7:¬ G o7) (hix:idxOf 2 z (k:Int)=some (.p idp gp (k * 2))) (hwa:rdC Y0 idp gp (k * 2+1)=some wa) (hGp:¬ G idp)
  (e2:Env.get e 2=x2) (e4:Env.get e 4=x4) (e5:Env.get e 5=x5) (e6:Env.get e 6=x6)
  (e7:Env.get e 7=.c (.p o7 0 0)) (e8:Env.get e 8=.c (.i at_)) (e10:Env.get e 10=.c z) (e11:Env.get e 11=.c (.i k)) (e12:Env.get e 12=.c (.i 0))
  (hQ:∀ (Y:Hp) (e':Env),FRow armF 2 Y wa (as_.map (turnA fr at_)) G→Frm (fun j=>j<Y0.length∧¬ G j) Y0 Y→Y0.length≤Y.length →
   Env.get e' 2=x2→Env.get e' 4=x4→Env.get e' 5=x5→Env.get e' 6=x6→Env.get e' 7=.c (.p o7 0 0)→Env.get e' 8=.c (.i at_)→Env.get e' 10=.c z→Env.get e' 11=.c (.i k)→Q (.exit 4,⟨e',Y⟩)) :
  loopD (exW CM [0,1,2,3,4,5,6,7,8,9,10,11,12,17,27,32,62,69,89,99,113] vf22b0) ⟨e,Y0⟩ Q:=by
 obtain⟨I,hI⟩:∃ I:Nat→St→Prop,∀ i s,I i s↔(FRow armF 2 s.h wa ((as_.take i).map (turnA fr at_)++as_.drop i) G∧Frm (fun j=>j<Y0.length∧¬ G j) Y0 s.h∧Y0.length≤s.h.length ∧
   Env.get s.e 2=x2∧Env.get s.e 4=x4∧Env.get s.e 5=x5∧Env.get s.e 6=x6∧Env.get s.e 7=.c (.p o7 0 0)∧Env.get s.e 8=.c (.i at_)∧Env.get s.e 10=.c z∧Env.get s.e 11=.c (.i k)∧Env.get s.e 12=.c (.i i)):=⟨_,fun _ _=>Iff.rfl⟩
 have hl7:=rdOb_lt h7
 obtain⟨oz,hoz⟩:=rdOb_of_rdC hwa
 have hlz:=rdOb_lt hoz
 refine wp_for CM_mono as_.length I ((hI _ ⟨_,_⟩).2 ⟨by simpa using h0,Frm.refl _ _,Nat.le_refl _,e2,e4,e5,e6,e7,e8,e10,e11,e12⟩) ?_ ?_
 ·rintro i ⟨e0,Y⟩ hi hIs
  obtain⟨hR,hf,hl,f2,f4,f5,f6,f7,f8,f10,f11,f12⟩:=(hI _ _).1 hIs
  simp only at hR hf hl f2 f4 f5 f6 f7 f8 f10 f11 f12 ⊢
  obtain⟨a,ha⟩:∃ a,as_[i]=a:=⟨_,rfl⟩
  rw[drop_mid hi,ha]at hR
  obtain⟨A,hA⟩:∃ A,(as_.take i).map (turnA fr at_)=A:=⟨_,rfl⟩
  have hAl:A.length=i:=by rw[← hA];simp;omega
  have hAs:(as_.take (i+1)).map (turnA fr at_)=A++[turnA fr at_ a]:=by rw[List.take_succ_eq_append_getElem hi,List.map_append,hA,ha];rfl
  rw[hA]at hR
  obtain⟨rid,rg,cs,G',r1,r2,r3,r4⟩:=hR.readS hAl
  have r3:cs=armC a:=r3
  subst r3
  have hlR:=hR.lenOf
  rw[show (A++a :: as_.drop (i+1)).length=as_.length by simp;omega]at hlR
  have r2c:rdC Y rid rg (i * 2)=some (.i a.fr):=by
   unfold rdN at r2;unfold rdC
   cases ho:rdOb Y rid rg with
   | none=>rw[ho]at r2;cases r2
   | some o =>
    rw[ho]at r2
    simp only[Option.bind_some]at r2 ⊢
    split at r2
    ·injection r2 with r2
     have h3:((o.cells.drop (i * 2)).take 2)[0]? = some (.i a.fr):=by rw[r2];rfl
     rw[List.getElem?_take,if_pos (by omega),List.getElem?_drop]at h3
     exact h3
    ·cases r2
  have k7:=hf.ob ⟨hl7,hG7⟩ h7
  have kz:=hf.ob ⟨hlz,hGp⟩ hoz
  have kw:rdC Y idp gp (k * 2+1)=some wa:=by rw[rdC_ob kz,← rdC_ob hoz];exact hwa
  have hend:∀ (Z:Hp) (e':Env) (a':ArmR),turnA fr at_ a=a'→FRow armF 2 Z wa (A++a' :: as_.drop (i+1)) G→Frm (fun j=>j<Y0.length∧¬ G j) Y0 Z→Y0.length≤Z.length →
    (Env.get e' 2=x2∧Env.get e' 4=x4∧Env.get e' 5=x5∧Env.get e' 6=x6∧Env.get e' 7=.c (.p o7 0 0)∧Env.get e' 8=.c (.i at_)∧Env.get e' 10=.c z∧Env.get e' 11=.c (.i k)∧Env.get e' 12=.c (.i (i+1:Nat)))→I (i+1) ⟨e',Z⟩:=by
   intro Z e' a' ha' h1 h2 h3 he
   refine (hI _ ⟨_,_⟩).2 ⟨?_,h2,h3,he⟩
   rw[hAs,ha']
   simpa using h1
  unfold vf22b0
  cases hq:decide (a.fr=fr) with
  | true =>
   have ht:turnA fr at_ a=⟨at_,a.v⟩:=by unfold turnA;rw[if_pos (of_decide_eq_true hq)]
   obtain⟨id,g,cells,Z,s1,s2,s3,s4,s5,s6,s7⟩:=hR.fieldS armF_st hAl 0 (by omega) (.i at_) ⟨at_,a.v⟩ (fun Z cs G h=>by have h:cs=armC _:=h;subst h;rfl)
   rw[Nat.add_zero]at s3 s4
   have ep:id=rid∧g=rg:=by have e:=s1.symm.trans r1;injection e with e;injection e with e1 e2;exact⟨e1,e2⟩
   obtain⟨rfl,rfl⟩:=ep
   simp[f2,f4,f5,f6,f7,f8,f10,f11,f12,hix,kw,hlR,hi,r1,r2c,rdC_ob k7,hq,s2,s3,s4,up1 hi hb]
   refine hend _ _ _ ht s5 (hf.trans (s6.mono fun j hj=>hj.2)) (by omega) ?_
   simp
  | false =>
   have ht:turnA fr at_ a=a:=by unfold turnA;rw[if_neg (of_decide_eq_false hq)]
   simp[f2,f4,f5,f6,f7,f8,f10,f11,f12,hix,kw,hlR,hi,r1,r2c,rdC_ob k7,hq,up1 hi hb]
   refine hend _ _ _ ht hR hf hl ?_
   simp
 ·rintro⟨e0,Y⟩ hIs
  obtain⟨hR,hf,hl,f2,f4,f5,f6,f7,f8,f10,f11,f12⟩:=(hI _ _).1 hIs
  simp only at hR hf hl f2 f4 f5 f6 f7 f8 f10 f11 f12 ⊢
  rw[List.take_length,List.drop_length,List.append_nil]at hR
  have hlR:=hR.lenOf
  rw[List.length_map]at hlR
  have kz:=hf.ob ⟨hlz,hGp⟩ hoz
  have kw:rdC Y idp gp (k * 2+1)=some wa:=by rw[rdC_ob kz,← rdC_ob hoz];exact hwa
  unfold vf22b0
  simp[f2,f4,f5,f6,f7,f8,f10,f11,f12,hix,kw,hlR]
  exact hQ Y _ hR hf hl (by simp) (by simp) (by simp) (by simp) (by simp) (by simp) (by simp) (by simp)

set_option maxRecDepth 100000 in
theorem phisInS {G:Nat→Prop} {Y0:Hp} {o7:Nat} {z:CV} {fr vv at_:Int} {ps:List PhiR} {e:Env} {Q:X×St→Prop} {x2 x4 x5 x6:IV}
  (h0:FRow phiF 2 Y0 z ps G) (hb:ps.length≤BIG) (h7:rdOb Y0 o7 0=some ⟨[.i fr,.i vv],0,true,2⟩) (hG7:¬ G o7)
  (e2:Env.get e 2=x2) (e4:Env.get e 4=x4) (e5:Env.get e 5=x5) (e6:Env.get e 6=x6) (e7:Env.get e 7=.c (.p o7 0 0)) (e8:Env.get e 8=.c (.i at_)) (e10:Env.get e 10=.c z) (e11:Env.get e 11=.c (.i 0))
  (hQ:∀ (Y:Hp) (e':Env),FRow phiF 2 Y z (ps.map (turnP fr at_)) G→Frm (fun j=>j<Y0.length∧¬ G j) Y0 Y→Y0.length≤Y.length →
   Env.get e' 2=x2→Env.get e' 4=x4→Env.get e' 5=x5→Env.get e' 6=x6→Q (.exit 2,⟨e',Y⟩)) :
  loopD (exW CM [0,1,2,3,4,5,6,7,8,9,10,11,12,17,27,32,62,69,89,99,113] vf22b1) ⟨e,Y0⟩ Q:=by
 obtain⟨I,hI⟩:∃ I:Nat→St→Prop,∀ i s,I i s↔(FRow phiF 2 s.h z ((ps.take i).map (turnP fr at_)++ps.drop i) G∧Frm (fun j=>j<Y0.length∧¬ G j) Y0 s.h∧Y0.length≤s.h.length ∧
   Env.get s.e 2=x2∧Env.get s.e 4=x4∧Env.get s.e 5=x5∧Env.get s.e 6=x6∧Env.get s.e 7=.c (.p o7 0 0)∧Env.get s.e 8=.c (.i at_)∧Env.get s.e 10=.c z∧Env.get s.e 11=.c (.i i)):=⟨_,fun _ _=>Iff.rfl⟩
 have hl7:=rdOb_lt h7
 refine wp_for CM_mono ps.length I ((hI _ ⟨_,_⟩).2 ⟨by simpa using h0,Frm.refl _ _,Nat.le_refl _,e2,e4,e5,e6,e7,e8,e10,e11⟩) ?_ ?_
 ·rintro i ⟨e0,Y⟩ hi hIs
  obtain⟨hR,hf,hl,f2,f4,f5,f6,f7,f8,f10,f11⟩:=(hI _ _).1 hIs
  simp only at hR hf hl f2 f4 f5 f6 f7 f8 f10 f11 ⊢
  obtain⟨p,hp⟩:∃ p,ps[i]=p:=⟨_,rfl⟩
  rw[drop_mid hi,hp]at hR
  obtain⟨A,hA⟩:∃ A,(ps.take i).map (turnP fr at_)=A:=⟨_,rfl⟩
  have hAl:A.length=i:=by rw[← hA];simp;omega
  have hAs:(ps.take (i+1)).map (turnP fr at_)=A++[turnP fr at_ p]:=by rw[List.take_succ_eq_append_getElem hi,List.map_append,hA,hp];rfl
  rw[hA]at hR
  have hlR:=hR.lenOf
  rw[show (A++p :: ps.drop (i+1)).length=ps.length by simp;omega]at hlR
  have k7:=hf.ob ⟨hl7,hG7⟩ h7
  obtain⟨id,g,cs,Ga,s1,s2,s3,s4,s5,s6⟩:=hR.nestS phiF_st hAl
  obtain⟨wa,rfl,har,hab⟩:=s4
  have hGi:¬ Ga id:=fun h=>(s5 _ h).2 rfl
  unfold vf22b1
  simp[f2,f4,f5,f6,f7,f8,f10,f11,hlR,hi]
  refine armsInS (o7:=o7) (G:=Ga) (as_:=p.arms) (fr:=fr) (at_:=at_) (vv:=vv) (x2:=x2) (x4:=x4) (x5:=x5) (x6:=x6)
   har hab k7 (fun h=>hG7 (s5 _ h).1) s1 (s3 1 _ rfl) hGi (by simp) (by simp) (by simp) (by simp) (by simp) (by simp) (by simp) (by simp) (by simp) ?_
  intro Z e' hZ hfZ hlZ g2 g4 g5 g6 g7 g8 g10 g11
  simp[g2,g4,g5,g6,g7,g8,g10,g11,up1 hi hb]
  refine (hI _ ⟨_,_⟩).2 ⟨?_,hf.trans (hfZ.mono fun j hj=>⟨by omega,fun h=>hj.2 (s5 j h).1⟩),by simp only;omega,by simp[g2,g4,g5,g6,g7,g8,g10,g11]⟩
  rw[hAs]
  have:=s6 Z (turnP fr at_ p) hlZ (hfZ.monoL fun j hj h=>⟨hj,h.2⟩) ⟨wa,rfl,hZ,by simp[turnP];exact hab⟩
  simpa using this
 ·rintro⟨e0,Y⟩ hIs
  obtain⟨hR,hf,hl,f2,f4,f5,f6,f7,f8,f10,f11⟩:=(hI _ _).1 hIs
  simp only at hR hf hl f2 f4 f5 f6 f7 f8 f10 f11 ⊢
  rw[List.take_length,List.drop_length,List.append_nil]at hR
  have hlR:=hR.lenOf
  rw[List.length_map]at hlR
  unfold vf22b1
  simp[f2,f4,f5,f6,f7,f8,f10,f11,hlR]
  exact hQ Y _ hR hf hl (by simp) (by simp) (by simp) (by simp)
end Go.Proofs.YtiecgmmaihckeaaGreat.Vm
