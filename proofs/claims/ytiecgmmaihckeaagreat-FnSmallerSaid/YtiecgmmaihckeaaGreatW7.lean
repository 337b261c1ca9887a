/- A part of the proof: the machine and the walks. No conditions. -/
import Derived.Test.YtiecgmmaihckeaaGreatW6
namespace Go.Proofs.YtiecgmmaihckeaaGreat.Vm
open Go.RowKit (wrap64)
set_option linter.unusedSimpArgs false
set_option linter.unusedVariables false
set_option maxRecDepth 100000
theorem hasI_neg (bs:List BlkR) (b:Nat) {h:Int} (hh:h<0):hasI (domF bs b) h=false:=by
 cases e:hasI (domF bs b) h with
 | false=>rfl
 | true =>
  obtain⟨a,_,ha,_⟩:=domF_mem (hasI_iff.1 e)
  omega

theorem arm_eq {bs:List BlkR} (hin:InRange bs) {b:Nat} (hb:b<bs.length) (hs:(seenF bs).getD b false=true) (x:Int):atB bs x b bs[b].list.length=hasI (domF bs b) (homeF bs x).1:=by
 unfold atB
 by_cases he:(homeF bs x).1=(b:Int)
 ·rw[if_pos he,he,(hasI_dom hin hb hb).2 (Dom.self ((seen_rch hin hb).1 hs))]
  refine decide_eq_true ?_
  rcases defGo_spec x bs 0 with⟨h1,h2⟩ | ⟨i,hi,h1,h2⟩
  ·change (homeF bs x).1=-1 at h2;omega
  ·change (homeF bs x).1=_ at h1
   have:i=b:=by omega
   subst this
   rcases h2 with⟨h2,_⟩ | ⟨n,hn,h2,_⟩
   ·change (homeF bs x).2=_ at h2;omega
   ·change (homeF bs x).2=_ at h2;omega
 ·rw[if_neg he]

theorem known_call {Z:Hp} {v:CV} {f:FnR} {d:Nat} {x i:Int} {b:Nat} (hv:Blocks Z v f.blocks) (hsh:shapeB f=true) (hD:DomsIn Z d f.blocks) (hb:b<f.blocks.length) (k:IV×Hp→Prop) :
  CM 149 [.agg [v,.i f.values],.c (.sl d 0 0 f.blocks.length),.c (.i x),.c (.i b),.c (.i i)] Z k=k (.c (.b (atB f.blocks x b i)),Z):=by
 refine det (cw149 ?_) k
 unfold vf149c
 obtain⟨s1,s2,s3,s4⟩:=shape_len hsh
 have hbb:f.blocks.length≤BIG:=by simp only[BIG];omega
 obtain⟨X,hX⟩:∃ X,Z++[(⟨[v,.i f.values],0,true,2⟩:Ob)]=X:=⟨_,rfl⟩
 have hp:Pre Z X:=⟨_,hX.symm⟩
 have hB:rdOb X Z.length 0=some ⟨[v,.i f.values],0,true,2⟩:=by rw[← hX];simp
 have hcall:=fun k=>specDefAt (m:=f.values) (v:=x) (Blocks.pre hp hv) hbb (fun b hb x hx hm=>(insB_d (shape_ins hsh hb hx) hm).1) k
 obtain⟨h,hh⟩:∃ h,homeF f.blocks x=h:=⟨_,rfl⟩
 have hh':defGo x f.blocks 0=h:=hh
 rw[hh']at hcall
 obtain⟨h1,h2⟩:=h
 obtain⟨cells,d1,d2,d3⟩:=(hD.pre hp).ob
 obtain⟨c,c1,c2⟩:=d3 b hb
 by_cases he:h1=(b:Int)
 ·have:atB f.blocks x b i=decide (h2<i):=by unfold atB;rw[hh];simp[he]
  simp[hX,rdN_ob hB,hcall,he,this]
  rw[gcRet_flat hp rfl]
 ·have h0:atB f.blocks x b i=hasI (domF f.blocks b) h1:=by unfold atB;rw[hh];simp[he]
  by_cases hn:0≤h1
  ·simp[hX,rdN_ob hB,hcall,he,h0,hn,idxOf,hb,rdC_ob d1,c1,l3Has_call c2 (domF_le hbb b)]
   rw[gcRet_flat hp rfl]
  ·rw[hasI_neg _ _ (by omega)]at h0
   simp[hX,rdN_ob hB,hcall,he,h0,hn]
   rw[gcRet_flat hp rfl]

theorem notAny {p:Int→Bool} {xs:List Int} {k:Nat} (hk:k<xs.length) (h:p xs[k]=false):xs.any (fun x=>!p x)=true:=List.any_eq_true.2 ⟨_,List.getElem_mem hk,by simp[h]⟩

theorem anyNone {p:Int→Bool} {xs:List Int} (h:∀ k (hk:k<xs.length),p xs[k]=true):xs.any (fun x=>!p x)=false:=by
 rw[List.any_eq_false]
 intro x hx
 obtain⟨k,hk,rfl⟩:=List.getElem_of_mem hx
 simp[h k hk]

set_option maxRecDepth 100000 in
theorem specTaken {H:Hp} {v:CV} {f:FnR} (hv:Blocks H v f.blocks) (hsh:shapeB f=true) (hseen:∀ b,b<f.blocks.length→(seenF f.blocks).getD b false=true) (k:IV×Hp→Prop) :
  CM 92 [.agg [v,.i f.values]] H k=k (.c (.b (pB (TakenOk f.blocks))),H):=by
 refine det (cw92 ?_) k
 unfold vf92c
 obtain⟨s1,s2,s3,s4⟩:=shape_len hsh
 have hbb:f.blocks.length≤BIG:=by simp only[BIG];omega
 have hin:InRange f.blocks:=shape_range hsh
 obtain⟨X,hX⟩:∃ X,H++[(⟨[v,.i f.values],0,true,2⟩:Ob)]=X:=⟨_,rfl⟩
 have hp:Pre H X:=⟨_,hX.symm⟩
 have hB:rdOb X H.length 0=some ⟨[v,.i f.values],0,true,2⟩:=by rw[← hX];simp
 simp[hX,rdN_ob hB]
 refine (specDoms (m:=f.values) (hv.pre hp) hin hbb (by omega)).mono ?_
 rintro _ ⟨d,X1,cells,rfl,hp1,d1,d2,d3⟩
 have hD:DomsIn X1 d f.blocks:=DomsRes.mk' d1 d2 d3
 have hpH:Pre H X1:=hp.trans hp1
 have hB1:=hp1.rdOb hB
 have hv1:=Blocks.pre hpH hv
 have hl:=hv1.lenOf
 simp
 obtain⟨I,hI⟩:∃ I:Nat→St→Prop,∀ i st,I i st↔((∀ j,j<i→BlkOk f.blocks j)∧Pre X1 st.h ∧
   Env.get st.e 1=.c (.p H.length 0 0)∧Env.get st.e 3=.c (.sl d 0 0 f.blocks.length)∧Env.get st.e 4=.c (.i i)):=⟨_,fun _ _=>Iff.rfl⟩
 refine wp_for CM_mono f.blocks.length I ((hI _ _).2 ⟨by simp,Pre.refl _,by simp⟩) ?_ ?_
 ·rintro i ⟨e,Y⟩ hi hIs
  obtain⟨hdone,hY,e1,e3,e4⟩:=(hI _ _).1 hIs
  simp only at hY e1 e3 e4 ⊢
  have hmem:f.blocks[i]∈f.blocks:=List.getElem_mem hi
  have hlens:=shape_lens hsh hmem
  have hBY:=hY.rdOb hB1
  have hvY:=hv1.pre hY
  obtain⟨i0,g0,off0,w,u,q1,q1',q2,qp,ql,qpl,qll,_,_⟩:=Blocks.get hvY hi
  have q2':=q2 []
  rw[List.append_nil]at q2'
  obtain⟨t,ht⟩:∃ t,f.blocks[i].term=t:=⟨_,rfl⟩
  rw[ht]at q2'
  obtain⟨Y1,hY1⟩:∃ Y1,Y++[(⟨[w,u,.i t.kind,.i t.a,.i t.to,.i t.els],0,true,6⟩:Ob)]=Y1:=⟨_,rfl⟩
  have hpY1:Pre Y Y1:=⟨_,hY1.symm⟩
  have h5:rdOb Y1 Y.length 0=some ⟨[w,u,.i t.kind,.i t.a,.i t.to,.i t.els],0,true,6⟩:=by rw[← hY1];simp
  have hpl:=qp.lenOf
  have hll:=ql.lenOf
  have hbad:¬ BlkOk f.blocks i→pB (TakenOk f.blocks)=false:=fun h=>pB_false fun hc=>h (hc i)
  unfold vf92b5
  simp[e1,e3,e4,hi,rdC_ob hBY,hl,q1,q2'.2.2.2.2.2.2.2.2.2.2,put66c,hY1]
  obtain⟨J,hJ⟩:∃ J:Nat→St→Prop,∀ j st,J j st↔((∀ k (hk:k<f.blocks[i].list.length),k<j→(usesF f.blocks[i].list[k]).any (fun x=>!atB f.blocks x i k)=false)∧Pre Y1 st.h ∧
    Env.get st.e 1=.c (.p H.length 0 0)∧Env.get st.e 3=.c (.sl d 0 0 f.blocks.length)∧Env.get st.e 4=.c (.i i)∧Env.get st.e 5=.c (.p Y.length 0 0)∧Env.get st.e 6=.c (.i j)):=⟨_,fun _ _=>Iff.rfl⟩
  refine wp_for CM_mono f.blocks[i].list.length J ((hJ _ _).2 ⟨by simp,Pre.refl _,by simp[e1,e3,e4]⟩) ?_ ?_
  ·rintro j ⟨e',Z⟩ hj hJs
   obtain⟨hdl,hZ,e1,e3,e4,e5,e6⟩:=(hJ _ _).1 hJs
   simp only at hZ e1 e3 e4 e5 e6 ⊢
   have h5Z:=hZ.rdOb h5
   obtain⟨id2,g2,off2,r1,_,r2,_⟩:=List5.get (List5.pre (hpY1.trans hZ) ql) hj
   have r2':=r2 []
   rw[List.append_nil]at r2'
   obtain⟨x,hx⟩:∃ x,f.blocks[i].list[j]=x:=⟨_,rfl⟩
   rw[hx]at r2'
   obtain⟨uw,L,hw,hcall⟩:=specUses Z x
   obtain⟨Z2,hZ2⟩:∃ Z2,Z++L=Z2:=⟨_,rfl⟩
   have hwI:=hw.isI
   have hpZ2:Pre Z Z2:=⟨_,hZ2.symm⟩
   rw[hZ2]at hwI
   have hpA:Pre X1 Z2:=((hY.trans hpY1).trans hZ).trans hpZ2
   have hBZ:=hpA.rdOb hB1
   have hvZ:=hv1.pre hpA
   have hDZ:=hD.pre hpA
   have hwl:=hwI.lenOf
   have hul:=usesF_le x
   unfold vf92b1
   simp[e1,e3,e4,e5,e6,rdC_ob h5Z,hll,hj,r1,r2'.2.2.2.2.2,hcall,hZ2]
   obtain⟨K,hK⟩:∃ K:Nat→St→Prop,∀ k st,K k st↔((∀ m (hm:m<(usesF x).length),m<k→atB f.blocks (usesF x)[m] i j=true)∧st.h=Z2 ∧
     Env.get st.e 1=.c (.p H.length 0 0)∧Env.get st.e 3=.c (.sl d 0 0 f.blocks.length)∧Env.get st.e 4=.c (.i i)∧Env.get st.e 5=.c (.p Y.length 0 0)∧Env.get st.e 6=.c (.i j)∧Env.get st.e 7=.c uw∧Env.get st.e 8=.c (.i k)):=⟨_,fun _ _=>Iff.rfl⟩
   refine wp_for CM_mono (usesF x).length K ((hK _ _).2 ⟨by simp,rfl,by simp[e1,e3,e4,e5,e6]⟩) ?_ ?_
   ·rintro k ⟨e2,W⟩ hk hKs
    obtain⟨hdu,hW,e1,e3,e4,e5,e6,e7,e8⟩:=(hK _ _).1 hKs
    simp only at hW e1 e3 e4 e5 e6 e7 e8 ⊢
    subst hW
    obtain⟨id3,g3,off3,p1,p2⟩:=hwI.at_ hk
    unfold vf92b0
    cases hat:atB f.blocks (usesF x)[k] i j with
    | true =>
     simp[e1,e3,e4,e5,e6,e7,e8,hwl,hk,rdN_ob hBZ,p1,p2,known_call hvZ hsh hDZ hi,hat,up1 hk (show (usesF x).length≤BIG by simp only[BIG];omega)]
     refine (hK _ _).2 ⟨?_,rfl,by simp[e1,e3,e4,e5,e6,e7]⟩
     intro m hm hmk
     by_cases em:m=k
     ·subst em;exact hat
     ·exact hdu m hm (by omega)
    | false =>
     have hb:=hbad fun hc=>by
      have:=(hc hi).2.1 j hj
      rw[hx,notAny hk (p:=fun y=>atB f.blocks y i j) hat]at this;cases this
     simp[e1,e3,e4,e5,e6,e7,e8,hwl,hk,rdN_ob hBZ,p1,p2,known_call hvZ hsh hDZ hi,hat]
     rw[gcRet_flat (hpH.trans hpA) rfl,hb]
   ·rintro⟨e2,W⟩ hKs
    obtain⟨hdu,hW,e1,e3,e4,e5,e6,e7,e8⟩:=(hK _ _).1 hKs
    simp only at hW e1 e3 e4 e5 e6 e7 e8 ⊢
    subst hW
    unfold vf92b0
    simp[e1,e3,e4,e5,e6,e7,e8,hwl,up1 hj qll]
    refine (hJ _ _).2 ⟨?_,hZ.trans hpZ2,by simp[e1,e3,e4,e5]⟩
    intro m hm hmj
    by_cases em:m=j
    ·subst em;rw[hx];exact anyNone (p:=fun y=>atB f.blocks y i m) fun q hq=>hdu q hq hq
    ·exact hdl m hm (by omega)
  ·rintro⟨e',Z⟩ hJs
   obtain⟨hdl,hZ,e1,e3,e4,e5,e6⟩:=(hJ _ _).1 hJs
   simp only at hZ e1 e3 e4 e5 e6 ⊢
   have h5Z:=hZ.rdOb h5
   obtain⟨uw,L,hw,hcall⟩:=specTUses Z t
   obtain⟨Z2,hZ2⟩:∃ Z2,Z++L=Z2:=⟨_,rfl⟩
   have hwI:=hw.isI
   have hpZ2:Pre Z Z2:=⟨_,hZ2.symm⟩
   rw[hZ2]at hwI
   have hpA:Pre X1 Z2:=((hY.trans hpY1).trans hZ).trans hpZ2
   have hBZ:=hpA.rdOb hB1
   have hvZ:=hv1.pre hpA
   have hDZ:=hD.pre hpA
   have h5A:=hpZ2.rdOb h5Z
   have hwl:=hwI.lenOf
   have hul:=tusesF_le t
   unfold vf92b1
   simp[e1,e3,e4,e5,e6,rdC_ob h5Z,rdN_ob h5Z,hll,hcall,hZ2]
   obtain⟨K,hK⟩:∃ K:Nat→St→Prop,∀ k st,K k st↔((∀ m (hm:m<(tusesF t).length),m<k→atB f.blocks (tusesF t)[m] i f.blocks[i].list.length=true)∧st.h=Z2 ∧
     Env.get st.e 1=.c (.p H.length 0 0)∧Env.get st.e 3=.c (.sl d 0 0 f.blocks.length)∧Env.get st.e 4=.c (.i i)∧Env.get st.e 5=.c (.p Y.length 0 0)∧Env.get st.e 9=.c uw∧Env.get st.e 10=.c (.i k)):=⟨_,fun _ _=>Iff.rfl⟩
   refine wp_for CM_mono (tusesF t).length K ((hK _ _).2 ⟨by simp,rfl,by simp[e1,e3,e4,e5]⟩) ?_ ?_
   ·rintro k ⟨e2,W⟩ hk hKs
    obtain⟨hdu,hW,e1,e3,e4,e5,e9,e10⟩:=(hK _ _).1 hKs
    simp only at hW e1 e3 e4 e5 e9 e10 ⊢
    subst hW
    obtain⟨id3,g3,off3,p1,p2⟩:=hwI.at_ hk
    unfold vf92b2
    cases hat:atB f.blocks (tusesF t)[k] i f.blocks[i].list.length with
    | true =>
     simp[e1,e3,e4,e5,e9,e10,hwl,hk,rdN_ob hBZ,rdC_ob h5A,hll,p1,p2,known_call hvZ hsh hDZ hi,hat,up1 hk (show (tusesF t).length≤BIG by simp only[BIG];omega)]
     refine (hK _ _).2 ⟨?_,rfl,by simp[e1,e3,e4,e5,e9]⟩
     intro m hm hmk
     by_cases em:m=k
     ·subst em;exact hat
     ·exact hdu m hm (by omega)
    | false =>
     have hb:=hbad fun hc=>by
      have:=(hc hi).2.2
      rw[ht,notAny hk (p:=fun y=>atB f.blocks y i f.blocks[i].list.length) hat]at this;cases this
     simp[e1,e3,e4,e5,e9,e10,hwl,hk,rdN_ob hBZ,rdC_ob h5A,hll,p1,p2,known_call hvZ hsh hDZ hi,hat]
     rw[gcRet_flat (hpH.trans hpA) rfl,hb]
   ·rintro⟨e2,W⟩ hKs
    obtain⟨hdu,hW,e1,e3,e4,e5,e9,e10⟩:=(hK _ _).1 hKs
    simp only at hW e1 e3 e4 e5 e9 e10 ⊢
    subst hW
    have hterm:(tusesF f.blocks[i].term).any (fun x=>!atB f.blocks x i f.blocks[i].list.length)=false:=by
     rw[ht];exact anyNone (p:=fun y=>atB f.blocks y i f.blocks[i].list.length) fun q hq=>hdu q hq hq
    have hlist:ListOk f.blocks f.blocks[i] i:=fun q hq=>hdl q hq hq
    unfold vf92b2
    simp[e1,e3,e4,e5,e9,e10,hwl]
    have hqp:=Phis.pre ((hpY1.trans hZ).trans hpZ2) qp
    obtain⟨A,hA⟩:∃ A:Nat→St→Prop,∀ j st,A j st↔((∀ p∈f.blocks[i].phis.take j,∀ a∈p.arms,hasI (domF f.blocks a.fr.toNat) (homeF f.blocks a.v).1=true)∧Pre W st.h ∧
      Env.get st.e 1=.c (.p H.length 0 0)∧Env.get st.e 3=.c (.sl d 0 0 f.blocks.length)∧Env.get st.e 4=.c (.i i)∧Env.get st.e 5=.c (.p Y.length 0 0)∧Env.get st.e 11=.c (.i j)):=⟨_,fun _ _=>Iff.rfl⟩
    refine wp_for CM_mono f.blocks[i].phis.length A ((hA _ _).2 ⟨by simp,Pre.refl _,by simp[e1,e3,e4,e5]⟩) ?_ ?_
    ·rintro j ⟨e',V⟩ hj hAs
     obtain⟨hdp,hV,e1,e3,e4,e5,e11⟩:=(hA _ _).1 hAs
     simp only at hV e1 e3 e4 e5 e11 ⊢
     obtain⟨id2,g2,off2,w2,r1,r2,_,qa,_⟩:=Phis.get (Phis.pre hV hqp) hj
     obtain⟨ph,hph⟩:∃ ph,f.blocks[i].phis[j]=ph:=⟨_,rfl⟩
     have hphB:=shape_phi hsh hmem (List.getElem_mem hj)
     rw[hph]at r2 hphB qa
     obtain⟨_,hal,harm⟩:=phi_vals hphB
     have hall:=qa.lenOf
     have h5V:=hV.rdOb h5A
     unfold vf92b4
     simp[e1,e3,e4,e5,e11,rdC_ob h5V,hpl,hj]
     obtain⟨B,hBd⟩:∃ B:Nat→St→Prop,∀ k st,B k st↔((∀ a∈ph.arms.take k,hasI (domF f.blocks a.fr.toNat) (homeF f.blocks a.v).1=true)∧Pre V st.h ∧
       Env.get st.e 1=.c (.p H.length 0 0)∧Env.get st.e 3=.c (.sl d 0 0 f.blocks.length)∧Env.get st.e 4=.c (.i i)∧Env.get st.e 5=.c (.p Y.length 0 0)∧Env.get st.e 11=.c (.i j)∧Env.get st.e 12=.c (.i k)):=⟨_,fun _ _=>Iff.rfl⟩
     refine wp_for CM_mono ph.arms.length B ((hBd _ _).2 ⟨by simp,Pre.refl _,by simp[e1,e3,e4,e5,e11]⟩) ?_ ?_
     ·rintro k ⟨e2,U⟩ hk hBs
      obtain⟨hda,hU,e1,e3,e4,e5,e11,e12⟩:=(hBd _ _).1 hBs
      simp only at hU e1 e3 e4 e5 e11 e12 ⊢
      obtain⟨hfr,_⟩:=harm k hk
      obtain⟨id3,g3,off3,m1,⟨m2,m3,m4⟩,m5,m6,m7⟩:=Arms.get (qa.pre hU) hk
      have r2U:=hU.rdC r2.2.1
      obtain⟨a,ha⟩:∃ a,ph.arms[k]=a:=⟨_,rfl⟩
      rw[ha]at m2 m3 m4 hfr
      obtain⟨fb,hfb,hfbl⟩:∃ fb:Nat,a.fr=fb∧fb<f.blocks.length:=by
       have:=of_decide_eq_true hfr
       exact⟨a.fr.toNat,by omega,by omega⟩
      obtain⟨U1,hU1⟩:∃ U1,U++[(⟨[.i a.fr,.i a.v],0,true,2⟩:Ob)]=U1:=⟨_,rfl⟩
      have hpU1:Pre U U1:=⟨_,hU1.symm⟩
      have h13:rdOb U1 U.length 0=some ⟨[.i fb,.i a.v],0,true,2⟩:=by rw[← hU1,hfb];simp
      have h5U:=hU.rdOb h5V
      have hpB:Pre X1 U1:=((hpA.trans hV).trans hU).trans hpU1
      have hBU:=hpB.rdOb hB1
      have hvU:=hv1.pre hpB
      have hDU:=hD.pre hpB
      obtain⟨ib,gb,offb,wb,ub,z1,z2,_,_,zl,_,zll,_,_⟩:=Blocks.get hvU hfbl
      have hzl:=zl.lenOf
      have hae:=arm_eq hin hfbl (hseen fb hfbl) a.v
      have htn:a.fr.toNat=fb:=by omega
      unfold vf92b3
      cases hh:hasI (domF f.blocks fb) (homeF f.blocks a.v).1 with
      | true =>
       rw[hh]at hae
       simp[e1,e3,e4,e5,e11,e12,rdC_ob h5U,r1,r2U,hall,hk,m1,m4,putD0,hU1,rdN_ob hBU,rdC_ob hBU,rdC_ob h13,z1,z2.2.1,hzl,known_call hvU hsh hDU hfbl,hae,up1 hk (show ph.arms.length≤BIG by simp only[BIG];omega)]
       refine (hBd _ _).2 ⟨?_,hU.trans hpU1,by simp[e1,e3,e4,e5,e11]⟩
       intro y hy
       rw[List.take_succ_eq_append_getElem hk]at hy
       rcases List.mem_append.1 hy with h | h
       ·exact hda y h
       ·simp at h;rw[h,ha,htn];exact hh
      | false =>
       rw[hh]at hae
       have hb:=hbad fun hc=>by
        have:=(hc hi).1 ph (hph▸List.getElem_mem hj) a (ha▸List.getElem_mem hk)
        rw[htn,hh]at this;cases this
       simp[e1,e3,e4,e5,e11,e12,rdC_ob h5U,r1,r2U,hall,hk,m1,m4,putD0,hU1,rdN_ob hBU,rdC_ob hBU,rdC_ob h13,z1,z2.2.1,hzl,known_call hvU hsh hDU hfbl,hae]
       rw[gcRet_flat (hpH.trans hpB) rfl,hb]
     ·rintro⟨e2,U⟩ hBs
      obtain⟨hda,hU,e1,e3,e4,e5,e11,e12⟩:=(hBd _ _).1 hBs
      simp only at hU e1 e3 e4 e5 e11 e12 ⊢
      rw[List.take_length]at hda
      have h5U:=hU.rdOb h5V
      have r2U:=hU.rdC r2.2.1
      unfold vf92b3
      simp[e1,e3,e4,e5,e11,e12,rdC_ob h5U,r1,r2U,hall,up1 hj qpl]
      refine (hA _ _).2 ⟨?_,hV.trans hU,by simp[e1,e3,e4,e5]⟩
      intro p hp'
      rw[List.take_succ_eq_append_getElem hj]at hp'
      rcases List.mem_append.1 hp' with h | h
      ·exact hdp p h
      ·simp at h;rw[h,hph];exact hda
    ·rintro⟨e',V⟩ hAs
     obtain⟨hdp,hV,e1,e3,e4,e5,e11⟩:=(hA _ _).1 hAs
     simp only at hV e1 e3 e4 e5 e11 ⊢
     rw[List.take_length]at hdp
     have h5V:=hV.rdOb h5A
     unfold vf92b4
     simp[e1,e3,e4,e5,e11,rdC_ob h5V,hpl,up1 hi hbb]
     refine (hI _ _).2 ⟨?_,hpA.trans hV,by simp[e1,e3]⟩
     intro j hj
     by_cases ej:j=i
     ·subst ej;exact fun _=>⟨hdp,hlist,hterm⟩
     ·exact hdone j (by omega)
 ·rintro⟨e,Y⟩ hIs
  obtain⟨hdone,hY,e1,e3,e4⟩:=(hI _ _).1 hIs
  simp only at hY e1 e3 e4 ⊢
  have hyes:TakenOk f.blocks:=fun j hj=>hdone j hj hj
  unfold vf92b5
  simp[e1,e3,e4,rdC_ob (hY.rdOb hB1),hl]
  rw[gcRet_flat (hpH.trans hY) rfl,pB_true hyes]
theorem cf_any:∀ l:List Bool,(l.any fun y=>decide (false=y))=decide (0<cf l):=by
 intro l
 induction l with
 | nil=>simp[cf]
 | cons a r ih=>cases a<;>simp[cf]at ih ⊢<;>omega

def phis0 (bs:List BlkR):Nat:=match bs with
 | []=>0
 | b :: _=>b.phis.length

theorem phis0_eq {bs:List BlkR} (h:0<bs.length):phis0 bs=(bs[0]).phis.length:=by
 cases bs with
 | nil=>simp at h
 | cons b r=>rfl

noncomputable def checkW (f:FnR):Int:=
 if decide (0<cf (seenF f.blocks))=true then 2
 else if 0<phis0 f.blocks∨0<(predsF f.blocks 0).length then 3
 else if pB (ArmsRight f.blocks)=false then 4
 else if ((madeF f).any fun n=>decide (1<n))=true then 5
 else if pB (TakenOk f.blocks)=false then 6 else 0

noncomputable def checkF (f:FnR):Int:=if shapeB f=true∧copiesB f.blocks=false then checkW f else 1

theorem pB_not (p:Prop):pB (¬ p)=!pB p:=by
 by_cases h:p
 ·rw[pB_true h,pB_false (by simpa using h)];rfl
 ·rw[pB_false h,pB_true h];rfl

theorem check1 (H:Hp) (x:Int) (k:IV×Hp→Prop):CM 61 [.c (.i x)] H k=k (.c (.b (decide (1<x))),H):=by
 refine det (cw61 ?_) k
 unfold vf61c
 simp

theorem blkZ {X:Hp} {v:CV} {bs:List BlkR} (hv:Blocks X v bs) (h0:0<bs.length):∃ id g off w,idxOf 6 v 0=some (.p id g off)∧rdC X id g off=some w∧lenOf w=some (phis0 bs):=by
 obtain⟨id,g,off,w,u,q1,q2,_,qp,_⟩:=Blocks.get hv h0
 exact⟨id,g,off,w,q1,q2.1,by rw[phis0_eq h0];exact qp.lenOf⟩

set_option maxRecDepth 100000 in
theorem implCheck {H:Hp} {v:CV} {f:FnR} (hv:Blocks H v f.blocks) (hb:f.blocks.length≤BIG) (k:IV×Hp→Prop) :
  CM 18 [.agg [v,.i f.values]] H k=k (.c (.i (checkF f)),H):=by
 refine det (cw18 ?_) k
 unfold vf18c
 obtain⟨X,hX⟩:∃ X,H++[(⟨[v,.i f.values],0,true,2⟩:Ob)]=X:=⟨_,rfl⟩
 have hp:Pre H X:=⟨_,hX.symm⟩
 have hB:rdOb X H.length 0=some ⟨[v,.i f.values],0,true,2⟩:=by rw[← hX];simp
 have hvX:=Blocks.pre hp hv
 cases hsh:shapeB f with
 | false =>
  have:checkF f=1:=by unfold checkF;simp[hsh]
  simp[hX,rdN_ob hB,implShape hvX hb,hsh,this]
  rw[gcRet_flat hp rfl]
 | true =>
  cases hco:copiesB f.blocks with
  | true =>
   have:checkF f=1:=by unfold checkF;simp[hco]
   simp[hX,rdN_ob hB,implShape hvX hb,hsh,implCopies hvX hb,hco,this]
   rw[gcRet_flat hp rfl]
  | false =>
   have hck:checkF f=checkW f:=by unfold checkF;simp[hsh,hco]
   have h0:0<f.blocks.length:=shape_pos hsh
   have hin:InRange f.blocks:=shape_range hsh
   simp[hX,rdN_ob hB,implShape hvX hb,hsh,implCopies hvX hb,hco]
   rw[hck]
   refine (implOrder (m:=f.values) hvX hin hb h0).mono ?_
   rintro _ ⟨o,g,s,gs,X2,rfl,hp2,_,_,_,hs⟩
   have hB2:=hp2.rdOb hB
   have hv2:=hvX.pre hp2
   have hpH:=hp.trans hp2
   have hsl:(seenF f.blocks).length=f.blocks.length:=(walk0_ok h0).1
   have hIL:IsL X2 (.sl s gs 0 f.blocks.length) (seenF f.blocks):=by
    have:=IsL.mk (off:=0) (xs:=seenF f.blocks) hs rfl (by simp) (by rw[List.drop_zero,List.take_of_length_le (by simp)])
    rwa [hsl]at this
   have hcb:=fun k=>containsBool (x:=false) hIL (by omega) k
   simp only[cf_any]at hcb
   by_cases hcf:0<cf (seenF f.blocks)
   ·have:checkW f=2:=by unfold checkW;simp[hcf]
    simp[hcb,hcf,this]
    rw[gcRet_flat hpH rfl]
   ·obtain⟨id0,g0,off0,w0,z1,z2,z3⟩:=blkZ hv2 h0
    by_cases hph:0<phis0 f.blocks
    ·have:checkW f=3:=by unfold checkW;simp[hcf,hph]
     simp[hcb,hcf,rdC_ob hB2,z1,z2,z3,hph,this]
     rw[gcRet_flat hpH rfl]
    ·obtain⟨pw,L,hpw,hcall⟩:=implPreds (m:=f.values) (b:=0) hv2 hb
     obtain⟨X3,hX3⟩:∃ X3,X2++L=X3:=⟨_,rfl⟩
     have hp3:Pre X2 X3:=⟨_,hX3.symm⟩
     have hpwI:=hpw.isI
     rw[hX3]at hpwI
     have hplen:=hpwI.lenOf
     have hB3:=hp3.rdOb hB2
     have hv3:=hv2.pre hp3
     have hpH3:=hpH.trans hp3
     by_cases hpr:0<(predsF f.blocks 0).length
     ·have:checkW f=3:=by unfold checkW;simp[hcf,hpr]
      simp[hcb,hcf,rdC_ob hB2,rdN_ob hB2,z1,z2,z3,hph,hcall,hX3,hplen,hpr,this]
      rw[gcRet_flat hpH3 rfl]
     ·simp[hcb,hcf,rdC_ob hB2,rdN_ob hB2,z1,z2,z3,hph,hcall,hX3,hplen,hpr,rdN_ob hB3,implArms hv3 hsh,pB_not]
      cases har:pB (ArmsRight f.blocks) with
      | false =>
       have:checkW f=4:=by unfold checkW;simp[hcf,hph,hpr,har]
       simp[this]
       rw[gcRet_flat hpH3 rfl]
      | true =>
       obtain⟨X4,hX4⟩:∃ X4,X3++[(⟨(madeF f).map .i,0,true,1⟩:Ob)]=X4:=⟨_,rfl⟩
       have hp4:Pre X3 X4:=⟨_,hX4.symm⟩
       have hml:(madeF f).length=f.values.toNat:=by unfold madeF;rw[ticksB_len];simp
       have h4:rdOb X4 X3.length 0=some ⟨(madeF f).map .i,0,true,1⟩:=by rw[← hX4];simp
       have hMI:IsI X4 (.sl X3.length 0 0 f.values.toNat) (madeF f):=by
        have:=IsI.mk (off:=0) (xs:=madeF f) h4 rfl (by simp) (by rw[List.drop_zero,List.take_of_length_le (by simp)])
        rwa [hml]at this
       obtain⟨s1,s2,s3,s4⟩:=shape_len hsh
       have hcf2:=fun k=>containsFInt hMI (by rw[hml];simp only[BIG];omega) (fid:=61) (caps:=[]) (fun n=>decide (1<n)) (fun x _ k=>check1 X4 x k) k
       have hB4:=hp4.rdOb hB3
       have hv4:=hv3.pre hp4
       have hpH4:=hpH3.trans hp4
       simp[rdN_ob hB3,implMade hv3 hsh,hX4,hcf2]
       cases hma:(madeF f).any fun n=>decide (1<n) with
       | true =>
        have:checkW f=5:=by unfold checkW;simp[hcf,hph,hpr,har,hma]
        simp[this]
        rw[gcRet_flat hpH4 rfl]
       | false =>
        simp[rdN_ob hB4,implTaken hv4 hsh,pB_not]
        cases hta:pB (TakenOk f.blocks) with
        | false =>
         have:checkW f=6:=by unfold checkW;simp[hcf,hph,hpr,har,hma,hta]
         simp[this]
         rw[gcRet_flat hpH4 rfl]
        | true =>
         have:checkW f=0:=by unfold checkW;simp[hcf,hph,hpr,har,hma,hta]
         simp[this]
         rw[gcRet_flat hpH4 rfl]

set_option maxRecDepth 100000 in
theorem specCheck {H:Hp} {v:CV} {f:FnR} (hv:Blocks H v f.blocks) (hb:f.blocks.length≤BIG) (k:IV×Hp→Prop) :
  CM 43 [.agg [v,.i f.values]] H k=k (.c (.i (checkF f)),H):=by
 refine det (cw43 ?_) k
 unfold vf43c
 obtain⟨X,hX⟩:∃ X,H++[(⟨[v,.i f.values],0,true,2⟩:Ob)]=X:=⟨_,rfl⟩
 have hp:Pre H X:=⟨_,hX.symm⟩
 have hB:rdOb X H.length 0=some ⟨[v,.i f.values],0,true,2⟩:=by rw[← hX];simp
 have hvX:=Blocks.pre hp hv
 cases hsh:shapeB f with
 | false =>
  have:checkF f=1:=by unfold checkF;simp[hsh]
  simp[hX,rdN_ob hB,specShape hvX hb,hsh,this]
  rw[gcRet_flat hp rfl]
 | true =>
  cases hco:copiesB f.blocks with
  | true =>
   have:checkF f=1:=by unfold checkF;simp[hco]
   simp[hX,rdN_ob hB,specShape hvX hb,hsh,specCopies hvX hb,hco,this]
   rw[gcRet_flat hp rfl]
  | false =>
   have hck:checkF f=checkW f:=by unfold checkF;simp[hsh,hco]
   have h0:0<f.blocks.length:=shape_pos hsh
   have hin:InRange f.blocks:=shape_range hsh
   have hok:=walk0_ok h0
   have hol:(ordF f.blocks).length=(walk0 f.blocks).2.length:=by unfold ordF;simp
   have hocf:(ordF f.blocks).length+cf (seenF f.blocks)=f.blocks.length:=by unfold seenF;omega
   obtain⟨X2,hX2⟩:∃ X2,X++[(⟨(ordF f.blocks).map .i,0,true,1⟩:Ob)]=X2:=⟨_,rfl⟩
   have hp2:Pre X X2:=⟨_,hX2.symm⟩
   have hB2:=hp2.rdOb hB
   have hv2:=hvX.pre hp2
   have hpH:=hp.trans hp2
   have hl2:=hv2.lenOf
   rw[hck]
   by_cases hcf:0<cf (seenF f.blocks)
   ·have:checkW f=2:=by unfold checkW;simp[hcf]
    have hne:¬ ((ordF f.blocks).length:Int)=(f.blocks.length:Int):=by omega
    simp[hX,rdN_ob hB,rdC_ob hB,specShape hvX hb,hsh,specCopies hvX hb,hco,specOrderL hvX hin hb h0,hX2,rdC_ob hB2,hB,hB2,hl2,hne,this]
    rw[gcRet_flat hpH rfl]
   ·have heq:((ordF f.blocks).length:Int)=(f.blocks.length:Int):=by omega
    obtain⟨id0,g0,off0,w0,z1,z2,z3⟩:=blkZ hv2 h0
    by_cases hph:0<phis0 f.blocks
    ·have:checkW f=3:=by unfold checkW;simp[hcf,hph]
     simp[hX,rdN_ob hB,rdC_ob hB,specShape hvX hb,hsh,specCopies hvX hb,hco,specOrderL hvX hin hb h0,hX2,rdC_ob hB2,hB,hB2,hl2,heq,z1,z2,z3,hph,this]
     rw[gcRet_flat hpH rfl]
    ·obtain⟨pw,L,hpw,hcall⟩:=specPreds (m:=f.values) (b:=0) hv2 hb
     obtain⟨X3,hX3⟩:∃ X3,X2++L=X3:=⟨_,rfl⟩
     have hp3:Pre X2 X3:=⟨_,hX3.symm⟩
     have hpwI:=hpw.isI
     rw[hX3]at hpwI
     have hplen:=hpwI.lenOf
     have hB3:=hp3.rdOb hB2
     have hv3:=hv2.pre hp3
     have hpH3:=hpH.trans hp3
     by_cases hpr:0<(predsF f.blocks 0).length
     ·have:checkW f=3:=by unfold checkW;simp[hcf,hpr]
      simp[hX,rdN_ob hB,rdC_ob hB,specShape hvX hb,hsh,specCopies hvX hb,hco,specOrderL hvX hin hb h0,hX2,rdC_ob hB2,hB,hB2,rdN_ob hB2,hl2,heq,z1,z2,z3,hph,hcall,hX3,hplen,hpr,this]
      rw[gcRet_flat hpH3 rfl]
     ·simp[hX,rdN_ob hB,rdC_ob hB,specShape hvX hb,hsh,specCopies hvX hb,hco,specOrderL hvX hin hb h0,hX2,rdC_ob hB2,hB,hB2,rdN_ob hB2,hl2,heq,z1,z2,z3,hph,hcall,hX3,hplen,hpr,rdN_ob hB3,specArms hv3 hsh]
      cases har:pB (ArmsRight f.blocks) with
      | false =>
       have:checkW f=4:=by unfold checkW;simp[hcf,hph,hpr,har]
       simp[this]
       rw[gcRet_flat hpH3 rfl]
      | true =>
       obtain⟨X4,hX4⟩:∃ X4,X3++[(⟨(madeF f).map .i,0,true,1⟩:Ob)]=X4:=⟨_,rfl⟩
       have hp4:Pre X3 X4:=⟨_,hX4.symm⟩
       have hml:(madeF f).length=f.values.toNat:=by unfold madeF;rw[ticksB_len];simp
       have h4:rdOb X4 X3.length 0=some ⟨(madeF f).map .i,0,true,1⟩:=by rw[← hX4];simp
       have hMI:IsI X4 (.sl X3.length 0 0 f.values.toNat) (madeF f):=by
        have:=IsI.mk (off:=0) (xs:=madeF f) h4 rfl (by simp) (by rw[List.drop_zero,List.take_of_length_le (by simp)])
        rwa [hml]at this
       obtain⟨s1,s2,s3,s4⟩:=shape_len hsh
       have hmb:(madeF f).length≤BIG:=by rw[hml];simp only[BIG];omega
       have hMl:=hMI.lenOf
       have hB4:=hp4.rdOb hB3
       have hv4:=hv3.pre hp4
       have hpH4:=hpH3.trans hp4
       have hseen:∀ b,b<f.blocks.length→(seenF f.blocks).getD b false=true:=by
        intro b hb'
        have hsl:(seenF f.blocks).length=f.blocks.length:=hok.1
        have hany:=cf_any (seenF f.blocks)
        rw[decide_eq_false hcf,List.any_eq_false]at hany
        have hlt:b<(seenF f.blocks).length:=by omega
        have:=hany _ (List.getElem_mem hlt)
        rw[List.getD_eq_getElem?_getD,List.getElem?_eq_getElem hlt]
        cases hx:(seenF f.blocks)[b] with
        | true=>rfl
        | false=>rw[hx]at this;simp at this
       simp[rdN_ob hB3,specMade5 hv3 hsh,hX4]
       obtain⟨I,hI⟩:∃ I:Nat→St→Prop,∀ i st,I i st↔((∀ j (hj:j<(madeF f).length),j<i→¬ 1<(madeF f)[j])∧st.h=X4 ∧
         Env.get st.e 1=.c (.p H.length 0 0)∧Env.get st.e 3=.c (.sl X3.length 0 0 f.values.toNat)∧Env.get st.e 4=.c (.i i)):=⟨_,fun _ _=>Iff.rfl⟩
       refine wp_for CM_mono (madeF f).length I ((hI _ _).2 ⟨by simp,rfl,by simp⟩) ?_ ?_
       ·rintro i ⟨e,Y⟩ hi hIs
        obtain⟨hdone,hY,e1,e3,e4⟩:=(hI _ _).1 hIs
        simp only at hY e1 e3 e4 ⊢
        subst hY
        obtain⟨id3,g3,off3,p1,p2⟩:=hMI.at_ hi
        have hiv:(i:Int)<f.values.toNat:=by omega
        unfold vf43b0
        by_cases hx:1<(madeF f)[i]
        ·have hma:((madeF f).any fun n=>decide (1<n))=true:=List.any_eq_true.2 ⟨_,List.getElem_mem hi,decide_eq_true hx⟩
         have:checkW f=5:=by unfold checkW;simp[hcf,hph,hpr,har,hma]
         simp[e1,e3,e4,hml▸hi,show max f.values 0=f.values by omega,show (i:Int)<f.values by omega,p1,p2,hx,this]
         rw[gcRet_flat hpH4 rfl]
        ·simp[e1,e3,e4,hml▸hi,show max f.values 0=f.values by omega,show (i:Int)<f.values by omega,p1,p2,hx,up1 hi hmb]
         refine (hI _ _).2 ⟨?_,rfl,by simp[e1,e3]⟩
         intro j hj hji
         by_cases ej:j=i
         ·subst ej;exact hx
         ·exact hdone j hj (by omega)
       ·rintro⟨e,Y⟩ hIs
        obtain⟨hdone,hY,e1,e3,e4⟩:=(hI _ _).1 hIs
        simp only at hY e1 e3 e4 ⊢
        subst hY
        have hma:((madeF f).any fun n=>decide (1<n))=false:=by
         rw[List.any_eq_false]
         intro x hx
         obtain⟨j,hj,rfl⟩:=List.getElem_of_mem hx
         simpa using hdone j hj hj
        unfold vf43b0
        simp[e1,e3,e4,hml,rdN_ob hB4,specTaken hv4 hsh hseen]
        cases hta:pB (TakenOk f.blocks) with
        | false =>
         have:checkW f=6:=by unfold checkW;simp[hcf,hph,hpr,har,hma,hta]
         simp[this]
         rw[gcRet_flat hpH4 rfl]
        | true =>
         have:checkW f=0:=by unfold checkW;simp[hcf,hph,hpr,har,hma,hta]
         simp[this]
         rw[gcRet_flat hpH4 rfl]
def defI (x:InsR):List Int:=if 0≤insDefF x then [insDefF x] else []

def defsB (b:BlkR):List Int:=b.phis.map (·.d)++b.list.flatMap defI

theorem tickB_defs (vs:List Int) (b:BlkR):tickB vs b=(defsB b).foldl tick vs:=by
 unfold tickB defsB
 rw[List.foldl_append,List.foldl_map,List.foldl_flatMap]
 congr 1
 funext ws x
 unfold tickI defI
 split<;>rfl

theorem madeF_defs (f:FnR):madeF f=(f.blocks.flatMap defsB).foldl tick (List.replicate f.values.toNat 0):=by
 unfold madeF
 rw[List.foldl_flatMap]
 congr 1
 funext ws b
 exact tickB_defs ws b

theorem tick_count {n:Nat} {d:Nat} (hd:d<n):∀ (ds vs:List Int),vs.length=n→(∀ x∈ds,∃ k:Nat,x=k∧k<n)→(ds.foldl tick vs).getD d 0=vs.getD d 0+(ds.count (d:Int):Int):=by
 intro ds
 induction ds with
 | nil=>intro vs _ _;simp
 | cons x r ih =>
  intro vs hl h
  obtain⟨k,rfl,hk⟩:=h x (by simp)
  rw[List.foldl_cons,ih _ (by rw[tick_len];exact hl) (fun y hy=>h y (by simp[hy])),List.count_cons]
  unfold tick
  rw[Int.toNat_natCast,List.getD_eq_getElem?_getD,List.getElem?_set]
  by_cases e:k=d
  ·subst e
   simp[hl,hk];omega
  ·have e2:¬ ((k:Int)=(d:Int)):=by omega
   rw[if_neg e,← List.getD_eq_getElem?_getD]
   simp[e2]

theorem flat2 {β:Type} {f:β→List Int} {d:Int}:∀ (bs:List β) (i j:Nat) (hj:j<bs.length) (hij:i<j),d∈f (bs[i]'(by omega))→d∈f bs[j]→2≤(bs.flatMap f).count d:=by
 intro bs
 induction bs with
 | nil=>intro i j hj;simp at hj
 | cons b r ih =>
  intro i j hj hij h1 h2
  rw[List.flatMap_cons,List.count_append]
  cases j with
  | zero=>omega
  | succ j =>
   have hj':j<r.length:=by simpa using hj
   cases i with
   | zero =>
    have a:0<(f b).count d:=List.count_pos_iff.2 (by simpa using h1)
    have c:0<(r.flatMap f).count d:=List.count_pos_iff.2 (List.mem_flatMap.2 ⟨_,List.getElem_mem hj',by simpa using h2⟩)
    omega
   | succ i =>
    have:=ih i j hj' (by omega) (by simpa using h1) (by simpa using h2)
    omega

theorem count_part {β:Type} {f:β→List Int} {d:Int} {bs:List β} {b:β} (hb:b∈bs):(f b).count d≤(bs.flatMap f).count d:=by
 induction bs with
 | nil=>simp at hb
 | cons c r ih =>
  rw[List.flatMap_cons,List.count_append]
  rcases List.mem_cons.1 hb with rfl | h
  ·omega
  ·have:=ih h;omega

theorem made_defs {f:FnR} (hsh:shapeB f=true):∀ x∈f.blocks.flatMap defsB,∃ k:Nat,x=k∧k<f.values.toNat:=by
 intro x hx
 obtain⟨b,hb,hx⟩:=List.mem_flatMap.1 hx
 unfold defsB at hx
 rcases List.mem_append.1 hx with h | h
 ·obtain⟨p,hp,rfl⟩:=List.mem_map.1 h
  exact val_nat (phi_vals (shape_phi hsh hb hp)).1
 ·obtain⟨y,hy,h⟩:=List.mem_flatMap.1 h
  unfold defI at h
  by_cases h0:0≤insDefF y
  ·rw[if_pos h0]at h
   simp at h
   rw[h]
   exact ins_def (shape_ins hsh hb hy) h0
  ·rw[if_neg h0]at h;simp at h

theorem once {f:FnR} (hsh:shapeB f=true) (hm:((madeF f).any fun n=>decide (1<n))=false) (d:Int):(f.blocks.flatMap defsB).count d≤1:=by
 by_cases hd:d∈f.blocks.flatMap defsB
 ·obtain⟨k,rfl,hk⟩:=made_defs hsh d hd
  have h:=tick_count hk (f.blocks.flatMap defsB) (List.replicate f.values.toNat 0) (by simp) (made_defs hsh)
  rw[← madeF_defs]at h
  have hl:(madeF f).length=f.values.toNat:=by unfold madeF;rw[ticksB_len];simp
  have hlt:k<(madeF f).length:=by omega
  rw[List.any_eq_false]at hm
  have h1:=hm _ (List.getElem_mem hlt)
  have h2:(madeF f).getD k 0=(madeF f)[k]:=by rw[List.getD_eq_getElem?_getD,List.getElem?_eq_getElem hlt];rfl
  have h3:(List.replicate f.values.toNat (0:Int)).getD k 0=0:=by rw[List.getD_eq_getElem?_getD,List.getElem?_replicate];split<;>rfl
  rw[h2,h3]at h
  simp at h1
  omega
 ·rw[List.count_eq_zero.2 hd];omega

theorem check_well {f:FnR} (h:checkF f=0):shapeB f=true∧cf (seenF f.blocks)=0∧(predsF f.blocks 0).length=0∧((madeF f).any fun n=>decide (1<n))=false∧TakenOk f.blocks:=by
 unfold checkF checkW at h
 by_cases h1:shapeB f=true∧copiesB f.blocks=false
 ·rw[if_pos h1]at h
  by_cases h2:0<cf (seenF f.blocks)
  ·simp[h2]at h
  ·by_cases h3:0<phis0 f.blocks∨0<(predsF f.blocks 0).length
   ·simp[h2,h3]at h
   ·by_cases h4:ArmsRight f.blocks
    ·cases h5:(madeF f).any fun n=>decide (1<n) with
     | true=>simp[h2,h3,pB_true h4,h5]at h
     | false =>
      by_cases h6:TakenOk f.blocks
      ·exact⟨h1.1,by omega,by omega,rfl,h6⟩
      ·simp[h2,h3,pB_true h4,h5,pB_false h6]at h
    ·simp[h2,h3,pB_false h4]at h
 ·rw[if_neg h1]at h;simp at h
def mk1 (us:List Bool) (v:Int):List Bool:=us.set v.toNat true

def markAll (us:List Bool) (vs:List Int):List Bool:=vs.foldl mk1 us

def moreF (us:List Bool) (vs:List Int):Bool:=vs.any fun v=>!us.getD v.toNat false

def Vals (n:Nat) (vs:List Int):Prop:=∀ v∈vs,∃ k:Nat,v=k∧k<n

theorem mk1_len (us:List Bool) (v:Int):(mk1 us v).length=us.length:=by simp[mk1]

theorem markAll_len:∀ (vs:List Int) (us:List Bool),(markAll us vs).length=us.length:=by
 intro vs
 induction vs with
 | nil=>intro us;rfl
 | cons v r ih=>intro us;unfold markAll at ih ⊢;rw[List.foldl_cons,ih,mk1_len]

theorem mk1_get (us:List Bool) (v:Int) (j:Nat):(mk1 us v).getD j false=(us.getD j false || (decide (v.toNat=j) && decide (j<us.length))):=by
 unfold mk1
 rw[List.getD_eq_getElem?_getD,List.getElem?_set,List.getD_eq_getElem?_getD]
 by_cases h:v.toNat=j
 ·subst h
  by_cases hl:v.toNat<us.length
  ·simp[hl]
  ·simp[hl]
 ·simp[h]

theorem markAll_get:∀ (vs:List Int) (us:List Bool) (j:Nat),(markAll us vs).getD j false=(us.getD j false || (vs.any (fun v=>decide (v.toNat=j)) && decide (j<us.length))):=by
 intro vs
 induction vs with
 | nil=>intro us j;simp[markAll]
 | cons v r ih =>
  intro us j
  have:markAll us (v :: r)=markAll (mk1 us v) r:=rfl
  rw[this,ih,mk1_get,mk1_len,List.any_cons]
  cases us.getD j false<;>cases decide (v.toNat=j)<;>cases decide (j<us.length)<;>simp

theorem moreF_snoc {n:Nat} {us:List Bool} {vs:List Int} {i:Nat} (hn:us.length=n) (hv:Vals n vs) (hi:i<vs.length) :
  moreF us (vs.take (i+1))=(moreF us (vs.take i) || !(markAll us (vs.take i)).getD (vs[i].toNat) false):=by
 unfold moreF
 rw[List.take_succ_eq_append_getElem hi,List.any_append,markAll_get]
 obtain⟨k,hk,hkn⟩:=hv _ (List.getElem_mem hi)
 rw[hk]
 simp only[List.any_cons,List.any_nil,Bool.or_false,Int.toNat_natCast,hn,hkn,decide_true,Bool.and_true]
 cases hu:us.getD k false with
 | true=>simp
 | false =>
  cases ha:(vs.take i).any (fun v=>decide (v.toNat=k)) with
  | false=>simp
  | true =>
   obtain⟨v,hv1,hv2⟩:=List.any_eq_true.1 ha
   have:((vs.take i).any fun v=>!us.getD v.toNat false)=true:=List.any_eq_true.2 ⟨v,hv1,by rw[of_decide_eq_true hv2,hu];rfl⟩
   rw[this];simp

theorem markAll_snoc {us:List Bool} {vs:List Int} {i:Nat} (hi:i<vs.length):markAll us (vs.take (i+1))=mk1 (markAll us (vs.take i)) vs[i]:=by
 unfold markAll
 rw[List.take_succ_eq_append_getElem hi,List.foldl_append];rfl

theorem set_true {us:List Bool} {k:Nat} (h:us.getD k false=true):us.set k true=us:=by
 apply List.ext_getElem?
 intro j
 rw[List.getElem?_set]
 by_cases e:k=j
 ·subst e
  rw[if_pos rfl]
  rw[List.getD_eq_getElem?_getD]at h
  cases hj:us[k]? with
  | none=>rw[hj]at h;simp at h
  | some b =>
   rw[hj]at h
   simp at h
   subst h
   have:=(List.getElem?_eq_some_iff.1 hj).1
   simp[this]
 ·rw[if_neg e]

def UsOb (us:List Bool):Ob:=⟨us.map .b,0,true,1⟩

theorem IsI.set_us {X:Hp} {w:CV} {vs:List Int} (h:IsI X w vs) {uid:Nat} {us us':List Bool} (ho:rdOb X uid 0=some (UsOb us)) (hl:us'.length=us.length):IsI (X.set uid (UsOb us')) w vs:=by
 rcases h with⟨h1,h2,h3⟩ | ⟨id,g,off,ob,h1,h2,h3,h4,h5⟩
 ·exact .inl ⟨h1,h2,h3⟩
 ·by_cases hne:id=uid
  ·subst hne
   have a:=rdOb_some.1 ho
   have b:=rdOb_some.1 h2
   have e:ob=UsOb us:=by rw[a.1]at b;injection b.1 with b;exact b.symm
   have hg:g=0:=by have:=b.2;rw[e]at this;exact this.symm
   subst hg
   subst e
   refine .inr ⟨id,0,off,UsOb us',h1,by rw[rdOb_set_self (rdOb_lt ho)];simp[UsOb],h3,?_,?_⟩
   ·simpa [UsOb,hl] using h4
   ·cases vs with
    | nil=>simp
    | cons v r =>
     exfalso
     have:=congrArg (fun l=>l[0]?) h5
     simp[UsOb,List.getElem?_take,List.getElem?_drop]at this
  ·exact .inr ⟨id,g,off,ob,h1,by rw[rdOb_set_ne hne];exact h2,h3,h4,h5⟩
def keepsF (op:Int):Bool:=decide (op=22) || decide (op=23) || decide (op=21)

inductive UsedP (bs:List BlkR):Int→Prop
 | term {b:BlkR} (hb:b∈bs) {v:Int} (hv:v∈tusesF b.term):UsedP bs v
 | stay {b:BlkR} (hb:b∈bs) {x:InsR} (hx:x∈b.list) (hs:keepsF x.op=true) {v:Int} (hv:v∈usesF x):UsedP bs v
 | make {b:BlkR} (hb:b∈bs) {x:InsR} (hx:x∈b.list) (hd:0≤insDefF x) (hu:UsedP bs (insDefF x)) {v:Int} (hv:v∈usesF x):UsedP bs v
 | phi {b:BlkR} (hb:b∈bs) {p:PhiR} (hp:p∈b.phis) (hu:UsedP bs p.d) {a:ArmR} (ha:a∈p.arms):UsedP bs a.v

def Us (us:List Bool) (v:Int):Prop:=us.getD v.toNat false=true

structure Rnd (bs:List BlkR) (us0 us:List Bool) (m:Bool):Prop where
 len:us.length=us0.length
 snd:∀ j:Nat,us.getD j false=true→UsedP bs j
 no:m=false→us=us0
 yes:m=true→cf us<cf us0

theorem moreF_no {us:List Bool} {vs:List Int} (h:moreF us vs=false):∀ v∈vs,Us us v:=by
 intro v hv
 unfold moreF at h
 rw[List.any_eq_false]at h
 have:=h v hv
 unfold Us
 simpa using this

theorem markAll_no:∀ {vs:List Int} {us:List Bool},(∀ v∈vs,Us us v)→markAll us vs=us:=by
 intro vs
 induction vs with
 | nil=>intro us _;rfl
 | cons v r ih =>
  intro us h
  have e:markAll us (v :: r)=markAll (mk1 us v) r:=rfl
  have:mk1 us v=us:=set_true (h v (by simp))
  rw[e,this]
  exact ih fun x hx=>h x (by simp[hx])

theorem mk1_cf {us:List Bool} {v:Int} (hv:v.toNat<us.length) (h:us.getD v.toNat false=false):cf (mk1 us v)+1=cf us:=by
 refine cf_set ?_
 rw[List.getD_eq_getElem?_getD]at h ⊢
 rw[List.getElem?_eq_getElem hv]at h ⊢
 exact h

theorem markAll_cf_le:∀ (vs:List Int) {us:List Bool},Vals us.length vs→cf (markAll us vs)≤cf us:=by
 intro vs
 induction vs with
 | nil=>intro us _;exact Nat.le_refl _
 | cons v r ih =>
  intro us h
  have e:markAll us (v :: r)=markAll (mk1 us v) r:=rfl
  obtain⟨k,hk,hkn⟩:=h v (by simp)
  have h2:Vals (mk1 us v).length r:=by rw[mk1_len];exact fun x hx=>h x (by simp[hx])
  have:=ih h2
  rw[e]
  cases hu:us.getD v.toNat false with
  | true=>rw[show mk1 us v=us from set_true hu]at this ⊢;exact this
  | false=>have:=mk1_cf (us:=us) (v:=v) (by omega) hu;omega

theorem markAll_cf:∀ {vs:List Int} {us:List Bool},Vals us.length vs→moreF us vs=true→cf (markAll us vs)<cf us:=by
 intro vs
 induction vs with
 | nil=>intro us _ h;simp[moreF]at h
 | cons v r ih =>
  intro us h hm
  have e:markAll us (v :: r)=markAll (mk1 us v) r:=rfl
  obtain⟨k,hk,hkn⟩:=h v (by simp)
  have h2:Vals (mk1 us v).length r:=by rw[mk1_len];exact fun x hx=>h x (by simp[hx])
  rw[e]
  cases hu:us.getD v.toNat false with
  | true =>
   have e1:mk1 us v=us:=set_true hu
   rw[e1]at h2 ⊢
   refine ih h2 ?_
   unfold moreF at hm ⊢
   rw[List.any_cons,hu]at hm
   simpa using hm
  | false =>
   have a:=mk1_cf (us:=us) (v:=v) (by omega) hu
   have b:=markAll_cf_le r h2
   omega

theorem Rnd.refl {bs:List BlkR} {us:List Bool} (h:∀ j:Nat,us.getD j false=true→UsedP bs j):Rnd bs us us false:=⟨rfl,h,fun _=>rfl,fun h=>by cases h⟩

theorem Rnd.mark {bs:List BlkR} {us0 us:List Bool} {m:Bool} (h:Rnd bs us0 us m) {vs:List Int} (hv:Vals us0.length vs) (hu:∀ v∈vs,UsedP bs v):Rnd bs us0 (markAll us vs) (m || moreF us vs):=by
 refine⟨by rw[markAll_len,h.len],fun j hj=>?_,fun hf=>?_,fun ht=>?_⟩
 ·rw[markAll_get,Bool.or_eq_true]at hj
  rcases hj with hj | hj
  ·exact h.snd j hj
  ·rw[Bool.and_eq_true]at hj
   obtain⟨v,hv1,hv2⟩:=List.any_eq_true.1 hj.1
   obtain⟨k,hk,_⟩:=hv v hv1
   have:v.toNat=j:=of_decide_eq_true hv2
   have e:v=(j:Int):=by omega
   rw[← e];exact hu v hv1
 ·rw[Bool.or_eq_false_iff]at hf
  rw[markAll_no (moreF_no hf.2)]
  exact h.no hf.1
 ·have hv':Vals us.length vs:=by rw[h.len];exact hv
  have hle:=markAll_cf_le vs hv'
  cases hm:m with
  | true=>have:=h.yes hm;omega
  | false =>
   rw[hm,Bool.false_or]at ht
   have:=markAll_cf hv' ht
   rw[h.no hm]at this ⊢
   exact this

theorem Rnd.trans {bs:List BlkR} {a b c:List Bool} {m n:Bool} (h:Rnd bs a b m) (k:Rnd bs b c n):Rnd bs a c (m || n):=by
 refine⟨k.len.trans h.len,k.snd,fun hf=>?_,fun ht=>?_⟩
 ·rw[Bool.or_eq_false_iff]at hf
  rw[k.no hf.2,h.no hf.1]
 ·cases hm:m with
  | true =>
   have a1:=h.yes hm
   cases hn:n with
   | true=>have:=k.yes hn;omega
   | false=>rw[k.no hn];exact a1
  | false =>
   rw[hm,Bool.false_or]at ht
   rw[← h.no hm];exact k.yes ht

structure ClosedB (us:List Bool) (b:BlkR):Prop where
 term:∀ v∈tusesF b.term,Us us v
 phi:∀ p∈b.phis,Us us p.d→∀ a∈p.arms,Us us a.v
 ins:∀ x∈b.list,(keepsF x.op=true∨(0≤insDefF x∧Us us (insDefF x)))→∀ v∈usesF x,Us us v

theorem closed_all {bs:List BlkR} {us:List Bool} (h:∀ b∈bs,ClosedB us b):∀ {v:Int},UsedP bs v→Us us v:=by
 intro v hv
 induction hv with
 | term hb hv=>exact (h _ hb).term _ hv
 | stay hb hx hs hv=>exact (h _ hb).ins _ hx (.inl hs) _ hv
 | make hb hx hd _ hv ih=>exact (h _ hb).ins _ hx (.inr ⟨hd,ih⟩) _ hv
 | phi hb hp _ ha ih=>exact (h _ hb).phi _ hp ih _ ha

noncomputable def usedW (f:FnR):List Bool:=(List.range f.values.toNat).map fun (j:Nat)=>pB (UsedP f.blocks j)

theorem used_done {f:FnR} {us:List Bool} (hl:us.length=f.values.toNat) (hs:∀ j:Nat,us.getD j false=true→UsedP f.blocks j) (hc:∀ b∈f.blocks,ClosedB us b):us=usedW f:=by
 refine List.ext_getElem (by simp[usedW,hl]) fun j h1 h2=>?_
 simp only[usedW,List.getElem_map,List.getElem_range]
 have e:us.getD j false=us[j]:=by rw[List.getD_eq_getElem?_getD,List.getElem?_eq_getElem h1];rfl
 cases hu:us[j] with
 | true=>rw[pB_true (hs j (by rw[e,hu]))]
 | false =>
  rw[pB_false fun hc'=>?_]
  have:=closed_all hc hc'
  unfold Us at this
  rw[Int.toNat_natCast,e,hu]at this
  cases this
def Marks (fid:Nat):Prop:=∀ {X:Hp} {uid:Nat} {us:List Bool} {vw:CV} {vs:List Int},rdOb X uid 0=some (UsOb us)→IsI X vw vs→Vals us.length vs→vs.length≤BIG→∀ k:IV×Hp→Prop,
  CM fid [.c (.sl uid 0 0 us.length),.c vw] X k=k (.c (.b (moreF us vs)),X.set uid (UsOb (markAll us vs)))

theorem rdU {X:Hp} {uid:Nat} {us:List Bool} {k:Nat} (h:rdOb X uid 0=some (UsOb us)) (hk:k<us.length):rdC X uid 0 k=some (.b (us.getD k false)):=by
 rw[rdC_ob h]
 simp[UsOb,List.getD_eq_getElem?_getD,hk]

theorem set_set (X:Hp) (i:Nat) (a b:Ob):(X.set i a).set i b=X.set i b:=by simp

set_option maxRecDepth 100000 in
theorem implUseAll:Marks 140:=by
 intro X uid us vw vs ho hv hr hb k
 refine det (cw140 ?_) k
 unfold vf140c
 have hlt:=rdOb_lt ho
 simp[hv.lenOf]
 obtain⟨I,hI⟩:∃ I:Nat→St→Prop,∀ i st,I i st↔(st.h=X.set uid (UsOb (markAll us (vs.take i)))∧Env.get st.e 0=.c (.sl uid 0 0 us.length)∧Env.get st.e 5=.c (.b (moreF us (vs.take i)))∧Env.get st.e 8=.c vw∧Env.get st.e 9=.c (.i vs.length)∧Env.get st.e 10=.c (.i i)):=⟨_,fun _ _=>Iff.rfl⟩
 refine wp_for CM_mono vs.length I ((hI _ _).2 ⟨by simp[markAll];exact (set_same X uid _ (rdOb_some.1 ho).1).symm,by simp[moreF]⟩) ?_ ?_
 ·rintro i ⟨e,Y⟩ hi hIs
  obtain⟨hY,e0,e5,e8,e9,e10⟩:=(hI _ _).1 hIs
  simp only at hY e0 e5 e8 e9 e10 ⊢
  obtain⟨c,hc,hcn⟩:=hr _ (List.getElem_mem hi)
  have hms:=moreF_snoc rfl hr hi
  have hma:=markAll_snoc (us:=us) hi
  have hml:=markAll_len (vs.take i) us
  obtain⟨ui,hui⟩:∃ ui,markAll us (vs.take i)=ui:=⟨_,rfl⟩
  rw[hui]at hY hms hma hml
  have hU:rdOb Y uid 0=some (UsOb ui):=by rw[hY,rdOb_set_self hlt];simp[UsOb]
  have hvY:IsI Y vw vs:=by rw[hY];exact hv.set_us ho hml
  obtain⟨id,g,off,q1,q2⟩:=hvY.at_ hi
  rw[hc]at q2 hms hma
  rw[Int.toNat_natCast]at hms
  have hrd:=rdU hU (show c<ui.length by omega)
  have hset:Y.set uid (UsOb (ui.set c true))=X.set uid (UsOb (mk1 ui c)):=by rw[hY,set_set];simp[mk1]
  have hix:idxOf 1 (.sl uid 0 0 us.length) (c:Int)=some (.p uid 0 c):=idx1 hcn
  obtain⟨b0,hb0⟩:∃ b0,ui.getD c false=b0:=⟨_,rfl⟩
  obtain⟨m0,hm0⟩:∃ m0,moreF us (vs.take i)=m0:=⟨_,rfl⟩
  rw[hb0]at hrd hms
  rw[hm0]at e5 hms
  have hput:=bool_put (xs:=ui) (i:=c) (by omega) true
  have hU':rdOb Y uid 0=some ⟨ui.map .b,0,true,1⟩:=hU
  have hset':Y.set uid ⟨(ui.set c true).map .b,0,true,1⟩=X.set uid (UsOb (mk1 ui c)):=hset
  have hset'':=hset'
  simp only[List.map_set]at hset''
  unfold vf140b0
  cases m0<;>simp[e0,e5,e8,e9,e10,hi,q1,q2,hix,hrd,hU',show c+1≤ui.length by omega,show c+1≤us.length by omega,hput,hset'',up1 hi hb,hml]<;>(refine (hI _ _).2 ⟨by rw[hma],?_⟩;rw[hms];simp[e0,e8,e9])
 ·rintro⟨e,Y⟩ hIs
  obtain⟨hY,e0,e5,e8,e9,e10⟩:=(hI _ _).1 hIs
  simp only at hY e0 e5 e8 e9 e10 ⊢
  rw[List.take_length]at hY e5
  subst hY
  unfold vf140b0
  simp[e0,e5,e8,e9,e10]
  rw[gc_set rfl]

theorem or_true_list {us:List Bool} {c:Nat} (h:us.getD c false=true):mk1 us (c:Int)=us:=by unfold mk1;rw[Int.toNat_natCast];exact set_true h

set_option maxRecDepth 100000 in
theorem specMark:Marks 151:=by
 intro X uid us vw vs ho hv hr hb k
 refine det (cw151 ?_) k
 unfold vf151c
 have hlt:=rdOb_lt ho
 simp
 obtain⟨I,hI⟩:∃ I:Nat→St→Prop,∀ i st,I i st↔(st.h=X.set uid (UsOb (markAll us (vs.take i)))∧Env.get st.e 0=.c (.sl uid 0 0 us.length)∧Env.get st.e 1=.c vw∧Env.get st.e 5=.c (.b (moreF us (vs.take i)))∧Env.get st.e 6=.c (.i i)):=⟨_,fun _ _=>Iff.rfl⟩
 refine wp_for CM_mono vs.length I ((hI _ _).2 ⟨by simp[markAll];exact (set_same X uid _ (rdOb_some.1 ho).1).symm,by simp[moreF]⟩) ?_ ?_
 ·rintro i ⟨e,Y⟩ hi hIs
  obtain⟨hY,e0,e1,e5,e6⟩:=(hI _ _).1 hIs
  simp only at hY e0 e1 e5 e6 ⊢
  obtain⟨c,hc,hcn⟩:=hr _ (List.getElem_mem hi)
  have hms:=moreF_snoc rfl hr hi
  have hma:=markAll_snoc (us:=us) hi
  have hml:=markAll_len (vs.take i) us
  obtain⟨ui,hui⟩:∃ ui,markAll us (vs.take i)=ui:=⟨_,rfl⟩
  rw[hui]at hY hms hma hml
  have hU:rdOb Y uid 0=some (UsOb ui):=by rw[hY,rdOb_set_self hlt];simp[UsOb]
  have hvY:IsI Y vw vs:=by rw[hY];exact hv.set_us ho hml
  have hvl:=hvY.lenOf
  obtain⟨id,g,off,q1,q2⟩:=hvY.at_ hi
  rw[hc]at q2 hms hma
  rw[Int.toNat_natCast]at hms
  have hrd:=rdU hU (show c<ui.length by omega)
  have hset':Y.set uid ⟨(ui.set c true).map .b,0,true,1⟩=X.set uid (UsOb (mk1 ui c)):=by rw[hY,set_set];simp[mk1,UsOb]
  have hix:idxOf 1 (.sl uid 0 0 us.length) (c:Int)=some (.p uid 0 c):=idx1 hcn
  have hput:=bool_put (xs:=ui) (i:=c) (by omega) true
  have hU':rdOb Y uid 0=some ⟨ui.map .b,0,true,1⟩:=hU
  have hset'':=hset'
  simp only[List.map_set]at hset''
  unfold vf151b0
  cases hb0:ui.getD c false with
  | true =>
   rw[hb0]at hrd hms
   have hmk:=or_true_list hb0
   simp[e0,e1,e5,e6,hi,hvl,q1,q2,hix,hrd,up1 hi hb]
   refine (hI _ _).2 ⟨by rw[hma,hmk];exact hY,?_⟩
   rw[hms];simp[e0,e1,e5]
  | false =>
   rw[hb0]at hrd hms
   simp[e0,e1,e5,e6,hi,hvl,q1,q2,hix,hrd,hU',show c+1≤ui.length by omega,show c+1≤us.length by omega,hput,hset'',up1 hi hb]
   refine (hI _ _).2 ⟨by rw[hma],?_⟩
   rw[hms];simp[e0,e1]
 ·rintro⟨e,Y⟩ hIs
  obtain⟨hY,e0,e1,e5,e6⟩:=(hI _ _).1 hIs
  simp only at hY e0 e1 e5 e6 ⊢
  rw[List.take_length]at hY e5
  subst hY
  have hvl:=(hv.set_us ho (markAll_len vs us)).lenOf
  unfold vf151b0
  simp[e0,e1,e5,e6,hvl]
  rw[gc_set rfl]

theorem keeps_call (H:Hp) (op:Int) (k:IV×Hp→Prop):CM 142 [.c (.i op)] H k=k (.c (.b (keepsF op)),H):=by
 refine det (cw142 ?_) k
 unfold vf142c keepsF
 by_cases h1:op=22
 ·simp[h1]
 ·by_cases h2:op=23
  ·simp[h2]
  ·simp[h1,h2]
theorem uses_vals {f:FnR} (hsh:shapeB f=true) {b:BlkR} (hb:b∈f.blocks) {x:InsR} (hx:x∈b.list):Vals f.values.toNat (usesF x):=by
 have h:=shape_ins hsh hb hx
 intro v hv
 unfold usesF at hv
 by_cases hw:wordOk x.op=true
 ·rw[if_pos (.inl hw)]at hv
  obtain⟨_,h2,h3⟩:=insB_word h hw
  simp at hv
  rcases hv with rfl | rfl
  ·exact val_nat h2
  ·exact val_nat h3
 ·have hw':wordOk x.op=false:=by simpa using hw
  unfold insB at h
  rw[hw']at h
  by_cases h22:x.op=22
  ·rw[if_pos (.inr h22)]at hv
   rw[h22]at h
   simp[Bool.and_eq_true]at h hv
   rcases hv with rfl | rfl
   ·exact val_nat (by simp[h])
   ·exact val_nat (by simp[h])
  ·rw[if_neg (by simp[hw',h22])]at hv
   by_cases h3:x.op=21∨x.op=23∨x.op=25
   ·rw[if_pos h3]at hv
    simp at hv
    subst hv
    rcases h3 with e | e | e<;>rw[e]at h<;>simp[Bool.and_eq_true]at h<;>exact val_nat (by simp[h])
   ·rw[if_neg h3]at hv;simp at hv

theorem tuses_vals {f:FnR} (hsh:shapeB f=true) {b:BlkR} (hb:b∈f.blocks):Vals f.values.toNat (tusesF b.term):=by
 have h:=shape_term hsh hb
 intro v hv
 unfold tusesF at hv
 by_cases h2:b.term.kind=2∨b.term.kind=3
 ·rw[if_pos h2]at hv
  simp at hv
  subst hv
  unfold termB at h
  rcases h2 with e | e<;>rw[e]at h<;>simp[Bool.and_eq_true]at h<;>exact val_nat (by simp[h])
 ·rw[if_neg h2]at hv;simp at hv
structure SameT (bs bs':List BlkR):Prop where
 len:bs'.length=bs.length
 term:∀ b (h:b<bs.length) (h':b<bs'.length),bs'[b].term=bs[b].term

theorem SameT.symm {bs bs':List BlkR} (h:SameT bs bs'):SameT bs' bs:=⟨h.len.symm,fun b h1 h2=>(h.term b h2 h1).symm⟩

theorem SameT.succs {bs bs':List BlkR} (h:SameT bs bs'):succsAt bs'=succsAt bs:=by
 funext j
 by_cases hj:j<bs.length
 ·rw[succsAt_eq hj,succsAt_eq (by rw[h.len];exact hj),h.term j hj]
 ·unfold succsAt
  rw[List.getElem?_eq_none (by have:=h.len;omega),List.getElem?_eq_none (by omega)]

theorem SameT.walk {bs bs':List BlkR} (h:SameT bs bs'):walkF bs'=walkF bs:=by
 funext n
 induction n with
 | zero=>rfl
 | succ n ih=>funext b p;simp only[walkF,h.succs,ih]

theorem SameT.walk0 {bs bs':List BlkR} (h:SameT bs bs'):walk0 bs'=walk0 bs:=by unfold Vm.walk0;rw[h.walk,h.len]

theorem SameT.seen {bs bs':List BlkR} (h:SameT bs bs'):seenF bs'=seenF bs:=by unfold seenF;rw[h.walk0]

theorem SameT.ord {bs bs':List BlkR} (h:SameT bs bs'):ordF bs'=ordF bs:=by unfold ordF;rw[h.walk0]


def Once (bs:List BlkR):Prop:=∀ d:Int,(bs.flatMap defsB).count d≤1

theorem mem_defI {x:InsR} {v:Int}:v∈defI x↔0≤insDefF x∧v=insDefF x:=by
 unfold defI
 split
 ·rename_i h;simp[h]
 ·rename_i h;simp[h]

theorem makes_val {x:InsR} {m:Int} (h:insB x m=true) (hm:makesF x.op=true):valB x.d m=true:=by
 have hk:=ins_kinds h
 unfold insB at h
 rcases hk with hw | ⟨hw,e | e | e | e | e | e⟩
 ·rw[if_pos hw]at h;simp only[Bool.and_eq_true]at h;exact h.1.1.1
 ·simp[hw,e]at h;exact h.1.1
 ·simp[hw,e]at h;exact h.1.1.1
 ·rw[e]at hm;exact absurd hm (by decide)
 ·rw[e]at hm;exact absurd hm (by decide)
 ·simp[hw,e]at h;exact h.1.1.1
 ·simp[hw,e]at h;exact h.1.1.1

theorem made_iff {x:InsR} {m v:Int} (h:insB x m=true):madeAt v x=true↔v∈defI x:=by
 rw[mem_defI]
 unfold madeAt insDefF
 rw[Bool.and_eq_true]
 constructor
 ·rintro⟨h1,h2⟩
  have h2:=of_decide_eq_true h2
  rw[if_pos h1]
  obtain⟨k,hk,_⟩:=val_nat (makes_val h h1)
  omega
 ·rintro⟨h1,h2⟩
  by_cases hm:makesF x.op=true
  ·rw[if_pos hm]at h2;exact⟨hm,decide_eq_true h2.symm⟩
  ·rw[if_neg hm]at h1;omega

theorem mem_defsB {b:BlkR} {v:Int}:v∈defsB b↔v∈b.phis.map (·.d)∨v∈b.list.flatMap defI:=by
 unfold defsB;rw[List.mem_append]

theorem once_blk {bs:List BlkR} (ho:Once bs) {v:Int} {i j:Nat} (hi:i<bs.length) (hj:j<bs.length) (h1:v∈defsB bs[i]) (h2:v∈defsB bs[j]):i=j:=by
 apply Classical.byContradiction
 intro hne
 have:=ho v
 rcases Nat.lt_or_gt_of_ne hne with h | h
 ·have:=flat2 (f:=defsB) bs i j hj h h1 h2;omega
 ·have:=flat2 (f:=defsB) bs j i hi h h2 h1;omega

theorem once_in {bs:List BlkR} (ho:Once bs) {b:BlkR} (hb:b∈bs) (v:Int):(b.phis.map (·.d)).count v+(b.list.flatMap defI).count v≤1:=by
 have h1:=count_part (f:=defsB) (d:=v) hb
 have h2:=ho v
 unfold defsB at h1
 rw[List.count_append]at h1
 have h3:List.count v (List.flatMap defsB bs)=List.count v (List.flatMap (fun b=>List.map (fun x=>x.d) b.phis++List.flatMap defI b.list) bs):=rfl
 omega

theorem once_list {bs:List BlkR} (ho:Once bs) {b:BlkR} (hb:b∈bs) {v:Int} {i j:Nat} (hi:i<b.list.length) (hj:j<b.list.length) (h1:v∈defI b.list[i]) (h2:v∈defI b.list[j]):i=j:=by
 apply Classical.byContradiction
 intro hne
 have:=once_in ho hb v
 rcases Nat.lt_or_gt_of_ne hne with h | h
 ·have:=flat2 (f:=defI) b.list i j hj h h1 h2;omega
 ·have:=flat2 (f:=defI) b.list j i hi h h2 h1;omega

theorem once_phi {bs:List BlkR} (ho:Once bs) {b:BlkR} (hb:b∈bs) {v:Int} (h1:v∈b.phis.map (·.d)) (h2:v∈b.list.flatMap defI):False:=by
 have:=once_in ho hb v
 have a:=List.count_pos_iff.2 h1
 have c:=List.count_pos_iff.2 h2
 omega

theorem home_spec {f:FnR} (hsh:shapeB f=true) (v:Int):((homeF f.blocks v).1=-1∧∀ b∈f.blocks,v∉defsB b) ∨
  ∃ i,∃ hi:i<f.blocks.length,(homeF f.blocks v).1=(i:Int)∧(((homeF f.blocks v).2=-1∧v∈f.blocks[i].phis.map (·.d))∨∃ n,∃ hn:n<f.blocks[i].list.length,(homeF f.blocks v).2=(n:Int)∧v∈defI f.blocks[i].list[n]):=by
 have hno:∀ (bs:List BlkR),(∀ b∈bs,b∈f.blocks)→∀ (j:Nat),(defGo v bs j).2=-2→∀ c∈bs,v∉defsB c:=by
  intro bs
  induction bs with
  | nil=>intro _ j _ c hc;simp at hc
  | cons a r ih =>
   intro hsub j h c hc
   cases ha:defBlk a v with
   | none =>
    have e:defGo v (a :: r) j=defGo v r (j+1):=by simp[defGo,ha]
    rw[e]at h
    rcases List.mem_cons.1 hc with rfl | hc
    ·unfold defBlk at ha
     split at ha
     ·cases ha
     ·rename_i hp
      split at ha
      ·cases ha
      ·rename_i hl
       rw[mem_defsB]
       rintro (h1 | h1)
       ·obtain⟨p,hp1,hp2⟩:=List.mem_map.1 h1
        exact hp (List.any_eq_true.2 ⟨p,hp1,decide_eq_true hp2⟩)
       ·obtain⟨x,hx,hv⟩:=List.mem_flatMap.1 h1
        exact hl (findI_nonneg.2 (List.any_eq_true.2 ⟨x,hx,(made_iff (shape_ins hsh (hsub _ (by simp)) hx)).2 hv⟩))
    ·exact ih (fun b hb=>hsub b (by simp[hb])) (j+1) h c hc
   | some p =>
    have e:defGo v (a :: r) j=((j:Int),p):=by simp[defGo,ha]
    rw[e]at h
    simp only at h
    unfold defBlk at ha
    split at ha
    ·injection ha with ha;omega
    ·split at ha
     ·injection ha with ha;omega
     ·cases ha
 rcases defGo_spec v f.blocks 0 with⟨h1,h2⟩ | ⟨i,hi,h1,h2⟩
 ·exact .inl ⟨h2,hno f.blocks (fun _ h=>h) 0 h1⟩
 ·refine .inr ⟨i,hi,by unfold homeF;rw[h1];simp,?_⟩
  rcases h2 with⟨h3,h4⟩ | ⟨n,hn,h3,h4⟩
  ·obtain⟨p,hp1,hp2⟩:=List.any_eq_true.1 h4
   exact .inl ⟨h3,List.mem_map.2 ⟨p,hp1,of_decide_eq_true hp2⟩⟩
  ·exact .inr ⟨n,hn,h3,(made_iff (shape_ins hsh (List.getElem_mem hi) (List.getElem_mem hn))).1 h4⟩

theorem hasI_domF {bs:List BlkR} (hin:InRange bs) {b:Nat} (hb:b<bs.length) (c:Int):hasI (domF bs b) c=true↔∃ k:Nat,c=k∧k<bs.length∧Dom bs k b:=by
 rw[hasI_iff]
 unfold domF domTo
 rw[List.mem_map]
 constructor
 ·rintro⟨k,hk,rfl⟩
  rw[List.mem_filter,List.mem_range]at hk
  exact⟨k,rfl,hk.1,(domB_iff hin hk.1 hb).1 hk.2⟩
 ·rintro⟨k,rfl,hk,hd⟩
  exact⟨k,by rw[List.mem_filter,List.mem_range];exact⟨hk,(domB_iff hin hk hb).2 hd⟩,rfl⟩

def OutDef (bs:List BlkR) (b:Nat) (v:Int):Prop:=∃ c,∃ hc:c<bs.length,c≠b∧Dom bs c b∧v∈defsB bs[c]

structure WellP (bs:List BlkR):Prop where
 phi:∀ b (hb:b<bs.length),∀ p∈bs[b].phis,∀ a∈p.arms,∃ c,∃ hc:c<bs.length,Dom bs c a.fr.toNat∧a.v∈defsB bs[c]
 ins:∀ b (hb:b<bs.length) l1 x l2,bs[b].list=l1++x :: l2→∀ v∈usesF x,v∈bs[b].phis.map (·.d)∨v∈l1.flatMap defI∨OutDef bs b v
 term:∀ b (hb:b<bs.length),∀ v∈tusesF bs[b].term,v∈defsB bs[b]∨OutDef bs b v

theorem at_iff {f:FnR} (hsh:shapeB f=true) (ho:Once f.blocks) {b:Nat} (hb:b<f.blocks.length) (v:Int) (i:Nat) :
  atB f.blocks v b i=true↔v∈f.blocks[b].phis.map (·.d)∨v∈(f.blocks[b].list.take i).flatMap defI∨OutDef f.blocks b v:=by
 have hin:=shape_range hsh
 have hmem:f.blocks[b]∈f.blocks:=List.getElem_mem hb
 have htk:∀ {w:Int} {k:Nat},w∈(f.blocks[b].list.take k).flatMap defI↔∃ n,∃ hn:n<f.blocks[b].list.length,n<k∧w∈defI f.blocks[b].list[n]:=by
  intro w k
  rw[List.mem_flatMap]
  constructor
  ·rintro⟨x,hx,hw⟩
   obtain⟨l,hl,rfl⟩:=List.mem_take_iff_getElem.1 hx
   exact⟨l,by omega,by omega,hw⟩
  ·rintro⟨n,hn,hk,hw⟩
   exact⟨_,List.mem_take_iff_getElem.2 ⟨n,by omega,rfl⟩,hw⟩
 unfold atB
 rcases home_spec hsh v with⟨h1,h2⟩ | ⟨c,hc,h1,h2⟩
 ·rw[if_neg (by omega),hasI_domF hin hb]
  constructor
  ·rintro⟨k,hk,_⟩;omega
  ·rintro (h | h | ⟨c,hc,_,_,h⟩)
   ·exact absurd (mem_defsB.2 (.inl h)) (h2 _ hmem)
   ·obtain⟨n,hn,_,hw⟩:=htk.1 h
    exact absurd (mem_defsB.2 (.inr (List.mem_flatMap.2 ⟨_,List.getElem_mem hn,hw⟩))) (h2 _ hmem)
   ·exact absurd h (h2 _ (List.getElem_mem hc))
 ·have hdc:v∈defsB f.blocks[c]:=by
   rw[mem_defsB]
   rcases h2 with⟨_,h2⟩ | ⟨n,hn,_,h2⟩
   ·exact .inl h2
   ·exact .inr (List.mem_flatMap.2 ⟨_,List.getElem_mem hn,h2⟩)
  by_cases hcb:c=b
  ·subst hcb
   rw[if_pos h1,decide_eq_true_eq]
   rcases h2 with⟨h3,h4⟩ | ⟨n,hn,h3,h4⟩
   ·rw[h3]
    exact⟨fun _=>.inl h4,fun _=>by omega⟩
   ·rw[h3]
    constructor
    ·intro h;exact .inr (.inl (htk.2 ⟨n,hn,by omega,h4⟩))
    ·rintro (h | h | ⟨d,hd,hne,_,h⟩)
     ·exact (once_phi ho hmem h (List.mem_flatMap.2 ⟨_,List.getElem_mem hn,h4⟩)).elim
     ·obtain⟨n',hn',hk,hw⟩:=htk.1 h
      have:=once_list ho hmem hn hn' h4 hw
      omega
     ·exact absurd (once_blk ho hd hc h hdc) hne
  ·rw[if_neg (by omega),hasI_domF hin hb]
   constructor
   ·rintro⟨k,hk,hk2,hd⟩
    have e:k=c:=by omega
    subst e
    exact .inr (.inr ⟨k,hc,hcb,hd,hdc⟩)
   ·rintro (h | h | ⟨d,hd,hne,hdm,h⟩)
    ·exact absurd (once_blk ho hc hb hdc (mem_defsB.2 (.inl h))) hcb
    ·obtain⟨n',hn',hk,hw⟩:=htk.1 h
     exact absurd (once_blk ho hc hb hdc (mem_defsB.2 (.inr (List.mem_flatMap.2 ⟨_,List.getElem_mem hn',hw⟩)))) hcb
    ·have e:=once_blk ho hd hc h hdc
     subst e
     exact⟨d,h1,hd,hdm⟩

theorem home_dom {f:FnR} (hsh:shapeB f=true) (ho:Once f.blocks) {b:Nat} (hb:b<f.blocks.length) (v:Int) :
  hasI (domF f.blocks b) (homeF f.blocks v).1=true↔∃ c,∃ hc:c<f.blocks.length,Dom f.blocks c b∧v∈defsB f.blocks[c]:=by
 rw[hasI_domF (shape_range hsh) hb]
 rcases home_spec hsh v with⟨h1,h2⟩ | ⟨c,hc,h1,h2⟩
 ·rw[h1]
  constructor
  ·rintro⟨k,hk,_⟩;omega
  ·rintro⟨c,hc,_,h⟩;exact absurd h (h2 _ (List.getElem_mem hc))
 ·have hdc:v∈defsB f.blocks[c]:=by
   rw[mem_defsB]
   rcases h2 with⟨_,h2⟩ | ⟨n,hn,_,h2⟩
   ·exact .inl h2
   ·exact .inr (List.mem_flatMap.2 ⟨_,List.getElem_mem hn,h2⟩)
  rw[h1]
  constructor
  ·rintro⟨k,hk,hk2,hd⟩
   have e:k=c:=by omega
   subst e
   exact⟨k,hc,hd,hdc⟩
  ·rintro⟨d,hd,hdm,h⟩
   have e:=once_blk ho hd hc h hdc
   subst e
   exact⟨d,rfl,hd,hdm⟩

theorem fr_lt {f:FnR} (hsh:shapeB f=true) {b:BlkR} (hb:b∈f.blocks) {p:PhiR} (hp:p∈b.phis) {a:ArmR} (ha:a∈p.arms):∃ k:Nat,a.fr=k∧k<f.blocks.length:=by
 obtain⟨i,hi,rfl⟩:=List.getElem_of_mem ha
 have:=((phi_vals (shape_phi hsh hb hp)).2.2 i hi).1
 have:=of_decide_eq_true (show decide (0≤p.arms[i].fr∧p.arms[i].fr≤(f.blocks.length:Int) - 1)=true from this)
 exact⟨p.arms[i].fr.toNat,by omega,by omega⟩

theorem taken_iff {f:FnR} (hsh:shapeB f=true) (ho:Once f.blocks):TakenOk f.blocks↔WellP f.blocks:=by
 constructor
 ·intro h
  refine⟨fun b hb p hp a ha=>?_,fun b hb l1 x l2 he v hv=>?_,fun b hb v hv=>?_⟩
  ·obtain⟨k,hk1,hk2⟩:=fr_lt hsh (List.getElem_mem hb) hp ha
   have:=(h b hb).1 p hp a ha
   rw[hk1]at this ⊢
   exact (home_dom hsh ho hk2 a.v).1 this
  ·have hi:l1.length<f.blocks[b].list.length:=by rw[he];simp
   have hx:f.blocks[b].list[l1.length]=x:=by
    have:f.blocks[b].list[l1.length]? = some x:=by rw[he,List.getElem?_append_right (Nat.le_refl _),Nat.sub_self];rfl
    rw[List.getElem?_eq_getElem hi]at this;injection this
   have h1:=(h b hb).2.1 l1.length hi
   rw[hx,List.any_eq_false]at h1
   have h2:=h1 v hv
   have h3:atB f.blocks v b l1.length=true:=by simpa using h2
   rw[at_iff hsh ho hb]at h3
   rw[he,List.take_left]at h3
   exact h3
  ·have h1:=(h b hb).2.2
   rw[List.any_eq_false]at h1
   have h3:atB f.blocks v b f.blocks[b].list.length=true:=by simpa using h1 v hv
   rw[at_iff hsh ho hb,List.take_length]at h3
   rw[mem_defsB,or_assoc]
   exact h3
 ·intro h j hj
  refine⟨fun p hp a ha=>?_,fun i hi=>?_,?_⟩
  ·obtain⟨k,hk1,hk2⟩:=fr_lt hsh (List.getElem_mem hj) hp ha
   have:=h.phi j hj p hp a ha
   rw[hk1]at this ⊢
   exact (home_dom hsh ho hk2 a.v).2 this
  ·rw[List.any_eq_false]
   intro v hv
   have:=h.ins j hj (f.blocks[j].list.take i) f.blocks[j].list[i] (f.blocks[j].list.drop (i+1)) (by rw[← List.drop_eq_getElem_cons hi,List.take_append_drop]) v hv
   rw[(at_iff hsh ho hj v i).2 this];simp
  ·rw[List.any_eq_false]
   intro v hv
   have:=h.term j hj v hv
   rw[mem_defsB,or_assoc]at this
   rw[(at_iff hsh ho hj v f.blocks[j].list.length).2 (by rw[List.take_length];exact this)];simp

structure Well (f:FnR):Prop where
 sh:shapeB f=true
 nc:copiesB f.blocks=false
 seen:cf (seenF f.blocks)=0
 entry:phis0 f.blocks=0∧(predsF f.blocks 0).length=0
 arms:ArmsRight f.blocks
 once:Once f.blocks
 wp:WellP f.blocks

theorem once_iff {f:FnR} (hsh:shapeB f=true):((madeF f).any fun n=>decide (1<n))=false↔Once f.blocks:=by
 constructor
 ·exact fun h=>once hsh h
 ·intro h
  rw[List.any_eq_false]
  intro n hn
  obtain⟨k,hk,rfl⟩:=List.getElem_of_mem hn
  have hl:(madeF f).length=f.values.toNat:=by unfold madeF;rw[ticksB_len];simp
  have h1:=tick_count (d:=k) (show k<f.values.toNat by omega) (f.blocks.flatMap defsB) (List.replicate f.values.toNat 0) (by simp) (made_defs hsh)
  rw[← madeF_defs]at h1
  have h2:(madeF f).getD k 0=(madeF f)[k]:=by rw[List.getD_eq_getElem?_getD,List.getElem?_eq_getElem hk];rfl
  have h3:(List.replicate f.values.toNat (0:Int)).getD k 0=0:=by rw[List.getD_eq_getElem?_getD,List.getElem?_replicate];split<;>rfl
  rw[h2,h3]at h1
  have:=h (k:Int)
  simp
  omega

theorem well_iff {f:FnR}:checkF f=0↔Well f:=by
 unfold checkF checkW
 constructor
 ·intro h
  by_cases h1:shapeB f=true∧copiesB f.blocks=false
  ·rw[if_pos h1]at h
   by_cases h2:0<cf (seenF f.blocks)
   ·simp[h2]at h
   ·by_cases h3:0<phis0 f.blocks∨0<(predsF f.blocks 0).length
    ·simp[h2,h3]at h
    ·by_cases h4:ArmsRight f.blocks
     ·cases h5:(madeF f).any fun n=>decide (1<n) with
      | true=>simp[h2,h3,pB_true h4,h5]at h
      | false =>
       by_cases h6:TakenOk f.blocks
       ·have ho:=(once_iff h1.1).1 h5
        exact⟨h1.1,h1.2,by omega,by omega,h4,ho,(taken_iff h1.1 ho).1 h6⟩
       ·simp[h2,h3,pB_true h4,h5,pB_false h6]at h
     ·simp[h2,h3,pB_false h4]at h
  ·rw[if_neg h1]at h;cases h
 ·rintro⟨h1,h2,h3,h4,h5,h6,h7⟩
  rw[if_pos ⟨h1,h2⟩,if_neg (by rw[h3];simp),if_neg (by omega),if_neg (by rw[pB_true h5];simp),if_neg (by rw[(once_iff h1).2 h6];simp),if_neg (by rw[pB_true ((taken_iff h1 h6).2 h7)];simp)]
structure Kn where
 k:List Bool
 n:List Int

def foldX (q:Kn) (x:InsR):InsR:=
 if wordOk x.op=true∧q.k.getD x.a.toNat false=true∧q.k.getD x.b.toNat false=true then ⟨20,x.d,0,0,wordF x.op (q.n.getD x.a.toNat 0) (q.n.getD x.b.toNat 0)⟩ else x

def learn (q:Kn) (y:InsR):Kn:=if y.op=20 then ⟨q.k.set y.d.toNat true,q.n.set y.d.toNat y.n⟩ else q

def foldS (s:List InsR×Kn) (x:InsR):List InsR×Kn:=(s.1++[foldX s.2 x],learn s.2 (foldX s.2 x))

def foldL (xs:List InsR) (q:Kn):List InsR×Kn:=xs.foldl foldS ([],q)

def foldK (s:List BlkR×Kn) (b:Int):List BlkR×Kn:=
 (s.1.set b.toNat ⟨(s.1.getD b.toNat blk0).phis,(foldL (s.1.getD b.toNat blk0).list s.2).1,(s.1.getD b.toNat blk0).term⟩,(foldL (s.1.getD b.toNat blk0).list s.2).2)

def kn0 (n:Nat):Kn:=⟨List.replicate n false,List.replicate n 0⟩

def foldTo (f:FnR) (xs:List Int):List BlkR×Kn:=xs.foldl foldK (f.blocks,kn0 f.values.toNat)

noncomputable def fold0 (f:FnR):FnR:=if checkF f=0 then ⟨(foldTo f (ordF f.blocks)).1,f.values⟩ else f

theorem learn_len (q:Kn) (y:InsR):(learn q y).k.length=q.k.length∧(learn q y).n.length=q.n.length:=by unfold learn;split<;>simp

theorem foldX_ins {x:InsR} {m:Int} (h:insB x m=true) (q:Kn):insB (foldX q x) m=true:=by
 unfold foldX
 split
 ·rename_i hc
  have:=(insB_word h hc.1).1
  unfold insB
  rw[if_neg (show ¬ wordOk 20=true by decide),if_pos rfl]
  simp[this]
 ·exact h

structure SOk (n:Nat) (m:Int) (s:List InsR×Kn):Prop where
 k:s.2.k.length=n
 n:s.2.n.length=n
 ins:∀ x∈s.1,insB x m=true

theorem foldS_ok {n:Nat} {m:Int} {s:List InsR×Kn} (h:SOk n m s) {x:InsR} (hx:insB x m=true):SOk n m (foldS s x):=by
 obtain⟨h1,h2,h3⟩:=h
 refine⟨by simp[foldS,(learn_len _ _).1,h1],by simp[foldS,(learn_len _ _).2,h2],fun y hy=>?_⟩
 simp only[foldS,List.mem_append,List.mem_singleton]at hy
 rcases hy with hy | rfl
 ·exact h3 y hy
 ·exact foldX_ins hx _

theorem foldl_ok {n:Nat} {m:Int}:∀ (xs:List InsR) (s:List InsR×Kn),SOk n m s→(∀ x∈xs,insB x m=true)→SOk n m (xs.foldl foldS s)∧(xs.foldl foldS s).1.length=s.1.length+xs.length:=by
 intro xs
 induction xs with
 | nil=>intro s h _;exact⟨h,rfl⟩
 | cons x r ih =>
  intro s h hx
  obtain⟨a,b⟩:=ih (foldS s x) (foldS_ok h (hx x (by simp))) (fun y hy=>hx y (by simp[hy]))
  refine⟨a,?_⟩
  rw[List.foldl_cons,b]
  simp[foldS];omega

theorem foldL_ok {n:Nat} {m:Int} {xs:List InsR} {q:Kn} (hk:q.k.length=n) (hn:q.n.length=n) (hx:∀ x∈xs,insB x m=true):SOk n m (foldL xs q)∧(foldL xs q).1.length=xs.length:=by
 obtain⟨a,b⟩:=foldl_ok xs ([],q) (n:=n) (m:=m) ⟨hk,hn,fun x hx=>by cases hx⟩ hx
 exact⟨a,by unfold foldL;rw[b];simp⟩

structure TOk (N n:Nat) (m:Int) (s:List BlkR×Kn):Prop where
 len:s.1.length=N
 k:s.2.k.length=n
 n:s.2.n.length=n
 ins:∀ b∈s.1,b.list.length≤24∧∀ x∈b.list,insB x m=true

theorem getD_mem {bs:List BlkR} {b:Nat} (h:b<bs.length):bs.getD b blk0∈bs:=by rw[blk_at h];exact List.getElem_mem h

theorem foldK_ok {N n:Nat} {m:Int} {s:List BlkR×Kn} (h:TOk N n m s) {b:Nat} (hb:b<N):TOk N n m (foldK s b):=by
 obtain⟨h1,h2,h3,h4⟩:=h
 have hmem:=getD_mem (bs:=s.1) (b:=b) (by omega)
 obtain⟨g1,g2⟩:=h4 _ hmem
 obtain⟨a,c⟩:=foldL_ok (n:=n) (m:=m) h2 h3 g2
 refine⟨by simp[foldK,h1],a.k,a.n,fun x hx=>?_⟩
 simp only[foldK,Int.toNat_natCast]at hx
 rcases List.mem_or_eq_of_mem_set hx with hx | rfl
 ·exact h4 x hx
 ·exact⟨by simp only;rw[c];exact g1,a.ins⟩

theorem foldTo_ok {f:FnR} (hsh:shapeB f=true):∀ (xs:List Int),(∀ x∈xs,∃ k:Nat,x=k∧k<f.blocks.length)→TOk f.blocks.length f.values.toNat f.values (foldTo f xs):=by
 have key:∀ (xs:List Int) (s:List BlkR×Kn),TOk f.blocks.length f.values.toNat f.values s→(∀ x∈xs,∃ k:Nat,x=k∧k<f.blocks.length)→TOk f.blocks.length f.values.toNat f.values (xs.foldl foldK s):=by
  intro xs
  induction xs with
  | nil=>intro s h _;exact h
  | cons x r ih =>
   intro s h hx
   obtain⟨k,rfl,hk⟩:=hx x (by simp)
   exact ih _ (foldK_ok h hk) fun y hy=>hx y (by simp[hy])
 exact fun xs hx=>key xs _ ⟨rfl,by simp[kn0],by simp[kn0],fun b hb=>⟨(shape_lens hsh hb).2,fun x hx=>shape_ins hsh hb hx⟩⟩ hx

theorem foldTo_succ (f:FnR) {xs:List Int} {i:Nat} (hi:i<xs.length):foldTo f (xs.take (i+1))=foldK (foldTo f (xs.take i)) xs[i]:=by
 unfold foldTo
 rw[List.take_succ_eq_append_getElem hi,List.foldl_append];rfl
def BlkRes (H:Hp) (bs:List BlkR) (uid:Nat) (us:List Bool) (b:BlkR) (r:IV×Hp):Prop:=
 ∃ us' m Y,r=(.c (.b m),Y)∧Pre H Y∧rdOb Y uid 0=some (UsOb us')∧Rnd bs us us' m∧(m=false→ClosedB us b)

theorem BlkRes.gc {H X Y:Hp} {bs:List BlkR} {uid:Nat} {us us':List Bool} {b:BlkR} {m:Bool} (hX:Pre H X) (ho:rdOb X uid 0=some (UsOb us)) (hY:Pre H Y) (hU:rdOb Y uid 0=some (UsOb us'))
  (hR:Rnd bs us us' m) (hc:m=false→ClosedB us b):BlkRes H bs uid us b (gcRet X (.c (.b m)) Y):=by
 unfold gcRet
 split
 ·rename_i h
  have hp:Pre X Y:=⟨Y.drop X.length,by have:=List.take_append_drop X.length Y;rw[h]at this;exact this.symm⟩
  have:=hp.rdOb ho
  rw[hU]at this
  refine⟨us',m,X,?_,hX,by rw[ho,← this],hR,hc⟩
  rw[if_pos (show flatV (.c (.b m))=true from rfl)]
 ·exact⟨us',m,Y,rfl,hY,hU,hR,hc⟩

def TermOk (us:List Bool) (b:BlkR):Prop:=∀ v∈tusesF b.term,Us us v

def PhiOk (us:List Bool) (p:PhiR):Prop:=Us us p.d→∀ a∈p.arms,Us us a.v

def InsOk (us:List Bool) (x:InsR):Prop:=(keepsF x.op=true∨(0≤insDefF x∧Us us (insDefF x)))→∀ v∈usesF x,Us us v

theorem one_row {X:Hp} {id:Nat} {x:Int} (h:rdOb X id 0=some ⟨[.i x],0,true,1⟩):IsI X (.sl id 0 0 1) [x]:=IsI.mk (xs:=[x]) (off:=0) h rfl (by simp) (by simp)

theorem all_take {α:Type} {P:α→Prop} {xs:List α} {i:Nat} (hi:i<xs.length) (h:∀ x∈xs.take i,P x) (hx:P xs[i]):∀ x∈xs.take (i+1),P x:=by
 intro x h1
 rw[List.take_succ_eq_append_getElem hi]at h1
 rcases List.mem_append.1 h1 with h2 | h2
 ·exact h x h2
 ·simp at h2;rw[h2];exact hx

set_option maxRecDepth 100000 in
theorem useBlock_call {H X:Hp} {f:FnR} (hsh:shapeB f=true) {b:BlkR} (hb:b∈f.blocks) {w u:CV} (qp:Phis H w b.phis) (ql:List5 H u b.list) (qpl:b.phis.length≤BIG) (qll:b.list.length≤BIG) (hp:Pre H X) {uid:Nat} (hu:H.length≤uid) {us:List Bool}
  (ho:rdOb X uid 0=some (UsOb us)) (hl:us.length=f.values.toNat) (hs:∀ j:Nat,us.getD j false=true→UsedP f.blocks j) {t:TrmR} (ht:b.term=t) :
  CM 82 [.c (.sl uid 0 0 us.length),.agg [w,u,.i t.kind,.i t.a,.i t.to,.i t.els]] X (BlkRes H f.blocks uid us b):=by
 refine cw82 ?_
 unfold vf82c
 have hlt:=rdOb_lt ho
 obtain⟨X1,hX1⟩:∃ X1,X++[(⟨[w,u,.i t.kind,.i t.a,.i t.to,.i t.els],0,true,6⟩:Ob)]=X1:=⟨_,rfl⟩
 have hp1:Pre X X1:=⟨_,hX1.symm⟩
 have hB1:rdOb X1 X.length 0=some ⟨[w,u,.i t.kind,.i t.a,.i t.to,.i t.els],0,true,6⟩:=by rw[← hX1];simp
 obtain⟨tw,L,hw,hcall⟩:=implTUses X1 t
 obtain⟨X2,hX2⟩:∃ X2,X1++L=X2:=⟨_,rfl⟩
 have hp2:Pre X1 X2:=⟨_,hX2.symm⟩
 have hwI:=hw.isI
 rw[hX2]at hwI
 have ho2:=(hp1.trans hp2).rdOb ho
 have hv2:=tuses_vals hsh hb
 rw[ht]at hv2
 have hu2:=fun k=>implUseAll ho2 hwI (by rw[hl];exact hv2) (Nat.le_trans (tusesF_le t) (by simp[BIG])) k
 have hpl:=qp.lenOf
 have hll:=ql.lenOf
 have hne:X.length≠uid:=by omega
 have hR0:Rnd f.blocks us (markAll us (tusesF t)) (false || moreF us (tusesF t)):=(Rnd.refl hs).mark (by rw[hl];exact hv2) (fun v hv=>.term hb (by rw[ht];exact hv))
 rw[Bool.false_or]at hR0
 have hT0:moreF us (tusesF t)=false→TermOk us b:=fun h=>by unfold TermOk;rw[ht];exact moreF_no h
 obtain⟨X3,hX3⟩:∃ X3,X2.set uid (UsOb (markAll us (tusesF t)))=X3:=⟨_,rfl⟩
 have hU3:rdOb X3 uid 0=some (UsOb (markAll us (tusesF t))):=by rw[← hX3,rdOb_set_self (rdOb_lt ho2)];simp[UsOb]
 have hB3:rdOb X3 X.length 0=some ⟨[w,u,.i t.kind,.i t.a,.i t.to,.i t.els],0,true,6⟩:=by rw[← hX3,rdOb_set_ne hne];exact hp2.rdOb hB1
 have hp3:Pre H X3:=by rw[← hX3];exact ((hp.trans hp1).trans hp2).set hu _
 obtain⟨m0,hm0⟩:∃ m0,moreF us (tusesF t)=m0:=⟨_,rfl⟩
 rw[hm0]at hR0 hT0
 simp[hX1,rdN_ob hB1,hcall,hX2,hu2,hm0,hX3,rdC_ob hB3,hpl]
 obtain⟨I,hI⟩:∃ I:Nat→St→Prop,∀ j st,I j st↔(∃ ui m,Pre H st.h∧rdOb st.h uid 0=some (UsOb ui)∧Rnd f.blocks us ui m∧(m=false→TermOk us b∧∀ p∈b.phis.take j,PhiOk us p) ∧
   rdOb st.h X.length 0=some ⟨[w,u,.i t.kind,.i t.a,.i t.to,.i t.els],0,true,6⟩∧Env.get st.e 0=.c (.sl uid 0 0 us.length)∧Env.get st.e 3=.c (.p X.length 0 0)∧Env.get st.e 5=.c (.b m)∧Env.get st.e 19=.c w∧Env.get st.e 20=.c (.i b.phis.length)∧Env.get st.e 21=.c (.i j)):=⟨_,fun _ _=>Iff.rfl⟩
 refine wp_for CM_mono b.phis.length I ((hI _ _).2 ⟨_,m0,hp3,hU3,hR0,fun h=>⟨hT0 h,by simp⟩,hB3,by simp⟩) ?_ ?_
 ·rintro j ⟨e,Z⟩ hj hIs
  obtain⟨ui,m,hZ,hU,hR,hc,hBZ,e0,e3,e5,e19,e20,e21⟩:=(hI _ _).1 hIs
  simp only at hZ hU hBZ e0 e3 e5 e19 e20 e21 ⊢
  obtain⟨id2,g2,off2,w2,r1,_,r2,qa,_⟩:=Phis.get qp hj
  obtain⟨GZ,hGZ⟩:=id hZ
  have r2':=r2 GZ
  rw[← hGZ]at r2'
  obtain⟨ph,hph⟩:∃ ph,b.phis[j]=ph:=⟨_,rfl⟩
  have hmem:ph∈b.phis:=hph▸List.getElem_mem hj
  have hphB:=shape_phi hsh hb hmem
  rw[hph]at r2' qa
  obtain⟨hvd,hal,harm⟩:=phi_vals hphB
  obtain⟨kd,hkd,hkn⟩:=val_nat hvd
  have hul:ui.length=us.length:=hR.len
  obtain⟨Z1,hZ1⟩:∃ Z1,Z++[(⟨[.i ph.d,w2],0,true,2⟩:Ob)]=Z1:=⟨_,rfl⟩
  have hpZ1:Pre Z Z1:=⟨_,hZ1.symm⟩
  have h7:rdOb Z1 Z.length 0=some ⟨[.i ph.d,w2],0,true,2⟩:=by rw[← hZ1];simp
  have hU1:=hpZ1.rdOb hU
  have hrd:=rdU hU1 (k:=kd) (by omega)
  have hix:idxOf 1 (.sl uid 0 0 us.length) ph.d=some (.p uid 0 kd):=by rw[hkd];exact idx1 (by omega)
  have hall:=qa.lenOf
  have hnext:∀ ui' m' (Y:Hp) (e':Env),Pre H Y→rdOb Y uid 0=some (UsOb ui')→Rnd f.blocks us ui' m'→(m'=false→TermOk us b∧∀ p∈b.phis.take (j+1),PhiOk us p)→rdOb Y X.length 0=some ⟨[w,u,.i t.kind,.i t.a,.i t.to,.i t.els],0,true,6⟩ →
    Env.get e' 0=.c (.sl uid 0 0 us.length)∧Env.get e' 3=.c (.p X.length 0 0)∧Env.get e' 5=.c (.b m')∧Env.get e' 19=.c w∧Env.get e' 20=.c (.i b.phis.length)∧Env.get e' 21=.c (.i (j+1:Nat))→I (j+1) ⟨e',Y⟩:=
   fun ui' m' Y e' h1 h2 h3 h4 h5 h6=>(hI _ _).2 ⟨ui',m',h1,h2,h3,h4,h5,h6⟩
  unfold vf82b1
  cases hm:ui.getD kd false with
  | false =>
   rw[hm]at hrd
   simp[e0,e3,e5,e19,e20,e21,hj,r1,r2'.2.2,putD0,hZ1,rdC_ob h7,hix,hrd,up1 hj qpl]
   refine hnext ui m _ _ (hZ.trans hpZ1) hU1 hR (fun hf=>⟨(hc hf).1,all_take hj (hc hf).2 ?_⟩) (hpZ1.rdOb hBZ) (by simp[e0,e3,e5,e19,e20])
   rw[hph]
   intro hd
   unfold Us at hd
   rw[hkd,Int.toNat_natCast,← hR.no hf,hm]at hd
   cases hd
  | true =>
   rw[hm]at hrd
   have hud:UsedP f.blocks ph.d:=by rw[hkd];exact hR.snd kd hm
   simp[e0,e3,e5,e19,e20,e21,hj,r1,r2'.2.2,putD0,hZ1,rdC_ob h7,hix,hrd,hall]
   obtain⟨K,hK⟩:∃ K:Nat→St→Prop,∀ k st,K k st↔(∃ uk mk,Pre H st.h∧rdOb st.h uid 0=some (UsOb uk)∧Rnd f.blocks us uk mk∧(mk=false→(TermOk us b∧∀ p∈b.phis.take j,PhiOk us p)∧∀ a∈ph.arms.take k,Us us a.v) ∧
     rdOb st.h X.length 0=some ⟨[w,u,.i t.kind,.i t.a,.i t.to,.i t.els],0,true,6⟩∧Env.get st.e 0=.c (.sl uid 0 0 us.length)∧Env.get st.e 3=.c (.p X.length 0 0)∧Env.get st.e 5=.c (.b mk)∧Env.get st.e 19=.c w∧Env.get st.e 20=.c (.i b.phis.length)∧Env.get st.e 21=.c (.i j) ∧
     Env.get st.e 32=.c w2∧Env.get st.e 33=.c (.i ph.arms.length)∧Env.get st.e 34=.c (.i k)):=⟨_,fun _ _=>Iff.rfl⟩
   refine wp_for CM_mono ph.arms.length K ((hK _ _).2 ⟨ui,m,hZ.trans hpZ1,hU1,hR,fun hf=>⟨hc hf,by simp⟩,hpZ1.rdOb hBZ,by simp[e0,e3,e5,e19,e20,e21]⟩) ?_ ?_
   ·rintro k ⟨e2,W⟩ hk hKs
    obtain⟨uk,mk,hW,hUW,hRk,hck,hBW,e0,e3,e5,e19,e20,e21,e32,e33,e34⟩:=(hK _ _).1 hKs
    simp only at hW hUW hBW e0 e3 e5 e19 e20 e21 e32 e33 e34 ⊢
    obtain⟨id3,g3,off3,m1,⟨m2,m3,m4⟩,m5,m6,m7⟩:=Arms.get (qa.pre hW) hk
    obtain⟨a,ha⟩:∃ a,ph.arms[k]=a:=⟨_,rfl⟩
    have hamem:a∈ph.arms:=ha▸List.getElem_mem hk
    have hav:=(harm k hk).2
    rw[ha]at m2 m3 m4 hav
    obtain⟨W1,hW1⟩:∃ W1,W++[(⟨[.i a.fr,.i a.v],0,true,2⟩:Ob)]=W1:=⟨_,rfl⟩
    have hpW1:Pre W W1:=⟨_,hW1.symm⟩
    have h9:rdOb W1 W.length 0=some ⟨[.i a.fr,.i a.v],0,true,2⟩:=by rw[← hW1];simp
    obtain⟨W2,hW2⟩:∃ W2,W1++[(⟨[.i a.v],0,true,1⟩:Ob)]=W2:=⟨_,rfl⟩
    have hpW2:Pre W1 W2:=⟨_,hW2.symm⟩
    have hrow:IsI W2 (.sl W1.length 0 0 1) [a.v]:=one_row (by rw[← hW2];simp)
    have hU2:=(hpW1.trans hpW2).rdOb hUW
    have hukl:uk.length=us.length:=hRk.len
    have hvals:Vals uk.length [a.v]:=fun v hv=>by
     simp at hv;subst hv
     obtain⟨c,h1,h2⟩:=val_nat hav
     exact⟨c,h1,by omega⟩
    have hua:=fun k=>implUseAll hU2 hrow hvals (by simp[BIG]) k
    rw[hukl]at hua
    have hRn:=hRk.mark (vs:=[a.v]) (by rw[← hukl];exact hvals) (fun v hv=>by simp at hv;rw[hv];exact .phi hb hmem hud hamem)
    obtain⟨W3,hW3⟩:∃ W3,W2.set uid (UsOb (markAll uk [a.v]))=W3:=⟨_,rfl⟩
    have hU3:rdOb W3 uid 0=some (UsOb (markAll uk [a.v])):=by rw[← hW3,rdOb_set_self (rdOb_lt hU2)];simp[UsOb]
    have hB3:rdOb W3 X.length 0=some ⟨[w,u,.i t.kind,.i t.a,.i t.to,.i t.els],0,true,6⟩:=by rw[← hW3,rdOb_set_ne hne];exact (hpW1.trans hpW2).rdOb hBW
    have hpH3:Pre H W3:=by rw[← hW3];exact ((hW.trans hpW1).trans hpW2).set hu _
    have hcl:moreF uk [a.v]=false→mk=false→(TermOk us b∧∀ p∈b.phis.take j,PhiOk us p)∧∀ a∈ph.arms.take (k+1),Us us a.v:=fun h1 h2=>by
     refine⟨(hck h2).1,all_take (P:=fun a:ArmR=>Us us a.v) hk (hck h2).2 ?_⟩
     rw[ha,← hRk.no h2];exact moreF_no h1 _ (by simp)
    unfold vf82b0
    cases hmo:moreF uk [a.v] with
    | true =>
     rw[hmo,Bool.or_true]at hRn
     simp[e0,e3,e5,e19,e20,e21,e32,e33,e34,hk,m1,m4,putD0,putL0,hW1,rdC_ob h9,hW2,hua,hmo,hW3,up1 hk (show ph.arms.length≤BIG by simp only[BIG];omega)]
     exact (hK _ _).2 ⟨_,true,hpH3,hU3,hRn,(fun h=>by cases h),hB3,by simp[e0,e3,e19,e20,e21,e32,e33]⟩
    | false =>
     rw[hmo,Bool.or_false]at hRn
     simp[e0,e3,e5,e19,e20,e21,e32,e33,e34,hk,m1,m4,putD0,putL0,hW1,rdC_ob h9,hW2,hua,hmo,hW3,up1 hk (show ph.arms.length≤BIG by simp only[BIG];omega)]
     exact (hK _ _).2 ⟨_,mk,hpH3,hU3,hRn,hcl hmo,hB3,by simp[e0,e3,e5,e19,e20,e21,e32,e33]⟩
   ·rintro⟨e2,W⟩ hKs
    obtain⟨uk,mk,hW,hUW,hRk,hck,hBW,e0,e3,e5,e19,e20,e21,e32,e33,e34⟩:=(hK _ _).1 hKs
    simp only at hW hUW hBW e0 e3 e5 e19 e20 e21 e32 e33 e34 ⊢
    rw[List.take_length]at hck
    unfold vf82b0
    simp[e0,e3,e5,e19,e20,e21,e32,e33,e34,up1 hj qpl]
    exact hnext uk mk _ _ hW hUW hRk (fun hf=>⟨(hck hf).1.1,all_take hj (hck hf).1.2 (by rw[hph];exact fun _=>(hck hf).2)⟩) hBW (by simp[e0,e3,e5,e19,e20])
 ·rintro⟨e,Z⟩ hIs
  obtain⟨ui,m,hZ,hU,hR,hc,hBZ,e0,e3,e5,e19,e20,e21⟩:=(hI _ _).1 hIs
  simp only at hZ hU hBZ e0 e3 e5 e19 e20 e21 ⊢
  rw[List.take_length]at hc
  unfold vf82b1
  simp[e0,e3,e5,e19,e20,e21,rdC_ob hBZ,hll]
  obtain⟨J,hJ⟩:∃ J:Nat→St→Prop,∀ j st,J j st↔(∃ ui m,Pre H st.h∧rdOb st.h uid 0=some (UsOb ui)∧Rnd f.blocks us ui m∧(m=false→(TermOk us b∧∀ p∈b.phis,PhiOk us p)∧∀ x∈b.list.take j,InsOk us x) ∧
    Env.get st.e 0=.c (.sl uid 0 0 us.length)∧Env.get st.e 5=.c (.b m)∧Env.get st.e 46=.c u∧Env.get st.e 47=.c (.i b.list.length)∧Env.get st.e 48=.c (.i j)):=⟨_,fun _ _=>Iff.rfl⟩
  refine wp_for CM_mono b.list.length J ((hJ _ _).2 ⟨ui,m,hZ,hU,hR,fun h=>⟨hc h,by simp⟩,by simp[e0,e5]⟩) ?_ ?_
  ·rintro j ⟨e',W⟩ hj hJs
   obtain⟨ui,m,hW,hUW,hR,hc,e0,e5,e46,e47,e48⟩:=(hJ _ _).1 hJs
   simp only at hW hUW e0 e5 e46 e47 e48 ⊢
   obtain⟨id2,g2,off2,r1,_,r2,_⟩:=List5.get ql hj
   obtain⟨GW,hGW⟩:=id hW
   have r2':=r2 GW
   rw[← hGW]at r2'
   obtain⟨x,hx⟩:∃ x,b.list[j]=x:=⟨_,rfl⟩
   have hmem:x∈b.list:=hx▸List.getElem_mem hj
   have hxB:=shape_ins hsh hb hmem
   rw[hx]at r2'
   have hul:ui.length=us.length:=hR.len
   obtain⟨W1,hW1⟩:∃ W1,W++[(⟨[.i x.op,.i x.d,.i x.a,.i x.b,.i x.n],0,true,5⟩:Ob)]=W1:=⟨_,rfl⟩
   have hpW1:Pre W W1:=⟨_,hW1.symm⟩
   have h11:rdOb W1 W.length 0=some ⟨[.i x.op,.i x.d,.i x.a,.i x.b,.i x.n],0,true,5⟩:=by rw[← hW1];simp
   have hU1:=hpW1.rdOb hUW
   obtain⟨uw,L,hw,hcall⟩:=implUses W1 x
   obtain⟨W2,hW2⟩:∃ W2,W1++L=W2:=⟨_,rfl⟩
   have hwI:=hw.isI
   have hpW2:Pre W1 W2:=⟨_,hW2.symm⟩
   rw[hW2]at hwI
   have hU2:=hpW2.rdOb hU1
   have hvx:=uses_vals hsh hb hmem
   have hua:=fun k=>implUseAll hU2 hwI (by rw[hul,hl];exact hvx) (Nat.le_trans (usesF_le x) (by simp[BIG])) k
   rw[hul]at hua
   obtain⟨W3,hW3⟩:∃ W3,W2.set uid (UsOb (markAll ui (usesF x)))=W3:=⟨_,rfl⟩
   have hU3:rdOb W3 uid 0=some (UsOb (markAll ui (usesF x))):=by rw[← hW3,rdOb_set_self (rdOb_lt hU2)];simp[UsOb]
   have hpH3:Pre H W3:=by rw[← hW3];exact ((hW.trans hpW1).trans hpW2).set hu _
   have hgo:(keepsF x.op=true∨(0≤insDefF x∧Us ui (insDefF x)))→Rnd f.blocks us (markAll ui (usesF x)) (m || moreF ui (usesF x)):=fun hk=>hR.mark (by rw[hl];exact hvx) (fun v hv=>by
    rcases hk with hk | ⟨hd,hk⟩
    ·exact .stay hb hmem hk hv
    ·refine .make hb hmem hd ?_ hv
     obtain⟨k,h1,_⟩:=ins_def hxB hd
     unfold Us at hk
     rw[h1,Int.toNat_natCast]at hk
     rw[h1];exact hR.snd k hk)
   have hcl:moreF ui (usesF x)=false→m=false→(TermOk us b∧∀ p∈b.phis,PhiOk us p)∧∀ x∈b.list.take (j+1),InsOk us x:=fun h1 h2=>by
    refine⟨(hc h2).1,all_take hj (hc h2).2 ?_⟩
    rw[hx,← hR.no h2];exact fun _=>moreF_no h1
   have hskip:¬ (keepsF x.op=true∨(0≤insDefF x∧Us ui (insDefF x)))→m=false→(TermOk us b∧∀ p∈b.phis,PhiOk us p)∧∀ x∈b.list.take (j+1),InsOk us x:=fun h1 h2=>by
    refine⟨(hc h2).1,all_take hj (hc h2).2 ?_⟩
    rw[hx,← hR.no h2];exact fun hk=>absurd hk h1
   have hfin:∀ (e'':Env),(keepsF x.op=true∨(0≤insDefF x∧Us ui (insDefF x)))→(Env.get e'' 0=.c (.sl uid 0 0 us.length)∧Env.get e'' 5=.c (.b (m || moreF ui (usesF x)))∧Env.get e'' 46=.c u∧Env.get e'' 47=.c (.i b.list.length)∧Env.get e'' 48=.c (.i (j+1:Nat)))→J (j+1) ⟨e'',W3⟩:=fun e'' hk he=>(hJ _ _).2 ⟨_,_,hpH3,hU3,hgo hk,fun hf=>by
     rw[Bool.or_eq_false_iff]at hf;exact hcl hf.2 hf.1,he⟩
   unfold vf82b2
   cases hkp:keepsF x.op with
   | true =>
    cases hmo:moreF ui (usesF x) <;>
    ·simp[e0,e5,e46,e47,e48,hj,r1,r2'.2.2.2.2.2,put5,hW1,rdN_ob h11,rdC_ob h11,implInsDef,keeps_call,hkp,hcall,hW2,hua,hmo,hW3,up1 hj qll]
     exact hfin _ (.inl hkp) (by rw[hmo];simp[e0,e5,e46,e47])
   | false =>
    by_cases hd:0≤insDefF x
    ·obtain⟨k,hk1,hk2⟩:=ins_def hxB hd
     have hrd:=rdU hU1 (k:=k) (by omega)
     have hix:idxOf 1 (.sl uid 0 0 us.length) (k:Int)=some (.p uid 0 k):=idx1 (by omega)
     cases hb0:ui.getD k false with
     | true =>
      rw[hb0]at hrd
      have hus:Us ui (insDefF x):=by unfold Us;rw[hk1,Int.toNat_natCast];exact hb0
      cases hmo:moreF ui (usesF x) <;>
      ·simp[e0,e5,e46,e47,e48,hj,r1,r2'.2.2.2.2.2,put5,hW1,rdN_ob h11,rdC_ob h11,implInsDef,keeps_call,hkp,hk1,hix,hrd,hcall,hW2,hua,hmo,hW3,up1 hj qll]
       exact hfin _ (.inr ⟨hd,hus⟩) (by rw[hmo];simp[e0,e5,e46,e47])
     | false =>
      rw[hb0]at hrd
      have hno:¬ (keepsF x.op=true∨(0≤insDefF x∧Us ui (insDefF x))):=fun h=>by
       rcases h with h | ⟨_,h⟩
       ·rw[hkp]at h;cases h
       ·unfold Us at h;rw[hk1,Int.toNat_natCast,hb0]at h;cases h
      simp[e0,e5,e46,e47,e48,hj,r1,r2'.2.2.2.2.2,put5,hW1,rdN_ob h11,rdC_ob h11,implInsDef,keeps_call,hkp,hk1,hix,hrd,up1 hj qll]
      exact (hJ _ _).2 ⟨ui,m,hW.trans hpW1,hU1,hR,hskip hno,by simp[e0,e5,e46,e47]⟩
    ·have hno:¬ (keepsF x.op=true∨(0≤insDefF x∧Us ui (insDefF x))):=fun h=>by
      rcases h with h | ⟨h,_⟩
      ·rw[hkp]at h;cases h
      ·exact hd h
     simp[e0,e5,e46,e47,e48,hj,r1,r2'.2.2.2.2.2,put5,hW1,rdN_ob h11,rdC_ob h11,implInsDef,keeps_call,hkp,hd,up1 hj qll]
     exact (hJ _ _).2 ⟨ui,m,hW.trans hpW1,hU1,hR,hskip hno,by simp[e0,e5,e46,e47]⟩
  ·rintro⟨e',W⟩ hJs
   obtain⟨ui,m,hW,hUW,hR,hc,e0,e5,e46,e47,e48⟩:=(hJ _ _).1 hJs
   simp only at hW hUW e0 e5 e46 e47 e48 ⊢
   rw[List.take_length]at hc
   unfold vf82b2
   simp[e0,e5,e46,e47,e48]
   exact BlkRes.gc hp ho hW hUW hR fun hf=>⟨(hc hf).1.1,(hc hf).1.2,(hc hf).2⟩
noncomputable def used0 (f:FnR):List Bool:=if checkF f=0 then usedW f else []

theorem usedW_len (f:FnR):(usedW f).length=f.values.toNat:=by simp[usedW]

theorem cf_reps (n:Nat):cf (List.replicate n false)=n:=by unfold cf;rw[List.count_replicate];simp

set_option maxRecDepth 100000 in
theorem implUsed {H:Hp} {v:CV} {f:FnR} (hv:Blocks H v f.blocks) (hb:f.blocks.length≤BIG) :
  ∃ w L,RowB H w L (used0 f)∧∀ k:IV×Hp→Prop,CM 33 [.agg [v,.i f.values]] H k=k (.c w,H++L):=by
 obtain⟨X,hX⟩:∃ X,H++[(⟨[v,.i f.values],0,true,2⟩:Ob)]=X:=⟨_,rfl⟩
 have hp:Pre H X:=⟨_,hX.symm⟩
 have hB:rdOb X H.length 0=some ⟨[v,.i f.values],0,true,2⟩:=by rw[← hX];simp
 have hvX:=Blocks.pre hp hv
 by_cases hck:checkF f=0
 ·obtain⟨hsh,_,_,_,_⟩:=check_well hck
  obtain⟨s1,s2,s3,s4⟩:=shape_len hsh
  have hu0:used0 f=usedW f:=by unfold used0;rw[if_pos hck]
  refine⟨.sl H.length 0 0 (usedW f).length,[⟨(usedW f).map .b,0,true,1⟩],.inr ⟨by rw[hu0],by rw[hu0]⟩,fun k=>det (cw33 ?_) k⟩
  unfold vf33c
  have hm1:(0≤f.values∧f.values≤(LIM:Int))=True:=eq_true ⟨s3,by simp only[LIM];omega⟩
  obtain⟨X1,hX1⟩:∃ X1,X++[(⟨List.replicate f.values.toNat (.b false),0,true,1⟩:Ob)]=X1:=⟨_,rfl⟩
  have hp1:Pre X X1:=⟨_,hX1.symm⟩
  have hlX:X.length=H.length+1:=by rw[← hX];simp
  have hU1:rdOb X1 X.length 0=some (UsOb (List.replicate f.values.toNat false)):=by rw[← hX1];simp[UsOb]
  have hB1:=hp1.rdOb hB
  have hl:=hv.lenOf
  simp[hX,rdN_ob hB,rdC_ob hB,implCheck hvX hb,hck,hm1,hX1]
  obtain⟨O,hO⟩:∃ O:Nat→St→Prop,∀ n st,O n st↔(∃ us m,Pre X st.h∧rdOb st.h X.length 0=some (UsOb us)∧us.length=f.values.toNat∧(∀ j:Nat,us.getD j false=true→UsedP f.blocks j)∧(m=false→∀ b∈f.blocks,ClosedB us b)∧cf us+(if m=true then 1 else 0)≤n ∧
    Env.get st.e 1=.c (.p H.length 0 0)∧Env.get st.e 3=.c (.sl X.length 0 0 f.values.toNat)∧Env.get st.e 4=.c (.b m)):=⟨_,fun _ _=>Iff.rfl⟩
  refine wp_loop CM_mono O (k:=f.values.toNat+1) ((hO _ _).2 ⟨_,true,hp1,hU1,by simp,fun j hj=>?_,fun h=>(by cases h),by rw[cf_reps];simp,by simp⟩) ?_
  ·rw[List.getD_eq_getElem?_getD,List.getElem?_replicate]at hj
   split at hj<;>simp at hj
  ·rintro n ⟨e,Y⟩ hOs
   obtain⟨us,m,hY,hUY,hul,hs,hc,hcf,e1,e3,e4⟩:=(hO _ _).1 hOs
   simp only at hY hUY e1 e3 e4 ⊢
   have hBY:=hY.rdOb hB
   unfold vf33b1
   cases m with
   | false =>
    have hfin:=used_done hul hs (hc rfl)
    simp[e1,e3,e4]
    rw[hfin]at hUY
    rw[gcRet_row (o:=UsOb (usedW f)) (hp.trans hY) (by omega) hUY rfl (by simp[UsOb,flatC])]
    simp[UsOb,usedW_len]
   | true =>
    simp[e1,e3,e4,rdC_ob hBY,hl]
    obtain⟨I,hI⟩:∃ I:Nat→St→Prop,∀ i st,I i st↔(∃ ui m,Pre X st.h∧rdOb st.h X.length 0=some (UsOb ui)∧Rnd f.blocks us ui m∧(m=false→∀ b∈f.blocks.take i,ClosedB us b) ∧
      Env.get st.e 1=.c (.p H.length 0 0)∧Env.get st.e 3=.c (.sl X.length 0 0 f.values.toNat)∧Env.get st.e 4=.c (.b m)∧Env.get st.e 15=.c v∧Env.get st.e 16=.c (.i f.blocks.length)∧Env.get st.e 17=.c (.i i)):=⟨_,fun _ _=>Iff.rfl⟩
    refine wp_for CM_mono f.blocks.length I ((hI _ _).2 ⟨us,false,hY,hUY,Rnd.refl hs,fun _=>by simp,by simp[e1,e3]⟩) ?_ ?_
    ·rintro i ⟨e',Z⟩ hi hIs
     obtain⟨ui,m,hZ,hUZ,hR,hc,e1,e3,e4,e15,e16,e17⟩:=(hI _ _).1 hIs
     simp only at hZ hUZ e1 e3 e4 e15 e16 e17 ⊢
     have hmem:f.blocks[i]∈f.blocks:=List.getElem_mem hi
     obtain⟨i0,g0,off0,w,u,q1,_,q2,qp,ql,qpl,qll,_,_⟩:=Blocks.get hvX hi
     obtain⟨GY,hGY⟩:=id hZ
     have q2':=q2 GY
     rw[← hGY]at q2'
     obtain⟨t,ht⟩:∃ t,f.blocks[i].term=t:=⟨_,rfl⟩
     rw[ht]at q2'
     have huil:ui.length=us.length:=hR.len
     obtain⟨Z1,hZ1⟩:∃ Z1,Z++[(⟨[w,u,.i t.kind,.i t.a,.i t.to,.i t.els],0,true,6⟩:Ob)]=Z1:=⟨_,rfl⟩
     have hpZ1:Pre Z Z1:=⟨_,hZ1.symm⟩
     have h6:rdOb Z1 Z.length 0=some ⟨[w,u,.i t.kind,.i t.a,.i t.to,.i t.els],0,true,6⟩:=by rw[← hZ1];simp
     have hU1:=hpZ1.rdOb hUZ
     unfold vf33b0
     simp[e1,e3,e4,e15,e16,e17,hi,q1,q2'.2.2.2.2.2.2.2.2.2.2,put66c,hZ1,rdN_ob h6]
     have hub:=useBlock_call hsh hmem qp ql qpl qll (hZ.trans hpZ1) (uid:=X.length) (Nat.le_refl _) hU1 (by omega) hR.snd ht
     rw[show ui.length=f.values.toNat by omega]at hub
     refine hub.mono ?_
     rintro _ ⟨u2,m2,Z2,rfl,hZ2,hU2,hR2,hc2⟩
     have hRn:=hR.trans hR2
     have hcl:(m || m2)=false→∀ b∈f.blocks.take (i+1),ClosedB us b:=fun h=>by
      rw[Bool.or_eq_false_iff]at h
      exact all_take hi (hc h.1) (by rw[← hR.no h.1];exact hc2 h.2)
     cases m2 with
     | true =>
      rw[Bool.or_true]at hRn hcl
      simp[e1,e3,e4,e15,e16,e17,up1 hi hb]
      exact (hI _ _).2 ⟨u2,true,hZ2,hU2,hRn,hcl,by simp[e1,e3,e15,e16]⟩
     | false =>
      rw[Bool.or_false]at hRn hcl
      simp[e1,e3,e4,e15,e16,e17,up1 hi hb]
      exact (hI _ _).2 ⟨u2,m,hZ2,hU2,hRn,hcl,by simp[e1,e3,e4,e15,e16]⟩
    ·rintro⟨e',Z⟩ hIs
     obtain⟨ui,m,hZ,hUZ,hR,hc,e1,e3,e4,e15,e16,e17⟩:=(hI _ _).1 hIs
     simp only at hZ hUZ e1 e3 e4 e15 e16 e17 ⊢
     rw[List.take_length]at hc
     unfold vf33b0
     simp[e1,e3,e4,e15,e16,e17]
     simp at hcf
     have hlen:=hR.len
     cases m with
     | true =>
      have:=hR.yes rfl
      exact⟨n - 1,by omega,(hO _ _).2 ⟨ui,true,hZ,hUZ,by omega,hR.snd,fun h=>(by cases h),by simp;omega,by simp[e1,e3,e4]⟩⟩
     | false =>
      have hno:=hR.no rfl
      exact⟨n - 1,by omega,(hO _ _).2 ⟨ui,false,hZ,hUZ,by omega,hR.snd,fun _=>(by rw[hno];exact hc rfl),by rw[hno];simp;omega,by simp[e1,e3,e4]⟩⟩
 ·have hu0:used0 f=[]:=by unfold used0;rw[if_neg hck]
  refine⟨.ns,[],.inl ⟨rfl,rfl,hu0⟩,fun k=>det (cw33 ?_) k⟩
  unfold vf33c
  simp[hX,rdN_ob hB,implCheck hvX hb,hck]
  rw[gcRet_flat hp rfl]
def dropP (us:List Bool) (p:PhiR):Bool:=!us.getD p.d.toNat false

def dropX (us:List Bool) (x:InsR):Bool:=decide (0≤insDefF x) && !us.getD (insDefF x).toNat false && !decide (x.op=24) && !decide (x.op=21)

def pruneB (us:List Bool) (b:BlkR):BlkR:=⟨b.phis.filter fun p=>!dropP us p,b.list.filter fun x=>!dropX us x,b.term⟩

noncomputable def prune0 (f:FnR):FnR:=if checkF f=0 then ⟨f.blocks.map (pruneB (usedW f)),f.values⟩ else f

theorem prune0_le {f:FnR} (hb:f.blocks.length≤BIG):(prune0 f).blocks.length≤BIG:=by
 unfold prune0
 split
 ·simpa using hb
 ·exact hb
structure SeenN (p r:WSt):Prop where
 new:∃ ns:List Int,r.2=p.2++ns∧(∀ x∈ns,∃ k:Nat,x=k∧p.1.getD k false=false)∧ns.Nodup∧∀ j:Nat,r.1.getD j false=true↔p.1.getD j false=true∨(j:Int)∈ns

theorem SeenN.refl (p:WSt):SeenN p p:=⟨[],by simp,by simp,by simp,by simp⟩

theorem SeenN.trans {p q r:WSt} (h:SeenN p q) (k:SeenN q r):SeenN p r:=by
 obtain⟨n1,a1,b1,d1,c1⟩:=h.new
 obtain⟨n2,a2,b2,d2,c2⟩:=k.new
 refine⟨n1++n2,by rw[a2,a1,List.append_assoc],fun x hx=>?_,?_,fun j=>?_⟩
 ·rcases List.mem_append.1 hx with h | h
  ·exact b1 x h
  ·obtain⟨k,hk,hk2⟩:=b2 x h
   refine⟨k,hk,?_⟩
   cases hp:p.1.getD k false with
   | false=>rfl
   | true=>rw[(c1 k).2 (.inl hp)]at hk2;cases hk2
 ·rw[List.nodup_append]
  refine⟨d1,d2,fun x hx y hy e=>?_⟩
  subst e
  obtain⟨k,rfl,hk⟩:=b2 x hy
  rw[(c1 k).2 (.inr hx)]at hk;cases hk
 ·rw[c2,c1,List.mem_append,or_assoc]

theorem walkF_seenN (bs:List BlkR):∀ n b p,p.1.getD b true=false→SeenN p (walkF bs n b p):=by
 intro n
 induction n with
 | zero=>intro b p _;exact SeenN.refl p
 | succ n ih =>
  intro b p hb
  have hbl:=unseen_lt hb
  have hf:∀ (ks:List Int) (q:WSt),SeenN q (ks.foldl (wstepWith (walkF bs n)) q):=by
   intro ks
   induction ks with
   | nil=>intro q;exact SeenN.refl q
   | cons k r ihk =>
    intro q
    simp only[List.foldl_cons]
    by_cases hq:q.1.getD k.toNat true=true
    ·have e:wstepWith (walkF bs n) q k=q:=by unfold wstepWith;rw[if_pos hq]
     rw[e];exact ihk q
    ·have e:wstepWith (walkF bs n) q k=walkF bs n k.toNat q:=by unfold wstepWith;rw[if_neg hq]
     rw[e]
     exact SeenN.trans (ih _ _ (by simpa using hq)) (ihk _)
  obtain⟨ns,a,c,d0,d⟩:=(hf (succsAt bs b) (p.1.set b true,p.2)).new
  have e:∀ j:Nat,(p.1.set b true).getD j false=true↔p.1.getD j false=true∨(j:Int)=b:=by
   intro j
   rw[List.getD_eq_getElem?_getD,List.getElem?_set]
   by_cases h:b=j
   ·subst h;simp[hbl]
   ·have h2:¬ ((j:Int)=b):=by omega
    simp[h,h2]
  have hbf:p.1.getD b false=false:=by
   rw[List.getD_eq_getElem?_getD,List.getElem?_eq_getElem hbl]at hb ⊢
   exact hb
  refine⟨ns++[(b:Int)],?_,fun x hx=>?_,?_,fun j=>?_⟩
  ·simp only[walkF];rw[a];simp
  ·rcases List.mem_append.1 hx with h | h
   ·obtain⟨k,hk,hk2⟩:=c x h
    refine⟨k,hk,?_⟩
    cases hp:p.1.getD k false with
    | false=>rfl
    | true=>rw[(e k).2 (.inl hp)]at hk2;cases hk2
   ·simp at h;exact⟨b,h,hbf⟩
  ·rw[List.nodup_append]
   refine⟨d0,by simp,fun x hx y hy e'=>?_⟩
   simp at hy
   subst hy;subst e'
   obtain⟨k,hk,hk2⟩:=c _ hx
   rw[(e k).2 (.inr hk.symm)]at hk2;cases hk2
  ·simp only[walkF]
   rw[d,List.mem_append,e,List.mem_singleton]
   constructor
   ·rintro ((h | h) | h)
    ·exact .inl h
    ·exact .inr (.inr h)
    ·exact .inr (.inl h)
   ·rintro (h | h | h)
    ·exact .inl (.inl h)
    ·exact .inr h
    ·exact .inl (.inr h)

theorem ord_nodup {bs:List BlkR} (h:0<bs.length):(ordF bs).Nodup:=by
 obtain⟨ns,a,c,d,_⟩:=(walkF_seenN bs bs.length 0 (List.replicate bs.length false,[]) (getD_falses h)).new
 have e:ordF bs=ns.reverse:=by unfold ordF walk0;rw[a];simp
 rw[e];exact (List.reverse_perm ns).nodup_iff.2 d


structure KLe (q' q:Kn):Prop where
 len:q'.k.length=q.k.length
 le:∀ j:Nat,q'.k.getD j false=true→q.k.getD j false=true

theorem getD_setQ (l:List Bool) (d j:Nat):(l.set d true).getD j false=true↔l.getD j false=true∨(d=j∧d<l.length):=by
 rw[List.getD_eq_getElem?_getD,List.getElem?_set,List.getD_eq_getElem?_getD]
 by_cases h:d=j
 ·subst h
  by_cases hl:d<l.length<;>simp[hl]
 ·simp[h]

theorem KLe.learn2 {q' q:Kn} (h:KLe q' q) (y:InsR):KLe (learn q' y) (learn q y):=by
 unfold learn
 split
 ·refine⟨by simp[h.len],fun j hj=>?_⟩
  rw[getD_setQ]at hj ⊢
  rcases hj with hj | ⟨h1,h2⟩
  ·exact .inl (h.le j hj)
  ·exact .inr ⟨h1,by rw[← h.len];exact h2⟩
 ·exact h

theorem KLe.learn1 {q' q:Kn} (h:KLe q' q) (y:InsR):KLe q' (learn q y):=by
 unfold learn
 split
 ·refine⟨by simp[h.len],fun j hj=>?_⟩
  rw[getD_setQ]
  exact .inl (h.le j hj)
 ·exact h

theorem foldX_stays {q' q:Kn} (h:KLe q' q) (x:InsR):foldX q' (foldX q x)=foldX q x:=by
 by_cases hc:wordOk x.op=true∧q.k.getD x.a.toNat false=true∧q.k.getD x.b.toNat false=true
 ·have e:foldX q x=⟨20,x.d,0,0,wordF x.op (q.n.getD x.a.toNat 0) (q.n.getD x.b.toNat 0)⟩:=by unfold foldX;rw[if_pos hc]
  rw[e]
  unfold foldX
  rw[if_neg (fun hn=>absurd hn.1 (by simp only;decide))]
 ·have e:foldX q x=x:=by unfold foldX;rw[if_neg hc]
  rw[e]
  unfold foldX
  rw[if_neg (fun hn=>hc ⟨hn.1,h.le _ hn.2.1,h.le _ hn.2.2⟩)]

theorem foldl_out:∀ (xs:List InsR) (o:List InsR) (q:Kn),xs.foldl foldS (o,q)=(o++(foldL xs q).1,(foldL xs q).2):=by
 intro xs
 induction xs with
 | nil=>intro o q;simp[foldL]
 | cons x r ih =>
  intro o q
  have e1:∀ o,foldS (o,q) x=(o++[foldX q x],learn q (foldX q x)):=fun _=>rfl
  have e2:foldL (x :: r) q=r.foldl foldS ([]++[foldX q x],learn q (foldX q x)):=rfl
  rw[e2,List.foldl_cons,e1,ih,ih ([]++[foldX q x])]
  simp

theorem foldL_cons (x:InsR) (r:List InsR) (q:Kn):foldL (x :: r) q=(foldX q x :: (foldL r (learn q (foldX q x))).1,(foldL r (learn q (foldX q x))).2):=by
 have:=foldl_out r [foldX q x] (learn q (foldX q x))
 have e2:foldL (x :: r) q=r.foldl foldS ([foldX q x],learn q (foldX q x)):=rfl
 rw[e2,this];rfl

theorem foldL_stays (p:InsR→Bool):∀ (xs:List InsR) (q q':Kn),KLe q' q→(foldL ((foldL xs q).1.filter p) q').1=(foldL xs q).1.filter p∧KLe (foldL ((foldL xs q).1.filter p) q').2 (foldL xs q).2:=by
 intro xs
 induction xs with
 | nil=>intro q q' h;exact⟨rfl,h⟩
 | cons x r ih =>
  intro q q' h
  rw[foldL_cons]
  simp only
  rw[List.filter_cons]
  split
  ·rw[foldL_cons,foldX_stays h]
   obtain⟨a,b⟩:=ih (learn q (foldX q x)) (learn q' (foldX q x)) (h.learn2 _)
   exact⟨by simp only;rw[a],b⟩
  ·exact ih (learn q (foldX q x)) q' (h.learn1 _)

theorem foldK_other {s:List BlkR×Kn} {b j:Nat} (h:b≠j):(foldK s (b:Int)).1[j]? = s.1[j]?:=by
 simp only[foldK,Int.toNat_natCast]
 rw[List.getElem?_set_ne h]

theorem foldKs_other:∀ (xs:List Int) (s:List BlkR×Kn) (j:Nat),(∀ x∈xs,∃ k:Nat,x=k)→(j:Int)∉xs→(xs.foldl foldK s).1[j]? = s.1[j]?:=by
 intro xs
 induction xs with
 | nil=>intro s j _ _;rfl
 | cons x r ih =>
  intro s j hx hj
  obtain⟨k,rfl⟩:=hx x (by simp)
  rw[List.foldl_cons,ih _ _ (fun y hy=>hx y (by simp[hy])) (fun h=>hj (by simp[h])),foldK_other (fun e=>hj (by simp[e]))]

theorem foldKs_len:∀ (xs:List Int) (s:List BlkR×Kn),(xs.foldl foldK s).1.length=s.1.length:=by
 intro xs
 induction xs with
 | nil=>intro s;rfl
 | cons x r ih=>intro s;rw[List.foldl_cons,ih];simp[foldK]

theorem foldKs_term:∀ (xs:List Int) (s:List BlkR×Kn) (j:Nat),((xs.foldl foldK s).1.getD j blk0).term=(s.1.getD j blk0).term:=by
 intro xs
 induction xs with
 | nil=>intro s j;rfl
 | cons x r ih =>
  intro s j
  rw[List.foldl_cons,ih]
  simp only[foldK,List.getD_eq_getElem?_getD,List.getElem?_set]
  split
  ·rename_i h
   subst h
   split
   ·simp
   ·rename_i h2
    rw[List.getElem?_eq_none (by omega)]
  ·rfl

theorem foldKs_stays (p:InsR→Bool) {H:List BlkR}:∀ (xs:List Int) (s:List BlkR×Kn) (q':Kn),KLe q' s.2→xs.Nodup→(∀ x∈xs,∃ k:Nat,x=k∧k<s.1.length)→H.length=s.1.length →
  (∀ j:Nat,(H.getD j blk0).list=((xs.foldl foldK s).1.getD j blk0).list.filter p)→(xs.foldl foldK (H,q')).1=H:=by
 intro xs
 induction xs with
 | nil=>intro s q' _ _ _ _ _;rfl
 | cons x r ih =>
  intro s q' hq hn hx hl hH
  obtain⟨k,rfl,hk⟩:=hx x (by simp)
  rw[List.nodup_cons]at hn
  have hfin:((r.foldl foldK (foldK s k)).1)[k]? = (foldK s k).1[k]?:=foldKs_other r _ k (fun y hy=>by obtain⟨l,hl,_⟩:=hx y (by simp[hy]);exact⟨l,hl⟩) hn.1
  have hk1:(foldK s (k:Int)).1.getD k blk0=⟨(s.1.getD k blk0).phis,(foldL (s.1.getD k blk0).list s.2).1,(s.1.getD k blk0).term⟩:=by
   simp only[foldK,Int.toNat_natCast]
   rw[List.getD_eq_getElem?_getD,List.getElem?_set_self hk];rfl
  have hHk:(H.getD k blk0).list=(foldL (s.1.getD k blk0).list s.2).1.filter p:=by
   rw[hH k,List.foldl_cons]
   congr 1
   rw[List.getD_eq_getElem?_getD,hfin,← List.getD_eq_getElem?_getD,hk1]
  obtain⟨a,b⟩:=foldL_stays p (s.1.getD k blk0).list s.2 q' hq
  have e:foldK (H,q') (k:Int)=(H,(foldL (H.getD k blk0).list q').2):=by
   simp only[foldK,Int.toNat_natCast]
   congr 1
   rw[hHk,a,← hHk]
   have hkH:k<H.length:=by omega
   rw[blk_at hkH]
   exact List.set_getElem_self hkH
  rw[List.foldl_cons,e]
  refine ih (foldK s k) _ ?_ hn.2 (fun y hy=>?_) (by simp[foldK,hl]) (fun j=>?_)
  ·rw[hHk]
   exact b
  ·obtain⟨l,h1,h2⟩:=hx y (by simp[hy])
   exact⟨l,h1,by simpa [foldK] using h2⟩
  ·rw[hH j,List.foldl_cons]
theorem SameT.trans {a b c:List BlkR} (h:SameT a b) (k:SameT b c):SameT a c:=⟨by rw[k.len,h.len],fun i h1 h2=>by rw[k.term i (by rw[h.len];exact h1) h2,h.term i h1 (by rw[h.len];exact h1)]⟩

theorem fold_sameT {g:FnR} (hg:checkF g=0):SameT g.blocks (fold0 g).blocks:=by
 have e:(fold0 g).blocks=((ordF g.blocks).foldl foldK (g.blocks,kn0 g.values.toNat)).1:=by unfold fold0;rw[if_pos hg];rfl
 rw[e]
 refine⟨foldKs_len _ _,fun b h1 h2=>?_⟩
 have:=foldKs_term (ordF g.blocks) (g.blocks,kn0 g.values.toNat) b
 rw[blk_at h2,blk_at h1]at this
 exact this

theorem map_sameT (bs:List BlkR) (us:List Bool):SameT bs (bs.map (pruneB us)):=⟨by simp,fun b h1 h2=>by simp[pruneB]⟩

theorem fold_again {g h:FnR} (hg:checkF g=0) (p:InsR→Bool) (hT:SameT g.blocks h.blocks) (hv:h.values=g.values)
  (hl:∀ j:Nat,(h.blocks.getD j blk0).list=((fold0 g).blocks.getD j blk0).list.filter p):fold0 h=h:=by
 have hsh:=(well_iff.1 hg).sh
 have hpos:=shape_pos hsh
 have key:=foldKs_stays p (H:=h.blocks) (ordF g.blocks) (g.blocks,kn0 g.values.toNat) (kn0 h.values.toNat) (by rw[hv];exact⟨rfl,fun _ h=>h⟩) (ord_nodup hpos) (walk0_seen hpos).1 hT.len (fun j=>by
  rw[hl j]
  unfold fold0
  rw[if_pos hg];rfl)
 unfold fold0
 split
 ·have e:(foldTo h (ordF h.blocks)).1=h.blocks:=by rw[hT.ord];exact key
  rw[e]
 ·rfl

theorem used_get {f:FnR} {d:Int} (hd:∃ k:Nat,d=k∧k<f.values.toNat):(usedW f).getD d.toNat false=pB (UsedP f.blocks d):=by
 obtain⟨k,rfl,hk⟩:=hd
 unfold usedW
 rw[Int.toNat_natCast,List.getD_eq_getElem?_getD,List.getElem?_map,List.getElem?_range hk];rfl

theorem pB_iff {p:Prop}:pB p=true↔p:=by
 unfold pB
 exact @decide_eq_true_iff p (Classical.propDecidable p)

theorem used_kept {f:FnR} (hsh:shapeB f=true) {v:Int} (h:UsedP f.blocks v):UsedP (f.blocks.map (pruneB (usedW f))) v:=by
 induction h with
 | term hb hv=>exact .term (b:=pruneB (usedW f) _) (List.mem_map.2 ⟨_,hb,rfl⟩) hv
 | @stay b hb x hx hs v hv =>
  refine .stay (b:=pruneB (usedW f) b) (List.mem_map.2 ⟨_,hb,rfl⟩) (x:=x) ?_ hs hv
  refine List.mem_filter.2 ⟨hx,?_⟩
  unfold keepsF at hs
  simp only[Bool.or_eq_true,decide_eq_true_eq]at hs
  have:dropX (usedW f) x=false:=by
   unfold dropX
   rcases hs with (h | h) | h
   ·have:insDefF x=-1:=by unfold insDefF;rw[h];rfl
    rw[this];rfl
   ·have:insDefF x=-1:=by unfold insDefF;rw[h];rfl
    rw[this];rfl
   ·rw[h];simp
  rw[this];rfl
 | @make b hb x hx hd hu v hv ih =>
  refine .make (b:=pruneB (usedW f) b) (List.mem_map.2 ⟨_,hb,rfl⟩) (x:=x) ?_ hd ih hv
  refine List.mem_filter.2 ⟨hx,?_⟩
  have:dropX (usedW f) x=false:=by
   unfold dropX
   rw[used_get (ins_def (shape_ins hsh hb hx) hd),pB_true hu];simp
  rw[this];rfl
 | @phi b hb p hp hu a ha ih =>
  refine .phi (b:=pruneB (usedW f) b) (List.mem_map.2 ⟨_,hb,rfl⟩) (p:=p) ?_ ih ha
  refine List.mem_filter.2 ⟨hp,?_⟩
  have:dropP (usedW f) p=false:=by
   unfold dropP
   rw[used_get (val_nat (phi_vals (shape_phi hsh hb hp)).1),pB_true hu];rfl
  rw[this];rfl

theorem prune_again (f:FnR):prune0 (prune0 f)=prune0 f:=by
 by_cases hf:checkF f=0
 ·have hsh:=(well_iff.1 hf).sh
  have e:prune0 f=⟨f.blocks.map (pruneB (usedW f)),f.values⟩:=by unfold prune0;rw[if_pos hf]
  rw[e]
  unfold prune0
  split
  ·simp only[FnR.mk.injEq,and_true,List.map_map]
   apply List.map_congr_left
   intro b hb
   simp only[Function.comp,pruneB,BlkR.mk.injEq,and_true]
   have hus:∀ d:Int,(∃ k:Nat,d=k∧k<f.values.toNat)→(usedW f).getD d.toNat false=true→(usedW ⟨f.blocks.map (pruneB (usedW f)),f.values⟩).getD d.toNat false=true:=fun d hd hu=>by
    rw[used_get hd,pB_iff]at hu
    rw[used_get (f:=⟨f.blocks.map (pruneB (usedW f)),f.values⟩) hd,pB_iff]
    exact used_kept hsh hu
   constructor
   ·refine List.filter_eq_self.2 fun p hp=>?_
    obtain⟨hp1,hp2⟩:=List.mem_filter.1 hp
    unfold dropP at hp2 ⊢
    simp only[Bool.not_not]at hp2 ⊢
    exact hus _ (val_nat (phi_vals (shape_phi hsh hb hp1)).1) hp2
   ·refine List.filter_eq_self.2 fun x hx=>?_
    obtain⟨hx1,hx2⟩:=List.mem_filter.1 hx
    unfold dropX at hx2 ⊢
    by_cases hd:0≤insDefF x
    ·cases hu:(usedW f).getD (insDefF x).toNat false with
     | true=>rw[hus _ (ins_def (shape_ins hsh hb hx1) hd) hu];simp
     | false =>
      rw[hu]at hx2
      simp only[hd,decide_true,Bool.not_false,Bool.true_and]at hx2
      rw[Bool.not_eq_true']at hx2 ⊢
      rw[Bool.and_assoc,hx2];simp
    ·simp[hd]
  ·rfl
 ·have e:prune0 f=f:=by unfold prune0;rw[if_neg hf]
  rw[e,e]

theorem fold_values (g:FnR):(fold0 g).values=g.values:=by unfold fold0;split<;>rfl

theorem fold_fold (g:FnR):fold0 (fold0 g)=fold0 g:=by
 by_cases hg:checkF g=0
 ·exact fold_again hg (fun _=>true) (fold_sameT hg) (fold_values g) (fun j=>(List.filter_eq_self.2 fun _ _=>rfl).symm)
 ·have e:fold0 g=g:=by unfold fold0;rw[if_neg hg]
  rw[e,e]

theorem smaller_idem (g:FnR):prune0 (fold0 (prune0 (fold0 g)))=prune0 (fold0 g):=by
 have hff:fold0 (prune0 (fold0 g))=prune0 (fold0 g):=by
  by_cases hg:checkF g=0
  ·by_cases h1:checkF (fold0 g)=0
   ·have e:prune0 (fold0 g)=⟨(fold0 g).blocks.map (pruneB (usedW (fold0 g))),(fold0 g).values⟩:=by unfold prune0;rw[if_pos h1]
    rw[e]
    refine fold_again hg (fun x=>!dropX (usedW (fold0 g)) x) ((fold_sameT hg).trans (map_sameT _ _)) (fold_values g) (fun j=>?_)
    simp only[List.getD_eq_getElem?_getD,List.getElem?_map]
    cases (fold0 g).blocks[j]? with
    | none=>rfl
    | some b=>rfl
   ·have e:prune0 (fold0 g)=fold0 g:=by unfold prune0;rw[if_neg h1]
    rw[e];exact fold_fold g
  ·have e:fold0 g=g:=by unfold fold0;rw[if_neg hg]
   have e2:prune0 g=g:=by unfold prune0;rw[if_neg hg]
   rw[e,e2,e]
 rw[hff,prune_again]
theorem sameIns_call {H:Hp} {v w:CV} {xs:List InsR} (hv:List5 H v xs) (hw:List5 H w xs) (hb:xs.length≤BIG) (k:IV×Hp→Prop):CM 98 [.c v,.c w] H k=k (.c (.b true),H):=by
 refine det (cw98 ?_) k
 unfold vf98c
 simp[hv.lenOf,hw.lenOf]
 refine wp_for CM_mono xs.length (fun i s=>s.h=H∧Env.get s.e 0=.c v∧Env.get s.e 1=.c w∧Env.get s.e 5=.c (.i i)) (by simp) ?_ ?_
 ·rintro i ⟨e,X⟩ hi ⟨rfl,h0,h1,h5⟩
  simp only at h0 h1 h5 hv hw ⊢
  obtain⟨id,g,off,p1,p2,_⟩:=List5.get hv hi
  obtain⟨id',g',off',q1,q2,_⟩:=List5.get hw hi
  unfold vf98b0
  simp[h0,h1,h5,hv.lenOf,p1,p2.2.2.2.2.2,q1,q2.2.2.2.2.2,hi,up1 hi hb]
 ·rintro⟨e,X⟩ ⟨rfl,h0,h1,h5⟩
  simp only at h0 h1 h5 hv hw ⊢
  unfold vf98b0
  simp[h0,h1,h5,hv.lenOf]

theorem sameArms_call {H:Hp} {v w:CV} {xs:List ArmR} (hv:Arms H v xs) (hw:Arms H w xs) (hb:xs.length≤BIG) (k:IV×Hp→Prop):CM 99 [.c v,.c w] H k=k (.c (.b true),H):=by
 refine det (cw99 ?_) k
 unfold vf99c
 simp[hv.lenOf,hw.lenOf]
 refine wp_for CM_mono xs.length (fun i s=>s.h=H∧Env.get s.e 0=.c v∧Env.get s.e 1=.c w∧Env.get s.e 5=.c (.i i)) (by simp) ?_ ?_
 ·rintro i ⟨e,X⟩ hi ⟨rfl,h0,h1,h5⟩
  simp only at h0 h1 h5 hv hw ⊢
  obtain⟨id,g,off,p1,p2,_⟩:=Arms.get hv hi
  obtain⟨id',g',off',q1,q2,_⟩:=Arms.get hw hi
  unfold vf99b0
  simp[h0,h1,h5,hv.lenOf,p1,p2.2.2,q1,q2.2.2,hi,up1 hi hb]
 ·rintro⟨e,X⟩ ⟨rfl,h0,h1,h5⟩
  simp only at h0 h1 h5 hv hw ⊢
  unfold vf99b0
  simp[h0,h1,h5,hv.lenOf]

set_option maxRecDepth 100000 in
theorem sameBlk_call {H:Hp} {z u z' u':CV} {b:BlkR} (hz:Phis H z b.phis) (hz':Phis H z' b.phis) (hu:List5 H u b.list) (hu':List5 H u' b.list) (hb:b.phis.length≤BIG) (hb2:b.list.length≤BIG) (k:IV×Hp→Prop) :
  CM 50 [.agg [z,u,.i b.term.kind,.i b.term.a,.i b.term.to,.i b.term.els],.agg [z',u',.i b.term.kind,.i b.term.a,.i b.term.to,.i b.term.els]] H k=k (.c (.b true),H):=by
 refine det (cw50 ?_) k
 unfold vf50c
 obtain⟨X,hX⟩:∃ X,H++[(⟨[z,u,.i b.term.kind,.i b.term.a,.i b.term.to,.i b.term.els],0,true,6⟩:Ob),⟨[z',u',.i b.term.kind,.i b.term.a,.i b.term.to,.i b.term.els],0,true,6⟩]=X:=⟨_,rfl⟩
 have hp:Pre H X:=⟨_,hX.symm⟩
 have n1:rdOb X H.length 0=some ⟨[z,u,.i b.term.kind,.i b.term.a,.i b.term.to,.i b.term.els],0,true,6⟩:=by rw[← hX];simp[trmC]
 have n2:rdOb X (H.length+1) 0=some ⟨[z',u',.i b.term.kind,.i b.term.a,.i b.term.to,.i b.term.els],0,true,6⟩:=by rw[← hX];simp[trmC]
 have hzX:Phis X z b.phis:=Phis.pre hp hz
 have hzX':Phis X z' b.phis:=Phis.pre hp hz'
 have huX:List5 X u b.list:=List5.pre hp hu
 have huX':List5 X u' b.list:=List5.pre hp hu'
 simp[hX,rdC_ob n1,rdC_ob n2,rdN_ob n1,rdN_ob n2,hzX.lenOf,hzX'.lenOf,sameIns_call huX huX' hb2]
 refine wp_for CM_mono b.phis.length (fun i s=>s.h=X∧Env.get s.e 2=.c (.p H.length 0 0)∧Env.get s.e 3=.c (.p (H.length+1) 0 0)∧Env.get s.e 5=.c (.i i)) (by simp) ?_ ?_
 ·rintro i ⟨e,Y⟩ hi ⟨rfl,h2,h3,h5⟩
  simp only at h2 h3 h5 ⊢
  obtain⟨id,g,off,w1,p1,p2,_,p4,p5,_⟩:=Phis.get hzX hi
  obtain⟨id',g',off',w1',q1,q2,_,q4,q5,_⟩:=Phis.get hzX' hi
  unfold vf50b0
  simp[h2,h3,h5,rdC_ob n1,rdC_ob n2,hzX.lenOf,p1,p2.1,p2.2.1,q1,q2.1,q2.2.1,hi,sameArms_call p4 q4 p5,up1 hi hb]
 ·rintro⟨e,Y⟩ ⟨rfl,h2,h3,h5⟩
  simp only at h2 h3 h5 ⊢
  unfold vf50b0
  simp[h2,h3,h5,rdC_ob n1,hzX.lenOf]
  exact gcRet_flat hp (show flatV (.c (.b true))=true from rfl)

set_option maxRecDepth 100000 in
theorem sameFn_call {H:Hp} {v w:CV} {f:FnR} (hv:Blocks H v f.blocks) (hw:Blocks H w f.blocks) (hb:f.blocks.length≤BIG) (k:IV×Hp→Prop) :
  CM 14 [.agg [v,.i f.values],.agg [w,.i f.values]] H k=k (.c (.b true),H):=by
 refine det (cw14 ?_) k
 unfold vf14c
 obtain⟨X,hX⟩:∃ X,H++[(⟨[v,.i f.values],0,true,2⟩:Ob),⟨[w,.i f.values],0,true,2⟩]=X:=⟨_,rfl⟩
 have hp:Pre H X:=⟨_,hX.symm⟩
 have n1:rdOb X H.length 0=some ⟨[v,.i f.values],0,true,2⟩:=by rw[← hX];simp
 have n2:rdOb X (H.length+1) 0=some ⟨[w,.i f.values],0,true,2⟩:=by rw[← hX];simp
 have hvX:=hv.pre hp
 have hwX:=hw.pre hp
 simp[hX,rdC_ob n1,rdC_ob n2,hvX.lenOf,hwX.lenOf]
 refine wp_for CM_mono f.blocks.length (fun i s=>s.h=X∧Env.get s.e 2=.c (.p H.length 0 0)∧Env.get s.e 3=.c (.p (H.length+1) 0 0)∧Env.get s.e 5=.c (.i i)) (by simp) ?_ ?_
 ·rintro i ⟨e,Y⟩ hi ⟨rfl,h2,h3,h5⟩
  simp only at h2 h3 h5 ⊢
  obtain⟨id,g,off,z,u,p1,p2,_,p4,p5,p6,p7,_⟩:=hvX.get hi
  obtain⟨id',g',off',z',u',q1,q2,_,q4,q5,q6,q7,_⟩:=hwX.get hi
  have hbk:=sameBlk_call p4 q4 p5 q5 p6 p7
  unfold vf14b0
  simp[h2,h3,h5,rdC_ob n1,rdC_ob n2,hvX.lenOf,p1,p2.2.2.2.2.2.2.2.2.2.2,q1,q2.2.2.2.2.2.2.2.2.2.2,hi,hbk,up1 hi hb]
 ·rintro⟨e,Y⟩ ⟨rfl,h2,h3,h5⟩
  simp only at h2 h3 h5 ⊢
  unfold vf14b0
  simp[h2,h3,h5,rdC_ob n1,hvX.lenOf]
  exact gcRet_flat hp (show flatV (.c (.b true))=true from rfl)
theorem putAt_get3 {cs xs:List CV} {o:Nat} (h:o+xs.length≤cs.length) (i:Nat):(putAt cs o xs)[i]? = if i<o then cs[i]? else if i<o+xs.length then xs[i - o]? else cs[i]?:=by
 unfold putAt
 by_cases h1:i<o
 ·rw[if_pos h1,List.append_assoc,List.getElem?_append_left (by simp;omega),List.getElem?_take,if_pos h1]
 ·rw[if_neg h1]
  by_cases h2:i<o+xs.length
  ·rw[if_pos h2,List.append_assoc,List.getElem?_append_right (by simp;omega),List.getElem?_append_left (by simp;omega)]
   congr 1;simp;omega
  ·rw[if_neg h2,List.getElem?_append_right (by simp;omega),List.getElem?_drop]
   congr 1;simp;omega

def chk (cells:List CV) (sz k:Nat):List CV:=(cells.drop (k * sz)).take sz

theorem chk_at (cells:List CV) (sz k j:Nat):(chk cells sz k)[j]? = if j<sz then cells[k * sz+j]? else none:=by
 unfold chk
 rw[List.getElem?_take]
 split
 ·rw[List.getElem?_drop]
 ·rfl

theorem chk_len {cells:List CV} {sz k:Nat} (h:k * sz+sz≤cells.length):(chk cells sz k).length=sz:=by unfold chk;simp;omega

theorem chk_put {cells:List CV} {sz k j:Nat} {ys:List CV} (hj:j+ys.length≤sz) (h:k * sz+sz≤cells.length):chk (putAt cells (k * sz+j) ys) sz k=putAt (chk cells sz k) j ys:=by
 apply List.ext_getElem?
 intro i
 rw[chk_at,putAt_get3 (by omega),putAt_get3 (by rw[chk_len h];omega),chk_at]
 by_cases hi:i<sz
 ·simp only[if_pos hi]
  by_cases h1:i<j
  ·rw[if_pos h1,if_pos (by omega)]
  ·rw[if_neg h1,if_neg (by omega)]
   by_cases h2:i<j+ys.length
   ·rw[if_pos h2,if_pos (by omega)];congr 1;omega
   ·rw[if_neg h2,if_neg (by omega)]
 ·simp only[if_neg hi]
  rw[if_neg (by omega),if_neg (by omega)]

theorem chk_other {cells:List CV} {sz k k' j:Nat} {ys:List CV} (hk:k'≠k) (hj:j+ys.length≤sz) (h:k * sz+sz≤cells.length):chk (putAt cells (k * sz+j) ys) sz k'=chk cells sz k':=by
 apply List.ext_getElem?
 intro i
 rw[chk_at,chk_at]
 by_cases hi:i<sz
 ·rw[if_pos hi,if_pos hi,putAt_get3 (by omega)]
  rcases Nat.lt_or_gt_of_ne hk with h1 | h1
  ·have h2:(k'+1) * sz≤k * sz:=Nat.mul_le_mul_right _ h1
   rw[Nat.succ_mul]at h2
   rw[if_pos (by omega)]
  ·have h2:(k+1) * sz≤k' * sz:=Nat.mul_le_mul_right _ h1
   rw[Nat.succ_mul]at h2
   rw[if_neg (by omega),if_neg (by omega)]
 ·rw[if_neg hi,if_neg hi]

theorem chk_app {cells ds:List CV} {sz k:Nat} (h:k * sz+sz≤cells.length):chk (cells++ds) sz k=chk cells sz k:=by
 apply List.ext_getElem?
 intro i
 rw[chk_at,chk_at]
 by_cases hi:i<sz
 ·rw[if_pos hi,if_pos hi,List.getElem?_append_left (by omega)]
 ·rw[if_neg hi,if_neg hi]

theorem chk_last {cells cs:List CV} {sz k:Nat} (h:cells.length=k * sz) (hc:cs.length=sz):chk (cells++cs) sz k=cs:=by
 unfold chk
 rw[← h,List.drop_left,List.take_of_length_le (by omega)]

theorem chk_fit {cells:List CV} {sz k n m:Nat} (hm:cells.length=m * sz) (hn:n≤m) (hk:k<n):k * sz+sz≤cells.length:=by
 have h2:(k+1) * sz≤m * sz:=Nat.mul_le_mul_right _ (by omega)
 rw[Nat.succ_mul]at h2;omega

theorem chks_flat (cells:List CV) (sz:Nat):∀ n,n * sz≤cells.length→((List.range n).map (chk cells sz)).flatten=cells.take (n * sz):=by
 intro n
 induction n with
 | zero=>intro _;simp
 | succ n ih =>
  intro h
  rw[Nat.succ_mul]at h ⊢
  rw[List.range_succ,List.map_append,List.flatten_append,ih (by omega)]
  simp only[List.map_cons,List.map_nil,List.flatten_cons,List.flatten_nil,List.append_nil]
  unfold chk
  rw[List.take_add]


def Frm (G:Nat→Prop) (X Y:Hp):Prop:=∀ i,i<X.length→G i→Y[i]? = X[i]?

theorem Frm.lt {G:Nat→Prop} {X Y:Hp} (h:Frm G X Y) {i:Nat} (hi:i<X.length) (hG:G i):i<Y.length:=by
 have:=h i hi hG
 rw[List.getElem?_eq_getElem hi]at this
 exact (List.getElem?_eq_some_iff.1 this).1

theorem Frm.refl (G:Nat→Prop) (X:Hp):Frm G X X:=fun _ _ _=>rfl

theorem Frm.trans {G:Nat→Prop} {X Y Z:Hp} (h:Frm G X Y) (k:Frm G Y Z):Frm G X Z:=fun i hi hG=>(k i (h.lt hi hG) hG).trans (h i hi hG)

theorem Frm.mono {G G':Nat→Prop} {X Y:Hp} (h:Frm G X Y) (hG:∀ i,G' i→G i):Frm G' X Y:=fun i hi k=>h i hi (hG i k)

theorem Frm.monoL {G G':Nat→Prop} {X Y:Hp} (h:Frm G X Y) (hG:∀ i,i<X.length→G' i→G i):Frm G' X Y:=fun i hi k=>h i hi (hG i hi k)

theorem Frm.app (G:Nat→Prop) (X L:Hp):Frm G X (X++L):=fun i hi _=>List.getElem?_append_left hi

theorem Frm.set {G:Nat→Prop} (X:Hp) {id:Nat} (o:Ob) (h:¬ G id):Frm G X (X.set id o):=fun i hi hG=>List.getElem?_set_ne (by rintro rfl;exact h hG)

theorem Frm.pre {G:Nat→Prop} {X Y:Hp} (h:Pre X Y):Frm G X Y:=by obtain⟨L,rfl⟩:=h;exact Frm.app G X L

theorem Frm.ob {G:Nat→Prop} {X Y:Hp} (h:Frm G X Y) {id g:Nat} {o:Ob} (hg:G id) (ho:rdOb X id g=some o):rdOb Y id g=some o:=by
 have h1:=rdOb_some.1 ho
 exact rdOb_some.2 ⟨by rw[h id (rdOb_lt ho) hg];exact h1.1,h1.2⟩

theorem Frm.cut {X Y H:Hp} (h:Frm (fun i=>i<H.length) X Y) (hp:Pre H X):Pre H Y:=by
 obtain⟨L,rfl⟩:=hp
 refine⟨Y.drop H.length,?_⟩
 apply List.ext_getElem?
 intro i
 by_cases hi:i<H.length
 ·rw[List.getElem?_append_left hi,h i (by simp;omega) hi,List.getElem?_append_left hi]
 ·rw[List.getElem?_append_right (by omega),List.getElem?_drop]
  congr 1;omega

structure Stab {α:Type} (P:Hp→List CV→α→(Nat→Prop)→Prop):Prop where
 st:∀ {X Y:Hp} {cs:List CV} {x:α} {G:Nat→Prop},Frm G X Y→P X cs x G→P Y cs x G

structure FPc {α:Type} (P:Hp→List CV→α→(Nat→Prop)→Prop) (sz:Nat) (X:Hp) (id g:Nat) (cells:List CV) (xs:List α) (F:Nat→Prop) (Fs:Nat→Nat→Prop):Prop where
 ob:rdOb X id g=some ⟨cells,g,true,sz⟩
 len:∃ m,cells.length=m * sz∧xs.length≤m
 own:F id
 sub:∀ k i,k<xs.length→Fs k i→F i∧i≠id∧i<X.length
 dis:∀ j k i,j<xs.length→k<xs.length→j≠k→Fs j i→¬ Fs k i
 el:∀ k (h:k<xs.length),P X (chk cells sz k) xs[k] (Fs k)

def FRow {α:Type} (P:Hp→List CV→α→(Nat→Prop)→Prop) (sz:Nat) (X:Hp) (w:CV) (xs:List α) (F:Nat→Prop):Prop:=
 (w=.ns∧xs=[])∨∃ id g cells Fs,w=.sl id g 0 xs.length∧FPc P sz X id g cells xs F Fs

section

variable {α:Type} {P:Hp→List CV→α→(Nat→Prop)→Prop} {sz:Nat} {X Y:Hp} {id g:Nat} {cells:List CV} {xs:List α} {F F':Nat→Prop} {Fs:Nat→Nat→Prop} {w:CV}

theorem FPc.lt (h:FPc P sz X id g cells xs F Fs):id<X.length:=rdOb_lt h.ob

theorem FPc.fit (h:FPc P sz X id g cells xs F Fs) {k:Nat} (hk:k<xs.length):k * sz+sz≤cells.length:=by
 obtain⟨m,h1,h2⟩:=h.len
 exact chk_fit h1 h2 hk

theorem FPc.fr (hP:Stab P) (h:FPc P sz X id g cells xs F Fs) (hf:Frm F X Y):FPc P sz Y id g cells xs F Fs:=
 ⟨hf.ob h.own h.ob,h.len,h.own,fun k i hk hi=>⟨(h.sub k i hk hi).1,(h.sub k i hk hi).2.1,hf.lt (h.sub k i hk hi).2.2 (h.sub k i hk hi).1⟩,h.dis,fun k hk=>hP.st (hf.mono fun i hi=>(h.sub k i hk hi).1) (h.el k hk)⟩

theorem FPc.mono (h:FPc P sz X id g cells xs F Fs) (hF:∀ i,F i→F' i):FPc P sz X id g cells xs F' Fs:=
 ⟨h.ob,h.len,hF _ h.own,fun k i hk hi=>⟨hF _ (h.sub k i hk hi).1,(h.sub k i hk hi).2⟩,h.dis,h.el⟩

theorem FPc.row (h:FPc P sz X id g cells xs F Fs):FRow P sz X (.sl id g 0 xs.length) xs F:=.inr ⟨_,_,_,_,rfl,h⟩

theorem FRow.fr (hP:Stab P) (h:FRow P sz X w xs F) (hf:Frm F X Y):FRow P sz Y w xs F:=by
 rcases h with h | ⟨id,g,cells,Fs,h1,h2⟩
 ·exact .inl h
 ·exact .inr ⟨id,g,cells,Fs,h1,h2.fr hP hf⟩

theorem FRow.mono (h:FRow P sz X w xs F) (hF:∀ i,F i→F' i):FRow P sz X w xs F':=by
 rcases h with h | ⟨id,g,cells,Fs,h1,h2⟩
 ·exact .inl h
 ·exact .inr ⟨id,g,cells,Fs,h1,h2.mono hF⟩

theorem FRow.ns:FRow P sz X .ns [] F:=.inl ⟨rfl,rfl⟩

theorem FRow.form (h:FRow P sz X w xs F):w=.ns∨∃ i g n,w=.sl i g 0 n:=by
 rcases h with⟨rfl,rfl⟩ | ⟨id,g,cells,Fs,rfl,h2⟩
 ·exact .inl rfl
 ·exact .inr ⟨_,_,_,rfl⟩

theorem FRow.lenOf (h:FRow P sz X w xs F):lenOf w=some xs.length:=by
 rcases h with⟨rfl,rfl⟩ | ⟨id,g,cells,Fs,rfl,h2⟩<;>rfl

theorem FRow.open (h:FRow P sz X w xs F) {k:Nat} (hk:k<xs.length):∃ id g cells Fs,w=.sl id g 0 xs.length∧FPc P sz X id g cells xs F Fs:=by
 rcases h with⟨rfl,rfl⟩ | h
 ·simp at hk
 ·exact h

theorem idx_sl {id g n k sz:Nat} (hk:k<n):idxOf sz (.sl id g 0 n) (k:Int)=some (.p id g (k * sz)):=by simp[idxOf,hk]

theorem FPc.c (h:FPc P sz X id g cells xs F Fs) {k j:Nat} (hj:j<sz):rdC X id g (k * sz+j)=(chk cells sz k)[j]?:=by
 rw[rdC_ob h.ob,chk_at,if_pos hj]

theorem FPc.nn (h:FPc P sz X id g cells xs F Fs) {k:Nat} (hk:k<xs.length):rdN X id g (k * sz) sz=some (chk cells sz k):=by
 rw[rdN_ob h.ob,if_pos (h.fit hk)];rfl

theorem FPc.put (hP:Stab P) (h:FPc P sz X id g cells xs F Fs) {k:Nat} (hk:k<xs.length) {j:Nat} {ys:List CV} {x':α} {G':Nat→Prop} (hj:j+ys.length≤sz) (ho:rdOb Y id g=some ⟨putAt cells (k * sz+j) ys,g,true,sz⟩)
  (hf:Frm (fun i=>F i∧i≠id∧¬ Fs k i) X Y) (hG:∀ i,G' i→F i∧i≠id∧i<Y.length∧(Fs k i∨X.length≤i)) (hp:P Y (putAt (chk cells sz k) j ys) x' G') :
  FPc P sz Y id g (putAt cells (k * sz+j) ys) (xs.set k x') F (fun m i=>if m=k then G' i else Fs m i):=by
 have hfit:=h.fit hk
 refine⟨ho,?_,h.own,fun m i hm hi=>?_,fun a b i ha hb hab h1=>?_,fun m hm=>?_⟩
 ·obtain⟨m,h1,h2⟩:=h.len
  exact⟨m,by rw[putAt_length (by omega)];exact h1,by simpa using h2⟩
 ·simp only[List.length_set]at hm
  by_cases e:m=k
  ·rw[if_pos e]at hi
   exact⟨(hG i hi).1,(hG i hi).2.1,(hG i hi).2.2.1⟩
  ·rw[if_neg e]at hi
   obtain⟨q1,q2,q3⟩:=h.sub m i hm hi
   exact⟨q1,q2,hf.lt q3 ⟨q1,q2,fun h2=>h.dis m k i hm hk e hi h2⟩⟩
 ·simp only[List.length_set]at ha hb
  by_cases e:a=k
  ·rw[if_pos e]at h1
   rw[if_neg (by omega)]
   intro h2
   rcases (hG i h1).2.2.2 with h3 | h3
   ·exact h.dis k b i hk hb (by omega) h3 h2
   ·have:=(h.sub b i hb h2).2.2;omega
  ·rw[if_neg e]at h1
   by_cases e2:b=k
   ·rw[if_pos e2]
    intro h2
    rcases (hG i h2).2.2.2 with h3 | h3
    ·exact h.dis k a i hk ha (by omega) h3 h1
    ·have:=(h.sub a i ha h1).2.2;omega
   ·rw[if_neg e2]
    exact h.dis a b i ha hb hab h1
 ·simp only[List.length_set]at hm
  by_cases e:m=k
  ·subst e
   rw[chk_put hj hfit,List.getElem_set_self]
   simpa using hp
  ·rw[chk_other e hj hfit,List.getElem_set_ne (Ne.symm e)]
   simp only[if_neg e]
   exact hP.st (hf.mono fun i hi=>⟨(h.sub m i hm hi).1,(h.sub m i hm hi).2.1,fun h2=>h.dis m k i hm hk e hi h2⟩) (h.el m hm)

theorem putAt_no (cs:List CV) (o:Nat):putAt cs o []=cs:=by simp[putAt]

theorem FPc.nest (hP:Stab P) (h:FPc P sz X id g cells xs F Fs) {k:Nat} (hk:k<xs.length) {x':α} (hl:X.length≤Y.length) (hf:Frm (fun i=>F i∧¬ Fs k i) X Y) (hp:P Y (chk cells sz k) x' (Fs k)):FPc P sz Y id g cells (xs.set k x') F Fs:=by
 have ho:rdOb Y id g=some ⟨cells,g,true,sz⟩:=hf.ob ⟨h.own,fun h2=>(h.sub k id hk h2).2.1 rfl⟩ h.ob
 have:=h.put (Y:=Y) (j:=0) (ys:=[]) (x':=x') (G':=Fs k) hP hk (by simp) (by rw[putAt_no];exact ho) (hf.mono fun i hi=>⟨hi.1,hi.2.2⟩)
  (fun i hi=>⟨(h.sub k i hk hi).1,(h.sub k i hk hi).2.1,Nat.lt_of_lt_of_le (h.sub k i hk hi).2.2 hl,.inl hi⟩) (by rw[putAt_no];exact hp)
 rw[putAt_no]at this
 have e:(fun (m i:Nat)=>if m=k then Fs k i else Fs m i)=Fs:=by
  funext m i
  by_cases e:m=k
  ·rw[if_pos e,e]
  ·rw[if_neg e]
 rwa [e]at this

theorem FRow.bound (h:FRow P sz X w xs F):FRow P sz X w xs (fun i=>F i∧i<X.length):=by
 rcases h with h | ⟨id,g,cells,Fs,h1,h⟩
 ·exact .inl h
 ·exact .inr ⟨id,g,cells,Fs,h1,⟨h.ob,h.len,⟨h.own,h.lt⟩,fun k i hk hi=>⟨⟨(h.sub k i hk hi).1,(h.sub k i hk hi).2.2⟩,(h.sub k i hk hi).2⟩,h.dis,h.el⟩⟩

theorem FRow.view {P':Hp→List CV→α→Prop} (h:FRow P sz X w xs F) (hP:∀ cs x G,x∈xs→P X cs x G→P' X cs x):Row P' sz X w xs:=by
 rcases h with⟨rfl,rfl⟩ | ⟨id,g,cells,Fs,rfl,h⟩
 ·exact Row.ns
 ·obtain⟨m,h1,h2⟩:=h.len
  have hm:xs.length * sz≤m * sz:=Nat.mul_le_mul_right _ h2
  refine⟨(List.range xs.length).map (chk cells sz),.inr ⟨id,g,0,_,rfl,h.ob,rfl,by simp only;omega,?_⟩,by simp,fun k cs x a b=>?_⟩
  ·rw[chks_flat _ _ _ (by omega),List.drop_zero]
  ·have hk:=(List.getElem?_eq_some_iff.1 b).1
   rw[List.getElem?_map,List.getElem?_range hk]at a
   simp at a
   subst a
   have:=List.getElem?_eq_getElem hk
   rw[this]at b
   injection b with b
   subst b
   exact⟨chk_len (h.fit hk),hP _ _ _ (List.getElem_mem hk) (h.el k hk)⟩

theorem FRow.snoc (hP:Stab P) (h:FRow P sz X w xs F) (hb:xs.length≤BIG) (hs:sz≤8) (hs0:0<sz) {cs:List CV} {x:α} {G:Nat→Prop} (hc:cs.length=sz) (hp:∀ Z,Frm G X Z→P Z cs x G) (hG:∀ i,G i→¬ F i∧i<X.length) :
  ∃ i' g' Z,doApp X sz w 1 cs=some (.c (.sl i' g' 0 (xs.length+1)),Z)∧FRow P sz Z (.sl i' g' 0 (xs.length+1)) (xs++[x]) (fun i=>F i∨G i∨(i=X.length∧i<Z.length))∧Frm (fun i=>¬ F i) X Z∧X.length≤Z.length:=by
 rcases h with⟨rfl,rfl⟩ | ⟨id,g,cells,Fs,rfl,h⟩
 ·refine⟨X.length,0,X++[⟨cs,0,true,sz⟩],?_,?_,Frm.app _ _ _,by simp⟩
  ·simp[doApp,fresh,hc,LIM];omega
  ·refine .inr ⟨X.length,0,cs,fun _=>G,rfl,by simp,⟨1,by simp[hc],by simp⟩,.inr (.inr ⟨rfl,by simp⟩),fun k i _ hi=>⟨.inr (.inl hi),?_,?_⟩,fun a b i ha hb hab=>?_,fun k hk=>?_⟩
   ·have:=(hG i hi).2;omega
   ·have:=(hG i hi).2;simp;omega
   ·simp at ha hb;omega
   ·have:k=0:=by simpa using hk
    subst this
    have e:chk cs sz 0=cs:=by unfold chk;simp[← hc]
    rw[e]
    exact hp _ (Frm.app _ _ _)
 ·obtain⟨m,h1,h2⟩:=h.len
  by_cases hm:xs.length=m
  ·-- grown
   have hl:xs.length * sz=cells.length:=by rw[h1,hm]
   have hbz:m * sz≤BIG * 8:=Nat.mul_le_mul (by omega) hs
   have hZ:∀ G:Nat→Prop,¬ G id→Frm G X (X.set id ⟨cells++cs,g+1,true,sz⟩):=fun G hG=>Frm.set X _ hG
   refine⟨id,g+1,X.set id ⟨cells++cs,g+1,true,sz⟩,?_,?_,hZ _ (fun hn=>hn h.own),by simp⟩
   ·have e1:¬ (xs.length * sz+cs.length≤cells.length):=by omega
    have e2:xs.length * sz=cells.length∧cells.length+cs.length≤LIM:=⟨hl,by simp only[BIG]at hbz;simp only[LIM];omega⟩
    simp only[doApp,h.ob,Option.bind_some]
    rw[if_pos (by simp),if_neg e1,if_pos e2]
   ·refine .inr ⟨id,g+1,cells++cs,fun k i=>if k<xs.length then Fs k i else G i,by simp,by rw[rdOb_set_self h.lt];simp,⟨m+1,by rw[List.length_append,h1,hc,Nat.succ_mul],by simp;omega⟩,Or.inl h.own,fun k i hk hi=>?_,fun a b i ha hb hab h3 h4=>?_,fun k hk=>?_⟩
    ·by_cases e:k<xs.length
     ·rw[if_pos e]at hi
      obtain⟨q1,q2,q3⟩:=h.sub k i e hi
      exact⟨.inl q1,q2,by simpa using q3⟩
     ·rw[if_neg e]at hi
      obtain⟨q2,q3⟩:=hG i hi
      exact⟨.inr (.inl hi),fun e=>q2 (e▸h.own),by simpa using q3⟩
    ·simp at ha hb
     by_cases e:a<xs.length
     ·rw[if_pos e]at h3
      by_cases e2:b<xs.length
      ·rw[if_pos e2]at h4;exact h.dis a b i e e2 hab h3 h4
      ·rw[if_neg e2]at h4;exact (hG i h4).1 (h.sub a i e h3).1
     ·rw[if_neg e]at h3
      by_cases e2:b<xs.length
      ·rw[if_pos e2]at h4;exact (hG i h3).1 (h.sub b i e2 h4).1
      ·omega
    ·by_cases e:k<xs.length
     ·rw[chk_app (h.fit e),List.getElem_append_left e]
      simp only[if_pos e]
      exact hP.st (hZ _ fun hn=>(h.sub k id e hn).2.1 rfl) (h.el k e)
     ·have e2:k=xs.length:=by simp at hk;omega
      subst e2
      rw[chk_last hl.symm hc]
      simp only[Nat.lt_irrefl,if_false]
      rw[List.getElem_append_right (Nat.le_refl _)]
      simpa using hp _ (hZ _ fun hn=>(hG id hn).1 h.own)
  ·-- there was room
   have hmm:(xs.length+1) * sz≤m * sz:=Nat.mul_le_mul_right _ (by omega)
   rw[Nat.succ_mul]at hmm
   have hle:xs.length * sz+cs.length≤cells.length:=by omega
   have hZ:∀ G:Nat→Prop,¬ G id→Frm G X (X.set id ⟨putAt cells (xs.length * sz) cs,g,true,sz⟩):=fun G hG=>Frm.set X _ hG
   refine⟨id,g,X.set id ⟨putAt cells (xs.length * sz) cs,g,true,sz⟩,?_,?_,hZ _ (fun hn=>hn h.own),by simp⟩
   ·simp only[doApp,h.ob,Option.bind_some]
    rw[if_pos (by simp),if_pos hle]
   ·have hp0:putAt cells (xs.length * sz) cs=putAt cells (xs.length * sz+0) cs:=rfl
    refine .inr ⟨id,g,putAt cells (xs.length * sz) cs,fun k i=>if k<xs.length then Fs k i else G i,by simp,by rw[rdOb_set_self h.lt];simp,⟨m,by rw[putAt_length hle];exact h1,by simp;omega⟩,Or.inl h.own,fun k i hk hi=>?_,fun a b i ha hb hab h3 h4=>?_,fun k hk=>?_⟩
    ·by_cases e:k<xs.length
     ·rw[if_pos e]at hi
      obtain⟨q1,q2,q3⟩:=h.sub k i e hi
      exact⟨.inl q1,q2,by simpa using q3⟩
     ·rw[if_neg e]at hi
      obtain⟨q2,q3⟩:=hG i hi
      exact⟨.inr (.inl hi),fun e=>q2 (e▸h.own),by simpa using q3⟩
    ·simp at ha hb
     by_cases e:a<xs.length
     ·rw[if_pos e]at h3
      by_cases e2:b<xs.length
      ·rw[if_pos e2]at h4;exact h.dis a b i e e2 hab h3 h4
      ·rw[if_neg e2]at h4;exact (hG i h4).1 (h.sub a i e h3).1
     ·rw[if_neg e]at h3
      by_cases e2:b<xs.length
      ·rw[if_pos e2]at h4;exact (hG i h3).1 (h.sub b i e2 h4).1
      ·omega
    ·by_cases e:k<xs.length
     ·rw[hp0,chk_other (by omega) (by omega) (by omega),List.getElem_append_left e]
      simp only[if_pos e]
      exact hP.st (hZ _ fun hn=>(h.sub k id e hn).2.1 rfl) (h.el k e)
     ·have e2:k=xs.length:=by simp at hk;omega
      subst e2
      have e3:putAt (chk cells sz xs.length) 0 cs=cs:=by
       unfold putAt
       rw[List.drop_eq_nil_of_le (by rw[chk_len (by omega)];omega)];simp
      rw[hp0,chk_put (by omega) (by omega),e3]
      simp only[Nat.lt_irrefl,if_false]
      rw[List.getElem_append_right (Nat.le_refl _)]
      simpa using hp _ (hZ _ fun hn=>(hG id hn).1 h.own)

end


def armF (_:Hp) (cs:List CV) (a:ArmR) (_:Nat→Prop):Prop:=cs=armC a

def insF (_:Hp) (cs:List CV) (x:InsR) (_:Nat→Prop):Prop:=cs=insC x

def phiF (X:Hp) (cs:List CV) (p:PhiR) (G:Nat→Prop):Prop:=∃ z,cs=[.i p.d,z]∧FRow armF 2 X z p.arms G∧p.arms.length≤BIG

def blkF (X:Hp) (cs:List CV) (b:BlkR) (G:Nat→Prop):Prop:=
 ∃ (z u:CV) (Gz Gu:Nat→Prop),cs=z :: u :: trmC b.term∧FRow phiF 2 X z b.phis Gz∧FRow insF 5 X u b.list Gu∧(∀ i,Gz i→G i∧¬ Gu i)∧(∀ i,Gu i→G i)∧b.phis.length≤BIG∧b.list.length≤BIG

theorem armF_st:Stab armF:=⟨fun _ h=>h⟩

theorem insF_st:Stab insF:=⟨fun _ h=>h⟩

theorem phiF_st:Stab phiF:=by
 constructor
 intro X Y cs p G hf h
 obtain⟨z,h1,h2,h3⟩:=h
 exact⟨z,h1,h2.fr armF_st hf,h3⟩

theorem blkF_st:Stab blkF:=by
 constructor
 intro X Y cs p G hf h
 obtain⟨z,u,Gz,Gu,h1,h2,h3,h4,h5,h6⟩:=h
 exact⟨z,u,Gz,Gu,h1,h2.fr phiF_st (hf.mono fun i hi=>(h4 i hi).1),h3.fr insF_st (hf.mono h5),h4,h5,h6⟩

abbrev Tree (S:Nat→Prop) (X:Hp) (v:CV) (bs:List BlkR):Prop:=FRow blkF 6 X v bs S

theorem phiF.p {X:Hp} {cs:List CV} {p:PhiR} {G:Nat→Prop} (h:phiF X cs p G):phiP BIG X cs p:=by
 obtain⟨z,h1,h2,h3⟩:=h
 exact⟨z,h1,h2.view fun _ _ _ _ h=>h,h3⟩

theorem blkF.p {X:Hp} {cs:List CV} {b:BlkR} {G:Nat→Prop} (h:blkF X cs b G):blkP BIG X cs b:=by
 obtain⟨z,u,Gz,Gu,h1,h2,h3,h4,h5,h6,h7⟩:=h
 exact⟨z,u,h1,h2.view fun _ _ _ _ h=>phiF.p h,h3.view fun _ _ _ _ h=>h,h6,h7⟩

theorem Tree.blocks {S:Nat→Prop} {X:Hp} {v:CV} {bs:List BlkR} (h:Tree S X v bs):Blocks X v bs:=FRow.view h fun _ _ _ _ h=>blkF.p h

theorem Tree.at_ {S:Nat→Prop} {X:Hp} {v:CV} {bs:List BlkR} (h:Tree S X v bs) {b:Nat} (hb:b<bs.length) :
  ∃ id g cells Fs z u Gz Gu,v=.sl id g 0 bs.length∧FPc blkF 6 X id g cells bs S Fs∧chk cells 6 b=z :: u :: trmC bs[b].term∧FRow phiF 2 X z bs[b].phis Gz∧FRow insF 5 X u bs[b].list Gu ∧
   (∀ i,Gz i→Fs b i∧¬ Gu i)∧(∀ i,Gu i→Fs b i)∧bs[b].phis.length≤BIG∧bs[b].list.length≤BIG:=by
 obtain⟨id,g,cells,Fs,rfl,hc⟩:=FRow.open h hb
 clear h
 obtain⟨z,u,Gz,Gu,h1,h2,h3,h4,h5,h6,h7⟩:=hc.el b hb
 exact⟨id,g,cells,Fs,z,u,Gz,Gu,rfl,hc,h1,h2,h3,h4,h5,h6,h7⟩
section

variable {α:Type} {P:Hp→List CV→α→(Nat→Prop)→Prop} {sz:Nat} {X:Hp} {F:Nat→Prop} {w:CV} {ys r:List α} {x:α} {i:Nat}

theorem mid_get (ys r:List α) (x:α):(ys++x :: r)[ys.length]? = some x:=by rw[List.getElem?_append_right (Nat.le_refl _),Nat.sub_self];rfl

theorem mid_set (ys r:List α) (x y:α):(ys++x :: r).set ys.length y=ys++y :: r:=by rw[List.set_append];simp

theorem mid_at (ys r:List α) (x:α) (h:ys.length<(ys++x :: r).length):(ys++x :: r)[ys.length]=x:=by
 have:=mid_get ys r x
 rw[List.getElem?_eq_getElem h]at this
 injection this

theorem FRow.readS (h:FRow P sz X w (ys++x :: r) F) (hi:ys.length=i):∃ id g cs,∃ G:Nat→Prop,idxOf sz w (i:Int)=some (.p id g (i * sz))∧rdN X id g (i * sz) sz=some cs∧P X cs x G∧id<X.length:=by
 subst hi
 have hk:ys.length<(ys++x :: r).length:=by simp
 obtain⟨id,g,cells,Fs,rfl,hc⟩:=h.open hk
 have hel:=hc.el _ hk
 rw[mid_at]at hel
 exact⟨id,g,_,_,idx_sl hk,hc.nn hk,hel,hc.lt⟩

theorem FRow.wholeS (hP:Stab P) (h:FRow P sz X w (ys++x :: r) F) (hi:ys.length=i) {cs:List CV} {x':α} (hc:cs.length=sz) (hp:∀ Z,P Z cs x' (fun _=>False)) :
  ∃ id g cells Z,idxOf sz w (i:Int)=some (.p id g (i * sz))∧rdOb X id g=some ⟨cells,g,true,sz⟩∧i * sz+sz≤cells.length∧X.set id ⟨putAt cells (i * sz) cs,g,true,sz⟩=Z∧FRow P sz Z w (ys++x' :: r) F∧Frm (fun i=>¬ F i) X Z∧Z.length=X.length:=by
 subst hi
 have hk:ys.length<(ys++x :: r).length:=by simp
 obtain⟨id,g,cells,Fs,rfl,hc2⟩:=h.open hk
 clear h
 have hset:∀ G:Nat→Prop,¬ G id→Frm G X (X.set id ⟨putAt cells (ys.length * sz) cs,g,true,sz⟩):=fun G hG=>Frm.set X _ hG
 refine⟨id,g,cells,_,idx_sl hk,hc2.ob,hc2.fit hk,rfl,?_,hset _ (fun hn=>hn hc2.own),by simp⟩
 have e0:∀ q:List CV,q.length=sz→putAt q 0 cs=cs:=fun q hq=>by
  unfold putAt
  rw[List.drop_eq_nil_of_le (by omega)];simp
 have:=(hc2.put (Y:=X.set id ⟨putAt cells (ys.length * sz) cs,g,true,sz⟩) (x':=x') (G':=fun _=>False) hP hk (j:=0) (ys:=cs) (by omega) (by rw[Nat.add_zero,rdOb_set_self hc2.lt];simp) (hset _ fun hn=>hn.2.1 rfl)
  (fun i hi=>hi.elim) (by rw[e0 _ (chk_len (hc2.fit hk))];exact hp _)).row
 rw[mid_set]at this
 simpa using this

theorem drop_mid {xs:List α} {i:Nat} (hi:i<xs.length):xs.drop i=xs[i] :: xs.drop (i+1):=List.drop_eq_getElem_cons hi

end
theorem flat_map_len {α:Type} {c:α→List CV} {sz:Nat} (hc:∀ x,(c x).length=sz) (xs:List α):(xs.map c).flatten.length=xs.length * sz:=by
 rw[flat_len (sz:=sz) (fun cs h=>by obtain⟨x,_,rfl⟩:=List.mem_map.1 h;exact hc x),List.length_map]

theorem chk_map {α:Type} {c:α→List CV} {sz:Nat} (hc:∀ x,(c x).length=sz) {xs:List α} {k:Nat} (hk:k<xs.length):chk (xs.map c).flatten sz k=c xs[k]:=by
 unfold chk
 rw[chunk (fun cs h=>by obtain⟨x,_,rfl⟩:=List.mem_map.1 h;exact hc x) (by simpa using hk)]
 simp

theorem FRow.leaf {α:Type} {P:Hp→List CV→α→(Nat→Prop)→Prop} {c:α→List CV} {sz:Nat} (hc:∀ x,(c x).length=sz) (hP:∀ X x G,P X (c x) x G) {X:Hp} {id g:Nat} {xs:List α} {F:Nat→Prop} (h:rdOb X id g=some ⟨(xs.map c).flatten,g,true,sz⟩) (hF:F id) :
  FRow P sz X (.sl id g 0 xs.length) xs F:=
 .inr ⟨id,g,_,fun _ _=>False,rfl,h,⟨xs.length,flat_map_len hc xs,Nat.le_refl _⟩,hF,fun k i _ h=>h.elim,fun a b i _ _ _ h=>h.elim,fun k hk=>by rw[chk_map hc hk];exact hP _ _ _⟩

theorem row_src {α:Type} {c:α→List CV} {sz:Nat} {H:Hp} {v:CV} {xs:List α} (h:Row (fun _ cs x=>cs=c x) sz H v xs):srcOf H sz v=some (xs.length,(xs.map c).flatten):=by
 obtain⟨css,h1,h2,h3⟩:=h
 have e:css=xs.map c:=by
  apply List.ext_getElem?
  intro k
  by_cases hk:k<xs.length
  ·have a:=List.getElem?_eq_getElem (show k<css.length by omega)
   have b:=List.getElem?_eq_getElem hk
   have:=(h3 k _ _ a b).2
   rw[a,List.getElem?_map,b,show css[k]=c xs[k] from this];rfl
  ·rw[List.getElem?_eq_none (by omega),List.getElem?_eq_none (by simp;omega)]
 subst e
 rcases h1 with⟨rfl,h4,h5⟩ | ⟨id,g,off,o,rfl,h4,h5,h6,h7⟩
 ·have:xs=[]:=List.length_eq_zero_iff.1 h4
  subst this;rfl
 ·simp[srcOf,h4,h6,h7]

theorem arms_srcF {H:Hp} {v:CV} {xs:List ArmR} (h:Arms H v xs):srcOf H 2 v=some (xs.length,(xs.map armC).flatten):=row_src h

theorem list_srcF {H:Hp} {v:CV} {xs:List InsR} (h:List5 H v xs):srcOf H 5 v=some (xs.length,(xs.map insC).flatten):=row_src h

theorem fillApp {H:Hp} {id sz n:Nat} {cells:List CV} (h:rdOb H id 0=some ⟨[],0,true,sz⟩) (hl:cells.length=n * sz) (hs:0<sz) (hb:n * sz≤LIM) :
  ∃ g,doApp H sz (.sl id 0 0 0) n cells=some (.c (.sl id g 0 n),H.set id ⟨cells,g,true,sz⟩):=by
 by_cases h0:0<n
 ·refine⟨1,?_⟩
  have hp:0<n * sz:=Nat.mul_pos h0 hs
  have:=app_own (X:=H) (o:=id) (g:=0) (n:=0) (sz:=sz) (m:=n) (cs:=[]) (xs:=cells) h (by simp) (by omega) (by simpa [hl] using hb)
  simpa using this
 ·have hn:n=0:=by omega
  subst hn
  have:cells=[]:=List.length_eq_zero_iff.1 (by simpa using hl)
  subst this
  exact⟨0,by simp[doApp,h,putAt]⟩

theorem armC_len (x:ArmR):(armC x).length=2:=rfl

theorem insC_len (x:InsR):(insC x).length=5:=rfl

theorem flat_map_flat {α:Type} {c:α→List CV} (hc:∀ x,(c x).all flatC=true) (xs:List α):((xs.map c).flatten).all flatC=true:=by
 rw[List.all_eq_true]
 intro y hy
 obtain⟨cs,h1,h2⟩:=List.mem_flatten.1 hy
 obtain⟨x,_,rfl⟩:=List.mem_map.1 h1
 exact List.all_eq_true.1 (hc x) y h2

theorem big_lim {n sz:Nat} (hb:n≤BIG) (hs:sz≤8):n * sz≤LIM:=by
 have:=Nat.mul_le_mul hb hs
 simp only[BIG]at this
 simp only[LIM];omega

theorem cloneIns {H:Hp} {v:CV} {xs:List InsR} (hv:List5 H v xs) (hb:xs.length≤BIG) :
  ∃ w L,FRow insF 5 (H++L) w xs (·=H.length)∧∀ k:IV×Hp→Prop,CM 80 [.c v] H k=k (.c w,H++L):=by
 by_cases hn:v=.ns
 ·subst hn
  have hx:xs=[]:=List.length_eq_zero_iff.1 (by have:=hv.lenOf;simp[lenOf]at this;omega)
  subst hx
  refine⟨.ns,[],FRow.ns,fun k=>det (cw80 ?_) k⟩
  unfold vf80c
  simp
 ·obtain⟨id,gg,off,n,rfl⟩:∃ id gg off n,v=.sl id gg off n:=by
   obtain⟨css,h1,_⟩:=hv
   rcases h1 with⟨h,_⟩ | ⟨id,gg,off,o,h,_⟩
   ·exact absurd h hn
   ·exact⟨_,_,_,_,h⟩
  refine⟨.sl H.length 0 0 xs.length,[⟨(xs.map insC).flatten,0,true,5⟩],FRow.leaf insC_len (fun _ _ _=>rfl) (by simp) rfl,fun k=>det (cw80 ?_) k⟩
  unfold vf80c
  have hsrc:=list_srcF (hv.app [⟨[],0,true,5⟩])
  obtain⟨g,hg⟩:=fillApp (H:=H++[⟨[],0,true,5⟩]) (id:=H.length) (sz:=5) (n:=xs.length) (by simp) (flat_map_len insC_len xs) (by omega) (big_lim hb (by omega))
  simp[hsrc,hg]
  rw[gcRet_row ⟨_,rfl⟩ (Nat.le_refl _) (o:=⟨(xs.map insC).flatten,g,true,5⟩) (by simp) rfl (flat_map_flat (fun x=>rfl) xs)]

theorem cloneArm {H:Hp} {v:CV} {xs:List ArmR} (hv:Arms H v xs) (hb:xs.length≤BIG) :
  ∃ w L,FRow armF 2 (H++L) w xs (·=H.length)∧∀ k:IV×Hp→Prop,CM 81 [.c v] H k=k (.c w,H++L):=by
 by_cases hn:v=.ns
 ·subst hn
  have hx:xs=[]:=List.length_eq_zero_iff.1 (by have:=hv.lenOf;simp[lenOf]at this;omega)
  subst hx
  refine⟨.ns,[],FRow.ns,fun k=>det (cw81 ?_) k⟩
  unfold vf81c
  simp
 ·obtain⟨id,gg,off,n,rfl⟩:∃ id gg off n,v=.sl id gg off n:=by
   obtain⟨css,h1,_⟩:=hv
   rcases h1 with⟨h,_⟩ | ⟨id,gg,off,o,h,_⟩
   ·exact absurd h hn
   ·exact⟨_,_,_,_,h⟩
  refine⟨.sl H.length 0 0 xs.length,[⟨(xs.map armC).flatten,0,true,2⟩],FRow.leaf armC_len (fun _ _ _=>rfl) (by simp) rfl,fun k=>det (cw81 ?_) k⟩
  unfold vf81c
  have hsrc:=arms_srcF (hv.app [⟨[],0,true,2⟩])
  obtain⟨g,hg⟩:=fillApp (H:=H++[⟨[],0,true,2⟩]) (id:=H.length) (sz:=2) (n:=xs.length) (by simp) (flat_map_len armC_len xs) (by omega) (big_lim hb (by omega))
  simp[hsrc,hg]
  rw[gcRet_row ⟨_,rfl⟩ (Nat.le_refl _) (o:=⟨(xs.map armC).flatten,g,true,2⟩) (by simp) rfl (flat_map_flat (fun x=>rfl) xs)]
abbrev BOb (z u:CV) (t:TrmR):Ob:=⟨[z,u,.i t.kind,.i t.a,.i t.to,.i t.els],0,true,6⟩

set_option maxRecDepth 100000 in
theorem cloneIn {H X6:Hp} {o6:Nat} {wz u:CV} {ps:List PhiR} {t:TrmR} {e:Env} {Q:X×St→Prop} {x1 x2 x3 x5 x13 x14 x15:IV} (hp:Phis H wz ps) (hb:ps.length≤BIG) (hp6:Pre H X6) (ho:H.length≤o6) (h6:rdOb X6 o6 0=some (BOb .ns u t))
  (e1:Env.get e 1=x1) (e2:Env.get e 2=x2) (e3:Env.get e 3=x3) (e5:Env.get e 5=x5) (e13:Env.get e 13=x13) (e14:Env.get e 14=x14) (e15:Env.get e 15=x15) (e6:Env.get e 6=.c (.p o6 0 0)) (e26:Env.get e 26=.c wz) (e27:Env.get e 27=.c (.i ps.length)) (e28:Env.get e 28=.c (.i 0))
  (hQ:∀ (Y:Hp) (z:CV) (e':Env),X6.length≤Y.length→rdOb Y o6 0=some (BOb z u t)→FRow phiF 2 Y z ps (fun i=>X6.length≤i∧i<Y.length)→Frm (fun i=>i<X6.length∧i≠o6) X6 Y →
   Env.get e' 1=x1→Env.get e' 2=x2→Env.get e' 3=x3→Env.get e' 5=x5→Env.get e' 13=x13→Env.get e' 14=x14→Env.get e' 15=x15→Env.get e' 6=.c (.p o6 0 0)→Q (.exit 2,⟨e',Y⟩)) :
  loopD (exW CM [0,1,2,3,5,6,8,13,14,15,16,26,27,28,29] vf32b0) ⟨e,X6⟩ Q:=by
 obtain⟨I,hI⟩:∃ I:Nat→St→Prop,∀ j s,I j s↔(∃ z,X6.length≤s.h.length∧rdOb s.h o6 0=some (BOb z u t)∧FRow phiF 2 s.h z (ps.take j) (fun i=>X6.length≤i∧i<s.h.length)∧Frm (fun i=>i<X6.length∧i≠o6) X6 s.h ∧
   Env.get s.e 1=x1∧Env.get s.e 2=x2∧Env.get s.e 3=x3∧Env.get s.e 5=x5∧Env.get s.e 13=x13∧Env.get s.e 14=x14∧Env.get s.e 15=x15∧Env.get s.e 6=.c (.p o6 0 0)∧Env.get s.e 26=.c wz∧Env.get s.e 27=.c (.i ps.length)∧Env.get s.e 28=.c (.i j)):=⟨_,fun _ _=>Iff.rfl⟩
 have hl6:=rdOb_lt h6
 refine wp_for CM_mono ps.length I ((hI _ _).2 ⟨.ns,Nat.le_refl _,h6,FRow.ns,Frm.refl _ _,e1,e2,e3,e5,e13,e14,e15,e6,e26,e27,e28⟩) ?_ ?_
 ·rintro j ⟨e0,X7⟩ hj hIs
  obtain⟨z,hlX,hO,hR,hf,f1,f2,f3,f5,f13,f14,f15,f6,f26,f27,f28⟩:=(hI _ _).1 hIs
  simp only at hlX hO hR hf f1 f2 f3 f5 f13 f14 f15 f6 f26 f27 f28 ⊢
  have hp7:Pre H X7:=(hf.mono fun i (hi:i<H.length)=>by have:=hp6.le;omega).cut hp6
  obtain⟨p,hpp⟩:∃ p,ps[j]=p:=⟨_,rfl⟩
  obtain⟨id,g,off,wa,q1,q2,q3,qa,qb,_,_⟩:=Phis.get (Phis.pre hp7 hp) hj
  rw[hpp]at q2 q3 qa qb
  obtain⟨Y1,hY1⟩:∃ Y1,X7++[(⟨[.i p.d,wa],0,true,2⟩:Ob)]=Y1:=⟨_,rfl⟩
  have hp1:Pre X7 Y1:=⟨_,hY1.symm⟩
  have l1:Y1.length=X7.length+1:=by rw[← hY1];simp
  have n1:rdOb Y1 X7.length 0=some ⟨[.i p.d,wa],0,true,2⟩:=by rw[← hY1];simp
  have k1:=hp1.rdOb hO
  obtain⟨w8,L8,har,hcl⟩:=cloneArm (Arms.pre hp1 qa) qb
  obtain⟨Y2,hY2⟩:∃ Y2,Y1++L8=Y2:=⟨_,rfl⟩
  rw[hY2]at har
  have hp2:Pre Y1 Y2:=⟨_,hY2.symm⟩
  have l2:=hp2.le
  have n2:=hp2.rdOb n1
  have k2:=hp2.rdOb k1
  obtain⟨Y3,hY3⟩:∃ Y3,Y2++[(⟨[.i p.d,w8],0,true,2⟩:Ob)]=Y3:=⟨_,rfl⟩
  have hp3:Pre Y2 Y3:=⟨_,hY3.symm⟩
  have l3:Y3.length=Y2.length+1:=by rw[← hY3];simp
  have n3:rdOb Y3 Y2.length 0=some ⟨[.i p.d,w8],0,true,2⟩:=by rw[← hY3];simp
  have k3:=hp3.rdOb k2
  have hsrc:srcOf Y3 2 (.sl Y2.length 0 0 1)=some (1,[.i p.d,w8]):=by simp[srcOf,n3]
  have hR3:=hR.fr phiF_st (Frm.pre (hp1.trans (hp2.trans hp3)))
  obtain⟨iz,gz,Y4,happ,hR4,hf4,l4⟩:=hR3.snoc phiF_st (by rw[List.length_take];omega) (by omega) (by omega) (cs:=[.i p.d,w8]) (x:=p) (G:=fun i=>i=Y1.length) rfl
   (fun Z hZ=>⟨w8,rfl,har.fr armF_st ((Frm.pre hp3).trans hZ),qb⟩) (fun i hi=>by subst hi;omega)
  rw[List.length_take,Nat.min_eq_left (by omega)]at happ hR4
  have k4:rdOb Y4 o6 0=some (BOb z u t):=hf4.ob (by omega) k3
  obtain⟨Y5,hY5⟩:∃ Y5,Y4.set o6 (BOb (.sl iz gz 0 (j+1)) u t)=Y5:=⟨_,rfl⟩
  have l5:Y5.length=Y4.length:=by rw[← hY5];simp
  have k5:rdOb Y5 o6 0=some (BOb (.sl iz gz 0 (j+1)) u t):=by rw[← hY5,rdOb_set_self (rdOb_lt k4)];simp
  have hf5:∀ G:Nat→Prop,¬ G o6→Frm G Y4 Y5:=fun G hG=>by rw[← hY5];exact Frm.set _ _ hG
  unfold vf32b0
  rcases har.form with rfl | ⟨i8,g8,n8,rfl⟩
  all_goals simp[f1,f2,f3,f5,f13,f14,f15,f6,f26,f27,f28,hj,q1,q2.2.2,putAt,hY1,rdC_ob n1,rdC_ob k1,hcl,hY2,hY3,k1,k2,n1,n2,k3,k4,hsrc,happ,hY5,up1 hj hb]
  all_goals refine (hI _ _).2 ⟨.sl iz gz 0 (j+1),by simp only;omega,k5,?_,?_,by simp⟩
  any_goals
   rw[List.take_succ_eq_append_getElem hj,hpp]
   refine (hR4.fr phiF_st (hf5 _ (by omega))).mono fun i hi=>?_
   simp only
   omega
  all_goals
   refine hf.trans (((Frm.pre (hp1.trans (hp2.trans hp3))).trans (hf4.mono fun i hi=>?_)).trans (hf5 _ fun hn=>hn.2 rfl))
   omega
 ·rintro⟨e0,X7⟩ hIs
  obtain⟨z,hlX,hO,hR,hf,f1,f2,f3,f5,f13,f14,f15,f6,f26,f27,f28⟩:=(hI _ _).1 hIs
  simp only at hlX hO hR hf f1 f2 f3 f5 f13 f14 f15 f6 f26 f27 f28 ⊢
  rw[List.take_length]at hR
  unfold vf32b0
  simp[f1,f2,f3,f5,f13,f14,f15,f6,f26,f27,f28]
  exact hQ X7 z _ hlX hO hR hf (by simp) (by simp) (by simp) (by simp) (by simp) (by simp) (by simp) (by simp)

theorem pushBlk {X0 X X6 Y:Hp} {o3 o6 i:Nat} {w z u:CV} {m:Int} {b:BlkR} {bs:List BlkR} {Gu:Nat→Prop} (h3:o3<X0.length) (hT:Tree (fun j=>X0.length≤j∧j<X.length) X w bs) (hbs:bs.length=i) (hib:i≤BIG) (hO:rdOb X o3 0=some ⟨[w,.i m],0,true,2⟩) (hf:Frm (fun j=>j<o3) X0 X) (hlX:X0.length≤X.length)
  (hp6:Pre X X6) (ho6:X.length≤o6) (hu:FRow insF 5 X6 u b.list Gu) (hGu:∀ j,Gu j→X.length≤j∧j<X6.length∧j≠o6)
  (hlY:X6.length≤Y.length) (hY:rdOb Y o6 0=some (BOb z u b.term)) (hz:FRow phiF 2 Y z b.phis (fun j=>X6.length≤j∧j<Y.length)) (hfY:Frm (fun j=>j<X6.length∧j≠o6) X6 Y) (hb1:b.phis.length≤BIG) (hb2:b.list.length≤BIG) :
  ∃ i' g' Y1 Z Z2,Y++[BOb z u b.term]=Y1∧rdOb Y o3 0=some ⟨[w,.i m],0,true,2⟩∧srcOf Y1 6 (.sl Y.length 0 0 1)=some (1,[z,u,.i b.term.kind,.i b.term.a,.i b.term.to,.i b.term.els]) ∧
   doApp Y1 6 w 1 [z,u,.i b.term.kind,.i b.term.a,.i b.term.to,.i b.term.els]=some (.c (.sl i' g' 0 (i+1)),Z)∧rdOb Z o3 0=some ⟨[w,.i m],0,true,2⟩∧Z.set o3 ⟨[.sl i' g' 0 (i+1),.i m],0,true,2⟩=Z2 ∧
   rdOb Z2 o3 0=some ⟨[.sl i' g' 0 (i+1),.i m],0,true,2⟩∧Tree (fun j=>X0.length≤j∧j<Z2.length) Z2 (.sl i' g' 0 (i+1)) (bs++[b])∧Frm (fun j=>j<o3) X0 Z2∧X0.length≤Z2.length:=by
 obtain⟨Y1,hY1⟩:∃ Y1,Y++[BOb z u b.term]=Y1:=⟨_,rfl⟩
 have hp1:Pre Y Y1:=⟨_,hY1.symm⟩
 have l1:Y1.length=Y.length+1:=by rw[← hY1];simp
 have n1:rdOb Y1 Y.length 0=some (BOb z u b.term):=by rw[← hY1];simp
 have l6:=hp6.le
 have hXY:∀ G:Nat→Prop,(∀ j,G j→j<X.length)→Frm G X Y:=fun G hG=>(Frm.pre hp6).trans (hfY.mono fun j hj=>by have:=hG j hj;omega)
 have hOY:rdOb Y o3 0=some ⟨[w,.i m],0,true,2⟩:=(hXY (fun j=>j<X0.length) (fun j hj=>by omega)).ob h3 hO
 have hTY:=(hT.fr blkF_st (hXY _ fun j hj=>hj.2)).fr blkF_st (Frm.pre hp1)
 subst hbs
 have huY:FRow insF 5 Y1 u b.list Gu:=(hu.fr insF_st (hfY.mono fun j hj=>⟨(hGu j hj).2.1,(hGu j hj).2.2⟩)).fr insF_st (Frm.pre hp1)
 have hzY:=hz.fr phiF_st (Frm.pre hp1)
 obtain⟨i',g',Z,happ,hT4,hf4,l4⟩:=hTY.snoc blkF_st hib (by omega) (by omega) (cs:=[z,u,.i b.term.kind,.i b.term.a,.i b.term.to,.i b.term.els]) (x:=b) (G:=fun j=>X.length≤j∧j<Y.length) rfl
  (fun W hW=>⟨z,u,_,Gu,rfl,hzY.fr phiF_st (hW.mono fun j hj=>by omega),huY.fr insF_st (hW.mono fun j hj=>by have:=hGu j hj;omega),fun j hj=>⟨by omega,fun hg=>by have:=hGu j hg;omega⟩,fun j hj=>by have:=hGu j hj;omega,hb1,hb2⟩)
  (fun j hj=>by omega)
 have hO4:rdOb Z o3 0=some ⟨[w,.i m],0,true,2⟩:=hf4.ob (by omega) (hp1.rdOb hOY)
 refine⟨i',g',Y1,Z,_,hY1,hOY,by simp[srcOf,n1],happ,hO4,rfl,by rw[rdOb_set_self (rdOb_lt hO4)];simp,?_,?_,?_⟩
 ·refine (hT4.fr blkF_st (Frm.set _ _ (by omega))).mono fun j hj=>?_
  simp only[List.length_set]
  omega
 ·exact hf.trans ((hXY _ fun j hj=>by omega).trans ((Frm.pre hp1).trans ((hf4.mono fun j hj=>by omega).trans (Frm.set _ _ (by omega)))))
 ·simp only[List.length_set];omega

set_option maxRecDepth 100000 in
theorem implClone {H:Hp} {v:CV} {m:Int} {bs:List BlkR} (hv:Blocks H v bs) (hb:bs.length≤BIG) :
  CM 32 [.agg [v,.i m]] H fun r=>∃ w L,r=(.agg [w,.i m],H++L)∧Tree (fun i=>H.length≤i) (H++L) w bs:=by
 refine cw32 ?_
 unfold vf32c
 obtain⟨X0,hX0⟩:∃ X0,H++[(⟨[v,.i m],0,true,2⟩:Ob),⟨[.ns,.i 0],0,true,2⟩,⟨[.ns,.i m],0,true,2⟩]=X0:=⟨_,rfl⟩
 have hp0:Pre H X0:=⟨_,hX0.symm⟩
 have hl0:X0.length=H.length+3:=by rw[← hX0];simp
 have hB0:rdOb X0 H.length 0=some ⟨[v,.i m],0,true,2⟩:=by rw[← hX0];simp
 have hR0:rdOb X0 (H.length+1) 0=some ⟨[.ns,.i 0],0,true,2⟩:=by rw[← hX0];simp
 have hO0:rdOb X0 (H.length+2) 0=some ⟨[.ns,.i m],0,true,2⟩:=by rw[← hX0];simp
 have hv0:=Blocks.pre hp0 hv
 have hl:=hv0.lenOf
 simp[putAt,hX0,rdC_ob hB0,hl]
 obtain⟨I,hI⟩:∃ I:Nat→St→Prop,∀ i s,I i s↔(∃ w,rdOb s.h (H.length+2) 0=some ⟨[w,.i m],0,true,2⟩∧Tree (fun j=>X0.length≤j∧j<s.h.length) s.h w (bs.take i)∧Frm (fun j=>j<H.length+2) X0 s.h∧X0.length≤s.h.length ∧
   Env.get s.e 1=.c (.p H.length 0 0)∧Env.get s.e 2=.c (.p (H.length+1) 0 0)∧Env.get s.e 3=.c (.p (H.length+2) 0 0)∧Env.get s.e 13=.c v∧Env.get s.e 14=.c (.i bs.length)∧Env.get s.e 15=.c (.i i)):=⟨_,fun _ _=>Iff.rfl⟩
 refine wp_for CM_mono bs.length I ((hI _ _).2 ⟨.ns,hO0,FRow.ns,Frm.refl _ _,Nat.le_refl _,by simp⟩) ?_ ?_
 ·rintro i ⟨e,X⟩ hi hIs
  obtain⟨w,hO,hT,hf,hlX,e1,e2,e3,e13,e14,e15⟩:=(hI _ _).1 hIs
  simp only at hO hT hf hlX e1 e2 e3 e13 e14 e15 ⊢
  obtain⟨b,hbb⟩:∃ b,bs[i]=b:=⟨_,rfl⟩
  have hpX:Pre H X:=(hf.mono fun j (hj:j<H.length)=>by omega).cut hp0
  obtain⟨id,g,off,wz,wu,q1,q2,q3,qp,ql,qpl,qll,_,_⟩:=Blocks.get (Blocks.pre hpX hv) hi
  rw[hbb]at q2 q3 qp ql qpl qll
  obtain⟨X5,hX5⟩:∃ X5,X++[BOb wz wu b.term]=X5:=⟨_,rfl⟩
  have hl5:X5.length=X.length+1:=by rw[← hX5];simp
  have h5:rdOb X5 X.length 0=some (BOb wz wu b.term):=by rw[← hX5];simp
  have hp5:Pre X X5:=⟨_,hX5.symm⟩
  have ql5:=List5.pre hp5 ql
  obtain⟨u1,L1,hu1,hc1⟩:=cloneIns ql5 qll
  obtain⟨A1,hA1⟩:∃ A1,X5++L1=A1:=⟨_,rfl⟩
  rw[hA1]at hu1
  have pA1:Pre X5 A1:=⟨_,hA1.symm⟩
  obtain⟨A2,hA2⟩:∃ A2,A1++[BOb .ns .ns ⟨0,0,0,0⟩]=A2:=⟨_,rfl⟩
  have pA2:Pre A1 A2:=⟨_,hA2.symm⟩
  have lA2:A2.length=A1.length+1:=by rw[← hA2];simp
  have oA2:rdOb A2 A1.length 0=some (BOb .ns .ns ⟨0,0,0,0⟩):=by rw[← hA2];simp
  obtain⟨A3,hA3⟩:∃ A3,A2.set A1.length (BOb .ns u1 b.term)=A3:=⟨_,rfl⟩
  have lA3:A3.length=A2.length:=by rw[← hA3];simp
  have oA3:rdOb A3 A1.length 0=some (BOb .ns u1 b.term):=by rw[← hA3,rdOb_set_self (by omega)];simp
  have pXA:Pre X A3:=by rw[← hA3];exact ((hp5.trans pA1).trans pA2).set (by have:=(hp5.trans pA1).le;omega) _
  have bA2:rdOb A2 X.length 0=some (BOb wz wu b.term):=pA2.rdOb (pA1.rdOb h5)
  have bA3:rdOb A3 X.length 0=some (BOb wz wu b.term):=by rw[← hA3,rdOb_set_ne (by have:=pA1.le;omega)];exact pA2.rdOb (pA1.rdOb h5)
  have uA3:FRow insF 5 A3 u1 b.list (fun j=>j=X5.length∧j<A1.length):=by
   rw[← hA3]
   refine FRow.fr insF_st ?_ (Frm.set (G:=fun j=>j=X5.length∧j<A1.length) _ _ (by omega))
   refine FRow.fr insF_st ?_ (Frm.pre pA2)
   rcases hu1 with h | ⟨i1,g1,c1,F1,h1,h2⟩
   ·exact .inl h
   ·have hlt:=h2.lt
    have hown:i1=X5.length:=h2.own
    exact .inr ⟨i1,g1,c1,F1,h1,⟨h2.ob,h2.len,⟨hown,hlt⟩,fun k j hk hj=>⟨⟨(h2.sub k j hk hj).1,by have:=h2.sub k j hk hj;omega⟩,(h2.sub k j hk hj).2⟩,h2.dis,h2.el⟩⟩
  obtain⟨B1,hB1⟩:∃ B1,X5++[BOb .ns .ns ⟨0,0,0,0⟩]=B1:=⟨_,rfl⟩
  have pB1:Pre X5 B1:=⟨_,hB1.symm⟩
  have lB1:B1.length=X5.length+1:=by rw[← hB1];simp
  have oB1:rdOb B1 X5.length 0=some (BOb .ns .ns ⟨0,0,0,0⟩):=by rw[← hB1];simp
  obtain⟨u2,L2,hu2,hc2⟩:=cloneIns (List5.pre pB1 ql5) qll
  obtain⟨B2,hB2⟩:∃ B2,B1++L2=B2:=⟨_,rfl⟩
  rw[hB2]at hu2
  have pB2:Pre B1 B2:=⟨_,hB2.symm⟩
  have oB2:=pB2.rdOb oB1
  have lB2:=pB2.le
  obtain⟨B3,hB3⟩:∃ B3,B2.set X5.length (BOb .ns u2 b.term)=B3:=⟨_,rfl⟩
  have lB3:B3.length=B2.length:=by rw[← hB3];simp
  have oB3:rdOb B3 X5.length 0=some (BOb .ns u2 b.term):=by rw[← hB3,rdOb_set_self (by omega)];simp
  have pXB:Pre X B3:=by rw[← hB3];exact ((hp5.trans pB1).trans pB2).set (by omega) _
  have bB2:rdOb B2 X.length 0=some (BOb wz wu b.term):=pB2.rdOb (pB1.rdOb h5)
  have bB3:rdOb B3 X.length 0=some (BOb wz wu b.term):=by rw[← hB3,rdOb_set_ne (by omega)];exact bB2
  have uB3:FRow insF 5 B3 u2 b.list (fun j=>j=B1.length∧j<B2.length):=by
   rw[← hB3]
   refine FRow.fr insF_st ?_ (Frm.set (G:=fun j=>j=B1.length∧j<B2.length) _ _ (by omega))
   rcases hu2 with h | ⟨i1,g1,c1,F1,h1,h2⟩
   ·exact .inl h
   ·have hlt:=h2.lt
    have hown:i1=B1.length:=h2.own
    exact .inr ⟨i1,g1,c1,F1,h1,⟨h2.ob,h2.len,⟨hown,hlt⟩,fun k j hk hj=>⟨⟨(h2.sub k j hk hj).1,by have:=h2.sub k j hk hj;omega⟩,(h2.sub k j hk hj).2⟩,h2.dis,h2.el⟩⟩
  have h5A1:=pA1.rdOb h5
  have h5B1:=pB1.rdOb h5
  have lA1:=pA1.le
  have hti:(bs.take i).length=i:=by rw[List.length_take];omega
  have hsnoc:bs.take (i+1)=bs.take i++[b]:=by rw[List.take_succ_eq_append_getElem hi,hbb]
  unfold vf32b1
  rcases hu1.form with rfl | ⟨i1,g1,n1,rfl⟩<;>rcases hu2.form with rfl | ⟨i2,g2,n2,rfl⟩
  all_goals
   simp[vf32t0,e1,e2,e3,e13,e14,e15,hi,q1,q2.2.2.2.2.2.2.2.2.2.2,putAt,hX5,rdC_ob h5,rdN_ob h5,hc1,hc2,hA1,rdN_ob h5A1,h5,h5A1,hA2,bA2,oA2,hA3,hB1,h5B1,rdC_ob h5B1,hB2,bB2,rdN_ob bB2,oB2,hB3,rdC_ob bA3,rdC_ob bB3,qp.lenOf]
   refine⟨cloneIn qp qpl pXA (by omega) oA3 rfl rfl rfl rfl rfl rfl rfl rfl rfl rfl rfl ?_,cloneIn qp qpl pXB (by omega) oB3 rfl rfl rfl rfl rfl rfl rfl rfl rfl rfl rfl ?_⟩
   ·intro Y z e' hlY hY hz hfY f1 f2 f3 f5 f13 f14 f15 f6
    obtain⟨i',g',Y1,Z,Z2,a1,a2,a3,a4,a5,a6,a7,a8,a9,a10⟩:=pushBlk (by omega) hT hti (by omega) hO hf hlX pXA (by omega) uA3 (fun j hj=>by omega) hlY hY hz hfY qpl qll
    rw[← hsnoc]at a8
    simp[f1,f2,f3,f5,f13,f14,f15,f6,putAt,rdC_ob a2,rdN_ob hY,a1,a3,a4,a5,a6,up1 hi hb]
    exact (hI _ _).2 ⟨_,a7,a8,a9,a10,by simp[f1,f2,f3,f13,f14,f15]⟩
   ·intro Y z e' hlY hY hz hfY f1 f2 f3 f5 f13 f14 f15 f6
    obtain⟨i',g',Y1,Z,Z2,a1,a2,a3,a4,a5,a6,a7,a8,a9,a10⟩:=pushBlk (by omega) hT hti (by omega) hO hf hlX pXB (by omega) uB3 (fun j hj=>by omega) hlY hY hz hfY qpl qll
    rw[← hsnoc]at a8
    simp[f1,f2,f3,f5,f13,f14,f15,f6,putAt,rdC_ob a2,rdN_ob hY,a1,a3,a4,a5,a6,up1 hi hb]
    exact (hI _ _).2 ⟨_,a7,a8,a9,a10,by simp[f1,f2,f3,f13,f14,f15]⟩
 ·rintro⟨e,X⟩ hIs
  obtain⟨w,hO,hT,hf,hlX,e1,e2,e3,e13,e14,e15⟩:=(hI _ _).1 hIs
  simp only at hO hT hf hlX e1 e2 e3 e13 e14 e15 ⊢
  rw[List.take_length]at hT
  have hpX:Pre H X:=(hf.mono fun j (hj:j<H.length)=>by omega).cut hp0
  have hRX:rdOb X (H.length+1) 0=some ⟨[.ns,.i 0],0,true,2⟩:=hf.ob (by omega) hR0
  obtain⟨X2,hX2⟩:∃ X2,X.set (H.length+1) ⟨[w,.i m],0,true,2⟩=X2:=⟨_,rfl⟩
  have hR2:rdOb X2 (H.length+1) 0=some ⟨[w,.i m],0,true,2⟩:=by rw[← hX2,rdOb_set_self (rdOb_lt hRX)];simp
  have hp2:Pre H X2:=by rw[← hX2];exact hpX.set (by omega) _
  have hT2:Tree (fun j=>H.length≤j) X2 w bs:=by
   rw[← hX2]
   exact (hT.fr blkF_st (Frm.set _ _ (by omega))).mono fun j hj=>by omega
  unfold vf32b1
  rcases hT.form with rfl | ⟨i',g',n',rfl⟩
  ·simp[e1,e2,e3,e13,e14,e15,rdN_ob hO,hRX,putAt,hX2,rdN_ob hR2]
   have hbs:bs=[]:=by
    rcases hT with⟨_,h⟩ | ⟨_,_,_,_,h,_⟩
    ·exact h
    ·cases h
   rw[show gcRet H (.agg [.ns,.i m]) X2=(.agg [.ns,.i m],H) from gcRet_flat hp2 rfl]
   exact⟨.ns,[],by simp,.inl ⟨rfl,hbs⟩⟩
  ·simp[e1,e2,e3,e13,e14,e15,rdN_ob hO,hRX,putAt,hX2,rdN_ob hR2]
   rw[gc_agg (by simp[flatC])]
   obtain⟨L,rfl⟩:=hp2
   exact⟨_,L,rfl,hT2⟩
theorem rdC_to {X Y:Hp} (hp:Pre X Y) {id g off:Nat} {c:CV} (h:rdC X id g off=some c):rdC Y id g off=some c:=by
 unfold rdC at h ⊢
 cases ho:rdOb X id g with
 | none=>simp[ho]at h
 | some o=>rw[hp.rdOb ho];rw[ho]at h;exact h

theorem rdN_to {X Y:Hp} (hp:Pre X Y) {id g off n:Nat} {c:List CV} (h:rdN X id g off n=some c):rdN Y id g off n=some c:=by
 unfold rdN at h ⊢
 cases ho:rdOb X id g with
 | none=>simp[ho]at h
 | some o=>rw[hp.rdOb ho];rw[ho]at h;exact h

theorem rdOb_of_rdC {X:Hp} {id g off:Nat} {c:CV} (h:rdC X id g off=some c):∃ o,rdOb X id g=some o:=by
 unfold rdC at h
 cases ho:rdOb X id g with
 | none=>simp[ho]at h
 | some o=>exact⟨o,rfl⟩

set_option maxRecDepth 100000 in
theorem copyIn {B X6:Hp} {o6 bf i id g off:Nat} {v wz u:CV} {m:Int} {ps:List PhiR} {t:TrmR} {e:Env} {Q:X×St→Prop} {x2 x3:IV} (hp:Phis B wz ps) (hb:ps.length≤BIG) (hp6:Pre B X6) (ho:B.length≤o6) (h6:rdOb X6 o6 0=some (BOb .ns u t))
  (hBf:rdOb B bf 0=some ⟨[v,.i m],0,true,2⟩) (hix:idxOf 6 v (i:Int)=some (.p id g off)) (hwz:rdC B id g off=some wz)
  (e1:Env.get e 1=.c (.p bf 0 0)) (e2:Env.get e 2=x2) (e3:Env.get e 3=x3) (e4:Env.get e 4=.c (.i i)) (e5:Env.get e 5=.c (.p o6 0 0)) (e6:Env.get e 6=.c (.i 0))
  (hQ:∀ (Y:Hp) (z:CV) (e':Env),X6.length≤Y.length→rdOb Y o6 0=some (BOb z u t)→FRow phiF 2 Y z ps (fun i=>X6.length≤i∧i<Y.length)→Frm (fun i=>i<X6.length∧i≠o6) X6 Y →
   Env.get e' 1=.c (.p bf 0 0)→Env.get e' 2=x2→Env.get e' 3=x3→Env.get e' 4=.c (.i i)→Env.get e' 5=.c (.p o6 0 0)→Q (.exit 2,⟨e',Y⟩)) :
  loopD (exW CM [0,1,2,3,4,5,6,7,15,41] vf42b0) ⟨e,X6⟩ Q:=by
 obtain⟨I,hI⟩:∃ I:Nat→St→Prop,∀ j s,I j s↔(∃ z,X6.length≤s.h.length∧rdOb s.h o6 0=some (BOb z u t)∧FRow phiF 2 s.h z (ps.take j) (fun i=>X6.length≤i∧i<s.h.length)∧Frm (fun i=>i<X6.length∧i≠o6) X6 s.h ∧
   Env.get s.e 1=.c (.p bf 0 0)∧Env.get s.e 2=x2∧Env.get s.e 3=x3∧Env.get s.e 4=.c (.i i)∧Env.get s.e 5=.c (.p o6 0 0)∧Env.get s.e 6=.c (.i j)):=⟨_,fun _ _=>Iff.rfl⟩
 have hl6:=rdOb_lt h6
 obtain⟨oz,hoz⟩:=rdOb_of_rdC hwz
 refine wp_for CM_mono ps.length I ((hI _ _).2 ⟨.ns,Nat.le_refl _,h6,FRow.ns,Frm.refl _ _,e1,e2,e3,e4,e5,e6⟩) ?_ ?_
 ·rintro j ⟨e0,X7⟩ hj hIs
  obtain⟨z,hlX,hO,hR,hf,f1,f2,f3,f4,f5,f6⟩:=(hI _ _).1 hIs
  simp only at hlX hO hR hf f1 f2 f3 f4 f5 f6 ⊢
  have hp7:Pre B X7:=(hf.mono fun i (hi:i<B.length)=>by have:=hp6.le;omega).cut hp6
  have hwz7:=rdC_to hp7 hwz
  have hBf7:=hp7.rdOb hBf
  have hoz7:=hp7.rdOb hoz
  obtain⟨p,hpp⟩:∃ p,ps[j]=p:=⟨_,rfl⟩
  have hpX:=Phis.pre hp7 hp
  have hlz:=hpX.lenOf
  obtain⟨id2,g2,off2,wa,q1,q2,q3,qa,qb,_,_⟩:=Phis.get hpX hj
  rw[hpp]at q2 q3 qa qb
  obtain⟨Y1,hY1⟩:∃ Y1,X7++[(⟨[.i p.d,wa],0,true,2⟩:Ob)]=Y1:=⟨_,rfl⟩
  have hp1:Pre X7 Y1:=⟨_,hY1.symm⟩
  have l1:Y1.length=X7.length+1:=by rw[← hY1];simp
  have n1:rdOb Y1 X7.length 0=some ⟨[.i p.d,wa],0,true,2⟩:=by rw[← hY1];simp
  have k1:=hp1.rdOb hO
  obtain⟨Y2,hY2⟩:∃ Y2,Y1++[(⟨[],0,true,2⟩:Ob)]=Y2:=⟨_,rfl⟩
  have hp2:Pre Y1 Y2:=⟨_,hY2.symm⟩
  have l2:Y2.length=Y1.length+1:=by rw[← hY2];simp
  have n2:=hp2.rdOb n1
  have k2:=hp2.rdOb k1
  have m2:rdOb Y2 Y1.length 0=some ⟨[],0,true,2⟩:=by rw[← hY2];simp
  have hsrcA:=arms_srcF (Arms.pre (hp1.trans hp2) qa)
  obtain⟨ga,hga⟩:=fillApp (n:=p.arms.length) m2 (flat_map_len armC_len p.arms) (by omega) (big_lim qb (by omega))
  obtain⟨Y3,hY3⟩:∃ Y3,Y2.set Y1.length ⟨(p.arms.map armC).flatten,ga,true,2⟩=Y3:=⟨_,rfl⟩
  have l3:Y3.length=Y2.length:=by rw[← hY3];simp
  have hf23:∀ G:Nat→Prop,¬ G Y1.length→Frm G Y2 Y3:=fun G hG=>by rw[← hY3];exact Frm.set _ _ hG
  have n3:rdOb Y3 X7.length 0=some ⟨[.i p.d,wa],0,true,2⟩:=(hf23 (fun i=>i=X7.length) (by omega)).ob rfl n2
  have k3:rdOb Y3 o6 0=some (BOb z u t):=(hf23 (fun i=>i=o6) (by have:=rdOb_lt hO;omega)).ob rfl k2
  have m3:rdOb Y3 Y1.length ga=some ⟨(p.arms.map armC).flatten,ga,true,2⟩:=by rw[← hY3,rdOb_set_self (rdOb_lt m2)];simp
  have har:FRow armF 2 Y3 (.sl Y1.length ga 0 p.arms.length) p.arms (fun i=>i=Y1.length):=FRow.leaf armC_len (fun _ _ _=>rfl) m3 rfl
  obtain⟨Y4,hY4⟩:∃ Y4,Y3++[(⟨[.i p.d,.sl Y1.length ga 0 p.arms.length],0,true,2⟩:Ob)]=Y4:=⟨_,rfl⟩
  have hp4:Pre Y3 Y4:=⟨_,hY4.symm⟩
  have l4:Y4.length=Y3.length+1:=by rw[← hY4];simp
  have n4:rdOb Y4 Y3.length 0=some ⟨[.i p.d,.sl Y1.length ga 0 p.arms.length],0,true,2⟩:=by rw[← hY4];simp
  have k4:=hp4.rdOb k3
  have hsrc:srcOf Y4 2 (.sl Y3.length 0 0 1)=some (1,[.i p.d,.sl Y1.length ga 0 p.arms.length]):=by simp[srcOf,n4]
  have h74:∀ G:Nat→Prop,¬ G Y1.length→Frm G X7 Y4:=fun G hG=>(Frm.pre (hp1.trans hp2)).trans ((hf23 G hG).trans (Frm.pre hp4))
  have hR4:=hR.fr phiF_st (h74 _ (by omega))
  obtain⟨iz,gz,Y5,happ,hR5,hf5,l5⟩:=hR4.snoc phiF_st (by rw[List.length_take];omega) (by omega) (by omega) (cs:=[.i p.d,.sl Y1.length ga 0 p.arms.length]) (x:=p) (G:=fun i=>i=Y1.length) rfl
   (fun Z hZ=>⟨_,rfl,har.fr armF_st ((Frm.pre hp4).trans hZ),qb⟩) (fun i hi=>by subst hi;omega)
  rw[List.length_take,Nat.min_eq_left (by omega)]at happ hR5
  have k5:rdOb Y5 o6 0=some (BOb z u t):=hf5.ob (by omega) k4
  obtain⟨Y6,hY6⟩:∃ Y6,Y5.set o6 (BOb (.sl iz gz 0 (j+1)) u t)=Y6:=⟨_,rfl⟩
  have l6:Y6.length=Y5.length:=by rw[← hY6];simp
  have k6:rdOb Y6 o6 0=some (BOb (.sl iz gz 0 (j+1)) u t):=by rw[← hY6,rdOb_set_self (rdOb_lt k5)];simp
  have hf6:∀ G:Nat→Prop,¬ G o6→Frm G Y5 Y6:=fun G hG=>by rw[← hY6];exact Frm.set _ _ hG
  unfold vf42b0
  simp[f1,f2,f3,f4,f5,f6,rdC_ob hBf7,hix,hwz7,hlz,hj,q1,q2.2.2,putAt,hY1,rdC_ob n1,rdC_ob k1,hY2,rdC_ob n2,hsrcA,hga,hY3,hY4,k1,k2,n1,n2,k3,n3,k4,k5,hsrc,happ,hY6,up1 hj hb]
  refine (hI _ _).2 ⟨.sl iz gz 0 (j+1),by simp only;omega,k6,?_,?_,by simp⟩
  ·rw[List.take_succ_eq_append_getElem hj,hpp]
   refine (hR5.fr phiF_st (hf6 _ (by omega))).mono fun i hi=>?_
   simp only
   omega
  ·refine hf.trans (((h74 _ (by omega)).trans (hf5.mono fun i hi=>?_)).trans (hf6 _ fun hn=>hn.2 rfl))
   omega
 ·rintro⟨e0,X7⟩ hIs
  obtain⟨z,hlX,hO,hR,hf,f1,f2,f3,f4,f5,f6⟩:=(hI _ _).1 hIs
  simp only at hlX hO hR hf f1 f2 f3 f4 f5 f6 ⊢
  have hp7:Pre B X7:=(hf.mono fun i (hi:i<B.length)=>by have:=hp6.le;omega).cut hp6
  have hwz7:=rdC_to hp7 hwz
  have hBf7:=hp7.rdOb hBf
  have hlz:=(Phis.pre hp7 hp).lenOf
  rw[List.take_length]at hR
  unfold vf42b0
  simp[f1,f2,f3,f4,f5,f6,rdC_ob hBf7,hix,hwz7,hlz]
  exact hQ X7 z _ hlX hO hR hf (by simp) (by simp) (by simp) (by simp) (by simp)

set_option maxRecDepth 100000 in
theorem specCopy {H:Hp} {v:CV} {m:Int} {bs:List BlkR} (hv:Blocks H v bs) (hb:bs.length≤BIG) :
  CM 42 [.agg [v,.i m]] H fun r=>∃ w L,r=(.agg [w,.i m],H++L)∧Tree (fun i=>H.length≤i) (H++L) w bs:=by
 refine cw42 ?_
 unfold vf42c
 obtain⟨X0,hX0⟩:∃ X0,H++[(⟨[v,.i m],0,true,2⟩:Ob),⟨[.ns,.i 0],0,true,2⟩,⟨[.ns,.i m],0,true,2⟩]=X0:=⟨_,rfl⟩
 have hp0:Pre H X0:=⟨_,hX0.symm⟩
 have hl0:X0.length=H.length+3:=by rw[← hX0];simp
 have hB0:rdOb X0 H.length 0=some ⟨[v,.i m],0,true,2⟩:=by rw[← hX0];simp
 have hR0:rdOb X0 (H.length+1) 0=some ⟨[.ns,.i 0],0,true,2⟩:=by rw[← hX0];simp
 have hO0:rdOb X0 (H.length+2) 0=some ⟨[.ns,.i m],0,true,2⟩:=by rw[← hX0];simp
 have hl:=hv.lenOf
 simp[putAt,hX0,rdC_ob hB0]
 obtain⟨I,hI⟩:∃ I:Nat→St→Prop,∀ i s,I i s↔(∃ w,rdOb s.h (H.length+2) 0=some ⟨[w,.i m],0,true,2⟩∧Tree (fun j=>X0.length≤j∧j<s.h.length) s.h w (bs.take i)∧Frm (fun j=>j<H.length+2) X0 s.h∧X0.length≤s.h.length ∧
   Env.get s.e 1=.c (.p H.length 0 0)∧Env.get s.e 2=.c (.p (H.length+1) 0 0)∧Env.get s.e 3=.c (.p (H.length+2) 0 0)∧Env.get s.e 4=.c (.i i)):=⟨_,fun _ _=>Iff.rfl⟩
 refine wp_for CM_mono bs.length I ((hI _ _).2 ⟨.ns,hO0,FRow.ns,Frm.refl _ _,Nat.le_refl _,by simp⟩) ?_ ?_
 ·rintro i ⟨e,X⟩ hi hIs
  obtain⟨w,hO,hT,hf,hlX,e1,e2,e3,e4⟩:=(hI _ _).1 hIs
  simp only at hO hT hf hlX e1 e2 e3 e4 ⊢
  obtain⟨b,hbb⟩:∃ b,bs[i]=b:=⟨_,rfl⟩
  have hpX:Pre H X:=(hf.mono fun j (hj:j<H.length)=>by omega).cut hp0
  have hBX:rdOb X H.length 0=some ⟨[v,.i m],0,true,2⟩:=hf.ob (by omega) hB0
  obtain⟨id,g,off,wz,wu,q1,q2,q3,qp,ql,qpl,qll,_,_⟩:=Blocks.get (Blocks.pre hpX hv) hi
  rw[hbb]at q2 q3 qp ql qpl qll
  obtain⟨oz,hoz⟩:=rdOb_of_rdC q2.1
  have hcell:∀ Y,Pre X Y→rdOb Y H.length 0=some ⟨[v,.i m],0,true,2⟩∧rdC Y id g off=some wz∧rdC Y id g (off+1)=some wu∧rdN Y id g (off+2) 4=some [.i b.term.kind,.i b.term.a,.i b.term.to,.i b.term.els]∧rdOb Y id g=some oz:=
   fun Y hY=>⟨hY.rdOb hBX,rdC_to hY q2.1,rdC_to hY q2.2.1,rdN_to hY (by simp_all [BlkAt]),hY.rdOb hoz⟩
  have hsz:(b.list.map insC).flatten.length=b.list.length * 5:=flat_map_len insC_len _
  obtain⟨A1,hA1⟩:∃ A1,X++[(⟨[],0,true,5⟩:Ob)]=A1:=⟨_,rfl⟩
  have pA1:Pre X A1:=⟨_,hA1.symm⟩
  have lA1:A1.length=X.length+1:=by rw[← hA1];simp
  have mA1:rdOb A1 X.length 0=some ⟨[],0,true,5⟩:=by rw[← hA1];simp
  have sA1:=list_srcF (List5.pre pA1 ql)
  obtain⟨ga,hga⟩:=fillApp (n:=b.list.length) mA1 hsz (by omega) (big_lim qll (by omega))
  obtain⟨A2,hA2⟩:∃ A2,A1.set X.length ⟨(b.list.map insC).flatten,ga,true,5⟩=A2:=⟨_,rfl⟩
  have pA2:Pre X A2:=by rw[← hA2];exact pA1.set (Nat.le_refl _) _
  have lA2:A2.length=X.length+1:=by rw[← hA2];simp[lA1]
  have mA2:rdOb A2 X.length ga=some ⟨(b.list.map insC).flatten,ga,true,5⟩:=by rw[← hA2,rdOb_set_self (by omega)];simp
  obtain⟨A3,hA3⟩:∃ A3,A2++[BOb .ns .ns ⟨0,0,0,0⟩]=A3:=⟨_,rfl⟩
  have pA3:Pre A2 A3:=⟨_,hA3.symm⟩
  have lA3:A3.length=A2.length+1:=by rw[← hA3];simp
  have oA3:rdOb A3 A2.length 0=some (BOb .ns .ns ⟨0,0,0,0⟩):=by rw[← hA3];simp
  obtain⟨A4,hA4⟩:∃ A4,A3.set A2.length (BOb .ns (.sl X.length ga 0 b.list.length) b.term)=A4:=⟨_,rfl⟩
  have lA4:A4.length=A3.length:=by rw[← hA4];simp
  have oA4:rdOb A4 A2.length 0=some (BOb .ns (.sl X.length ga 0 b.list.length) b.term):=by rw[← hA4,rdOb_set_self (by omega)];simp
  have pXA:Pre X A4:=by rw[← hA4];exact (pA2.trans pA3).set (by omega) _
  have uA4:FRow insF 5 A4 (.sl X.length ga 0 b.list.length) b.list (fun j=>j=X.length):=by
   refine FRow.leaf insC_len (fun _ _ _=>rfl) ?_ rfl
   rw[← hA4,rdOb_set_ne (by omega)];exact pA3.rdOb mA2
  obtain⟨C2,hC2⟩:∃ C2,A1++[BOb .ns .ns ⟨0,0,0,0⟩]=C2:=⟨_,rfl⟩
  have pC2:Pre A1 C2:=⟨_,hC2.symm⟩
  have lC2:C2.length=A1.length+1:=by rw[← hC2];simp
  have oC2:rdOb C2 A1.length 0=some (BOb .ns .ns ⟨0,0,0,0⟩):=by rw[← hC2];simp
  have mC2:=pC2.rdOb mA1
  have sC2:=list_srcF (List5.pre (pA1.trans pC2) ql)
  obtain⟨gc,hgc⟩:=fillApp (n:=b.list.length) mC2 hsz (by omega) (big_lim qll (by omega))
  obtain⟨C3,hC3⟩:∃ C3,C2.set X.length ⟨(b.list.map insC).flatten,gc,true,5⟩=C3:=⟨_,rfl⟩
  have lC3:C3.length=C2.length:=by rw[← hC3];simp
  have pC3:Pre X C3:=by rw[← hC3];exact (pA1.trans pC2).set (Nat.le_refl _) _
  have oC3:rdOb C3 A1.length 0=some (BOb .ns .ns ⟨0,0,0,0⟩):=by rw[← hC3,rdOb_set_ne (by omega)];exact oC2
  have mC3:rdOb C3 X.length gc=some ⟨(b.list.map insC).flatten,gc,true,5⟩:=by rw[← hC3,rdOb_set_self (by omega)];simp
  obtain⟨C4,hC4⟩:∃ C4,C3.set A1.length (BOb .ns (.sl X.length gc 0 b.list.length) b.term)=C4:=⟨_,rfl⟩
  have lC4:C4.length=C3.length:=by rw[← hC4];simp
  have oC4:rdOb C4 A1.length 0=some (BOb .ns (.sl X.length gc 0 b.list.length) b.term):=by rw[← hC4,rdOb_set_self (by omega)];simp
  have pXC:Pre X C4:=by rw[← hC4];exact pC3.set (by omega) _
  have uC4:FRow insF 5 C4 (.sl X.length gc 0 b.list.length) b.list (fun j=>j=X.length):=by
   refine FRow.leaf insC_len (fun _ _ _=>rfl) ?_ rfl
   rw[← hC4,rdOb_set_ne (by omega)];exact mC3
  obtain⟨D1,hD1⟩:∃ D1,X++[BOb .ns .ns ⟨0,0,0,0⟩]=D1:=⟨_,rfl⟩
  have pD1:Pre X D1:=⟨_,hD1.symm⟩
  have lD1:D1.length=X.length+1:=by rw[← hD1];simp
  have oD1:rdOb D1 X.length 0=some (BOb .ns .ns ⟨0,0,0,0⟩):=by rw[← hD1];simp
  obtain⟨D2,hD2⟩:∃ D2,D1++[(⟨[],0,true,5⟩:Ob)]=D2:=⟨_,rfl⟩
  have pD2:Pre D1 D2:=⟨_,hD2.symm⟩
  have lD2:D2.length=D1.length+1:=by rw[← hD2];simp
  have oD2:=pD2.rdOb oD1
  have mD2:rdOb D2 D1.length 0=some ⟨[],0,true,5⟩:=by rw[← hD2];simp
  have sD2:=list_srcF (List5.pre (pD1.trans pD2) ql)
  obtain⟨gd,hgd⟩:=fillApp (n:=b.list.length) mD2 hsz (by omega) (big_lim qll (by omega))
  obtain⟨D3,hD3⟩:∃ D3,D2.set D1.length ⟨(b.list.map insC).flatten,gd,true,5⟩=D3:=⟨_,rfl⟩
  have lD3:D3.length=D2.length:=by rw[← hD3];simp
  have pD3:Pre X D3:=by rw[← hD3];exact (pD1.trans pD2).set (by omega) _
  have oD3:rdOb D3 X.length 0=some (BOb .ns .ns ⟨0,0,0,0⟩):=by rw[← hD3,rdOb_set_ne (by omega)];exact oD2
  have mD3:rdOb D3 D1.length gd=some ⟨(b.list.map insC).flatten,gd,true,5⟩:=by rw[← hD3,rdOb_set_self (by omega)];simp
  obtain⟨D4,hD4⟩:∃ D4,D3.set X.length (BOb .ns (.sl D1.length gd 0 b.list.length) b.term)=D4:=⟨_,rfl⟩
  have lD4:D4.length=D3.length:=by rw[← hD4];simp
  have oD4:rdOb D4 X.length 0=some (BOb .ns (.sl D1.length gd 0 b.list.length) b.term):=by rw[← hD4,rdOb_set_self (by omega)];simp
  have pXD:Pre X D4:=by rw[← hD4];exact pD3.set (by omega) _
  have uD4:FRow insF 5 D4 (.sl D1.length gd 0 b.list.length) b.list (fun j=>j=D1.length):=by
   refine FRow.leaf insC_len (fun _ _ _=>rfl) ?_ rfl
   rw[← hD4,rdOb_set_ne (by omega)];exact mD3
  have hti:(bs.take i).length=i:=by rw[List.length_take];omega
  have hsnoc:bs.take (i+1)=bs.take i++[b]:=by rw[List.take_succ_eq_append_getElem hi,hbb]
  have gX:=hcell X (Pre.refl _)
  have gA1:=hcell _ pA1
  have gA2:=hcell _ pA2
  have gA3:=hcell _ (pA2.trans pA3)
  have gC2:=hcell _ (pA1.trans pC2)
  have gC3:=hcell _ pC3
  have gD1:=hcell _ pD1
  have gD2:=hcell _ (pD1.trans pD2)
  have gD3:=hcell _ pD3
  unfold vf42b1
  simp[vf42t0,e1,e2,e3,e4,hl,hi,q1,putAt,gX,rdC_ob gX.1,gA1,rdC_ob gA1.1,gA2,rdC_ob gA2.1,gA3,rdC_ob gA3.1,gC2,rdC_ob gC2.1,gC3,rdC_ob gC3.1,gD1,rdC_ob gD1.1,gD2,rdC_ob gD2.1,gD3,rdC_ob gD3.1,
   hA1,sA1,hga,hA2,hA3,oA3,hA4,hC2,sC2,hgc,hC3,oC3,hC4,hD1,hD2,sD2,hgd,hD3,oD3,hD4]
  refine⟨⟨copyIn qp qpl pXA (by omega) oA4 hBX q1 q2.1 rfl rfl rfl rfl rfl rfl ?_,copyIn qp qpl pXC (by omega) oC4 hBX q1 q2.1 rfl rfl rfl rfl rfl rfl ?_⟩,copyIn qp qpl pXD (by omega) oD4 hBX q1 q2.1 rfl rfl rfl rfl rfl rfl ?_⟩
  ·intro Y z e' hlY hY hz hfY f1 f2 f3 f4 f5
   obtain⟨i',g',Y1,Z,Z2,a1,a2,a3,a4,a5,a6,a7,a8,a9,a10⟩:=pushBlk (by omega) hT hti (by omega) hO hf hlX pXA (by omega) uA4 (fun j hj=>by omega) hlY hY hz hfY qpl qll
   rw[← hsnoc]at a8
   simp[f1,f2,f3,f4,f5,putAt,rdC_ob a2,rdN_ob hY,a1,a3,a4,a5,a6,up1 hi hb]
   exact (hI _ _).2 ⟨_,a7,a8,a9,a10,by simp[f1,f2,f3]⟩
  ·intro Y z e' hlY hY hz hfY f1 f2 f3 f4 f5
   obtain⟨i',g',Y1,Z,Z2,a1,a2,a3,a4,a5,a6,a7,a8,a9,a10⟩:=pushBlk (by omega) hT hti (by omega) hO hf hlX pXC (by omega) uC4 (fun j hj=>by omega) hlY hY hz hfY qpl qll
   rw[← hsnoc]at a8
   simp[f1,f2,f3,f4,f5,putAt,rdC_ob a2,rdN_ob hY,a1,a3,a4,a5,a6,up1 hi hb]
   exact (hI _ _).2 ⟨_,a7,a8,a9,a10,by simp[f1,f2,f3]⟩
  ·intro Y z e' hlY hY hz hfY f1 f2 f3 f4 f5
   obtain⟨i',g',Y1,Z,Z2,a1,a2,a3,a4,a5,a6,a7,a8,a9,a10⟩:=pushBlk (by omega) hT hti (by omega) hO hf hlX pXD (by omega) uD4 (fun j hj=>by omega) hlY hY hz hfY qpl qll
   rw[← hsnoc]at a8
   simp[f1,f2,f3,f4,f5,putAt,rdC_ob a2,rdN_ob hY,a1,a3,a4,a5,a6,up1 hi hb]
   exact (hI _ _).2 ⟨_,a7,a8,a9,a10,by simp[f1,f2,f3]⟩
 ·rintro⟨e,X⟩ hIs
  obtain⟨w,hO,hT,hf,hlX,e1,e2,e3,e4⟩:=(hI _ _).1 hIs
  simp only at hO hT hf hlX e1 e2 e3 e4 ⊢
  rw[List.take_length]at hT
  have hpX:Pre H X:=(hf.mono fun j (hj:j<H.length)=>by omega).cut hp0
  have hBX:rdOb X H.length 0=some ⟨[v,.i m],0,true,2⟩:=hf.ob (by omega) hB0
  have hRX:rdOb X (H.length+1) 0=some ⟨[.ns,.i 0],0,true,2⟩:=hf.ob (by omega) hR0
  obtain⟨X2,hX2⟩:∃ X2,X.set (H.length+1) ⟨[w,.i m],0,true,2⟩=X2:=⟨_,rfl⟩
  have hR2:rdOb X2 (H.length+1) 0=some ⟨[w,.i m],0,true,2⟩:=by rw[← hX2,rdOb_set_self (rdOb_lt hRX)];simp
  have hp2:Pre H X2:=by rw[← hX2];exact hpX.set (by omega) _
  have hT2:Tree (fun j=>H.length≤j) X2 w bs:=by
   rw[← hX2]
   exact (hT.fr blkF_st (Frm.set _ _ (by omega))).mono fun j hj=>by omega
  unfold vf42b1
  rcases hT.form with rfl | ⟨i',g',n',rfl⟩
  ·simp[e1,e2,e3,e4,rdC_ob hBX,hl,rdN_ob hO,hRX,putAt,hX2,rdN_ob hR2]
   have hbs:bs=[]:=by
    rcases hT with⟨_,h⟩ | ⟨_,_,_,_,h,_⟩
    ·exact h
    ·cases h
   rw[show gcRet H (.agg [.ns,.i m]) X2=(.agg [.ns,.i m],H) from gcRet_flat hp2 rfl]
   exact⟨.ns,[],by simp,.inl ⟨rfl,hbs⟩⟩
  ·simp[e1,e2,e3,e4,rdC_ob hBX,hl,rdN_ob hO,hRX,putAt,hX2,rdN_ob hR2]
   rw[gc_agg (by simp[flatC])]
   obtain⟨L,rfl⟩:=hp2
   exact⟨_,L,rfl,hT2⟩
theorem rd_bool {X:Hp} {id a n:Nat} {ks:List Bool} (h:rdOb X id 0=some ⟨ks.map .b,0,true,1⟩) (hn:ks.length=n) (ha:a<n):idxOf 1 (.sl id 0 0 n) (a:Int)=some (.p id 0 a)∧rdC X id 0 a=some (.b (ks.getD a false)):=by
 subst hn
 refine⟨by simp[ha],?_⟩
 rw[rdC_ob h]
 simp[ha,List.getD_eq_getElem?_getD]

theorem rd_int {X:Hp} {id a n:Nat} {ks:List Int} (h:rdOb X id 0=some ⟨ks.map .i,0,true,1⟩) (hn:ks.length=n) (ha:a<n):idxOf 1 (.sl id 0 0 n) (a:Int)=some (.p id 0 a)∧rdC X id 0 a=some (.i (ks.getD a 0)):=by
 subst hn
 refine⟨by simp[ha],?_⟩
 rw[rdC_ob h]
 simp[ha,List.getD_eq_getElem?_getD]

abbrev KOb (ks:List Bool):Ob:=⟨ks.map .b,0,true,1⟩

abbrev NOb (ns:List Int):Ob:=⟨ns.map .i,0,true,1⟩

structure FoldH (Gu:Nat→Prop) (kid nid:Nat) (u:CV) (Y0 Y:Hp) (xs:List InsR) (q:Kn):Prop where
 row:FRow insF 5 Y u xs Gu
 k:rdOb Y kid 0=some (KOb q.k)
 n:rdOb Y nid 0=some (NOb q.n)
 fr:Frm (fun j=>j<Y0.length∧¬ Gu j∧j≠kid∧j≠nid) Y0 Y
 len:Y0.length≤Y.length

theorem FoldH.app {Gu:Nat→Prop} {kid nid:Nat} {u:CV} {Y0 Y:Hp} {xs:List InsR} {q:Kn} (h:FoldH Gu kid nid u Y0 Y xs q) (L:Hp):FoldH Gu kid nid u Y0 (Y++L) xs q:=
 ⟨h.row.fr insF_st (Frm.app _ _ _),rdOb_app L h.k,rdOb_app L h.n,h.fr.trans (Frm.app _ _ _),by have:=h.len;simp only[List.length_append];omega⟩

theorem FoldH.learn {Gu:Nat→Prop} {kid nid:Nat} {u:CV} {Y0 Y:Hp} {xs:List InsR} {q:Kn} (h:FoldH Gu kid nid u Y0 Y xs q) (hk:¬ Gu kid) (hn:¬ Gu nid) (hne:kid≠nid) {d:Nat} {c:Int} (hd:d<q.k.length) (hd2:d<q.n.length) :
  ∃ Z Z2,putAt (q.k.map CV.b) d [.b true]=(q.k.map CV.b).set d (.b true)∧d+1≤q.k.length∧Y.set kid ⟨(q.k.map CV.b).set d (.b true),0,true,1⟩=Z∧rdOb Z nid 0=some ⟨q.n.map .i,0,true,1⟩∧putAt (q.n.map CV.i) d [.i c]=(q.n.map CV.i).set d (.i c)∧d+1≤q.n.length∧Z.set nid ⟨(q.n.map CV.i).set d (.i c),0,true,1⟩=Z2∧FoldH Gu kid nid u Y0 Z2 xs ⟨q.k.set d true,q.n.set d c⟩∧Frm (fun j=>j≠kid∧j≠nid) Y Z2∧Frm (fun j=>j≠kid) Y Z:=by
 have hlk:=rdOb_lt h.k
 have hln:=rdOb_lt h.n
 have h1:rdOb (Y.set kid ⟨(q.k.map CV.b).set d (.b true),0,true,1⟩) nid 0=some (NOb q.n):=by rw[rdOb_set_ne (fun e=>hne e.symm)];exact h.n
 have hfr:Frm (fun j=>j≠kid∧j≠nid) Y ((Y.set kid ⟨(q.k.map CV.b).set d (.b true),0,true,1⟩).set nid ⟨(q.n.map CV.i).set d (.i c),0,true,1⟩):=(Frm.set Y _ (by simp)).trans (Frm.set _ _ (by simp))
 refine⟨_,_,putAt_get (by simpa using hd),by omega,rfl,h1,putAt_get (by simpa using hd2),by omega,rfl,⟨?_,?_,?_,?_,?_⟩,hfr,Frm.set Y _ (by simp)⟩
 ·exact h.row.fr insF_st (hfr.mono fun j hj=>⟨fun e=>hk (e▸hj),fun e=>hn (e▸hj)⟩)
 ·rw[rdOb_set_ne hne,rdOb_set_self hlk];simp[KOb,List.map_set]
 ·rw[rdOb_set_self (by simp;exact hln)];simp[NOb,List.map_set]
 ·exact h.fr.trans (hfr.mono fun j hj=>hj.2.2)
 ·simp;exact h.len

theorem FoldH.put {Gu:Nat→Prop} {kid nid i:Nat} {u:CV} {Y0 Y:Hp} {ys r:List InsR} {x:InsR} {q:Kn} (h:FoldH Gu kid nid u Y0 Y (ys++x :: r) q) (hi:ys.length=i) (hk:¬ Gu kid) (hn:¬ Gu nid) (x':InsR) :
  ∃ id g cells Z,idxOf 5 u (i:Int)=some (.p id g (i * 5))∧rdOb Y id g=some ⟨cells,g,true,5⟩∧i * 5+5≤cells.length∧Y.set id ⟨putAt cells (i * 5) [.i x'.op,.i x'.d,.i x'.a,.i x'.b,.i x'.n],g,true,5⟩=Z∧FoldH Gu kid nid u Y0 Z (ys++x' :: r) q∧Frm (fun j=>¬ Gu j) Y Z:=by
 obtain⟨id,g,cells,Z,h1,h2,h3,h4,h5,h6,h7⟩:=h.row.wholeS insF_st hi (cs:=insC x') (x':=x') rfl (fun _=>rfl)
 exact⟨id,g,cells,Z,h1,h2,h3,h4,⟨h5,h6.ob hk h.k,h6.ob hn h.n,h.fr.trans (h6.mono fun j hj=>hj.2.1),by rw[h7];exact h.len⟩,h6⟩

theorem FoldH.other {Gu:Nat→Prop} {kid nid:Nat} {u:CV} {Y0 Y:Hp} {xs:List InsR} {q:Kn} (h:FoldH Gu kid nid u Y0 Y xs q) {id:Nat} (o:Ob) (h0:Y0.length≤id) (hG:¬ Gu id) (hk:id≠kid) (hn:id≠nid):FoldH Gu kid nid u Y0 (Y.set id o) xs q:=
 ⟨h.row.fr insF_st (Frm.set Y o hG),by rw[rdOb_set_ne hk.symm];exact h.k,by rw[rdOb_set_ne hn.symm];exact h.n,h.fr.trans (Frm.set Y o (by omega)),by simp;exact h.len⟩

theorem p50 (a b c d e x:CV):putAt [a,b,c,d,e] 0 [x]=[x,b,c,d,e]:=rfl

theorem p51 (a b c d e x:CV):putAt [a,b,c,d,e] 1 [x]=[a,x,c,d,e]:=rfl

theorem p54 (a b c d e x:CV):putAt [a,b,c,d,e] 4 [x]=[a,b,c,d,x]:=rfl

theorem putAt_get5 (a b c d e:CV) (ys:List CV) (h:ys.length=5):putAt [a,b,c,d,e] 0 ys=ys:=by
 unfold putAt
 rw[List.drop_eq_nil_of_le (by simp;omega)];simp

set_option maxRecDepth 100000 in
theorem foldIn {Gu:Nat→Prop} {Y0:Hp} {kid nid o3 id g n b:Nat} {w u:CV} {mv m:Int} {xs:List InsR} {q:Kn} {e:Env} {Q:X×St→Prop} {x1 x2 x23 x24 x25:IV}
  (h0:FoldH Gu kid nid u Y0 Y0 xs q) (hb:xs.length≤BIG) (hgk:¬ Gu kid) (hgn:¬ Gu nid) (hkn:kid≠nid) (hg3:¬ Gu o3) (h3k:o3≠kid) (h3n:o3≠nid) (hgb:∀ j,Gu j→j<Y0.length) (hgi:¬ Gu id) (hik:id≠kid) (hin:id≠nid)
  (ho:rdOb Y0 o3 0=some ⟨[w,.i mv],0,true,2⟩) (hix:idxOf 6 w (b:Int)=some (.p id g (b * 6))) (hu:rdC Y0 id g (b * 6+1)=some u) (hqk:q.k.length=n) (hqn:q.n.length=n) (hm:n=m.toNat) (hsh:∀ x∈xs,insB x m=true)
  (e1:Env.get e 1=x1) (e2:Env.get e 2=x2) (e3:Env.get e 3=.c (.p o3 0 0)) (e4:Env.get e 4=.c (.sl kid 0 0 n)) (e5:Env.get e 5=.c (.sl nid 0 0 n)) (e7:Env.get e 7=.c (.i b)) (e23:Env.get e 23=x23) (e24:Env.get e 24=x24) (e25:Env.get e 25=x25)
  (e34:Env.get e 34=.c u) (e35:Env.get e 35=.c (.i xs.length)) (e36:Env.get e 36=.c (.i 0))
  (hQ:∀ (Y:Hp) (e':Env),FoldH Gu kid nid u Y0 Y (foldL xs q).1 (foldL xs q).2→Env.get e' 1=x1→Env.get e' 2=x2→Env.get e' 3=.c (.p o3 0 0)→Env.get e' 4=.c (.sl kid 0 0 n)→Env.get e' 5=.c (.sl nid 0 0 n)→Env.get e' 23=x23→Env.get e' 24=x24→Env.get e' 25=x25→Q (.exit 2,⟨e',Y⟩)) :
  loopD (exW CM [0,1,2,3,4,5,7,8,9,14,23,24,25,26,34,35,36,37,57,85] vf11b0) ⟨e,Y0⟩ Q:=by
 obtain⟨I,hI⟩:∃ I:Nat→St→Prop,∀ j s,I j s↔(FoldH Gu kid nid u Y0 s.h (((xs.take j).foldl foldS ([],q)).1++xs.drop j) ((xs.take j).foldl foldS ([],q)).2 ∧
   Env.get s.e 1=x1∧Env.get s.e 2=x2∧Env.get s.e 3=.c (.p o3 0 0)∧Env.get s.e 4=.c (.sl kid 0 0 n)∧Env.get s.e 5=.c (.sl nid 0 0 n)∧Env.get s.e 7=.c (.i b)∧Env.get s.e 23=x23∧Env.get s.e 24=x24∧Env.get s.e 25=x25 ∧
   Env.get s.e 34=.c u∧Env.get s.e 35=.c (.i xs.length)∧Env.get s.e 36=.c (.i j)):=⟨_,fun _ _=>Iff.rfl⟩
 refine wp_for CM_mono xs.length I ((hI _ _).2 ⟨by simpa using h0,e1,e2,e3,e4,e5,e7,e23,e24,e25,e34,e35,e36⟩) ?_ ?_
 ·rintro j ⟨e0,Y⟩ hj hIs
  obtain⟨hF,f1,f2,f3,f4,f5,f7,f23,f24,f25,f34,f35,f36⟩:=(hI _ _).1 hIs
  simp only at hF f1 f2 f3 f4 f5 f7 f23 f24 f25 f34 f35 f36 ⊢
  obtain⟨ok,okl⟩:=foldl_ok (xs.take j) ([],q) (n:=n) (m:=m) ⟨hqk,hqn,fun x hx=>by cases hx⟩ (fun x hx=>hsh x (List.mem_of_mem_take hx))
  have hsucc:(xs.take (j+1)).foldl foldS ([],q)=foldS ((xs.take j).foldl foldS ([],q)) xs[j]:=by rw[List.take_succ_eq_append_getElem hj,List.foldl_append];rfl
  obtain⟨⟨ys,p⟩,hs⟩:∃ s,(xs.take j).foldl foldS ([],q)=s:=⟨_,rfl⟩
  rw[hs]at ok okl hsucc hF
  obtain⟨okk,okn,_⟩:=ok
  simp only at okk okn okl hF
  rw[List.length_take,Nat.min_eq_left (by omega)]at okl
  have hyl:ys.length=j:=by simpa using okl
  obtain⟨x,hx⟩:∃ x,xs[j]=x:=⟨_,rfl⟩
  rw[drop_mid hj,hx]at hF
  rw[hx]at hsucc
  have hxB:insB x m=true:=hsh x (hx▸List.getElem_mem hj)
  obtain⟨rid,rg,cs,G,r1,r2,r3,r4⟩:=hF.row.readS hyl
  have r3:cs=insC x:=r3
  subst r3
  have hr2:rdN Y rid rg (j * 5) 5=some [.i x.op,.i x.d,.i x.a,.i x.b,.i x.n]:=r2
  obtain⟨Y1,hY1⟩:∃ Y1,Y++[(⟨[.i x.op,.i x.d,.i x.a,.i x.b,.i x.n],0,true,5⟩:Ob)]=Y1:=⟨_,rfl⟩
  have hp1:Pre Y Y1:=⟨_,hY1.symm⟩
  have l1:Y1.length=Y.length+1:=by rw[← hY1];simp
  have n1:rdOb Y1 Y.length 0=some ⟨[.i x.op,.i x.d,.i x.a,.i x.b,.i x.n],0,true,5⟩:=by rw[← hY1];simp
  have hF1:FoldH Gu kid nid u Y0 Y1 (ys++x :: xs.drop (j+1)) p:=by rw[← hY1];exact hF.app _
  have hend:∀ (Z:Hp) (e':Env) (x':InsR) (q':Kn),foldX p x=x'→learn p x'=q'→FoldH Gu kid nid u Y0 Z (ys++x' :: xs.drop (j+1)) q'→(Env.get e' 1=x1∧Env.get e' 2=x2∧Env.get e' 3=.c (.p o3 0 0)∧Env.get e' 4=.c (.sl kid 0 0 n)∧Env.get e' 5=.c (.sl nid 0 0 n)∧Env.get e' 7=.c (.i b)∧Env.get e' 23=x23∧Env.get e' 24=x24∧Env.get e' 25=x25 ∧
    Env.get e' 34=.c u∧Env.get e' 35=.c (.i xs.length)∧Env.get e' 36=.c (.i (j+1:Nat)))→I (j+1) ⟨e',Z⟩:=by
   intro Z e' x' q' hx' hq' hZ he
   refine (hI _ _).2 ⟨?_,he⟩
   rw[hsucc]
   simp only[foldS,hx',hq']
   simpa using hZ
  have hup:=up1 hj hb
  unfold vf11b0
  cases hw:wordOk x.op with
  | false =>
   have hfx:foldX p x=x:=by unfold foldX;rw[if_neg (by simp[hw])]
   cases h20:decide (x.op=20) with
   | true =>
    have h20':=of_decide_eq_true h20
    obtain⟨d,hd1,hd2⟩:=val_nat (makes_val hxB (by unfold makesF;simp[h20']))
    obtain⟨Z,Z2,a1,a2,a3,a4,a5,a6,a7,a8,a9,a10⟩:=hF1.learn hgk hgn hkn (d:=d) (c:=x.n) (by omega) (by omega)
    have i1:=(rd_bool hF1.k okk (show d<n by omega)).1
    have i2:=(rd_int hF1.n okn (show d<n by omega)).1
    have hl20:learn p x=⟨p.k.set d true,p.n.set d x.n⟩:=by unfold learn;rw[if_pos h20',hd1];simp
    have nZ:rdOb Z Y.length 0=some ⟨[.i x.op,.i x.d,.i x.a,.i x.b,.i x.n],0,true,5⟩:=a10.ob (by have:=rdOb_lt hF.k;omega) n1
    rw[hd1]at n1 nZ hY1 hr2
    have kk:=hF1.k
    simp only[KOb]at kk
    simp[f1,f2,f3,f4,f5,f7,f23,f24,f25,f34,f35,f36,hj,r1,hr2,putAt_get5,hY1,rdC_ob n1,implWordOk,hw,h20,i1,i2,kk,rdC_ob nZ,a1,a2,a3,a4,a5,a6,a7,hup]
    refine hend _ _ x _ hfx hl20 a8 ?_
    simp
   | false =>
    have hl20:learn p x=p:=by unfold learn;rw[if_neg (of_decide_eq_false h20)]
    simp[f1,f2,f3,f4,f5,f7,f23,f24,f25,f34,f35,f36,hj,r1,hr2,putAt_get5,hY1,rdC_ob n1,implWordOk,hw,h20,hup]
    refine hend _ _ x _ hfx hl20 hF1 ?_
    simp
  | true =>
   have hop:=op_word hw
   have h20:decide (x.op=20)=false:=decide_eq_false hop.1
   obtain⟨hvd,hva,hvb⟩:=insB_word hxB hw
   obtain⟨ka,ha1,ha2⟩:=val_nat hva
   obtain⟨kb,hb1,hb2⟩:=val_nat hvb
   obtain⟨d,hd1,hd2⟩:=val_nat hvd
   obtain⟨i1,c1⟩:=rd_bool hF1.k okk (show ka<n by omega)
   obtain⟨i2,c2⟩:=rd_bool hF1.k okk (show kb<n by omega)
   cases hka:p.k.getD ka false with
   | false =>
    have hfx:foldX p x=x:=by unfold foldX;rw[if_neg (fun h=>by rw[ha1,Int.toNat_natCast,hka]at h;cases h.2.1)]
    have hl20:learn p x=p:=by unfold learn;rw[if_neg hop.1]
    rw[hka]at c1
    rw[ha1]at n1 hY1 hr2
    simp[f1,f2,f3,f4,f5,f7,f23,f24,f25,f34,f35,f36,hj,r1,hr2,putAt_get5,hY1,rdC_ob n1,implWordOk,hw,h20,hup,i1,c1]
    refine hend _ _ x _ hfx hl20 hF1 ?_
    simp
   | true =>
    cases hkb:p.k.getD kb false with
    | false =>
     have hfx:foldX p x=x:=by unfold foldX;rw[if_neg (fun h=>by rw[hb1,Int.toNat_natCast,hkb]at h;cases h.2.2)]
     have hl20:learn p x=p:=by unfold learn;rw[if_neg hop.1]
     rw[hka]at c1
     rw[hkb]at c2
     rw[ha1,hb1]at n1 hY1 hr2
     simp[f1,f2,f3,f4,f5,f7,f23,f24,f25,f34,f35,f36,hj,r1,hr2,putAt_get5,hY1,rdC_ob n1,implWordOk,hw,h20,hup,i1,c1,i2,c2]
     refine hend _ _ x _ hfx hl20 hF1 ?_
     simp
    | true =>
     obtain⟨i3,c3⟩:=rd_int hF1.n okn (show ka<n by omega)
     obtain⟨i4,c4⟩:=rd_int hF1.n okn (show kb<n by omega)
     obtain⟨va,hva'⟩:∃ va,p.n.getD ka 0=va:=⟨_,rfl⟩
     obtain⟨vb,hvb'⟩:∃ vb,p.n.getD kb 0=vb:=⟨_,rfl⟩
     rw[hva']at c3
     rw[hvb']at c4
     obtain⟨N,hN⟩:∃ N,wordF x.op va vb=N:=⟨_,rfl⟩
     have hfx:foldX p x=⟨20,d,0,0,N⟩:=by unfold foldX;rw[if_pos ⟨hw,by rw[ha1,Int.toNat_natCast];exact hka,by rw[hb1,Int.toNat_natCast];exact hkb⟩,ha1,hb1,hd1,Int.toNat_natCast,Int.toNat_natCast,hva',hvb',hN]
     have hl20:learn p ⟨20,d,0,0,N⟩=⟨p.k.set d true,p.n.set d N⟩:=by unfold learn;rw[if_pos rfl];simp
     have hlY:=rdOb_lt hF.k
     have hlN:=rdOb_lt hF.n
     have hYG:¬ Gu Y.length:=fun h=>by have:=hgb _ h;have:=hF.len;omega
     obtain⟨Y2,hY2⟩:∃ Y2,Y1.set Y.length ⟨[.i 20,.i d,.i 0,.i 0,.i N],0,true,5⟩=Y2:=⟨_,rfl⟩
     have hF2:FoldH Gu kid nid u Y0 Y2 (ys++x :: xs.drop (j+1)) p:=by rw[← hY2];exact hF1.other _ (hF.len) hYG (by omega) (by omega)
     have n2:rdOb Y2 Y.length 0=some ⟨[.i 20,.i d,.i 0,.i 0,.i N],0,true,5⟩:=by rw[← hY2,rdOb_set_self (by omega)];simp
     have hlo:=rdOb_lt ho
     obtain⟨oi,hoi⟩:=rdOb_of_rdC hu
     have o2:rdOb Y2 o3 0=some ⟨[w,.i mv],0,true,2⟩:=hF2.fr.ob ⟨hlo,hg3,h3k,h3n⟩ ho
     have u2:rdC Y2 id g (b * 6+1)=some u:=by rw[rdC_ob (hF2.fr.ob ⟨rdOb_lt hoi,hgi,hik,hin⟩ hoi),← rdC_ob hoi];exact hu
     obtain⟨pid,pg,pcells,Z,p1,p2,p3,p4,hF3,p6⟩:=hF2.put hyl hgk hgn ⟨20,d,0,0,N⟩
     have ep:pid=rid∧pg=rg:=by have e:=p1.symm.trans r1;injection e with e;injection e with e1 e2;exact⟨e1,e2⟩
     obtain⟨rfl,rfl⟩:=ep
     have nZ:rdOb Z Y.length 0=some ⟨[.i 20,.i d,.i 0,.i 0,.i N],0,true,5⟩:=p6.ob hYG n2
     obtain⟨Z1,Z2,a1,a2,a3,a4,a5,a6,a7,a8,a9,a10⟩:=hF3.learn hgk hgn hkn (d:=d) (c:=N) (by omega) (by omega)
     have nZ1:rdOb Z1 Y.length 0=some ⟨[.i 20,.i d,.i 0,.i 0,.i N],0,true,5⟩:=a10.ob (by omega) nZ
     have i5:=(rd_bool hF3.k okk (show d<n by omega)).1
     have i6:=(rd_int hF3.n okn (show d<n by omega)).1
     have kk:=hF3.k
     simp only[KOb]at kk
     rw[hka]at c1
     rw[hkb]at c2
     rw[ha1,hb1,hd1]at n1 hY1 hr2
     simp only at p4
     simp[f1,f2,f3,f4,f5,f7,f23,f24,f25,f34,f35,f36,hj,r1,hr2,putAt_get5,p50,p51,p54,hY1,n1,rdC_ob n1,implWordOk,implWord,hw,hup,i1,c1,i2,c2,i3,c3,i4,c4,hN,hY2,rdC_ob o2,hix,u2,rdN_ob n2,p1,p2,p3,p4,rdC_ob nZ,i5,kk,a1,a2,a3,rdC_ob nZ1,i6,a4,a5,a6,a7]
     refine hend _ _ _ _ hfx hl20 a8 ?_
     simp
 ·rintro⟨e0,Y⟩ hIs
  obtain⟨hF,f1,f2,f3,f4,f5,f7,f23,f24,f25,f34,f35,f36⟩:=(hI _ _).1 hIs
  simp only at hF f1 f2 f3 f4 f5 f7 f23 f24 f25 f34 f35 f36 ⊢
  rw[List.take_length,List.drop_length,List.append_nil]at hF
  unfold vf11b0
  simp[f1,f2,f3,f4,f5,f7,f23,f24,f25,f34,f35,f36]
  exact hQ Y _ hF (by simp) (by simp) (by simp) (by simp) (by simp) (by simp) (by simp) (by simp)
set_option maxRecDepth 100000 in
theorem foldInS {Gu:Nat→Prop} {Y0:Hp} {kid nid n:Nat} {u:CV} {m:Int} {xs:List InsR} {q:Kn} {e:Env} {Q:X×St→Prop} {x1 x2 x3 x6 x7:IV}
  (h0:FoldH Gu kid nid u Y0 Y0 xs q) (hb:xs.length≤BIG) (hgk:¬ Gu kid) (hgn:¬ Gu nid) (hkn:kid≠nid) (hgb:∀ j,Gu j→j<Y0.length) (hqk:q.k.length=n) (hqn:q.n.length=n) (hm:n=m.toNat) (hsh:∀ x∈xs,insB x m=true)
  (e1:Env.get e 1=x1) (e2:Env.get e 2=x2) (e3:Env.get e 3=x3) (e4:Env.get e 4=.c (.sl kid 0 0 n)) (e5:Env.get e 5=.c (.sl nid 0 0 n)) (e6:Env.get e 6=x6) (e7:Env.get e 7=x7) (e8:Env.get e 8=.c u) (e9:Env.get e 9=.c (.i 0))
  (hQ:∀ (Y:Hp) (e':Env),FoldH Gu kid nid u Y0 Y (foldL xs q).1 (foldL xs q).2→Env.get e' 1=x1→Env.get e' 2=x2→Env.get e' 3=x3→Env.get e' 4=.c (.sl kid 0 0 n)→Env.get e' 5=.c (.sl nid 0 0 n)→Env.get e' 6=x6→Env.get e' 7=x7→Q (.exit 2,⟨e',Y⟩)) :
  loopD (exW CM [0,1,2,3,4,5,6,7,8,9,10,15,28,43,66,89] vf13b0) ⟨e,Y0⟩ Q:=by
 obtain⟨I,hI⟩:∃ I:Nat→St→Prop,∀ j s,I j s↔(FoldH Gu kid nid u Y0 s.h (((xs.take j).foldl foldS ([],q)).1++xs.drop j) ((xs.take j).foldl foldS ([],q)).2 ∧
   Env.get s.e 1=x1∧Env.get s.e 2=x2∧Env.get s.e 3=x3∧Env.get s.e 4=.c (.sl kid 0 0 n)∧Env.get s.e 5=.c (.sl nid 0 0 n)∧Env.get s.e 6=x6∧Env.get s.e 7=x7∧Env.get s.e 8=.c u∧Env.get s.e 9=.c (.i j)):=⟨_,fun _ _=>Iff.rfl⟩
 refine wp_for CM_mono xs.length I ((hI _ _).2 ⟨by simpa using h0,e1,e2,e3,e4,e5,e6,e7,e8,e9⟩) ?_ ?_
 ·rintro j ⟨e0,Y⟩ hj hIs
  obtain⟨hF,f1,f2,f3,f4,f5,f6,f7,f8,f9⟩:=(hI _ _).1 hIs
  simp only at hF f1 f2 f3 f4 f5 f6 f7 f8 f9 ⊢
  obtain⟨ok,okl⟩:=foldl_ok (xs.take j) ([],q) (n:=n) (m:=m) ⟨hqk,hqn,fun x hx=>by cases hx⟩ (fun x hx=>hsh x (List.mem_of_mem_take hx))
  have hsucc:(xs.take (j+1)).foldl foldS ([],q)=foldS ((xs.take j).foldl foldS ([],q)) xs[j]:=by rw[List.take_succ_eq_append_getElem hj,List.foldl_append];rfl
  obtain⟨⟨ys,p⟩,hs⟩:∃ s,(xs.take j).foldl foldS ([],q)=s:=⟨_,rfl⟩
  rw[hs]at ok okl hsucc hF
  obtain⟨okk,okn,_⟩:=ok
  simp only at okk okn okl hF
  rw[List.length_take,Nat.min_eq_left (by omega)]at okl
  have hyl:ys.length=j:=by simpa using okl
  obtain⟨x,hx⟩:∃ x,xs[j]=x:=⟨_,rfl⟩
  rw[drop_mid hj,hx]at hF
  rw[hx]at hsucc
  have hxB:insB x m=true:=hsh x (hx▸List.getElem_mem hj)
  obtain⟨rid,rg,cs,G,r1,r2,r3,r4⟩:=hF.row.readS hyl
  have r3:cs=insC x:=r3
  subst r3
  have hr2:rdN Y rid rg (j * 5) 5=some [.i x.op,.i x.d,.i x.a,.i x.b,.i x.n]:=r2
  obtain⟨Y1,hY1⟩:∃ Y1,Y++[(⟨[.i x.op,.i x.d,.i x.a,.i x.b,.i x.n],0,true,5⟩:Ob)]=Y1:=⟨_,rfl⟩
  have hp1:Pre Y Y1:=⟨_,hY1.symm⟩
  have l1:Y1.length=Y.length+1:=by rw[← hY1];simp
  have n1:rdOb Y1 Y.length 0=some ⟨[.i x.op,.i x.d,.i x.a,.i x.b,.i x.n],0,true,5⟩:=by rw[← hY1];simp
  have hF1:FoldH Gu kid nid u Y0 Y1 (ys++x :: xs.drop (j+1)) p:=by rw[← hY1];exact hF.app _
  have hend:∀ (Z:Hp) (e':Env) (x':InsR) (q':Kn),foldX p x=x'→learn p x'=q'→FoldH Gu kid nid u Y0 Z (ys++x' :: xs.drop (j+1)) q'→(Env.get e' 1=x1∧Env.get e' 2=x2∧Env.get e' 3=x3∧Env.get e' 4=.c (.sl kid 0 0 n)∧Env.get e' 5=.c (.sl nid 0 0 n)∧Env.get e' 6=x6∧Env.get e' 7=x7∧Env.get e' 8=.c u∧Env.get e' 9=.c (.i (j+1:Nat)))→I (j+1) ⟨e',Z⟩:=by
   intro Z e' x' q' hx' hq' hZ he
   refine (hI _ _).2 ⟨?_,he⟩
   rw[hsucc]
   simp only[foldS,hx',hq']
   simpa using hZ
  have hlu:=hF.row.lenOf
  rw[show (ys++x :: xs.drop (j+1)).length=xs.length by simp;omega]at hlu
  have hup:=up1 hj hb
  unfold vf13b0
  cases hw:wordOk x.op with
  | false =>
   have hfx:foldX p x=x:=by unfold foldX;rw[if_neg (by simp[hw])]
   cases h20:decide (x.op=20) with
   | true =>
    have h20':=of_decide_eq_true h20
    obtain⟨d,hd1,hd2⟩:=val_nat (makes_val hxB (by unfold makesF;simp[h20']))
    obtain⟨Z,Z2,a1,a2,a3,a4,a5,a6,a7,a8,a9,a10⟩:=hF1.learn hgk hgn hkn (d:=d) (c:=x.n) (by omega) (by omega)
    have i1:=(rd_bool hF1.k okk (show d<n by omega)).1
    have i2:=(rd_int hF1.n okn (show d<n by omega)).1
    have hl20:learn p x=⟨p.k.set d true,p.n.set d x.n⟩:=by unfold learn;rw[if_pos h20',hd1];simp
    have nZ:rdOb Z Y.length 0=some ⟨[.i x.op,.i x.d,.i x.a,.i x.b,.i x.n],0,true,5⟩:=a10.ob (by have:=rdOb_lt hF.k;omega) n1
    rw[hd1]at n1 nZ hY1 hr2
    have kk:=hF1.k
    simp only[KOb]at kk
    simp[f1,f2,f3,f4,f5,f6,f7,f8,f9,hlu,hj,r1,hr2,putAt_get5,hY1,rdC_ob n1,specWordOk,hw,h20,i1,i2,kk,rdC_ob nZ,a1,a2,a3,a4,a5,a6,a7,hup]
    refine hend _ _ x _ hfx hl20 a8 ?_
    simp
   | false =>
    have hl20:learn p x=p:=by unfold learn;rw[if_neg (of_decide_eq_false h20)]
    simp[f1,f2,f3,f4,f5,f6,f7,f8,f9,hlu,hj,r1,hr2,putAt_get5,hY1,rdC_ob n1,specWordOk,hw,h20,hup]
    refine hend _ _ x _ hfx hl20 hF1 ?_
    simp
  | true =>
   have hop:=op_word hw
   have h20:decide (x.op=20)=false:=decide_eq_false hop.1
   obtain⟨hvd,hva,hvb⟩:=insB_word hxB hw
   obtain⟨ka,ha1,ha2⟩:=val_nat hva
   obtain⟨kb,hb1,hb2⟩:=val_nat hvb
   obtain⟨d,hd1,hd2⟩:=val_nat hvd
   obtain⟨i1,c1⟩:=rd_bool hF1.k okk (show ka<n by omega)
   obtain⟨i2,c2⟩:=rd_bool hF1.k okk (show kb<n by omega)
   cases hka:p.k.getD ka false with
   | false =>
    have hfx:foldX p x=x:=by unfold foldX;rw[if_neg (fun h=>by rw[ha1,Int.toNat_natCast,hka]at h;cases h.2.1)]
    have hl20:learn p x=p:=by unfold learn;rw[if_neg hop.1]
    rw[hka]at c1
    rw[ha1]at n1 hY1 hr2
    simp[f1,f2,f3,f4,f5,f6,f7,f8,f9,hlu,hj,r1,hr2,putAt_get5,hY1,rdC_ob n1,specWordOk,hw,h20,hup,i1,c1]
    refine hend _ _ x _ hfx hl20 hF1 ?_
    simp
   | true =>
    cases hkb:p.k.getD kb false with
    | false =>
     have hfx:foldX p x=x:=by unfold foldX;rw[if_neg (fun h=>by rw[hb1,Int.toNat_natCast,hkb]at h;cases h.2.2)]
     have hl20:learn p x=p:=by unfold learn;rw[if_neg hop.1]
     rw[hka]at c1
     rw[hkb]at c2
     rw[ha1,hb1]at n1 hY1 hr2
     simp[f1,f2,f3,f4,f5,f6,f7,f8,f9,hlu,hj,r1,hr2,putAt_get5,hY1,rdC_ob n1,specWordOk,hw,h20,hup,i1,c1,i2,c2]
     refine hend _ _ x _ hfx hl20 hF1 ?_
     simp
    | true =>
     obtain⟨i3,c3⟩:=rd_int hF1.n okn (show ka<n by omega)
     obtain⟨i4,c4⟩:=rd_int hF1.n okn (show kb<n by omega)
     obtain⟨va,hva'⟩:∃ va,p.n.getD ka 0=va:=⟨_,rfl⟩
     obtain⟨vb,hvb'⟩:∃ vb,p.n.getD kb 0=vb:=⟨_,rfl⟩
     rw[hva']at c3
     rw[hvb']at c4
     obtain⟨N,hN⟩:∃ N,wordF x.op va vb=N:=⟨_,rfl⟩
     have hfx:foldX p x=⟨20,d,0,0,N⟩:=by unfold foldX;rw[if_pos ⟨hw,by rw[ha1,Int.toNat_natCast];exact hka,by rw[hb1,Int.toNat_natCast];exact hkb⟩,ha1,hb1,hd1,Int.toNat_natCast,Int.toNat_natCast,hva',hvb',hN]
     have hl20:learn p ⟨20,d,0,0,N⟩=⟨p.k.set d true,p.n.set d N⟩:=by unfold learn;rw[if_pos rfl];simp
     have hlY:=rdOb_lt hF.k
     have hlN:=rdOb_lt hF.n
     have hYG:¬ Gu Y.length:=fun h=>by have:=hgb _ h;have:=hF.len;omega
     obtain⟨Y2,hY2⟩:∃ Y2,Y1.set Y.length ⟨[.i 20,.i d,.i 0,.i 0,.i N],0,true,5⟩=Y2:=⟨_,rfl⟩
     have hF2:FoldH Gu kid nid u Y0 Y2 (ys++x :: xs.drop (j+1)) p:=by rw[← hY2];exact hF1.other _ (hF.len) hYG (by omega) (by omega)
     have n2:rdOb Y2 Y.length 0=some ⟨[.i 20,.i d,.i 0,.i 0,.i N],0,true,5⟩:=by rw[← hY2,rdOb_set_self (by omega)];simp
     obtain⟨pid,pg,pcells,Z,p1,p2,p3,p4,hF3,p6⟩:=hF2.put hyl hgk hgn ⟨20,d,0,0,N⟩
     have ep:pid=rid∧pg=rg:=by have e:=p1.symm.trans r1;injection e with e;injection e with e1 e2;exact⟨e1,e2⟩
     obtain⟨rfl,rfl⟩:=ep
     have nZ:rdOb Z Y.length 0=some ⟨[.i 20,.i d,.i 0,.i 0,.i N],0,true,5⟩:=p6.ob hYG n2
     obtain⟨Z1,Z2,a1,a2,a3,a4,a5,a6,a7,a8,a9,a10⟩:=hF3.learn hgk hgn hkn (d:=d) (c:=N) (by omega) (by omega)
     have nZ1:rdOb Z1 Y.length 0=some ⟨[.i 20,.i d,.i 0,.i 0,.i N],0,true,5⟩:=a10.ob (by omega) nZ
     have i5:=(rd_bool hF3.k okk (show d<n by omega)).1
     have i6:=(rd_int hF3.n okn (show d<n by omega)).1
     have kk:=hF3.k
     simp only[KOb]at kk
     rw[hka]at c1
     rw[hkb]at c2
     rw[ha1,hb1,hd1]at n1 hY1 hr2
     simp only at p4
     simp[f1,f2,f3,f4,f5,f6,f7,f8,f9,hlu,hj,r1,hr2,putAt_get5,p50,p51,p54,hY1,n1,rdC_ob n1,specWordOk,specWord,hw,hup,i1,c1,i2,c2,i3,c3,i4,c4,hN,hY2,rdN_ob n2,p1,p2,p3,p4,rdC_ob nZ,i5,kk,a1,a2,a3,rdC_ob nZ1,i6,a4,a5,a6,a7]
     refine hend _ _ _ _ hfx hl20 a8 ?_
     simp
 ·rintro⟨e0,Y⟩ hIs
  obtain⟨hF,f1,f2,f3,f4,f5,f6,f7,f8,f9⟩:=(hI _ _).1 hIs
  simp only at hF f1 f2 f3 f4 f5 f6 f7 f8 f9 ⊢
  rw[List.take_length,List.drop_length,List.append_nil]at hF
  have hlu:=hF.row.lenOf
  rw[show (List.foldl foldS ([],q) xs).1.length=xs.length from (foldL_ok (m:=m) hqk hqn hsh).2]at hlu
  unfold vf13b0
  simp[f1,f2,f3,f4,f5,f6,f7,f8,f9,hlu]
  exact hQ Y _ hF (by simp) (by simp) (by simp) (by simp) (by simp) (by simp) (by simp)
theorem Tree.list {S:Nat→Prop} {X:Hp} {v:CV} {bs:List BlkR} {b:Nat} (h:Tree S X v bs) (hb:b<bs.length) :
  ∃ id g u,∃ Gu:Nat→Prop,idxOf 6 v (b:Int)=some (.p id g (b * 6))∧rdC X id g (b * 6+1)=some u∧FRow insF 5 X u bs[b].list Gu∧(∀ j,Gu j→S j∧j<X.length∧j≠id)∧S id∧bs[b].list.length≤BIG ∧
   ∀ Y ls,X.length≤Y.length→Frm (fun j=>S j∧¬ Gu j) X Y→FRow insF 5 Y u ls Gu→ls.length≤BIG→Tree S Y v (bs.set b ⟨bs[b].phis,ls,bs[b].term⟩):=by
 obtain⟨id,g,cells,Fs,z,u,Gz,Gu,rfl,hc,h1,h2,h3,h4,h5,h6,h7⟩:=h.at_ hb
 clear h
 refine⟨id,g,u,Gu,idx_sl hb,?_,h3,fun j hj=>⟨(hc.sub b j hb (h5 j hj)).1,(hc.sub b j hb (h5 j hj)).2.2,(hc.sub b j hb (h5 j hj)).2.1⟩,hc.own,h7,fun Y ls hl hf hr hlb=>?_⟩
 ·rw[hc.c (by omega),h1];rfl
 ·have:=(hc.nest blkF_st hb (x':=⟨bs[b].phis,ls,bs[b].term⟩) hl (hf.mono fun j hj=>⟨hj.1,fun h=>hj.2 (h5 j h)⟩)
   ⟨z,u,Gz,Gu,h1,h2.fr phiF_st (hf.mono fun j hj=>⟨(hc.sub b j hb (h4 j hj).1).1,(h4 j hj).2⟩),hr,h4,h5,h6,hlb⟩).row
  simpa using this

theorem Tree.phis {S:Nat→Prop} {X:Hp} {v:CV} {bs:List BlkR} {b:Nat} (h:Tree S X v bs) (hb:b<bs.length) :
  ∃ id g z,∃ Gz:Nat→Prop,idxOf 6 v (b:Int)=some (.p id g (b * 6))∧rdC X id g (b * 6)=some z∧FRow phiF 2 X z bs[b].phis Gz∧(∀ j,Gz j→S j∧j<X.length∧j≠id)∧S id∧bs[b].phis.length≤BIG ∧
   ∀ Y ps,X.length≤Y.length→Frm (fun j=>S j∧¬ Gz j) X Y→FRow phiF 2 Y z ps Gz→ps.length≤BIG→Tree S Y v (bs.set b ⟨ps,bs[b].list,bs[b].term⟩):=by
 obtain⟨id,g,cells,Fs,z,u,Gz,Gu,rfl,hc,h1,h2,h3,h4,h5,h6,h7⟩:=h.at_ hb
 clear h
 refine⟨id,g,z,Gz,idx_sl hb,?_,h2,fun j hj=>⟨(hc.sub b j hb (h4 j hj).1).1,(hc.sub b j hb (h4 j hj).1).2.2,(hc.sub b j hb (h4 j hj).1).2.1⟩,hc.own,h6,fun Y ps hl hf hr hlb=>?_⟩
 ·have:=hc.c (k:=b) (j:=0) (by omega)
  rw[Nat.add_zero]at this
  rw[this,h1];rfl
 ·have:=(hc.nest blkF_st hb (x':=⟨ps,bs[b].list,bs[b].term⟩) hl (hf.mono fun j hj=>⟨hj.1,fun h=>hj.2 (h4 j h).1⟩)
   ⟨z,u,Gz,Gu,h1,hr,h3.fr insF_st (hf.mono fun j hj=>⟨(hc.sub b j hb (h5 j hj)).1,fun h=>(h4 j h).2 hj⟩),h4,h5,hlb,h7⟩).row
  simpa using this

def FnRes (H:Hp) (g:FnR) (r:IV×Hp):Prop:=∃ w L,r=(.agg [w,.i g.values],H++L)∧Tree (fun i=>H.length≤i) (H++L) w g.blocks

theorem FnRes.mk {H X:Hp} {w:CV} {g:FnR} {S:Nat→Prop} (hp:Pre H X) (hT:Tree S X w g.blocks) (hS:∀ j,S j→H.length≤j):FnRes H g (gcRet H (.agg [w,.i g.values]) X):=by
 have hT:=FRow.mono hT hS
 rcases FRow.form hT with rfl | ⟨i',g',n',rfl⟩
 ·have hbs:g.blocks=[]:=by
   rcases hT with⟨_,h⟩ | ⟨_,_,_,_,h,_⟩
   ·exact h
   ·cases h
  rw[gcRet_flat hp (show flatV (.agg [.ns,.i g.values])=true from rfl)]
  exact⟨.ns,[],by simp,.inl ⟨rfl,hbs⟩⟩
 ·rw[gc_agg (by simp[flatC])]
  obtain⟨L,rfl⟩:=hp
  exact⟨_,L,rfl,hT⟩

theorem zeros_flat (n:Nat):(List.replicate n [CV.i 0]).flatten=(List.replicate n (0:Int)).map .i:=by
 induction n with
 | zero=>rfl
 | succ n ih=>simp[List.replicate_succ,ih]

structure FoldB (S:Nat→Prop) (kid nid o3:Nat) (w:CV) (m:Int) (X6 Y:Hp) (s:List BlkR×Kn):Prop where
 tree:Tree S Y w s.1
 k:rdOb Y kid 0=some (KOb s.2.k)
 n:rdOb Y nid 0=some (NOb s.2.n)
 out:rdOb Y o3 0=some ⟨[w,.i m],0,true,2⟩
 fr:Frm (fun j=>j<X6.length∧¬ S j∧j≠kid∧j≠nid) X6 Y
 len:X6.length≤Y.length

set_option maxRecDepth 100000 in
theorem implFold {H:Hp} {v:CV} {f:FnR} (hv:Blocks H v f.blocks) (hb:f.blocks.length≤BIG):CM 11 [.agg [v,.i f.values]] H (FnRes H (fold0 f)):=by
 refine cw11 ?_
 unfold vf11c
 obtain⟨X1,hX1⟩:∃ X1,H++[(⟨[v,.i f.values],0,true,2⟩:Ob),⟨[.ns,.i 0],0,true,2⟩]=X1:=⟨_,rfl⟩
 have hp1:Pre H X1:=⟨_,hX1.symm⟩
 have l1:X1.length=H.length+2:=by rw[← hX1];simp
 have hB1:rdOb X1 H.length 0=some ⟨[v,.i f.values],0,true,2⟩:=by rw[← hX1];simp
 have hR1:rdOb X1 (H.length+1) 0=some ⟨[.ns,.i 0],0,true,2⟩:=by rw[← hX1];simp
 simp[hX1,rdN_ob hB1]
 refine (implClone (hv.pre hp1) hb).mono ?_
 rintro _ ⟨w,L1,rfl,hT⟩
 obtain⟨X2,hX2⟩:∃ X2,X1++L1=X2:=⟨_,rfl⟩
 rw[hX2]at hT ⊢
 have hp2:Pre X1 X2:=⟨_,hX2.symm⟩
 have l2:=hp2.le
 obtain⟨X3,hX3⟩:∃ X3,X2++[(⟨[w,.i f.values],0,true,2⟩:Ob)]=X3:=⟨_,rfl⟩
 have hp3:Pre X2 X3:=⟨_,hX3.symm⟩
 have l3:X3.length=X2.length+1:=by rw[← hX3];simp
 have hO3:rdOb X3 X2.length 0=some ⟨[w,.i f.values],0,true,2⟩:=by rw[← hX3];simp
 have hT3:Tree (fun j=>X1.length≤j∧j<X2.length) X3 w f.blocks:=hT.bound.fr blkF_st (Frm.pre hp3)
 have hB3:=hp3.rdOb (hp2.rdOb hB1)
 have hR3:=hp3.rdOb (hp2.rdOb hR1)
 have hv3:=hv.pre (hp1.trans (hp2.trans hp3))
 by_cases hck:checkF f=0
 ·have hg:fold0 f=⟨(foldTo f (ordF f.blocks)).1,f.values⟩:=by unfold fold0;rw[if_pos hck]
  have hW:=well_iff.1 hck
  have hsh:=hW.sh
  obtain⟨s1,s2,s3,s4⟩:=shape_len hsh
  obtain⟨n,hnt⟩:∃ n:Nat,f.values.toNat=n:=⟨_,rfl⟩
  obtain⟨X4,hX4⟩:∃ X4,X3++[KOb (List.replicate n false)]=X4:=⟨_,rfl⟩
  have hp4:Pre X3 X4:=⟨_,hX4.symm⟩
  have l4:X4.length=X3.length+1:=by rw[← hX4];simp
  have hK4:rdOb X4 X3.length 0=some (KOb (List.replicate n false)):=by rw[← hX4];simp
  obtain⟨X5,hX5⟩:∃ X5,X4++[NOb (List.replicate n 0)]=X5:=⟨_,rfl⟩
  have hp5:Pre X4 X5:=⟨_,hX5.symm⟩
  have l5:X5.length=X4.length+1:=by rw[← hX5];simp
  have hN5:rdOb X5 X4.length 0=some (NOb (List.replicate n 0)):=by rw[← hX5];simp
  have hp35:=hp4.trans hp5
  obtain⟨w6,L6,hw6,hord⟩:=implOrder0 (hv3.pre hp35) hb
  obtain⟨X6,hX6⟩:∃ X6,X5++L6=X6:=⟨_,rfl⟩
  have hp6:Pre X5 X6:=⟨_,hX6.symm⟩
  have ho0:order0 f=ordF f.blocks:=by unfold order0;rw[if_pos hsh]
  rw[ho0]at hw6
  obtain⟨hrange,_⟩:=walk0_seen (shape_pos hsh)
  obtain⟨ord,hordd⟩:∃ ord,ordF f.blocks=ord:=⟨_,rfl⟩
  have hol:ord.length≤BIG:=by have:=ordF_le (shape_pos hsh);rw[hordd]at this;omega
  rw[hordd]at hw6 hrange hg
  have hI6:IsI X6 w6 ord:=by rw[← hX6];exact hw6.isI
  have hlw:=hI6.lenOf
  have hfl:=falses_flat n
  have hzl:=zeros_flat n
  have hlim:n≤LIM:=by simp only[LIM];omega
  have hp36:=hp35.trans hp6
  simp only[KOb]at hX4
  simp only[NOb]at hX5
  simp only[List.map_replicate]at hX4 hX5
  simp[putAt,hX3,rdN_ob hB3,implCheck hv3 hb,hck,rdC_ob hB3,rdC_ob (hp4.rdOb hB3),rdN_ob (hp35.rdOb hB3),hnt,s3,hfl,hzl,hlim,hX4,hX5,hord,hX6,hlw]
  have hT6:Tree (fun j=>X1.length≤j∧j<X2.length) X6 w f.blocks:=hT3.fr blkF_st (Frm.pre hp36)
  have hk6:rdOb X6 X3.length 0=some (KOb (kn0 n).k):=hp6.rdOb (hp5.rdOb hK4)
  have hn6:rdOb X6 X4.length 0=some (NOb (kn0 n).n):=hp6.rdOb hN5
  have hO6:=hp36.rdOb hO3
  have hR6:=hp36.rdOb hR3
  have l6:=hp6.le
  obtain⟨I,hI⟩:∃ I:Nat→St→Prop,∀ i s,I i s↔(FoldB (fun j=>X1.length≤j∧j<X2.length) X3.length X4.length X2.length w f.values X6 s.h (foldTo f (ord.take i)) ∧
    Env.get s.e 2=.c (.p (H.length+1) 0 0)∧Env.get s.e 3=.c (.p X2.length 0 0)∧Env.get s.e 4=.c (.sl X3.length 0 0 n)∧Env.get s.e 5=.c (.sl X4.length 0 0 n)∧Env.get s.e 23=.c w6∧Env.get s.e 24=.c (.i ord.length)∧Env.get s.e 25=.c (.i i)):=⟨_,fun _ _=>Iff.rfl⟩
  refine wp_for CM_mono ord.length I ((hI _ _).2 ⟨⟨by simpa [foldTo] using hT6,by simpa [foldTo,hnt] using hk6,by simpa [foldTo,hnt] using hn6,hO6,Frm.refl _ _,Nat.le_refl _⟩,by simp⟩) ?_ ?_
  ·rintro i ⟨e,Y⟩ hi hIs
   obtain⟨hF,e2,e3,e4,e5,e23,e24,e25⟩:=(hI _ _).1 hIs
   simp only at hF e2 e3 e4 e5 e23 e24 e25 ⊢
   obtain⟨b,hb1,hb2⟩:=hrange ord[i] (List.getElem_mem hi)
   have hok:=foldTo_ok hsh (ord.take i) (fun x hx=>hrange x (List.mem_of_mem_take hx))
   have hsu:=foldTo_succ f hi
   rw[hb1]at hsu
   obtain⟨s,hs⟩:∃ s,foldTo f (ord.take i)=s:=⟨_,rfl⟩
   rw[hs]at hF hok hsu
   rw[hnt]at hok
   have hbl:b<s.1.length:=by rw[hok.len];exact hb2
   obtain⟨id,g,u,Gu,q1,q2,q3,q4,q5,q6,q7⟩:=hF.tree.list hbl
   obtain⟨bk,hbk⟩:∃ bk,s.1[b]=bk:=⟨_,rfl⟩
   have hbm:bk∈s.1:=hbk▸List.getElem_mem hbl
   rw[hbk]at q3 q6 q7
   have hlu:=q3.lenOf
   have hIY:IsI Y w6 ord:=by
    rcases hw6 with⟨rfl,_,rfl⟩ | ⟨rfl,hL⟩
    ·exact IsI.ns _
    ·have h5:rdOb X6 X5.length 0=some ⟨ord.map .i,0,true,1⟩:=by rw[← hX6,hL];simp
     exact IsI.mk (hF.fr.ob (by have:=rdOb_lt h5;omega) h5) rfl (by simp) (by rw[List.drop_zero,List.take_of_length_le (by simp)])
   obtain⟨oid,og,ooff,o1,o2⟩:=hIY.at_ hi
   rw[hb1]at o2
   have hkS:¬ Gu X3.length:=fun h=>by have:=(q4 _ h).1;omega
   have hnS:¬ Gu X4.length:=fun h=>by have:=(q4 _ h).1;omega
   have hoS:¬ Gu X2.length:=fun h=>by have:=(q4 _ h).1;omega
   unfold vf11b1
   simp[e2,e3,e4,e5,e23,e24,e25,hi,o1,o2,rdC_ob hF.out,q1,q2,hlu]
   refine foldIn (xs:=bk.list) (q:=s.2) (Gu:=Gu) (kid:=X3.length) (nid:=X4.length) (m:=f.values) (id:=id) (g:=g) (w:=w) (x1:=Env.get e 1) (x2:=.c (.p (H.length+1) 0 0)) (x23:=.c w6) (x24:=.c (.i ord.length)) (x25:=.c (.i i)) ⟨q3,hF.k,hF.n,Frm.refl _ _,Nat.le_refl _⟩ q6 hkS hnS (by omega) hoS (by omega) (by omega) (fun j hj=>(q4 j hj).2.1) (fun h=>(q4 _ h).2.2 rfl) (by omega) (by omega)
    hF.out q1 q2 hok.k hok.n hnt.symm (hok.ins _ hbm).2 (by simp) (by simp[e2]) (by simp[e3]) (by simp[e4]) (by simp[e5]) (by simp) (by simp[e23]) (by simp[e24]) (by simp[e25]) (by simp) (by simp) (by simp) ?_
   intro Z e' hZ f1 f2 f3 f4 f5 f23 f24 f25
   obtain⟨gk,gl⟩:=foldL_ok (n:=n) (m:=f.values) hok.k hok.n (hok.ins _ hbm).2
   simp[f1,f2,f3,f4,f5,f23,f24,f25,up1 hi hol]
   refine (hI _ _).2 ⟨?_,by simp[f2,f3,f4,f5,f23,f24,f25]⟩
   rw[hsu]
   unfold foldK
   rw[Int.toNat_natCast,blk_at hbl,hbk]
   refine⟨q7 Z _ hZ.len (hZ.fr.monoL fun j hj h=>⟨hj,h.2,by omega,by omega⟩) hZ.row (by rw[gl];exact q6),hZ.k,hZ.n,hZ.fr.ob ⟨rdOb_lt hF.out,hoS,by omega,by omega⟩ hF.out,hF.fr.trans (hZ.fr.monoL fun j hj h=>⟨hj,fun hg=>h.2.1 (q4 j hg).1,h.2.2⟩),Nat.le_trans hF.len hZ.len⟩
  ·rintro⟨e,Y⟩ hIs
   obtain⟨hF,e2,e3,e4,e5,e23,e24,e25⟩:=(hI _ _).1 hIs
   simp only at hF e2 e3 e4 e5 e23 e24 e25 ⊢
   rw[List.take_length]at hF
   have hRY:rdOb Y (H.length+1) 0=some ⟨[.ns,.i 0],0,true,2⟩:=hF.fr.ob ⟨by omega,by omega,by omega,by omega⟩ hR6
   obtain⟨Y2,hY2⟩:∃ Y2,Y.set (H.length+1) ⟨[w,.i f.values],0,true,2⟩=Y2:=⟨_,rfl⟩
   have hR2:rdOb Y2 (H.length+1) 0=some ⟨[w,.i f.values],0,true,2⟩:=by rw[← hY2,rdOb_set_self (rdOb_lt hRY)];simp
   have hpY:Pre H Y:=(hF.fr.mono fun j (hj:j<H.length)=>⟨by omega,by omega,by omega,by omega⟩).cut (hp1.trans (hp2.trans (hp3.trans hp36)))
   unfold vf11b1
   simp[e2,e3,e4,e5,e23,e24,e25,rdN_ob hF.out,hRY,putAt,hY2,rdN_ob hR2]
   rw[hg]
   refine FnRes.mk (g:=⟨(foldTo f ord).1,f.values⟩) (S:=fun j=>X1.length≤j∧j<X2.length) ?_ ?_ (fun j hj=>by omega)
   ·rw[← hY2];exact hpY.set (by omega) _
   ·rw[← hY2];exact hF.tree.fr blkF_st (Frm.set _ _ (by omega))
 ·have hg:fold0 f=f:=by unfold fold0;rw[if_neg hck]
  obtain⟨X4,hX4⟩:∃ X4,X3.set (H.length+1) ⟨[w,.i f.values],0,true,2⟩=X4:=⟨_,rfl⟩
  have hR4:rdOb X4 (H.length+1) 0=some ⟨[w,.i f.values],0,true,2⟩:=by rw[← hX4,rdOb_set_self (rdOb_lt hR3)];simp
  simp[putAt,hX3,rdN_ob hB3,implCheck hv3 hb,hck,rdN_ob hO3,hR3,hX4,rdN_ob hR4,hg]
  refine FnRes.mk (S:=fun j=>X1.length≤j∧j<X2.length) ?_ ?_ (fun j hj=>by omega)
  ·rw[← hX4];exact (hp1.trans (hp2.trans hp3)).set (by omega) _
  ·rw[← hX4];exact hT3.fr blkF_st (Frm.set _ _ (by omega))
set_option maxRecDepth 100000 in
theorem specFold {H:Hp} {v:CV} {f:FnR} (hv:Blocks H v f.blocks) (hb:f.blocks.length≤BIG):CM 13 [.agg [v,.i f.values]] H (FnRes H (fold0 f)):=by
 refine cw13 ?_
 unfold vf13c
 obtain⟨X1,hX1⟩:∃ X1,H++[(⟨[v,.i f.values],0,true,2⟩:Ob),⟨[.ns,.i 0],0,true,2⟩]=X1:=⟨_,rfl⟩
 have hp1:Pre H X1:=⟨_,hX1.symm⟩
 have l1:X1.length=H.length+2:=by rw[← hX1];simp
 have hB1:rdOb X1 H.length 0=some ⟨[v,.i f.values],0,true,2⟩:=by rw[← hX1];simp
 have hR1:rdOb X1 (H.length+1) 0=some ⟨[.ns,.i 0],0,true,2⟩:=by rw[← hX1];simp
 simp[hX1,rdN_ob hB1]
 refine (specCopy (hv.pre hp1) hb).mono ?_
 rintro _ ⟨w,L1,rfl,hT⟩
 obtain⟨X2,hX2⟩:∃ X2,X1++L1=X2:=⟨_,rfl⟩
 rw[hX2]at hT ⊢
 have hp2:Pre X1 X2:=⟨_,hX2.symm⟩
 have l2:=hp2.le
 obtain⟨X3,hX3⟩:∃ X3,X2++[(⟨[w,.i f.values],0,true,2⟩:Ob)]=X3:=⟨_,rfl⟩
 have hp3:Pre X2 X3:=⟨_,hX3.symm⟩
 have l3:X3.length=X2.length+1:=by rw[← hX3];simp
 have hO3:rdOb X3 X2.length 0=some ⟨[w,.i f.values],0,true,2⟩:=by rw[← hX3];simp
 have hT3:Tree (fun j=>X1.length≤j∧j<X2.length) X3 w f.blocks:=hT.bound.fr blkF_st (Frm.pre hp3)
 have hB3:=hp3.rdOb (hp2.rdOb hB1)
 have hR3:=hp3.rdOb (hp2.rdOb hR1)
 have hv3:=hv.pre (hp1.trans (hp2.trans hp3))
 by_cases hck:checkF f=0
 ·have hg:fold0 f=⟨(foldTo f (ordF f.blocks)).1,f.values⟩:=by unfold fold0;rw[if_pos hck]
  have hW:=well_iff.1 hck
  have hsh:=hW.sh
  obtain⟨s1,s2,s3,s4⟩:=shape_len hsh
  obtain⟨n,hnt⟩:∃ n:Nat,f.values.toNat=n:=⟨_,rfl⟩
  obtain⟨X4,hX4⟩:∃ X4,X3++[KOb (List.replicate n false)]=X4:=⟨_,rfl⟩
  have hp4:Pre X3 X4:=⟨_,hX4.symm⟩
  have l4:X4.length=X3.length+1:=by rw[← hX4];simp
  have hK4:rdOb X4 X3.length 0=some (KOb (List.replicate n false)):=by rw[← hX4];simp
  obtain⟨X5,hX5⟩:∃ X5,X4++[NOb (List.replicate n 0)]=X5:=⟨_,rfl⟩
  have hp5:Pre X4 X5:=⟨_,hX5.symm⟩
  have l5:X5.length=X4.length+1:=by rw[← hX5];simp
  have hN5:rdOb X5 X4.length 0=some (NOb (List.replicate n 0)):=by rw[← hX5];simp
  have hp35:=hp4.trans hp5
  have hord:=specOrderL (m:=f.values) (hv3.pre hp35) (shape_range hsh) hb (shape_pos hsh)
  obtain⟨X6,hX6⟩:∃ X6,X5++[(⟨(ordF f.blocks).map .i,0,true,1⟩:Ob)]=X6:=⟨_,rfl⟩
  have hp6:Pre X5 X6:=⟨_,hX6.symm⟩
  obtain⟨hrange,_⟩:=walk0_seen (shape_pos hsh)
  obtain⟨ord,hordd⟩:∃ ord,ordF f.blocks=ord:=⟨_,rfl⟩
  have hol:ord.length≤BIG:=by have:=ordF_le (shape_pos hsh);rw[hordd]at this;omega
  rw[hordd]at hrange hg hX6 hord
  have h56:rdOb X6 X5.length 0=some ⟨ord.map .i,0,true,1⟩:=by rw[← hX6];simp
  have hfl:=falses_flat n
  have hzl:=zeros_flat n
  have hlim:n≤LIM:=by simp only[LIM];omega
  have hp36:=hp35.trans hp6
  simp only[KOb]at hX4
  simp only[NOb]at hX5
  simp only[List.map_replicate]at hX4 hX5
  simp[putAt,hX3,rdN_ob hB3,specCheck hv3 hb,hck,rdC_ob hB3,rdC_ob (hp4.rdOb hB3),rdN_ob (hp35.rdOb hB3),hnt,s3,hfl,hzl,hlim,hX4,hX5,hord,hX6]
  have hT6:Tree (fun j=>X1.length≤j∧j<X2.length) X6 w f.blocks:=hT3.fr blkF_st (Frm.pre hp36)
  have hk6:rdOb X6 X3.length 0=some (KOb (kn0 n).k):=hp6.rdOb (hp5.rdOb hK4)
  have hn6:rdOb X6 X4.length 0=some (NOb (kn0 n).n):=hp6.rdOb hN5
  have hO6:=hp36.rdOb hO3
  have hR6:=hp36.rdOb hR3
  have l6:=hp6.le
  obtain⟨I,hI⟩:∃ I:Nat→St→Prop,∀ i s,I i s↔(FoldB (fun j=>X1.length≤j∧j<X2.length) X3.length X4.length X2.length w f.values X6 s.h (foldTo f (ord.take i)) ∧
    Env.get s.e 2=.c (.p (H.length+1) 0 0)∧Env.get s.e 3=.c (.p X2.length 0 0)∧Env.get s.e 4=.c (.sl X3.length 0 0 n)∧Env.get s.e 5=.c (.sl X4.length 0 0 n)∧Env.get s.e 6=.c (.sl X5.length 0 0 ord.length)∧Env.get s.e 7=.c (.i i)):=⟨_,fun _ _=>Iff.rfl⟩
  refine wp_for CM_mono ord.length I ((hI _ _).2 ⟨⟨by simpa [foldTo] using hT6,by simpa [foldTo,hnt] using hk6,by simpa [foldTo,hnt] using hn6,hO6,Frm.refl _ _,Nat.le_refl _⟩,by simp⟩) ?_ ?_
  ·rintro i ⟨e,Y⟩ hi hIs
   obtain⟨hF,e2,e3,e4,e5,e6,e7⟩:=(hI _ _).1 hIs
   simp only at hF e2 e3 e4 e5 e6 e7 ⊢
   obtain⟨b,hb1,hb2⟩:=hrange ord[i] (List.getElem_mem hi)
   have hok:=foldTo_ok hsh (ord.take i) (fun x hx=>hrange x (List.mem_of_mem_take hx))
   have hsu:=foldTo_succ f hi
   rw[hb1]at hsu
   obtain⟨s,hs⟩:∃ s,foldTo f (ord.take i)=s:=⟨_,rfl⟩
   rw[hs]at hF hok hsu
   rw[hnt]at hok
   have hbl:b<s.1.length:=by rw[hok.len];exact hb2
   obtain⟨id,g,u,Gu,q1,q2,q3,q4,q5,q6,q7⟩:=hF.tree.list hbl
   obtain⟨bk,hbk⟩:∃ bk,s.1[b]=bk:=⟨_,rfl⟩
   have hbm:bk∈s.1:=hbk▸List.getElem_mem hbl
   rw[hbk]at q3 q6 q7
   have hlu:=q3.lenOf
   have hIY:IsI Y (.sl X5.length 0 0 ord.length) ord:=IsI.mk (hF.fr.ob (by have:=rdOb_lt h56;omega) h56) rfl (by simp) (by rw[List.drop_zero,List.take_of_length_le (by simp)])
   obtain⟨oid,og,ooff,o1,o2⟩:=hIY.at_ hi
   rw[hb1]at o2
   have hkS:¬ Gu X3.length:=fun h=>by have:=(q4 _ h).1;omega
   have hnS:¬ Gu X4.length:=fun h=>by have:=(q4 _ h).1;omega
   have hoS:¬ Gu X2.length:=fun h=>by have:=(q4 _ h).1;omega
   unfold vf13b1
   simp[e2,e3,e4,e5,e6,e7,hi,o1,o2,rdC_ob hF.out,q1,q2,hlu]
   refine foldInS (xs:=bk.list) (q:=s.2) (Gu:=Gu) (kid:=X3.length) (nid:=X4.length) (m:=f.values) (x1:=Env.get e 1) (x2:=.c (.p (H.length+1) 0 0)) (x3:=.c (.p X2.length 0 0)) (x6:=.c (.sl X5.length 0 0 ord.length)) (x7:=.c (.i i)) ⟨q3,hF.k,hF.n,Frm.refl _ _,Nat.le_refl _⟩ q6 hkS hnS (by omega) (fun j hj=>(q4 j hj).2.1) hok.k hok.n hnt.symm (hok.ins _ hbm).2 (by simp) (by simp[e2]) (by simp[e3]) (by simp[e4]) (by simp[e5]) (by simp[e6]) (by simp[e7]) (by simp) (by simp) ?_
   intro Z e' hZ f1 f2 f3 f4 f5 f6 f7
   obtain⟨gk,gl⟩:=foldL_ok (n:=n) (m:=f.values) hok.k hok.n (hok.ins _ hbm).2
   simp[f1,f2,f3,f4,f5,f6,f7,up1 hi hol]
   refine (hI _ _).2 ⟨?_,by simp[f2,f3,f4,f5,f6,f7]⟩
   rw[hsu]
   unfold foldK
   rw[Int.toNat_natCast,blk_at hbl,hbk]
   refine⟨q7 Z _ hZ.len (hZ.fr.monoL fun j hj h=>⟨hj,h.2,by omega,by omega⟩) hZ.row (by rw[gl];exact q6),hZ.k,hZ.n,hZ.fr.ob ⟨rdOb_lt hF.out,hoS,by omega,by omega⟩ hF.out,hF.fr.trans (hZ.fr.monoL fun j hj h=>⟨hj,fun hg=>h.2.1 (q4 j hg).1,h.2.2⟩),Nat.le_trans hF.len hZ.len⟩
  ·rintro⟨e,Y⟩ hIs
   obtain⟨hF,e2,e3,e4,e5,e6,e7⟩:=(hI _ _).1 hIs
   simp only at hF e2 e3 e4 e5 e6 e7 ⊢
   rw[List.take_length]at hF
   have hRY:rdOb Y (H.length+1) 0=some ⟨[.ns,.i 0],0,true,2⟩:=hF.fr.ob ⟨by omega,by omega,by omega,by omega⟩ hR6
   obtain⟨Y2,hY2⟩:∃ Y2,Y.set (H.length+1) ⟨[w,.i f.values],0,true,2⟩=Y2:=⟨_,rfl⟩
   have hR2:rdOb Y2 (H.length+1) 0=some ⟨[w,.i f.values],0,true,2⟩:=by rw[← hY2,rdOb_set_self (rdOb_lt hRY)];simp
   have hpY:Pre H Y:=(hF.fr.mono fun j (hj:j<H.length)=>⟨by omega,by omega,by omega,by omega⟩).cut (hp1.trans (hp2.trans (hp3.trans hp36)))
   unfold vf13b1
   simp[e2,e3,e4,e5,e6,e7,rdN_ob hF.out,hRY,putAt,hY2,rdN_ob hR2]
   rw[hg]
   refine FnRes.mk (g:=⟨(foldTo f ord).1,f.values⟩) (S:=fun j=>X1.length≤j∧j<X2.length) ?_ ?_ (fun j hj=>by omega)
   ·rw[← hY2];exact hpY.set (by omega) _
   ·rw[← hY2];exact hF.tree.fr blkF_st (Frm.set _ _ (by omega))
 ·have hg:fold0 f=f:=by unfold fold0;rw[if_neg hck]
  obtain⟨X4,hX4⟩:∃ X4,X3.set (H.length+1) ⟨[w,.i f.values],0,true,2⟩=X4:=⟨_,rfl⟩
  have hR4:rdOb X4 (H.length+1) 0=some ⟨[w,.i f.values],0,true,2⟩:=by rw[← hX4,rdOb_set_self (rdOb_lt hR3)];simp
  simp[putAt,hX3,rdN_ob hB3,specCheck hv3 hb,hck,rdN_ob hO3,hR3,hX4,rdN_ob hR4,hg]
  refine FnRes.mk (S:=fun j=>X1.length≤j∧j<X2.length) ?_ ?_ (fun j hj=>by omega)
  ·rw[← hX4];exact (hp1.trans (hp2.trans hp3)).set (by omega) _
  ·rw[← hX4];exact hT3.fr blkF_st (Frm.set _ _ (by omega))
structure CObj (X:Hp) (id g sz:Nat) (css:List (List CV)) (rest:List CV):Prop where
 ob:rdOb X id g=some ⟨css.flatten++rest,g,true,sz⟩
 len:∀ cs∈css,cs.length=sz

theorem CObj.at_ {X:Hp} {id g sz:Nat} {css:List (List CV)} {rest:List CV} (h:CObj X id g sz css rest) {k:Nat} (hk:k<css.length):rdN X id g (k * sz) sz=some css[k]:=by
 obtain⟨h1,h2⟩:=flat_drop h.len (List.getElem?_eq_getElem hk)
 rw[rdN_ob h.ob,if_pos (by simp only[List.length_append];omega)]
 simp only
 rw[List.drop_append,List.take_append_of_le_length (by rw[List.length_drop];omega),h1]

theorem CObj.putc {X:Hp} {id g sz:Nat} {css:List (List CV)} {rest:List CV} (h:CObj X id g sz css rest) {k:Nat} (hk:k<css.length) {cs:List CV} (hc:cs.length=sz) :
  putAt (css.flatten++rest) (k * sz) cs=(css.set k cs).flatten++rest∧k * sz+sz≤(css.flatten++rest).length:=by
 have hlen:=h.len
 clear h
 obtain⟨_,h2⟩:=flat_drop hlen (List.getElem?_eq_getElem hk)
 refine⟨?_,by simp only[List.length_append];omega⟩
 have e:css=css.take k++css[k] :: css.drop (k+1):=by rw[← List.drop_eq_getElem_cons hk,List.take_append_drop]
 have hA:(css.take k).flatten.length=k * sz:=by rw[flat_len (sz:=sz) (fun cs h=>hlen cs (List.mem_of_mem_take h)),List.length_take,Nat.min_eq_left (by omega)]
 have hx:=hlen css[k] (List.getElem_mem hk)
 have e1:css.flatten++rest=(css.take k).flatten++(css[k]++((css.drop (k+1)).flatten++rest)):=by
  have e2:css.flatten=(css.take k++css[k] :: css.drop (k+1)).flatten:=congrArg List.flatten e
  rw[e2];simp only[List.flatten_append,List.flatten_cons,List.append_assoc]
 rw[e1,put_mid hA (hc.trans hx.symm),List.set_eq_take_append_cons_drop,if_pos hk]
 simp

theorem set_leftC {α:Type} {L xs:List α} (h:L.length<xs.length) (a:α):(L++xs.drop L.length).set L.length a=(L++[a])++xs.drop (L.length+1):=by
 have e:(xs.drop L.length).set 0 a=a :: xs.drop (L.length+1):=by rw[List.drop_eq_getElem_cons h];rfl
 rw[List.set_append,if_neg (by omega),Nat.sub_self,e];simp

def leftC {α:Type} (p:α→Bool) (xs:List α) (i:Nat):List α:=(xs.take i).filter fun x=>!p x

theorem leftC_succ {α:Type} {p:α→Bool} {xs:List α} {i:Nat} (hi:i<xs.length):leftC p xs (i+1)=leftC p xs i++(if p xs[i]=true then [] else [xs[i]]):=by
 unfold leftC
 rw[List.take_succ_eq_append_getElem hi,List.filter_append]
 congr 1
 cases h:p xs[i]<;>simp[h]

structure Onl (id:Nat) (X Y:Hp):Prop where
 fr:Frm (fun j=>j≠id) X Y
 len:X.length≤Y.length

theorem Onl.refl (id:Nat) (X:Hp):Onl id X X:=⟨Frm.refl _ _,Nat.le_refl _⟩

theorem Onl.app {id:Nat} {X Y:Hp} (h:Onl id X Y) (L:Hp):Onl id X (Y++L):=⟨h.fr.trans (Frm.app _ _ _),by have:=h.len;simp only[List.length_append];omega⟩

theorem Onl.set {id:Nat} {X Y:Hp} (h:Onl id X Y) (o:Ob):Onl id X (Y.set id o):=⟨h.fr.trans (Frm.set _ _ (by simp)),by have:=h.len;simp;omega⟩

def DelRes (X:Hp) (id g sz:Nat) (ys:List (List CV)) (n:Nat) (r:IV×Hp):Prop:=∃ Z rest',r=(.c (.sl id g 0 ys.length),Z)∧Onl id X Z∧CObj Z id g sz ys rest'∧(ys.flatten++rest').length=n

theorem gc_innerG {X Z:Hp} {id g n:Nat} (hlt:id<X.length):gcRet X (.c (.sl id g 0 n)) Z=(.c (.sl id g 0 n),Z):=by
 unfold gcRet
 split
 ·rw[if_neg (by simp[flatV,flatC])]
  simp only
  rw[if_neg (by omega)]
 ·rfl

theorem indexPhiC {X:Hp} {id g:Nat} {css:List (List CV)} {rest:List CV} (h:CObj X id g 2 css rest) (hb:css.length≤BIG) {fid:Nat} {caps:List CV} (p:List CV→Bool)
  (hp:∀ cs∈css,∀ k:IV×Hp→Prop,CM fid (.agg cs :: caps.map .c) X k=k (.c (.b (p cs)),X)) (k:IV×Hp→Prop) :
  CM 83 [.c (.sl id g 0 css.length),.f fid caps] X k=k (.c (.i (findI p css)),X):=by
 refine det (cw83 ?_) k
 unfold vf83c
 simp
 refine wp_for CM_mono css.length (fun i s=>(∀ j (hj:j<i) (hx:j<css.length),p css[j]=false)∧s.h=X∧Env.get s.e 0=.c (.sl id g 0 css.length)∧Env.get s.e 1=.f fid caps∧Env.get s.e 7=.c (.i css.length)∧Env.get s.e 8=.c (.i i)) (by simp) ?_ ?_
 ·rintro i ⟨e,Y⟩ hi ⟨ht,rfl,h0,h1,h7,h8⟩
  simp only at h0 h1 h7 h8 h hp ⊢
  have hq:=h.at_ hi
  have hwr:=up1 hi hb
  have hpi:=hp _ (List.getElem_mem hi)
  unfold vf83b0
  cases hpx:p css[i] with
  | false =>
   simp[h0,h1,h7,h8,hq,hi,hwr,hpi,hpx]
   intro j hj hx
   by_cases e:j=i
   ·subst e;exact hpx
   ·exact ht j (by omega) hx
  | true =>
   simp[h0,h1,h7,h8,hq,hi,hwr,hpi,hpx,findI_some hi (fun j hj=>ht j hj (by omega)) hpx]
 ·rintro⟨e,Y⟩ ⟨ht,rfl,h0,h1,h7,h8⟩
  simp only at h0 h1 h7 h8 ⊢
  unfold vf83b0
  simp[h0,h1,h7,h8,findI_none (fun j hj=>ht j hj hj)]

theorem deletePhiC {X:Hp} {id g:Nat} {xs:List (List CV)} {rest:List CV} (h:CObj X id g 2 xs rest) (hb:xs.length≤BIG) {fid:Nat} {caps:List CV} (p:List CV→Bool)
  (hp:∀ Y,Onl id X Y→∀ cs∈xs,∀ k:IV×Hp→Prop,CM fid (.agg cs :: caps.map .c) Y k=k (.c (.b (p cs)),Y)) :
  CM 34 [.c (.sl id g 0 xs.length),.f fid caps] X (DelRes X id g 2 (leftC p xs xs.length) (xs.flatten++rest).length):=by
 generalize hN:(xs.flatten++rest).length=N
 refine cw34 ?_
 unfold vf34c
 have hlt:=rdOb_lt h.ob
 have hix:=fun k=>indexPhiC h hb (fid:=fid) (caps:=caps) p (hp X (Onl.refl _ _)) k
 have hlook:∀ i,i≤xs.length→(∀ j (hj:j<i) (hx:j<xs.length),p xs[j]=false)→leftC p xs i=xs.take i:=fun i hi hf=>by
  unfold leftC
  rw[List.filter_eq_self]
  intro x hx
  obtain⟨l,hl,rfl⟩:=List.mem_take_iff_getElem.1 hx
  rw[hf l (by omega) (by omega)];rfl
 cases hany:xs.any p with
 | false =>
  have hf:findI p xs=-1:=by
   cases hd:decide (0≤findI p xs) with
   | true=>rw[findI_nonneg.1 (of_decide_eq_true hd)]at hany;cases hany
   | false =>
    refine findI_none fun j hj=>?_
    rw[List.any_eq_false]at hany
    simpa using hany _ (List.getElem_mem hj)
  have hall:leftC p xs xs.length=xs:=by
   rw[hlook _ (Nat.le_refl _) fun j _ hx=>by
    rw[List.any_eq_false]at hany
    simpa using hany _ (List.getElem_mem hx),List.take_length]
  simp[hix,hf]
  rw[gc_innerG hlt]
  have hd:DelRes X id g 2 xs N (.c (.sl id g 0 xs.length),X):=⟨X,rest,rfl,Onl.refl _ _,h,hN⟩
  rw[hall]
  simpa using hd
 | true =>
  obtain⟨j,hj,hfj,hpj,hbf⟩:∃ j:Nat,∃ hj:j<xs.length,findI p xs=j∧p (xs[j]'hj)=true∧∀ i (hi:i<j),p (xs[i]'(by omega))=false:=by
   have h1:=findI_nonneg.2 hany
   unfold findI at h1 ⊢
   cases hf:xs.findIdx? p with
   | none=>rw[hf]at h1;exact absurd h1 (by decide)
   | some j =>
    rw[List.findIdx?_eq_some_iff_getElem]at hf
    obtain⟨hj,h2,h3⟩:=hf
    exact⟨j,hj,rfl,h2,fun i hi=>by simpa using h3 i hi⟩
  have hl0:leftC p xs (j+1)=xs.take j:=by
   rw[leftC_succ hj,if_pos hpj,List.append_nil,hlook j (by omega) fun l hl hx=>hbf l hl]
  have hmem:∀ n,∀ cs∈leftC p xs n,cs.length=2:=fun n cs hc=>by
   unfold leftC at hc
   exact h.len cs (List.mem_of_mem_take (List.mem_filter.1 hc).1)
  simp[hix,hfj,up1 hj hb,show ¬ ((j:Int)=-1) by omega]
  obtain⟨I,hI⟩:∃ I:Nat→St→Prop,∀ i st,I i st↔(Onl id X st.h∧CObj st.h id g 2 (leftC p xs (j+1+i)++xs.drop (leftC p xs (j+1+i)).length) rest∧(leftC p xs (j+1+i)).length<j+1+i∧Env.get st.e 0=.c (.sl id g 0 xs.length)∧Env.get st.e 1=.f fid caps∧Env.get st.e 5=.c (.i (leftC p xs (j+1+i)).length)∧Env.get st.e 6=.c (.i ((j+1+i:Nat):Int))):=⟨_,fun _ _=>Iff.rfl⟩
  refine wp_for CM_mono (xs.length - (j+1)) I ((hI _ _).2 ⟨Onl.refl _ _,?_,?_,?_⟩) ?_ ?_
  ·simp only[Nat.add_zero,hl0]
   rw[List.length_take,Nat.min_eq_left (by omega),List.take_append_drop];exact h
  ·simp only[Nat.add_zero,hl0,List.length_take];omega
  ·simp[hl0];omega
  ·rintro i ⟨e,Y⟩ hi hIs
   obtain⟨hB,hY,hlen,h0,h1,h5,h6⟩:=(hI _ _).1 hIs
   simp only at hB hY hlen h0 h1 h5 h6 ⊢
   obtain⟨n,hn⟩:∃ n,n=j+1+i:=⟨_,rfl⟩
   have hnl:n<xs.length:=by omega
   rw[← hn]at hY hlen h5 h6
   have hsu:=leftC_succ (p:=p) hnl
   have hme:=hmem n
   generalize hF:leftC p xs n=F at hY hlen h5 hsu hme
   have hFl:F.length<xs.length:=by omega
   have hlm:(F++xs.drop F.length).length=xs.length:=by simp;omega
   have hg:(F++xs.drop F.length)[n]'(by omega)=xs[n]:=by
    rw[List.getElem_append_right (by omega),List.getElem_drop]
    congr 1;omega
   have r1:=hY.at_ (k:=n) (by omega)
   rw[hg]at r1
   have hcl:=h.len _ (List.getElem_mem hnl)
   have hpn:=fun Y' hY'=>hp Y' hY' _ (List.getElem_mem hnl)
   obtain⟨cs,hcs⟩:∃ cs,xs[n]=cs:=⟨_,rfl⟩
   rw[hcs]at r1 hsu hcl hpn
   obtain⟨Y1,hY1⟩:∃ Y1,Y++[(⟨cs,0,true,2⟩:Ob)]=Y1:=⟨_,rfl⟩
   have hlY:=rdOb_lt hY.ob
   have hM1:CObj Y1 id g 2 (F++xs.drop F.length) rest:=by rw[← hY1];exact⟨rdOb_app _ hY.ob,hY.len⟩
   have hB1:Onl id X Y1:=by rw[← hY1];exact hB.app _
   have hlY1:=rdOb_lt hM1.ob
   have hnew:rdN Y1 Y.length 0 0 2=some cs:=by rw[← hY1,rdN_ob (o:=⟨cs,0,true,2⟩) (by simp)];simp[hcl,List.take_of_length_le]
   have en:j+1+(i+1)=n+1:=by omega
   have hp2:putAt [.i 0,.ns] 0 cs=cs:=by
    unfold putAt
    rw[List.drop_eq_nil_of_le (by simp;omega)];simp
   have hpY:=hpn Y1 hB1
   unfold vf34b0
   cases hpx:p cs with
   | true =>
    rw[if_pos hpx,List.append_nil]at hsu
    simp[h0,h1,h5,h6,hnl,idxOf,r1,hp2,hcl,hY1,hnew,hpY,hpx,up1 hnl hb]
    exact (hI _ _).2 ⟨hB1,by rw[en,hsu];exact hM1,by rw[en,hsu];omega,by simp[h0,h1,h5,en,hsu]⟩
   | false =>
    rw[if_neg (by simp[hpx])]at hsu
    obtain⟨w1,w2⟩:=hM1.putc (k:=F.length) (by omega) hcl
    rw[set_leftC hFl]at w1
    have hM1':=hM1.ob
    generalize hcc:(F++xs.drop F.length).flatten++rest=cc at w1 w2 hM1'
    simp[h0,h1,h5,h6,hnl,hFl,idxOf,r1,hp2,hcl,hY1,hnew,hpY,hpx,hM1',w1,w2,up1 hnl hb,up1 hFl hb]
    refine (hI _ _).2 ⟨hB1.set _,?_,by rw[en,hsu];simp;omega,by simp[en,hsu,h0,h1]⟩
    rw[en,hsu,show (F++[cs]).length=F.length+1 by simp]
    refine⟨?_,fun q hq=>?_⟩
    ·show rdOb (Y1.set id _) id g=_
     rw[rdOb_set_self hlY1];simp
    ·rcases List.mem_append.1 hq with hq | hq
     ·rcases List.mem_append.1 hq with hq | hq
      ·exact hme q hq
      ·simp at hq;rw[hq];exact hcl
     ·exact h.len q (List.mem_of_mem_drop hq)
  ·rintro⟨e,Y⟩ hIs
   obtain⟨hB,hY,hlen,h0,h1,h5,h6⟩:=(hI _ _).1 hIs
   simp only at hB hY hlen h0 h1 h5 h6 ⊢
   rw[show j+1+(xs.length - (j+1))=xs.length by omega]at hY hlen h5 h6
   have hme:=hmem xs.length
   generalize hF:leftC p xs xs.length=F at hY hlen h5 hme
   have hlY:=rdOb_lt hY.ob
   have hcl:F.flatten.length=F.length * 2:=flat_len hme
   have hdl:(xs.drop F.length).flatten.length=(xs.length - F.length) * 2:=by rw[flat_len (sz:=2) (fun cs h'=>h.len cs (List.mem_of_mem_drop h')),List.length_drop]
   have hxl:xs.flatten.length=xs.length * 2:=flat_len h.len
   obtain⟨zs,hzs⟩:∃ zs:List CV,(List.replicate (xs.length - F.length) [CV.i 0,CV.ns]).flatten=zs:=⟨_,rfl⟩
   have hzl:zs.length=(xs.length - F.length) * 2:=by rw[← hzs];simp
   have hYo:=hY.ob
   have hall:((F++xs.drop F.length).flatten++rest).length=xs.length * 2+rest.length:=by rw[List.flatten_append,List.length_append,List.length_append,hcl,hdl];omega
   have hput:putAt ((F++xs.drop F.length).flatten++rest) (F.length * 2) zs=F.flatten++(zs++rest):=by
    rw[List.flatten_append,List.append_assoc]
    exact put_mid hcl (by rw[hzl,hdl])
   have hle:F.length * 2+(xs.length - F.length) * 2≤((F++xs.drop F.length).flatten++rest).length:=by rw[hall];omega
   generalize hcs:(F++xs.drop F.length).flatten++rest=cs at hYo hput hle
   have hs1:doSlice Y 2 (.sl id g 0 xs.length) (some (.c (.i (F.length:Int)))) none=some (.c (.sl id g (F.length * 2) (xs.length - F.length))):=by
    simp[doSlice,hYo]<;>omega
   have hs2:doSlice (Y.set id ⟨F.flatten++(zs++rest),g,true,2⟩) 2 (.sl id g 0 xs.length) none (some (.c (.i (F.length:Int))))=some (.c (.sl id g 0 F.length)):=by
    simp[doSlice,rdOb_set_self hlY]<;>omega
   unfold vf34b0
   simp[h0,h1,h5,h6,hs1,hYo,hzs,hle,hput,hs2]
   rw[gc_innerG hlt]
   refine⟨_,zs++rest,rfl,hB.set _,⟨?_,hme⟩,?_⟩
   ·show rdOb (Y.set id _) id g=_
    rw[rdOb_set_self hlY];simp
   ·rw[← hN,List.length_append,List.length_append,List.length_append,hcl,hzl,hxl];omega

theorem indexInsC {X:Hp} {id g:Nat} {css:List (List CV)} {rest:List CV} (h:CObj X id g 5 css rest) (hb:css.length≤BIG) {fid:Nat} {caps:List CV} (p:List CV→Bool)
  (hp:∀ cs∈css,∀ k:IV×Hp→Prop,CM fid (.agg cs :: caps.map .c) X k=k (.c (.b (p cs)),X)) (k:IV×Hp→Prop) :
  CM 84 [.c (.sl id g 0 css.length),.f fid caps] X k=k (.c (.i (findI p css)),X):=by
 refine det (cw84 ?_) k
 unfold vf84c
 simp
 refine wp_for CM_mono css.length (fun i s=>(∀ j (hj:j<i) (hx:j<css.length),p css[j]=false)∧s.h=X∧Env.get s.e 0=.c (.sl id g 0 css.length)∧Env.get s.e 1=.f fid caps∧Env.get s.e 7=.c (.i css.length)∧Env.get s.e 8=.c (.i i)) (by simp) ?_ ?_
 ·rintro i ⟨e,Y⟩ hi ⟨ht,rfl,h0,h1,h7,h8⟩
  simp only at h0 h1 h7 h8 h hp ⊢
  have hq:=h.at_ hi
  have hwr:=up1 hi hb
  have hpi:=hp _ (List.getElem_mem hi)
  unfold vf84b0
  cases hpx:p css[i] with
  | false =>
   simp[h0,h1,h7,h8,hq,hi,hwr,hpi,hpx]
   intro j hj hx
   by_cases e:j=i
   ·subst e;exact hpx
   ·exact ht j (by omega) hx
  | true =>
   simp[h0,h1,h7,h8,hq,hi,hwr,hpi,hpx,findI_some hi (fun j hj=>ht j hj (by omega)) hpx]
 ·rintro⟨e,Y⟩ ⟨ht,rfl,h0,h1,h7,h8⟩
  simp only at h0 h1 h7 h8 ⊢
  unfold vf84b0
  simp[h0,h1,h7,h8,findI_none (fun j hj=>ht j hj hj)]

theorem deleteInsC {X:Hp} {id g:Nat} {xs:List (List CV)} {rest:List CV} (h:CObj X id g 5 xs rest) (hb:xs.length≤BIG) {fid:Nat} {caps:List CV} (p:List CV→Bool)
  (hp:∀ Y,Onl id X Y→∀ cs∈xs,∀ k:IV×Hp→Prop,CM fid (.agg cs :: caps.map .c) Y k=k (.c (.b (p cs)),Y)) :
  CM 36 [.c (.sl id g 0 xs.length),.f fid caps] X (DelRes X id g 5 (leftC p xs xs.length) (xs.flatten++rest).length):=by
 generalize hN:(xs.flatten++rest).length=N
 refine cw36 ?_
 unfold vf36c
 have hlt:=rdOb_lt h.ob
 have hix:=fun k=>indexInsC h hb (fid:=fid) (caps:=caps) p (hp X (Onl.refl _ _)) k
 have hlook:∀ i,i≤xs.length→(∀ j (hj:j<i) (hx:j<xs.length),p xs[j]=false)→leftC p xs i=xs.take i:=fun i hi hf=>by
  unfold leftC
  rw[List.filter_eq_self]
  intro x hx
  obtain⟨l,hl,rfl⟩:=List.mem_take_iff_getElem.1 hx
  rw[hf l (by omega) (by omega)];rfl
 cases hany:xs.any p with
 | false =>
  have hf:findI p xs=-1:=by
   cases hd:decide (0≤findI p xs) with
   | true=>rw[findI_nonneg.1 (of_decide_eq_true hd)]at hany;cases hany
   | false =>
    refine findI_none fun j hj=>?_
    rw[List.any_eq_false]at hany
    simpa using hany _ (List.getElem_mem hj)
  have hall:leftC p xs xs.length=xs:=by
   rw[hlook _ (Nat.le_refl _) fun j _ hx=>by
    rw[List.any_eq_false]at hany
    simpa using hany _ (List.getElem_mem hx),List.take_length]
  simp[hix,hf]
  rw[gc_innerG hlt]
  have hd:DelRes X id g 5 xs N (.c (.sl id g 0 xs.length),X):=⟨X,rest,rfl,Onl.refl _ _,h,hN⟩
  rw[hall]
  simpa using hd
 | true =>
  obtain⟨j,hj,hfj,hpj,hbf⟩:∃ j:Nat,∃ hj:j<xs.length,findI p xs=j∧p (xs[j]'hj)=true∧∀ i (hi:i<j),p (xs[i]'(by omega))=false:=by
   have h1:=findI_nonneg.2 hany
   unfold findI at h1 ⊢
   cases hf:xs.findIdx? p with
   | none=>rw[hf]at h1;exact absurd h1 (by decide)
   | some j =>
    rw[List.findIdx?_eq_some_iff_getElem]at hf
    obtain⟨hj,h2,h3⟩:=hf
    exact⟨j,hj,rfl,h2,fun i hi=>by simpa using h3 i hi⟩
  have hl0:leftC p xs (j+1)=xs.take j:=by
   rw[leftC_succ hj,if_pos hpj,List.append_nil,hlook j (by omega) fun l hl hx=>hbf l hl]
  have hmem:∀ n,∀ cs∈leftC p xs n,cs.length=5:=fun n cs hc=>by
   unfold leftC at hc
   exact h.len cs (List.mem_of_mem_take (List.mem_filter.1 hc).1)
  simp[hix,hfj,up1 hj hb,show ¬ ((j:Int)=-1) by omega]
  obtain⟨I,hI⟩:∃ I:Nat→St→Prop,∀ i st,I i st↔(Onl id X st.h∧CObj st.h id g 5 (leftC p xs (j+1+i)++xs.drop (leftC p xs (j+1+i)).length) rest∧(leftC p xs (j+1+i)).length<j+1+i∧Env.get st.e 0=.c (.sl id g 0 xs.length)∧Env.get st.e 1=.f fid caps∧Env.get st.e 5=.c (.i (leftC p xs (j+1+i)).length)∧Env.get st.e 6=.c (.i ((j+1+i:Nat):Int))):=⟨_,fun _ _=>Iff.rfl⟩
  refine wp_for CM_mono (xs.length - (j+1)) I ((hI _ _).2 ⟨Onl.refl _ _,?_,?_,?_⟩) ?_ ?_
  ·simp only[Nat.add_zero,hl0]
   rw[List.length_take,Nat.min_eq_left (by omega),List.take_append_drop];exact h
  ·simp only[Nat.add_zero,hl0,List.length_take];omega
  ·simp[hl0];omega
  ·rintro i ⟨e,Y⟩ hi hIs
   obtain⟨hB,hY,hlen,h0,h1,h5,h6⟩:=(hI _ _).1 hIs
   simp only at hB hY hlen h0 h1 h5 h6 ⊢
   obtain⟨n,hn⟩:∃ n,n=j+1+i:=⟨_,rfl⟩
   have hnl:n<xs.length:=by omega
   rw[← hn]at hY hlen h5 h6
   have hsu:=leftC_succ (p:=p) hnl
   have hme:=hmem n
   generalize hF:leftC p xs n=F at hY hlen h5 hsu hme
   have hFl:F.length<xs.length:=by omega
   have hlm:(F++xs.drop F.length).length=xs.length:=by simp;omega
   have hg:(F++xs.drop F.length)[n]'(by omega)=xs[n]:=by
    rw[List.getElem_append_right (by omega),List.getElem_drop]
    congr 1;omega
   have r1:=hY.at_ (k:=n) (by omega)
   rw[hg]at r1
   have hcl:=h.len _ (List.getElem_mem hnl)
   have hpn:=fun Y' hY'=>hp Y' hY' _ (List.getElem_mem hnl)
   obtain⟨cs,hcs⟩:∃ cs,xs[n]=cs:=⟨_,rfl⟩
   rw[hcs]at r1 hsu hcl hpn
   obtain⟨Y1,hY1⟩:∃ Y1,Y++[(⟨cs,0,true,5⟩:Ob)]=Y1:=⟨_,rfl⟩
   have hlY:=rdOb_lt hY.ob
   have hM1:CObj Y1 id g 5 (F++xs.drop F.length) rest:=by rw[← hY1];exact⟨rdOb_app _ hY.ob,hY.len⟩
   have hB1:Onl id X Y1:=by rw[← hY1];exact hB.app _
   have hlY1:=rdOb_lt hM1.ob
   have hnew:rdN Y1 Y.length 0 0 5=some cs:=by rw[← hY1,rdN_ob (o:=⟨cs,0,true,5⟩) (by simp)];simp[hcl,List.take_of_length_le]
   have en:j+1+(i+1)=n+1:=by omega
   have hp2:putAt [.i 0,.i 0,.i 0,.i 0,.i 0] 0 cs=cs:=by
    unfold putAt
    rw[List.drop_eq_nil_of_le (by simp;omega)];simp
   have hpY:=hpn Y1 hB1
   unfold vf36b0
   cases hpx:p cs with
   | true =>
    rw[if_pos hpx,List.append_nil]at hsu
    simp[h0,h1,h5,h6,hnl,idxOf,r1,hp2,hcl,hY1,hnew,hpY,hpx,up1 hnl hb]
    exact (hI _ _).2 ⟨hB1,by rw[en,hsu];exact hM1,by rw[en,hsu];omega,by simp[h0,h1,h5,en,hsu]⟩
   | false =>
    rw[if_neg (by simp[hpx])]at hsu
    obtain⟨w1,w2⟩:=hM1.putc (k:=F.length) (by omega) hcl
    rw[set_leftC hFl]at w1
    have hM1':=hM1.ob
    generalize hcc:(F++xs.drop F.length).flatten++rest=cc at w1 w2 hM1'
    simp[h0,h1,h5,h6,hnl,hFl,idxOf,r1,hp2,hcl,hY1,hnew,hpY,hpx,hM1',w1,w2,up1 hnl hb,up1 hFl hb]
    refine (hI _ _).2 ⟨hB1.set _,?_,by rw[en,hsu];simp;omega,by simp[en,hsu,h0,h1]⟩
    rw[en,hsu,show (F++[cs]).length=F.length+1 by simp]
    refine⟨?_,fun q hq=>?_⟩
    ·show rdOb (Y1.set id _) id g=_
     rw[rdOb_set_self hlY1];simp
    ·rcases List.mem_append.1 hq with hq | hq
     ·rcases List.mem_append.1 hq with hq | hq
      ·exact hme q hq
      ·simp at hq;rw[hq];exact hcl
     ·exact h.len q (List.mem_of_mem_drop hq)
  ·rintro⟨e,Y⟩ hIs
   obtain⟨hB,hY,hlen,h0,h1,h5,h6⟩:=(hI _ _).1 hIs
   simp only at hB hY hlen h0 h1 h5 h6 ⊢
   rw[show j+1+(xs.length - (j+1))=xs.length by omega]at hY hlen h5 h6
   have hme:=hmem xs.length
   generalize hF:leftC p xs xs.length=F at hY hlen h5 hme
   have hlY:=rdOb_lt hY.ob
   have hcl:F.flatten.length=F.length * 5:=flat_len hme
   have hdl:(xs.drop F.length).flatten.length=(xs.length - F.length) * 5:=by rw[flat_len (sz:=5) (fun cs h'=>h.len cs (List.mem_of_mem_drop h')),List.length_drop]
   have hxl:xs.flatten.length=xs.length * 5:=flat_len h.len
   obtain⟨zs,hzs⟩:∃ zs:List CV,(List.replicate (xs.length - F.length) [CV.i 0,CV.i 0,CV.i 0,CV.i 0,CV.i 0]).flatten=zs:=⟨_,rfl⟩
   have hzl:zs.length=(xs.length - F.length) * 5:=by rw[← hzs];simp
   have hYo:=hY.ob
   have hall:((F++xs.drop F.length).flatten++rest).length=xs.length * 5+rest.length:=by rw[List.flatten_append,List.length_append,List.length_append,hcl,hdl];omega
   have hput:putAt ((F++xs.drop F.length).flatten++rest) (F.length * 5) zs=F.flatten++(zs++rest):=by
    rw[List.flatten_append,List.append_assoc]
    exact put_mid hcl (by rw[hzl,hdl])
   have hle:F.length * 5+(xs.length - F.length) * 5≤((F++xs.drop F.length).flatten++rest).length:=by rw[hall];omega
   generalize hcs:(F++xs.drop F.length).flatten++rest=cs at hYo hput hle
   have hs1:doSlice Y 5 (.sl id g 0 xs.length) (some (.c (.i (F.length:Int)))) none=some (.c (.sl id g (F.length * 5) (xs.length - F.length))):=by
    simp[doSlice,hYo]<;>omega
   have hs2:doSlice (Y.set id ⟨F.flatten++(zs++rest),g,true,5⟩) 5 (.sl id g 0 xs.length) none (some (.c (.i (F.length:Int))))=some (.c (.sl id g 0 F.length)):=by
    simp[doSlice,rdOb_set_self hlY]<;>omega
   unfold vf36b0
   simp[h0,h1,h5,h6,hs1,hYo,hzs,hle,hput,hs2]
   rw[gc_innerG hlt]
   refine⟨_,zs++rest,rfl,hB.set _,⟨?_,hme⟩,?_⟩
   ·show rdOb (Y.set id _) id g=_
    rw[rdOb_set_self hlY];simp
   ·rw[← hN,List.length_append,List.length_append,List.length_append,hcl,hzl,hxl];omega
theorem p20 (a b x:CV):putAt [a,b] 0 [x]=[x,b]:=rfl

theorem p21 (a b x:CV):putAt [a,b] 1 [x]=[a,x]:=rfl

theorem p22 (a b x y:CV):putAt [a,b] 0 [x,y]=[x,y]:=rfl

theorem map_range_getD {α:Type} (xs:List α) (x0:α):(List.range xs.length).map (fun k=>xs.getD k x0)=xs:=by
 apply List.ext_getElem (by simp)
 intro i h1 h2
 simp[List.getD_eq_getElem?_getD,h2]

section

variable {α:Type} {P:Hp→List CV→α→(Nat→Prop)→Prop} {sz:Nat} {X Z:Hp} {id g:Nat} {cells:List CV} {xs:List α} {F:Nat→Prop} {Fs:Nat→Nat→Prop}

theorem FPc.cobj (h:FPc P sz X id g cells xs F Fs):CObj X id g sz ((List.range xs.length).map (chk cells sz)) (cells.drop (xs.length * sz)):=by
 obtain⟨m,h1,h2⟩:=h.len
 have hm:xs.length * sz≤m * sz:=Nat.mul_le_mul_right _ h2
 refine⟨?_,fun cs hc=>?_⟩
 ·rw[chks_flat _ _ _ (by omega),List.take_append_drop];exact h.ob
 ·obtain⟨k,hk,rfl⟩:=List.mem_map.1 hc
  exact chk_len (h.fit (List.mem_range.1 hk))

theorem FPc.thin (hP:Stab P) (h:FPc P sz X id g cells xs F Fs) {p:List CV→Bool} {q:α→Bool} (hq:∀ k (hk:k<xs.length),p (chk cells sz k)=q xs[k]) (hZ:Onl id X Z) {rest:List CV}
  (hc:CObj Z id g sz (leftC p ((List.range xs.length).map (chk cells sz)) ((List.range xs.length).map (chk cells sz)).length) rest)
  (hl:((leftC p ((List.range xs.length).map (chk cells sz)) ((List.range xs.length).map (chk cells sz)).length).flatten++rest).length=cells.length) :
  FRow P sz Z (.sl id g 0 (leftC p ((List.range xs.length).map (chk cells sz)) ((List.range xs.length).map (chk cells sz)).length).length) (xs.filter fun x=>!q x) F:=by
 obtain⟨ix,hix⟩:∃ ix,(List.range xs.length).filter (fun k=>!p (chk cells sz k))=ix:=⟨_,rfl⟩
 have hixl:∀ k∈ix,k<xs.length:=fun k hk=>by rw[← hix]at hk;exact List.mem_range.1 (List.mem_filter.1 hk).1
 have hnd:ix.Nodup:=by rw[← hix];exact List.nodup_range.filter _
 have e1:leftC p ((List.range xs.length).map (chk cells sz)) ((List.range xs.length).map (chk cells sz)).length=ix.map (chk cells sz):=by
  unfold leftC
  rw[List.take_length,List.filter_map,← hix];rfl
 rw[e1]at hc hl ⊢
 rw[List.length_map]
 rcases Nat.eq_zero_or_pos xs.length with h0 | h0
 ·have hx:xs=[]:=List.length_eq_zero_iff.1 h0
  subst hx
  have hi:ix=[]:=by rw[← hix];rfl
  subst hi
  have hlt:=rdOb_lt hc.ob
  refine .inr ⟨id,g,_,fun _ _=>False,rfl,⟨hc.ob,?_,h.own,fun k i hk=>absurd hk (by simp),fun j k i hj=>absurd hj (by simp),fun k hk=>absurd hk (by simp)⟩⟩
  obtain⟨m,h1,h2⟩:=h.len
  exact⟨m,by rw[hl];exact h1,by simp⟩
 ·have e2:xs.filter (fun x=>!q x)=ix.map (fun k=>xs.getD k xs[0]):=by
   have e3:=map_range_getD xs xs[0]
   have e4:((List.range xs.length).map (fun k=>xs.getD k xs[0])).filter (fun x=>!q x)=((List.range xs.length).filter (fun k=>!p (chk cells sz k))).map (fun k=>xs.getD k xs[0]):=by
    rw[List.filter_map]
    congr 1
    apply List.filter_congr
    intro k hk
    have hk:=List.mem_range.1 hk
    rw[hq k hk]
    simp[List.getD_eq_getElem?_getD,hk]
   rw[e3,hix]at e4
   exact e4
  have hlen:(xs.filter fun x=>!q x).length=ix.length:=by rw[e2,List.length_map]
  have hfm:∀ k (hk:k<ix.length),chk ((ix.map (chk cells sz)).flatten++rest) sz k=chk cells sz ix[k]:=fun k hk=>by
   have hm:∀ cs∈ix.map (chk cells sz),cs.length=sz:=hc.len
   have h2:=chunk hm (k:=k) (by simpa using hk)
   have hfit:k * sz+sz≤(ix.map (chk cells sz)).flatten.length:=by
    rw[flat_len hm,List.length_map,← Nat.succ_mul]
    exact Nat.mul_le_mul_right _ hk
   rw[chk_app hfit]
   unfold chk at h2 ⊢
   rw[h2];simp
  refine .inr ⟨id,g,_,fun k i=>∃ hk:k<ix.length,Fs ix[k] i,by rw[hlen],⟨hc.ob,?_,h.own,fun k i hk hi=>?_,fun j k i hj hk hjk h1 h2=>?_,fun k hk=>?_⟩⟩
  ·obtain⟨m,h1,h2⟩:=h.len
   refine⟨m,by rw[hl];exact h1,Nat.le_trans ?_ h2⟩
   exact List.length_filter_le _ _
  ·obtain⟨hk',hi⟩:=hi
   obtain⟨a,b,c⟩:=h.sub _ i (hixl _ (List.getElem_mem hk')) hi
   exact⟨a,b,Nat.lt_of_lt_of_le c hZ.len⟩
  ·obtain⟨hj',h1⟩:=h1
   obtain⟨hk',h2⟩:=h2
   refine h.dis _ _ i (hixl _ (List.getElem_mem hj')) (hixl _ (List.getElem_mem hk')) (fun e=>hjk ?_) h1 h2
   apply Classical.byContradiction
   intro hne
   rcases Nat.lt_or_gt_of_ne hne with hlt | hlt
   ·exact List.pairwise_iff_getElem.1 hnd _ _ hj' hk' hlt e
   ·exact List.pairwise_iff_getElem.1 hnd _ _ hk' hj' hlt e.symm
  ·have hk':k<ix.length:=by rw[← hlen];exact hk
   have hkl:=hixl _ (List.getElem_mem hk')
   rw[hfm k hk']
   have e5:(xs.filter fun x=>!q x)[k]=xs[ix[k]]:=by
    have:(xs.filter fun x=>!q x)[k]? = some xs[ix[k]]:=by
     rw[e2,List.getElem?_map,List.getElem?_eq_getElem hk']
     simp[List.getD_eq_getElem?_getD,hkl]
    rw[List.getElem?_eq_getElem hk]at this
    injection this
   rw[e5]
   have hel:=h.el _ hkl
   have e6:(fun i=>∃ hk:k<ix.length,Fs ix[k] i)=Fs ix[k]:=by
    funext i
    exact propext ⟨fun ⟨_,h⟩=>h,fun h=>⟨hk',h⟩⟩
   rw[e6]
   exact hP.st (hZ.fr.mono fun i hi=>(h.sub _ i hkl hi).2.1) hel

end

theorem Tree.phisH {S:Nat→Prop} {X:Hp} {v:CV} {bs:List BlkR} {b:Nat} (h:Tree S X v bs) (hb:b<bs.length) :
  ∃ id g cells z u,∃ Gz:Nat→Prop,idxOf 6 v (b:Int)=some (.p id g (b * 6))∧rdOb X id g=some ⟨cells,g,true,6⟩∧b * 6+6≤cells.length∧rdN X id g (b * 6) 6=some (z :: u :: trmC bs[b].term)∧rdC X id g (b * 6)=some z∧FRow phiF 2 X z bs[b].phis Gz∧(∀ j,Gz j→S j∧j<X.length∧j≠id)∧S id∧bs[b].phis.length≤BIG ∧
   ∀ Y ps z' (Gz':Nat→Prop),X.length≤Y.length→Frm (fun j=>S j∧¬ Gz j) X Y→FRow phiF 2 Y z' ps Gz'→(∀ j,Gz' j→Gz j∨(X.length≤j∧S j∧j<Y.length))→ps.length≤BIG →
    rdOb Y id g=some ⟨cells,g,true,6⟩∧Tree S (Y.set id ⟨putAt cells (b * 6) [z'],g,true,6⟩) v (bs.set b ⟨ps,bs[b].list,bs[b].term⟩):=by
 obtain⟨id,g,cells,Fs,z,u,Gz,Gu,rfl,hc,h1,h2,h3,h4,h5,h6,h7⟩:=h.at_ hb
 clear h
 have hsub:∀ j,Gz j→S j∧j<X.length∧j≠id:=fun j hj=>⟨(hc.sub b j hb (h4 j hj).1).1,(hc.sub b j hb (h4 j hj).1).2.2,(hc.sub b j hb (h4 j hj).1).2.1⟩
 have hlt:=hc.lt
 refine⟨id,g,cells,z,u,Gz,idx_sl hb,hc.ob,hc.fit hb,by rw[hc.nn hb,h1],?_,h2,hsub,hc.own,h6,fun Y ps z' Gz' hl hf hr hg hlb=>?_⟩
 ·have:=hc.c (k:=b) (j:=0) (by omega)
  rw[Nat.add_zero]at this
  rw[this,h1];rfl
 ·have hob:rdOb Y id g=some ⟨cells,g,true,6⟩:=hf.ob ⟨hc.own,fun h=>(hsub id h).2.2 rfl⟩ hc.ob
  refine⟨hob,?_⟩
  obtain⟨Y',hY'⟩:∃ Y',Y.set id ⟨putAt cells (b * 6) [z'],g,true,6⟩=Y':=⟨_,rfl⟩
  have hfs:∀ G:Nat→Prop,¬ G id→Frm G Y Y':=fun G hG=>by rw[← hY'];exact Frm.set Y _ hG
  have hl':Y'.length=Y.length:=by rw[← hY'];simp
  rw[hY']
  have:=(hc.put blkF_st hb (j:=0) (ys:=[z']) (x':=⟨ps,bs[b].list,bs[b].term⟩) (G':=fun i=>Fs b i∨(X.length≤i∧S i∧i<Y.length)) (Y:=Y') (by simp) (by rw[Nat.add_zero,← hY',rdOb_set_self (rdOb_lt hob)];simp)
   ((hf.mono fun j hj=>⟨hj.1,fun h=>hj.2.2 (h4 j h).1⟩).trans (hfs _ fun hn=>hn.2.1 rfl))
   (fun i hi=>by
    rcases hi with hi | hi
    ·have:=hc.sub b i hb hi
     exact⟨this.1,this.2.1,by omega,.inl hi⟩
    ·exact⟨hi.2.1,by omega,by omega,.inr hi.1⟩)
   (by
    rw[h1]
    refine⟨z',u,Gz',Gu,rfl,hr.fr phiF_st (hfs _ fun hn=>?_),(h3.fr insF_st (hf.mono fun j hj=>⟨(hc.sub b j hb (h5 j hj)).1,fun h=>(h4 j h).2 hj⟩)).fr insF_st (hfs _ fun hn=>(hc.sub b id hb (h5 id hn)).2.1 rfl),fun i hi=>?_,fun i hi=>.inl (h5 i hi),hlb,h7⟩
    ·rcases hg id hn with h | h
     ·exact (hsub id h).2.2 rfl
     ·omega
    ·rcases hg i hi with h | h
     ·exact⟨.inl (h4 i h).1,(h4 i h).2⟩
     ·exact⟨.inr h,fun hu=>by have:=(hc.sub b i hb (h5 i hu)).2.2;omega⟩)).row
  simpa using this

theorem Tree.listH {S:Nat→Prop} {X:Hp} {v:CV} {bs:List BlkR} {b:Nat} (h:Tree S X v bs) (hb:b<bs.length) :
  ∃ id g cells z u,∃ Gu:Nat→Prop,idxOf 6 v (b:Int)=some (.p id g (b * 6))∧rdOb X id g=some ⟨cells,g,true,6⟩∧b * 6+6≤cells.length∧rdN X id g (b * 6) 6=some (z :: u :: trmC bs[b].term)∧rdC X id g (b * 6+1)=some u∧FRow insF 5 X u bs[b].list Gu∧(∀ j,Gu j→S j∧j<X.length∧j≠id)∧S id∧bs[b].list.length≤BIG ∧
   ∀ Y ls u' (Gu':Nat→Prop),X.length≤Y.length→Frm (fun j=>S j∧¬ Gu j) X Y→FRow insF 5 Y u' ls Gu'→(∀ j,Gu' j→Gu j∨(X.length≤j∧S j∧j<Y.length))→ls.length≤BIG →
    rdOb Y id g=some ⟨cells,g,true,6⟩∧Tree S (Y.set id ⟨putAt cells (b * 6+1) [u'],g,true,6⟩) v (bs.set b ⟨bs[b].phis,ls,bs[b].term⟩):=by
 obtain⟨id,g,cells,Fs,z,u,Gz,Gu,rfl,hc,h1,h2,h3,h4,h5,h6,h7⟩:=h.at_ hb
 clear h
 have hsub:∀ j,Gu j→S j∧j<X.length∧j≠id:=fun j hj=>⟨(hc.sub b j hb (h5 j hj)).1,(hc.sub b j hb (h5 j hj)).2.2,(hc.sub b j hb (h5 j hj)).2.1⟩
 have hlt:=hc.lt
 refine⟨id,g,cells,z,u,Gu,idx_sl hb,hc.ob,hc.fit hb,by rw[hc.nn hb,h1],by rw[hc.c (by omega),h1];rfl,h3,hsub,hc.own,h7,fun Y ls u' Gu' hl hf hr hg hlb=>?_⟩
 have hob:rdOb Y id g=some ⟨cells,g,true,6⟩:=hf.ob ⟨hc.own,fun h=>(hsub id h).2.2 rfl⟩ hc.ob
 refine⟨hob,?_⟩
 obtain⟨Y',hY'⟩:∃ Y',Y.set id ⟨putAt cells (b * 6+1) [u'],g,true,6⟩=Y':=⟨_,rfl⟩
 have hfs:∀ G:Nat→Prop,¬ G id→Frm G Y Y':=fun G hG=>by rw[← hY'];exact Frm.set Y _ hG
 have hl':Y'.length=Y.length:=by rw[← hY'];simp
 rw[hY']
 have:=(hc.put blkF_st hb (j:=1) (ys:=[u']) (x':=⟨bs[b].phis,ls,bs[b].term⟩) (G':=fun i=>Fs b i∨(X.length≤i∧S i∧i<Y.length)) (Y:=Y') (by simp) (by rw[← hY',rdOb_set_self (rdOb_lt hob)];simp)
  ((hf.mono fun j hj=>⟨hj.1,fun h=>hj.2.2 (h5 j h)⟩).trans (hfs _ fun hn=>hn.2.1 rfl))
  (fun i hi=>by
   rcases hi with hi | hi
   ·have:=hc.sub b i hb hi
    exact⟨this.1,this.2.1,by omega,.inl hi⟩
   ·exact⟨hi.2.1,by omega,by omega,.inr hi.1⟩)
  (by
   rw[h1]
   refine⟨z,u',Gz,Gu',rfl,(h2.fr phiF_st (hf.mono fun j hj=>⟨(hc.sub b j hb (h4 j hj).1).1,fun h=>(h4 j hj).2 h⟩)).fr phiF_st (hfs _ fun hn=>(hc.sub b id hb (h4 id hn).1).2.1 rfl),hr.fr insF_st (hfs _ fun hn=>?_),fun i hi=>⟨.inl (h4 i hi).1,fun hu=>?_⟩,fun i hi=>?_,h6,hlb⟩
   ·rcases hg id hn with h | h
    ·exact (hsub id h).2.2 rfl
    ·omega
   ·rcases hg i hu with h | h
    ·exact (h4 i hi).2 h
    ·have:=(hc.sub b i hb (h4 i hi).1).2.2;omega
   ·rcases hg i hi with h | h
    ·exact .inl (h5 i h)
    ·exact .inr h)).row
 simpa using this
end Go.Proofs.YtiecgmmaihckeaaGreat.Vm
