/- A part of the proof: the machine and the walks. No conditions. -/
import Derived.Test.YtiecgmmaihckeaaGreatW7
namespace Go.Proofs.YtiecgmmaihckeaaGreat.Vm
open Go.RowKit (wrap64)
set_option linter.unusedSimpArgs false
set_option linter.unusedVariables false
set_option maxRecDepth 100000
theorem IsL.getD {H:Hp} {v:CV} {xs:List Bool} (h:IsL H v xs) {k:Nat} (hk:k<xs.length):∃ id g off,idxOf 1 v (k:Int)=some (.p id g off)∧rdC H id g off=some (.b (xs.getD k false)):=by
 obtain⟨id,g,off,h1,h2⟩:=h.at_ hk
 exact⟨id,g,off,h1,by rw[h2,getD_at hk]⟩

theorem prune1 {Y:Hp} {a:Nat} {ul:CV} {us:List Bool} {d:Int} {w:CV} (h:rdOb Y a 0=some ⟨[ul],0,true,1⟩) (hus:IsL Y ul us) (hd:∃ k:Nat,d=k∧k<us.length) (K:IV×Hp→Prop) :
  CM 35 [.agg [.i d,w],.c (.p a 0 0)] Y K=K (.c (.b (!us.getD d.toNat false)),Y):=by
 obtain⟨k,rfl,hk⟩:=hd
 refine det (cw35 ?_) K
 unfold vf35c
 obtain⟨X1,hX1⟩:∃ X1,Y++[(⟨[.i (k:Int),w],0,true,2⟩:Ob)]=X1:=⟨_,rfl⟩
 have hp:Pre Y X1:=⟨_,hX1.symm⟩
 have h1:=hp.rdOb h
 have h2:rdOb X1 Y.length 0=some ⟨[.i (k:Int),w],0,true,2⟩:=by rw[← hX1];simp
 have hus1:IsL X1 ul us:=Sl.pre hp hus
 obtain⟨id,g,off,q1,q2⟩:=hus1.getD hk
 cases hb:us.getD k false<;>rw[hb]at q2<;>simp[hX1,rdC_ob h1,rdC_ob h2,q1,q2]<;>(rw[gcRet_flat hp rfl];simp at hb;simp[hb])

theorem prune2 {Y:Hp} {a:Nat} {ul:CV} {us:List Bool} {x:InsR} (h:rdOb Y a 0=some ⟨[ul],0,true,1⟩) (hus:IsL Y ul us) (hd:0≤insDefF x→∃ k:Nat,insDefF x=k∧k<us.length) (K:IV×Hp→Prop) :
  CM 37 [.agg [.i x.op,.i x.d,.i x.a,.i x.b,.i x.n],.c (.p a 0 0)] Y K=K (.c (.b (dropX us x)),Y):=by
 refine det (cw37 ?_) K
 unfold vf37c
 obtain⟨X1,hX1⟩:∃ X1,Y++[(⟨[.i x.op,.i x.d,.i x.a,.i x.b,.i x.n],0,true,5⟩:Ob)]=X1:=⟨_,rfl⟩
 have hp:Pre Y X1:=⟨_,hX1.symm⟩
 have h1:=hp.rdOb h
 have h2:rdOb X1 Y.length 0=some ⟨[.i x.op,.i x.d,.i x.a,.i x.b,.i x.n],0,true,5⟩:=by rw[← hX1];simp
 have hus1:IsL X1 ul us:=Sl.pre hp hus
 unfold dropX
 by_cases h0:0≤insDefF x
 ·obtain⟨k,hk1,hk2⟩:=hd h0
  obtain⟨id,g,off,q1,q2⟩:=hus1.getD hk2
  cases hb:us.getD k false with
  | true =>
   rw[hb]at q2
   simp[hX1,rdN_ob h2,implInsDef,hk1,rdC_ob h1,q1,q2]
   rw[gcRet_flat hp rfl]
   simp at hb
   simp[hb]
  | false =>
   rw[hb]at q2
   simp at hb
   cases h24:decide (x.op=24) with
   | true =>
    simp[hX1,rdN_ob h2,implInsDef,hk1,rdC_ob h1,q1,q2,rdC_ob h2,h24]
    rw[gcRet_flat hp rfl]
   | false =>
    cases h21:decide (x.op=21) with
    | true =>
     simp[hX1,rdN_ob h2,implInsDef,hk1,rdC_ob h1,q1,q2,rdC_ob h2,h24,h21]
     rw[gcRet_flat hp rfl]
    | false =>
     simp[hX1,rdN_ob h2,implInsDef,hk1,rdC_ob h1,q1,q2,rdC_ob h2,h24,h21,hb]
     rw[gcRet_flat hp rfl]
 ·simp[hX1,rdN_ob h2,implInsDef,h0]
  rw[gcRet_flat hp rfl]

theorem deletePhiN {X:Hp} {f:IV} (fid:Nat) (caps:List CV) (K:IV×Hp→Prop):CM 34 [.c .ns,.f fid caps] X K=K (.c .ns,X):=by
 refine det (cw34 ?_) K
 unfold vf34c
 have:=fun k=>indexPhi (H:=X) (v:=.ns) (xs:=[]) Row.ns (by simp) (fid:=fid) (caps:=caps) (fun _=>true) (fun i hi=>absurd hi (by simp)) k
 simp[this,findI]

theorem deleteInsN {X:Hp} {f:IV} (fid:Nat) (caps:List CV) (K:IV×Hp→Prop):CM 36 [.c .ns,.f fid caps] X K=K (.c .ns,X):=by
 refine det (cw36 ?_) K
 unfold vf36c
 have:=fun k=>indexIns (H:=X) (v:=.ns) (xs:=[]) Row.ns (by simp) (fid:=fid) (caps:=caps) (fun _=>true) (fun i hi=>absurd hi (by simp)) k
 simp[this,findI]

def ThinRes {α:Type} (P:Hp→List CV→α→(Nat→Prop)→Prop) (sz:Nat) (G:Nat→Prop) (X:Hp) (ys:List α) (r:IV×Hp):Prop:=
 ∃ w' Z,r=(.c w',Z)∧FRow P sz Z w' ys G∧Frm (fun j=>¬ G j) X Z∧X.length≤Z.length∧cellsOf (.c w')=some [w']

theorem thinPhis {X:Hp} {w:CV} {ps:List PhiR} {G:Nat→Prop} (h:FRow phiF 2 X w ps G) (hb:ps.length≤BIG) {fid:Nat} {caps:List CV} (q:Int→Bool)
  (hp:∀ Y,Frm (fun j=>¬ G j) X Y→X.length≤Y.length→∀ p∈ps,∀ z (k:IV×Hp→Prop),CM fid (.agg [.i p.d,z] :: caps.map .c) Y k=k (.c (.b (q p.d)),Y)) :
  CM 34 [.c w,.f fid caps] X (ThinRes phiF 2 G X (ps.filter fun p=>!q p.d)):=by
 rcases h with⟨rfl,rfl⟩ | ⟨id,g,cells,Fs,rfl,h⟩
 ·rw[deletePhiN (f:=.f fid caps)]
  exact⟨.ns,X,rfl,FRow.ns,Frm.refl _ _,Nat.le_refl _,rfl⟩
 ·have hc:=h.cobj
  obtain⟨p,hpd⟩:∃ p:List CV→Bool,p=fun cs=>match cs with
   | .i d :: _=>q d
   | _=>false:=⟨_,rfl⟩
  have hpq:∀ k (hk:k<ps.length),p (chk cells 2 k)=q ps[k].d:=fun k hk=>by
   obtain⟨z,e,_⟩:=h.el k hk
   rw[e,hpd]
  have hlen:((List.range ps.length).map (chk cells 2)).length=ps.length:=by simp
  have hd:=deletePhiC hc (by rw[hlen];exact hb) (fid:=fid) (caps:=caps) p (fun Y hY cs hcs k=>by
   obtain⟨i,hi,rfl⟩:=List.mem_map.1 hcs
   have hi:=List.mem_range.1 hi
   rw[hpq i hi]
   obtain⟨z,e,_⟩:=h.el i hi
   rw[e]
   exact hp Y (hY.fr.mono fun j hj e=>hj (e▸h.own)) hY.len _ (List.getElem_mem hi) z k)
  rw[hlen]at hd
  refine hd.mono ?_
  rintro _ ⟨Z,rest,rfl,hZ,hcZ,hl⟩
  have hl':((List.map (chk cells 2) (List.range ps.length)).flatten++cells.drop (ps.length * 2)).length=cells.length:=by
   obtain⟨m,h1,h2⟩:=h.len
   rw[chks_flat _ _ _ (by omega),List.take_append_drop]
  rw[hl']at hl
  have hth:=h.thin phiF_st (p:=p) (q:=fun x=>q x.d) hpq hZ (by rw[hlen];exact hcZ) (by rw[hlen];exact hl)
  rw[hlen]at hth
  exact⟨_,Z,rfl,hth,hZ.fr.mono fun j hj e=>hj (e▸h.own),hZ.len,rfl⟩

theorem thinIns {X:Hp} {w:CV} {ls:List InsR} {G:Nat→Prop} (h:FRow insF 5 X w ls G) (hb:ls.length≤BIG) {fid:Nat} {caps:List CV} (q:InsR→Bool)
  (hp:∀ Y,Frm (fun j=>¬ G j) X Y→X.length≤Y.length→∀ x∈ls,∀ (k:IV×Hp→Prop),CM fid (.agg [.i x.op,.i x.d,.i x.a,.i x.b,.i x.n] :: caps.map .c) Y k=k (.c (.b (q x)),Y)) :
  CM 36 [.c w,.f fid caps] X (ThinRes insF 5 G X (ls.filter fun x=>!q x)):=by
 rcases h with⟨rfl,rfl⟩ | ⟨id,g,cells,Fs,rfl,h⟩
 ·rw[deleteInsN (f:=.f fid caps)]
  exact⟨.ns,X,rfl,FRow.ns,Frm.refl _ _,Nat.le_refl _,rfl⟩
 ·have hc:=h.cobj
  obtain⟨p,hpd⟩:∃ p:List CV→Bool,p=fun cs=>match cs with
   | [.i a,.i b,.i c,.i d,.i e]=>q ⟨a,b,c,d,e⟩
   | _=>false:=⟨_,rfl⟩
  have hpq:∀ k (hk:k<ls.length),p (chk cells 5 k)=q ls[k]:=fun k hk=>by
   have e:chk cells 5 k=insC ls[k]:=h.el k hk
   rw[e,hpd];rfl
  have hlen:((List.range ls.length).map (chk cells 5)).length=ls.length:=by simp
  have hd:=deleteInsC hc (by rw[hlen];exact hb) (fid:=fid) (caps:=caps) p (fun Y hY cs hcs k=>by
   obtain⟨i,hi,rfl⟩:=List.mem_map.1 hcs
   have hi:=List.mem_range.1 hi
   rw[hpq i hi]
   have e:chk cells 5 i=insC ls[i]:=h.el i hi
   rw[e]
   exact hp Y (hY.fr.mono fun j hj e=>hj (e▸h.own)) hY.len _ (List.getElem_mem hi) k)
  rw[hlen]at hd
  refine hd.mono ?_
  rintro _ ⟨Z,rest,rfl,hZ,hcZ,hl⟩
  have hl':((List.map (chk cells 5) (List.range ls.length)).flatten++cells.drop (ls.length * 5)).length=cells.length:=by
   obtain⟨m,h1,h2⟩:=h.len
   rw[chks_flat _ _ _ (by omega),List.take_append_drop]
  rw[hl']at hl
  have hth:=h.thin insF_st (p:=p) (q:=q) hpq hZ (by rw[hlen];exact hcZ) (by rw[hlen];exact hl)
  rw[hlen]at hth
  exact⟨_,Z,rfl,hth,hZ.fr.mono fun j hj e=>hj (e▸h.own),hZ.len,rfl⟩
theorem drop_filter {us:List Bool} (ps:List PhiR):(ps.filter fun p=>!(fun d:Int=>!us.getD d.toNat false) p.d)=ps.filter fun p=>!dropP us p:=rfl

theorem IsL.frm {X Y:Hp} {v:CV} {us:List Bool} {G:Nat→Prop} (h:IsL X v us) (hv:∀ id g off n,v=.sl id g off n→G id) (hf:Frm G X Y):IsL Y v us:=by
 rcases h with⟨h1,h2,h3⟩ | ⟨id,g,off,o,h1,h2,h3⟩
 ·exact .inl ⟨h1,h2,h3⟩
 ·exact .inr ⟨id,g,off,o,h1,hf.ob (hv _ _ _ _ h1) h2,h3⟩

set_option maxRecDepth 100000 in
theorem implPrune {H:Hp} {v:CV} {f:FnR} (hv:Blocks H v f.blocks) (hb:f.blocks.length≤BIG):CM 10 [.agg [v,.i f.values]] H (FnRes H (prune0 f)):=by
 refine cw10 ?_
 unfold vf10c
 obtain⟨X1,hX1⟩:∃ X1,H++[(⟨[v,.i f.values],0,true,2⟩:Ob),⟨[.ns,.i 0],0,true,2⟩]=X1:=⟨_,rfl⟩
 have hp1:Pre H X1:=⟨_,hX1.symm⟩
 have l1:X1.length=H.length+2:=by rw[← hX1];simp
 have hB1:rdOb X1 H.length 0=some ⟨[v,.i f.values],0,true,2⟩:=by rw[← hX1];simp
 have hR1:rdOb X1 (H.length+1) 0=some ⟨[.ns,.i 0],0,true,2⟩:=by rw[← hX1];simp
 simp[hX1,rdN_ob hB1]
 refine (implClone (hv.pre hp1) hb).mono ?_
 rintro _ ⟨w,L1,rfl,hT⟩
 obtain⟨X2,hX2⟩:∃ X2,X1++L1=X2:=⟨_,rfl⟩
 rw[hX2]at hT ⊢
 have hp2:Pre X1 X2:=⟨_,hX2.symm⟩
 have l2:=hp2.le
 obtain⟨X3,hX3⟩:∃ X3,X2++[(⟨[w,.i f.values],0,true,2⟩:Ob)]=X3:=⟨_,rfl⟩
 have hp3:Pre X2 X3:=⟨_,hX3.symm⟩
 have l3:X3.length=X2.length+1:=by rw[← hX3];simp
 have hO3:rdOb X3 X2.length 0=some ⟨[w,.i f.values],0,true,2⟩:=by rw[← hX3];simp
 have hT3:Tree (fun j=>X1.length≤j∧j<X2.length) X3 w f.blocks:=hT.bound.fr blkF_st (Frm.pre hp3)
 have hB3:=hp3.rdOb (hp2.rdOb hB1)
 have hp13:=hp1.trans (hp2.trans hp3)
 have hv3:=hv.pre hp13
 obtain⟨ul,Lu,hul,hused⟩:=implUsed (f:=f) hv3 hb
 obtain⟨X4,hX4⟩:∃ X4,X3++Lu=X4:=⟨_,rfl⟩
 have hp4:Pre X3 X4:=⟨_,hX4.symm⟩
 have l4:=hp4.le
 have hU4:IsL X4 ul (used0 f):=by rw[← hX4];exact hul.isL
 obtain⟨Xz,hXz⟩:∃ Xz,X4++[(⟨[.ns],0,true,1⟩:Ob)]=Xz:=⟨_,rfl⟩
 have hpz:Pre X4 Xz:=⟨_,hXz.symm⟩
 have lz:Xz.length=X4.length+1:=by rw[← hXz];simp
 have hAz:rdOb Xz X4.length 0=some ⟨[.ns],0,true,1⟩:=by rw[← hXz];simp
 obtain⟨X5,hX5⟩:∃ X5,Xz.set X4.length (⟨[ul],0,true,1⟩:Ob)=X5:=⟨_,rfl⟩
 have hp5:Pre X4 X5:=by rw[← hX5];exact hpz.set (Nat.le_refl _) _
 have l5:X5.length=X4.length+1:=by rw[← hX5];simp[lz]
 have hA5:rdOb X5 X4.length 0=some ⟨[ul],0,true,1⟩:=by rw[← hX5,rdOb_set_self (rdOb_lt hAz)];simp
 have hp35:=hp4.trans hp5
 have hO5:=hp35.rdOb hO3
 have hB5:=hp35.rdOb hB3
 have hR5:=hp35.rdOb (hp3.rdOb (hp2.rdOb hR1))
 have hT5:=hT3.fr blkF_st (Frm.pre hp35)
 have hv5:=hv3.pre hp35
 have hcul:cellsOf (.c ul)=some [ul]:=by rcases hul with⟨rfl,_⟩ | ⟨rfl,_⟩<;>rfl
 by_cases hck:checkF f=0
 ·have hg:prune0 f=⟨f.blocks.map (pruneB (usedW f)),f.values⟩:=by unfold prune0;rw[if_pos hck]
  have hW:=well_iff.1 hck
  have hsh:=hW.sh
  have hu0:used0 f=usedW f:=by unfold used0;rw[if_pos hck]
  rw[hu0]at hU4
  have hun:(usedW f).length=f.values.toNat:=usedW_len f
  obtain⟨us,hus⟩:∃ us,usedW f=us:=⟨_,rfl⟩
  rw[hus]at hU4 hun hg
  have hlw:=FRow.lenOf hT5
  rcases hul with⟨rfl,_⟩ | ⟨rfl,_⟩
  all_goals
   simp[putAt,hX3,rdN_ob hB3,hused,hX4,hXz,hAz,hX5,implCheck hv5 hb,hck,rdN_ob hB5,rdC_ob hO5,hlw]
   obtain⟨ul,hA6,hU5,hUi⟩:∃ ul,rdOb X5 X4.length 0=some ⟨[ul],0,true,1⟩∧IsL X5 ul us∧∀ id g off n,ul=.sl id g off n→id=X3.length:=⟨_,hA5,Sl.pre hp5 hU4,fun id g off n e=>by cases e<;>rfl⟩
   obtain⟨I,hI⟩:∃ I:Nat→St→Prop,∀ i s,I i s↔(Tree (fun j=>X1.length≤j∧j<X2.length) s.h w ((f.blocks.take i).map (pruneB us)++f.blocks.drop i)∧Frm (fun j=>j<X5.length∧¬ (X1.length≤j∧j<X2.length)) X5 s.h∧X5.length≤s.h.length ∧
    Env.get s.e 2=.c (.p (H.length+1) 0 0)∧Env.get s.e 3=.c (.p X2.length 0 0)∧Env.get s.e 4=.c (.p X4.length 0 0)∧Env.get s.e 16=.c w∧Env.get s.e 17=.c (.i f.blocks.length)∧Env.get s.e 18=.c (.i i)):=⟨_,fun _ _=>Iff.rfl⟩
   refine wp_for CM_mono f.blocks.length I ((hI _ ⟨_,_⟩).2 ⟨by simpa using hT5,Frm.refl _ _,Nat.le_refl _,by simp⟩) ?_ ?_
   ·rintro i ⟨e,Y⟩ hi hIs
    obtain⟨hTY,hf,hlY,e2,e3,e4,e16,e17,e18⟩:=(hI _ _).1 hIs
    simp only at hTY hf hlY e2 e3 e4 e16 e17 e18 ⊢
    obtain⟨b,hbb⟩:∃ b,f.blocks[i]=b:=⟨_,rfl⟩
    have hbm:b∈f.blocks:=hbb▸List.getElem_mem hi
    rw[drop_mid hi,hbb]at hTY
    obtain⟨A,hA⟩:∃ A,(f.blocks.take i).map (pruneB us)=A:=⟨_,rfl⟩
    have hAl:A.length=i:=by rw[← hA];simp;omega
    have hAs:(f.blocks.take (i+1)).map (pruneB us)=A++[pruneB us b]:=by rw[List.take_succ_eq_append_getElem hi,List.map_append,hA,hbb];rfl
    rw[hA]at hTY
    have hil:i<(A++b :: f.blocks.drop (i+1)).length:=by simp;omega
    have hat:(A++b :: f.blocks.drop (i+1))[i]=b:=by subst hAl;exact mid_at _ _ _ hil
    obtain⟨id,g,cells,z,u,Gz,q1,q2,q3,q4,q5,q6,q7,q8,q9,q10⟩:=hTY.phisH hil
    rw[hat]at q4 q6 q9 q10
    simp only[trmC]at q4
    obtain⟨Y1,hY1⟩:∃ Y1,Y++[BOb z u b.term]=Y1:=⟨_,rfl⟩
    have hp1Y:Pre Y Y1:=⟨_,hY1.symm⟩
    have lY1:Y1.length=Y.length+1:=by rw[← hY1];simp
    have n1:rdOb Y1 Y.length 0=some (BOb z u b.term):=by rw[← hY1];simp
    have o1:rdOb Y1 X2.length 0=some ⟨[w,.i f.values],0,true,2⟩:=hp1Y.rdOb (hf.ob ⟨by omega,by omega⟩ hO5)
    have hpY:Frm (fun j=>j<X5.length∧¬ (X1.length≤j∧j<X2.length)) X5 Y1:=hf.trans (Frm.pre hp1Y)
    have hflag:∀ Z,Frm (fun j=>j<Y1.length∧¬ (X1.length≤j∧j<X2.length)) Y1 Z→rdOb Z X4.length 0=some ⟨[ul],0,true,1⟩∧IsL Z ul us:=by
     intro Z hZ
     have hXZ:Frm (fun j=>j<X5.length∧¬ (X1.length≤j∧j<X2.length)) X5 Z:=hpY.trans (hZ.mono fun j hj=>⟨by omega,hj.2⟩)
     exact⟨hXZ.ob ⟨by omega,by omega⟩ hA6,hU5.frm (fun id g off n e=>by have:=hUi id g off n e;omega) hXZ⟩
    have hsl:=shape_lens hsh hbm
    have hfz:FRow phiF 2 Y1 z b.phis Gz:=q6.fr phiF_st (Frm.pre hp1Y)
    have hthin:=thinPhis hfz q9 (fid:=35) (caps:=[.p X4.length 0 0]) (fun d=>!us.getD d.toNat false) (fun Z hZ hlZ p hp z' k=>by
     obtain⟨k1,k2⟩:=hflag Z (hZ.mono fun j hj hg=>hj.2 (q7 j hg).1)
     obtain⟨kd,hk1,hk2⟩:=val_nat (phi_vals (shape_phi hsh hbm hp)).1
     exact prune1 k1 k2 ⟨kd,hk1,by rw[hun];exact hk2⟩ k)
    unfold vf10b0
    simp[e2,e3,e4,e16,e17,e18,hi,q1,q4,putAt,hY1,n1,rdC_ob n1,o1,rdC_ob o1]
    refine hthin.mono ?_
    rw[drop_filter]
    rintro _ ⟨z',Z,rfl,hzr,hzf,hzl,_⟩
    have hzS:∀ G:Nat→Prop,(∀ j,G j→¬ Gz j)→Frm G Y Z:=fun G hG=>(Frm.pre hp1Y).trans (hzf.mono fun j hj=>hG j hj)
    obtain⟨c1,hT2⟩:=q10 Z _ z' Gz (by omega) (hzS _ fun j hj=>hj.2) hzr (fun j hj=>.inl hj) (Nat.le_trans (List.length_filter_le _ _) q9)
    obtain⟨Z1,hZ1⟩:∃ Z1,Z.set id ⟨putAt cells (i * 6) [z'],g,true,6⟩=Z1:=⟨_,rfl⟩
    rw[hZ1]at hT2
    have hz1f:Frm (fun j=>j≠id) Z Z1:=by rw[← hZ1];exact Frm.set _ _ (by simp)
    have lZ1:Z1.length=Z.length:=by rw[← hZ1];simp
    have oZ:rdOb Z X2.length 0=some ⟨[w,.i f.values],0,true,2⟩:=hzf.ob (fun hg=>by have:=(q7 _ hg).1;omega) o1
    have oZ1:rdOb Z1 X2.length 0=some ⟨[w,.i f.values],0,true,2⟩:=hz1f.ob (by omega) oZ
    have nZ:rdOb Z Y.length 0=some (BOb z u b.term):=hzf.ob (fun hg=>by have:=(q7 _ hg).2.1;omega) n1
    have nZ1:rdOb Z1 Y.length 0=some (BOb z u b.term):=hz1f.ob (by have:=rdOb_lt q2;omega) nZ
    have uZ1:rdC Z1 id g (i * 6+1)=some u:=by
     have h1:rdOb Z1 id g=some ⟨putAt cells (i * 6) [z'],g,true,6⟩:=by rw[← hZ1,rdOb_set_self (rdOb_lt c1)];simp
     rw[rdC_ob h1]
     simp only
     rw[putAt_get3 (by simp;omega),if_neg (by omega),if_neg (by simp)]
     rw[rdN_ob q2,if_pos q3]at q4
     injection q4 with q4
     have h2:((cells.drop (i * 6)).take 6)[1]? = some u:=by simp only at q4;rw[q4];rfl
     rw[List.getElem?_take,if_pos (by omega),List.getElem?_drop]at h2
     exact h2
    have hlen2:i<((A++b :: f.blocks.drop (i+1)).set i ⟨b.phis.filter (fun p=>!dropP us p),b.list,b.term⟩).length:=by rw[List.length_set];exact hil
    have hset:∀ x y:BlkR,(A++x :: f.blocks.drop (i+1)).set i y=A++y :: f.blocks.drop (i+1):=fun x y=>by subst hAl;exact mid_set _ _ _ _
    rw[hset]at hT2
    have hil2:i<(A++(⟨b.phis.filter (fun p=>!dropP us p),b.list,b.term⟩:BlkR) :: f.blocks.drop (i+1)).length:=by simp;omega
    have hat2:(A++(⟨b.phis.filter (fun p=>!dropP us p),b.list,b.term⟩:BlkR) :: f.blocks.drop (i+1))[i]=⟨b.phis.filter (fun p=>!dropP us p),b.list,b.term⟩:=by subst hAl;exact mid_at _ _ _ hil2
    obtain⟨id',g',cells',z2,u2,Gu,r1,r2,r3,r4,r5,r6,r7,r8,r9,r10⟩:=hT2.listH hil2
    have ei:id'=id∧g'=g:=by have e:=r1.symm.trans q1;injection e with e;injection e with e1 e2;exact⟨e1,e2⟩
    obtain⟨rfl,rfl⟩:=ei
    obtain rfl:u2=u:=by rw[uZ1]at r5;injection r5 with e;exact e.symm
    rw[hat2]at r6 r9 r10
    simp only at r6 r9 r10
    have hZ1f:Frm (fun j=>j<X5.length∧¬ (X1.length≤j∧j<X2.length)) X5 Z1:=(hpY.trans (hzf.mono fun j hj hg=>hj.2 (q7 j hg).1)).trans (hz1f.mono fun j hj e=>hj.2 (e▸q8))
    have hflag1:∀ W,Frm (fun j=>j<Z1.length∧¬ (X1.length≤j∧j<X2.length)) Z1 W→rdOb W X4.length 0=some ⟨[ul],0,true,1⟩∧IsL W ul us:=by
     intro W hW
     have hXW:Frm (fun j=>j<X5.length∧¬ (X1.length≤j∧j<X2.length)) X5 W:=hZ1f.trans (hW.mono fun j hj=>⟨by omega,hj.2⟩)
     exact⟨hXW.ob ⟨by omega,by omega⟩ hA6,hU5.frm (fun id g off n e=>by have:=hUi id g off n e;omega) hXW⟩
    have hthin2:=thinIns r6 r9 (fid:=37) (caps:=[.p X4.length 0 0]) (dropX us) (fun W hW hlW x hx k=>by
     obtain⟨k1,k2⟩:=hflag1 W (hW.mono fun j hj hg=>hj.2 (r7 j hg).1)
     refine prune2 k1 k2 (fun h0=>?_) k
     obtain⟨kd,hk1,hk2⟩:=ins_def (shape_ins hsh hbm hx) h0
     exact⟨kd,hk1,by rw[hun];exact hk2⟩)
    have hb6:i * 6+1≤cells.length:=by omega
    rcases hzr.form with rfl | ⟨zi,zg,zn,rfl⟩
    all_goals
     simp[q1,oZ,o1,c1,hb6,hZ1,oZ1,rdC_ob oZ1,nZ1,rdC_ob nZ1]
     refine hthin2.mono ?_
     rintro _ ⟨u',W,rfl,hur,huf,hul',_⟩
     obtain⟨d1,hT3'⟩:=r10 W _ u' Gu hul' (huf.mono fun j hj=>hj.2) hur (fun j hj=>.inl hj) (Nat.le_trans (List.length_filter_le _ _) r9)
     obtain⟨W1,hW1⟩:∃ W1,W.set id' ⟨putAt cells' (i * 6+1) [u'],g',true,6⟩=W1:=⟨_,rfl⟩
     rw[hW1]at hT3'
     have hb7:i * 6+1+1≤cells'.length:=by omega
     have oW:rdOb W X2.length 0=some ⟨[w,.i f.values],0,true,2⟩:=huf.ob (fun hg=>by have:=(r7 _ hg).1;omega) oZ1
     have hend:∀ e':Env,(Env.get e' 2=.c (.p (H.length+1) 0 0)∧Env.get e' 3=.c (.p X2.length 0 0)∧Env.get e' 4=.c (.p X4.length 0 0)∧Env.get e' 16=.c w∧Env.get e' 17=.c (.i f.blocks.length)∧Env.get e' 18=.c (.i (i+1:Nat)))→I (i+1) ⟨e',W1⟩:=by
      intro e' he
      refine (hI _ _).2 ⟨?_,?_,?_,he⟩
      ·rw[hset]at hT3'
       rw[hAs]
       simpa [pruneB] using hT3'
      ·refine hZ1f.trans ((huf.mono fun j hj hg=>hj.2 (r7 j hg).1).trans ?_)
       rw[← hW1]
       exact Frm.set _ _ (fun hn=>hn.2 r8)
      ·simp only
       rw[← hW1,List.length_set];omega
     rcases hur.form with rfl | ⟨wi,wg,wn,rfl⟩
     all_goals
      simp[q1,oW,oZ1,d1,hb7,hW1,up1 hi hb]
      refine hend _ ?_
      simp
   ·rintro⟨e,Y⟩ hIs
    obtain⟨hTY,hf,hlY,e2,e3,e4,e16,e17,e18⟩:=(hI _ _).1 hIs
    simp only at hTY hf hlY e2 e3 e4 e16 e17 e18 ⊢
    rw[List.take_length,List.drop_length,List.append_nil]at hTY
    have hOY:rdOb Y X2.length 0=some ⟨[w,.i f.values],0,true,2⟩:=hf.ob ⟨by omega,by omega⟩ hO5
    have hRY:rdOb Y (H.length+1) 0=some ⟨[.ns,.i 0],0,true,2⟩:=hf.ob ⟨by omega,by omega⟩ hR5
    obtain⟨Y2,hY2⟩:∃ Y2,Y.set (H.length+1) ⟨[w,.i f.values],0,true,2⟩=Y2:=⟨_,rfl⟩
    have hR2:rdOb Y2 (H.length+1) 0=some ⟨[w,.i f.values],0,true,2⟩:=by rw[← hY2,rdOb_set_self (rdOb_lt hRY)];simp
    have hpY:Pre H Y:=(hf.mono fun j (hj:j<H.length)=>⟨by omega,by omega⟩).cut (hp13.trans hp35)
    unfold vf10b0
    simp[e2,e3,e4,e16,e17,e18,rdN_ob hOY,hRY,putAt,hY2,rdN_ob hR2]
    rw[hg]
    refine FnRes.mk (H:=H) (g:=⟨f.blocks.map (pruneB us),f.values⟩) (S:=fun j=>X1.length≤j∧j<X2.length) ?_ ?_ (fun j hj=>by omega)
    ·rw[← hY2];exact hpY.set (by omega) _
    ·rw[← hY2];exact hTY.fr blkF_st (Frm.set _ _ (by omega))
 ·have hg:prune0 f=f:=by unfold prune0;rw[if_neg hck]
  obtain⟨X6,hX6⟩:∃ X6,X5.set (H.length+1) ⟨[w,.i f.values],0,true,2⟩=X6:=⟨_,rfl⟩
  have hR6:rdOb X6 (H.length+1) 0=some ⟨[w,.i f.values],0,true,2⟩:=by rw[← hX6,rdOb_set_self (rdOb_lt hR5)];simp
  rcases hul with⟨rfl,_⟩ | ⟨rfl,_⟩
  all_goals
   simp[putAt,hX3,rdN_ob hB3,hused,hX4,hXz,hAz,hX5,implCheck hv5 hb,hck,rdN_ob hB5,rdN_ob hO5,hR5,hX6,rdN_ob hR6,hg]
   refine FnRes.mk (H:=H) (g:=f) (S:=fun j=>X1.length≤j∧j<X2.length) ?_ ?_ (fun j hj=>by omega)
   ·rw[← hX6];exact (hp13.trans hp35).set (by omega) _
   ·rw[← hX6];exact hT5.fr blkF_st (Frm.set _ _ (by omega))
def RoundRes (H:Hp) (bs:List BlkR) (uid:Nat) (us:List Bool) (r:IV×Hp):Prop:=
 ∃ us' m Y,r=(.c (.b m),Y)∧Pre H Y∧rdOb Y uid 0=some (UsOb us')∧Rnd bs us us' m∧(m=false→∀ b∈bs,ClosedB us b)

theorem RoundRes.gc {H X Y:Hp} {bs:List BlkR} {uid:Nat} {us us':List Bool} {m:Bool} (hX:Pre H X) (ho:rdOb X uid 0=some (UsOb us)) (hY:Pre H Y) (hU:rdOb Y uid 0=some (UsOb us'))
  (hR:Rnd bs us us' m) (hc:m=false→∀ b∈bs,ClosedB us b):RoundRes H bs uid us (gcRet X (.c (.b m)) Y):=by
 unfold gcRet
 split
 ·rename_i h
  have hp:Pre X Y:=⟨Y.drop X.length,by have:=List.take_append_drop X.length Y;rw[h]at this;exact this.symm⟩
  have:=hp.rdOb ho
  rw[hU]at this
  refine⟨us',m,X,?_,hX,by rw[ho,← this],hR,hc⟩
  rw[if_pos (show flatV (.c (.b m))=true from rfl)]
 ·exact⟨us',m,Y,rfl,hY,hU,hR,hc⟩

set_option maxRecDepth 100000 in
theorem round_call {H X:Hp} {v:CV} {f:FnR} (hv:Blocks H v f.blocks) (hbb:f.blocks.length≤BIG) (hsh:shapeB f=true) (hp:Pre H X) {uid:Nat} (hu:H.length≤uid) {us:List Bool}
  (ho:rdOb X uid 0=some (UsOb us)) (hl:us.length=f.values.toNat) (hs:∀ j:Nat,us.getD j false=true→UsedP f.blocks j) :
  CM 93 [.agg [v,.i f.values],.c (.sl uid 0 0 us.length)] X (RoundRes H f.blocks uid us):=by
 refine cw93 ?_
 unfold vf93c
 have hlt:=rdOb_lt ho
 obtain⟨X1,hX1⟩:∃ X1,X++[(⟨[v,.i f.values],0,true,2⟩:Ob)]=X1:=⟨_,rfl⟩
 have hp1:Pre X X1:=⟨_,hX1.symm⟩
 have hB1:rdOb X1 X.length 0=some ⟨[v,.i f.values],0,true,2⟩:=by rw[← hX1];simp
 have hU1:=hp1.rdOb ho
 have hne:X.length≠uid:=by omega
 have hvl:=hv.lenOf
 simp[hX1]
 obtain⟨I,hI⟩:∃ I:Nat→St→Prop,∀ i st,I i st↔(∃ ui m,Pre H st.h∧rdOb st.h uid 0=some (UsOb ui)∧Rnd f.blocks us ui m∧(m=false→∀ b∈f.blocks.take i,ClosedB us b)∧rdOb st.h X.length 0=some ⟨[v,.i f.values],0,true,2⟩ ∧
   Env.get st.e 1=.c (.sl uid 0 0 us.length)∧Env.get st.e 2=.c (.p X.length 0 0)∧Env.get st.e 5=.c (.b m)∧Env.get st.e 6=.c (.i i)):=⟨_,fun _ _=>Iff.rfl⟩
 refine wp_for CM_mono f.blocks.length I ((hI _ _).2 ⟨us,false,hp.trans hp1,hU1,Rnd.refl hs,fun _=>by simp,hB1,by simp⟩) ?_ ?_
 ·rintro i ⟨e,Z⟩ hi hIs
  obtain⟨ui,m,hZ,hU,hR,hc,hBZ,e1,e2,e5,e6⟩:=(hI _ _).1 hIs
  simp only at hZ hU hBZ e1 e2 e5 e6 ⊢
  have hmem:f.blocks[i]∈f.blocks:=List.getElem_mem hi
  obtain⟨b,hb⟩:∃ b,f.blocks[i]=b:=⟨_,rfl⟩
  obtain⟨i0,g0,off0,w,u,q1,_,q2,qp,ql,qpl,qll,_,_⟩:=Blocks.get hv hi
  obtain⟨GZ,hGZ⟩:=id hZ
  have q2':=q2 GZ
  rw[← hGZ]at q2'
  rw[hb]at q2' qp ql qpl qll hmem
  obtain⟨t,ht⟩:∃ t,b.term=t:=⟨_,rfl⟩
  rw[ht]at q2'
  obtain⟨Z1,hZ1⟩:∃ Z1,Z++[(⟨[w,u,.i t.kind,.i t.a,.i t.to,.i t.els],0,true,6⟩:Ob)]=Z1:=⟨_,rfl⟩
  have hpZ1:Pre Z Z1:=⟨_,hZ1.symm⟩
  have h7:rdOb Z1 Z.length 0=some ⟨[w,u,.i t.kind,.i t.a,.i t.to,.i t.els],0,true,6⟩:=by rw[← hZ1];simp
  have hU1:=hpZ1.rdOb hU
  have hltZ:=rdOb_lt hU
  have hltB:=rdOb_lt hBZ
  have hne7:Z.length≠uid:=by omega
  have hpl:=qp.lenOf
  have hll:=ql.lenOf
  unfold vf93b3
  simp[e1,e2,e5,e6,rdC_ob hBZ,hvl,hi,q1,q2'.2.2.2.2.2.2.2.2.2.2,put66c,hZ1]
  obtain⟨J,hJ⟩:∃ J:Nat→St→Prop,∀ j st,J j st↔(∃ ui m,Pre H st.h∧rdOb st.h uid 0=some (UsOb ui)∧Rnd f.blocks us ui m∧(m=false→(∀ b∈f.blocks.take i,ClosedB us b)∧∀ x∈b.list.take j,InsOk us x)∧rdOb st.h X.length 0=some ⟨[v,.i f.values],0,true,2⟩∧rdOb st.h Z.length 0=some ⟨[w,u,.i t.kind,.i t.a,.i t.to,.i t.els],0,true,6⟩ ∧
      Env.get st.e 1=.c (.sl uid 0 0 us.length)∧Env.get st.e 2=.c (.p X.length 0 0)∧Env.get st.e 5=.c (.b m)∧Env.get st.e 6=.c (.i i)∧Env.get st.e 7=.c (.p Z.length 0 0)∧Env.get st.e 8=.c (.i j)):=⟨_,fun _ _=>Iff.rfl⟩
  refine wp_for CM_mono b.list.length J ((hJ _ _).2 ⟨ui,m,hZ.trans hpZ1,hU1,hR,fun h=>⟨hc h,by simp⟩,hpZ1.rdOb hBZ,h7,by simp[e1,e2,e5,e6]⟩) ?_ ?_
  ·rintro j ⟨e',W⟩ hj hJs
   obtain⟨ui,m,hW,hUW,hR,hc,hBW,h7W,e1,e2,e5,e6,e7,e8⟩:=(hJ _ _).1 hJs
   simp only at hW hUW hBW h7W e1 e2 e5 e6 e7 e8 ⊢
   obtain⟨id2,g2,off2,r1,_,r2,_⟩:=List5.get (List5.pre hW ql) hj
   have r2':=r2 []
   rw[List.append_nil]at r2'
   obtain⟨x,hx⟩:∃ x,b.list[j]=x:=⟨_,rfl⟩
   have hxm:x∈b.list:=hx▸List.getElem_mem hj
   have hxB:=shape_ins hsh hmem hxm
   rw[hx]at r2'
   have hul:ui.length=us.length:=hR.len
   obtain⟨uw,L,hw,hcall⟩:=specUses W x
   obtain⟨W2,hW2⟩:∃ W2,W++L=W2:=⟨_,rfl⟩
   have hwI:=hw.isI
   have hpW2:Pre W W2:=⟨_,hW2.symm⟩
   rw[hW2]at hwI
   have hU2:=hpW2.rdOb hUW
   have hvx:=uses_vals hsh hmem hxm
   have hua:=fun k=>specMark hU2 hwI (by rw[hul,hl];exact hvx) (Nat.le_trans (usesF_le x) (by simp[BIG])) k
   rw[hul]at hua
   obtain⟨W3,hW3⟩:∃ W3,W2.set uid (UsOb (markAll ui (usesF x)))=W3:=⟨_,rfl⟩
   have hU3:rdOb W3 uid 0=some (UsOb (markAll ui (usesF x))):=by rw[← hW3,rdOb_set_self (rdOb_lt hU2)];simp[UsOb]
   have hpH3:Pre H W3:=by rw[← hW3];exact (hW.trans hpW2).set hu _
   have hB3:rdOb W3 X.length 0=some ⟨[v,.i f.values],0,true,2⟩:=by rw[← hW3,rdOb_set_ne hne];exact hpW2.rdOb hBW
   have h73:rdOb W3 Z.length 0=some ⟨[w,u,.i t.kind,.i t.a,.i t.to,.i t.els],0,true,6⟩:=by rw[← hW3,rdOb_set_ne hne7];exact hpW2.rdOb h7W
   have hgo:(keepsF x.op=true∨(0≤insDefF x∧Us ui (insDefF x)))→Rnd f.blocks us (markAll ui (usesF x)) (m || moreF ui (usesF x)):=fun hk=>hR.mark (by rw[hl];exact hvx) (fun v hv=>by
    rcases hk with hk | ⟨hd,hk⟩
    ·exact .stay hmem hxm hk hv
    ·refine .make hmem hxm hd ?_ hv
     obtain⟨k,h1,_⟩:=ins_def hxB hd
     unfold Us at hk
     rw[h1,Int.toNat_natCast]at hk
     rw[h1];exact hR.snd k hk)
   have hcl:moreF ui (usesF x)=false→m=false→(∀ b∈f.blocks.take i,ClosedB us b)∧∀ x∈b.list.take (j+1),InsOk us x:=fun h1 h2=>by
    refine⟨(hc h2).1,all_take hj (hc h2).2 ?_⟩
    rw[hx,← hR.no h2];exact fun _=>moreF_no h1
   have hskip:¬ (keepsF x.op=true∨(0≤insDefF x∧Us ui (insDefF x)))→m=false→(∀ b∈f.blocks.take i,ClosedB us b)∧∀ x∈b.list.take (j+1),InsOk us x:=fun h1 h2=>by
    refine⟨(hc h2).1,all_take hj (hc h2).2 ?_⟩
    rw[hx,← hR.no h2];exact fun hk=>absurd hk h1
   have hfin:∀ (e'':Env),(keepsF x.op=true∨(0≤insDefF x∧Us ui (insDefF x)))→(Env.get e'' 1=.c (.sl uid 0 0 us.length)∧Env.get e'' 2=.c (.p X.length 0 0)∧Env.get e'' 5=.c (.b (m || moreF ui (usesF x)))∧Env.get e'' 6=.c (.i i)∧Env.get e'' 7=.c (.p Z.length 0 0)∧Env.get e'' 8=.c (.i (j+1:Nat)))→J (j+1) ⟨e'',W3⟩:=fun e'' hk he=>(hJ _ _).2 ⟨_,_,hpH3,hU3,hgo hk,fun hf=>by
     rw[Bool.or_eq_false_iff]at hf;exact hcl hf.2 hf.1,hB3,h73,he⟩
   unfold vf93b0
   cases h21:decide (x.op=21) with
   | true =>
    cases hmo:moreF ui (usesF x) <;>
    ·simp[e1,e2,e5,e6,e7,e8,hll,hj,rdC_ob h7W,r1,r2'.1,r2'.2.2.2.2.2,specInsDef,h21,hcall,hW2,hua,hmo,hW3,up1 hj qll]
     exact hfin _ (.inl (by unfold keepsF;rw[h21];simp)) (by rw[hmo];simp[e1,e2,e5,e6,e7])
   | false =>
    cases h22:decide (x.op=22) with
    | true =>
     cases hmo:moreF ui (usesF x) <;>
     ·simp[e1,e2,e5,e6,e7,e8,hll,hj,rdC_ob h7W,r1,r2'.1,r2'.2.2.2.2.2,specInsDef,h21,h22,hcall,hW2,hua,hmo,hW3,up1 hj qll]
      exact hfin _ (.inl (by unfold keepsF;rw[h22];simp)) (by rw[hmo];simp[e1,e2,e5,e6,e7])
    | false =>
     cases h23:decide (x.op=23) with
     | true =>
      cases hmo:moreF ui (usesF x) <;>
      ·simp[e1,e2,e5,e6,e7,e8,hll,hj,rdC_ob h7W,r1,r2'.1,r2'.2.2.2.2.2,specInsDef,h21,h22,h23,hcall,hW2,hua,hmo,hW3,up1 hj qll]
       exact hfin _ (.inl (by unfold keepsF;rw[h23];simp)) (by rw[hmo];simp[e1,e2,e5,e6,e7])
     | false =>
      by_cases hd:0≤insDefF x
      ·obtain⟨k,hk1,hk2⟩:=ins_def hxB hd
       have hrd:=rdU hUW (k:=k) (by omega)
       have hix:idxOf 1 (.sl uid 0 0 us.length) (k:Int)=some (.p uid 0 k):=idx1 (by omega)
       have hkp:keepsF x.op=false:=by unfold keepsF;rw[h21,h22,h23];rfl
       cases hb0:ui.getD k false with
       | true =>
        rw[hb0]at hrd
        have hus:Us ui (insDefF x):=by unfold Us;rw[hk1,Int.toNat_natCast];exact hb0
        cases hmo:moreF ui (usesF x) <;>
        ·simp[e1,e2,e5,e6,e7,e8,hll,hj,rdC_ob h7W,r1,r2'.1,r2'.2.2.2.2.2,specInsDef,h21,h22,h23,hk1,hix,hrd,hcall,hW2,hua,hmo,hW3,up1 hj qll]
         exact hfin _ (.inr ⟨hd,hus⟩) (by rw[hmo];simp[e1,e2,e5,e6,e7])
       | false =>
        rw[hb0]at hrd
        have hno:¬ (keepsF x.op=true∨(0≤insDefF x∧Us ui (insDefF x))):=fun h=>by
         rcases h with h | ⟨_,h⟩
         ·rw[hkp]at h;cases h
         ·unfold Us at h;rw[hk1,Int.toNat_natCast,hb0]at h;cases h
        simp[e1,e2,e5,e6,e7,e8,hll,hj,rdC_ob h7W,r1,r2'.1,r2'.2.2.2.2.2,specInsDef,h21,h22,h23,hk1,hix,hrd,up1 hj qll]
        exact (hJ _ _).2 ⟨ui,m,hW,hUW,hR,hskip hno,hBW,h7W,by simp[e1,e2,e5,e6,e7]⟩
      ·have hkp:keepsF x.op=false:=by unfold keepsF;rw[h21,h22,h23];rfl
       have hno:¬ (keepsF x.op=true∨(0≤insDefF x∧Us ui (insDefF x))):=fun h=>by
        rcases h with h | ⟨h,_⟩
        ·rw[hkp]at h;cases h
        ·exact hd h
       simp[e1,e2,e5,e6,e7,e8,hll,hj,rdC_ob h7W,r1,r2'.1,r2'.2.2.2.2.2,specInsDef,h21,h22,h23,hd,up1 hj qll]
       exact (hJ _ _).2 ⟨ui,m,hW,hUW,hR,hskip hno,hBW,h7W,by simp[e1,e2,e5,e6,e7]⟩
  ·rintro⟨e',W⟩ hJs
   obtain⟨ui,m,hW,hUW,hR,hc,hBW,h7W,e1,e2,e5,e6,e7,e8⟩:=(hJ _ _).1 hJs
   simp only at hW hUW hBW h7W e1 e2 e5 e6 e7 e8 ⊢
   rw[List.take_length]at hc
   unfold vf93b0
   simp[e1,e2,e5,e6,e7,e8,rdC_ob h7W,hll]
   obtain⟨A,hA⟩:∃ A:Nat→St→Prop,∀ j st,A j st↔(∃ ui m,Pre H st.h∧rdOb st.h uid 0=some (UsOb ui)∧Rnd f.blocks us ui m∧(m=false→((∀ b∈f.blocks.take i,ClosedB us b)∧(∀ x∈b.list,InsOk us x))∧∀ p∈b.phis.take j,PhiOk us p)∧rdOb st.h X.length 0=some ⟨[v,.i f.values],0,true,2⟩∧rdOb st.h Z.length 0=some ⟨[w,u,.i t.kind,.i t.a,.i t.to,.i t.els],0,true,6⟩ ∧
       Env.get st.e 1=.c (.sl uid 0 0 us.length)∧Env.get st.e 2=.c (.p X.length 0 0)∧Env.get st.e 5=.c (.b m)∧Env.get st.e 6=.c (.i i)∧Env.get st.e 7=.c (.p Z.length 0 0)∧Env.get st.e 11=.c (.i j)):=⟨_,fun _ _=>Iff.rfl⟩
   refine wp_for CM_mono b.phis.length A ((hA _ _).2 ⟨ui,m,hW,hUW,hR,fun h=>⟨hc h,by simp⟩,hBW,h7W,by simp[e1,e2,e5,e6,e7]⟩) ?_ ?_
   ·rintro j ⟨e',W⟩ hj hAs
    obtain⟨ui,m,hW,hUW,hR,hc,hBW,h7W,e1,e2,e5,e6,e7,e11⟩:=(hA _ _).1 hAs
    simp only at hW hUW hBW h7W e1 e2 e5 e6 e7 e11 ⊢
    obtain⟨id2,g2,off2,w2,r1,r2,_,qa,_⟩:=Phis.get (Phis.pre hW qp) hj
    obtain⟨ph,hph⟩:∃ ph,b.phis[j]=ph:=⟨_,rfl⟩
    have hpm:ph∈b.phis:=hph▸List.getElem_mem hj
    have hphB:=shape_phi hsh hmem hpm
    rw[hph]at r2 qa
    obtain⟨hvd,hal,harm⟩:=phi_vals hphB
    obtain⟨kd,hkd,hkn⟩:=val_nat hvd
    have hul:ui.length=us.length:=hR.len
    have hall:=qa.lenOf
    have hrd:=rdU hUW (k:=kd) (by omega)
    have hix:idxOf 1 (.sl uid 0 0 us.length) ph.d=some (.p uid 0 kd):=by rw[hkd];exact idx1 (by omega)
    unfold vf93b2
    simp[e1,e2,e5,e6,e7,e11,rdC_ob h7W,hpl,hj]
    cases hm:ui.getD kd false with
    | false =>
     rw[hm]at hrd
     obtain⟨K,hK⟩:∃ K:Nat→St→Prop,∀ k st,K k st↔(st.h=W∧Env.get st.e 1=.c (.sl uid 0 0 us.length)∧Env.get st.e 2=.c (.p X.length 0 0)∧Env.get st.e 5=.c (.b m)∧Env.get st.e 6=.c (.i i)∧Env.get st.e 7=.c (.p Z.length 0 0)∧Env.get st.e 11=.c (.i j)∧Env.get st.e 12=.c (.i 0)):=⟨_,fun _ _=>Iff.rfl⟩
     refine wp_for CM_mono 0 K ((hK _ _).2 ⟨rfl,by simp[e1,e2,e5,e6,e7,e11]⟩) (fun k st hk=>absurd hk (by omega)) ?_
     rintro⟨e2',U⟩ hKs
     obtain⟨hU,e1,e2,e5,e6,e7,e11,e12⟩:=(hK _ _).1 hKs
     simp only at hU e1 e2 e5 e6 e7 e11 e12 ⊢
     subst hU
     have hdone:m=false→((∀ b∈f.blocks.take i,ClosedB us b)∧(∀ x∈b.list,InsOk us x))∧∀ p∈b.phis.take (j+1),PhiOk us p:=fun hf=>by
      refine⟨(hc hf).1,all_take hj (hc hf).2 ?_⟩
      rw[hph]
      intro hd
      unfold Us at hd
      rw[hkd,Int.toNat_natCast,← hR.no hf,hm]at hd
      cases hd
     unfold vf93b1
     by_cases h0:0<ph.arms.length
     ·simp[e1,e2,e5,e6,e7,e11,e12,rdC_ob h7W,r1,r2.1,r2.2.1,hall,h0,hix,hrd,up1 hj qpl]
      exact (hA _ _).2 ⟨ui,m,hW,hUW,hR,hdone,hBW,h7W,by simp[e1,e2,e5,e6,e7]⟩
     ·simp[e1,e2,e5,e6,e7,e11,e12,rdC_ob h7W,r1,r2.1,r2.2.1,hall,h0,hix,hrd,up1 hj qpl]
      exact (hA _ _).2 ⟨ui,m,hW,hUW,hR,hdone,hBW,h7W,by simp[e1,e2,e5,e6,e7]⟩
    | true =>
     have hud:UsedP f.blocks ph.d:=by rw[hkd];exact hR.snd kd hm
     obtain⟨K,hK⟩:∃ K:Nat→St→Prop,∀ k st,K k st↔(∃ ui m,ui.getD kd false=true∧Pre H st.h∧rdOb st.h uid 0=some (UsOb ui)∧Rnd f.blocks us ui m∧(m=false→(((∀ b∈f.blocks.take i,ClosedB us b)∧(∀ x∈b.list,InsOk us x))∧∀ p∈b.phis.take j,PhiOk us p)∧∀ a∈ph.arms.take k,Us us a.v)∧rdOb st.h X.length 0=some ⟨[v,.i f.values],0,true,2⟩∧rdOb st.h Z.length 0=some ⟨[w,u,.i t.kind,.i t.a,.i t.to,.i t.els],0,true,6⟩ ∧
       Env.get st.e 1=.c (.sl uid 0 0 us.length)∧Env.get st.e 2=.c (.p X.length 0 0)∧Env.get st.e 5=.c (.b m)∧Env.get st.e 6=.c (.i i)∧Env.get st.e 7=.c (.p Z.length 0 0)∧Env.get st.e 11=.c (.i j)∧Env.get st.e 12=.c (.i k)):=⟨_,fun _ _=>Iff.rfl⟩
     refine wp_for CM_mono ph.arms.length K ((hK _ _).2 ⟨ui,m,hm,hW,hUW,hR,fun h=>⟨hc h,by simp⟩,hBW,h7W,by simp[e1,e2,e5,e6,e7,e11]⟩) ?_ ?_
     ·rintro k ⟨e2',U⟩ hk hKs
      obtain⟨uk,mk,hmk,hU,hUU,hRk,hck,hBU,h7U,e1,e2,e5,e6,e7,e11,e12⟩:=(hK _ _).1 hKs
      simp only at hU hUU hBU h7U e1 e2 e5 e6 e7 e11 e12 ⊢
      obtain⟨id2,g2,off2,w2,r1,r2,_,qa,_⟩:=Phis.get (Phis.pre hU qp) hj
      rw[hph]at r2 qa
      have hall:=qa.lenOf
      obtain⟨id3,g3,off3,m1,⟨m2,m3,m4⟩,m5,m6,m7⟩:=Arms.get qa hk
      obtain⟨a,ha⟩:∃ a,ph.arms[k]=a:=⟨_,rfl⟩
      have hamem:a∈ph.arms:=ha▸List.getElem_mem hk
      have hav:=(harm k hk).2
      rw[ha]at m2 m3 m4 hav
      have hukl:uk.length=us.length:=hRk.len
      have hrd:=rdU hUU (k:=kd) (by omega)
      rw[hmk]at hrd
      obtain⟨W2,hW2⟩:∃ W2,U++[(⟨[.i a.v],0,true,1⟩:Ob)]=W2:=⟨_,rfl⟩
      have hpW2:Pre U W2:=⟨_,hW2.symm⟩
      have hrow:IsI W2 (.sl U.length 0 0 1) [a.v]:=one_row (by rw[← hW2];simp)
      have hU2:=hpW2.rdOb hUU
      have hvals:Vals uk.length [a.v]:=fun v hv=>by
       simp at hv;subst hv
       obtain⟨c,h1,h2⟩:=val_nat hav
       exact⟨c,h1,by omega⟩
      have hua:=fun k=>specMark hU2 hrow hvals (by simp[BIG]) k
      rw[hukl]at hua
      have hRn:=hRk.mark (vs:=[a.v]) (by rw[← hukl];exact hvals) (fun v hv=>by simp at hv;rw[hv];exact .phi hmem hpm hud hamem)
      have hmk2:(markAll uk [a.v]).getD kd false=true:=by rw[markAll_get,hmk];rfl
      obtain⟨W3,hW3⟩:∃ W3,W2.set uid (UsOb (markAll uk [a.v]))=W3:=⟨_,rfl⟩
      have hU3:rdOb W3 uid 0=some (UsOb (markAll uk [a.v])):=by rw[← hW3,rdOb_set_self (rdOb_lt hU2)];simp[UsOb]
      have hB3:rdOb W3 X.length 0=some ⟨[v,.i f.values],0,true,2⟩:=by rw[← hW3,rdOb_set_ne hne];exact hpW2.rdOb hBU
      have h73:rdOb W3 Z.length 0=some ⟨[w,u,.i t.kind,.i t.a,.i t.to,.i t.els],0,true,6⟩:=by rw[← hW3,rdOb_set_ne hne7];exact hpW2.rdOb h7U
      have hpH3:Pre H W3:=by rw[← hW3];exact (hU.trans hpW2).set hu _
      have hcl:moreF uk [a.v]=false→mk=false→(((∀ b∈f.blocks.take i,ClosedB us b)∧(∀ x∈b.list,InsOk us x))∧∀ p∈b.phis.take j,PhiOk us p)∧∀ a∈ph.arms.take (k+1),Us us a.v:=fun h1 h2=>by
       refine⟨(hck h2).1,all_take (P:=fun a:ArmR=>Us us a.v) hk (hck h2).2 ?_⟩
       rw[ha,← hRk.no h2];exact moreF_no h1 _ (by simp)
      unfold vf93b1
      cases hmo:moreF uk [a.v] with
      | true =>
       rw[hmo,Bool.or_true]at hRn
       simp[e1,e2,e5,e6,e7,e11,e12,rdC_ob h7U,r1,r2.1,r2.2.1,hall,hk,hix,hrd,m1,m3,putL0,hW2,hua,hmo,hW3,up1 hk (show ph.arms.length≤BIG by simp only[BIG];omega)]
       exact (hK _ _).2 ⟨_,true,hmk2,hpH3,hU3,hRn,(fun h=>by cases h),hB3,h73,by simp[e1,e2,e6,e7,e11]⟩
      | false =>
       rw[hmo,Bool.or_false]at hRn
       simp[e1,e2,e5,e6,e7,e11,e12,rdC_ob h7U,r1,r2.1,r2.2.1,hall,hk,hix,hrd,m1,m3,putL0,hW2,hua,hmo,hW3,up1 hk (show ph.arms.length≤BIG by simp only[BIG];omega)]
       exact (hK _ _).2 ⟨_,mk,hmk2,hpH3,hU3,hRn,hcl hmo,hB3,h73,by simp[e1,e2,e5,e6,e7,e11]⟩
     ·rintro⟨e2',U⟩ hKs
      obtain⟨uk,mk,hmk,hU,hUU,hRk,hck,hBU,h7U,e1,e2,e5,e6,e7,e11,e12⟩:=(hK _ _).1 hKs
      simp only at hU hUU hBU h7U e1 e2 e5 e6 e7 e11 e12 ⊢
      rw[List.take_length]at hck
      obtain⟨id2,g2,off2,w2,r1,r2,_,qa,_⟩:=Phis.get (Phis.pre hU qp) hj
      rw[hph]at r2 qa
      have hall:=qa.lenOf
      unfold vf93b1
      simp[e1,e2,e5,e6,e7,e11,e12,rdC_ob h7U,r1,r2.1,r2.2.1,hall,up1 hj qpl]
      exact (hA _ _).2 ⟨uk,mk,hU,hUU,hRk,fun hf=>⟨(hck hf).1.1,all_take hj (hck hf).1.2 (by rw[hph];exact fun _=>(hck hf).2)⟩,hBU,h7U,by simp[e1,e2,e5,e6,e7]⟩
   ·rintro⟨e',W⟩ hAs
    obtain⟨ui,m,hW,hUW,hR,hc,hBW,h7W,e1,e2,e5,e6,e7,e11⟩:=(hA _ _).1 hAs
    simp only at hW hUW hBW h7W e1 e2 e5 e6 e7 e11 ⊢
    rw[List.take_length]at hc
    have hul:ui.length=us.length:=hR.len
    obtain⟨tw,L,hw,hcall⟩:=specTUses W t
    obtain⟨W2,hW2⟩:∃ W2,W++L=W2:=⟨_,rfl⟩
    have hwI:=hw.isI
    have hpW2:Pre W W2:=⟨_,hW2.symm⟩
    rw[hW2]at hwI
    have hU2:=hpW2.rdOb hUW
    have hvt:=tuses_vals hsh hmem
    rw[ht]at hvt
    have hua:=fun k=>specMark hU2 hwI (by rw[hul,hl];exact hvt) (Nat.le_trans (tusesF_le t) (by simp[BIG])) k
    rw[hul]at hua
    have hRn:=hR.mark (vs:=tusesF t) (by rw[hl];exact hvt) (fun v hv=>.term hmem (by rw[ht];exact hv))
    obtain⟨W3,hW3⟩:∃ W3,W2.set uid (UsOb (markAll ui (tusesF t)))=W3:=⟨_,rfl⟩
    have hU3:rdOb W3 uid 0=some (UsOb (markAll ui (tusesF t))):=by rw[← hW3,rdOb_set_self (rdOb_lt hU2)];simp[UsOb]
    have hB3:rdOb W3 X.length 0=some ⟨[v,.i f.values],0,true,2⟩:=by rw[← hW3,rdOb_set_ne hne];exact hpW2.rdOb hBW
    have hpH3:Pre H W3:=by rw[← hW3];exact (hW.trans hpW2).set hu _
    have hcl:(m || moreF ui (tusesF t))=false→∀ b∈f.blocks.take (i+1),ClosedB us b:=fun h=>by
     rw[Bool.or_eq_false_iff]at h
     refine all_take hi (hc h.1).1.1 ?_
     rw[hb]
     exact⟨by rw[ht,← hR.no h.1];exact moreF_no h.2,(hc h.1).2,(hc h.1).1.2⟩
    unfold vf93b2
    cases hmo:moreF ui (tusesF t) with
    | true =>
     rw[hmo,Bool.or_true]at hRn hcl
     simp[e1,e2,e5,e6,e7,e11,rdC_ob h7W,rdN_ob h7W,hpl,hcall,hW2,hua,hmo,hW3,up1 hi hbb]
     exact (hI _ _).2 ⟨_,true,hpH3,hU3,hRn,hcl,hB3,by simp[e1,e2]⟩
    | false =>
     rw[hmo,Bool.or_false]at hRn hcl
     simp[e1,e2,e5,e6,e7,e11,rdC_ob h7W,rdN_ob h7W,hpl,hcall,hW2,hua,hmo,hW3,up1 hi hbb]
     exact (hI _ _).2 ⟨_,m,hpH3,hU3,hRn,hcl,hB3,by simp[e1,e2,e5]⟩
 ·rintro⟨e,Z⟩ hIs
  obtain⟨ui,m,hZ,hU,hR,hc,hBZ,e1,e2,e5,e6⟩:=(hI _ _).1 hIs
  simp only at hZ hU hBZ e1 e2 e5 e6 ⊢
  rw[List.take_length]at hc
  unfold vf93b3
  simp[e1,e2,e5,e6,rdC_ob hBZ,hvl]
  exact RoundRes.gc hp ho hZ hU hR hc
set_option maxRecDepth 100000 in
theorem specUsedL {H:Hp} {v:CV} {f:FnR} (hv:Blocks H v f.blocks) (hb:f.blocks.length≤BIG) (hsh:shapeB f=true) (k:IV×Hp→Prop) :
  CM 44 [.agg [v,.i f.values]] H k=k (.c (.sl H.length 0 0 f.values.toNat),H++[⟨(usedW f).map .b,0,true,1⟩]):=by
 refine det (cw44 ?_) k
 unfold vf44c
 obtain⟨s1,s2,s3,s4⟩:=shape_len hsh
 obtain⟨X,hX⟩:∃ X,H++[(⟨[v,.i f.values],0,true,2⟩:Ob)]=X:=⟨_,rfl⟩
 have hp:Pre H X:=⟨_,hX.symm⟩
 have hB:rdOb X H.length 0=some ⟨[v,.i f.values],0,true,2⟩:=by rw[← hX];simp
 have hvX:=Blocks.pre hp hv
 have hm1:(0≤f.values∧f.values≤(LIM:Int))=True:=eq_true ⟨s3,by simp only[LIM];omega⟩
 obtain⟨X1,hX1⟩:∃ X1,X++[(⟨List.replicate f.values.toNat (.b false),0,true,1⟩:Ob)]=X1:=⟨_,rfl⟩
 have hp1:Pre X X1:=⟨_,hX1.symm⟩
 have hlX:X.length=H.length+1:=by rw[← hX];simp
 have hU1:rdOb X1 X.length 0=some (UsOb (List.replicate f.values.toNat false)):=by rw[← hX1];simp[UsOb]
 simp[hX,rdN_ob hB,rdC_ob hB,hm1,hX1]
 obtain⟨O,hO⟩:∃ O:Nat→St→Prop,∀ n st,O n st↔(∃ us,Pre X st.h∧rdOb st.h X.length 0=some (UsOb us)∧us.length=f.values.toNat∧(∀ j:Nat,us.getD j false=true→UsedP f.blocks j)∧cf us≤n ∧
   Env.get st.e 1=.c (.p H.length 0 0)∧Env.get st.e 3=.c (.sl X.length 0 0 f.values.toNat)):=⟨_,fun _ _=>Iff.rfl⟩
 refine wp_loop CM_mono O (k:=f.values.toNat) ((hO _ _).2 ⟨_,hp1,hU1,by simp,fun j hj=>?_,by rw[cf_reps];exact Nat.le_refl _,by simp⟩) ?_
 ·rw[List.getD_eq_getElem?_getD,List.getElem?_replicate]at hj
  split at hj<;>simp at hj
 ·rintro n ⟨e,Y⟩ hOs
  obtain⟨us,hY,hUY,hul,hs,hcf,e1,e3⟩:=(hO _ _).1 hOs
  simp only at hY hUY e1 e3 ⊢
  have hBY:=hY.rdOb hB
  have hrc:=round_call hvX hb hsh hY (Nat.le_refl _) hUY hul hs
  rw[hul]at hrc
  unfold vf44b0
  simp[e1,e3,rdN_ob hBY]
  refine hrc.mono ?_
  rintro _ ⟨u2,m2,Y2,rfl,hY2,hU2,hR2,hc2⟩
  have hlen:=hR2.len
  cases m2 with
  | true =>
   have:=hR2.yes rfl
   simp[e1,e3]
   exact⟨n - 1,by omega,(hO _ _).2 ⟨u2,hY2,hU2,by omega,hR2.snd,by omega,by simp[e1,e3]⟩⟩
  | false =>
   have hno:=hR2.no rfl
   have hfin:=used_done hul hs (hc2 rfl)
   rw[hno,hfin]at hU2
   simp[e1,e3]
   rw[gcRet_row (o:=UsOb (usedW f)) (hp.trans hY2) (by omega) hU2 rfl (by simp[UsOb,flatC])]
   simp[UsOb]
theorem l7Stays_call (H:Hp) (x:InsR) (k:IV×Hp→Prop):CM 45 [.agg [.i x.op,.i x.d,.i x.a,.i x.b,.i x.n]] H k=k (.c (.b (decide (x.op=22) || decide (x.op=23) || decide (x.op=21) || decide (x.op=24))),H):=by
 refine det (cw45 ?_) k
 unfold vf45c
 obtain⟨X1,hX1⟩:∃ X1,H++[(⟨[.i x.op,.i x.d,.i x.a,.i x.b,.i x.n],0,true,5⟩:Ob)]=X1:=⟨_,rfl⟩
 have hp:Pre H X1:=⟨_,hX1.symm⟩
 have h2:rdOb X1 H.length 0=some ⟨[.i x.op,.i x.d,.i x.a,.i x.b,.i x.n],0,true,5⟩:=by rw[← hX1];simp
 cases h22:decide (x.op=22) with
 | true=>simp[hX1,rdC_ob h2,h22];rw[gcRet_flat hp rfl]
 | false =>
  cases h23:decide (x.op=23) with
  | true=>simp[hX1,rdC_ob h2,h22,h23];rw[gcRet_flat hp rfl]
  | false =>
   cases h21:decide (x.op=21) with
   | true=>simp[hX1,rdC_ob h2,h22,h23,h21];rw[gcRet_flat hp rfl]
   | false =>
    cases h24:decide (x.op=24) with
    | true=>simp[hX1,rdC_ob h2,h22,h23,h21,h24];rw[gcRet_flat hp rfl]
    | false=>simp[hX1,rdC_ob h2,h22,h23,h21,h24];rw[gcRet_flat hp rfl]

structure PruneH (N o3 uid bf:Nat) (w v:CV) (m:Int) (us:List Bool) (B Y0 Y:Hp) (bs:List BlkR):Prop where
 tree:Tree (fun j=>N≤j∧j≠o3∧j≠uid) Y w bs
 out:rdOb Y o3 0=some ⟨[w,.i m],0,true,2⟩
 used:rdOb Y uid 0=some (KOb us)
 pre:Pre B Y
 bl:B.length≤N
 box:rdOb B bf 0=some ⟨[v,.i m],0,true,2⟩
 lo:Frm (fun j=>j<N) Y0 Y
 len:Y0.length≤Y.length

theorem PruneH.app {N o3 uid bf:Nat} {w v:CV} {m:Int} {us:List Bool} {B Y0 Y:Hp} {bs:List BlkR} (h:PruneH N o3 uid bf w v m us B Y0 Y bs) (L:Hp):PruneH N o3 uid bf w v m us B Y0 (Y++L) bs:=
 ⟨h.tree.fr blkF_st (Frm.app _ _ _),rdOb_app L h.out,rdOb_app L h.used,h.pre.app L,h.bl,h.box,h.lo.trans (Frm.app _ _ _),by have:=h.len;simp only[List.length_append];omega⟩

theorem PruneH.to {N o3 uid bf:Nat} {w v:CV} {m:Int} {us:List Bool} {B Y0 Y Z:Hp} {bs bs':List BlkR} (h:PruneH N o3 uid bf w v m us B Y0 Y bs) (hT:Tree (fun j=>N≤j∧j≠o3∧j≠uid) Z w bs') (hf:Frm (fun j=>¬ (N≤j∧j≠o3∧j≠uid)) Y Z) (hl:Y.length≤Z.length) :
  PruneH N o3 uid bf w v m us B Y0 Z bs':=
 ⟨hT,hf.ob (by omega) h.out,hf.ob (by omega) h.used,(hf.mono fun j (hj:j<B.length)=>by have:=h.bl;omega).cut h.pre,h.bl,h.box,h.lo.trans (hf.mono fun j hj=>by omega),Nat.le_trans h.len hl⟩

set_option maxRecDepth 100000 in
theorem prunePIn {N o3 uid bf b n id0 g0 off0:Nat} {w v wz:CV} {m:Int} {us:List Bool} {B Y0:Hp} {A D:List BlkR} {ps:List PhiR} {ls:List InsR} {t:TrmR} {e:Env} {Q:X×St→Prop} {x2:IV}
  (h0:PruneH N o3 uid bf w v m us B Y0 Y0 (A++⟨[],ls,t⟩ :: D)) (hA:A.length=b) (hun:us.length=n) (hN:N≤Y0.length) (hp:Phis B wz ps) (hb:ps.length≤BIG) (hix:idxOf 6 v (b:Int)=some (.p id0 g0 off0)) (hwz:rdC B id0 g0 off0=some wz) (hval:∀ p∈ps,∃ k:Nat,p.d=k∧k<n)
  (e1:Env.get e 1=.c (.p bf 0 0)) (e2:Env.get e 2=x2) (e3:Env.get e 3=.c (.p o3 0 0)) (e4:Env.get e 4=.c (.sl uid 0 0 n)) (e5:Env.get e 5=.c (.i b)) (e6:Env.get e 6=.c (.i 0))
  (hQ:∀ (Y:Hp) (e':Env),PruneH N o3 uid bf w v m us B Y0 Y (A++⟨ps.filter fun p=>!dropP us p,ls,t⟩ :: D) →
   Env.get e' 1=.c (.p bf 0 0)→Env.get e' 2=x2→Env.get e' 3=.c (.p o3 0 0)→Env.get e' 4=.c (.sl uid 0 0 n)→Env.get e' 5=.c (.i b)→Q (.exit 2,⟨e',Y⟩)) :
  loopD (exW CM [0,1,2,3,4,5,6,7,8,9,14,22,43,59,88,108] vf12b0) ⟨e,Y0⟩ Q:=by
 obtain⟨I,hI⟩:∃ I:Nat→St→Prop,∀ j s,I j s↔(PruneH N o3 uid bf w v m us B Y0 s.h (A++⟨(ps.take j).filter fun p=>!dropP us p,ls,t⟩ :: D) ∧
   Env.get s.e 1=.c (.p bf 0 0)∧Env.get s.e 2=x2∧Env.get s.e 3=.c (.p o3 0 0)∧Env.get s.e 4=.c (.sl uid 0 0 n)∧Env.get s.e 5=.c (.i b)∧Env.get s.e 6=.c (.i j)):=⟨_,fun _ _=>Iff.rfl⟩
 obtain⟨oz,hoz⟩:=rdOb_of_rdC hwz
 refine wp_for CM_mono ps.length I ((hI _ ⟨_,_⟩).2 ⟨h0,e1,e2,e3,e4,e5,e6⟩) ?_ ?_
 ·rintro j ⟨e0,Y⟩ hj hIs
  obtain⟨hH,f1,f2,f3,f4,f5,f6⟩:=(hI _ _).1 hIs
  simp only at hH f1 f2 f3 f4 f5 f6 ⊢
  have hwzY:=rdC_to hH.pre hwz
  have hBf:=hH.pre.rdOb hH.box
  have hpY:=Phis.pre hH.pre hp
  have hlz:=hpY.lenOf
  obtain⟨p,hpp⟩:∃ p,ps[j]=p:=⟨_,rfl⟩
  obtain⟨id2,g2,off2,wa,q1,q2,q3,qa,qb,_,_⟩:=Phis.get hpY hj
  rw[hpp]at q2 q3 qa qb
  obtain⟨kd,hkd,hkn⟩:=hval p (hpp▸List.getElem_mem hj)
  have hsu:(ps.take (j+1)).filter (fun p=>!dropP us p)=(ps.take j).filter (fun p=>!dropP us p)++if us.getD kd false=true then [p] else []:=by
   rw[List.take_succ_eq_append_getElem hj,List.filter_append,hpp]
   congr 1
   cases hu:us.getD kd false<;>(simp at hu;simp[dropP,hkd,hu])
  obtain⟨Y1,hY1⟩:∃ Y1,Y++[(⟨[.i p.d,wa],0,true,2⟩:Ob)]=Y1:=⟨_,rfl⟩
  have hp1:Pre Y Y1:=⟨_,hY1.symm⟩
  have l1:Y1.length=Y.length+1:=by rw[← hY1];simp
  have n1:rdOb Y1 Y.length 0=some ⟨[.i p.d,wa],0,true,2⟩:=by rw[← hY1];simp
  have hH1:PruneH N o3 uid bf w v m us B Y0 Y1 (A++⟨(ps.take j).filter fun p=>!dropP us p,ls,t⟩ :: D):=by rw[← hY1];exact hH.app _
  obtain⟨i1,c1⟩:=rd_bool hH1.used hun hkn
  have hlo:=rdOb_lt hH.out
  have hlu:=rdOb_lt hH.used
  have hNY:N≤Y.length:=Nat.le_trans hN hH.len
  unfold vf12b0
  cases hu:us.getD kd false with
  | false =>
   rw[hu]at c1
   rw[hkd]at n1 hY1 q2
   simp[f1,f2,f3,f4,f5,f6,rdC_ob hBf,hix,hwzY,hlz,hj,q1,q2.2.2,putAt,hY1,rdC_ob n1,i1,c1,up1 hj hb]
   refine (hI _ ⟨_,_⟩).2 ⟨?_,by simp⟩
   rw[hsu,hu]
   simpa using hH1
  | true =>
   rw[hu]at c1
   have hbl:b<(A++(⟨(ps.take j).filter fun p=>!dropP us p,ls,t⟩:BlkR) :: D).length:=by simp;omega
   have hat:(A++(⟨(ps.take j).filter fun p=>!dropP us p,ls,t⟩:BlkR) :: D)[b]=⟨(ps.take j).filter fun p=>!dropP us p,ls,t⟩:=by subst hA;exact mid_at _ _ _ hbl
   obtain⟨id,g,cells,z,u,Gz,r1,r2,r3,r4,r5,r6,r7,r8,r9,r10⟩:=hH1.tree.phisH hbl
   rw[hat]at r6 r9 r10
   simp only at r6 r9 r10
   have o1:=hH1.out
   have hset:∀ x y:BlkR,(A++x :: D).set b y=A++y :: D:=fun x y=>by subst hA;exact mid_set _ _ _ _
   obtain⟨Y2,hY2⟩:∃ Y2,Y1++[(⟨[],0,true,2⟩:Ob)]=Y2:=⟨_,rfl⟩
   have hp2:Pre Y1 Y2:=⟨_,hY2.symm⟩
   have l2:Y2.length=Y1.length+1:=by rw[← hY2];simp
   have n2:=hp2.rdOb n1
   have o2:=hp2.rdOb o1
   have b2:=hp2.rdOb r2
   have m2:rdOb Y2 Y1.length 0=some ⟨[],0,true,2⟩:=by rw[← hY2];simp
   have hsrcA:=arms_srcF (Arms.pre (hp1.trans hp2) qa)
   obtain⟨ga,hga⟩:=fillApp (n:=p.arms.length) m2 (flat_map_len armC_len p.arms) (by omega) (big_lim qb (by omega))
   obtain⟨Y3,hY3⟩:∃ Y3,Y2.set Y1.length ⟨(p.arms.map armC).flatten,ga,true,2⟩=Y3:=⟨_,rfl⟩
   have l3:Y3.length=Y2.length:=by rw[← hY3];simp
   have hf23:∀ G:Nat→Prop,¬ G Y1.length→Frm G Y2 Y3:=fun G hG=>by rw[← hY3];exact Frm.set _ _ hG
   have hid:=rdOb_lt r2
   have n3:rdOb Y3 Y.length 0=some ⟨[.i p.d,wa],0,true,2⟩:=(hf23 (fun i=>i=Y.length) (by omega)).ob rfl n2
   have o3':rdOb Y3 o3 0=some ⟨[w,.i m],0,true,2⟩:=(hf23 (fun i=>i=o3) (by omega)).ob rfl o2
   have b3:rdOb Y3 id g=some ⟨cells,g,true,6⟩:=(hf23 (fun i=>i=id) (by omega)).ob rfl b2
   have m3:rdOb Y3 Y1.length ga=some ⟨(p.arms.map armC).flatten,ga,true,2⟩:=by rw[← hY3,rdOb_set_self (rdOb_lt m2)];simp
   have har:FRow armF 2 Y3 (.sl Y1.length ga 0 p.arms.length) p.arms (fun i=>i=Y1.length):=FRow.leaf armC_len (fun _ _ _=>rfl) m3 rfl
   obtain⟨Y4,hY4⟩:∃ Y4,Y3++[(⟨[.i p.d,.sl Y1.length ga 0 p.arms.length],0,true,2⟩:Ob)]=Y4:=⟨_,rfl⟩
   have hp4:Pre Y3 Y4:=⟨_,hY4.symm⟩
   have l4:Y4.length=Y3.length+1:=by rw[← hY4];simp
   have n4:rdOb Y4 Y3.length 0=some ⟨[.i p.d,.sl Y1.length ga 0 p.arms.length],0,true,2⟩:=by rw[← hY4];simp
   have o4:=hp4.rdOb o3'
   have b4:=hp4.rdOb b3
   have hsrc:srcOf Y4 2 (.sl Y3.length 0 0 1)=some (1,[.i p.d,.sl Y1.length ga 0 p.arms.length]):=by simp[srcOf,n4]
   have h14:∀ G:Nat→Prop,¬ G Y1.length→Frm G Y1 Y4:=fun G hG=>(Frm.pre hp2).trans ((hf23 G hG).trans (Frm.pre hp4))
   have hR4:=r6.fr phiF_st (h14 _ (fun hg=>by have:=(r7 _ hg).2.1;omega))
   have hcl:((ps.take j).filter fun p=>!dropP us p).length≤j:=Nat.le_trans (List.length_filter_le _ _) (by rw[List.length_take];omega)
   obtain⟨iz,gz,Y5,happ,hR5,hf5,l5⟩:=hR4.snoc phiF_st (by omega) (by omega) (by omega) (cs:=[.i p.d,.sl Y1.length ga 0 p.arms.length]) (x:=p) (G:=fun i=>i=Y1.length) rfl
    (fun Z hZ=>⟨_,rfl,har.fr armF_st ((Frm.pre hp4).trans hZ),qb⟩) (fun i hi=>⟨fun hg=>by have:=(r7 _ hg).2.1;omega,by omega⟩)
   obtain⟨zz,hzz⟩:∃ zz,CV.sl iz gz 0 (((ps.take j).filter fun p=>!dropP us p).length+1)=zz:=⟨_,rfl⟩
   rw[hzz]at happ hR5
   obtain⟨s1,s2⟩:=r10 Y5 _ zz _ (by omega) (((h14 (fun i=>i<Y1.length) (by omega)).monoL fun i hi _=>hi).trans (hf5.mono fun j hj=>hj.2)) hR5 (fun i hi=>by
    rcases hi with hi | hi | hi
    ·exact .inl hi
    ·exact .inr ⟨by omega,by omega,by omega⟩
    ·exact .inr ⟨by omega,by omega,by omega⟩) (by simp;omega)
   obtain⟨Y6,hY6⟩:∃ Y6,Y5.set id ⟨putAt cells (b * 6) [zz],g,true,6⟩=Y6:=⟨_,rfl⟩
   rw[hY6,hset]at s2
   have hcc:cellsOf (.c zz)=some [zz]:=by rw[← hzz];rfl
   have l6:Y6.length=Y5.length:=by rw[← hY6];simp
   have hb6:b * 6+1≤cells.length:=by omega
   have o5:rdOb Y5 o3 0=some ⟨[w,.i m],0,true,2⟩:=hf5.ob (fun hg=>by have:=(r7 _ hg).1;omega) o4
   have z4:∀ W,rdOb W id g=some ⟨cells,g,true,6⟩→rdC W id g (b * 6)=some z:=fun W hW=>by rw[rdC_ob hW,← rdC_ob r2];exact r5
   have hfin:PruneH N o3 uid bf w v m us B Y0 Y6 (A++⟨((ps.take j).filter fun p=>!dropP us p)++[p],ls,t⟩ :: D):=by
    refine hH1.to s2 ?_ (by omega)
    refine ((h14 (fun i=>i<Y1.length) (by omega)).monoL fun i hi _=>hi).trans ((hf5.mono fun i hi hg=>hi (r7 _ hg).1).trans ?_)
    rw[← hY6]
    exact Frm.set _ _ (fun hn=>hn r8)
   have z1:=z4 _ r2
   rw[hu]at hsu
   have i1':=i1
   rw[hkd]at n1 n2 n3 hY1 hY4 q2 hsrc happ
   subst hzz
   simp[f1,f2,f3,f4,f5,f6,rdC_ob hBf,hix,hwzY,hlz,hj,q1,q2.2.2,p20,p21,p22,hY1,rdC_ob n1,i1,c1,o1,rdC_ob o1,r1,z1,r2,n1,hY2,n2,rdC_ob n2,o2,b2,hsrcA,hga,hY3,o3',b3,n3,hY4,hsrc,happ,o4,b4,o5,s1,hb6,hY6,up1 hj hb]
   refine (hI _ ⟨_,_⟩).2 ⟨?_,by simp⟩
   rw[hsu]
   simpa using hfin
 ·rintro⟨e0,Y⟩ hIs
  obtain⟨hH,f1,f2,f3,f4,f5,f6⟩:=(hI _ _).1 hIs
  simp only at hH f1 f2 f3 f4 f5 f6 ⊢
  have hwzY:=rdC_to hH.pre hwz
  have hBf:=hH.pre.rdOb hH.box
  have hlz:=(Phis.pre hH.pre hp).lenOf
  rw[List.take_length]at hH
  unfold vf12b0
  simp[f1,f2,f3,f4,f5,f6,rdC_ob hBf,hix,hwzY,hlz]
  exact hQ Y _ hH (by simp) (by simp) (by simp) (by simp) (by simp)
theorem keep_stay {us:List Bool} {x:InsR} (h:(decide (x.op=22) || decide (x.op=23) || decide (x.op=21) || decide (x.op=24))=true):dropX us x=false:=by
 unfold dropX
 simp only[Bool.or_eq_true,decide_eq_true_eq]at h
 rcases h with ((h | h) | h) | h
 ·have:insDefF x=-1:=by unfold insDefF;rw[h];rfl
  rw[this];rfl
 ·have:insDefF x=-1:=by unfold insDefF;rw[h];rfl
  rw[this];rfl
 ·rw[h];simp
 ·rw[h];simp

theorem keep_else {us:List Bool} {x:InsR} {m:Int} (hx:insB x m=true) (h:(decide (x.op=22) || decide (x.op=23) || decide (x.op=21) || decide (x.op=24))=false):∃ k:Nat,insDefF x=k∧k<m.toNat∧dropX us x=!us.getD k false:=by
 simp only[Bool.or_eq_false_iff,decide_eq_false_iff_not]at h
 obtain⟨⟨⟨h1,h2⟩,h3⟩,h4⟩:=h
 have hm:makesF x.op=true:=by
  unfold makesF
  rcases ins_kinds hx with hw | ⟨hw,e | e | e | e | e | e⟩
  ·rw[hw];rfl
  ·rw[e];rfl
  ·exact absurd e h3
  ·exact absurd e h1
  ·exact absurd e h2
  ·exact absurd e h4
  ·rw[e];rfl
 have hd:insDefF x=x.d:=by unfold insDefF;rw[if_pos hm]
 obtain⟨k,hk1,hk2⟩:=val_nat (makes_val hx hm)
 refine⟨k,by rw[hd,hk1],hk2,?_⟩
 unfold dropX
 rw[hd,hk1]
 have e3:decide (x.op=21)=false:=decide_eq_false h3
 have e4:decide (x.op=24)=false:=decide_eq_false h4
 rw[e3,e4]
 simp

set_option maxRecDepth 100000 in
theorem pruneLIn {N o3 uid bf b n id0 g0 off0:Nat} {w v wu:CV} {m:Int} {us:List Bool} {B Y0:Hp} {A D:List BlkR} {ps:List PhiR} {ls:List InsR} {t:TrmR} {e:Env} {Q:X×St→Prop} {x2:IV}
  (h0:PruneH N o3 uid bf w v m us B Y0 Y0 (A++⟨ps,[],t⟩ :: D)) (hA:A.length=b) (hun:us.length=n) (hN:N≤Y0.length) (hp:List5 B wu ls) (hb:ls.length≤BIG) (hix:idxOf 6 v (b:Int)=some (.p id0 g0 off0)) (hwu:rdC B id0 g0 (off0+1)=some wu) (hm:n=m.toNat) (hval:∀ x∈ls,insB x m=true)
  (e1:Env.get e 1=.c (.p bf 0 0)) (e2:Env.get e 2=x2) (e3:Env.get e 3=.c (.p o3 0 0)) (e4:Env.get e 4=.c (.sl uid 0 0 n)) (e5:Env.get e 5=.c (.i b)) (e8:Env.get e 8=.c (.i 0))
  (hQ:∀ (Y:Hp) (e':Env),PruneH N o3 uid bf w v m us B Y0 Y (A++⟨ps,ls.filter fun x=>!dropX us x,t⟩ :: D) →
   Env.get e' 1=.c (.p bf 0 0)→Env.get e' 2=x2→Env.get e' 3=.c (.p o3 0 0)→Env.get e' 4=.c (.sl uid 0 0 n)→Env.get e' 5=.c (.i b)→Q (.exit 4,⟨e',Y⟩)) :
  loopD (exW CM [0,1,2,3,4,5,6,7,8,9,14,22,43,59,88,108] vf12b1) ⟨e,Y0⟩ Q:=by
 obtain⟨I,hI⟩:∃ I:Nat→St→Prop,∀ j s,I j s↔(PruneH N o3 uid bf w v m us B Y0 s.h (A++⟨ps,(ls.take j).filter fun x=>!dropX us x,t⟩ :: D) ∧
   Env.get s.e 1=.c (.p bf 0 0)∧Env.get s.e 2=x2∧Env.get s.e 3=.c (.p o3 0 0)∧Env.get s.e 4=.c (.sl uid 0 0 n)∧Env.get s.e 5=.c (.i b)∧Env.get s.e 8=.c (.i j)):=⟨_,fun _ _=>Iff.rfl⟩
 obtain⟨oz,hoz⟩:=rdOb_of_rdC hwu
 refine wp_for CM_mono ls.length I ((hI _ ⟨_,_⟩).2 ⟨h0,e1,e2,e3,e4,e5,e8⟩) ?_ ?_
 ·rintro j ⟨e0,Y⟩ hj hIs
  obtain⟨hH,f1,f2,f3,f4,f5,f8⟩:=(hI _ _).1 hIs
  simp only at hH f1 f2 f3 f4 f5 f8 ⊢
  have hwuY:=rdC_to hH.pre hwu
  have hBf:=hH.pre.rdOb hH.box
  have hpY:=List5.pre hH.pre hp
  have hlz:=hpY.lenOf
  obtain⟨x,hx⟩:∃ x,ls[j]=x:=⟨_,rfl⟩
  obtain⟨id2,g2,off2,q1,q2,q3,_,_⟩:=List5.get hpY hj
  rw[hx]at q2 q3
  have hxB:=hval x (hx▸List.getElem_mem hj)
  have hsu:(ls.take (j+1)).filter (fun p=>!dropX us p)=(ls.take j).filter (fun p=>!dropX us p)++if dropX us x=true then [] else [x]:=by
   rw[List.take_succ_eq_append_getElem hj,List.filter_append,hx]
   congr 1
   cases hu:dropX us x<;>simp[hu]
  obtain⟨Y1,hY1⟩:∃ Y1,Y++[(⟨[.i x.op,.i x.d,.i x.a,.i x.b,.i x.n],0,true,5⟩:Ob)]=Y1:=⟨_,rfl⟩
  have hp1:Pre Y Y1:=⟨_,hY1.symm⟩
  have l1:Y1.length=Y.length+1:=by rw[← hY1];simp
  have n1:rdOb Y1 Y.length 0=some ⟨[.i x.op,.i x.d,.i x.a,.i x.b,.i x.n],0,true,5⟩:=by rw[← hY1];simp
  have hH1:PruneH N o3 uid bf w v m us B Y0 Y1 (A++⟨ps,(ls.take j).filter fun x=>!dropX us x,t⟩ :: D):=by rw[← hY1];exact hH.app _
  have hNY:N≤Y.length:=Nat.le_trans hN hH.len
  have hlo:=rdOb_lt hH.out
  have hlu:=rdOb_lt hH.used
  have hbl:b<(A++(⟨ps,(ls.take j).filter fun x=>!dropX us x,t⟩:BlkR) :: D).length:=by simp;omega
  have hat:(A++(⟨ps,(ls.take j).filter fun x=>!dropX us x,t⟩:BlkR) :: D)[b]=⟨ps,(ls.take j).filter fun x=>!dropX us x,t⟩:=by subst hA;exact mid_at _ _ _ hbl
  obtain⟨id,g,cells,z,u,Gu,r1,r2,r3,r4,r5,r6,r7,r8,r9,r10⟩:=hH1.tree.listH hbl
  rw[hat]at r6 r9 r10
  simp only at r6 r9 r10
  have o1:=hH1.out
  have hset:∀ x y:BlkR,(A++x :: D).set b y=A++y :: D:=fun x y=>by subst hA;exact mid_set _ _ _ _
  obtain⟨Y4,hY4⟩:∃ Y4,Y1++[(⟨[.i x.op,.i x.d,.i x.a,.i x.b,.i x.n],0,true,5⟩:Ob)]=Y4:=⟨_,rfl⟩
  have hp4:Pre Y1 Y4:=⟨_,hY4.symm⟩
  have l4:Y4.length=Y1.length+1:=by rw[← hY4];simp
  have n4:rdOb Y4 Y1.length 0=some ⟨[.i x.op,.i x.d,.i x.a,.i x.b,.i x.n],0,true,5⟩:=by rw[← hY4];simp
  have o4:=hp4.rdOb o1
  have b4:=hp4.rdOb r2
  have hsrc:srcOf Y4 5 (.sl Y1.length 0 0 1)=some (1,[.i x.op,.i x.d,.i x.a,.i x.b,.i x.n]):=by simp[srcOf,n4]
  have hR4:=r6.fr insF_st (Frm.pre hp4)
  have hcl:((ls.take j).filter fun p=>!dropX us p).length≤j:=Nat.le_trans (List.length_filter_le _ _) (by rw[List.length_take];omega)
  obtain⟨iz,gz,Y5,happ,hR5,hf5,l5⟩:=hR4.snoc insF_st (by omega) (by omega) (by omega) (cs:=[.i x.op,.i x.d,.i x.a,.i x.b,.i x.n]) (x:=x) (G:=fun _=>False) rfl
   (fun Z hZ=>rfl) (fun i hi=>hi.elim)
  have hid:=rdOb_lt r2
  obtain⟨s1,s2⟩:=r10 Y5 _ (.sl iz gz 0 (((ls.take j).filter fun p=>!dropX us p).length+1)) _ (by omega) ((Frm.pre hp4).trans (hf5.mono fun j hj=>hj.2)) hR5 (fun i hi=>by
   rcases hi with hi | hi | hi
   ·exact .inl hi
   ·exact hi.elim
   ·exact .inr ⟨by omega,by omega,by omega⟩) (by simp;omega)
  obtain⟨Y6,hY6⟩:∃ Y6,Y5.set id ⟨putAt cells (b * 6+1) [.sl iz gz 0 (((ls.take j).filter fun p=>!dropX us p).length+1)],g,true,6⟩=Y6:=⟨_,rfl⟩
  rw[hY6,hset]at s2
  have l6:Y6.length=Y5.length:=by rw[← hY6];simp
  have hb6:b * 6+1+1≤cells.length:=by omega
  have o5:rdOb Y5 o3 0=some ⟨[w,.i m],0,true,2⟩:=hf5.ob (fun hg=>by have:=(r7 _ hg).1;omega) o4
  have hfin:PruneH N o3 uid bf w v m us B Y0 Y6 (A++⟨ps,((ls.take j).filter fun p=>!dropX us p)++[x],t⟩ :: D):=by
   refine hH1.to s2 ?_ (by omega)
   refine (Frm.pre hp4).trans ((hf5.mono fun i hi hg=>hi (r7 _ hg).1).trans ?_)
   rw[← hY6]
   exact Frm.set _ _ (fun hn=>hn r8)
  unfold vf12b1
  cases hst:(decide (x.op=22) || decide (x.op=23) || decide (x.op=21) || decide (x.op=24)) with
  | true =>
   have hk:=keep_stay (us:=us) hst
   simp[f1,f2,f3,f4,f5,f8,rdC_ob hBf,hix,hwuY,hlz,hj,q1,q2.2.2.2.2.2,putAt_get5,hY1,rdN_ob n1,n1,l7Stays_call,-Bool.or_eq_true,hst,o1,rdC_ob o1,r1,r5,r2,hY4,hsrc,happ,o4,b4,o5,s1,hb6,hY6,up1 hj hb]
   refine (hI _ ⟨_,_⟩).2 ⟨?_,by simp⟩
   rw[hsu,hk]
   simpa using hfin
  | false =>
   obtain⟨kd,hk1,hk2,hk3⟩:=keep_else (us:=us) hxB hst
   obtain⟨i1,c1⟩:=rd_bool hH1.used hun (show kd<n by omega)
   cases hu:us.getD kd false with
   | false =>
    rw[hu]at c1 hk3
    simp[f1,f2,f3,f4,f5,f8,rdC_ob hBf,hix,hwuY,hlz,hj,q1,q2.2.2.2.2.2,putAt_get5,hY1,rdN_ob n1,l7Stays_call,-Bool.or_eq_true,hst,specInsDef,hk1,i1,c1,up1 hj hb]
    refine (hI _ ⟨_,_⟩).2 ⟨?_,by simp⟩
    rw[hsu,hk3]
    simpa using hH1
   | true =>
    rw[hu]at c1 hk3
    simp[f1,f2,f3,f4,f5,f8,rdC_ob hBf,hix,hwuY,hlz,hj,q1,q2.2.2.2.2.2,putAt_get5,hY1,rdN_ob n1,n1,l7Stays_call,-Bool.or_eq_true,hst,specInsDef,hk1,i1,c1,o1,rdC_ob o1,r1,r5,r2,hY4,hsrc,happ,o4,b4,o5,s1,hb6,hY6,up1 hj hb]
    refine (hI _ ⟨_,_⟩).2 ⟨?_,by simp⟩
    rw[hsu,hk3]
    simpa using hfin
 ·rintro⟨e0,Y⟩ hIs
  obtain⟨hH,f1,f2,f3,f4,f5,f8⟩:=(hI _ _).1 hIs
  simp only at hH f1 f2 f3 f4 f5 f8 ⊢
  have hwuY:=rdC_to hH.pre hwu
  have hBf:=hH.pre.rdOb hH.box
  have hlz:=(List5.pre hH.pre hp).lenOf
  rw[List.take_length]at hH
  unfold vf12b1
  simp[f1,f2,f3,f4,f5,f8,rdC_ob hBf,hix,hwuY,hlz]
  exact hQ Y _ hH (by simp) (by simp) (by simp) (by simp) (by simp)
set_option maxRecDepth 100000 in
theorem specPrune {H:Hp} {v:CV} {f:FnR} (hv:Blocks H v f.blocks) (hb:f.blocks.length≤BIG):CM 12 [.agg [v,.i f.values]] H (FnRes H (prune0 f)):=by
 refine cw12 ?_
 unfold vf12c
 obtain⟨X1,hX1⟩:∃ X1,H++[(⟨[v,.i f.values],0,true,2⟩:Ob),⟨[.ns,.i 0],0,true,2⟩]=X1:=⟨_,rfl⟩
 have hp1:Pre H X1:=⟨_,hX1.symm⟩
 have l1:X1.length=H.length+2:=by rw[← hX1];simp
 have hB1:rdOb X1 H.length 0=some ⟨[v,.i f.values],0,true,2⟩:=by rw[← hX1];simp
 have hR1:rdOb X1 (H.length+1) 0=some ⟨[.ns,.i 0],0,true,2⟩:=by rw[← hX1];simp
 simp[hX1,rdN_ob hB1]
 refine (specCopy (hv.pre hp1) hb).mono ?_
 rintro _ ⟨w,L1,rfl,hT⟩
 obtain⟨X2,hX2⟩:∃ X2,X1++L1=X2:=⟨_,rfl⟩
 rw[hX2]at hT ⊢
 have hp2:Pre X1 X2:=⟨_,hX2.symm⟩
 have l2:=hp2.le
 obtain⟨X3,hX3⟩:∃ X3,X2++[(⟨[w,.i f.values],0,true,2⟩:Ob)]=X3:=⟨_,rfl⟩
 have hp3:Pre X2 X3:=⟨_,hX3.symm⟩
 have l3:X3.length=X2.length+1:=by rw[← hX3];simp
 have hO3:rdOb X3 X2.length 0=some ⟨[w,.i f.values],0,true,2⟩:=by rw[← hX3];simp
 have hT3:Tree (fun j=>X1.length≤j∧j<X2.length) X3 w f.blocks:=hT.bound.fr blkF_st (Frm.pre hp3)
 have hB3:=hp3.rdOb (hp2.rdOb hB1)
 have hR3:=hp3.rdOb (hp2.rdOb hR1)
 have hp13:=hp1.trans (hp2.trans hp3)
 have hv3:=hv.pre hp13
 by_cases hck:checkF f=0
 ·have hg:prune0 f=⟨f.blocks.map (pruneB (usedW f)),f.values⟩:=by unfold prune0;rw[if_pos hck]
  have hW:=well_iff.1 hck
  have hsh:=hW.sh
  have hun:(usedW f).length=f.values.toNat:=usedW_len f
  obtain⟨us,hus⟩:∃ us,usedW f=us:=⟨_,rfl⟩
  obtain⟨n,hnt⟩:∃ n:Nat,f.values.toNat=n:=⟨_,rfl⟩
  have huse:=specUsedL hv3 hb hsh
  rw[hus]at hun hg huse
  rw[hnt]at hun huse
  obtain⟨X4,hX4⟩:∃ X4,X3++[KOb us]=X4:=⟨_,rfl⟩
  have hp4:Pre X3 X4:=⟨_,hX4.symm⟩
  have l4:X4.length=X3.length+1:=by rw[← hX4];simp
  have hU4:rdOb X4 X3.length 0=some (KOb us):=by rw[← hX4];simp
  have hR4:=hp4.rdOb hR3
  have hH0:PruneH X1.length X2.length X3.length H.length w v f.values us X1 X4 X4 f.blocks:=
   ⟨(hT3.fr blkF_st (Frm.pre hp4)).mono fun j hj=>by omega,hp4.rdOb hO3,hU4,hp2.trans (hp3.trans hp4),Nat.le_refl _,hB1,Frm.refl _ _,Nat.le_refl _⟩
  have hv1:=hv.pre hp1
  have hlv:=hv1.lenOf
  simp only[KOb]at hX4
  simp[putAt,hX3,rdN_ob hB3,specCheck hv3 hb,hck,huse,hX4]
  obtain⟨I,hI⟩:∃ I:Nat→St→Prop,∀ i s,I i s↔(PruneH X1.length X2.length X3.length H.length w v f.values us X1 X4 s.h ((f.blocks.take i).map (pruneB us)++f.blocks.drop i) ∧
   Env.get s.e 1=.c (.p H.length 0 0)∧Env.get s.e 2=.c (.p (H.length+1) 0 0)∧Env.get s.e 3=.c (.p X2.length 0 0)∧Env.get s.e 4=.c (.sl X3.length 0 0 n)∧Env.get s.e 5=.c (.i i)):=⟨_,fun _ _=>Iff.rfl⟩
  refine wp_for CM_mono f.blocks.length I ((hI _ ⟨_,_⟩).2 ⟨by simpa using hH0,by simp⟩) ?_ ?_
  ·rintro i ⟨e,Y⟩ hi hIs
   obtain⟨hH,e1,e2,e3,e4,e5⟩:=(hI _ _).1 hIs
   simp only at hH e1 e2 e3 e4 e5 ⊢
   obtain⟨b,hbb⟩:∃ b,f.blocks[i]=b:=⟨_,rfl⟩
   have hbm:b∈f.blocks:=hbb▸List.getElem_mem hi
   rw[drop_mid hi,hbb]at hH
   obtain⟨A,hA⟩:∃ A,(f.blocks.take i).map (pruneB us)=A:=⟨_,rfl⟩
   have hAl:A.length=i:=by rw[← hA];simp;omega
   have hAs:(f.blocks.take (i+1)).map (pruneB us)=A++[pruneB us b]:=by rw[List.take_succ_eq_append_getElem hi,List.map_append,hA,hbb];rfl
   rw[hA]at hH
   obtain⟨D,hD⟩:∃ D,f.blocks.drop (i+1)=D:=⟨_,rfl⟩
   rw[hD]at hH
   have hset:∀ x y:BlkR,(A++x :: D).set i y=A++y :: D:=fun x y=>by subst hAl;exact mid_set _ _ _ _
   obtain⟨id0,g0,off0,wz,wu,p1,p2,p3,pp,pl,ppl,pll,_,_⟩:=Blocks.get hv1 hi
   rw[hbb]at p2 p3 pp pl ppl pll
   have hBf:=hH.pre.rdOb hH.box
   have hlY:=(hv1.pre hH.pre).lenOf
   have hil:i<(A++b :: D).length:=by simp;omega
   have hat:(A++b :: D)[i]=b:=by subst hAl;exact mid_at _ _ _ hil
   obtain⟨id,g,cells,z,u,Gz,q1,q2,q3,q4,q5,q6,q7,q8,q9,q10⟩:=hH.tree.phisH hil
   rw[hat]at q10
   obtain⟨c1,c2⟩:=q10 Y [] .ns (fun _=>False) (Nat.le_refl _) (Frm.refl _ _) FRow.ns (fun j hj=>hj.elim) (by simp)
   obtain⟨Y1,hY1⟩:∃ Y1,Y.set id ⟨putAt cells (i * 6) [.ns],g,true,6⟩=Y1:=⟨_,rfl⟩
   rw[hY1,hset]at c2
   have hH1:=hH.to c2 (by rw[← hY1];exact Frm.set _ _ (fun hn=>hn q8)) (by rw[← hY1];simp)
   have hil1:i<(A++(⟨[],b.list,b.term⟩:BlkR) :: D).length:=by simp;omega
   have hat1:(A++(⟨[],b.list,b.term⟩:BlkR) :: D)[i]=⟨[],b.list,b.term⟩:=by subst hAl;exact mid_at _ _ _ hil1
   obtain⟨id',g',cells',z2,u2,Gu,r1,r2,r3,r4,r5,r6,r7,r8,r9,r10⟩:=hH1.tree.listH hil1
   rw[hat1]at r10
   obtain⟨d1,d2⟩:=r10 Y1 [] .ns (fun _=>False) (Nat.le_refl _) (Frm.refl _ _) FRow.ns (fun j hj=>hj.elim) (by simp)
   obtain⟨Y2,hY2⟩:∃ Y2,Y1.set id' ⟨putAt cells' (i * 6+1) [.ns],g',true,6⟩=Y2:=⟨_,rfl⟩
   rw[hY2,hset]at d2
   have hH2:=hH1.to d2 (by rw[← hY2];exact Frm.set _ _ (fun hn=>hn r8)) (by rw[← hY2];simp)
   have ei:id'=id∧g'=g:=by have e:=r1.symm.trans q1;injection e with e;injection e with e1 e2;exact⟨e1,e2⟩
   obtain⟨rfl,rfl⟩:=ei
   have hb1:i * 6+1≤cells.length:=by omega
   have hb2:i * 6+1+1≤cells'.length:=by omega
   have o1:=hH.out
   have o2:=hH1.out
   have hlX4:=hH.len
   have hN2:X1.length≤Y2.length:=by have:=hH2.len;omega
   have hH2':PruneH X1.length X2.length X3.length H.length w v f.values us X1 Y2 Y2 (A++⟨[],[],b.term⟩ :: D):=⟨hH2.tree,hH2.out,hH2.used,hH2.pre,hH2.bl,hH2.box,Frm.refl _ _,Nat.le_refl _⟩
   unfold vf12b2
   simp[e1,e2,e3,e4,e5,rdC_ob hBf,hlY,hi,rdC_ob o1,q1,c1,hb1,hY1,rdC_ob o2,d1,hb2,hY2]
   refine prunePIn (x2:=.c (.p (H.length+1) 0 0)) (ps:=b.phis) (ls:=[]) (n:=n) hH2' hAl hun hN2 pp ppl p1 p2.1 (fun p hp=>by
    obtain⟨k,h1,h2⟩:=val_nat (phi_vals (shape_phi hsh hbm hp)).1
    exact⟨k,h1,by omega⟩) (by simp[e1]) (by simp[e2]) (by simp[e3]) (by simp[e4]) (by simp[e5]) (by simp) ?_
   intro Y3 e' hH3 f1 f2 f3 f4 f5
   have hH3':PruneH X1.length X2.length X3.length H.length w v f.values us X1 Y3 Y3 (A++⟨b.phis.filter fun p=>!dropP us p,[],b.term⟩ :: D):=⟨hH3.tree,hH3.out,hH3.used,hH3.pre,hH3.bl,hH3.box,Frm.refl _ _,Nat.le_refl _⟩
   simp[f1,f2,f3,f4,f5]
   refine pruneLIn (x2:=.c (.p (H.length+1) 0 0)) (ls:=b.list) (n:=n) (m:=f.values) hH3' hAl hun (by have:=hH3.len;omega) pl pll p1 p2.2.1 hnt.symm (fun x hx=>shape_ins hsh hbm hx) (by simp) (by simp) (by simp) (by simp) (by simp) (by simp) ?_
   intro Y4 e'' hH4 g1 g2 g3 g4 g5
   simp[g1,g2,g3,g4,g5,up1 hi hb]
   refine (hI _ ⟨_,_⟩).2 ⟨?_,by simp[g1,g2,g3,g4]⟩
   rw[hAs,hD]
   have hfin:PruneH X1.length X2.length X3.length H.length w v f.values us X1 X4 Y4 (A++pruneB us b :: D):=
    ⟨hH4.tree,hH4.out,hH4.used,hH4.pre,hH4.bl,hH4.box,hH2.lo.trans (hH3.lo.trans hH4.lo),Nat.le_trans hH2.len (Nat.le_trans hH3.len hH4.len)⟩
   simpa using hfin
  ·rintro⟨e,Y⟩ hIs
   obtain⟨hH,e1,e2,e3,e4,e5⟩:=(hI _ _).1 hIs
   simp only at hH e1 e2 e3 e4 e5 ⊢
   rw[List.take_length,List.drop_length,List.append_nil]at hH
   have hBf:=hH.pre.rdOb hH.box
   have hlY:=(hv1.pre hH.pre).lenOf
   have hRY:rdOb Y (H.length+1) 0=some ⟨[.ns,.i 0],0,true,2⟩:=hH.lo.ob (by omega) hR4
   obtain⟨Y2,hY2⟩:∃ Y2,Y.set (H.length+1) ⟨[w,.i f.values],0,true,2⟩=Y2:=⟨_,rfl⟩
   have hR2:rdOb Y2 (H.length+1) 0=some ⟨[w,.i f.values],0,true,2⟩:=by rw[← hY2,rdOb_set_self (rdOb_lt hRY)];simp
   have hpY:Pre H Y:=hp1.trans hH.pre
   unfold vf12b2
   simp[e1,e2,e3,e4,e5,rdC_ob hBf,hlY,rdN_ob hH.out,hRY,putAt,hY2,rdN_ob hR2]
   rw[hg]
   refine FnRes.mk (H:=H) (g:=⟨f.blocks.map (pruneB us),f.values⟩) (S:=fun j=>X1.length≤j∧j≠X2.length∧j≠X3.length) ?_ ?_ (fun j hj=>by omega)
   ·rw[← hY2];exact hpY.set (by omega) _
   ·rw[← hY2];exact hH.tree.fr blkF_st (Frm.set _ _ (by omega))
 ·have hg:prune0 f=f:=by unfold prune0;rw[if_neg hck]
  obtain⟨X6,hX6⟩:∃ X6,X3.set (H.length+1) ⟨[w,.i f.values],0,true,2⟩=X6:=⟨_,rfl⟩
  have hR6:rdOb X6 (H.length+1) 0=some ⟨[w,.i f.values],0,true,2⟩:=by rw[← hX6,rdOb_set_self (rdOb_lt hR3)];simp
  simp[putAt,hX3,rdN_ob hB3,specCheck hv3 hb,hck,rdN_ob hO3,hR3,hX6,rdN_ob hR6,hg]
  refine FnRes.mk (H:=H) (g:=f) (S:=fun j=>X1.length≤j∧j<X2.length) ?_ ?_ (fun j hj=>by omega)
  ·rw[← hX6];exact hp13.set (by omega) _
  ·rw[← hX6];exact hT3.fr blkF_st (Frm.set _ _ (by omega))
def RunOut (H:Hp) (q:Int×Int×RunS) (r:IV×Hp):Prop:=
 ∃ Z tv,r=(.tup [(false,[tv]),(false,[.i q.1]),(false,[.i q.2.1])],Z)∧Pre H Z∧OutR Z tv q.2.2.told∧∀ id,IsOut tv id→H.length≤id

theorem OutR.form {X:Hp} {w:CV} {xs:List Int} (h:OutR X w xs):w=.ns∨∃ id g n,w=.sl id g 0 n:=by
 rcases h with⟨h,_⟩ | ⟨o,g,h,_⟩
 ·exact .inl h
 ·exact .inr ⟨o,g,_,h⟩

theorem RunOut.gc {H Z:Hp} {tv:CV} {x y:Int} {xs:List Int} (hp:Pre H Z) (ht:OutR Z tv xs) (ho:∀ id,IsOut tv id→H.length≤id) :
  ∃ Z',gcRet H (.tup [(false,[tv]),(false,[.i x]),(false,[.i y])]) Z=(.tup [(false,[tv]),(false,[.i x]),(false,[.i y])],Z')∧Pre H Z'∧OutR Z' tv xs:=by
 rcases ht.form with rfl | ⟨id,g,n,rfl⟩
 ·refine⟨H,gcRet_flat hp rfl,Pre.refl _,?_⟩
  rcases ht with⟨_,h⟩ | ⟨_,_,h,_⟩
  ·exact .inl ⟨rfl,h⟩
  ·cases h
 ·refine⟨Z,?_,hp,ht⟩
  unfold gcRet;split
  ·rw[if_neg (by simp[flatV,flatC])]
  ·rfl
def SInsRes (v:CV) (m:Int) (n:Nat) (κ:RK) (X:Hp) (c:Nat) (fu:Int) (q:Int×RunS) (r:IV×Hp):Prop:=
 ∃ κ' Z,r=(.c (.i q.1),Z)∧RInv false v m n κ' Z c 0 q.2 fu∧Fr κ κ' X Z

theorem SInsRes.mk' {v:CV} {m:Int} {n:Nat} {κ κ':RK} {X Y:Hp} {c:Nat} {s:RunS} {fu:Int} {q:Int×RunS} (h:RInv false v m n κ X c 0 s fu) (h':RInv false v m n κ' Y c 0 q.2 fu) (hf:Fr κ κ' X Y) :
  SInsRes v m n κ X c fu q (gcRet X (.c (.i q.1)) Y):=by
 obtain⟨κ2,Z,e,h1,h2⟩:=h.gc h' hf (r:=.c (.i q.1)) rfl
 rw[e]
 exact⟨κ2,Z,rfl,h1,h2⟩
def SRunRes (v:CV) (m:Int) (n:Nat) (κ:RK) (X:Hp) (c:Nat) (q:Int×Int×RunS) (r:IV×Hp):Prop:=
 ∃ κ' Z fu',r=(.tup [(false,[.i q.1]),(false,[.i q.2.1])],Z)∧RInv false v m n κ' Z c 0 q.2.2 fu'∧Fr κ κ' X Z

theorem SRunRes.mk' {v:CV} {m:Int} {n:Nat} {κ κ':RK} {X Y:Hp} {c:Nat} {s:RunS} {fu fu':Int} {q:Int×Int×RunS} (h:RInv false v m n κ X c 0 s fu) (h':RInv false v m n κ' Y c 0 q.2.2 fu') (hf:Fr κ κ' X Y) :
  SRunRes v m n κ X c q (gcRet X (.tup [(false,[.i q.1]),(false,[.i q.2.1])]) Y):=by
 obtain⟨κ2,Z,e,h1,h2⟩:=h.gc h' hf (r:=.tup [(false,[.i q.1]),(false,[.i q.2.1])]) rfl
 rw[e]
 exact⟨κ2,Z,fu',rfl,h1,h2⟩
def NewPs (m:Int) (reads:List Int) (κ:RK) (h:Hp) (vi ci ri g ti pi:Nat):Prop:=
 (κ vi=2∧rdOb h vi 0=some ⟨List.replicate m.toNat (.i 0),0,true,1⟩)∧(κ ci=3∧rdOb h ci 0=some ⟨List.replicate 8 (.i 0),0,true,1⟩)∧(κ ri=6∧rdOb h ri g=some ⟨reads.map .i,g,true,1⟩) ∧
 (κ ti=4∧rdOb h ti 0=some ⟨[],0,true,1⟩)∧(κ pi=5∧rdOb h pi 0=some ⟨[],0,true,1⟩)

def newP (m fuel φ:Int) (rv:CV) (reads:List Int) (κ:RK) (h:Hp) (u:IV):Nat→Prop
 | 0=>u=.c (.i m)
 | 1=>∃ i,u=.c (.sl i 0 0 m.toNat)∧κ i=2∧rdOb h i 0=some ⟨List.replicate m.toNat (.i 0),0,true,1⟩
 | 2=>∃ i,u=.c (.sl i 0 0 8)∧κ i=3∧rdOb h i 0=some ⟨List.replicate 8 (.i 0),0,true,1⟩
 | 3=>∃ i,u=.c (.sl i 0 0 0)∧κ i=6∧rdOb h i 0=some ⟨[],0,true,1⟩
 | 4=>u=.c rv
 | 5=>∃ i g,u=.c (.sl i g 0 reads.length)∧κ i=6∧rdOb h i g=some ⟨reads.map .i,g,true,1⟩
 | 6=>∃ i,u=.c (.sl i 0 0 0)∧κ i=4∧rdOb h i 0=some ⟨[],0,true,1⟩
 | 7=>∃ i,u=.c (.sl i 0 0 0)∧κ i=5∧rdOb h i 0=some ⟨[],0,true,1⟩
 | 8=>u=.c (.i fuel)
 | 9=>u=.c (.i φ)
 | 10=>∃ vi ci ri g ti pi,u=.agg [.sl vi 0 0 m.toNat,.sl ci 0 0 8,.sl ri g 0 reads.length,.sl ti 0 0 0,.sl pi 0 0 0,.i φ]∧NewPs m reads κ h vi ci ri g ti pi
 | _=>∃ c vi ci ri g ti pi,u=.c (.p c 0 0)∧κ c=1∧rdOb h c 0=some ⟨[.sl vi 0 0 m.toNat,.sl ci 0 0 8,.sl ri g 0 reads.length,.sl ti 0 0 0,.sl pi 0 0 0,.i φ],0,true,6⟩∧NewPs m reads κ h vi ci ri g ti pi

section

variable {m fuel φ:Int} {rv:CV} {reads:List Int} {κ κ':RK} {h h':Hp} {u:IV}

theorem NewPs.keep {vi ci ri g ti pi:Nat} (hp:NewPs m reads κ h vi ci ri g ti pi) (hk:∀ id gg o,κ id≠0→rdOb h id gg=some o→rdOb h' id gg=some o∧κ' id=κ id):NewPs m reads κ' h' vi ci ri g ti pi:=by
 obtain⟨⟨a1,a2⟩,⟨b1,b2⟩,⟨c1,c2⟩,⟨d1,d2⟩,⟨e1,e2⟩⟩:=hp
 have A:=hk _ _ _ (by omega) a2;have B:=hk _ _ _ (by omega) b2;have C:=hk _ _ _ (by omega) c2;have D:=hk _ _ _ (by omega) d2;have E:=hk _ _ _ (by omega) e2
 exact⟨⟨by rw[A.2];exact a1,A.1⟩,⟨by rw[B.2];exact b1,B.1⟩,⟨by rw[C.2];exact c1,C.1⟩,⟨by rw[D.2];exact d1,D.1⟩,⟨by rw[E.2];exact e1,E.1⟩⟩

theorem newP.keep {j:Nat} (hp:newP m fuel φ rv reads κ h u j) (hk:∀ id gg o,κ id≠0→rdOb h id gg=some o→rdOb h' id gg=some o∧κ' id=κ id):newP m fuel φ rv reads κ' h' u j:=by
 match j,hp with
 | 0,hp=>exact hp
 | 1,⟨i,a,b,c⟩=>have A:=hk _ _ _ (by omega) c;exact⟨i,a,by rw[A.2];exact b,A.1⟩
 | 2,⟨i,a,b,c⟩=>have A:=hk _ _ _ (by omega) c;exact⟨i,a,by rw[A.2];exact b,A.1⟩
 | 3,⟨i,a,b,c⟩=>have A:=hk _ _ _ (by omega) c;exact⟨i,a,by rw[A.2];exact b,A.1⟩
 | 4,hp=>exact hp
 | 5,⟨i,g,a,b,c⟩=>have A:=hk _ _ _ (by omega) c;exact⟨i,g,a,by rw[A.2];exact b,A.1⟩
 | 6,⟨i,a,b,c⟩=>have A:=hk _ _ _ (by omega) c;exact⟨i,a,by rw[A.2];exact b,A.1⟩
 | 7,⟨i,a,b,c⟩=>have A:=hk _ _ _ (by omega) c;exact⟨i,a,by rw[A.2];exact b,A.1⟩
 | 8,hp=>exact hp
 | 9,hp=>exact hp
 | 10,⟨vi,ci,ri,g,ti,pi,a,b⟩=>exact⟨vi,ci,ri,g,ti,pi,a,b.keep hk⟩
 | j+11,⟨c,vi,ci,ri,g,ti,pi,a,b,d,e⟩=>have A:=hk _ _ _ (by omega) d;exact⟨c,vi,ci,ri,g,ti,pi,a,by rw[A.2];exact b,A.1,e.keep hk⟩

end
def FuelRes (X:Hp) (c:Nat) (r:IV×Hp):Prop:=∃ n Z,r=(.c (.i n),Z)∧CurL c X Z∧-1≤n∧n≤5001

theorem FuelRes.mk' {X Z:Hp} {c:Nat} {n:Int} (h:CurL c X Z) (hx:Cur X c) (h1:-1≤n) (h2:n≤5001):FuelRes X c (gcRet X (.c (.i n)) Z):=by
 obtain⟨Z',e,hC⟩:=CurL.gc h hx (r:=.c (.i n)) rfl
 rw[e];exact⟨n,Z',rfl,hC,h1,h2⟩

theorem HiBlocks.to {lo:Nat} {X Y:Hp} {v:CV} {bs:List BlkR} (h:HiBlocks lo X v bs) (hh:Hi lo X Y):HiBlocks lo Y v bs:=fun Z hZ=>h Z (hh.trans hZ (Nat.le_refl _))
theorem drawPrune_call {H:Hp} {v:CV} {xs:List Int} (hv:IsB H v xs) (hb:xs.length≤BIG):CM 9 [.c v] H (FnOut H):=by
 refine cw9 ?_
 unfold vf9c
 simp
 have hv1:IsB (H++[(⟨[.ns,.i 0],0,true,2⟩:Ob)]) v xs:=Sl.app _ hv
 have hl:(H++[(⟨[.ns,.i 0],0,true,2⟩:Ob)]).length=H.length+1:=by simp
 have hR:rdOb (H++[(⟨[.ns,.i 0],0,true,2⟩:Ob)]) H.length 0=some ⟨[.ns,.i 0],0,true,2⟩:=by simp
 have hp1:Pre H (H++[(⟨[.ns,.i 0],0,true,2⟩:Ob)]):=⟨_,rfl⟩
 generalize H++[(⟨[.ns,.i 0],0,true,2⟩:Ob)]=X0 at hv1 hl hR hp1 ⊢
 refine (new_call hv1 hb).mono ?_
 rintro _ ⟨h,rfl⟩
 have hc:=new_cur hv1 hb h
 have hR1:=rdOb_app [(⟨[v,.i 0,.i h],0,true,3⟩:Ob)] hR
 have hp2:Pre H (X0++[(⟨[v,.i 0,.i h],0,true,3⟩:Ob)]):=hp1.app _
 have hl1:(X0++[(⟨[v,.i 0,.i h],0,true,3⟩:Ob)]).length=H.length+2:=by simp[hl]
 generalize X0++[(⟨[v,.i 0,.i h],0,true,3⟩:Ob)]=X1 at hc hR1 hp2 hl1 ⊢
 simp
 refine (draw_call hc).mono ?_
 rintro _ ⟨X,w,m,bs,rfl,⟨d,g,rfl⟩,C,hB,hbl,hb0⟩
 have hRX:=C.keep _ _ _ (by omega) hR1
 have hrd:rdN (X.set H.length ⟨[.sl d g 0 bs.length,.i m],0,true,2⟩) H.length 0 0 2=some [.sl d g 0 bs.length,.i m]:=by
  rw[rdN_ob (o:=⟨[.sl d g 0 bs.length,.i m],0,true,2⟩) (by rw[rdOb_set_self (rdOb_lt hRX)];simp)];simp
 have hgc:∀ (Y:Hp),gcRet H (.agg [.sl d g 0 bs.length,.i m]) Y=(.agg [.sl d g 0 bs.length,.i m],Y):=fun Y=>by
  unfold gcRet;split
  ·rw[if_neg (by simp[flatV,flatC])]
  ·rfl
 simp[putD0',hRX,hrd,hgc]
 exact⟨_,_,m,bs,rfl,rfl,((C.pre hp2 (by omega)).set (Nat.le_refl _) _),hB _ (Hi.set (lo:=X1.length) (by omega) _),hbl,hb0⟩
theorem prune0_leF {f:FnR} (hb:f.blocks.length≤BIG):(prune0 f).blocks.length≤BIG:=prune0_le hb

theorem fold0_leF {f:FnR} (hb:f.blocks.length≤BIG):(fold0 f).blocks.length≤BIG:=by
 unfold fold0
 split
 ·rename_i h
  have hsh:=(well_iff.1 h).sh
  have:=(foldTo_ok hsh (ordF f.blocks) (walk0_seen (shape_pos hsh)).1).len
  simp only;omega
 ·exact hb

set_option maxRecDepth 100000 in
theorem smaller_law {H:Hp} {v:CV} {xs:List Int} (hv:IsB H v xs):CM 3 [.c v] H Tru:=by
 refine cw3 ?_
 unfold vf3c
 simp[big_call hv.lenOf]
 by_cases hl:1048576<xs.length
 ·simp[hl]
 ·have hxb:xs.length≤BIG:=by simp only[BIG];omega
  simp[hl]
  refine (drawPrune_call hv hxb).mono ?_
  rintro _ ⟨X,w,m,bs,rfl,hfl,hp1,hB,hbl,hb0⟩
  obtain⟨g,hg⟩:∃ g:FnR,g=⟨bs,m⟩:=⟨_,rfl⟩
  obtain rfl:bs=g.blocks:=by rw[hg]
  obtain rfl:m=g.values:=by rw[hg]
  clear hg
  obtain⟨X1,hX1⟩:∃ X1,X++[(⟨[w,.i g.values],0,true,2⟩:Ob)]=X1:=⟨_,rfl⟩
  have hp2:Pre X X1:=⟨_,hX1.symm⟩
  have hg1:rdOb X1 X.length 0=some ⟨[w,.i g.values],0,true,2⟩:=by rw[← hX1];simp
  have hB1:=hB.pre hp2
  have hl1:=fold0_leF hbl
  have hl2:=prune0_leF hl1
  obtain⟨h1,hh1⟩:∃ h1,fold0 g=h1:=⟨_,rfl⟩
  obtain⟨h,hh⟩:∃ h,prune0 h1=h:=⟨_,rfl⟩
  have hid:=smaller_idem g
  rw[hh1]at hl1 hl2 hid
  rw[hh]at hl2 hid
  obtain⟨h2,hh2⟩:∃ h2,fold0 h=h2:=⟨_,rfl⟩
  have hl3:=fold0_leF hl2
  rw[hh2]at hid hl3
  simp[putAt,hX1,rdN_ob hg1]
  refine (implFold hB1 hbl).mono ?_
  rw[hh1]
  rintro _ ⟨w1,L1,rfl,hT1⟩
  obtain⟨X2,hX2⟩:∃ X2,X1++L1=X2:=⟨_,rfl⟩
  have hp3:Pre X1 X2:=⟨_,hX2.symm⟩
  rw[hX2]at hT1 ⊢
  simp
  refine (implPrune (Tree.blocks hT1) hl1).mono ?_
  rw[hh]
  rintro _ ⟨w2,L2,rfl,hT2⟩
  obtain⟨X3,hX3⟩:∃ X3,X2++L2=X3:=⟨_,rfl⟩
  have hp4:Pre X2 X3:=⟨_,hX3.symm⟩
  rw[hX3]at hT2 ⊢
  obtain⟨X4,hX4⟩:∃ X4,X3++[(⟨[w2,.i h.values],0,true,2⟩:Ob)]=X4:=⟨_,rfl⟩
  have hp5:Pre X3 X4:=⟨_,hX4.symm⟩
  have hA4:rdOb X4 X3.length 0=some ⟨[w2,.i h.values],0,true,2⟩:=by rw[← hX4];simp
  have hW4:=(Tree.blocks hT2).pre hp5
  have hp24:=hp3.trans (hp4.trans hp5)
  have hg4:=hp24.rdOb hg1
  simp[putAt,hX4,rdN_ob hg4]
  refine (specFold (hB1.pre hp24) hbl).mono ?_
  rw[hh1]
  rintro _ ⟨w3,L3,rfl,hT3⟩
  obtain⟨X5,hX5⟩:∃ X5,X4++L3=X5:=⟨_,rfl⟩
  have hp6:Pre X4 X5:=⟨_,hX5.symm⟩
  rw[hX5]at hT3 ⊢
  simp
  refine (specPrune (Tree.blocks hT3) hl1).mono ?_
  rw[hh]
  rintro _ ⟨w4,L4,rfl,hT4⟩
  obtain⟨X6,hX6⟩:∃ X6,X5++L4=X6:=⟨_,rfl⟩
  have hp7:Pre X5 X6:=⟨_,hX6.symm⟩
  rw[hX6]at hT4 ⊢
  obtain⟨X7,hX7⟩:∃ X7,X6++[(⟨[w4,.i h.values],0,true,2⟩:Ob)]=X7:=⟨_,rfl⟩
  have hp8:Pre X6 X7:=⟨_,hX7.symm⟩
  have hC7:rdOb X7 X6.length 0=some ⟨[w4,.i h.values],0,true,2⟩:=by rw[← hX7];simp
  have hV7:=(Tree.blocks hT4).pre hp8
  have hp47:=hp6.trans (hp7.trans hp8)
  have hA7:=hp47.rdOb hA4
  have hW7:=hW4.pre hp47
  simp[putAt,hX7,rdN_ob hA7,rdN_ob hC7,sameFn_call hW7 hV7 hl2]
  refine (implFold hW7 hl2).mono ?_
  rw[hh2]
  rintro _ ⟨w5,L5,rfl,hT5⟩
  obtain⟨X8,hX8⟩:∃ X8,X7++L5=X8:=⟨_,rfl⟩
  have hp9:Pre X7 X8:=⟨_,hX8.symm⟩
  rw[hX8]at hT5 ⊢
  simp
  refine (implPrune (Tree.blocks hT5) hl3).mono ?_
  rw[hid]
  rintro _ ⟨w6,L6,rfl,hT6⟩
  obtain⟨X9,hX9⟩:∃ X9,X8++L6=X9:=⟨_,rfl⟩
  have hp10:Pre X8 X9:=⟨_,hX9.symm⟩
  rw[hX9]at hT6 ⊢
  have hp79:=hp9.trans hp10
  have hA9:=hp79.rdOb hA7
  have hA8:=hp9.rdOb hA7
  have hC9:=hp79.rdOb hC7
  have hW9:=hW7.pre hp79
  have hV9:=hV7.pre hp79
  simp[hA7,hA8,hA9,rdN_ob hA9,rdN_ob hC9,sameFn_call (Tree.blocks hT6) hW9 hl2,implCost hW9 hl2,specCost hV9 hl2]
end Go.Proofs.YtiecgmmaihckeaaGreat.Vm
