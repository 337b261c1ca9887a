/- A part of the proof: the machine and the walks. No conditions. -/
import Derived.Test.YtiecgmmaihckeaaGreatW7
namespace Go.Proofs.YtiecgmmaihckeaaGreat.Vm
open Go.RowKit (wrap64)
set_option linter.unusedSimpArgs false
set_option linter.unusedVariables false
set_option maxRecDepth 100000
section

variable {α:Type} {P:Hp→List CV→α→(Nat→Prop)→Prop} {sz:Nat} {X:Hp} {F:Nat→Prop} {w:CV} {xs:List α}

theorem FRow.part (hP:Stab P) (h:FRow P sz X w xs F) {k:Nat} (hk:k<xs.length) :
  ∃ id g cells cs,∃ G:Nat→Prop,idxOf sz w (k:Int)=some (.p id g (k * sz))∧rdOb X id g=some ⟨cells,g,true,sz⟩∧k * sz+sz≤cells.length∧P X cs xs[k] G∧rdN X id g (k * sz) sz=some cs∧(∀ j c,cs[j]? = some c→rdC X id g (k * sz+j)=some c)∧F id ∧
   ∀ (j:Nat) (ys:List CV) (x':α),j+ys.length≤sz→(∀ Z G,P Z cs xs[k] G→P Z (putAt cs j ys) x' G) →
    FRow P sz (X.set id ⟨putAt cells (k * sz+j) ys,g,true,sz⟩) w (xs.set k x') F:=by
 obtain⟨id,g,cells,Fs,rfl,hc⟩:=h.open hk
 clear h
 have hfit:=hc.fit hk
 refine⟨id,g,cells,chk cells sz k,Fs k,idx_sl hk,hc.ob,hfit,hc.el k hk,hc.nn hk,fun j c hj=>?_,hc.own,fun j ys x' hj hp=>?_⟩
 ·have hjl:j<sz:=by
   have:=(List.getElem?_eq_some_iff.1 hj).1
   rwa [chk_len hfit]at this
  rw[hc.c hjl];exact hj
 ·have hset:∀ G:Nat→Prop,¬ G id→Frm G X (X.set id ⟨putAt cells (k * sz+j) ys,g,true,sz⟩):=fun G hG=>Frm.set X _ hG
  have:=(hc.put (Y:=X.set id ⟨putAt cells (k * sz+j) ys,g,true,sz⟩) (x':=x') (G':=Fs k) hP hk (j:=j) (ys:=ys) hj (by rw[rdOb_set_self hc.lt];simp) (hset _ fun hn=>hn.2.1 rfl)
   (fun i hi=>⟨(hc.sub k i hk hi).1,(hc.sub k i hk hi).2.1,by simpa using (hc.sub k i hk hi).2.2,.inl hi⟩) (hp _ _ (hP.st (hset _ fun hn=>(hc.sub k id hk hn).2.1 rfl) (hc.el k hk)))).row
  simpa using this

end

theorem Tree.termH {S:Nat→Prop} {X:Hp} {v:CV} {bs:List BlkR} {b:Nat} (h:Tree S X v bs) (hb:b<bs.length) :
  ∃ id g cells,idxOf 6 v (b:Int)=some (.p id g (b * 6))∧rdOb X id g=some ⟨cells,g,true,6⟩∧b * 6+6≤cells.length∧rdC X id g (b * 6+2+2)=some (.i bs[b].term.to)∧rdC X id g (b * 6+2+3)=some (.i bs[b].term.els) ∧
   rdN X id g (b * 6+2) 4=some [.i bs[b].term.kind,.i bs[b].term.a,.i bs[b].term.to,.i bs[b].term.els]∧S id ∧
   (∀ x:Int,Tree S (X.set id ⟨putAt cells (b * 6+2+2) [.i x],g,true,6⟩) v (setT bs b ⟨bs[b].term.kind,bs[b].term.a,x,bs[b].term.els⟩)) ∧
   (∀ x:Int,Tree S (X.set id ⟨putAt cells (b * 6+2+3) [.i x],g,true,6⟩) v (setT bs b ⟨bs[b].term.kind,bs[b].term.a,bs[b].term.to,x⟩)) ∧
   (∀ t:TrmR,Tree S (X.set id ⟨putAt cells (b * 6+2) (trmC t),g,true,6⟩) v (setT bs b t)):=by
 obtain⟨id,g,cells,cs,G,h1,h2,h3,h4,h5,h6,h7,h8⟩:=FRow.part blkF_st h hb
 obtain⟨z,u,Gz,Gu,rfl,h9⟩:=h4
 have hT:∀ t:TrmR,setT bs b t=bs.set b ⟨bs[b].phis,bs[b].list,t⟩:=fun t=>by unfold setT;rw[blk_at hb]
 refine⟨id,g,cells,h1,h2,h3,h6 4 _ rfl,h6 5 _ rfl,?_,h7,fun x=>?_,fun x=>?_,fun t=>?_⟩
 ·rw[rdN_ob h2,if_pos (by simp only;omega)]
  rw[rdN_ob h2,if_pos (by simpa using h3)]at h5
  injection h5 with h5
  simp only at h5 ⊢
  congr 1
  have h10:=congrArg (fun l=>(l.drop 2).take 4) h5
  simp only[List.drop_take,List.take_take,List.drop_drop]at h10
  exact h10
 ·rw[hT]
  exact h8 4 [.i x] ⟨bs[b].phis,bs[b].list,⟨bs[b].term.kind,bs[b].term.a,x,bs[b].term.els⟩⟩ (by simp) (fun Z G h=>by
   obtain⟨z',u',Gz,Gu,e,h⟩:=h
   injection e with e1 e2
   injection e2 with e2 e3
   subst e1;subst e2
   exact⟨z,u,Gz,Gu,rfl,h⟩)
 ·rw[hT]
  exact h8 5 [.i x] ⟨bs[b].phis,bs[b].list,⟨bs[b].term.kind,bs[b].term.a,bs[b].term.to,x⟩⟩ (by simp) (fun Z G h=>by
   obtain⟨z',u',Gz,Gu,e,h⟩:=h
   injection e with e1 e2
   injection e2 with e2 e3
   subst e1;subst e2
   exact⟨z,u,Gz,Gu,rfl,h⟩)
 ·rw[hT]
  exact h8 2 (trmC t) ⟨bs[b].phis,bs[b].list,t⟩ (by simp[trmC]) (fun Z G h=>by
   obtain⟨z',u',Gz,Gu,e,h⟩:=h
   injection e with e1 e2
   injection e2 with e2 e3
   subst e1;subst e2
   exact⟨z,u,Gz,Gu,rfl,h⟩)

structure SplitH (N o3:Nat) (E:Nat→Prop) (m:Int) (X0 Y:Hp) (w:CV) (bs:List BlkR):Prop where
 tree:Tree (fun j=>N≤j∧¬ E j∧j≠o3) Y w bs
 out:rdOb Y o3 0=some ⟨[w,.i m],0,true,2⟩
 fr:Frm (fun j=>j<X0.length∧(j<N∨(E j∧j≠o3))) X0 Y
 len:X0.length≤Y.length

theorem SplitH.app {N o3:Nat} {E:Nat→Prop} {m:Int} {X0 Y:Hp} {w:CV} {bs:List BlkR} (h:SplitH N o3 E m X0 Y w bs) (L:Hp):SplitH N o3 E m X0 (Y++L) w bs:=
 ⟨h.tree.fr blkF_st (Frm.app _ _ _),rdOb_app L h.out,h.fr.trans (Frm.app _ _ _),by have:=h.len;simp only[List.length_append];omega⟩

theorem SplitH.to {N o3:Nat} {E:Nat→Prop} {m:Int} {X0 Y Z:Hp} {w:CV} {bs bs':List BlkR} (h:SplitH N o3 E m X0 Y w bs) (hN:N≤o3) (hT:Tree (fun j=>N≤j∧¬ E j∧j≠o3) Z w bs') (hf:Frm (fun j=>j<Y.length∧¬ (N≤j∧¬ E j∧j≠o3)) Y Z) (hl:Y.length≤Z.length):SplitH N o3 E m X0 Z w bs':=
 ⟨hT,hf.ob ⟨rdOb_lt h.out,by omega⟩ h.out,h.fr.trans (hf.mono fun j hj=>⟨by have:=h.len;omega,fun hn=>by rcases hj.2 with h1 | h1;omega;exact hn.2.1 h1.1⟩),Nat.le_trans h.len hl⟩

theorem SplitH.push {N o3:Nat} {E:Nat→Prop} {m:Int} {X0 Y:Hp} {w:CV} {bs:List BlkR} (h:SplitH N o3 E m X0 Y w bs) (hN:N≤o3) (hNY:N≤Y.length) (hE:∀ j,E j→j<Y.length) (hb:bs.length≤BIG) (k:Int) :
  ∃ i' g' Y1 Z Z2,Y++[(⟨[.ns,.ns,.i 1,.i 0,.i k,.i 0],0,true,6⟩:Ob)]=Y1∧srcOf Y1 6 (.sl Y.length 0 0 1)=some (1,[.ns,.ns,.i 1,.i 0,.i k,.i 0]) ∧
   doApp Y1 6 w 1 [.ns,.ns,.i 1,.i 0,.i k,.i 0]=some (.c (.sl i' g' 0 (bs.length+1)),Z)∧rdOb Z o3 0=some ⟨[w,.i m],0,true,2⟩∧Z.set o3 ⟨[.sl i' g' 0 (bs.length+1),.i m],0,true,2⟩=Z2 ∧
   SplitH N o3 E m X0 Z2 (.sl i' g' 0 (bs.length+1)) (splitN bs k)∧Y.length≤Z2.length∧Frm (fun j=>j<Y.length∧(j<N∨E j∧j≠o3)) Y Z2:=by
 obtain⟨Y1,hY1⟩:∃ Y1,Y++[(⟨[.ns,.ns,.i 1,.i 0,.i k,.i 0],0,true,6⟩:Ob)]=Y1:=⟨_,rfl⟩
 have hp1:Pre Y Y1:=⟨_,hY1.symm⟩
 have l1:Y1.length=Y.length+1:=by rw[← hY1];simp
 have n1:rdOb Y1 Y.length 0=some ⟨[.ns,.ns,.i 1,.i 0,.i k,.i 0],0,true,6⟩:=by rw[← hY1];simp
 have hlo:=rdOb_lt h.out
 obtain⟨i',g',Z,happ,hT,hf,hl⟩:=(h.tree.fr blkF_st (Frm.pre hp1)).snoc blkF_st hb (by omega) (by omega) (cs:=[.ns,.ns,.i 1,.i 0,.i k,.i 0]) (x:=⟨[],[],⟨1,0,k,0⟩⟩) (G:=fun _=>False) rfl
  (fun W hW=>⟨.ns,.ns,fun _=>False,fun _=>False,rfl,FRow.ns,FRow.ns,fun i hi=>hi.elim,fun i hi=>hi.elim,by simp,by simp⟩) (fun i hi=>hi.elim)
 have hOZ:rdOb Z o3 0=some ⟨[w,.i m],0,true,2⟩:=hf.ob (fun hn=>hn.2.2 rfl) (hp1.rdOb h.out)
 refine⟨i',g',Y1,Z,_,rfl.trans hY1,by simp[srcOf,n1],happ,hOZ,rfl,⟨?_,?_,?_,?_⟩,?_,?_⟩
 ·refine (hT.fr blkF_st (Frm.set _ _ ?_)).mono fun j hj=>?_
  ·rintro (hn | hn | hn)
   ·exact hn.2.2 rfl
   ·exact hn
   ·omega
  ·rcases hj with hj | hj | hj
   ·exact hj
   ·exact hj.elim
   ·exact⟨by omega,fun he=>by have:=hE j he;omega,by omega⟩
 ·rw[rdOb_set_self (rdOb_lt hOZ)];simp
 ·refine h.fr.trans ((Frm.pre hp1).trans ((hf.mono fun j hj hn=>?_).trans (Frm.set _ _ ?_)))
  ·rcases hj.2 with h1 | h1
   ·omega
   ·exact hn.2.1 h1.1
  ·intro hn;rcases hn.2 with h1 | h1
   ·omega
   ·exact h1.2 rfl
 ·simp only[List.length_set];have:=h.len;omega
 ·simp only[List.length_set];omega
 ·refine (Frm.pre hp1).trans ((hf.mono fun j hj hn=>?_).trans (Frm.set _ _ ?_))
  ·rcases hj.2 with h1 | h1
   ·omega
   ·exact hn.2.1 h1.1
  ·intro hn;rcases hn.2 with h1 | h1
   ·omega
   ·exact h1.2 rfl

def FnRes2 (H:Hp) (g:FnR) (ok:Bool) (r:IV×Hp):Prop:=∃ w L,r=(.tup [(true,[w,.i g.values]),(false,[.b ok])],H++L)∧Tree (fun i=>H.length≤i) (H++L) w g.blocks

theorem FnRes2.mk {H X:Hp} {w:CV} {g:FnR} {ok:Bool} {S:Nat→Prop} (hp:Pre H X) (hT:Tree S X w g.blocks) (hS:∀ j,S j→H.length≤j):FnRes2 H g ok (gcRet H (.tup [(true,[w,.i g.values]),(false,[.b ok])]) X):=by
 have hT:=FRow.mono hT hS
 rcases FRow.form hT with rfl | ⟨i',g',n',rfl⟩
 ·have hbs:g.blocks=[]:=by
   rcases hT with⟨_,h⟩ | ⟨_,_,_,_,h,_⟩
   ·exact h
   ·cases h
  rw[gcRet_flat hp (show flatV (.tup [(true,[.ns,.i g.values]),(false,[.b ok])])=true from rfl)]
  exact⟨.ns,[],by simp,.inl ⟨rfl,hbs⟩⟩
 ·have e:gcRet H (.tup [(true,[.sl i' g' 0 n',.i g.values]),(false,[.b ok])]) X=(.tup [(true,[.sl i' g' 0 n',.i g.values]),(false,[.b ok])],X):=by
   unfold gcRet
   split
   ·rw[if_neg (by simp[flatV,flatC])]
   ·rfl
  rw[e]
  obtain⟨L,rfl⟩:=hp
  exact⟨_,L,rfl,hT⟩
theorem q40 (a b c d x:CV):putAt [a,b,c,d] 0 [x]=[x,b,c,d]:=rfl

theorem q42 (a b c d x:CV):putAt [a,b,c,d] 2 [x]=[a,b,x,d]:=rfl

theorem q62 (a b c d e f w x y z:CV):putAt [a,b,c,d,e,f] 2 [w,x,y,z]=[a,b,w,x,y,z]:=rfl

theorem q60 (a b c d e f u v w x y z:CV):putAt [a,b,c,d,e,f] 0 [u,v,w,x,y,z]=[u,v,w,x,y,z]:=rfl

theorem setP_at (bs:List BlkR) (k:Nat) (hk:k<bs.length) (ps:List PhiR):setP bs k ps=bs.set k ⟨ps,bs[k].list,bs[k].term⟩:=by unfold setP;rw[blk_at hk]
theorem q43 (a b c d x:CV):putAt [a,b,c,d] 3 [x]=[a,b,c,x]:=rfl

theorem q44 (a b c d w x y z:CV):putAt [a,b,c,d] 0 [w,x,y,z]=[w,x,y,z]:=rfl

set_option maxRecDepth 100000 in
theorem specSplit {H:Hp} {v:CV} {f:FnR} (hv:Blocks H v f.blocks) (hb:f.blocks.length≤BIG):CM 22 [.agg [v,.i f.values]] H (FnRes2 H (split0 f) (splitOk f)):=by
 refine cw22 ?_
 unfold vf22c
 obtain⟨X1,hX1⟩:∃ X1,H++[(⟨[v,.i f.values],0,true,2⟩:Ob),⟨[.ns,.i 0],0,true,2⟩]=X1:=⟨_,rfl⟩
 have hp1:Pre H X1:=⟨_,hX1.symm⟩
 have l1:X1.length=H.length+2:=by rw[← hX1];simp
 have hB1:rdOb X1 H.length 0=some ⟨[v,.i f.values],0,true,2⟩:=by rw[← hX1];simp
 have hR1:rdOb X1 (H.length+1) 0=some ⟨[.ns,.i 0],0,true,2⟩:=by rw[← hX1];simp
 simp[hX1,rdN_ob hB1]
 refine (specCopy (hv.pre hp1) hb).mono ?_
 rintro _ ⟨w,L1,rfl,hT⟩
 obtain⟨X2,hX2⟩:∃ X2,X1++L1=X2:=⟨_,rfl⟩
 rw[hX2]at hT ⊢
 have hp2:Pre X1 X2:=⟨_,hX2.symm⟩
 have l2:=hp2.le
 obtain⟨X3,hX3⟩:∃ X3,X2++[(⟨[w,.i f.values],0,true,2⟩:Ob)]=X3:=⟨_,rfl⟩
 have hp3:Pre X2 X3:=⟨_,hX3.symm⟩
 have l3:X3.length=X2.length+1:=by rw[← hX3];simp
 have hO3:rdOb X3 X2.length 0=some ⟨[w,.i f.values],0,true,2⟩:=by rw[← hX3];simp
 have hT3:Tree (fun j=>X1.length≤j∧j<X2.length) X3 w f.blocks:=hT.bound.fr blkF_st (Frm.pre hp3)
 have hB3:=hp3.rdOb (hp2.rdOb hB1)
 have hR3:=hp3.rdOb (hp2.rdOb hR1)
 have hp13:=hp1.trans (hp2.trans hp3)
 have hv3:=hv.pre hp13
 have hfalse:∀ (h:¬ (checkF f=0∧f.blocks.length+(crit0 f).length≤16)),split0 f=f∧splitOk f=false:=fun h=>⟨by unfold split0;rw[if_neg h],pB_false h⟩
 have hbad:∀ X4 X6,Pre X3 X4→X4.set (H.length+1) ⟨[w,.i f.values],0,true,2⟩=X6→FnRes2 H f false (gcRet H (.tup [(true,[w,.i f.values]),(false,[.b false])]) X6):=by
  intro X4 X6 hp4 hX6
  refine FnRes2.mk (H:=H) (g:=f) (S:=fun j=>X1.length≤j∧j<X2.length) ?_ ?_ (fun j hj=>by omega)
  ·rw[← hX6];exact (hp13.trans hp4).set (by omega) _
  ·rw[← hX6];exact (hT3.fr blkF_st (Frm.pre hp4)).fr blkF_st (Frm.set _ _ (by omega))
 by_cases hck:checkF f=0
 ·have hsh:=(well_iff.1 hck).sh
  have hcrit:=specCrit (m:=f.values) hv3 (shape_range hsh) hb
  have hc0:critTo f.blocks f.blocks.length=crit0 f:=by unfold crit0;rw[if_pos hsh]
  rw[hc0]at hcrit
  obtain⟨X4,hX4⟩:∃ X4,X3++[(⟨edC (crit0 f),0,true,2⟩:Ob)]=X4:=⟨_,rfl⟩
  have hp4:Pre X3 X4:=⟨_,hX4.symm⟩
  have l4:=hp4.le
  obtain⟨ew,hewd⟩:∃ ew,CV.sl X3.length 0 0 (crit0 f).length=ew:=⟨_,rfl⟩
  have hew:RowE X3 ew [⟨edC (crit0 f),0,true,2⟩] (crit0 f):=.inr ⟨hewd.symm,rfl⟩
  have hE4:Arms X4 ew (crit0 f):=by rw[← hX4];exact hew.isE
  have hle:=hE4.lenOf
  have hO4:=hp4.rdOb hO3
  have hB4:=hp4.rdOb hB3
  have hR4:=hp4.rdOb hR3
  have hv4:=hv3.pre hp4
  have hlv:=hv4.lenOf
  have hcs:=crit0_small (f:=f)
  have hw64:-9223372036854775808≤(f.blocks.length:Int)+((crit0 f).length:Int)∧(f.blocks.length:Int)+((crit0 f).length:Int)≤9223372036854775807:=by simp only[BIG]at hb hcs;omega
  have hid:∀ id g off n,ew=.sl id g off n→id=X3.length:=fun id g off n e=>by
   rw[← hewd]at e;cases e;rfl
  obtain⟨X6,hX6⟩:∃ X6,X4.set (H.length+1) ⟨[w,.i f.values],0,true,2⟩=X6:=⟨_,rfl⟩
  have hR6:rdOb X6 (H.length+1) 0=some ⟨[w,.i f.values],0,true,2⟩:=by rw[← hX6,rdOb_set_self (rdOb_lt hR4)];simp
  rw[hewd]at hcrit
  by_cases hlen:f.blocks.length+(crit0 f).length≤16
  ·have hg:split0 f=⟨(crit0 f).foldl splitE f.blocks,f.values⟩∧splitOk f=true:=⟨by unfold split0;rw[if_pos ⟨hck,hlen⟩],pB_true ⟨hck,hlen⟩⟩
   have hn16:¬ (16<(f.blocks.length:Int)+((crit0 f).length:Int)):=by omega
   simp[putAt,hX3,rdN_ob hB3,specCheck hv3 hb,hck,hcrit,hX4,rdC_ob hB4,hlv,hle,wrap64_id hw64,hn16]
   clear hw64
   obtain⟨es,hes⟩:∃ es,crit0 f=es:=⟨_,rfl⟩
   have hin:∀ e∈es,∃ u k:Nat,e=⟨u,k⟩∧u<f.blocks.length∧k<f.blocks.length:=fun e he=>by
    rw[← hes]at he
    obtain⟨_,u,k,h1,h2,h3,_⟩:=crit0_in he
    exact⟨u,k,h1,h2,h3⟩
   rw[hes]at hE4 hle hlen hg
   have hH0:SplitH X1.length X2.length (fun j=>j=X3.length∧j<X4.length) f.values X4 X4 w f.blocks:=
    ⟨(hT3.fr blkF_st (Frm.pre hp4)).mono fun j hj=>⟨hj.1,by omega,by omega⟩,hO4,Frm.refl _ _,Nat.le_refl _⟩
   obtain⟨I,hI⟩:∃ I:Nat→St→Prop,∀ i s,I i s↔(∃ w',SplitH X1.length X2.length (fun j=>j=X3.length∧j<X4.length) f.values X4 s.h w' ((es.take i).foldl splitE f.blocks) ∧
    Env.get s.e 2=.c (.p (H.length+1) 0 0)∧Env.get s.e 4=.c (.p X2.length 0 0)∧Env.get s.e 5=.c ew∧Env.get s.e 6=.c (.i i)):=⟨_,fun _ _=>Iff.rfl⟩
   refine wp_for CM_mono es.length I ((hI _ ⟨_,_⟩).2 ⟨w,by simpa using hH0,by simp⟩) ?_ ?_
   ·rintro i ⟨e,Y⟩ hi hIs
    obtain⟨w',hH,e2,e4,e5,e6⟩:=(hI _ _).1 hIs
    simp only at hH e2 e4 e5 e6 ⊢
    obtain⟨u,k,hek,hu,hk⟩:=hin es[i] (List.getElem_mem hi)
    obtain⟨bs,hbs⟩:∃ bs,(es.take i).foldl splitE f.blocks=bs:=⟨_,rfl⟩
    have hbl:bs.length=f.blocks.length+i:=by rw[← hbs,splits_len,List.length_take];omega
    have hsucc:(es.take (i+1)).foldl splitE f.blocks=splitE bs ⟨u,k⟩:=by rw[List.take_succ_eq_append_getElem hi,List.foldl_append,hbs,hek];rfl
    rw[hbs]at hH
    have hEY:Arms Y ew es:=by
     obtain⟨css,h1,h2,h3⟩:=hE4
     refine⟨css,?_,h2,h3⟩
     rcases h1 with⟨a,b,c⟩ | ⟨id,g,off,o,a,b,c⟩
     ·exact .inl ⟨a,b,c⟩
     ·have hlt:=rdOb_lt b
      have:=hid _ _ _ _ a
      exact .inr ⟨id,g,off,o,a,hH.fr.ob ⟨hlt,.inr ⟨⟨this,hlt⟩,by omega⟩⟩ b,c⟩
    have hXY:=hH.len
    have hleY:=hEY.lenOf
    obtain⟨eid,eg,eoff,q1,⟨_,_,q2⟩,_⟩:=Arms.get hEY hi
    rw[hek]at q2
    simp only at q2
    obtain⟨Y1,hY1⟩:∃ Y1,Y++[(⟨[.i (u:Int),.i (k:Int)],0,true,2⟩:Ob)]=Y1:=⟨_,rfl⟩
    have hp1Y:Pre Y Y1:=⟨_,hY1.symm⟩
    have lY1:Y1.length=Y.length+1:=by rw[← hY1];simp
    have n1:rdOb Y1 Y.length 0=some ⟨[.i (u:Int),.i (k:Int)],0,true,2⟩:=by rw[← hY1];simp
    have hY4l:X4.length≤Y.length:=hXY
    have hH1:SplitH X1.length X2.length (fun j=>(j=X3.length∧j<X4.length)∨j=Y.length) f.values Y1 Y1 w' bs:=
     ⟨((FRow.bound hH.tree).fr blkF_st (Frm.pre hp1Y)).mono fun j hj=>⟨hj.1.1,fun hn=>by rcases hn with hn | hn;exact hj.1.2.1 hn;omega,hj.1.2.2⟩,hp1Y.rdOb hH.out,Frm.refl _ _,Nat.le_refl _⟩
    have hlw:=FRow.lenOf hH1.tree
    have hbB:bs.length≤BIG:=by simp only[BIG];omega
    obtain⟨i',g',Y2,Y3,Y4,hY2,hsrc,happ,hO3',hY4,hH4,lY4,_⟩:=hH1.push (by omega) (by omega) (fun j hj=>by omega) hbB (k:Int)
    have n2:rdOb Y2 Y.length 0=some ⟨[.i (u:Int),.i (k:Int)],0,true,2⟩:=by rw[← hY2];exact rdOb_app _ n1
    have o2:rdOb Y2 X2.length 0=some ⟨[w',.i f.values],0,true,2⟩:=by rw[← hY2];exact rdOb_app _ hH1.out
    have o1:=hH1.out
    obtain⟨w4,hw4⟩:∃ w4,CV.sl i' g' 0 (bs.length+1)=w4:=⟨_,rfl⟩
    rw[hw4]at hH4
    have hY4w:Y3.set X2.length ⟨[.sl i' g' 0 (bs.length+1),.i f.values],0,true,2⟩=Y4:=hY4
    have nE:∀ Z bz,SplitH X1.length X2.length (fun j=>(j=X3.length∧j<X4.length)∨j=Y.length) f.values Y1 Z w4 bz→rdOb Z Y.length 0=some ⟨[.i (u:Int),.i (k:Int)],0,true,2⟩:=fun Z bz h=>h.fr.ob ⟨by omega,.inr ⟨.inr rfl,by omega⟩⟩ n1
    have n4:=nE _ _ hH4
    obtain⟨b1,hb1⟩:∃ b1,splitN bs k=b1:=⟨_,rfl⟩
    rw[hb1]at hH4
    have hb1l:b1.length=bs.length+1:=by rw[← hb1,splitN_len]
    have hu1:u<b1.length:=by omega
    have hk1:k<b1.length:=by omega
    obtain⟨id,g,cells,c1,c2,c3,c4,c5,c6,c7,c8,c9,c10⟩:=hH4.tree.termH hu1
    obtain⟨tt,htt⟩:∃ tt,b1[u].term=tt:=⟨_,rfl⟩
    rw[htt]at c4 c5 c6 c8 c9
    have hSE:splitE bs ⟨u,k⟩=setP (setT b1 u (turnT k bs.length tt)) k (((setT b1 u (turnT k bs.length tt))[k]'(by rw[setT_len];exact hk1)).phis.map (turnP u bs.length)):=by
     unfold splitE
     simp only[Int.toNat_natCast]
     rw[hb1,blk_at hu1,htt,blk_at (by rw[setT_len];exact hk1)]
    have fin:∀ (Z:Hp) (tF:TrmR),tF=turnT k bs.length tt→SplitH X1.length X2.length (fun j=>(j=X3.length∧j<X4.length)∨j=Y.length) f.values Y1 Z w4 (setT b1 u tF)→X4.length≤Z.length →
      ∃ id3 g3 z,∃ Gz:Nat→Prop,∃ ps:List PhiR,idxOf 6 w4 (k:Int)=some (.p id3 g3 (k * 6))∧rdC Z id3 g3 (k * 6)=some z∧FRow phiF 2 Z z ps Gz∧ps.length≤BIG∧(∀ j,Gz j→j<Z.length)∧¬ Gz Y.length ∧
       ∀ Z',FRow phiF 2 Z' z (ps.map (turnP u bs.length)) Gz→Frm (fun j=>j<Z.length∧¬ Gz j) Z Z'→Z.length≤Z'.length→SplitH X1.length X2.length (fun j=>j=X3.length∧j<X4.length) f.values X4 Z' w4 (splitE bs ⟨u,k⟩):=by
     intro Z tF htF hZ hlZ
     subst htF
     have hkT:k<(setT b1 u (turnT k bs.length tt)).length:=by rw[setT_len];exact hk1
     obtain⟨id3,g3,z,Gz,d1,d2,d3,d4,d5,d6,d7⟩:=hZ.tree.phis hkT
     refine⟨id3,g3,z,Gz,_,d1,d2,d3,d6,fun j hj=>(d4 j hj).2.1,fun hn=>(d4 _ hn).1.2.1 (.inr rfl),fun Z' hr hf hl=>?_⟩
     have hT':=d7 Z' _ hl (hf.monoL fun j hj h=>⟨hj,h.2⟩) hr (by rw[List.length_map];exact d6)
     rw[hSE,setP_at _ _ hkT]
     have hH7:=hZ.to (by omega) hT' (hf.mono fun j hj=>⟨hj.1,fun hn=>hj.2 (d4 j hn).1⟩) hl
     refine⟨hH7.tree.mono fun j hj=>⟨hj.1,fun hn=>hj.2.1 (.inl hn),hj.2.2⟩,hH7.out,hH.fr.trans ((Frm.pre hp1Y).trans (hH7.fr.mono fun j hj=>⟨by omega,by rcases hj.2 with h | h;exact .inl h;exact .inr ⟨.inl h.1,h.2⟩⟩)),by omega⟩
    have hid4:=rdOb_lt c2
    have o4:=hH4.out
    obtain⟨Y5,hY5⟩:∃ Y5,Y4++[(⟨[.i tt.kind,.i tt.a,.i tt.to,.i tt.els],0,true,4⟩:Ob)]=Y5:=⟨_,rfl⟩
    have hp5:Pre Y4 Y5:=⟨_,hY5.symm⟩
    have lY5:Y5.length=Y4.length+1:=by rw[← hY5];simp
    have t5:rdOb Y5 Y4.length 0=some ⟨[.i tt.kind,.i tt.a,.i tt.to,.i tt.els],0,true,4⟩:=by rw[← hY5];simp
    have n5:=hp5.rdOb n4
    unfold vf22b2
    cases hA:decide (tt.to=(k:Int)) with
    | true =>
     have hA':=of_decide_eq_true hA
     obtain⟨Y6,hY6⟩:∃ Y6,Y5.set Y4.length ⟨[.i tt.kind,.i tt.a,.i (bs.length:Int),.i tt.els],0,true,4⟩=Y6:=⟨_,rfl⟩
     have hp6:Pre Y4 Y6:=by rw[← hY6];exact hp5.set (Nat.le_refl _) _
     have t6:rdOb Y6 Y4.length 0=some ⟨[.i tt.kind,.i tt.a,.i (bs.length:Int),.i tt.els],0,true,4⟩:=by rw[← hY6,rdOb_set_self (by omega)];simp
     have n6:=hp6.rdOb n4
     cases hB:decide (tt.els=(k:Int)) with
     | true =>
      have hB':=of_decide_eq_true hB
      obtain⟨Y7,hY7⟩:∃ Y7,Y6.set Y4.length ⟨[.i tt.kind,.i tt.a,.i (bs.length:Int),.i (bs.length:Int)],0,true,4⟩=Y7:=⟨_,rfl⟩
      have hp7:Pre Y4 Y7:=by rw[← hY7];exact hp6.set (Nat.le_refl _) _
      have tZ:rdOb Y7 Y4.length 0=some ⟨[.i tt.kind,.i tt.a,.i (bs.length:Int),.i (bs.length:Int)],0,true,4⟩:=by rw[← hY7,rdOb_set_self (rdOb_lt t6)];simp
      have hpZ:Pre Y4 Y7:=hp7
      have hHZ:SplitH X1.length X2.length (fun j=>(j=X3.length∧j<X4.length)∨j=Y.length) f.values Y1 Y7 w4 b1:=by
       have hpZ9:=hpZ;obtain⟨LZ,hLZ⟩:=hpZ9
       rw[hLZ];exact hH4.app LZ
      obtain⟨idz,gz,cellsz,z1,z2,z3,_,_,_,z7,_,_,z10⟩:=hHZ.tree.termH hu1
      have ez:idz=id∧gz=g:=by have e:=z1.symm.trans c1;injection e with e;injection e with e1 e2;exact⟨e1,e2⟩
      obtain⟨rfl,rfl⟩:=ez
      obtain⟨Y8,hY8⟩:∃ Y8,(Y7:Hp).set idz ⟨putAt cellsz (u * 6+2) [.i tt.kind,.i tt.a,.i (bs.length:Int),.i (bs.length:Int)],gz,true,6⟩=Y8:=⟨_,rfl⟩
      have z10':=z10 ⟨tt.kind,tt.a,(bs.length:Int),(bs.length:Int)⟩
      simp only[trmC]at z10'
      rw[hY8]at z10'
      have lY8:Y8.length=(Y7:Hp).length:=by rw[← hY8];simp
      have hH8:=hHZ.to (by omega) z10' (by rw[← hY8];exact Frm.set _ _ (fun hn=>hn.2 z7)) (by omega)
      have hcl:u * 6+2+4≤cellsz.length:=by omega
      have nZ:=nE _ _ hHZ
      have oZ:=hHZ.out
      have oF:=hH8.out
      have nF:=nE _ _ hH8
      have hlZ:=hpZ.le
      obtain⟨id3,g3,z,Gz,ps,d1,d2,d3,d4,d5,d6,d7⟩:=fin Y8 _ (by unfold turnT;rw[if_pos hA',if_pos hB']) hH8 (by omega)
      have hlz:=d3.lenOf
      subst hw4
      simp[e2,e4,e5,e6,hleY,hi,q1,q2,p20,p21,p22,q40,q42,q43,q44,q60,q62,hY1,o1,rdC_ob o1,hlw,n1,rdC_ob n1,hY2,hsrc,happ,hO3',hY4w,rdC_ob o4,rdC_ob n4,c1,c6,hY5,rdC_ob t5,rdC_ob n5,hA,t5,hY6,rdC_ob t6,rdC_ob n6,hB,t6,hY7,rdC_ob nZ,rdC_ob oZ,rdN_ob tZ,z2,hcl,hY8,rdC_ob oF,rdC_ob nF,d1,d2]
      refine phisInS (o7:=Y.length) (G:=Gz) (fr:=u) (vv:=k) (at_:=bs.length) (x2:=.c (.p (H.length+1) 0 0)) (x4:=.c (.p X2.length 0 0)) (x5:=.c ew) (x6:=.c (.i i)) d3 d4 nF d6 (by simp) (by simp) (by simp) (by simp) (by simp) (by simp) (by simp) (by simp) ?_
      intro Z' e' hr hf hl f2 f4 f5 f6
      simp[f2,f4,f5,f6,up1 hi (show es.length≤BIG by simp only[BIG];omega)]
      have hfin:=d7 Z' hr hf hl
      rw[← hsucc]at hfin
      exact (hI _ ⟨_,_⟩).2 ⟨_,hfin,by simp[f2,f4,f5,f6]⟩
     | false =>
      have hB':=of_decide_eq_false hB
      have tZ:=t6
      have hpZ:Pre Y4 Y6:=hp6
      have hHZ:SplitH X1.length X2.length (fun j=>(j=X3.length∧j<X4.length)∨j=Y.length) f.values Y1 Y6 w4 b1:=by
       have hpZ9:=hpZ;obtain⟨LZ,hLZ⟩:=hpZ9
       rw[hLZ];exact hH4.app LZ
      obtain⟨idz,gz,cellsz,z1,z2,z3,_,_,_,z7,_,_,z10⟩:=hHZ.tree.termH hu1
      have ez:idz=id∧gz=g:=by have e:=z1.symm.trans c1;injection e with e;injection e with e1 e2;exact⟨e1,e2⟩
      obtain⟨rfl,rfl⟩:=ez
      obtain⟨Y8,hY8⟩:∃ Y8,(Y6:Hp).set idz ⟨putAt cellsz (u * 6+2) [.i tt.kind,.i tt.a,.i (bs.length:Int),.i tt.els],gz,true,6⟩=Y8:=⟨_,rfl⟩
      have z10':=z10 ⟨tt.kind,tt.a,(bs.length:Int),tt.els⟩
      simp only[trmC]at z10'
      rw[hY8]at z10'
      have lY8:Y8.length=(Y6:Hp).length:=by rw[← hY8];simp
      have hH8:=hHZ.to (by omega) z10' (by rw[← hY8];exact Frm.set _ _ (fun hn=>hn.2 z7)) (by omega)
      have hcl:u * 6+2+4≤cellsz.length:=by omega
      have nZ:=nE _ _ hHZ
      have oZ:=hHZ.out
      have oF:=hH8.out
      have nF:=nE _ _ hH8
      have hlZ:=hpZ.le
      obtain⟨id3,g3,z,Gz,ps,d1,d2,d3,d4,d5,d6,d7⟩:=fin Y8 _ (by unfold turnT;rw[if_pos hA',if_neg hB']) hH8 (by omega)
      have hlz:=d3.lenOf
      subst hw4
      simp[e2,e4,e5,e6,hleY,hi,q1,q2,p20,p21,p22,q40,q42,q43,q44,q60,q62,hY1,o1,rdC_ob o1,hlw,n1,rdC_ob n1,hY2,hsrc,happ,hO3',hY4w,rdC_ob o4,rdC_ob n4,c1,c6,hY5,rdC_ob t5,rdC_ob n5,hA,t5,hY6,rdC_ob t6,rdC_ob n6,hB,rdC_ob nZ,rdC_ob oZ,rdN_ob tZ,z2,hcl,hY8,rdC_ob oF,rdC_ob nF,d1,d2]
      refine phisInS (o7:=Y.length) (G:=Gz) (fr:=u) (vv:=k) (at_:=bs.length) (x2:=.c (.p (H.length+1) 0 0)) (x4:=.c (.p X2.length 0 0)) (x5:=.c ew) (x6:=.c (.i i)) d3 d4 nF d6 (by simp) (by simp) (by simp) (by simp) (by simp) (by simp) (by simp) (by simp) ?_
      intro Z' e' hr hf hl f2 f4 f5 f6
      simp[f2,f4,f5,f6,up1 hi (show es.length≤BIG by simp only[BIG];omega)]
      have hfin:=d7 Z' hr hf hl
      rw[← hsucc]at hfin
      exact (hI _ ⟨_,_⟩).2 ⟨_,hfin,by simp[f2,f4,f5,f6]⟩
    | false =>
     have hA':=of_decide_eq_false hA
     cases hB:decide (tt.els=(k:Int)) with
     | true =>
      have hB':=of_decide_eq_true hB
      obtain⟨Y7,hY7⟩:∃ Y7,Y5.set Y4.length ⟨[.i tt.kind,.i tt.a,.i tt.to,.i (bs.length:Int)],0,true,4⟩=Y7:=⟨_,rfl⟩
      have hp7:Pre Y4 Y7:=by rw[← hY7];exact hp5.set (Nat.le_refl _) _
      have tZ:rdOb Y7 Y4.length 0=some ⟨[.i tt.kind,.i tt.a,.i tt.to,.i (bs.length:Int)],0,true,4⟩:=by rw[← hY7,rdOb_set_self (rdOb_lt t5)];simp
      have hpZ:Pre Y4 Y7:=hp7
      have hHZ:SplitH X1.length X2.length (fun j=>(j=X3.length∧j<X4.length)∨j=Y.length) f.values Y1 Y7 w4 b1:=by
       have hpZ9:=hpZ;obtain⟨LZ,hLZ⟩:=hpZ9
       rw[hLZ];exact hH4.app LZ
      obtain⟨idz,gz,cellsz,z1,z2,z3,_,_,_,z7,_,_,z10⟩:=hHZ.tree.termH hu1
      have ez:idz=id∧gz=g:=by have e:=z1.symm.trans c1;injection e with e;injection e with e1 e2;exact⟨e1,e2⟩
      obtain⟨rfl,rfl⟩:=ez
      obtain⟨Y8,hY8⟩:∃ Y8,(Y7:Hp).set idz ⟨putAt cellsz (u * 6+2) [.i tt.kind,.i tt.a,.i tt.to,.i (bs.length:Int)],gz,true,6⟩=Y8:=⟨_,rfl⟩
      have z10':=z10 ⟨tt.kind,tt.a,tt.to,(bs.length:Int)⟩
      simp only[trmC]at z10'
      rw[hY8]at z10'
      have lY8:Y8.length=(Y7:Hp).length:=by rw[← hY8];simp
      have hH8:=hHZ.to (by omega) z10' (by rw[← hY8];exact Frm.set _ _ (fun hn=>hn.2 z7)) (by omega)
      have hcl:u * 6+2+4≤cellsz.length:=by omega
      have nZ:=nE _ _ hHZ
      have oZ:=hHZ.out
      have oF:=hH8.out
      have nF:=nE _ _ hH8
      have hlZ:=hpZ.le
      obtain⟨id3,g3,z,Gz,ps,d1,d2,d3,d4,d5,d6,d7⟩:=fin Y8 _ (by unfold turnT;rw[if_neg hA',if_pos hB']) hH8 (by omega)
      have hlz:=d3.lenOf
      subst hw4
      simp[e2,e4,e5,e6,hleY,hi,q1,q2,p20,p21,p22,q40,q42,q43,q44,q60,q62,hY1,o1,rdC_ob o1,hlw,n1,rdC_ob n1,hY2,hsrc,happ,hO3',hY4w,rdC_ob o4,rdC_ob n4,c1,c6,hY5,rdC_ob t5,rdC_ob n5,hA,hB,t5,hY7,rdC_ob nZ,rdC_ob oZ,rdN_ob tZ,z2,hcl,hY8,rdC_ob oF,rdC_ob nF,d1,d2]
      refine phisInS (o7:=Y.length) (G:=Gz) (fr:=u) (vv:=k) (at_:=bs.length) (x2:=.c (.p (H.length+1) 0 0)) (x4:=.c (.p X2.length 0 0)) (x5:=.c ew) (x6:=.c (.i i)) d3 d4 nF d6 (by simp) (by simp) (by simp) (by simp) (by simp) (by simp) (by simp) (by simp) ?_
      intro Z' e' hr hf hl f2 f4 f5 f6
      simp[f2,f4,f5,f6,up1 hi (show es.length≤BIG by simp only[BIG];omega)]
      have hfin:=d7 Z' hr hf hl
      rw[← hsucc]at hfin
      exact (hI _ ⟨_,_⟩).2 ⟨_,hfin,by simp[f2,f4,f5,f6]⟩
     | false =>
      have hB':=of_decide_eq_false hB
      have tZ:=t5
      have hpZ:Pre Y4 Y5:=hp5
      have hHZ:SplitH X1.length X2.length (fun j=>(j=X3.length∧j<X4.length)∨j=Y.length) f.values Y1 Y5 w4 b1:=by
       have hpZ9:=hpZ;obtain⟨LZ,hLZ⟩:=hpZ9
       rw[hLZ];exact hH4.app LZ
      obtain⟨idz,gz,cellsz,z1,z2,z3,_,_,_,z7,_,_,z10⟩:=hHZ.tree.termH hu1
      have ez:idz=id∧gz=g:=by have e:=z1.symm.trans c1;injection e with e;injection e with e1 e2;exact⟨e1,e2⟩
      obtain⟨rfl,rfl⟩:=ez
      obtain⟨Y8,hY8⟩:∃ Y8,(Y5:Hp).set idz ⟨putAt cellsz (u * 6+2) [.i tt.kind,.i tt.a,.i tt.to,.i tt.els],gz,true,6⟩=Y8:=⟨_,rfl⟩
      have z10':=z10 ⟨tt.kind,tt.a,tt.to,tt.els⟩
      simp only[trmC]at z10'
      rw[hY8]at z10'
      have lY8:Y8.length=(Y5:Hp).length:=by rw[← hY8];simp
      have hH8:=hHZ.to (by omega) z10' (by rw[← hY8];exact Frm.set _ _ (fun hn=>hn.2 z7)) (by omega)
      have hcl:u * 6+2+4≤cellsz.length:=by omega
      have nZ:=nE _ _ hHZ
      have oZ:=hHZ.out
      have oF:=hH8.out
      have nF:=nE _ _ hH8
      have hlZ:=hpZ.le
      obtain⟨id3,g3,z,Gz,ps,d1,d2,d3,d4,d5,d6,d7⟩:=fin Y8 _ (by unfold turnT;rw[if_neg hA',if_neg hB']) hH8 (by omega)
      have hlz:=d3.lenOf
      subst hw4
      simp[e2,e4,e5,e6,hleY,hi,q1,q2,p20,p21,p22,q40,q42,q43,q44,q60,q62,hY1,o1,rdC_ob o1,hlw,n1,rdC_ob n1,hY2,hsrc,happ,hO3',hY4w,rdC_ob o4,rdC_ob n4,c1,c6,hY5,rdC_ob t5,rdC_ob n5,hA,hB,rdC_ob nZ,rdC_ob oZ,rdN_ob tZ,z2,hcl,hY8,rdC_ob oF,rdC_ob nF,d1,d2]
      refine phisInS (o7:=Y.length) (G:=Gz) (fr:=u) (vv:=k) (at_:=bs.length) (x2:=.c (.p (H.length+1) 0 0)) (x4:=.c (.p X2.length 0 0)) (x5:=.c ew) (x6:=.c (.i i)) d3 d4 nF d6 (by simp) (by simp) (by simp) (by simp) (by simp) (by simp) (by simp) (by simp) ?_
      intro Z' e' hr hf hl f2 f4 f5 f6
      simp[f2,f4,f5,f6,up1 hi (show es.length≤BIG by simp only[BIG];omega)]
      have hfin:=d7 Z' hr hf hl
      rw[← hsucc]at hfin
      exact (hI _ ⟨_,_⟩).2 ⟨_,hfin,by simp[f2,f4,f5,f6]⟩
   ·rintro⟨e,Y⟩ hIs
    obtain⟨w',hH,e2,e4,e5,e6⟩:=(hI _ _).1 hIs
    simp only at hH e2 e4 e5 e6 ⊢
    rw[List.take_length]at hH
    have hRY:rdOb Y (H.length+1) 0=some ⟨[.ns,.i 0],0,true,2⟩:=hH.fr.ob ⟨by omega,.inl (by omega)⟩ hR4
    obtain⟨Y2,hY2⟩:∃ Y2,Y.set (H.length+1) ⟨[w',.i f.values],0,true,2⟩=Y2:=⟨_,rfl⟩
    have hR2:rdOb Y2 (H.length+1) 0=some ⟨[w',.i f.values],0,true,2⟩:=by rw[← hY2,rdOb_set_self (rdOb_lt hRY)];simp
    have hpY:Pre H Y:=(hH.fr.mono fun j (hj:j<H.length)=>⟨by omega,.inl (by omega)⟩).cut (hp13.trans hp4)
    have hleY:lenOf ew=some es.length:=hle
    unfold vf22b2
    simp[e2,e4,e5,e6,hleY,rdN_ob hH.out,hRY,putAt,hY2,rdN_ob hR2]
    rw[hg.1,hg.2]
    refine FnRes2.mk (H:=H) (g:=⟨es.foldl splitE f.blocks,f.values⟩) (S:=fun j=>X1.length≤j∧¬ (j=X3.length∧j<X4.length)∧j≠X2.length) ?_ ?_ (fun j hj=>by omega)
    ·rw[← hY2];exact hpY.set (by omega) _
    ·rw[← hY2];exact hH.tree.fr blkF_st (Frm.set _ _ (by omega))
  ·obtain⟨g1,g2⟩:=hfalse (fun h=>hlen h.2)
   have hn16:16<(f.blocks.length:Int)+((crit0 f).length:Int):=by omega
   simp[putAt,hX3,rdN_ob hB3,specCheck hv3 hb,hck,hcrit,hX4,rdC_ob hB4,hlv,hle,wrap64_id hw64,hn16,rdN_ob hO4,hR4,hX6,rdN_ob hR6]
   rw[g1,g2]
   exact hbad _ _ hp4 hX6
 ·obtain⟨g1,g2⟩:=hfalse (fun h=>hck h.1)
  obtain⟨X6,hX6⟩:∃ X6,X3.set (H.length+1) ⟨[w,.i f.values],0,true,2⟩=X6:=⟨_,rfl⟩
  have hR6:rdOb X6 (H.length+1) 0=some ⟨[w,.i f.values],0,true,2⟩:=by rw[← hX6,rdOb_set_self (rdOb_lt hR3)];simp
  simp[putAt,hX3,rdN_ob hB3,specCheck hv3 hb,hck,rdN_ob hO3,hR3,hX6,rdN_ob hR6]
  rw[g1,g2]
  exact hbad _ _ (Pre.refl _) hX6
def RunOut (H:Hp) (q:Int×Int×RunS) (r:IV×Hp):Prop:=
 ∃ Z tv,r=(.tup [(false,[tv]),(false,[.i q.1]),(false,[.i q.2.1])],Z)∧Pre H Z∧OutR Z tv q.2.2.told∧∀ id,IsOut tv id→H.length≤id

theorem OutR.form {X:Hp} {w:CV} {xs:List Int} (h:OutR X w xs):w=.ns∨∃ id g n,w=.sl id g 0 n:=by
 rcases h with⟨h,_⟩ | ⟨o,g,h,_⟩
 ·exact .inl h
 ·exact .inr ⟨o,g,_,h⟩

theorem RunOut.gc {H Z:Hp} {tv:CV} {x y:Int} {xs:List Int} (hp:Pre H Z) (ht:OutR Z tv xs) (ho:∀ id,IsOut tv id→H.length≤id) :
  ∃ Z',gcRet H (.tup [(false,[tv]),(false,[.i x]),(false,[.i y])]) Z=(.tup [(false,[tv]),(false,[.i x]),(false,[.i y])],Z')∧Pre H Z'∧OutR Z' tv xs:=by
 rcases ht.form with rfl | ⟨id,g,n,rfl⟩
 ·refine⟨H,gcRet_flat hp rfl,Pre.refl _,?_⟩
  rcases ht with⟨_,h⟩ | ⟨_,_,h,_⟩
  ·exact .inl ⟨rfl,h⟩
  ·cases h
 ·refine⟨Z,?_,hp,ht⟩
  unfold gcRet;split
  ·rw[if_neg (by simp[flatV,flatC])]
  ·rfl
def SInsRes (v:CV) (m:Int) (n:Nat) (κ:RK) (X:Hp) (c:Nat) (fu:Int) (q:Int×RunS) (r:IV×Hp):Prop:=
 ∃ κ' Z,r=(.c (.i q.1),Z)∧RInv false v m n κ' Z c 0 q.2 fu∧Fr κ κ' X Z

theorem SInsRes.mk' {v:CV} {m:Int} {n:Nat} {κ κ':RK} {X Y:Hp} {c:Nat} {s:RunS} {fu:Int} {q:Int×RunS} (h:RInv false v m n κ X c 0 s fu) (h':RInv false v m n κ' Y c 0 q.2 fu) (hf:Fr κ κ' X Y) :
  SInsRes v m n κ X c fu q (gcRet X (.c (.i q.1)) Y):=by
 obtain⟨κ2,Z,e,h1,h2⟩:=h.gc h' hf (r:=.c (.i q.1)) rfl
 rw[e]
 exact⟨κ2,Z,rfl,h1,h2⟩
def SRunRes (v:CV) (m:Int) (n:Nat) (κ:RK) (X:Hp) (c:Nat) (q:Int×Int×RunS) (r:IV×Hp):Prop:=
 ∃ κ' Z fu',r=(.tup [(false,[.i q.1]),(false,[.i q.2.1])],Z)∧RInv false v m n κ' Z c 0 q.2.2 fu'∧Fr κ κ' X Z

theorem SRunRes.mk' {v:CV} {m:Int} {n:Nat} {κ κ':RK} {X Y:Hp} {c:Nat} {s:RunS} {fu fu':Int} {q:Int×Int×RunS} (h:RInv false v m n κ X c 0 s fu) (h':RInv false v m n κ' Y c 0 q.2.2 fu') (hf:Fr κ κ' X Y) :
  SRunRes v m n κ X c q (gcRet X (.tup [(false,[.i q.1]),(false,[.i q.2.1])]) Y):=by
 obtain⟨κ2,Z,e,h1,h2⟩:=h.gc h' hf (r:=.tup [(false,[.i q.1]),(false,[.i q.2.1])]) rfl
 rw[e]
 exact⟨κ2,Z,fu',rfl,h1,h2⟩
def NewPs (m:Int) (reads:List Int) (κ:RK) (h:Hp) (vi ci ri g ti pi:Nat):Prop:=
 (κ vi=2∧rdOb h vi 0=some ⟨List.replicate m.toNat (.i 0),0,true,1⟩)∧(κ ci=3∧rdOb h ci 0=some ⟨List.replicate 8 (.i 0),0,true,1⟩)∧(κ ri=6∧rdOb h ri g=some ⟨reads.map .i,g,true,1⟩) ∧
 (κ ti=4∧rdOb h ti 0=some ⟨[],0,true,1⟩)∧(κ pi=5∧rdOb h pi 0=some ⟨[],0,true,1⟩)

def newP (m fuel φ:Int) (rv:CV) (reads:List Int) (κ:RK) (h:Hp) (u:IV):Nat→Prop
 | 0=>u=.c (.i m)
 | 1=>∃ i,u=.c (.sl i 0 0 m.toNat)∧κ i=2∧rdOb h i 0=some ⟨List.replicate m.toNat (.i 0),0,true,1⟩
 | 2=>∃ i,u=.c (.sl i 0 0 8)∧κ i=3∧rdOb h i 0=some ⟨List.replicate 8 (.i 0),0,true,1⟩
 | 3=>∃ i,u=.c (.sl i 0 0 0)∧κ i=6∧rdOb h i 0=some ⟨[],0,true,1⟩
 | 4=>u=.c rv
 | 5=>∃ i g,u=.c (.sl i g 0 reads.length)∧κ i=6∧rdOb h i g=some ⟨reads.map .i,g,true,1⟩
 | 6=>∃ i,u=.c (.sl i 0 0 0)∧κ i=4∧rdOb h i 0=some ⟨[],0,true,1⟩
 | 7=>∃ i,u=.c (.sl i 0 0 0)∧κ i=5∧rdOb h i 0=some ⟨[],0,true,1⟩
 | 8=>u=.c (.i fuel)
 | 9=>u=.c (.i φ)
 | 10=>∃ vi ci ri g ti pi,u=.agg [.sl vi 0 0 m.toNat,.sl ci 0 0 8,.sl ri g 0 reads.length,.sl ti 0 0 0,.sl pi 0 0 0,.i φ]∧NewPs m reads κ h vi ci ri g ti pi
 | _=>∃ c vi ci ri g ti pi,u=.c (.p c 0 0)∧κ c=1∧rdOb h c 0=some ⟨[.sl vi 0 0 m.toNat,.sl ci 0 0 8,.sl ri g 0 reads.length,.sl ti 0 0 0,.sl pi 0 0 0,.i φ],0,true,6⟩∧NewPs m reads κ h vi ci ri g ti pi

section

variable {m fuel φ:Int} {rv:CV} {reads:List Int} {κ κ':RK} {h h':Hp} {u:IV}

theorem NewPs.keep {vi ci ri g ti pi:Nat} (hp:NewPs m reads κ h vi ci ri g ti pi) (hk:∀ id gg o,κ id≠0→rdOb h id gg=some o→rdOb h' id gg=some o∧κ' id=κ id):NewPs m reads κ' h' vi ci ri g ti pi:=by
 obtain⟨⟨a1,a2⟩,⟨b1,b2⟩,⟨c1,c2⟩,⟨d1,d2⟩,⟨e1,e2⟩⟩:=hp
 have A:=hk _ _ _ (by omega) a2;have B:=hk _ _ _ (by omega) b2;have C:=hk _ _ _ (by omega) c2;have D:=hk _ _ _ (by omega) d2;have E:=hk _ _ _ (by omega) e2
 exact⟨⟨by rw[A.2];exact a1,A.1⟩,⟨by rw[B.2];exact b1,B.1⟩,⟨by rw[C.2];exact c1,C.1⟩,⟨by rw[D.2];exact d1,D.1⟩,⟨by rw[E.2];exact e1,E.1⟩⟩

theorem newP.keep {j:Nat} (hp:newP m fuel φ rv reads κ h u j) (hk:∀ id gg o,κ id≠0→rdOb h id gg=some o→rdOb h' id gg=some o∧κ' id=κ id):newP m fuel φ rv reads κ' h' u j:=by
 match j,hp with
 | 0,hp=>exact hp
 | 1,⟨i,a,b,c⟩=>have A:=hk _ _ _ (by omega) c;exact⟨i,a,by rw[A.2];exact b,A.1⟩
 | 2,⟨i,a,b,c⟩=>have A:=hk _ _ _ (by omega) c;exact⟨i,a,by rw[A.2];exact b,A.1⟩
 | 3,⟨i,a,b,c⟩=>have A:=hk _ _ _ (by omega) c;exact⟨i,a,by rw[A.2];exact b,A.1⟩
 | 4,hp=>exact hp
 | 5,⟨i,g,a,b,c⟩=>have A:=hk _ _ _ (by omega) c;exact⟨i,g,a,by rw[A.2];exact b,A.1⟩
 | 6,⟨i,a,b,c⟩=>have A:=hk _ _ _ (by omega) c;exact⟨i,a,by rw[A.2];exact b,A.1⟩
 | 7,⟨i,a,b,c⟩=>have A:=hk _ _ _ (by omega) c;exact⟨i,a,by rw[A.2];exact b,A.1⟩
 | 8,hp=>exact hp
 | 9,hp=>exact hp
 | 10,⟨vi,ci,ri,g,ti,pi,a,b⟩=>exact⟨vi,ci,ri,g,ti,pi,a,b.keep hk⟩
 | j+11,⟨c,vi,ci,ri,g,ti,pi,a,b,d,e⟩=>have A:=hk _ _ _ (by omega) d;exact⟨c,vi,ci,ri,g,ti,pi,a,by rw[A.2];exact b,A.1,e.keep hk⟩

end
def FuelRes (X:Hp) (c:Nat) (r:IV×Hp):Prop:=∃ n Z,r=(.c (.i n),Z)∧CurL c X Z∧-1≤n∧n≤5001

theorem FuelRes.mk' {X Z:Hp} {c:Nat} {n:Int} (h:CurL c X Z) (hx:Cur X c) (h1:-1≤n) (h2:n≤5001):FuelRes X c (gcRet X (.c (.i n)) Z):=by
 obtain⟨Z',e,hC⟩:=CurL.gc h hx (r:=.c (.i n)) rfl
 rw[e];exact⟨n,Z',rfl,hC,h1,h2⟩

theorem HiBlocks.to {lo:Nat} {X Y:Hp} {v:CV} {bs:List BlkR} (h:HiBlocks lo X v bs) (hh:Hi lo X Y):HiBlocks lo Y v bs:=fun Z hZ=>h Z (hh.trans hZ (Nat.le_refl _))
theorem drawLower_call {H:Hp} {v:CV} {xs:List Int} (hv:IsB H v xs) (hb:xs.length≤BIG):CM 24 [.c v] H (FnOut H):=by
 refine cw24 ?_
 unfold vf24c
 simp
 have hv1:IsB (H++[(⟨[.ns,.i 0],0,true,2⟩:Ob)]) v xs:=Sl.app _ hv
 have hl:(H++[(⟨[.ns,.i 0],0,true,2⟩:Ob)]).length=H.length+1:=by simp
 have hR:rdOb (H++[(⟨[.ns,.i 0],0,true,2⟩:Ob)]) H.length 0=some ⟨[.ns,.i 0],0,true,2⟩:=by simp
 have hp1:Pre H (H++[(⟨[.ns,.i 0],0,true,2⟩:Ob)]):=⟨_,rfl⟩
 generalize H++[(⟨[.ns,.i 0],0,true,2⟩:Ob)]=X0 at hv1 hl hR hp1 ⊢
 refine (new_call hv1 hb).mono ?_
 rintro _ ⟨h,rfl⟩
 have hc:=new_cur hv1 hb h
 have hR1:=rdOb_app [(⟨[v,.i 0,.i h],0,true,3⟩:Ob)] hR
 have hp2:Pre H (X0++[(⟨[v,.i 0,.i h],0,true,3⟩:Ob)]):=hp1.app _
 have hl1:(X0++[(⟨[v,.i 0,.i h],0,true,3⟩:Ob)]).length=H.length+2:=by simp[hl]
 generalize X0++[(⟨[v,.i 0,.i h],0,true,3⟩:Ob)]=X1 at hc hR1 hp2 hl1 ⊢
 simp
 refine (draw_call hc).mono ?_
 rintro _ ⟨X,w,m,bs,rfl,⟨d,g,rfl⟩,C,hB,hbl,hb0⟩
 have hgc:∀ (d g n:Nat) (q:Int) (Y:Hp),gcRet H (.agg [.sl d g 0 n,.i q]) Y=(.agg [.sl d g 0 n,.i q],Y):=fun d g n q Y=>by
  unfold gcRet;split
  ·rw[if_neg (by simp[flatV,flatC])]
  ·rfl
 obtain⟨X2,hX2⟩:∃ X2,X++[(⟨[.sl d g 0 bs.length,.i m],0,true,2⟩:Ob)]=X2:=⟨_,rfl⟩
 have hF2:rdOb X2 X.length 0=some ⟨[.sl d g 0 bs.length,.i m],0,true,2⟩:=by rw[← hX2];simp
 have C2:CurL X0.length X1 X2:=by rw[← hX2];exact C.app _
 have hCle:=C.le
 obtain⟨r,X3,C3,eo⟩:=once_call C2.cur 4
 have C23:=C2.trans C3.l
 have hXc:X.length≠X0.length:=by omega
 have hF3:=C3.l.keep _ _ _ hXc hF2
 have hR3:=C23.keep _ _ _ (by omega) hR1
 have hB3:HiBlocks X1.length X3 (.sl d g 0 bs.length) bs:=(hB.to ((Pre.hi (lo:=X1.length) ⟨_,hX2.symm⟩).trans (C3.l.hi (lo:=X1.length) (by omega)) (Nat.le_refl _)))
 have hpre3:Pre H X3:=C23.pre hp2 (by omega)
 cases r with
 | true =>
  have hrd:rdN (X3.set H.length ⟨[.sl d g 0 bs.length,.i m],0,true,2⟩) H.length 0 0 2=some [.sl d g 0 bs.length,.i m]:=by
   rw[rdN_ob (o:=⟨[.sl d g 0 bs.length,.i m],0,true,2⟩) (by rw[rdOb_set_self (rdOb_lt hR3)];simp)];simp
  simp[putD0',hX2,eo,rdN_ob hF3,hR3,hrd,hgc]
  exact⟨_,_,m,bs,rfl,rfl,hpre3.set (Nat.le_refl _) _,hB3 _ (Hi.set (lo:=X1.length) (by omega) _),hbl,hb0⟩
 | false =>
  obtain⟨f,hf⟩:∃ f:FnR,f=⟨bs,m⟩:=⟨_,rfl⟩
  obtain rfl:bs=f.blocks:=by rw[hf]
  obtain rfl:m=f.values:=by rw[hf]
  clear hf
  simp[putD0',hX2,eo,rdN_ob hF3]
  refine (specSplit (hB3 _ (Hi.refl _ _)) hbl).mono ?_
  rintro _ ⟨w2,L,rfl,hT⟩
  have hle:=split0_le hbl
  have hpos:0<(split0 f).blocks.length:=by
   unfold split0
   split
   ·simp only;rw[splits_len];omega
   ·exact hb0
  obtain⟨h1,hh1⟩:∃ h1,split0 f=h1:=⟨_,rfl⟩
  rw[hh1]at hT hle hpos ⊢
  obtain⟨X4,hX4⟩:∃ X4,X3++L=X4:=⟨_,rfl⟩
  have hp4:Pre X3 X4:=⟨_,hX4.symm⟩
  rw[hX4]at hT ⊢
  rcases FRow.form hT with rfl | ⟨i',g',n',rfl⟩
  ·exfalso
   have:=(Tree.blocks hT).lenOf
   simp at this;omega
  ·obtain⟨X5,hX5⟩:∃ X5,X4++[(⟨[.sl i' g' 0 n',.i h1.values],0,true,2⟩:Ob)]=X5:=⟨_,rfl⟩
   have hp5:Pre X4 X5:=⟨_,hX5.symm⟩
   have hG5:rdOb X5 X4.length 0=some ⟨[.sl i' g' 0 n',.i h1.values],0,true,2⟩:=by rw[← hX5];simp
   have hR5:=(hp4.trans hp5).rdOb hR3
   have hrd:rdN (X5.set H.length ⟨[.sl i' g' 0 n',.i h1.values],0,true,2⟩) H.length 0 0 2=some [.sl i' g' 0 n',.i h1.values]:=by
    rw[rdN_ob (o:=⟨[.sl i' g' 0 n',.i h1.values],0,true,2⟩) (by rw[rdOb_set_self (rdOb_lt hR5)];simp)];simp
   simp[putD0',hX5,rdN_ob hG5,hR5,hrd,hgc]
   refine⟨_,_,_,h1.blocks,rfl,rfl,((hpre3.trans hp4).trans hp5).set (Nat.le_refl _) _,?_,hle,hpos⟩
   have hlt:H.length<X3.length:=by have:=rdOb_lt hR3;omega
   exact Tree.blocks (FRow.fr blkF_st (FRow.fr blkF_st hT (Frm.pre hp5)) (Frm.set X5 _ (show ¬ X3.length≤H.length by omega)))
theorem sameIns_call {H:Hp} {v w:CV} {xs:List InsR} (hv:List5 H v xs) (hw:List5 H w xs) (hb:xs.length≤BIG) (k:IV×Hp→Prop):CM 98 [.c v,.c w] H k=k (.c (.b true),H):=by
 refine det (cw98 ?_) k
 unfold vf98c
 simp[hv.lenOf,hw.lenOf]
 refine wp_for CM_mono xs.length (fun i s=>s.h=H∧Env.get s.e 0=.c v∧Env.get s.e 1=.c w∧Env.get s.e 5=.c (.i i)) (by simp) ?_ ?_
 ·rintro i ⟨e,X⟩ hi ⟨rfl,h0,h1,h5⟩
  simp only at h0 h1 h5 hv hw ⊢
  obtain⟨id,g,off,p1,p2,_⟩:=List5.get hv hi
  obtain⟨id',g',off',q1,q2,_⟩:=List5.get hw hi
  unfold vf98b0
  simp[h0,h1,h5,hv.lenOf,p1,p2.2.2.2.2.2,q1,q2.2.2.2.2.2,hi,up1 hi hb]
 ·rintro⟨e,X⟩ ⟨rfl,h0,h1,h5⟩
  simp only at h0 h1 h5 hv hw ⊢
  unfold vf98b0
  simp[h0,h1,h5,hv.lenOf]

theorem sameArms_call {H:Hp} {v w:CV} {xs:List ArmR} (hv:Arms H v xs) (hw:Arms H w xs) (hb:xs.length≤BIG) (k:IV×Hp→Prop):CM 99 [.c v,.c w] H k=k (.c (.b true),H):=by
 refine det (cw99 ?_) k
 unfold vf99c
 simp[hv.lenOf,hw.lenOf]
 refine wp_for CM_mono xs.length (fun i s=>s.h=H∧Env.get s.e 0=.c v∧Env.get s.e 1=.c w∧Env.get s.e 5=.c (.i i)) (by simp) ?_ ?_
 ·rintro i ⟨e,X⟩ hi ⟨rfl,h0,h1,h5⟩
  simp only at h0 h1 h5 hv hw ⊢
  obtain⟨id,g,off,p1,p2,_⟩:=Arms.get hv hi
  obtain⟨id',g',off',q1,q2,_⟩:=Arms.get hw hi
  unfold vf99b0
  simp[h0,h1,h5,hv.lenOf,p1,p2.2.2,q1,q2.2.2,hi,up1 hi hb]
 ·rintro⟨e,X⟩ ⟨rfl,h0,h1,h5⟩
  simp only at h0 h1 h5 hv hw ⊢
  unfold vf99b0
  simp[h0,h1,h5,hv.lenOf]

set_option maxRecDepth 100000 in
theorem sameBlk_call {H:Hp} {z u z' u':CV} {b:BlkR} (hz:Phis H z b.phis) (hz':Phis H z' b.phis) (hu:List5 H u b.list) (hu':List5 H u' b.list) (hb:b.phis.length≤BIG) (hb2:b.list.length≤BIG) (k:IV×Hp→Prop) :
  CM 50 [.agg [z,u,.i b.term.kind,.i b.term.a,.i b.term.to,.i b.term.els],.agg [z',u',.i b.term.kind,.i b.term.a,.i b.term.to,.i b.term.els]] H k=k (.c (.b true),H):=by
 refine det (cw50 ?_) k
 unfold vf50c
 obtain⟨X,hX⟩:∃ X,H++[(⟨[z,u,.i b.term.kind,.i b.term.a,.i b.term.to,.i b.term.els],0,true,6⟩:Ob),⟨[z',u',.i b.term.kind,.i b.term.a,.i b.term.to,.i b.term.els],0,true,6⟩]=X:=⟨_,rfl⟩
 have hp:Pre H X:=⟨_,hX.symm⟩
 have n1:rdOb X H.length 0=some ⟨[z,u,.i b.term.kind,.i b.term.a,.i b.term.to,.i b.term.els],0,true,6⟩:=by rw[← hX];simp[trmC]
 have n2:rdOb X (H.length+1) 0=some ⟨[z',u',.i b.term.kind,.i b.term.a,.i b.term.to,.i b.term.els],0,true,6⟩:=by rw[← hX];simp[trmC]
 have hzX:Phis X z b.phis:=Phis.pre hp hz
 have hzX':Phis X z' b.phis:=Phis.pre hp hz'
 have huX:List5 X u b.list:=List5.pre hp hu
 have huX':List5 X u' b.list:=List5.pre hp hu'
 simp[hX,rdC_ob n1,rdC_ob n2,rdN_ob n1,rdN_ob n2,hzX.lenOf,hzX'.lenOf,sameIns_call huX huX' hb2]
 refine wp_for CM_mono b.phis.length (fun i s=>s.h=X∧Env.get s.e 2=.c (.p H.length 0 0)∧Env.get s.e 3=.c (.p (H.length+1) 0 0)∧Env.get s.e 5=.c (.i i)) (by simp) ?_ ?_
 ·rintro i ⟨e,Y⟩ hi ⟨rfl,h2,h3,h5⟩
  simp only at h2 h3 h5 ⊢
  obtain⟨id,g,off,w1,p1,p2,_,p4,p5,_⟩:=Phis.get hzX hi
  obtain⟨id',g',off',w1',q1,q2,_,q4,q5,_⟩:=Phis.get hzX' hi
  unfold vf50b0
  simp[h2,h3,h5,rdC_ob n1,rdC_ob n2,hzX.lenOf,p1,p2.1,p2.2.1,q1,q2.1,q2.2.1,hi,sameArms_call p4 q4 p5,up1 hi hb]
 ·rintro⟨e,Y⟩ ⟨rfl,h2,h3,h5⟩
  simp only at h2 h3 h5 ⊢
  unfold vf50b0
  simp[h2,h3,h5,rdC_ob n1,hzX.lenOf]
  exact gcRet_flat hp (show flatV (.c (.b true))=true from rfl)

set_option maxRecDepth 100000 in
theorem sameFn_call {H:Hp} {v w:CV} {f:FnR} (hv:Blocks H v f.blocks) (hw:Blocks H w f.blocks) (hb:f.blocks.length≤BIG) (k:IV×Hp→Prop) :
  CM 14 [.agg [v,.i f.values],.agg [w,.i f.values]] H k=k (.c (.b true),H):=by
 refine det (cw14 ?_) k
 unfold vf14c
 obtain⟨X,hX⟩:∃ X,H++[(⟨[v,.i f.values],0,true,2⟩:Ob),⟨[w,.i f.values],0,true,2⟩]=X:=⟨_,rfl⟩
 have hp:Pre H X:=⟨_,hX.symm⟩
 have n1:rdOb X H.length 0=some ⟨[v,.i f.values],0,true,2⟩:=by rw[← hX];simp
 have n2:rdOb X (H.length+1) 0=some ⟨[w,.i f.values],0,true,2⟩:=by rw[← hX];simp
 have hvX:=hv.pre hp
 have hwX:=hw.pre hp
 simp[hX,rdC_ob n1,rdC_ob n2,hvX.lenOf,hwX.lenOf]
 refine wp_for CM_mono f.blocks.length (fun i s=>s.h=X∧Env.get s.e 2=.c (.p H.length 0 0)∧Env.get s.e 3=.c (.p (H.length+1) 0 0)∧Env.get s.e 5=.c (.i i)) (by simp) ?_ ?_
 ·rintro i ⟨e,Y⟩ hi ⟨rfl,h2,h3,h5⟩
  simp only at h2 h3 h5 ⊢
  obtain⟨id,g,off,z,u,p1,p2,_,p4,p5,p6,p7,_⟩:=hvX.get hi
  obtain⟨id',g',off',z',u',q1,q2,_,q4,q5,q6,q7,_⟩:=hwX.get hi
  have hbk:=sameBlk_call p4 q4 p5 q5 p6 p7
  unfold vf14b0
  simp[h2,h3,h5,rdC_ob n1,rdC_ob n2,hvX.lenOf,p1,p2.2.2.2.2.2.2.2.2.2.2,q1,q2.2.2.2.2.2.2.2.2.2.2,hi,hbk,up1 hi hb]
 ·rintro⟨e,Y⟩ ⟨rfl,h2,h3,h5⟩
  simp only at h2 h3 h5 ⊢
  unfold vf14b0
  simp[h2,h3,h5,rdC_ob n1,hvX.lenOf]
  exact gcRet_flat hp (show flatV (.c (.b true))=true from rfl)
theorem mvsP_succ {b:Int} {ps:List PhiR} {i:Nat} (hi:i<ps.length):mvsP b (ps.take (i+1))=mvsP b (ps.take i)++mvsOf b ps[i].d ps[i].arms:=by
 unfold mvsP
 rw[List.take_succ_eq_append_getElem hi,List.flatMap_append]
 simp

theorem mvsOf_succ {b d:Int} {xs:List ArmR} {i:Nat} (hi:i<xs.length):mvsOf b d (xs.take (i+1))=mvsOf b d (xs.take i)++(if xs[i].fr=b then [⟨d,xs[i].v⟩] else []):=by
 unfold mvsOf
 rw[List.take_succ_eq_append_getElem hi,List.filter_append,List.map_append]
 congr 1
 by_cases h:xs[i].fr=b<;>simp[h]

theorem mvs_le {b:Int} {ps:List PhiR} {i j:Nat} (hi:i<ps.length):(mvsP b (ps.take i)++mvsOf b ps[i].d (ps[i].arms.take j)).length≤(mvsP b ps).length:=by
 have h1:(mvsP b ps).length=(mvsP b (ps.take (i+1))).length+(mvsP b (ps.drop (i+1))).length:=by
  unfold mvsP
  rw[← List.length_append,← List.flatMap_append,List.take_append_drop]
 rw[mvsP_succ hi,List.length_append]at h1
 have h2:(mvsOf b ps[i].d (ps[i].arms.take j)).length≤(mvsOf b ps[i].d ps[i].arms).length:=by
  unfold mvsOf
  rw[List.length_map,List.length_map]
  exact ((List.take_sublist j ps[i].arms).filter _).length_le
 rw[List.length_append]
 omega

set_option maxRecDepth 100000 in
theorem implMvs {H:Hp} {z:CV} {ps:List PhiR} {b:Int} (hz:Phis H z ps) (hb:ps.length≤BIG) (hl:(mvsP b ps).length≤24) (k:IV×Hp→Prop) :
  CM 68 [.c z,.c (.i b)] H k=k (.c (.sl H.length 0 0 (mvsP b ps).length),H++[⟨edC (mvsP b ps),0,true,2⟩]):=by
 refine det (cw68 ?_) k
 unfold vf68c
 simp[hz.lenOf]
 obtain⟨I,hI⟩:∃ I:Nat→St→Prop,∀ i s,I i s↔(∃ g,Low H.length H s.h∧MvO s.h H.length g (mvsP b (ps.take i)) []∧Env.get s.e 1=.c (.i b)∧Env.get s.e 5=.c (.sl H.length g 0 (mvsP b (ps.take i)).length)∧Env.get s.e 11=.c z∧Env.get s.e 12=.c (.i ps.length)∧Env.get s.e 13=.c (.i i)):=⟨_,fun _ _=>Iff.rfl⟩
 refine wp_for CM_mono ps.length I ((hI _ ⟨_,_⟩).2 ⟨0,Low.app _ _ _,by show rdOb _ _ _=_;simp[mvsP],by simp[mvsP]⟩) ?_ ?_
 ·rintro i ⟨e,Y⟩ hi hIs
  obtain⟨g,hL,hM,e1,e5,e11,e12,e13⟩:=(hI _ _).1 hIs
  simp only at hL hM e1 e5 e11 e12 e13 ⊢
  have hpY:Pre H Y:=hL.pre (Pre.refl _) (Nat.le_refl _)
  obtain⟨id1,g1,off1,wa,q1,_,q3,q4,q5,_,_⟩:=Phis.get hz hi
  have q2:PhiAt Y id1 g1 off1 ps[i].d wa:=by obtain⟨L,rfl⟩:=id hpY;exact q3 L
  obtain⟨p,hp⟩:∃ p,ps[i]=p:=⟨_,rfl⟩
  have hsucc:=mvsP_succ (b:=b) hi
  have hpre:=fun j=>Nat.le_trans (mvs_le (b:=b) (j:=j) hi) hl
  rw[hp]at q2 q4 q5 hsucc
  simp only[hp]at hpre
  obtain⟨A,hA⟩:∃ A,mvsP b (ps.take i)=A:=⟨_,rfl⟩
  simp only[hA]at hpre
  rw[hA]at hM e5 hsucc
  obtain⟨Y1,hY1⟩:∃ Y1,Y++[(⟨[.i p.d,wa],0,true,2⟩:Ob)]=Y1:=⟨_,rfl⟩
  have n1:rdOb Y1 Y.length 0=some ⟨[.i p.d,wa],0,true,2⟩:=by rw[← hY1];simp
  have hM1:MvO Y1 H.length g A []:=by rw[← hY1];exact hM.app _
  have hlt:=hM.lt
  have hL1:Low H.length H Y1:=by rw[← hY1];exact hL.trans (Low.app _ _ _)
  have hlw:=q4.lenOf
  unfold vf68b1
  simp[e1,e5,e11,e12,e13,hi,q1,q2.2.2,putAt,hY1,rdN_ob n1,n1,rdC_ob n1,hlw]
  obtain⟨J,hJ⟩:∃ J:Nat→St→Prop,∀ j s,J j s↔(∃ g,Low H.length H s.h∧rdOb s.h Y.length 0=some ⟨[.i p.d,wa],0,true,2⟩∧MvO s.h H.length g (A++mvsOf b p.d (p.arms.take j)) []∧Env.get s.e 1=.c (.i b)∧Env.get s.e 5=.c (.sl H.length g 0 (A++mvsOf b p.d (p.arms.take j)).length)∧Env.get s.e 7=.c (.p Y.length 0 0)∧Env.get s.e 11=.c z∧Env.get s.e 12=.c (.i ps.length)∧Env.get s.e 13=.c (.i i)∧Env.get s.e 18=.c wa∧Env.get s.e 19=.c (.i p.arms.length)∧Env.get s.e 20=.c (.i j)):=⟨_,fun _ _=>Iff.rfl⟩
  refine wp_for CM_mono p.arms.length J ((hJ _ ⟨_,_⟩).2 ⟨g,hL1,n1,by simpa [mvsOf] using hM1,by simp[mvsOf,e1,e5,e11,e12,e13]⟩) ?_ ?_
  ·rintro j ⟨e,Z⟩ hj hJs
   obtain⟨g2,hL2,n2,hM2,f1,f5,f7,f11,f12,f13,f18,f19,f20⟩:=(hJ _ _).1 hJs
   simp only at hL2 n2 hM2 f1 f5 f7 f11 f12 f13 f18 f19 f20 ⊢
   have hpZ:Pre H Z:=hL2.pre (Pre.refl _) (Nat.le_refl _)
   have hwZ:Arms Z wa p.arms:=Row.pre (fun _ _=>armP.pre) hpZ q4
   obtain⟨id3,g3,off3,r1,r2,_,_,_⟩:=Arms.get hwZ hj
   have hso:=mvsOf_succ (b:=b) (d:=p.d) hj
   have hlen:=hpre j
   obtain⟨a,ha⟩:∃ a,p.arms[j]=a:=⟨_,rfl⟩
   rw[ha]at r2 hso
   obtain⟨C,hC⟩:∃ C,A++mvsOf b p.d (p.arms.take j)=C:=⟨_,rfl⟩
   have hCs:A++mvsOf b p.d (p.arms.take (j+1))=C++(if a.fr=b then [⟨p.d,a.v⟩] else []):=by rw[hso,← List.append_assoc,hC]
   rw[hC]at hM2 f5 hlen
   obtain⟨Z1,hZ1⟩:∃ Z1,Z++[(⟨[.i a.fr,.i a.v],0,true,2⟩:Ob)]=Z1:=⟨_,rfl⟩
   have m1:rdOb Z1 Z.length 0=some ⟨[.i a.fr,.i a.v],0,true,2⟩:=by rw[← hZ1];simp
   have n3:rdOb Z1 Y.length 0=some ⟨[.i p.d,wa],0,true,2⟩:=by rw[← hZ1];exact rdOb_app _ n2
   have hM3:MvO Z1 H.length g2 C []:=by rw[← hZ1];exact hM2.app _
   have hL3:Low H.length H Z1:=by rw[← hZ1];exact hL2.trans (Low.app _ _ _)
   have hltY:Y.length≠H.length:=by omega
   unfold vf68b0
   by_cases hab:a.fr=b
   ·rw[if_pos hab]at hCs
    rw[hab]at hZ1 m1
    obtain⟨p1,p2,p3⟩:=hM3.push (by omega) ⟨p.d,a.v⟩
    obtain⟨Z2,hZ2⟩:∃ Z2,Z1++[(⟨[.i p.d,.i a.v],0,true,2⟩:Ob)]=Z2:=⟨_,rfl⟩
    have m2:rdOb Z2 Z1.length 0=some ⟨[.i p.d,.i a.v],0,true,2⟩:=by rw[← hZ2];simp
    obtain⟨Z3,hZ3⟩:∃ Z3,Z2.set H.length ⟨edC (C++[⟨p.d,a.v⟩]),g2+1,true,2⟩=Z3:=⟨_,rfl⟩
    simp only[hZ2,hZ3]at p1 p2 p3
    simp[f1,f5,f7,f11,f12,f13,f18,f19,f20,hj,r1,r2.2.2,putAt,hZ1,rdN_ob m1,m1,rdC_ob m1,n3,rdC_ob n3,hab,hZ2,srcOf,m2,p1,up1 hj q5]
    refine (hJ _ ⟨_,_⟩).2 ⟨g2+1,hL3.trans (p2.low (Nat.le_refl _)),p2.2 _ _ _ hltY n3,by rw[hCs];exact p3,?_⟩
    rw[hCs];simp
   ·rw[if_neg hab,List.append_nil]at hCs
    simp[f1,f5,f7,f11,f12,f13,f18,f19,f20,hj,r1,r2.2.2,putAt,hZ1,rdN_ob m1,m1,rdC_ob m1,n3,rdC_ob n3,hab,up1 hj q5]
    refine (hJ _ ⟨_,_⟩).2 ⟨g2,hL3,n3,by rw[hCs];exact hM3,?_⟩
    rw[hCs];simp
  ·rintro⟨e,Z⟩ hJs
   obtain⟨g2,hL2,n2,hM2,f1,f5,f7,f11,f12,f13,f18,f19,f20⟩:=(hJ _ _).1 hJs
   simp only at hL2 n2 hM2 f1 f5 f7 f11 f12 f13 f18 f19 f20 ⊢
   rw[List.take_length,← hsucc]at hM2 f5
   unfold vf68b0
   simp[f1,f5,f7,f11,f12,f13,f18,f19,f20,up1 hi hb]
   refine (hI _ ⟨_,_⟩).2 ⟨g2,hL2,hM2,?_⟩
   simp
 ·rintro⟨e,Y⟩ hIs
  obtain⟨g,hL,hM,e1,e5,e11,e12,e13⟩:=(hI _ _).1 hIs
  simp only at hL hM e1 e5 e11 e12 e13 ⊢
  rw[List.take_length]at hM e5
  unfold vf68b1
  simp[e1,e5,e11,e12,e13,putAt]
  have ho:rdOb Y H.length g=some ⟨edC (mvsP b ps)++[],g,true,2⟩:=hM
  rw[gcRet_row (hL.pre (Pre.refl _) (Nat.le_refl _)) (Nat.le_refl _) ho rfl (by simpa using edC_flat _)]
  simp

set_option maxRecDepth 100000 in
theorem specMvs {H:Hp} {v:CV} {bs:List BlkR} {m b:Int} {d:Nat} (hv:Blocks H v bs) (hd:d<bs.length) (hl:(mvsP b bs[d].phis).length≤24) (k:IV×Hp→Prop) :
  CM 71 [.agg [v,.i m],.c (.i b),.c (.i d)] H k=k (.c (.sl H.length 0 0 (mvsP b bs[d].phis).length),H++[⟨edC (mvsP b bs[d].phis),0,true,2⟩]):=by
 refine det (cw71 ?_) k
 unfold vf71c
 obtain⟨bid,bg,boff,z,u,x1,_,x3,hz,_,hb,_,_,_⟩:=hv.get hd
 obtain⟨ps,hps⟩:∃ ps,bs[d].phis=ps:=⟨_,rfl⟩
 rw[hps]at hz hb hl ⊢
 simp
 obtain⟨I,hI⟩:∃ I:Nat→St→Prop,∀ i s,I i s↔(∃ g,Low (H.length+1) (H++[⟨[v,.i m],0,true,2⟩]) s.h∧MvO s.h (H.length+1) g (mvsP b (ps.take i)) []∧Env.get s.e 1=.c (.i b)∧Env.get s.e 2=.c (.i d)∧Env.get s.e 3=.c (.p H.length 0 0)∧Env.get s.e 7=.c (.sl (H.length+1) g 0 (mvsP b (ps.take i)).length)∧Env.get s.e 8=.c (.i i)):=⟨_,fun _ _=>Iff.rfl⟩
 refine wp_for CM_mono ps.length I ((hI _ ⟨_,_⟩).2 ⟨0,?_,?_,?_⟩) ?_ ?_
 ·have:=Low.app (H.length+1) (H++[(⟨[v,.i m],0,true,2⟩:Ob)]) [⟨[],0,true,2⟩]
  simpa using this
 ·show rdOb _ _ _=_;simp[mvsP]
 ·simp[mvsP]
 ·rintro i ⟨e,Y⟩ hi hIs
  obtain⟨g,hL,hM,e1,e2,e3,e7,e8⟩:=(hI _ _).1 hIs
  simp only at hL hM e1 e2 e3 e7 e8 ⊢
  have hpY:Pre H Y:=hL.pre ⟨_,rfl⟩ (by omega)
  have hB:rdOb Y H.length 0=some ⟨[v,.i m],0,true,2⟩:=hL _ _ _ (by omega) (by simp)
  have x2:BlkAt Y bid bg boff z u bs[d].term:=by obtain⟨L,rfl⟩:=id hpY;exact x3 L
  obtain⟨id1,g1,off1,wa,q1,_,q3,q4,q5,_,_⟩:=Phis.get hz hi
  have q2:PhiAt Y id1 g1 off1 ps[i].d wa:=by obtain⟨L,rfl⟩:=id hpY;exact q3 L
  obtain⟨p,hp⟩:∃ p,ps[i]=p:=⟨_,rfl⟩
  have hsucc:=mvsP_succ (b:=b) hi
  have hpre:=fun j=>Nat.le_trans (mvs_le (b:=b) (j:=j) hi) hl
  rw[hp]at q2 q4 q5 hsucc
  simp only[hp]at hpre
  obtain⟨A,hA⟩:∃ A,mvsP b (ps.take i)=A:=⟨_,rfl⟩
  simp only[hA]at hpre
  rw[hA]at hM e7 hsucc
  obtain⟨Y1,hY1⟩:∃ Y1,Y++[(⟨[.i p.d,wa],0,true,2⟩:Ob)]=Y1:=⟨_,rfl⟩
  have n1:rdOb Y1 Y.length 0=some ⟨[.i p.d,wa],0,true,2⟩:=by rw[← hY1];simp
  have hM1:MvO Y1 (H.length+1) g A []:=by rw[← hY1];exact hM.app _
  have hlt:=hM.lt
  have hL1:Low (H.length+1) (H++[⟨[v,.i m],0,true,2⟩]) Y1:=by rw[← hY1];exact hL.trans (Low.app _ _ _)
  have hlw:=q4.lenOf
  have hlz:=hz.lenOf
  have x2':rdC Y bid bg boff=some z:=x2.1
  unfold vf71b1
  simp[e1,e2,e3,e7,e8,hi,rdC_ob hB,x1,x2',hlz,q1,q2.2.2,putAt,hY1,rdN_ob n1,n1,rdC_ob n1]
  obtain⟨J,hJ⟩:∃ J:Nat→St→Prop,∀ j s,J j s↔(∃ g,Low (H.length+1) (H++[⟨[v,.i m],0,true,2⟩]) s.h∧rdOb s.h Y.length 0=some ⟨[.i p.d,wa],0,true,2⟩∧MvO s.h (H.length+1) g (A++mvsOf b p.d (p.arms.take j)) []∧Env.get s.e 1=.c (.i b)∧Env.get s.e 2=.c (.i d)∧Env.get s.e 3=.c (.p H.length 0 0)∧Env.get s.e 7=.c (.sl (H.length+1) g 0 (A++mvsOf b p.d (p.arms.take j)).length)∧Env.get s.e 8=.c (.i i)∧Env.get s.e 9=.c (.p Y.length 0 0)∧Env.get s.e 10=.c (.i j)):=⟨_,fun _ _=>Iff.rfl⟩
  refine wp_for CM_mono p.arms.length J ((hJ _ ⟨_,_⟩).2 ⟨g,hL1,n1,by simpa [mvsOf] using hM1,by simp[mvsOf,e1,e2,e3,e7,e8]⟩) ?_ ?_
  ·rintro j ⟨e,Z⟩ hj hJs
   obtain⟨g2,hL2,n2,hM2,f1,f2,f3,f7,f8,f9,f10⟩:=(hJ _ _).1 hJs
   simp only at hL2 n2 hM2 f1 f2 f3 f7 f8 f9 f10 ⊢
   have hpZ:Pre H Z:=hL2.pre ⟨_,rfl⟩ (by omega)
   have hwZ:Arms Z wa p.arms:=Row.pre (fun _ _=>armP.pre) hpZ q4
   obtain⟨id3,g3,off3,r1,r2,_,_,_⟩:=Arms.get hwZ hj
   have hso:=mvsOf_succ (b:=b) (d:=p.d) hj
   have hlen:=hpre j
   obtain⟨a,ha⟩:∃ a,p.arms[j]=a:=⟨_,rfl⟩
   rw[ha]at r2 hso
   obtain⟨C,hC⟩:∃ C,A++mvsOf b p.d (p.arms.take j)=C:=⟨_,rfl⟩
   have hCs:A++mvsOf b p.d (p.arms.take (j+1))=C++(if a.fr=b then [⟨p.d,a.v⟩] else []):=by rw[hso,← List.append_assoc,hC]
   rw[hC]at hM2 f7 hlen
   have hltY:Y.length≠H.length+1:=by omega
   unfold vf71b0
   by_cases hab:a.fr=b
   ·rw[if_pos hab]at hCs
    obtain⟨p1,p2,p3⟩:=hM2.push (by omega) ⟨p.d,a.v⟩
    obtain⟨Z2,hZ2⟩:∃ Z2,Z++[(⟨[.i p.d,.i a.v],0,true,2⟩:Ob)]=Z2:=⟨_,rfl⟩
    have m2:rdOb Z2 Z.length 0=some ⟨[.i p.d,.i a.v],0,true,2⟩:=by rw[← hZ2];simp
    obtain⟨Z3,hZ3⟩:∃ Z3,Z2.set (H.length+1) ⟨edC (C++[⟨p.d,a.v⟩]),g2+1,true,2⟩=Z3:=⟨_,rfl⟩
    simp only[hZ2,hZ3]at p1 p2 p3
    simp[f1,f2,f3,f7,f8,f9,f10,hj,hlw,r1,r2.1,r2.2.1,n2,rdC_ob n2,hab,putAt,hZ2,srcOf,m2,p1,up1 hj q5]
    refine (hJ _ ⟨_,_⟩).2 ⟨g2+1,hL2.trans (p2.low (Nat.le_refl _)),p2.2 _ _ _ hltY n2,by rw[hCs];exact p3,?_⟩
    rw[hCs];simp
   ·rw[if_neg hab,List.append_nil]at hCs
    simp[f1,f2,f3,f7,f8,f9,f10,hj,hlw,r1,r2.1,r2.2.1,n2,rdC_ob n2,hab,up1 hj q5]
    refine (hJ _ ⟨_,_⟩).2 ⟨g2,hL2,n2,by rw[hCs];exact hM2,?_⟩
    rw[hCs];simp
  ·rintro⟨e,Z⟩ hJs
   obtain⟨g2,hL2,n2,hM2,f1,f2,f3,f7,f8,f9,f10⟩:=(hJ _ _).1 hJs
   simp only at hL2 n2 hM2 f1 f2 f3 f7 f8 f9 f10 ⊢
   rw[List.take_length,← hsucc]at hM2 f7
   unfold vf71b0
   simp[f1,f2,f3,f7,f8,f9,f10,hlw,n2,rdC_ob n2,up1 hi hb]
   refine (hI _ ⟨_,_⟩).2 ⟨g2,hL2,hM2,?_⟩
   simp
 ·rintro⟨e,Y⟩ hIs
  obtain⟨g,hL,hM,e1,e2,e3,e7,e8⟩:=(hI _ _).1 hIs
  simp only at hL hM e1 e2 e3 e7 e8 ⊢
  rw[List.take_length]at hM e7
  have hpY:Pre H Y:=hL.pre ⟨_,rfl⟩ (by omega)
  have hB:rdOb Y H.length 0=some ⟨[v,.i m],0,true,2⟩:=hL _ _ _ (by omega) (by simp)
  have x2:BlkAt Y bid bg boff z u bs[d].term:=by obtain⟨L,rfl⟩:=id hpY;exact x3 L
  have hlz:=hz.lenOf
  have x2':rdC Y bid bg boff=some z:=x2.1
  unfold vf71b1
  simp[e1,e2,e3,e7,e8,rdC_ob hB,x1,x2',hlz]
  have ho:rdOb Y (H.length+1) g=some ⟨edC (mvsP b ps)++[],g,true,2⟩:=hM
  rw[gcRet_row hpY (by omega) ho rfl (by simpa using edC_flat _)]
  simp
theorem SplitH.dry {N o3:Nat} {E:Nat→Prop} {m:Int} {X0 Y:Hp} {w:CV} {bs:List BlkR} {b:Nat} (h:SplitH N o3 E m X0 Y w bs) (hN:N≤o3) (hb:b<bs.length) :
  ∃ id g cells Y2,idxOf 6 w (b:Int)=some (.p id g (b * 6))∧rdOb Y id g=some ⟨cells,g,true,6⟩∧b * 6+1≤cells.length∧Y.set id ⟨putAt cells (b * 6) [.ns],g,true,6⟩=Y2 ∧
   SplitH N o3 E m X0 Y2 w (bs.set b ⟨[],bs[b].list,bs[b].term⟩)∧Y2.length=Y.length:=by
 obtain⟨id,g,cells,z,u,Gz,q1,q2,q3,q4,q5,q6,q7,q8,q9,q10⟩:=h.tree.phisH hb
 obtain⟨_,s2⟩:=q10 Y [] .ns (fun _=>False) (Nat.le_refl _) (Frm.refl _ _) FRow.ns (fun _ h=>h.elim) (by simp)
 refine⟨id,g,cells,_,q1,q2,by omega,rfl,?_,by simp⟩
 exact h.to hN s2 (Frm.set _ _ (fun hn=>hn.2 q8)) (by simp)

theorem SplitH.cat {N o3:Nat} {E:Nat→Prop} {m:Int} {X0 Y:Hp} {w:CV} {bs:List BlkR} {b:Nat} (h:SplitH N o3 E m X0 Y w bs) (hN:N≤o3) (hNY:N≤Y.length) (hE:∀ j,E j→j<Y.length) (hb:b<bs.length) (hl:bs[b].list.length<BIG) (x:InsR) :
  ∃ id g cells u iz gz Y1 Y5 Y6,idxOf 6 w (b:Int)=some (.p id g (b * 6))∧rdOb Y id g=some ⟨cells,g,true,6⟩∧rdC Y id g (b * 6+1)=some u∧b * 6+1+1≤cells.length∧Y++[(⟨insC x,0,true,5⟩:Ob)]=Y1∧rdOb Y1 Y.length 0=some ⟨insC x,0,true,5⟩∧rdOb Y1 o3 0=some ⟨[w,.i m],0,true,2⟩∧rdC Y1 id g (b * 6+1)=some u ∧
   doApp Y1 5 u 1 (insC x)=some (.c (.sl iz gz 0 (bs[b].list.length+1)),Y5)∧rdOb Y5 o3 0=some ⟨[w,.i m],0,true,2⟩∧rdOb Y5 id g=some ⟨cells,g,true,6⟩∧Y5.set id ⟨putAt cells (b * 6+1) [.sl iz gz 0 (bs[b].list.length+1)],g,true,6⟩=Y6 ∧
   SplitH N o3 E m X0 Y6 w (bs.set b ⟨bs[b].phis,bs[b].list++[x],bs[b].term⟩)∧Y.length≤Y6.length:=by
 obtain⟨Y1,hY1⟩:∃ Y1,Y++[(⟨insC x,0,true,5⟩:Ob)]=Y1:=⟨_,rfl⟩
 have hp1:Pre Y Y1:=⟨_,hY1.symm⟩
 have l1:Y1.length=Y.length+1:=by rw[← hY1];simp
 have n1:rdOb Y1 Y.length 0=some ⟨insC x,0,true,5⟩:=by rw[← hY1];simp
 have hT1:Tree (fun j=>N≤j∧¬ E j∧j≠o3) Y1 w bs:=h.tree.fr blkF_st (Frm.pre hp1)
 obtain⟨id,g,cells,z,u,Gu,r1,r2,r3,r4,r5,r6,r7,r8,r9,r10⟩:=hT1.listH hb
 have hO1:=hp1.rdOb h.out
 have hlo:=rdOb_lt h.out
 obtain⟨id0,g0,cells0,z0,u0,Gu0,t1,t2,t3,t4,t5,t6,t7,t8,t9,t10⟩:=h.tree.listH hb
 have ei:id0=id∧g0=g:=by have e:=t1.symm.trans r1;injection e with e;injection e with e1 e2;exact⟨e1,e2⟩
 obtain⟨rfl,rfl⟩:=ei
 have ec:cells0=cells:=by have e:=(hp1.rdOb t2).symm.trans r2;injection e with e;injection e
 subst ec
 have eu:u0=u:=by have e:=(rdC_to hp1 t5).symm.trans r5;injection e
 subst eu
 obtain⟨iz,gz,Y5,happ,hR5,hf5,l5⟩:=r6.snoc insF_st (by omega) (by omega) (by omega) (cs:=insC x) (x:=x) (G:=fun _=>False) rfl (fun Z hZ=>rfl) (fun i hi=>hi.elim)
 have o5:rdOb Y5 o3 0=some ⟨[w,.i m],0,true,2⟩:=hf5.ob (fun hg=>(r7 _ hg).1.2.2 rfl) hO1
 obtain⟨s1,s2⟩:=r10 Y5 _ (.sl iz gz 0 (bs[b].list.length+1)) _ (by omega) (hf5.mono fun j hj=>hj.2) hR5 (fun i hi=>by
  rcases hi with hi | hi | hi
  ·exact .inl hi
  ·exact hi.elim
  ·exact .inr ⟨by omega,⟨by omega,fun he=>by have:=hE i he;omega,by omega⟩,by omega⟩) (by simp;omega)
 refine⟨id0,g0,cells0,u0,iz,gz,Y1,Y5,_,r1,t2,t5,by omega,hY1,n1,hO1,r5,happ,o5,s1,rfl,?_,by simp;omega⟩
 refine h.to hN s2 ?_ (by simp;omega)
 refine (Frm.pre hp1).trans ((hf5.mono fun i hi hg=>hi.2 (r7 _ hg).1).trans ?_)
 exact Frm.set _ _ (fun hn=>hn.2 r8)
theorem c50 (a b c d e x:CV):putAt [a,b,c,d,e] 0 [x]=[x,b,c,d,e]:=rfl

theorem c51 (a b c d e x:CV):putAt [a,b,c,d,e] 1 [x]=[a,x,c,d,e]:=rfl

theorem c52 (a b c d e x:CV):putAt [a,b,c,d,e] 2 [x]=[a,b,x,d,e]:=rfl

theorem c55 (a b c d e v w x y z:CV):putAt [a,b,c,d,e] 0 [v,w,x,y,z]=[v,w,x,y,z]:=rfl

set_option maxRecDepth 100000 in
theorem implCats {N o3 mb mg b n:Nat} {w:CV} {m:Int} {ms:List ArmR} {Y0:Hp} {A D:List BlkR} {ls:List InsR} {t:TrmR} {e:Env} {Q:X×St→Prop} {x1 x2 x3:IV}
  (h0:SplitH N o3 (fun j=>j=mb) m Y0 Y0 w (A++⟨[],ls,t⟩ :: D)) (hM0:MvO Y0 mb mg ms []) (hA:A.length=b) (hN:N≤o3) (hmb:N≤mb) (hmo:mb≠o3) (hls:ls.length≤100) (hms:ms.length≤100)
  (e1:Env.get e 1=x1) (e2:Env.get e 2=x2) (e3:Env.get e 3=x3) (e4:Env.get e 4=.c (.p o3 0 0)) (e5:Env.get e 5=.c (.i b)) (e29:Env.get e 29=.c (.i n)) (e30:Env.get e 30=.c (.i b))
  (e60:Env.get e 60=.c (.sl mb mg 0 ms.length)) (e61:Env.get e 61=.c (.i ms.length)) (e62:Env.get e 62=.c (.i 0))
  (hQ:∀ (Y:Hp) (e':Env),SplitH N o3 (fun j=>j=mb) m Y0 Y w (A++⟨[],ls++ms.map cpI,t⟩ :: D) →
   Env.get e' 1=x1→Env.get e' 2=x2→Env.get e' 3=x3→Env.get e' 4=.c (.p o3 0 0)→Env.get e' 29=.c (.i n)→Env.get e' 30=.c (.i b)→Q (.exit 2,⟨e',Y⟩)) :
  loopD (exW CM [0,1,2,3,4,5,6,7,10,19,29,30,31,43,60,61,62,63,88] vf25b0) ⟨e,Y0⟩ Q:=by
 have hmlt:=hM0.lt
 obtain⟨I,hI⟩:∃ I:Nat→St→Prop,∀ j s,I j s↔(SplitH N o3 (fun j=>j=mb) m Y0 s.h w (A++⟨[],ls++(ms.take j).map cpI,t⟩ :: D) ∧
   Env.get s.e 1=x1∧Env.get s.e 2=x2∧Env.get s.e 3=x3∧Env.get s.e 4=.c (.p o3 0 0)∧Env.get s.e 5=.c (.i b)∧Env.get s.e 29=.c (.i n)∧Env.get s.e 30=.c (.i b)∧Env.get s.e 60=.c (.sl mb mg 0 ms.length)∧Env.get s.e 61=.c (.i ms.length)∧Env.get s.e 62=.c (.i j)):=⟨_,fun _ _=>Iff.rfl⟩
 refine wp_for CM_mono ms.length I ((hI _ ⟨_,_⟩).2 ⟨by simpa using h0,e1,e2,e3,e4,e5,e29,e30,e60,e61,e62⟩) ?_ ?_
 ·rintro j ⟨e0,Y⟩ hj hIs
  obtain⟨hH,f1,f2,f3,f4,f5,f29,f30,f60,f61,f62⟩:=(hI _ _).1 hIs
  simp only at hH f1 f2 f3 f4 f5 f29 f30 f60 f61 f62 ⊢
  have hlY:=hH.len
  have hMY:MvO Y mb mg ms []:=hH.fr.ob ⟨hmlt,.inr ⟨rfl,hmo⟩⟩ hM0
  obtain⟨id2,g2,off2,q1,q2,_,_,_⟩:=Arms.get hMY.row hj
  obtain⟨a,ha⟩:∃ a,ms[j]=a:=⟨_,rfl⟩
  rw[ha]at q2
  have hsu:ls++(ms.take (j+1)).map cpI=(ls++(ms.take j).map cpI)++[cpI a]:=by
   rw[List.take_succ_eq_append_getElem hj,List.map_append,List.append_assoc,ha];rfl
  obtain⟨C,hC⟩:∃ C,ls++(ms.take j).map cpI=C:=⟨_,rfl⟩
  have hCl:C.length≤200:=by rw[← hC];simp;omega
  rw[hC]at hH hsu
  obtain⟨Y1,hY1⟩:∃ Y1,Y++[(⟨[.i a.fr,.i a.v],0,true,2⟩:Ob)]=Y1:=⟨_,rfl⟩
  have n1:rdOb Y1 Y.length 0=some ⟨[.i a.fr,.i a.v],0,true,2⟩:=by rw[← hY1];simp
  have l1:Y1.length=Y.length+1:=by rw[← hY1];simp
  have hH1:SplitH N o3 (fun j=>j=mb) m Y0 Y1 w (A++⟨[],C,t⟩ :: D):=by rw[← hY1];exact hH.app _
  have hbl:b<(A++(⟨[],C,t⟩:BlkR) :: D).length:=by simp;omega
  have hat:(A++(⟨[],C,t⟩:BlkR) :: D)[b]=⟨[],C,t⟩:=by subst hA;exact mid_at _ _ _ hbl
  have hset:∀ x y:BlkR,(A++x :: D).set b y=A++y :: D:=fun x y=>by subst hA;exact mid_set _ _ _ _
  have ec:insC (cpI a)=[.i 25,.i a.fr,.i a.v,.i 0,.i 0]:=rfl
  obtain⟨id,g,cells,u,iz,gz,Y2,Y5,Y6,r1,r2,r3,r4,r5,r6,r7,r8,r9,r10,r11,r12,r13,r14⟩:=hH1.cat hN (by omega) (fun j hj=>by omega) hbl (by rw[hat];simp only[BIG];omega) (cpI a)
  rw[hat,hset]at r13
  rw[hat]at r9 r12
  rw[ec]at r5 r6 r9
  simp only at r9 r12 r13
  have o1:=hH1.out
  have n2:rdOb Y2 Y.length 0=some ⟨[.i a.fr,.i a.v],0,true,2⟩:=by rw[← r5];exact rdOb_app _ n1
  have r2':rdOb Y2 id g=some ⟨cells,g,true,6⟩:=by rw[← r5];exact rdOb_app _ r2
  have hsrc:srcOf Y2 5 (.sl Y1.length 0 0 1)=some (1,[.i 25,.i a.fr,.i a.v,.i 0,.i 0]):=by simp[srcOf,r6]
  unfold vf25b0
  simp[f1,f2,f3,f4,f5,f29,f30,f60,f61,f62,hj,q1,q2.2.2,p22,hY1,n1,rdN_ob n1,rdC_ob n1,o1,rdC_ob o1,r1,r2,r2',r3,c50,c51,c52,c55,r5,r7,rdC_ob r7,r8,n2,rdC_ob n2,hsrc,r9,r10,r11,r4,r12,up1 hj (show ms.length≤BIG by simp only[BIG];omega)]
  refine (hI _ ⟨_,_⟩).2 ⟨?_,?_⟩
  ·rw[hsu];exact r13
  ·simp
 ·rintro⟨e0,Y⟩ hIs
  obtain⟨hH,f1,f2,f3,f4,f5,f29,f30,f60,f61,f62⟩:=(hI _ _).1 hIs
  simp only at hH f1 f2 f3 f4 f5 f29 f30 f60 f61 f62 ⊢
  rw[List.take_length]at hH
  unfold vf25b0
  simp[f1,f2,f3,f4,f5,f29,f30,f60,f61,f62]
  exact hQ Y _ hH (by simp) (by simp) (by simp) (by simp) (by simp) (by simp)

set_option maxRecDepth 100000 in
theorem specCats {N o3 mb mg b:Nat} {w:CV} {m:Int} {ms:List ArmR} {Y0:Hp} {A D:List BlkR} {ls:List InsR} {t:TrmR} {e:Env} {Q:X×St→Prop} {x1 x2 x3:IV}
  (h0:SplitH N o3 (fun j=>j=mb) m Y0 Y0 w (A++⟨[],ls,t⟩ :: D)) (hM0:MvO Y0 mb mg ms []) (hA:A.length=b) (hN:N≤o3) (hmb:N≤mb) (hmo:mb≠o3) (hls:ls.length≤100) (hms:ms.length≤100)
  (e1:Env.get e 1=x1) (e2:Env.get e 2=x2) (e3:Env.get e 3=x3) (e4:Env.get e 4=.c (.p o3 0 0)) (e5:Env.get e 5=.c (.i b))
  (e7:Env.get e 7=.c (.sl mb mg 0 ms.length)) (e8:Env.get e 8=.c (.i 0))
  (hQ:∀ (Y:Hp) (e':Env),SplitH N o3 (fun j=>j=mb) m Y0 Y w (A++⟨[],ls++ms.map cpI,t⟩ :: D) →
   Env.get e' 1=x1→Env.get e' 2=x2→Env.get e' 3=x3→Env.get e' 4=.c (.p o3 0 0)→Env.get e' 5=.c (.i b)→Q (.exit 2,⟨e',Y⟩)) :
  loopD (exW CM [0,1,2,3,4,5,6,7,8,17,29,42,55,84] vf26b0) ⟨e,Y0⟩ Q:=by
 have hmlt:=hM0.lt
 obtain⟨I,hI⟩:∃ I:Nat→St→Prop,∀ j s,I j s↔(SplitH N o3 (fun j=>j=mb) m Y0 s.h w (A++⟨[],ls++(ms.take j).map cpI,t⟩ :: D) ∧
   Env.get s.e 1=x1∧Env.get s.e 2=x2∧Env.get s.e 3=x3∧Env.get s.e 4=.c (.p o3 0 0)∧Env.get s.e 5=.c (.i b)∧Env.get s.e 7=.c (.sl mb mg 0 ms.length)∧Env.get s.e 8=.c (.i j)):=⟨_,fun _ _=>Iff.rfl⟩
 refine wp_for CM_mono ms.length I ((hI _ ⟨_,_⟩).2 ⟨by simpa using h0,e1,e2,e3,e4,e5,e7,e8⟩) ?_ ?_
 ·rintro j ⟨e0,Y⟩ hj hIs
  obtain⟨hH,f1,f2,f3,f4,f5,f7,f8⟩:=(hI _ _).1 hIs
  simp only at hH f1 f2 f3 f4 f5 f7 f8 ⊢
  have hlY:=hH.len
  have hMY:MvO Y mb mg ms []:=hH.fr.ob ⟨hmlt,.inr ⟨rfl,hmo⟩⟩ hM0
  obtain⟨id2,g2,off2,q1,q2,_,_,_⟩:=Arms.get hMY.row hj
  obtain⟨a,ha⟩:∃ a,ms[j]=a:=⟨_,rfl⟩
  rw[ha]at q2
  have hsu:ls++(ms.take (j+1)).map cpI=(ls++(ms.take j).map cpI)++[cpI a]:=by
   rw[List.take_succ_eq_append_getElem hj,List.map_append,List.append_assoc,ha];rfl
  obtain⟨C,hC⟩:∃ C,ls++(ms.take j).map cpI=C:=⟨_,rfl⟩
  have hCl:C.length≤200:=by rw[← hC];simp;omega
  rw[hC]at hH hsu
  have hbl:b<(A++(⟨[],C,t⟩:BlkR) :: D).length:=by simp;omega
  have hat:(A++(⟨[],C,t⟩:BlkR) :: D)[b]=⟨[],C,t⟩:=by subst hA;exact mid_at _ _ _ hbl
  have hset:∀ x y:BlkR,(A++x :: D).set b y=A++y :: D:=fun x y=>by subst hA;exact mid_set _ _ _ _
  have ec:insC (cpI a)=[.i 25,.i a.fr,.i a.v,.i 0,.i 0]:=rfl
  obtain⟨id,g,cells,u,iz,gz,Y2,Y5,Y6,r1,r2,r3,r4,r5,r6,r7,r8,r9,r10,r11,r12,r13,r14⟩:=hH.cat hN (by omega) (fun j hj=>by omega) hbl (by rw[hat];simp only[BIG];omega) (cpI a)
  rw[hat,hset]at r13
  rw[hat]at r9 r12
  rw[ec]at r5 r6 r9
  simp only at r9 r12 r13
  have o1:=hH.out
  have r2':rdOb Y2 id g=some ⟨cells,g,true,6⟩:=by rw[← r5];exact rdOb_app _ r2
  have hsrc:srcOf Y2 5 (.sl Y.length 0 0 1)=some (1,[.i 25,.i a.fr,.i a.v,.i 0,.i 0]):=by simp[srcOf,r6]
  unfold vf26b0
  simp[f1,f2,f3,f4,f5,f7,f8,hj,hMY.row.lenOf,q1,q2.1,q2.2.1,o1,rdC_ob o1,r1,r2,r2',r3,c50,c51,c52,c55,r5,r7,rdC_ob r7,r8,hsrc,r9,r10,r11,r4,r12,up1 hj (show ms.length≤BIG by simp only[BIG];omega)]
  refine (hI _ ⟨_,_⟩).2 ⟨?_,?_⟩
  ·rw[hsu];exact r13
  ·simp
 ·rintro⟨e0,Y⟩ hIs
  obtain⟨hH,f1,f2,f3,f4,f5,f7,f8⟩:=(hI _ _).1 hIs
  simp only at hH f1 f2 f3 f4 f5 f7 f8 ⊢
  rw[List.take_length]at hH
  have hMY:MvO Y mb mg ms []:=hH.fr.ob ⟨hmlt,.inr ⟨rfl,hmo⟩⟩ hM0
  unfold vf26b0
  simp[f1,f2,f3,f4,f5,f7,f8,hMY.row.lenOf]
  exact hQ Y _ hH (by simp) (by simp) (by simp) (by simp) (by simp)
theorem shape_small {f:FnR} (h:shapeB f=true):0≤f.values∧f.values≤80∧f.blocks.length≤16∧∀ b∈f.blocks,b.list.length≤24:=by
 unfold shapeB inB at h
 simp only[Bool.and_eq_true,decide_eq_true_eq,List.all_eq_true]at h
 refine⟨by omega,by omega,by omega,fun b hb=>?_⟩
 have h5:=h.2 b hb
 unfold blkB at h5
 simp only[Bool.and_eq_true,decide_eq_true_eq]at h5
 omega

theorem lowerTo_set {f:FnR} {i:Nat} (hi:i<f.blocks.length) (x:BlkR):(lowerTo f i).set i x=(List.range i).map (lowerB f)++x :: f.blocks.drop (i+1):=by
 unfold lowerTo
 rw[List.set_append_right _ _ (by simp)]
 congr 1
 rw[List.length_map,List.length_range,Nat.sub_self,List.drop_eq_getElem_cons hi]
 rfl

theorem lowerB_none {f:FnR} {i:Nat} (hi:i<f.blocks.length) (h:(succsAt f.blocks i).length≠1):lowerB f i=⟨[],f.blocks[i].list,f.blocks[i].term⟩:=by
 unfold lowerB lowerL
 rw[if_neg h,List.append_nil,blk_at hi]

theorem lowerB_one {f:FnR} {i d:Nat} (hi:i<f.blocks.length) (hd:d<f.blocks.length) (h:succsAt f.blocks i=[(d:Int)]):lowerB f i=⟨[],f.blocks[i].list++(seqL f.values (mvsP i f.blocks[d].phis)).map cpI,f.blocks[i].term⟩:=by
 unfold lowerB lowerL
 rw[h]
 simp only[List.length_cons,List.length_nil,Nat.zero_add,if_pos,List.getD_cons_zero,Int.toNat_natCast,blk_at hi,blk_at hd]

set_option maxRecDepth 100000 in
theorem implLower {H:Hp} {v:CV} {f:FnR} (hv:Blocks H v f.blocks) (hb:f.blocks.length≤BIG):CM 25 [.agg [v,.i f.values]] H (FnRes2 H (lower0 f) (lowerOk f)):=by
 refine cw25 ?_
 unfold vf25c
 obtain⟨X1,hX1⟩:∃ X1,H++[(⟨[v,.i f.values],0,true,2⟩:Ob),⟨[.ns,.i 0],0,true,2⟩]=X1:=⟨_,rfl⟩
 have hp1:Pre H X1:=⟨_,hX1.symm⟩
 have l1:X1.length=H.length+2:=by rw[← hX1];simp
 have hB1:rdOb X1 H.length 0=some ⟨[v,.i f.values],0,true,2⟩:=by rw[← hX1];simp
 have hR1:rdOb X1 (H.length+1) 0=some ⟨[.ns,.i 0],0,true,2⟩:=by rw[← hX1];simp
 have hv1:=hv.pre hp1
 obtain⟨ew,Le,hew,hcrit⟩:=implCrit0 (f:=f) hv1 hb
 obtain⟨X2,hX2⟩:∃ X2,X1++Le=X2:=⟨_,rfl⟩
 have hp2:Pre X1 X2:=⟨_,hX2.symm⟩
 have l2:=hp2.le
 have hE2:Arms X2 ew (crit0 f):=by rw[← hX2];exact hew.isE
 have hle:=hE2.lenOf
 have hfalse:∀ (h:¬ LowerC f),lower0 f=⟨[],0⟩∧lowerOk f=false:=fun h=>⟨by unfold lower0;rw[if_neg h],pB_false h⟩
 have hbad:∀ X X6,Pre H X→X.set (H.length+1) ⟨[.ns,.i 0],0,true,2⟩=X6→FnRes2 H ⟨[],0⟩ false (gcRet H (.tup [(true,[.ns,.i 0]),(false,[.b false])]) X6):=by
  intro X X6 hp hX6
  refine FnRes2.mk (H:=H) (g:=⟨[],0⟩) (S:=fun j=>False) ?_ FRow.ns (fun j hj=>hj.elim)
  rw[← hX6];exact hp.set (by omega) _
 have hRs:∀ X X6,rdOb X (H.length+1) 0=some ⟨[.ns,.i 0],0,true,2⟩→X.set (H.length+1) ⟨[.ns,.i 0],0,true,2⟩=X6→rdOb X6 (H.length+1) 0=some ⟨[.ns,.i 0],0,true,2⟩:=fun X X6 h e=>by rw[← e,rdOb_set_self (rdOb_lt h)];simp
 by_cases hck:checkF f=0
 ·by_cases hcr:(crit0 f).length=0
  ·have hW:=well_iff.1 hck
   have hsh:=hW.sh
   have hsm:=shape_small hsh
   have hR2:=hp2.rdOb hR1
   have hB2:=hp2.rdOb hB1
   have hv2:=hv1.pre hp2
   simp[hX1,rdN_ob hB1,implCheck hv1 hb,hck,hcrit,hX2,hle,hcr,rdN_ob hB2]
   refine (implClone hv2 hb).mono ?_
   rintro _ ⟨w,L1,rfl,hT⟩
   obtain⟨X3,hX3⟩:∃ X3,X2++L1=X3:=⟨_,rfl⟩
   rw[hX3]at hT ⊢
   have hp3:Pre X2 X3:=⟨_,hX3.symm⟩
   have l3:=hp3.le
   obtain⟨X4,hX4⟩:∃ X4,X3++[(⟨[w,.i f.values],0,true,2⟩:Ob)]=X4:=⟨_,rfl⟩
   have hp4:Pre X3 X4:=⟨_,hX4.symm⟩
   have l4:X4.length=X3.length+1:=by rw[← hX4];simp
   have hO4:rdOb X4 X3.length 0=some ⟨[w,.i f.values],0,true,2⟩:=by rw[← hX4];simp
   obtain⟨X5,hX5⟩:∃ X5,X4.set X3.length ⟨[w,.i (f.values+1)],0,true,2⟩=X5:=⟨_,rfl⟩
   have l5:X5.length=X4.length:=by rw[← hX5];simp
   have hO5:rdOb X5 X3.length 0=some ⟨[w,.i (f.values+1)],0,true,2⟩:=by rw[← hX5,rdOb_set_self (rdOb_lt hO4)];simp
   have hp35:Pre X3 X5:=by rw[← hX5];exact hp4.set (Nat.le_refl _) _
   have hp25:=hp3.trans hp35
   have hB5:=hp25.rdOb hB2
   have hR5:=hp25.rdOb hR2
   have hpH5:=hp1.trans (hp2.trans hp25)
   have hT5:Tree (fun j=>X2.length≤j∧j<X3.length) X5 w f.blocks:=hT.bound.fr blkF_st (Frm.pre hp35)
   have hlv:=(hv.pre hpH5).lenOf
   have hw1:wrap64 (f.values+1)=f.values+1:=wrap64_id (by omega)
   simp[p20,p21,p22,hX4,hO4,rdC_ob hO4,hw1,hX5,rdC_ob hB5,hlv]
   clear hw1
   have hH0:SplitH X2.length X3.length (fun _=>False) (f.values+1) X5 X5 w (lowerTo f 0):=
    ⟨by rw[show lowerTo f 0=f.blocks by simp[lowerTo]];exact hT5.mono fun j hj=>⟨hj.1,fun h=>h,by omega⟩,hO5,Frm.refl _ _,Nat.le_refl _⟩
   obtain⟨I,hI⟩:∃ I:Nat→St→Prop,∀ i s,I i s↔(SplitH X2.length X3.length (fun _=>False) (f.values+1) X5 s.h w (lowerTo f i) ∧
    Env.get s.e 1=.c (.p H.length 0 0)∧Env.get s.e 2=.c (.p (H.length+1) 0 0)∧Env.get s.e 4=.c (.p X3.length 0 0)∧Env.get s.e 29=.c (.i f.blocks.length)∧Env.get s.e 30=.c (.i i)):=⟨_,fun _ _=>Iff.rfl⟩
   refine wp_for CM_mono f.blocks.length I ((hI _ ⟨_,_⟩).2 ⟨hH0,by simp⟩) ?_ ?_
   ·rintro i ⟨e,Y⟩ hi hIs
    obtain⟨hH,e1,e2,e4,e29,e30⟩:=(hI _ _).1 hIs
    simp only at hH e1 e2 e4 e29 e30 ⊢
    have hlY:=hH.len
    have hll:=lowerTo_len f i (by omega)
    have hli:i<(lowerTo f i).length:=by omega
    have hat:=lowerTo_at f i hi
    have hsuc:=lowerTo_succ f i hi
    obtain⟨id,g,cells,Y2,q1,q2,q3,hY2,hH2,lY2⟩:=hH.dry (by omega) hli
    rw[hat]at hH2
    have oY:=hH.out
    have hpY2:Pre H Y2:=(hH2.fr.mono fun j (hj:j<H.length)=>⟨by omega,.inl (by omega)⟩).cut hpH5
    have bY2:rdOb Y2 H.length 0=some ⟨[v,.i f.values],0,true,2⟩:=hH2.fr.ob ⟨by omega,.inl (by omega)⟩ hB5
    have hvY2:=hv.pre hpY2
    obtain⟨sw,Ls,hsw,hsucs⟩:=implSuccs (m:=f.values) hvY2 hi
    have hse:succsF f.blocks[i].term=succsAt f.blocks i:=(succsAt_eq hi).symm
    obtain⟨Y3,hY3⟩:∃ Y3,Y2++Ls=Y3:=⟨_,rfl⟩
    have hpY3:Pre Y2 Y3:=⟨_,hY3.symm⟩
    have hlY3:=hpY3.le
    rw[hse]at hsw
    have hls:=hsw.len
    unfold vf25b1
    by_cases h1:(succsAt f.blocks i).length=1
    ·obtain⟨d,hd,hsd⟩:∃ d:Nat,d<f.blocks.length∧succsAt f.blocks i=[(d:Int)]:=by
      obtain⟨x,hx⟩:=List.length_eq_one_iff.1 h1
      have:=shape_range hsh i x (by rw[hx];simp)
      exact⟨x.toNat,by omega,by rw[hx,Int.toNat_of_nonneg this.1]⟩
     have hsl:=lowerB_one hi hd hsd
     rw[hsd]at hsw
     obtain⟨rfl,rfl⟩:sw=.sl Y2.length 0 0 1∧Ls=[⟨[.i (d:Int)],0,true,1⟩]:=by
      rcases hsw with⟨_,_,h⟩ | h
      ·cases h
      ·exact h
     have s3:rdOb Y3 Y2.length 0=some ⟨[.i (d:Int)],0,true,1⟩:=by rw[← hY3];simp
     have hpH3:=hpY2.trans hpY3
     have hvY3:=hv.pre hpH3
     have bY3:=hpY3.rdOb bY2
     obtain⟨bid,bg,boff,z,u,x1,x2,_,hz,_,hzb,_,_,_⟩:=hvY3.get hd
     have x2':rdC Y3 bid bg boff=some z:=x2.1
     obtain⟨hmo,hml⟩:=moves_ok hsh hW.once (List.getElem_mem hd) (i:Int)
     have hmv:=implMvs (b:=(i:Int)) hz hzb hml
     obtain⟨ms,hms⟩:∃ ms,mvsP (i:Int) f.blocks[d].phis=ms:=⟨_,rfl⟩
     rw[hms]at hmo hml hmv hsl
     obtain⟨Y4,hY4⟩:∃ Y4,Y3++[(⟨edC ms,0,true,2⟩:Ob)]=Y4:=⟨_,rfl⟩
     have hpY4:Pre Y3 Y4:=⟨_,hY4.symm⟩
     have hlY4:=hpY4.le
     have hM4:MvO Y4 Y3.length 0 ms []:=by show rdOb _ _ _=_;rw[← hY4];simp
     have bY4:=hpY4.rdOb bY3
     have hseq:=implSeq (n:=f.values) hM4.row (by simp only[BIG];omega) hmo
     simp[e1,e2,e4,e29,e30,hi,rdC_ob oY,q1,q2,q3,hY2,rdN_ob bY2,hsucs,hY3,hls,h1,bY3,bY4,rdC_ob bY3,s3,rdC_ob s3,x1,x2',hmv,hY4,rdC_ob bY4]
     refine hseq.mono ?_
     rintro _ ⟨Z,mb,mg,rfl,hpZ,hmb,hMZ⟩
     obtain⟨sq,hsq⟩:∃ sq,seqL f.values ms=sq:=⟨_,rfl⟩
     have hsq':seqF f.values 60 (leftM idM ms ms.length) []=sq:=hsq
     have hsl60:sq.length≤60:=by rw[← hsq];exact seqL_len _ _
     rw[hsq']at hMZ ⊢
     rw[hsq]at hsl
     have hpYZ:Pre Y2 Z:=hpY3.trans (hpY4.trans hpZ)
     have hlZ:=hpYZ.le
     rw[lowerTo_set hi]at hH2 hsuc
     have hHZ:SplitH X2.length X3.length (fun j=>j=mb) (f.values+1) Z Z w ((List.range i).map (lowerB f)++⟨[],f.blocks[i].list,f.blocks[i].term⟩ :: f.blocks.drop (i+1)):=
      ⟨((FRow.bound hH2.tree).fr blkF_st (Frm.pre hpYZ)).mono fun j hj=>⟨hj.1.1,by have:=hj.2;omega,hj.1.2.2⟩,hpYZ.rdOb hH2.out,Frm.refl _ _,Nat.le_refl _⟩
     have hll24:f.blocks[i].list.length≤24:=hsm.2.2.2 _ (List.getElem_mem hi)
     have hmne:mb≠X3.length:=by omega
     simp
     refine implCats (b:=i) (n:=f.blocks.length) (x1:=.c (.p H.length 0 0)) (x2:=.c (.p (H.length+1) 0 0)) (x3:=Env.get e 3) hHZ hMZ (by simp) (by omega) (by omega) hmne (by omega) (by omega) (by simp) (by simp) (by simp) (by simp) (by simp) (by simp) (by simp) (by simp) (by simp) (by simp) ?_
     intro Y6 e' hH6 k1 k2 k3 k4 k29 k30
     have hl6:=hH6.len
     have hl2:=hH2.len
     simp[k1,k2,k3,k4,k29,k30,up1 hi hb]
     refine (hI _ ⟨_,_⟩).2 ⟨?_,?_⟩
     ·rw[← hsuc,hsl]
      exact⟨hH6.tree.mono fun j hj=>⟨hj.1,fun h=>h,hj.2.2⟩,hH6.out,hH2.fr.trans ((Frm.pre hpYZ).trans (hH6.fr.mono fun j hj=>⟨Nat.lt_of_lt_of_le hj.1 (Nat.le_trans hl2 hlZ),.inl (by rcases hj.2 with h | h;exact h;exact h.1.elim)⟩)),Nat.le_trans hl2 (Nat.le_trans hlZ hl6)⟩
     ·simp
    ·have hsl:=lowerB_none hi h1
     rw[hsl]at hsuc
     have h1i:¬ (((succsAt f.blocks i).length:Int)=1):=by omega
     simp[e1,e2,e4,e29,e30,hi,rdC_ob oY,q1,q2,q3,hY2,rdN_ob bY2,hsucs,hY3,hls,h1i,up1 hi hb]
     refine (hI _ ⟨_,_⟩).2 ⟨?_,?_⟩
     ·rw[← hsuc,← hY3]
      exact hH2.app _
     ·simp
   ·rintro⟨e,Y⟩ hIs
    obtain⟨hH,e1,e2,e4,e29,e30⟩:=(hI _ _).1 hIs
    simp only at hH e1 e2 e4 e29 e30 ⊢
    have oY:=hH.out
    have hlY:=hH.len
    have hRY:rdOb Y (H.length+1) 0=some ⟨[.ns,.i 0],0,true,2⟩:=hH.fr.ob ⟨by omega,.inl (by omega)⟩ hR5
    have hpY:Pre H Y:=(hH.fr.mono fun j (hj:j<H.length)=>⟨by omega,.inl (by omega)⟩).cut hpH5
    have hbl:=lowerTo_len f f.blocks.length (Nat.le_refl _)
    have hshp:=implShape (v:=w) (f:=lowerF f) (Tree.blocks hH.tree) (by show (lowerTo f f.blocks.length).length≤BIG;omega)
    have hshp':∀ k,CM 51 [.agg [w,.i (f.values+1)]] Y k=k (.c (.b (shapeB (lowerF f))),Y):=hshp
    unfold vf25b1
    cases hs:shapeB (lowerF f) with
    | true =>
     rw[hs]at hshp'
     have hC:LowerC f:=⟨hck,hcr,hs⟩
     have hg:lower0 f=lowerF f∧lowerOk f=true:=⟨by unfold lower0;rw[if_pos hC],pB_true hC⟩
     obtain⟨Y2,hY2⟩:∃ Y2,Y.set (H.length+1) ⟨[w,.i (f.values+1)],0,true,2⟩=Y2:=⟨_,rfl⟩
     have hRY2:rdOb Y2 (H.length+1) 0=some ⟨[w,.i (f.values+1)],0,true,2⟩:=by rw[← hY2,rdOb_set_self (rdOb_lt hRY)];simp
     simp[e1,e2,e4,e29,e30,rdN_ob oY,hshp',hRY,p22,hY2,rdN_ob hRY2]
     rw[hg.1,hg.2]
     refine FnRes2.mk (H:=H) (g:=lowerF f) (S:=fun j=>X2.length≤j∧¬ False∧j≠X3.length) ?_ ?_ (fun j hj=>by omega)
     ·rw[← hY2];exact hpY.set (by omega) _
     ·rw[← hY2];exact hH.tree.fr blkF_st (Frm.set _ _ (by omega))
    | false =>
     rw[hs]at hshp'
     obtain⟨g1,g2⟩:=hfalse (fun h=>by have:=h.2.2;rw[hs]at this;cases this)
     obtain⟨X6,hX6⟩:∃ X6,Y.set (H.length+1) ⟨[.ns,.i 0],0,true,2⟩=X6:=⟨_,rfl⟩
     simp[e1,e2,e4,e29,e30,rdN_ob oY,hshp',hRY,p22,hX6,rdN_ob (hRs _ _ hRY hX6)]
     rw[g1,g2]
     exact hbad _ _ hpY hX6
  ·obtain⟨g1,g2⟩:=hfalse (fun h=>hcr h.2.1)
   obtain⟨X6,hX6⟩:∃ X6,X2.set (H.length+1) ⟨[.ns,.i 0],0,true,2⟩=X6:=⟨_,rfl⟩
   have hR2:=hp2.rdOb hR1
   simp[hX1,rdN_ob hB1,implCheck hv1 hb,hck,hcrit,hX2,hle,hcr,show 0<(crit0 f).length by omega,hR2,p22,hX6,rdN_ob (hRs _ _ hR2 hX6)]
   rw[g1,g2]
   exact hbad _ _ (hp1.trans hp2) hX6
 ·obtain⟨g1,g2⟩:=hfalse (fun h=>hck h.1)
  obtain⟨X6,hX6⟩:∃ X6,X1.set (H.length+1) ⟨[.ns,.i 0],0,true,2⟩=X6:=⟨_,rfl⟩
  simp[hX1,rdN_ob hB1,implCheck hv1 hb,hck,hR1,p22,hX6,rdN_ob (hRs _ _ hR1 hX6)]
  rw[g1,g2]
  exact hbad _ _ hp1 hX6
set_option maxRecDepth 100000 in
theorem specLower {H:Hp} {v:CV} {f:FnR} (hv:Blocks H v f.blocks) (hb:f.blocks.length≤BIG):CM 26 [.agg [v,.i f.values]] H (FnRes2 H (lower0 f) (lowerOk f)):=by
 refine cw26 ?_
 unfold vf26c
 obtain⟨X1,hX1⟩:∃ X1,H++[(⟨[v,.i f.values],0,true,2⟩:Ob),⟨[.ns,.i 0],0,true,2⟩]=X1:=⟨_,rfl⟩
 have hp1:Pre H X1:=⟨_,hX1.symm⟩
 have l1:X1.length=H.length+2:=by rw[← hX1];simp
 have hB1:rdOb X1 H.length 0=some ⟨[v,.i f.values],0,true,2⟩:=by rw[← hX1];simp
 have hR1:rdOb X1 (H.length+1) 0=some ⟨[.ns,.i 0],0,true,2⟩:=by rw[← hX1];simp
 have hv1:=hv.pre hp1
 have hfalse:∀ (h:¬ LowerC f),lower0 f=⟨[],0⟩∧lowerOk f=false:=fun h=>⟨by unfold lower0;rw[if_neg h],pB_false h⟩
 have hbad:∀ X X6,Pre H X→X.set (H.length+1) ⟨[.ns,.i 0],0,true,2⟩=X6→FnRes2 H ⟨[],0⟩ false (gcRet H (.tup [(true,[.ns,.i 0]),(false,[.b false])]) X6):=by
  intro X X6 hp hX6
  refine FnRes2.mk (H:=H) (g:=⟨[],0⟩) (S:=fun j=>False) ?_ FRow.ns (fun j hj=>hj.elim)
  rw[← hX6];exact hp.set (by omega) _
 have hRs:∀ X X6,rdOb X (H.length+1) 0=some ⟨[.ns,.i 0],0,true,2⟩→X.set (H.length+1) ⟨[.ns,.i 0],0,true,2⟩=X6→rdOb X6 (H.length+1) 0=some ⟨[.ns,.i 0],0,true,2⟩:=fun X X6 h e=>by rw[← e,rdOb_set_self (rdOb_lt h)];simp
 by_cases hck:checkF f=0
 ·have hW:=well_iff.1 hck
  have hsh:=hW.sh
  have hcrit:=specCrit (m:=f.values) hv1 (shape_range hsh) hb
  have hc0:critTo f.blocks f.blocks.length=crit0 f:=by unfold crit0;rw[if_pos hsh]
  rw[hc0]at hcrit
  obtain⟨X2,hX2⟩:∃ X2,X1++[(⟨edC (crit0 f),0,true,2⟩:Ob)]=X2:=⟨_,rfl⟩
  have hp2:Pre X1 X2:=⟨_,hX2.symm⟩
  have l2:=hp2.le
  obtain⟨ew,hewd⟩:∃ ew,CV.sl X1.length 0 0 (crit0 f).length=ew:=⟨_,rfl⟩
  have hew:RowE X1 ew [⟨edC (crit0 f),0,true,2⟩] (crit0 f):=.inr ⟨hewd.symm,rfl⟩
  have hE2:Arms X2 ew (crit0 f):=by rw[← hX2];exact hew.isE
  have hle:=hE2.lenOf
  rw[hewd]at hcrit
  by_cases hcr:(crit0 f).length=0
  ·have hsm:=shape_small hsh
   have hR2:=hp2.rdOb hR1
   have hB2:=hp2.rdOb hB1
   have hv2:=hv1.pre hp2
   simp[hX1,rdN_ob hB1,specCheck hv1 hb,hck,hcrit,hX2,hle,hcr,rdN_ob hB2]
   refine (specCopy hv2 hb).mono ?_
   rintro _ ⟨w,L1,rfl,hT⟩
   obtain⟨X3,hX3⟩:∃ X3,X2++L1=X3:=⟨_,rfl⟩
   rw[hX3]at hT ⊢
   have hp3:Pre X2 X3:=⟨_,hX3.symm⟩
   have l3:=hp3.le
   obtain⟨X4,hX4⟩:∃ X4,X3++[(⟨[w,.i f.values],0,true,2⟩:Ob)]=X4:=⟨_,rfl⟩
   have hp4:Pre X3 X4:=⟨_,hX4.symm⟩
   have l4:X4.length=X3.length+1:=by rw[← hX4];simp
   have hO4:rdOb X4 X3.length 0=some ⟨[w,.i f.values],0,true,2⟩:=by rw[← hX4];simp
   obtain⟨X5,hX5⟩:∃ X5,X4.set X3.length ⟨[w,.i (f.values+1)],0,true,2⟩=X5:=⟨_,rfl⟩
   have l5:X5.length=X4.length:=by rw[← hX5];simp
   have hO5:rdOb X5 X3.length 0=some ⟨[w,.i (f.values+1)],0,true,2⟩:=by rw[← hX5,rdOb_set_self (rdOb_lt hO4)];simp
   have hp35:Pre X3 X5:=by rw[← hX5];exact hp4.set (Nat.le_refl _) _
   have hp25:=hp3.trans hp35
   have hB5:=hp25.rdOb hB2
   have hR5:=hp25.rdOb hR2
   have hpH5:=hp1.trans (hp2.trans hp25)
   have hT5:Tree (fun j=>X2.length≤j∧j<X3.length) X5 w f.blocks:=hT.bound.fr blkF_st (Frm.pre hp35)
   have hlv:=(hv.pre hpH5).lenOf
   have hw1:wrap64 (f.values+1)=f.values+1:=wrap64_id (by omega)
   simp[p20,p21,p22,hX4,hO4,rdC_ob hO4,hw1,hX5,rdC_ob ((hp3.trans hp4).rdOb hB2)]
   clear hw1
   have hH0:SplitH X2.length X3.length (fun _=>False) (f.values+1) X5 X5 w (lowerTo f 0):=
    ⟨by rw[show lowerTo f 0=f.blocks by simp[lowerTo]];exact hT5.mono fun j hj=>⟨hj.1,fun h=>h,by omega⟩,hO5,Frm.refl _ _,Nat.le_refl _⟩
   obtain⟨I,hI⟩:∃ I:Nat→St→Prop,∀ i s,I i s↔(SplitH X2.length X3.length (fun _=>False) (f.values+1) X5 s.h w (lowerTo f i) ∧
    Env.get s.e 1=.c (.p H.length 0 0)∧Env.get s.e 2=.c (.p (H.length+1) 0 0)∧Env.get s.e 4=.c (.p X3.length 0 0)∧Env.get s.e 5=.c (.i i)):=⟨_,fun _ _=>Iff.rfl⟩
   refine wp_for CM_mono f.blocks.length I ((hI _ ⟨_,_⟩).2 ⟨hH0,?_⟩) ?_ ?_
   ·simp
   ·rintro i ⟨e,Y⟩ hi hIs
    obtain⟨hH,e1,e2,e4,e5⟩:=(hI _ _).1 hIs
    simp only at hH e1 e2 e4 e5 ⊢
    have hlY:=hH.len
    have hll:=lowerTo_len f i (by omega)
    have hli:i<(lowerTo f i).length:=by omega
    have hat:=lowerTo_at f i hi
    have hsuc:=lowerTo_succ f i hi
    have bY:rdOb Y H.length 0=some ⟨[v,.i f.values],0,true,2⟩:=hH.fr.ob ⟨by omega,.inl (by omega)⟩ hB5
    obtain⟨id,g,cells,Y2,q1,q2,q3,hY2,hH2,lY2⟩:=hH.dry (by omega) hli
    rw[hat]at hH2
    have oY:=hH.out
    have hpY2:Pre H Y2:=(hH2.fr.mono fun j (hj:j<H.length)=>⟨by omega,.inl (by omega)⟩).cut hpH5
    have bY2:rdOb Y2 H.length 0=some ⟨[v,.i f.values],0,true,2⟩:=hH2.fr.ob ⟨by omega,.inl (by omega)⟩ hB5
    have hvY2:=hv.pre hpY2
    obtain⟨sw,Ls,hsw,hsucs⟩:=specSuccs (m:=f.values) hvY2 hi
    have hse:succsF f.blocks[i].term=succsAt f.blocks i:=(succsAt_eq hi).symm
    obtain⟨Y3,hY3⟩:∃ Y3,Y2++Ls=Y3:=⟨_,rfl⟩
    have hpY3:Pre Y2 Y3:=⟨_,hY3.symm⟩
    have hlY3:=hpY3.le
    rw[hse]at hsw
    have hls:=hsw.len
    unfold vf26b1
    by_cases h1:(succsAt f.blocks i).length=1
    ·obtain⟨d,hd,hsd⟩:∃ d:Nat,d<f.blocks.length∧succsAt f.blocks i=[(d:Int)]:=by
      obtain⟨x,hx⟩:=List.length_eq_one_iff.1 h1
      have:=shape_range hsh i x (by rw[hx];simp)
      exact⟨x.toNat,by omega,by rw[hx,Int.toNat_of_nonneg this.1]⟩
     have hsl:=lowerB_one hi hd hsd
     rw[hsd]at hsw
     obtain⟨rfl,rfl⟩:sw=.sl Y2.length 0 0 1∧Ls=[⟨[.i (d:Int)],0,true,1⟩]:=by
      rcases hsw with⟨_,_,h⟩ | h
      ·cases h
      ·exact h
     have s3:rdOb Y3 Y2.length 0=some ⟨[.i (d:Int)],0,true,1⟩:=by rw[← hY3];simp
     have hpH3:=hpY2.trans hpY3
     have hvY3:=hv.pre hpH3
     have bY3:=hpY3.rdOb bY2
     obtain⟨hmo,hml⟩:=moves_ok hsh hW.once (List.getElem_mem hd) (i:Int)
     have hmv:=specMvs (m:=f.values) (b:=(i:Int)) hvY3 hd hml
     obtain⟨ms,hms⟩:∃ ms,mvsP (i:Int) f.blocks[d].phis=ms:=⟨_,rfl⟩
     rw[hms]at hmo hml hmv hsl
     obtain⟨Y4,hY4⟩:∃ Y4,Y3++[(⟨edC ms,0,true,2⟩:Ob)]=Y4:=⟨_,rfl⟩
     have hpY4:Pre Y3 Y4:=⟨_,hY4.symm⟩
     have hlY4:=hpY4.le
     have hM4:MvO Y4 Y3.length 0 ms []:=by show rdOb _ _ _=_;rw[← hY4];simp
     have bY4:=hpY4.rdOb bY3
     have hseq:=specSeq0 (n:=f.values) hM4.row hmo
     simp[e1,e2,e4,e5,hi,rdC_ob bY,hlv,rdC_ob oY,q1,q2,q3,hY2,rdN_ob bY2,hsucs,hY3,hls,h1,bY3,bY4,rdC_ob bY3,s3,rdC_ob s3,rdN_ob bY3,hmv,hY4,rdC_ob bY4]
     refine hseq.mono ?_
     rintro _ ⟨Z,mb,mg,rfl,hpZ,hmb,hMZ⟩
     obtain⟨sq,hsq⟩:∃ sq,seqL f.values ms=sq:=⟨_,rfl⟩
     have hsq':seqF f.values 60 (leftM idM ms ms.length) []=sq:=hsq
     have hsl60:sq.length≤60:=by rw[← hsq];exact seqL_len _ _
     rw[hsq']at hMZ ⊢
     rw[hsq]at hsl
     have hpYZ:Pre Y2 Z:=hpY3.trans (hpY4.trans hpZ)
     have hlZ:=hpYZ.le
     rw[lowerTo_set hi]at hH2 hsuc
     have hHZ:SplitH X2.length X3.length (fun j=>j=mb) (f.values+1) Z Z w ((List.range i).map (lowerB f)++⟨[],f.blocks[i].list,f.blocks[i].term⟩ :: f.blocks.drop (i+1)):=
      ⟨((FRow.bound hH2.tree).fr blkF_st (Frm.pre hpYZ)).mono fun j hj=>⟨hj.1.1,by have:=hj.2;omega,hj.1.2.2⟩,hpYZ.rdOb hH2.out,Frm.refl _ _,Nat.le_refl _⟩
     have hll24:f.blocks[i].list.length≤24:=hsm.2.2.2 _ (List.getElem_mem hi)
     have hmne:mb≠X3.length:=by omega
     simp
     refine specCats (b:=i) (x1:=.c (.p H.length 0 0)) (x2:=.c (.p (H.length+1) 0 0)) (x3:=Env.get e 3) hHZ hMZ (by simp) (by omega) (by omega) hmne (by omega) (by omega) (by simp) (by simp) (by simp) (by simp) (by simp) (by simp) (by simp) ?_
     intro Y6 e' hH6 k1 k2 k3 k4 k5
     have hl6:=hH6.len
     have hl2:=hH2.len
     simp[k1,k2,k3,k4,k5,up1 hi hb]
     refine (hI _ ⟨_,_⟩).2 ⟨?_,?_⟩
     ·rw[← hsuc,hsl]
      exact⟨hH6.tree.mono fun j hj=>⟨hj.1,fun h=>h,hj.2.2⟩,hH6.out,hH2.fr.trans ((Frm.pre hpYZ).trans (hH6.fr.mono fun j hj=>⟨Nat.lt_of_lt_of_le hj.1 (Nat.le_trans hl2 hlZ),.inl (by rcases hj.2 with h | h;exact h;exact h.1.elim)⟩)),Nat.le_trans hl2 (Nat.le_trans hlZ hl6)⟩
     ·simp
    ·have hsl:=lowerB_none hi h1
     rw[hsl]at hsuc
     have h1i:¬ (((succsAt f.blocks i).length:Int)=1):=by omega
     simp[e1,e2,e4,e5,hi,rdC_ob bY,hlv,rdC_ob oY,q1,q2,q3,hY2,rdN_ob bY2,hsucs,hY3,hls,h1i,up1 hi hb]
     refine (hI _ ⟨_,_⟩).2 ⟨?_,?_⟩
     ·rw[← hsuc,← hY3]
      exact hH2.app _
     ·simp
   ·rintro⟨e,Y⟩ hIs
    obtain⟨hH,e1,e2,e4,e5⟩:=(hI _ _).1 hIs
    simp only at hH e1 e2 e4 e5 ⊢
    have oY:=hH.out
    have hlY:=hH.len
    have bY:rdOb Y H.length 0=some ⟨[v,.i f.values],0,true,2⟩:=hH.fr.ob ⟨by omega,.inl (by omega)⟩ hB5
    have hRY:rdOb Y (H.length+1) 0=some ⟨[.ns,.i 0],0,true,2⟩:=hH.fr.ob ⟨by omega,.inl (by omega)⟩ hR5
    have hpY:Pre H Y:=(hH.fr.mono fun j (hj:j<H.length)=>⟨by omega,.inl (by omega)⟩).cut hpH5
    have hbl:=lowerTo_len f f.blocks.length (Nat.le_refl _)
    have hshp:=specShape (v:=w) (f:=lowerF f) (Tree.blocks hH.tree) (by show (lowerTo f f.blocks.length).length≤BIG;omega)
    have hshp':∀ k,CM 52 [.agg [w,.i (f.values+1)]] Y k=k (.c (.b (shapeB (lowerF f))),Y):=hshp
    unfold vf26b1
    cases hs:shapeB (lowerF f) with
    | true =>
     rw[hs]at hshp'
     have hC:LowerC f:=⟨hck,hcr,hs⟩
     have hg:lower0 f=lowerF f∧lowerOk f=true:=⟨by unfold lower0;rw[if_pos hC],pB_true hC⟩
     obtain⟨Y2,hY2⟩:∃ Y2,Y.set (H.length+1) ⟨[w,.i (f.values+1)],0,true,2⟩=Y2:=⟨_,rfl⟩
     have hRY2:rdOb Y2 (H.length+1) 0=some ⟨[w,.i (f.values+1)],0,true,2⟩:=by rw[← hY2,rdOb_set_self (rdOb_lt hRY)];simp
     simp[e1,e2,e4,e5,rdC_ob bY,hlv,rdN_ob oY,hshp',hRY,p22,hY2,rdN_ob hRY2]
     rw[hg.1,hg.2]
     refine FnRes2.mk (H:=H) (g:=lowerF f) (S:=fun j=>X2.length≤j∧¬ False∧j≠X3.length) ?_ ?_ (fun j hj=>by omega)
     ·rw[← hY2];exact hpY.set (by omega) _
     ·rw[← hY2];exact hH.tree.fr blkF_st (Frm.set _ _ (by omega))
    | false =>
     rw[hs]at hshp'
     obtain⟨g1,g2⟩:=hfalse (fun h=>by have:=h.2.2;rw[hs]at this;cases this)
     obtain⟨X6,hX6⟩:∃ X6,Y.set (H.length+1) ⟨[.ns,.i 0],0,true,2⟩=X6:=⟨_,rfl⟩
     simp[e1,e2,e4,e5,rdC_ob bY,hlv,rdN_ob oY,hshp',hRY,p22,hX6,rdN_ob (hRs _ _ hRY hX6)]
     rw[g1,g2]
     exact hbad _ _ hpY hX6
  ·obtain⟨g1,g2⟩:=hfalse (fun h=>hcr h.2.1)
   obtain⟨X6,hX6⟩:∃ X6,X2.set (H.length+1) ⟨[.ns,.i 0],0,true,2⟩=X6:=⟨_,rfl⟩
   have hR2:=hp2.rdOb hR1
   simp[hX1,rdN_ob hB1,specCheck hv1 hb,hck,hcrit,hX2,hle,hcr,show 0<(crit0 f).length by omega,hR2,p22,hX6,rdN_ob (hRs _ _ hR2 hX6)]
   rw[g1,g2]
   exact hbad _ _ (hp1.trans hp2) hX6
 ·obtain⟨g1,g2⟩:=hfalse (fun h=>hck h.1)
  obtain⟨X6,hX6⟩:∃ X6,X1.set (H.length+1) ⟨[.ns,.i 0],0,true,2⟩=X6:=⟨_,rfl⟩
  simp[hX1,rdN_ob hB1,specCheck hv1 hb,hck,hR1,p22,hX6,rdN_ob (hRs _ _ hR1 hX6)]
  rw[g1,g2]
  exact hbad _ _ hp1 hX6
theorem targ_le (f:FnR):(targF f).length≤BIG:=by
 unfold targF
 split
 ·rename_i hsh
  have h1:=compTo_le (sortI (tgsB f.blocks)) (sortI (tgsB f.blocks)).length
  have h2:=tgsB_le (bs:=f.blocks) (q:=24) (fun b hb=>(shape_lens hsh hb).2) f.blocks.length
  rw[List.take_length]at h2
  have h3:=(shape_len hsh).2.1
  have h4:(sortI (tgsB f.blocks)).length=(tgsB f.blocks).length:=List.length_mergeSort _
  unfold compI
  simp only[BIG]
  omega
 ·simp

set_option maxRecDepth 100000 in
theorem lowerRaw_law {H:Hp} {v:CV} {xs:List Int} (hv:IsB H v xs):CM 7 [.c v] H Tru:=by
 refine cw7 ?_
 unfold vf7c
 by_cases hbig:1048576<xs.length
 ·simp[big_call hv.lenOf,hbig]
 have hb:xs.length≤BIG:=by simp only[BIG];omega
 simp[big_call hv.lenOf,hbig]
 refine (drawLower_call hv hb).mono ?_
 rintro _ ⟨X,w,m,bs,rfl,hfl,hp,hB,hbl,h0⟩
 obtain⟨f,hf⟩:∃ f:FnR,f=⟨bs,m⟩:=⟨_,rfl⟩
 obtain rfl:bs=f.blocks:=by rw[hf]
 obtain rfl:m=f.values:=by rw[hf]
 clear hf
 obtain⟨X1,hX1⟩:∃ X1,X++[(⟨[w,.i f.values],0,true,2⟩:Ob)]=X1:=⟨_,rfl⟩
 have hB1:Blocks X1 w f.blocks:=by rw[← hX1];exact hB.app _
 have hF1:rdOb X1 X.length 0=some ⟨[w,.i f.values],0,true,2⟩:=by rw[← hX1];simp
 have hcw:cellsOf (.c w)=some [w]:=by
  cases w<;>simp[flatC]at hfl<;>rfl
 have hl1:=lower0_le hbl
 simp[putD0',hX1,rdN_ob hF1]
 refine (implLower hB1 hbl).mono ?_
 obtain⟨ok,hok⟩:∃ ok,lowerOk f=ok:=⟨_,rfl⟩
 obtain⟨p,hpe⟩:∃ p,lower0 f=p:=⟨_,rfl⟩
 rw[hok,hpe]
 rw[hpe]at hl1
 rintro _ ⟨w1,L1,rfl,hT1⟩
 obtain⟨X2,hX2⟩:∃ X2,X1++L1=X2:=⟨_,rfl⟩
 have hp2:Pre X1 X2:=⟨_,hX2.symm⟩
 rw[hX2]at hT1 ⊢
 obtain⟨X3,hX3⟩:∃ X3,X2++[(⟨[w1,.i p.values],0,true,2⟩:Ob)]=X3:=⟨_,rfl⟩
 have hp3:Pre X2 X3:=⟨_,hX3.symm⟩
 have hG3:rdOb X3 X2.length 0=some ⟨[w1,.i p.values],0,true,2⟩:=by rw[← hX3];simp
 have hF3:=(hp2.trans hp3).rdOb hF1
 have hB3:=hB1.pre (hp2.trans hp3)
 have hW3:=(Tree.blocks hT1).pre hp3
 simp[putAt,hX3,rdN_ob hF3]
 refine (specLower hB3 hbl).mono ?_
 rw[hok,hpe]
 rintro _ ⟨w2,L2,rfl,hT2⟩
 obtain⟨X4,hX4⟩:∃ X4,X3++L2=X4:=⟨_,rfl⟩
 have hp4:Pre X3 X4:=⟨_,hX4.symm⟩
 rw[hX4]at hT2 ⊢
 obtain⟨X5,hX5⟩:∃ X5,X4++[(⟨[w2,.i p.values],0,true,2⟩:Ob)]=X5:=⟨_,rfl⟩
 have hp5:Pre X4 X5:=⟨_,hX5.symm⟩
 have hH5:rdOb X5 X4.length 0=some ⟨[w2,.i p.values],0,true,2⟩:=by rw[← hX5];simp
 have hp35:=hp4.trans hp5
 have hF5:=hp35.rdOb hF3
 have hG5:=hp35.rdOb hG3
 have hB5:=hB3.pre hp35
 have hW5:=hW3.pre hp35
 have hV5:=(Tree.blocks hT2).pre hp5
 have wl:=hW5.lenOf
 cases ok with
 | false =>
  have e:p.blocks.length=0:=by
   have hn:¬ LowerC f:=fun h=>by rw[lowerOk_iff.2 h]at hok;cases hok
   rw[← hpe]
   unfold lower0
   rw[if_neg hn];rfl
  rw[e]at wl
  simp[putAt,hX5,rdN_ob hG5,rdN_ob hH5,sameFn_call hW5 hV5 hl1,rdC_ob hG5,wl]
 | true =>
  have hC:=lowerOk_iff.1 hok
  have hpl:p=lowerF f:=by rw[← hpe];unfold lower0;rw[if_pos hC]
  have hplain:plainF p=true:=by rw[hpl];exact lower_plain hC
  have hplen:p.blocks.length=f.blocks.length:=by rw[hpl];exact lower_len f
  have hpval:p.values=f.values+1:=by rw[hpl];rfl
  have hmade:∀ j (hj:j<f.blocks.length),∀ q∈f.blocks[j].phis,(∃ a∈q.arms,a.v≠q.d)→q.d∈targF p:=fun j hj q hq ⟨a,ha,hne⟩=>by rw[hpl];exact lower_made hC hj hq ha hne
  have hchk:=hC.1
  have hsh:=(well_iff.1 hC.1).sh
  obtain⟨s1,s2,s3,s4⟩:=shape_len hsh
  simp[putAt,hX5,rdN_ob hG5,rdN_ob hH5,sameFn_call hW5 hV5 hl1,rdC_ob hG5]
  refine (implTargets hW5 hl1).mono ?_
  rintro _ ⟨w3,L3,rfl,hI⟩
  have htl:=targ_le p
  obtain⟨ts,hts⟩:∃ ts,targF p=ts:=⟨_,rfl⟩
  rw[hts]at hI htl hmade
  obtain⟨X6,hX6⟩:∃ X6,X5++L3=X6:=⟨_,rfl⟩
  have hp6:Pre X5 X6:=⟨_,hX6.symm⟩
  rw[hX6]at hI ⊢
  have hF6:=hp6.rdOb hF5
  have hG6:=hp6.rdOb hG5
  have hB6:=hB5.pre hp6
  have hW6:=hW5.pre hp6
  have hvl:=hB6.lenOf
  simp
  obtain⟨I,hIe⟩:∃ I:Nat→St→Prop,∀ i st,I i st↔(Pre X6 st.h∧Env.get st.e 3=.c (.p X.length 0 0)∧Env.get st.e 4=.c (.p X2.length 0 0)∧Env.get st.e 8=.c w3∧Env.get st.e 9=.c (.i i)):=⟨_,fun _ _=>Iff.rfl⟩
  refine wp_for CM_mono f.blocks.length I ((hIe _ _).2 ⟨Pre.refl _,by simp⟩) ?_ ?_
  ·rintro i ⟨e,Y⟩ hi hIs
   obtain⟨hY,E3,E4,E8,E9⟩:=(hIe _ _).1 hIs
   simp only at hY E3 E4 E8 E9 ⊢
   have hFY:=hY.rdOb hF6
   unfold vf7b2
   simp[E3,E4,E8,E9,rdC_ob hFY,hvl,hi]
   obtain⟨J,hJe⟩:∃ J:Nat→St→Prop,∀ j st,J j st↔(Pre X6 st.h∧Env.get st.e 3=.c (.p X.length 0 0)∧Env.get st.e 4=.c (.p X2.length 0 0)∧Env.get st.e 8=.c w3∧Env.get st.e 9=.c (.i i)∧Env.get st.e 10=.c (.i j)):=⟨_,fun _ _=>Iff.rfl⟩
   refine wp_for CM_mono f.blocks[i].phis.length J ((hJe _ _).2 ⟨hY,by simp[E3,E4,E8,E9]⟩) ?_ ?_
   ·rintro j ⟨e',Z⟩ hj hJs
    obtain⟨hZ,E3,E4,E8,E9,E10⟩:=(hJe _ _).1 hJs
    simp only at hZ E3 E4 E8 E9 E10 ⊢
    have hFZ:=hZ.rdOb hF6
    obtain⟨i0,g0,off0,wz,wu,q1,q2,_,qp,_,qpl,_⟩:=Blocks.get (hB6.pre hZ) hi
    obtain⟨i1,g1,off1,wa,r1,r2,_,ra,ral,_⟩:=Phis.get qp hj
    obtain⟨ph,hph⟩:∃ ph,f.blocks[i].phis[j]=ph:=⟨_,rfl⟩
    have hphm:ph∈f.blocks[i].phis:=hph▸List.getElem_mem hj
    rw[hph]at r2 ra ral
    have hplen':=qp.lenOf
    have hal:=ra.lenOf
    obtain⟨Z1,hZ1⟩:∃ Z1,Z++[(⟨[.i ph.d,wa],0,true,2⟩:Ob)]=Z1:=⟨_,rfl⟩
    have hpZ1:Pre Z Z1:=⟨_,hZ1.symm⟩
    have hZ1':=hZ.trans hpZ1
    have h11:rdOb Z1 Z.length 0=some ⟨[.i ph.d,wa],0,true,2⟩:=by rw[← hZ1];simp
    have ra1:=Arms.pre hpZ1 ra
    unfold vf7b1
    simp[E3,E4,E8,E9,E10,rdC_ob hFZ,hvl,q1,q2.1,hplen',hj,r1,r2.2.2,putD0',hZ1]
    obtain⟨K,hKe⟩:∃ K:Nat→St→Prop,∀ k st,K k st↔(Pre Z1 st.h∧Env.get st.e 3=.c (.p X.length 0 0)∧Env.get st.e 4=.c (.p X2.length 0 0)∧Env.get st.e 8=.c w3∧Env.get st.e 9=.c (.i i)∧Env.get st.e 10=.c (.i j)∧Env.get st.e 11=.c (.p Z.length 0 0) ∧
      Env.get st.e 12=.c (.b ((ph.arms.take k).all fun a=>decide (a.v=ph.d)))∧Env.get st.e 13=.c (.i k)):=⟨_,fun _ _=>Iff.rfl⟩
    refine wp_for CM_mono ph.arms.length K ((hKe _ _).2 ⟨Pre.refl _,by simp[E3,E4,E8,E9,E10]⟩) ?_ ?_
    ·rintro k ⟨e'',V⟩ hk hKs
     obtain⟨hV,E3,E4,E8,E9,E10,E11,E12,E13⟩:=(hKe _ _).1 hKs
     simp only at hV E3 E4 E8 E9 E10 E11 E12 E13 ⊢
     have h11V:=hV.rdOb h11
     obtain⟨i2,g2,off2,t1,t2,_⟩:=Arms.get (Arms.pre hV ra1) hk
     have htk:(ph.arms.take (k+1)).all (fun a=>decide (a.v=ph.d))=((ph.arms.take k).all (fun a=>decide (a.v=ph.d)) && decide (ph.arms[k].v=ph.d)):=by
      rw[List.take_succ_eq_append_getElem hk,List.all_append];simp
     unfold vf7b0
     cases hm:(ph.arms.take k).all (fun a=>decide (a.v=ph.d)) with
     | true =>
      rw[hm]at E12 htk
      simp[E3,E4,E8,E9,E10,E11,E12,E13,rdC_ob h11V,hal,hk,t1,t2.2.1,up1 hk ral]
      refine (hKe _ _).2 ⟨hV,?_⟩
      rw[htk]
      simp[E3,E4,E8,E9,E10,E11]
     | false =>
      rw[hm]at E12 htk
      simp[E3,E4,E8,E9,E10,E11,E12,E13,rdC_ob h11V,hal,hk,up1 hk ral]
      refine (hKe _ _).2 ⟨hV,?_⟩
      rw[htk]
      simp[E3,E4,E8,E9,E10,E11]
    ·rintro⟨e'',V⟩ hKs
     obtain⟨hV,E3,E4,E8,E9,E10,E11,E12,E13⟩:=(hKe _ _).1 hKs
     simp only at hV E3 E4 E8 E9 E10 E11 E12 E13 ⊢
     rw[List.take_length]at E12
     have h11V:=hV.rdOb h11
     have hIV:=Sl.pre (hZ1'.trans hV) hI
     unfold vf7b0
     cases hm:ph.arms.all (fun a=>decide (a.v=ph.d)) with
     | true =>
      rw[hm]at E12
      simp[E3,E4,E8,E9,E10,E11,E12,E13,rdC_ob h11V,hal,up1 hj qpl]
      exact (hJe _ _).2 ⟨hZ1'.trans hV,by simp[E3,E4,E8,E9]⟩
     | false =>
      rw[hm]at E12
      have hin:hasI ts ph.d=true:=by
       rw[hasI_iff]
       rw[List.all_eq_false]at hm
       obtain⟨a,ha,hne⟩:=hm
       exact hmade i hi ph hphm ⟨a,ha,by simpa using hne⟩
      simp[E3,E4,E8,E9,E10,E11,E12,E13,rdC_ob h11V,hal,within_call hIV htl,hin,up1 hj qpl]
      exact (hJe _ _).2 ⟨hZ1'.trans hV,by simp[E3,E4,E8,E9]⟩
   ·rintro⟨e',Z⟩ hJs
    obtain⟨hZ,E3,E4,E8,E9,E10⟩:=(hJe _ _).1 hJs
    simp only at hZ E3 E4 E8 E9 E10 ⊢
    have hFZ:=hZ.rdOb hF6
    obtain⟨i0,g0,off0,wz,wu,q1,q2,_,qp,_,qpl,_⟩:=Blocks.get (hB6.pre hZ) hi
    have hplen':=qp.lenOf
    unfold vf7b1
    simp[E3,E4,E8,E9,E10,rdC_ob hFZ,hvl,q1,q2.1,hplen',up1 hi hbl]
    exact (hIe _ _).2 ⟨hZ,by simp[E3,E4,E8]⟩
  ·rintro⟨e,Y⟩ hIs
   obtain⟨hY,E3,E4,E8,E9⟩:=(hIe _ _).1 hIs
   simp only at hY E3 E4 E8 E9 ⊢
   have hFY:=hY.rdOb hF6
   have hGY:=hY.rdOb hG6
   have hvl2:=(hW6.pre hY).lenOf
   have hip:=fun k=>implPlain (hW6.pre hY) hl1 k
   simp only[hpval,hplain]at hip
   unfold vf7b2
   simp[E3,E4,E8,E9,rdC_ob hFY,rdN_ob hFY,rdC_ob hGY,rdN_ob hGY,hvl,hvl2,hip,hplen,hpval,wrap64_id (show -9223372036854775808≤f.values+1∧f.values+1≤9223372036854775807 by omega),implCheck (hB6.pre hY) hbl,hchk]
end Go.Proofs.YtiecgmmaihckeaaGreat.Vm
