/- A part of the proof: the machine and the walks. No conditions. -/
import Derived.Test.YtiecgmmaihckeaaGreatW7
namespace Go.Proofs.YtiecgmmaihckeaaGreat.Vm
open Go.RowKit (wrap64)
set_option linter.unusedSimpArgs false
set_option linter.unusedVariables false
set_option maxRecDepth 100000
set_option maxRecDepth 100000 in
theorem armsInS {G:Nat→Prop} {Y0:Hp} {o7 idp gp k:Nat} {z wa:CV} {fr vv at_:Int} {as_:List ArmR} {e:Env} {Q:X×St→Prop} {x2 x4 x5 x6:IV}
  (h0:FRow armF 2 Y0 wa as_ G) (hb:as_.length≤BIG) (h7:rdOb Y0 o7 0=some ⟨[.i fr,.i vv],0,true,2⟩) (hG7:¬ G o7) (hix:idxOf 2 z (k:Int)=some (.p idp gp (k * 2))) (hwa:rdC Y0 idp gp (k * 2+1)=some wa) (hGp:¬ G idp)
  (e2:Env.get e 2=x2) (e4:Env.get e 4=x4) (e5:Env.get e 5=x5) (e6:Env.get e 6=x6)
  (e7:Env.get e 7=.c (.p o7 0 0)) (e8:Env.get e 8=.c (.i at_)) (e10:Env.get e 10=.c z) (e11:Env.get e 11=.c (.i k)) (e12:Env.get e 12=.c (.i 0))
  (hQ:∀ (Y:Hp) (e':Env),FRow armF 2 Y wa (as_.map (turnA fr at_)) G→Frm (fun j=>j<Y0.length∧¬ G j) Y0 Y→Y0.length≤Y.length →
   Env.get e' 2=x2→Env.get e' 4=x4→Env.get e' 5=x5→Env.get e' 6=x6→Env.get e' 7=.c (.p o7 0 0)→Env.get e' 8=.c (.i at_)→Env.get e' 10=.c z→Env.get e' 11=.c (.i k)→Q (.exit 4,⟨e',Y⟩)) :
  loopD (exW CM [0,1,2,3,4,5,6,7,8,9,10,11,12,17,27,32,62,69,89,99,113] vf22b0) ⟨e,Y0⟩ Q:=by
 obtain⟨I,hI⟩:∃ I:Nat→St→Prop,∀ i s,I i s↔(FRow armF 2 s.h wa ((as_.take i).map (turnA fr at_)++as_.drop i) G∧Frm (fun j=>j<Y0.length∧¬ G j) Y0 s.h∧Y0.length≤s.h.length ∧
   Env.get s.e 2=x2∧Env.get s.e 4=x4∧Env.get s.e 5=x5∧Env.get s.e 6=x6∧Env.get s.e 7=.c (.p o7 0 0)∧Env.get s.e 8=.c (.i at_)∧Env.get s.e 10=.c z∧Env.get s.e 11=.c (.i k)∧Env.get s.e 12=.c (.i i)):=⟨_,fun _ _=>Iff.rfl⟩
 have hl7:=rdOb_lt h7
 obtain⟨oz,hoz⟩:=rdOb_of_rdC hwa
 have hlz:=rdOb_lt hoz
 refine wp_for CM_mono as_.length I ((hI _ ⟨_,_⟩).2 ⟨by simpa using h0,Frm.refl _ _,Nat.le_refl _,e2,e4,e5,e6,e7,e8,e10,e11,e12⟩) ?_ ?_
 ·rintro i ⟨e0,Y⟩ hi hIs
  obtain⟨hR,hf,hl,f2,f4,f5,f6,f7,f8,f10,f11,f12⟩:=(hI _ _).1 hIs
  simp only at hR hf hl f2 f4 f5 f6 f7 f8 f10 f11 f12 ⊢
  obtain⟨a,ha⟩:∃ a,as_[i]=a:=⟨_,rfl⟩
  rw[drop_mid hi,ha]at hR
  obtain⟨A,hA⟩:∃ A,(as_.take i).map (turnA fr at_)=A:=⟨_,rfl⟩
  have hAl:A.length=i:=by rw[← hA];simp;omega
  have hAs:(as_.take (i+1)).map (turnA fr at_)=A++[turnA fr at_ a]:=by rw[List.take_succ_eq_append_getElem hi,List.map_append,hA,ha];rfl
  rw[hA]at hR
  obtain⟨rid,rg,cs,G',r1,r2,r3,r4⟩:=hR.readS hAl
  have r3:cs=armC a:=r3
  subst r3
  have hlR:=hR.lenOf
  rw[show (A++a :: as_.drop (i+1)).length=as_.length by simp;omega]at hlR
  have r2c:rdC Y rid rg (i * 2)=some (.i a.fr):=by
   unfold rdN at r2;unfold rdC
   cases ho:rdOb Y rid rg with
   | none=>rw[ho]at r2;cases r2
   | some o =>
    rw[ho]at r2
    simp only[Option.bind_some]at r2 ⊢
    split at r2
    ·injection r2 with r2
     have h3:((o.cells.drop (i * 2)).take 2)[0]? = some (.i a.fr):=by rw[r2];rfl
     rw[List.getElem?_take,if_pos (by omega),List.getElem?_drop]at h3
     exact h3
    ·cases r2
  have k7:=hf.ob ⟨hl7,hG7⟩ h7
  have kz:=hf.ob ⟨hlz,hGp⟩ hoz
  have kw:rdC Y idp gp (k * 2+1)=some wa:=by rw[rdC_ob kz,← rdC_ob hoz];exact hwa
  have hend:∀ (Z:Hp) (e':Env) (a':ArmR),turnA fr at_ a=a'→FRow armF 2 Z wa (A++a' :: as_.drop (i+1)) G→Frm (fun j=>j<Y0.length∧¬ G j) Y0 Z→Y0.length≤Z.length →
    (Env.get e' 2=x2∧Env.get e' 4=x4∧Env.get e' 5=x5∧Env.get e' 6=x6∧Env.get e' 7=.c (.p o7 0 0)∧Env.get e' 8=.c (.i at_)∧Env.get e' 10=.c z∧Env.get e' 11=.c (.i k)∧Env.get e' 12=.c (.i (i+1:Nat)))→I (i+1) ⟨e',Z⟩:=by
   intro Z e' a' ha' h1 h2 h3 he
   refine (hI _ ⟨_,_⟩).2 ⟨?_,h2,h3,he⟩
   rw[hAs,ha']
   simpa using h1
  unfold vf22b0
  cases hq:decide (a.fr=fr) with
  | true =>
   have ht:turnA fr at_ a=⟨at_,a.v⟩:=by unfold turnA;rw[if_pos (of_decide_eq_true hq)]
   obtain⟨id,g,cells,Z,s1,s2,s3,s4,s5,s6,s7⟩:=hR.fieldS armF_st hAl 0 (by omega) (.i at_) ⟨at_,a.v⟩ (fun Z cs G h=>by have h:cs=armC _:=h;subst h;rfl)
   rw[Nat.add_zero]at s3 s4
   have ep:id=rid∧g=rg:=by have e:=s1.symm.trans r1;injection e with e;injection e with e1 e2;exact⟨e1,e2⟩
   obtain⟨rfl,rfl⟩:=ep
   simp[f2,f4,f5,f6,f7,f8,f10,f11,f12,hix,kw,hlR,hi,r1,r2c,rdC_ob k7,hq,s2,s3,s4,up1 hi hb]
   refine hend _ _ _ ht s5 (hf.trans (s6.mono fun j hj=>hj.2)) (by omega) ?_
   simp
  | false =>
   have ht:turnA fr at_ a=a:=by unfold turnA;rw[if_neg (of_decide_eq_false hq)]
   simp[f2,f4,f5,f6,f7,f8,f10,f11,f12,hix,kw,hlR,hi,r1,r2c,rdC_ob k7,hq,up1 hi hb]
   refine hend _ _ _ ht hR hf hl ?_
   simp
 ·rintro⟨e0,Y⟩ hIs
  obtain⟨hR,hf,hl,f2,f4,f5,f6,f7,f8,f10,f11,f12⟩:=(hI _ _).1 hIs
  simp only at hR hf hl f2 f4 f5 f6 f7 f8 f10 f11 f12 ⊢
  rw[List.take_length,List.drop_length,List.append_nil]at hR
  have hlR:=hR.lenOf
  rw[List.length_map]at hlR
  have kz:=hf.ob ⟨hlz,hGp⟩ hoz
  have kw:rdC Y idp gp (k * 2+1)=some wa:=by rw[rdC_ob kz,← rdC_ob hoz];exact hwa
  unfold vf22b0
  simp[f2,f4,f5,f6,f7,f8,f10,f11,f12,hix,kw,hlR]
  exact hQ Y _ hR hf hl (by simp) (by simp) (by simp) (by simp) (by simp) (by simp) (by simp) (by simp)

set_option maxRecDepth 100000 in
theorem phisInS {G:Nat→Prop} {Y0:Hp} {o7:Nat} {z:CV} {fr vv at_:Int} {ps:List PhiR} {e:Env} {Q:X×St→Prop} {x2 x4 x5 x6:IV}
  (h0:FRow phiF 2 Y0 z ps G) (hb:ps.length≤BIG) (h7:rdOb Y0 o7 0=some ⟨[.i fr,.i vv],0,true,2⟩) (hG7:¬ G o7)
  (e2:Env.get e 2=x2) (e4:Env.get e 4=x4) (e5:Env.get e 5=x5) (e6:Env.get e 6=x6) (e7:Env.get e 7=.c (.p o7 0 0)) (e8:Env.get e 8=.c (.i at_)) (e10:Env.get e 10=.c z) (e11:Env.get e 11=.c (.i 0))
  (hQ:∀ (Y:Hp) (e':Env),FRow phiF 2 Y z (ps.map (turnP fr at_)) G→Frm (fun j=>j<Y0.length∧¬ G j) Y0 Y→Y0.length≤Y.length →
   Env.get e' 2=x2→Env.get e' 4=x4→Env.get e' 5=x5→Env.get e' 6=x6→Q (.exit 2,⟨e',Y⟩)) :
  loopD (exW CM [0,1,2,3,4,5,6,7,8,9,10,11,12,17,27,32,62,69,89,99,113] vf22b1) ⟨e,Y0⟩ Q:=by
 obtain⟨I,hI⟩:∃ I:Nat→St→Prop,∀ i s,I i s↔(FRow phiF 2 s.h z ((ps.take i).map (turnP fr at_)++ps.drop i) G∧Frm (fun j=>j<Y0.length∧¬ G j) Y0 s.h∧Y0.length≤s.h.length ∧
   Env.get s.e 2=x2∧Env.get s.e 4=x4∧Env.get s.e 5=x5∧Env.get s.e 6=x6∧Env.get s.e 7=.c (.p o7 0 0)∧Env.get s.e 8=.c (.i at_)∧Env.get s.e 10=.c z∧Env.get s.e 11=.c (.i i)):=⟨_,fun _ _=>Iff.rfl⟩
 have hl7:=rdOb_lt h7
 refine wp_for CM_mono ps.length I ((hI _ ⟨_,_⟩).2 ⟨by simpa using h0,Frm.refl _ _,Nat.le_refl _,e2,e4,e5,e6,e7,e8,e10,e11⟩) ?_ ?_
 ·rintro i ⟨e0,Y⟩ hi hIs
  obtain⟨hR,hf,hl,f2,f4,f5,f6,f7,f8,f10,f11⟩:=(hI _ _).1 hIs
  simp only at hR hf hl f2 f4 f5 f6 f7 f8 f10 f11 ⊢
  obtain⟨p,hp⟩:∃ p,ps[i]=p:=⟨_,rfl⟩
  rw[drop_mid hi,hp]at hR
  obtain⟨A,hA⟩:∃ A,(ps.take i).map (turnP fr at_)=A:=⟨_,rfl⟩
  have hAl:A.length=i:=by rw[← hA];simp;omega
  have hAs:(ps.take (i+1)).map (turnP fr at_)=A++[turnP fr at_ p]:=by rw[List.take_succ_eq_append_getElem hi,List.map_append,hA,hp];rfl
  rw[hA]at hR
  have hlR:=hR.lenOf
  rw[show (A++p :: ps.drop (i+1)).length=ps.length by simp;omega]at hlR
  have k7:=hf.ob ⟨hl7,hG7⟩ h7
  obtain⟨id,g,cs,Ga,s1,s2,s3,s4,s5,s6⟩:=hR.nestS phiF_st hAl
  obtain⟨wa,rfl,har,hab⟩:=s4
  have hGi:¬ Ga id:=fun h=>(s5 _ h).2 rfl
  unfold vf22b1
  simp[f2,f4,f5,f6,f7,f8,f10,f11,hlR,hi]
  refine armsInS (o7:=o7) (G:=Ga) (as_:=p.arms) (fr:=fr) (at_:=at_) (vv:=vv) (x2:=x2) (x4:=x4) (x5:=x5) (x6:=x6)
   har hab k7 (fun h=>hG7 (s5 _ h).1) s1 (s3 1 _ rfl) hGi (by simp) (by simp) (by simp) (by simp) (by simp) (by simp) (by simp) (by simp) (by simp) ?_
  intro Z e' hZ hfZ hlZ g2 g4 g5 g6 g7 g8 g10 g11
  simp[g2,g4,g5,g6,g7,g8,g10,g11,up1 hi hb]
  refine (hI _ ⟨_,_⟩).2 ⟨?_,hf.trans (hfZ.mono fun j hj=>⟨by omega,fun h=>hj.2 (s5 j h).1⟩),by simp only;omega,by simp[g2,g4,g5,g6,g7,g8,g10,g11]⟩
  rw[hAs]
  have:=s6 Z (turnP fr at_ p) hlZ (hfZ.monoL fun j hj h=>⟨hj,h.2⟩) ⟨wa,rfl,hZ,by simp[turnP];exact hab⟩
  simpa using this
 ·rintro⟨e0,Y⟩ hIs
  obtain⟨hR,hf,hl,f2,f4,f5,f6,f7,f8,f10,f11⟩:=(hI _ _).1 hIs
  simp only at hR hf hl f2 f4 f5 f6 f7 f8 f10 f11 ⊢
  rw[List.take_length,List.drop_length,List.append_nil]at hR
  have hlR:=hR.lenOf
  rw[List.length_map]at hlR
  unfold vf22b1
  simp[f2,f4,f5,f6,f7,f8,f10,f11,hlR]
  exact hQ Y _ hR hf hl (by simp) (by simp) (by simp) (by simp)
section

variable {α:Type} {P:Hp→List CV→α→(Nat→Prop)→Prop} {sz:Nat} {X:Hp} {F:Nat→Prop} {w:CV} {xs:List α}

theorem FRow.part (hP:Stab P) (h:FRow P sz X w xs F) {k:Nat} (hk:k<xs.length) :
  ∃ id g cells cs,∃ G:Nat→Prop,idxOf sz w (k:Int)=some (.p id g (k * sz))∧rdOb X id g=some ⟨cells,g,true,sz⟩∧k * sz+sz≤cells.length∧P X cs xs[k] G∧rdN X id g (k * sz) sz=some cs∧(∀ j c,cs[j]? = some c→rdC X id g (k * sz+j)=some c)∧F id ∧
   ∀ (j:Nat) (ys:List CV) (x':α),j+ys.length≤sz→(∀ Z G,P Z cs xs[k] G→P Z (putAt cs j ys) x' G) →
    FRow P sz (X.set id ⟨putAt cells (k * sz+j) ys,g,true,sz⟩) w (xs.set k x') F:=by
 obtain⟨id,g,cells,Fs,rfl,hc⟩:=h.open hk
 clear h
 have hfit:=hc.fit hk
 refine⟨id,g,cells,chk cells sz k,Fs k,idx_sl hk,hc.ob,hfit,hc.el k hk,hc.nn hk,fun j c hj=>?_,hc.own,fun j ys x' hj hp=>?_⟩
 ·have hjl:j<sz:=by
   have:=(List.getElem?_eq_some_iff.1 hj).1
   rwa [chk_len hfit]at this
  rw[hc.c hjl];exact hj
 ·have hset:∀ G:Nat→Prop,¬ G id→Frm G X (X.set id ⟨putAt cells (k * sz+j) ys,g,true,sz⟩):=fun G hG=>Frm.set X _ hG
  have:=(hc.put (Y:=X.set id ⟨putAt cells (k * sz+j) ys,g,true,sz⟩) (x':=x') (G':=Fs k) hP hk (j:=j) (ys:=ys) hj (by rw[rdOb_set_self hc.lt];simp) (hset _ fun hn=>hn.2.1 rfl)
   (fun i hi=>⟨(hc.sub k i hk hi).1,(hc.sub k i hk hi).2.1,by simpa using (hc.sub k i hk hi).2.2,.inl hi⟩) (hp _ _ (hP.st (hset _ fun hn=>(hc.sub k id hk hn).2.1 rfl) (hc.el k hk)))).row
  simpa using this

end

theorem Tree.termH {S:Nat→Prop} {X:Hp} {v:CV} {bs:List BlkR} {b:Nat} (h:Tree S X v bs) (hb:b<bs.length) :
  ∃ id g cells,idxOf 6 v (b:Int)=some (.p id g (b * 6))∧rdOb X id g=some ⟨cells,g,true,6⟩∧b * 6+6≤cells.length∧rdC X id g (b * 6+2+2)=some (.i bs[b].term.to)∧rdC X id g (b * 6+2+3)=some (.i bs[b].term.els) ∧
   rdN X id g (b * 6+2) 4=some [.i bs[b].term.kind,.i bs[b].term.a,.i bs[b].term.to,.i bs[b].term.els]∧S id ∧
   (∀ x:Int,Tree S (X.set id ⟨putAt cells (b * 6+2+2) [.i x],g,true,6⟩) v (setT bs b ⟨bs[b].term.kind,bs[b].term.a,x,bs[b].term.els⟩)) ∧
   (∀ x:Int,Tree S (X.set id ⟨putAt cells (b * 6+2+3) [.i x],g,true,6⟩) v (setT bs b ⟨bs[b].term.kind,bs[b].term.a,bs[b].term.to,x⟩)) ∧
   (∀ t:TrmR,Tree S (X.set id ⟨putAt cells (b * 6+2) (trmC t),g,true,6⟩) v (setT bs b t)):=by
 obtain⟨id,g,cells,cs,G,h1,h2,h3,h4,h5,h6,h7,h8⟩:=FRow.part blkF_st h hb
 obtain⟨z,u,Gz,Gu,rfl,h9⟩:=h4
 have hT:∀ t:TrmR,setT bs b t=bs.set b ⟨bs[b].phis,bs[b].list,t⟩:=fun t=>by unfold setT;rw[blk_at hb]
 refine⟨id,g,cells,h1,h2,h3,h6 4 _ rfl,h6 5 _ rfl,?_,h7,fun x=>?_,fun x=>?_,fun t=>?_⟩
 ·rw[rdN_ob h2,if_pos (by simp only;omega)]
  rw[rdN_ob h2,if_pos (by simpa using h3)]at h5
  injection h5 with h5
  simp only at h5 ⊢
  congr 1
  have h10:=congrArg (fun l=>(l.drop 2).take 4) h5
  simp only[List.drop_take,List.take_take,List.drop_drop]at h10
  exact h10
 ·rw[hT]
  exact h8 4 [.i x] ⟨bs[b].phis,bs[b].list,⟨bs[b].term.kind,bs[b].term.a,x,bs[b].term.els⟩⟩ (by simp) (fun Z G h=>by
   obtain⟨z',u',Gz,Gu,e,h⟩:=h
   injection e with e1 e2
   injection e2 with e2 e3
   subst e1;subst e2
   exact⟨z,u,Gz,Gu,rfl,h⟩)
 ·rw[hT]
  exact h8 5 [.i x] ⟨bs[b].phis,bs[b].list,⟨bs[b].term.kind,bs[b].term.a,bs[b].term.to,x⟩⟩ (by simp) (fun Z G h=>by
   obtain⟨z',u',Gz,Gu,e,h⟩:=h
   injection e with e1 e2
   injection e2 with e2 e3
   subst e1;subst e2
   exact⟨z,u,Gz,Gu,rfl,h⟩)
 ·rw[hT]
  exact h8 2 (trmC t) ⟨bs[b].phis,bs[b].list,t⟩ (by simp[trmC]) (fun Z G h=>by
   obtain⟨z',u',Gz,Gu,e,h⟩:=h
   injection e with e1 e2
   injection e2 with e2 e3
   subst e1;subst e2
   exact⟨z,u,Gz,Gu,rfl,h⟩)

structure SplitH (N o3:Nat) (E:Nat→Prop) (m:Int) (X0 Y:Hp) (w:CV) (bs:List BlkR):Prop where
 tree:Tree (fun j=>N≤j∧¬ E j∧j≠o3) Y w bs
 out:rdOb Y o3 0=some ⟨[w,.i m],0,true,2⟩
 fr:Frm (fun j=>j<X0.length∧(j<N∨(E j∧j≠o3))) X0 Y
 len:X0.length≤Y.length

theorem SplitH.app {N o3:Nat} {E:Nat→Prop} {m:Int} {X0 Y:Hp} {w:CV} {bs:List BlkR} (h:SplitH N o3 E m X0 Y w bs) (L:Hp):SplitH N o3 E m X0 (Y++L) w bs:=
 ⟨h.tree.fr blkF_st (Frm.app _ _ _),rdOb_app L h.out,h.fr.trans (Frm.app _ _ _),by have:=h.len;simp only[List.length_append];omega⟩

theorem SplitH.to {N o3:Nat} {E:Nat→Prop} {m:Int} {X0 Y Z:Hp} {w:CV} {bs bs':List BlkR} (h:SplitH N o3 E m X0 Y w bs) (hN:N≤o3) (hT:Tree (fun j=>N≤j∧¬ E j∧j≠o3) Z w bs') (hf:Frm (fun j=>j<Y.length∧¬ (N≤j∧¬ E j∧j≠o3)) Y Z) (hl:Y.length≤Z.length):SplitH N o3 E m X0 Z w bs':=
 ⟨hT,hf.ob ⟨rdOb_lt h.out,by omega⟩ h.out,h.fr.trans (hf.mono fun j hj=>⟨by have:=h.len;omega,fun hn=>by rcases hj.2 with h1 | h1;omega;exact hn.2.1 h1.1⟩),Nat.le_trans h.len hl⟩

theorem SplitH.push {N o3:Nat} {E:Nat→Prop} {m:Int} {X0 Y:Hp} {w:CV} {bs:List BlkR} (h:SplitH N o3 E m X0 Y w bs) (hN:N≤o3) (hNY:N≤Y.length) (hE:∀ j,E j→j<Y.length) (hb:bs.length≤BIG) (k:Int) :
  ∃ i' g' Y1 Z Z2,Y++[(⟨[.ns,.ns,.i 1,.i 0,.i k,.i 0],0,true,6⟩:Ob)]=Y1∧srcOf Y1 6 (.sl Y.length 0 0 1)=some (1,[.ns,.ns,.i 1,.i 0,.i k,.i 0]) ∧
   doApp Y1 6 w 1 [.ns,.ns,.i 1,.i 0,.i k,.i 0]=some (.c (.sl i' g' 0 (bs.length+1)),Z)∧rdOb Z o3 0=some ⟨[w,.i m],0,true,2⟩∧Z.set o3 ⟨[.sl i' g' 0 (bs.length+1),.i m],0,true,2⟩=Z2 ∧
   SplitH N o3 E m X0 Z2 (.sl i' g' 0 (bs.length+1)) (splitN bs k)∧Y.length≤Z2.length∧Frm (fun j=>j<Y.length∧(j<N∨E j∧j≠o3)) Y Z2:=by
 obtain⟨Y1,hY1⟩:∃ Y1,Y++[(⟨[.ns,.ns,.i 1,.i 0,.i k,.i 0],0,true,6⟩:Ob)]=Y1:=⟨_,rfl⟩
 have hp1:Pre Y Y1:=⟨_,hY1.symm⟩
 have l1:Y1.length=Y.length+1:=by rw[← hY1];simp
 have n1:rdOb Y1 Y.length 0=some ⟨[.ns,.ns,.i 1,.i 0,.i k,.i 0],0,true,6⟩:=by rw[← hY1];simp
 have hlo:=rdOb_lt h.out
 obtain⟨i',g',Z,happ,hT,hf,hl⟩:=(h.tree.fr blkF_st (Frm.pre hp1)).snoc blkF_st hb (by omega) (by omega) (cs:=[.ns,.ns,.i 1,.i 0,.i k,.i 0]) (x:=⟨[],[],⟨1,0,k,0⟩⟩) (G:=fun _=>False) rfl
  (fun W hW=>⟨.ns,.ns,fun _=>False,fun _=>False,rfl,FRow.ns,FRow.ns,fun i hi=>hi.elim,fun i hi=>hi.elim,by simp,by simp⟩) (fun i hi=>hi.elim)
 have hOZ:rdOb Z o3 0=some ⟨[w,.i m],0,true,2⟩:=hf.ob (fun hn=>hn.2.2 rfl) (hp1.rdOb h.out)
 refine⟨i',g',Y1,Z,_,rfl.trans hY1,by simp[srcOf,n1],happ,hOZ,rfl,⟨?_,?_,?_,?_⟩,?_,?_⟩
 ·refine (hT.fr blkF_st (Frm.set _ _ ?_)).mono fun j hj=>?_
  ·rintro (hn | hn | hn)
   ·exact hn.2.2 rfl
   ·exact hn
   ·omega
  ·rcases hj with hj | hj | hj
   ·exact hj
   ·exact hj.elim
   ·exact⟨by omega,fun he=>by have:=hE j he;omega,by omega⟩
 ·rw[rdOb_set_self (rdOb_lt hOZ)];simp
 ·refine h.fr.trans ((Frm.pre hp1).trans ((hf.mono fun j hj hn=>?_).trans (Frm.set _ _ ?_)))
  ·rcases hj.2 with h1 | h1
   ·omega
   ·exact hn.2.1 h1.1
  ·intro hn;rcases hn.2 with h1 | h1
   ·omega
   ·exact h1.2 rfl
 ·simp only[List.length_set];have:=h.len;omega
 ·simp only[List.length_set];omega
 ·refine (Frm.pre hp1).trans ((hf.mono fun j hj hn=>?_).trans (Frm.set _ _ ?_))
  ·rcases hj.2 with h1 | h1
   ·omega
   ·exact hn.2.1 h1.1
  ·intro hn;rcases hn.2 with h1 | h1
   ·omega
   ·exact h1.2 rfl

def FnRes2 (H:Hp) (g:FnR) (ok:Bool) (r:IV×Hp):Prop:=∃ w L,r=(.tup [(true,[w,.i g.values]),(false,[.b ok])],H++L)∧Tree (fun i=>H.length≤i) (H++L) w g.blocks

theorem FnRes2.mk {H X:Hp} {w:CV} {g:FnR} {ok:Bool} {S:Nat→Prop} (hp:Pre H X) (hT:Tree S X w g.blocks) (hS:∀ j,S j→H.length≤j):FnRes2 H g ok (gcRet H (.tup [(true,[w,.i g.values]),(false,[.b ok])]) X):=by
 have hT:=FRow.mono hT hS
 rcases FRow.form hT with rfl | ⟨i',g',n',rfl⟩
 ·have hbs:g.blocks=[]:=by
   rcases hT with⟨_,h⟩ | ⟨_,_,_,_,h,_⟩
   ·exact h
   ·cases h
  rw[gcRet_flat hp (show flatV (.tup [(true,[.ns,.i g.values]),(false,[.b ok])])=true from rfl)]
  exact⟨.ns,[],by simp,.inl ⟨rfl,hbs⟩⟩
 ·have e:gcRet H (.tup [(true,[.sl i' g' 0 n',.i g.values]),(false,[.b ok])]) X=(.tup [(true,[.sl i' g' 0 n',.i g.values]),(false,[.b ok])],X):=by
   unfold gcRet
   split
   ·rw[if_neg (by simp[flatV,flatC])]
   ·rfl
  rw[e]
  obtain⟨L,rfl⟩:=hp
  exact⟨_,L,rfl,hT⟩
theorem q40 (a b c d x:CV):putAt [a,b,c,d] 0 [x]=[x,b,c,d]:=rfl

theorem q42 (a b c d x:CV):putAt [a,b,c,d] 2 [x]=[a,b,x,d]:=rfl

theorem q62 (a b c d e f w x y z:CV):putAt [a,b,c,d,e,f] 2 [w,x,y,z]=[a,b,w,x,y,z]:=rfl

theorem q60 (a b c d e f u v w x y z:CV):putAt [a,b,c,d,e,f] 0 [u,v,w,x,y,z]=[u,v,w,x,y,z]:=rfl

theorem setT_setT (bs:List BlkR) (u:Nat) (t t':TrmR) (hu:u<bs.length):setT (setT bs u t) u t'=setT bs u t':=by
 unfold setT
 rw[List.set_set]
 congr 1
 rw[blk_at (by simpa using hu),List.getElem_set_self]

theorem setT_same (bs:List BlkR) (u:Nat) (hu:u<bs.length):setT bs u bs[u].term=bs:=by
 unfold setT
 rw[blk_at hu]
 exact List.set_getElem_self hu

theorem setT_at (bs:List BlkR) (u:Nat) (t:TrmR) (hu:u<bs.length):(setT bs u t)[u]'(by rw[setT_len];exact hu)=⟨bs[u].phis,bs[u].list,t⟩:=by
 simp only[setT,blk_at hu,List.getElem_set_self]

theorem setP_at (bs:List BlkR) (k:Nat) (hk:k<bs.length) (ps:List PhiR):setP bs k ps=bs.set k ⟨ps,bs[k].list,bs[k].term⟩:=by unfold setP;rw[blk_at hk]

set_option maxRecDepth 100000 in
theorem implSplit {H:Hp} {v:CV} {f:FnR} (hv:Blocks H v f.blocks) (hb:f.blocks.length≤BIG):CM 21 [.agg [v,.i f.values]] H (FnRes2 H (split0 f) (splitOk f)):=by
 refine cw21 ?_
 unfold vf21c
 obtain⟨X1,hX1⟩:∃ X1,H++[(⟨[v,.i f.values],0,true,2⟩:Ob),⟨[.ns,.i 0],0,true,2⟩]=X1:=⟨_,rfl⟩
 have hp1:Pre H X1:=⟨_,hX1.symm⟩
 have l1:X1.length=H.length+2:=by rw[← hX1];simp
 have hB1:rdOb X1 H.length 0=some ⟨[v,.i f.values],0,true,2⟩:=by rw[← hX1];simp
 have hR1:rdOb X1 (H.length+1) 0=some ⟨[.ns,.i 0],0,true,2⟩:=by rw[← hX1];simp
 simp[hX1,rdN_ob hB1]
 refine (implClone (hv.pre hp1) hb).mono ?_
 rintro _ ⟨w,L1,rfl,hT⟩
 obtain⟨X2,hX2⟩:∃ X2,X1++L1=X2:=⟨_,rfl⟩
 rw[hX2]at hT ⊢
 have hp2:Pre X1 X2:=⟨_,hX2.symm⟩
 have l2:=hp2.le
 obtain⟨X3,hX3⟩:∃ X3,X2++[(⟨[w,.i f.values],0,true,2⟩:Ob)]=X3:=⟨_,rfl⟩
 have hp3:Pre X2 X3:=⟨_,hX3.symm⟩
 have l3:X3.length=X2.length+1:=by rw[← hX3];simp
 have hO3:rdOb X3 X2.length 0=some ⟨[w,.i f.values],0,true,2⟩:=by rw[← hX3];simp
 have hT3:Tree (fun j=>X1.length≤j∧j<X2.length) X3 w f.blocks:=hT.bound.fr blkF_st (Frm.pre hp3)
 have hB3:=hp3.rdOb (hp2.rdOb hB1)
 have hR3:=hp3.rdOb (hp2.rdOb hR1)
 have hp13:=hp1.trans (hp2.trans hp3)
 have hv3:=hv.pre hp13
 obtain⟨ew,Le,hew,hcrit⟩:=implCrit0 (f:=f) hv3 hb
 obtain⟨X4,hX4⟩:∃ X4,X3++Le=X4:=⟨_,rfl⟩
 have hp4:Pre X3 X4:=⟨_,hX4.symm⟩
 have l4:=hp4.le
 have hE4:Arms X4 ew (crit0 f):=by rw[← hX4];exact hew.isE
 have hle:=hE4.lenOf
 have hO4:=hp4.rdOb hO3
 have hB4:=hp4.rdOb hB3
 have hR4:=hp4.rdOb hR3
 have hv4:=hv3.pre hp4
 have hlv:=hv4.lenOf
 have hcs:=crit0_small (f:=f)
 have hw64:-9223372036854775808≤(f.blocks.length:Int)+((crit0 f).length:Int)∧(f.blocks.length:Int)+((crit0 f).length:Int)≤9223372036854775807:=by simp only[BIG]at hb hcs;omega
 have hid:∀ id g off n,ew=.sl id g off n→id=X3.length:=fun id g off n e=>by
  rcases hew with⟨h,_⟩ | ⟨h,_⟩
  ·rw[h]at e;cases e
  ·rw[h]at e;cases e;rfl
 have hfalse:∀ (h:¬ (checkF f=0∧f.blocks.length+(crit0 f).length≤16)),split0 f=f∧splitOk f=false:=fun h=>⟨by unfold split0;rw[if_neg h],pB_false h⟩
 obtain⟨X6,hX6⟩:∃ X6,X4.set (H.length+1) ⟨[w,.i f.values],0,true,2⟩=X6:=⟨_,rfl⟩
 have hR6:rdOb X6 (H.length+1) 0=some ⟨[w,.i f.values],0,true,2⟩:=by rw[← hX6,rdOb_set_self (rdOb_lt hR4)];simp
 have hbad:FnRes2 H f false (gcRet H (.tup [(true,[w,.i f.values]),(false,[.b false])]) X6):=by
  refine FnRes2.mk (H:=H) (g:=f) (S:=fun j=>X1.length≤j∧j<X2.length) ?_ ?_ (fun j hj=>by omega)
  ·rw[← hX6];exact (hp13.trans hp4).set (by omega) _
  ·rw[← hX6];exact (hT3.fr blkF_st (Frm.pre hp4)).fr blkF_st (Frm.set _ _ (by omega))
 by_cases hck:checkF f=0
 ·by_cases hlen:f.blocks.length+(crit0 f).length≤16
  ·have hg:split0 f=⟨(crit0 f).foldl splitE f.blocks,f.values⟩∧splitOk f=true:=⟨by unfold split0;rw[if_pos ⟨hck,hlen⟩],pB_true ⟨hck,hlen⟩⟩
   have hsh:=(well_iff.1 hck).sh
   have hn16:¬ (16<(f.blocks.length:Int)+((crit0 f).length:Int)):=by omega
   simp[putAt,hX3,rdN_ob hB3,hcrit,hX4,rdN_ob hB4,implCheck hv4 hb,hck,rdC_ob hB4,hlv,hle,wrap64_id hw64,hn16]
   clear hw64
   obtain⟨es,hes⟩:∃ es,crit0 f=es:=⟨_,rfl⟩
   have hin:∀ e∈es,∃ u k:Nat,e=⟨u,k⟩∧u<f.blocks.length∧k<f.blocks.length:=fun e he=>by
    rw[← hes]at he
    obtain⟨_,u,k,h1,h2,h3,_⟩:=crit0_in he
    exact⟨u,k,h1,h2,h3⟩
   rw[hes]at hE4 hle hlen hg
   rw[hes]
   have hH0:SplitH X1.length X2.length (fun j=>j=X3.length∧j<X4.length) f.values X4 X4 w f.blocks:=
    ⟨(hT3.fr blkF_st (Frm.pre hp4)).mono fun j hj=>⟨hj.1,by omega,by omega⟩,hO4,Frm.refl _ _,Nat.le_refl _⟩
   obtain⟨I,hI⟩:∃ I:Nat→St→Prop,∀ i s,I i s↔(∃ w',SplitH X1.length X2.length (fun j=>j=X3.length∧j<X4.length) f.values X4 s.h w' ((es.take i).foldl splitE f.blocks) ∧
    Env.get s.e 2=.c (.p (H.length+1) 0 0)∧Env.get s.e 4=.c (.p X2.length 0 0)∧Env.get s.e 31=.c ew∧Env.get s.e 32=.c (.i es.length)∧Env.get s.e 33=.c (.i i)):=⟨_,fun _ _=>Iff.rfl⟩
   refine wp_for CM_mono es.length I ((hI _ ⟨_,_⟩).2 ⟨w,by simpa using hH0,by simp⟩) ?_ ?_
   ·rintro i ⟨e,Y⟩ hi hIs
    obtain⟨w',hH,e2,e4,e31,e32,e33⟩:=(hI _ _).1 hIs
    simp only at hH e2 e4 e31 e32 e33 ⊢
    obtain⟨u,k,hek,hu,hk⟩:=hin es[i] (List.getElem_mem hi)
    obtain⟨bs,hbs⟩:∃ bs,(es.take i).foldl splitE f.blocks=bs:=⟨_,rfl⟩
    have hbl:bs.length=f.blocks.length+i:=by rw[← hbs,splits_len,List.length_take];omega
    have hsucc:(es.take (i+1)).foldl splitE f.blocks=splitE bs ⟨u,k⟩:=by rw[List.take_succ_eq_append_getElem hi,List.foldl_append,hbs,hek];rfl
    rw[hbs]at hH
    have hEY:Arms Y ew es:=by
     obtain⟨css,h1,h2,h3⟩:=hE4
     refine⟨css,?_,h2,h3⟩
     rcases h1 with⟨a,b,c⟩ | ⟨id,g,off,o,a,b,c⟩
     ·exact .inl ⟨a,b,c⟩
     ·have hlt:=rdOb_lt b
      have:=hid _ _ _ _ a
      exact .inr ⟨id,g,off,o,a,hH.fr.ob ⟨hlt,.inr ⟨⟨this,hlt⟩,by omega⟩⟩ b,c⟩
    have hXY:=hH.len
    obtain⟨eid,eg,eoff,q1,⟨_,_,q2⟩,_⟩:=Arms.get hEY hi
    rw[hek]at q2
    simp only at q2
    obtain⟨Y1,hY1⟩:∃ Y1,Y++[(⟨[.i (u:Int),.i (k:Int)],0,true,2⟩:Ob)]=Y1:=⟨_,rfl⟩
    have hp1Y:Pre Y Y1:=⟨_,hY1.symm⟩
    have lY1:Y1.length=Y.length+1:=by rw[← hY1];simp
    have n1:rdOb Y1 Y.length 0=some ⟨[.i (u:Int),.i (k:Int)],0,true,2⟩:=by rw[← hY1];simp
    have hY4l:X4.length≤Y.length:=hXY
    have hH1:SplitH X1.length X2.length (fun j=>(j=X3.length∧j<X4.length)∨j=Y.length) f.values Y1 Y1 w' bs:=
     ⟨((FRow.bound hH.tree).fr blkF_st (Frm.pre hp1Y)).mono fun j hj=>⟨hj.1.1,fun hn=>by rcases hn with hn | hn;exact hj.1.2.1 hn;omega,hj.1.2.2⟩,hp1Y.rdOb hH.out,Frm.refl _ _,Nat.le_refl _⟩
    have hlw:=FRow.lenOf hH1.tree
    have hbB:bs.length≤BIG:=by simp only[BIG];omega
    obtain⟨i',g',Y2,Y3,Y4,hY2,hsrc,happ,hO3',hY4,hH4,lY4,_⟩:=hH1.push (by omega) (by omega) (fun j hj=>by omega) hbB (k:Int)
    have n2:rdOb Y2 Y.length 0=some ⟨[.i (u:Int),.i (k:Int)],0,true,2⟩:=by rw[← hY2];exact rdOb_app _ n1
    have o2:rdOb Y2 X2.length 0=some ⟨[w',.i f.values],0,true,2⟩:=by rw[← hY2];exact rdOb_app _ hH1.out
    have o1:=hH1.out
    obtain⟨w4,hw4⟩:∃ w4,CV.sl i' g' 0 (bs.length+1)=w4:=⟨_,rfl⟩
    rw[hw4]at hH4
    have hY4w:Y3.set X2.length ⟨[.sl i' g' 0 (bs.length+1),.i f.values],0,true,2⟩=Y4:=hY4
    have nE:∀ Z bz,SplitH X1.length X2.length (fun j=>(j=X3.length∧j<X4.length)∨j=Y.length) f.values Y1 Z w4 bz→rdOb Z Y.length 0=some ⟨[.i (u:Int),.i (k:Int)],0,true,2⟩:=fun Z bz h=>h.fr.ob ⟨by omega,.inr ⟨.inr rfl,by omega⟩⟩ n1
    have n4:=nE _ _ hH4
    obtain⟨b1,hb1⟩:∃ b1,splitN bs k=b1:=⟨_,rfl⟩
    rw[hb1]at hH4
    have hb1l:b1.length=bs.length+1:=by rw[← hb1,splitN_len]
    have hu1:u<b1.length:=by omega
    have hk1:k<b1.length:=by omega
    obtain⟨id,g,cells,c1,c2,c3,c4,c5,c6,c7,c8,c9,c10⟩:=hH4.tree.termH hu1
    obtain⟨tt,htt⟩:∃ tt,b1[u].term=tt:=⟨_,rfl⟩
    rw[htt]at c4 c5 c6 c8 c9
    have hSE:splitE bs ⟨u,k⟩=setP (setT b1 u (turnT k bs.length tt)) k (((setT b1 u (turnT k bs.length tt))[k]'(by rw[setT_len];exact hk1)).phis.map (turnP u bs.length)):=by
     unfold splitE
     simp only[Int.toNat_natCast]
     rw[hb1,blk_at hu1,htt,blk_at (by rw[setT_len];exact hk1)]
    have fin:∀ (Z:Hp) (tF:TrmR),tF=turnT k bs.length tt→SplitH X1.length X2.length (fun j=>(j=X3.length∧j<X4.length)∨j=Y.length) f.values Y1 Z w4 (setT b1 u tF)→X4.length≤Z.length →
      ∃ id3 g3 z,∃ Gz:Nat→Prop,∃ ps:List PhiR,idxOf 6 w4 (k:Int)=some (.p id3 g3 (k * 6))∧rdC Z id3 g3 (k * 6)=some z∧FRow phiF 2 Z z ps Gz∧ps.length≤BIG∧(∀ j,Gz j→j<Z.length)∧¬ Gz Y.length ∧
       ∀ Z',FRow phiF 2 Z' z (ps.map (turnP u bs.length)) Gz→Frm (fun j=>j<Z.length∧¬ Gz j) Z Z'→Z.length≤Z'.length→SplitH X1.length X2.length (fun j=>j=X3.length∧j<X4.length) f.values X4 Z' w4 (splitE bs ⟨u,k⟩):=by
     intro Z tF htF hZ hlZ
     subst htF
     have hkT:k<(setT b1 u (turnT k bs.length tt)).length:=by rw[setT_len];exact hk1
     obtain⟨id3,g3,z,Gz,d1,d2,d3,d4,d5,d6,d7⟩:=hZ.tree.phis hkT
     refine⟨id3,g3,z,Gz,_,d1,d2,d3,d6,fun j hj=>(d4 j hj).2.1,fun hn=>(d4 _ hn).1.2.1 (.inr rfl),fun Z' hr hf hl=>?_⟩
     have hT':=d7 Z' _ hl (hf.monoL fun j hj h=>⟨hj,h.2⟩) hr (by rw[List.length_map];exact d6)
     rw[hSE,setP_at _ _ hkT]
     have hH7:=hZ.to (by omega) hT' (hf.mono fun j hj=>⟨hj.1,fun hn=>hj.2 (d4 j hn).1⟩) hl
     refine⟨hH7.tree.mono fun j hj=>⟨hj.1,fun hn=>hj.2.1 (.inl hn),hj.2.2⟩,hH7.out,hH.fr.trans ((Frm.pre hp1Y).trans (hH7.fr.mono fun j hj=>⟨by omega,by rcases hj.2 with h | h;exact .inl h;exact .inr ⟨.inl h.1,h.2⟩⟩)),by omega⟩
    have hid4:=rdOb_lt c2
    have o4:=hH4.out
    have hcl1:u * 6+2+2+1≤cells.length:=by omega
    have hcl2:u * 6+2+3+1≤cells.length:=by omega
    unfold vf21b2
    cases hA:decide (tt.to=(k:Int)) with
    | true =>
     have hA':=of_decide_eq_true hA
     obtain⟨Y5,hY5⟩:∃ Y5,Y4.set id ⟨putAt cells (u * 6+2+2) [.i (bs.length:Int)],g,true,6⟩=Y5:=⟨_,rfl⟩
     have c8':=c8 (bs.length:Int)
     rw[hY5]at c8'
     have lY5:Y5.length=Y4.length:=by rw[← hY5];simp
     have hH5:=hH4.to (by omega) c8' (by rw[← hY5];exact Frm.set _ _ (fun hn=>hn.2 c7)) (by omega)
     have n5:=nE _ _ hH5
     have o5:=hH5.out
     have hu2:u<(setT b1 u ⟨tt.kind,tt.a,bs.length,tt.els⟩).length:=by rw[setT_len];exact hu1
     obtain⟨id',g',cells',c1',c2',c3',c4',c5',c6',c7',c8'',c9',c10'⟩:=hH5.tree.termH hu2
     have ei:id'=id∧g'=g:=by have e:=c1'.symm.trans c1;injection e with e;injection e with e1 e2;exact⟨e1,e2⟩
     obtain⟨rfl,rfl⟩:=ei
     rw[setT_at _ _ _ hu1]at c5' c9'
     simp only at c5' c9'
     have hcl3:u * 6+2+3+1≤cells'.length:=by omega
     cases hB:decide (tt.els=(k:Int)) with
     | true =>
      have hB':=of_decide_eq_true hB
      obtain⟨Y6,hY6⟩:∃ Y6,Y5.set id' ⟨putAt cells' (u * 6+2+3) [.i (bs.length:Int)],g',true,6⟩=Y6:=⟨_,rfl⟩
      have c9'':=c9' (bs.length:Int)
      rw[hY6,setT_setT _ _ _ _ hu1]at c9''
      have lY6:Y6.length=Y5.length:=by rw[← hY6];simp
      have hH6:=hH5.to (by omega) c9'' (by rw[← hY6];exact Frm.set _ _ (fun hn=>hn.2 c7')) (by omega)
      have oF:=hH6.out
      have nF:=nE _ _ hH6
      obtain⟨id3,g3,z,Gz,ps,d1,d2,d3,d4,d5,d6,d7⟩:=fin Y6 _ (by unfold turnT;rw[if_pos hA',if_pos hB']) hH6 (by omega)
      have hlz:=d3.lenOf
      subst hw4
      simp[e2,e4,e31,e32,e33,hi,q1,q2,p20,p21,p22,q40,q42,q60,q62,hY1,o1,rdC_ob o1,hlw,n1,rdC_ob n1,hY2,hsrc,happ,hO3',hY4w,rdC_ob o4,rdC_ob n4,c1,c4,hA,c2,hcl1,hY5,c5',rdC_ob n5,hB,c2',hcl3,hY6,rdC_ob oF,rdC_ob nF,d1,d2,hlz]
      refine phisIn (o7:=Y.length) (G:=Gz) (fr:=u) (vv:=k) (at_:=bs.length) (x2:=.c (.p (H.length+1) 0 0)) (x4:=.c (.p X2.length 0 0)) (x5:=Env.get e 5) (x31:=.c ew) (x32:=.c (.i es.length)) (x33:=.c (.i i)) d3 d4 d5 nF d6 (by simp) (by simp) (by simp) (by simp) (by simp) (by simp) (by simp) (by simp) (by simp) (by simp) (by simp) ?_
      intro Z' e' hr hf hl f2 f4 f5 f31 f32 f33
      simp[f2,f4,f5,f31,f32,f33,up1 hi (show es.length≤BIG by simp only[BIG];omega)]
      have hfin:=d7 Z' hr hf hl
      rw[← hsucc]at hfin
      exact (hI _ ⟨_,_⟩).2 ⟨_,hfin,by simp[f2,f4,f31,f32,f33]⟩
     | false =>
      have hB':=of_decide_eq_false hB
      have oF:=hH5.out
      have nF:=nE _ _ hH5
      obtain⟨id3,g3,z,Gz,ps,d1,d2,d3,d4,d5,d6,d7⟩:=fin Y5 _ (by unfold turnT;rw[if_pos hA',if_neg hB']) hH5 (by omega)
      have hlz:=d3.lenOf
      subst hw4
      simp[e2,e4,e31,e32,e33,hi,q1,q2,p20,p21,p22,q40,q42,q60,q62,hY1,o1,rdC_ob o1,hlw,n1,rdC_ob n1,hY2,hsrc,happ,hO3',hY4w,rdC_ob o4,rdC_ob n4,c1,c4,hA,c2,hcl1,hY5,c5',rdC_ob n5,hB,rdC_ob oF,rdC_ob nF,d1,d2,hlz]
      refine phisIn (o7:=Y.length) (G:=Gz) (fr:=u) (vv:=k) (at_:=bs.length) (x2:=.c (.p (H.length+1) 0 0)) (x4:=.c (.p X2.length 0 0)) (x5:=Env.get e 5) (x31:=.c ew) (x32:=.c (.i es.length)) (x33:=.c (.i i)) d3 d4 d5 nF d6 (by simp) (by simp) (by simp) (by simp) (by simp) (by simp) (by simp) (by simp) (by simp) (by simp) (by simp) ?_
      intro Z' e' hr hf hl f2 f4 f5 f31 f32 f33
      simp[f2,f4,f5,f31,f32,f33,up1 hi (show es.length≤BIG by simp only[BIG];omega)]
      have hfin:=d7 Z' hr hf hl
      rw[← hsucc]at hfin
      exact (hI _ ⟨_,_⟩).2 ⟨_,hfin,by simp[f2,f4,f31,f32,f33]⟩
    | false =>
     have hA':=of_decide_eq_false hA
     cases hB:decide (tt.els=(k:Int)) with
     | true =>
      have hB':=of_decide_eq_true hB
      obtain⟨Y6,hY6⟩:∃ Y6,Y4.set id ⟨putAt cells (u * 6+2+3) [.i (bs.length:Int)],g,true,6⟩=Y6:=⟨_,rfl⟩
      have c9'':=c9 (bs.length:Int)
      rw[hY6]at c9''
      have lY6:Y6.length=Y4.length:=by rw[← hY6];simp
      have hH6:=hH4.to (by omega) c9'' (by rw[← hY6];exact Frm.set _ _ (fun hn=>hn.2 c7)) (by omega)
      have oF:=hH6.out
      have nF:=nE _ _ hH6
      obtain⟨id3,g3,z,Gz,ps,d1,d2,d3,d4,d5,d6,d7⟩:=fin Y6 _ (by unfold turnT;rw[if_neg hA',if_pos hB']) hH6 (by omega)
      have hlz:=d3.lenOf
      subst hw4
      simp[e2,e4,e31,e32,e33,hi,q1,q2,p20,p21,p22,q40,q42,q60,q62,hY1,o1,rdC_ob o1,hlw,n1,rdC_ob n1,hY2,hsrc,happ,hO3',hY4w,rdC_ob o4,rdC_ob n4,c1,c4,hA,c5,hB,c2,hcl2,hY6,rdC_ob oF,rdC_ob nF,d1,d2,hlz]
      refine phisIn (o7:=Y.length) (G:=Gz) (fr:=u) (vv:=k) (at_:=bs.length) (x2:=.c (.p (H.length+1) 0 0)) (x4:=.c (.p X2.length 0 0)) (x5:=Env.get e 5) (x31:=.c ew) (x32:=.c (.i es.length)) (x33:=.c (.i i)) d3 d4 d5 nF d6 (by simp) (by simp) (by simp) (by simp) (by simp) (by simp) (by simp) (by simp) (by simp) (by simp) (by simp) ?_
      intro Z' e' hr hf hl f2 f4 f5 f31 f32 f33
      simp[f2,f4,f5,f31,f32,f33,up1 hi (show es.length≤BIG by simp only[BIG];omega)]
      have hfin:=d7 Z' hr hf hl
      rw[← hsucc]at hfin
      exact (hI _ ⟨_,_⟩).2 ⟨_,hfin,by simp[f2,f4,f31,f32,f33]⟩
     | false =>
      have hB':=of_decide_eq_false hB
      have hH6:SplitH X1.length X2.length (fun j=>(j=X3.length∧j<X4.length)∨j=Y.length) f.values Y1 Y4 w4 (setT b1 u tt):=by
       have:=setT_same b1 u hu1
       rw[htt]at this
       rw[this];exact hH4
      have oF:=hH6.out
      have nF:=nE _ _ hH6
      obtain⟨id3,g3,z,Gz,ps,d1,d2,d3,d4,d5,d6,d7⟩:=fin Y4 _ (by unfold turnT;rw[if_neg hA',if_neg hB']) hH6 (by omega)
      have hlz:=d3.lenOf
      subst hw4
      simp[e2,e4,e31,e32,e33,hi,q1,q2,p20,p21,p22,q40,q42,q60,q62,hY1,o1,rdC_ob o1,hlw,n1,rdC_ob n1,hY2,hsrc,happ,hO3',hY4w,rdC_ob o4,rdC_ob n4,c1,c4,hA,c5,hB,rdC_ob oF,rdC_ob nF,d1,d2,hlz]
      refine phisIn (o7:=Y.length) (G:=Gz) (fr:=u) (vv:=k) (at_:=bs.length) (x2:=.c (.p (H.length+1) 0 0)) (x4:=.c (.p X2.length 0 0)) (x5:=Env.get e 5) (x31:=.c ew) (x32:=.c (.i es.length)) (x33:=.c (.i i)) d3 d4 d5 nF d6 (by simp) (by simp) (by simp) (by simp) (by simp) (by simp) (by simp) (by simp) (by simp) (by simp) (by simp) ?_
      intro Z' e' hr hf hl f2 f4 f5 f31 f32 f33
      simp[f2,f4,f5,f31,f32,f33,up1 hi (show es.length≤BIG by simp only[BIG];omega)]
      have hfin:=d7 Z' hr hf hl
      rw[← hsucc]at hfin
      exact (hI _ ⟨_,_⟩).2 ⟨_,hfin,by simp[f2,f4,f31,f32,f33]⟩
   ·rintro⟨e,Y⟩ hIs
    obtain⟨w',hH,e2,e4,e31,e32,e33⟩:=(hI _ _).1 hIs
    simp only at hH e2 e4 e31 e32 e33 ⊢
    rw[List.take_length]at hH
    have hRY:rdOb Y (H.length+1) 0=some ⟨[.ns,.i 0],0,true,2⟩:=hH.fr.ob ⟨by omega,.inl (by omega)⟩ hR4
    obtain⟨Y2,hY2⟩:∃ Y2,Y.set (H.length+1) ⟨[w',.i f.values],0,true,2⟩=Y2:=⟨_,rfl⟩
    have hR2:rdOb Y2 (H.length+1) 0=some ⟨[w',.i f.values],0,true,2⟩:=by rw[← hY2,rdOb_set_self (rdOb_lt hRY)];simp
    have hpY:Pre H Y:=(hH.fr.mono fun j (hj:j<H.length)=>⟨by omega,.inl (by omega)⟩).cut (hp13.trans hp4)
    unfold vf21b2
    simp[e2,e4,e31,e32,e33,rdN_ob hH.out,hRY,putAt,hY2,rdN_ob hR2]
    rw[hg.1,hg.2]
    refine FnRes2.mk (H:=H) (g:=⟨es.foldl splitE f.blocks,f.values⟩) (S:=fun j=>X1.length≤j∧¬ (j=X3.length∧j<X4.length)∧j≠X2.length) ?_ ?_ (fun j hj=>by omega)
    ·rw[← hY2];exact hpY.set (by omega) _
    ·rw[← hY2];exact hH.tree.fr blkF_st (Frm.set _ _ (by omega))
  ·obtain⟨g1,g2⟩:=hfalse (fun h=>hlen h.2)
   have hn16:16<(f.blocks.length:Int)+((crit0 f).length:Int):=by omega
   simp[putAt,hX3,rdN_ob hB3,hcrit,hX4,rdN_ob hB4,implCheck hv4 hb,hck,rdC_ob hB4,hlv,hle,wrap64_id hw64,hn16,rdN_ob hO4,hR4,hX6,rdN_ob hR6]
   rw[g1,g2]
   exact hbad
 ·obtain⟨g1,g2⟩:=hfalse (fun h=>hck h.1)
  simp[putAt,hX3,rdN_ob hB3,hcrit,hX4,rdN_ob hB4,implCheck hv4 hb,hck,rdN_ob hO4,hR4,hX6,rdN_ob hR6]
  rw[g1,g2]
  exact hbad
theorem q43 (a b c d x:CV):putAt [a,b,c,d] 3 [x]=[a,b,c,x]:=rfl

theorem q44 (a b c d w x y z:CV):putAt [a,b,c,d] 0 [w,x,y,z]=[w,x,y,z]:=rfl

set_option maxRecDepth 100000 in
theorem specSplit {H:Hp} {v:CV} {f:FnR} (hv:Blocks H v f.blocks) (hb:f.blocks.length≤BIG):CM 22 [.agg [v,.i f.values]] H (FnRes2 H (split0 f) (splitOk f)):=by
 refine cw22 ?_
 unfold vf22c
 obtain⟨X1,hX1⟩:∃ X1,H++[(⟨[v,.i f.values],0,true,2⟩:Ob),⟨[.ns,.i 0],0,true,2⟩]=X1:=⟨_,rfl⟩
 have hp1:Pre H X1:=⟨_,hX1.symm⟩
 have l1:X1.length=H.length+2:=by rw[← hX1];simp
 have hB1:rdOb X1 H.length 0=some ⟨[v,.i f.values],0,true,2⟩:=by rw[← hX1];simp
 have hR1:rdOb X1 (H.length+1) 0=some ⟨[.ns,.i 0],0,true,2⟩:=by rw[← hX1];simp
 simp[hX1,rdN_ob hB1]
 refine (specCopy (hv.pre hp1) hb).mono ?_
 rintro _ ⟨w,L1,rfl,hT⟩
 obtain⟨X2,hX2⟩:∃ X2,X1++L1=X2:=⟨_,rfl⟩
 rw[hX2]at hT ⊢
 have hp2:Pre X1 X2:=⟨_,hX2.symm⟩
 have l2:=hp2.le
 obtain⟨X3,hX3⟩:∃ X3,X2++[(⟨[w,.i f.values],0,true,2⟩:Ob)]=X3:=⟨_,rfl⟩
 have hp3:Pre X2 X3:=⟨_,hX3.symm⟩
 have l3:X3.length=X2.length+1:=by rw[← hX3];simp
 have hO3:rdOb X3 X2.length 0=some ⟨[w,.i f.values],0,true,2⟩:=by rw[← hX3];simp
 have hT3:Tree (fun j=>X1.length≤j∧j<X2.length) X3 w f.blocks:=hT.bound.fr blkF_st (Frm.pre hp3)
 have hB3:=hp3.rdOb (hp2.rdOb hB1)
 have hR3:=hp3.rdOb (hp2.rdOb hR1)
 have hp13:=hp1.trans (hp2.trans hp3)
 have hv3:=hv.pre hp13
 have hfalse:∀ (h:¬ (checkF f=0∧f.blocks.length+(crit0 f).length≤16)),split0 f=f∧splitOk f=false:=fun h=>⟨by unfold split0;rw[if_neg h],pB_false h⟩
 have hbad:∀ X4 X6,Pre X3 X4→X4.set (H.length+1) ⟨[w,.i f.values],0,true,2⟩=X6→FnRes2 H f false (gcRet H (.tup [(true,[w,.i f.values]),(false,[.b false])]) X6):=by
  intro X4 X6 hp4 hX6
  refine FnRes2.mk (H:=H) (g:=f) (S:=fun j=>X1.length≤j∧j<X2.length) ?_ ?_ (fun j hj=>by omega)
  ·rw[← hX6];exact (hp13.trans hp4).set (by omega) _
  ·rw[← hX6];exact (hT3.fr blkF_st (Frm.pre hp4)).fr blkF_st (Frm.set _ _ (by omega))
 by_cases hck:checkF f=0
 ·have hsh:=(well_iff.1 hck).sh
  have hcrit:=specCrit (m:=f.values) hv3 (shape_range hsh) hb
  have hc0:critTo f.blocks f.blocks.length=crit0 f:=by unfold crit0;rw[if_pos hsh]
  rw[hc0]at hcrit
  obtain⟨X4,hX4⟩:∃ X4,X3++[(⟨edC (crit0 f),0,true,2⟩:Ob)]=X4:=⟨_,rfl⟩
  have hp4:Pre X3 X4:=⟨_,hX4.symm⟩
  have l4:=hp4.le
  obtain⟨ew,hewd⟩:∃ ew,CV.sl X3.length 0 0 (crit0 f).length=ew:=⟨_,rfl⟩
  have hew:RowE X3 ew [⟨edC (crit0 f),0,true,2⟩] (crit0 f):=.inr ⟨hewd.symm,rfl⟩
  have hE4:Arms X4 ew (crit0 f):=by rw[← hX4];exact hew.isE
  have hle:=hE4.lenOf
  have hO4:=hp4.rdOb hO3
  have hB4:=hp4.rdOb hB3
  have hR4:=hp4.rdOb hR3
  have hv4:=hv3.pre hp4
  have hlv:=hv4.lenOf
  have hcs:=crit0_small (f:=f)
  have hw64:-9223372036854775808≤(f.blocks.length:Int)+((crit0 f).length:Int)∧(f.blocks.length:Int)+((crit0 f).length:Int)≤9223372036854775807:=by simp only[BIG]at hb hcs;omega
  have hid:∀ id g off n,ew=.sl id g off n→id=X3.length:=fun id g off n e=>by
   rw[← hewd]at e;cases e;rfl
  obtain⟨X6,hX6⟩:∃ X6,X4.set (H.length+1) ⟨[w,.i f.values],0,true,2⟩=X6:=⟨_,rfl⟩
  have hR6:rdOb X6 (H.length+1) 0=some ⟨[w,.i f.values],0,true,2⟩:=by rw[← hX6,rdOb_set_self (rdOb_lt hR4)];simp
  rw[hewd]at hcrit
  by_cases hlen:f.blocks.length+(crit0 f).length≤16
  ·have hg:split0 f=⟨(crit0 f).foldl splitE f.blocks,f.values⟩∧splitOk f=true:=⟨by unfold split0;rw[if_pos ⟨hck,hlen⟩],pB_true ⟨hck,hlen⟩⟩
   have hn16:¬ (16<(f.blocks.length:Int)+((crit0 f).length:Int)):=by omega
   simp[putAt,hX3,rdN_ob hB3,specCheck hv3 hb,hck,hcrit,hX4,rdC_ob hB4,hlv,hle,wrap64_id hw64,hn16]
   clear hw64
   obtain⟨es,hes⟩:∃ es,crit0 f=es:=⟨_,rfl⟩
   have hin:∀ e∈es,∃ u k:Nat,e=⟨u,k⟩∧u<f.blocks.length∧k<f.blocks.length:=fun e he=>by
    rw[← hes]at he
    obtain⟨_,u,k,h1,h2,h3,_⟩:=crit0_in he
    exact⟨u,k,h1,h2,h3⟩
   rw[hes]at hE4 hle hlen hg
   have hH0:SplitH X1.length X2.length (fun j=>j=X3.length∧j<X4.length) f.values X4 X4 w f.blocks:=
    ⟨(hT3.fr blkF_st (Frm.pre hp4)).mono fun j hj=>⟨hj.1,by omega,by omega⟩,hO4,Frm.refl _ _,Nat.le_refl _⟩
   obtain⟨I,hI⟩:∃ I:Nat→St→Prop,∀ i s,I i s↔(∃ w',SplitH X1.length X2.length (fun j=>j=X3.length∧j<X4.length) f.values X4 s.h w' ((es.take i).foldl splitE f.blocks) ∧
    Env.get s.e 2=.c (.p (H.length+1) 0 0)∧Env.get s.e 4=.c (.p X2.length 0 0)∧Env.get s.e 5=.c ew∧Env.get s.e 6=.c (.i i)):=⟨_,fun _ _=>Iff.rfl⟩
   refine wp_for CM_mono es.length I ((hI _ ⟨_,_⟩).2 ⟨w,by simpa using hH0,by simp⟩) ?_ ?_
   ·rintro i ⟨e,Y⟩ hi hIs
    obtain⟨w',hH,e2,e4,e5,e6⟩:=(hI _ _).1 hIs
    simp only at hH e2 e4 e5 e6 ⊢
    obtain⟨u,k,hek,hu,hk⟩:=hin es[i] (List.getElem_mem hi)
    obtain⟨bs,hbs⟩:∃ bs,(es.take i).foldl splitE f.blocks=bs:=⟨_,rfl⟩
    have hbl:bs.length=f.blocks.length+i:=by rw[← hbs,splits_len,List.length_take];omega
    have hsucc:(es.take (i+1)).foldl splitE f.blocks=splitE bs ⟨u,k⟩:=by rw[List.take_succ_eq_append_getElem hi,List.foldl_append,hbs,hek];rfl
    rw[hbs]at hH
    have hEY:Arms Y ew es:=by
     obtain⟨css,h1,h2,h3⟩:=hE4
     refine⟨css,?_,h2,h3⟩
     rcases h1 with⟨a,b,c⟩ | ⟨id,g,off,o,a,b,c⟩
     ·exact .inl ⟨a,b,c⟩
     ·have hlt:=rdOb_lt b
      have:=hid _ _ _ _ a
      exact .inr ⟨id,g,off,o,a,hH.fr.ob ⟨hlt,.inr ⟨⟨this,hlt⟩,by omega⟩⟩ b,c⟩
    have hXY:=hH.len
    have hleY:=hEY.lenOf
    obtain⟨eid,eg,eoff,q1,⟨_,_,q2⟩,_⟩:=Arms.get hEY hi
    rw[hek]at q2
    simp only at q2
    obtain⟨Y1,hY1⟩:∃ Y1,Y++[(⟨[.i (u:Int),.i (k:Int)],0,true,2⟩:Ob)]=Y1:=⟨_,rfl⟩
    have hp1Y:Pre Y Y1:=⟨_,hY1.symm⟩
    have lY1:Y1.length=Y.length+1:=by rw[← hY1];simp
    have n1:rdOb Y1 Y.length 0=some ⟨[.i (u:Int),.i (k:Int)],0,true,2⟩:=by rw[← hY1];simp
    have hY4l:X4.length≤Y.length:=hXY
    have hH1:SplitH X1.length X2.length (fun j=>(j=X3.length∧j<X4.length)∨j=Y.length) f.values Y1 Y1 w' bs:=
     ⟨((FRow.bound hH.tree).fr blkF_st (Frm.pre hp1Y)).mono fun j hj=>⟨hj.1.1,fun hn=>by rcases hn with hn | hn;exact hj.1.2.1 hn;omega,hj.1.2.2⟩,hp1Y.rdOb hH.out,Frm.refl _ _,Nat.le_refl _⟩
    have hlw:=FRow.lenOf hH1.tree
    have hbB:bs.length≤BIG:=by simp only[BIG];omega
    obtain⟨i',g',Y2,Y3,Y4,hY2,hsrc,happ,hO3',hY4,hH4,lY4,_⟩:=hH1.push (by omega) (by omega) (fun j hj=>by omega) hbB (k:Int)
    have n2:rdOb Y2 Y.length 0=some ⟨[.i (u:Int),.i (k:Int)],0,true,2⟩:=by rw[← hY2];exact rdOb_app _ n1
    have o2:rdOb Y2 X2.length 0=some ⟨[w',.i f.values],0,true,2⟩:=by rw[← hY2];exact rdOb_app _ hH1.out
    have o1:=hH1.out
    obtain⟨w4,hw4⟩:∃ w4,CV.sl i' g' 0 (bs.length+1)=w4:=⟨_,rfl⟩
    rw[hw4]at hH4
    have hY4w:Y3.set X2.length ⟨[.sl i' g' 0 (bs.length+1),.i f.values],0,true,2⟩=Y4:=hY4
    have nE:∀ Z bz,SplitH X1.length X2.length (fun j=>(j=X3.length∧j<X4.length)∨j=Y.length) f.values Y1 Z w4 bz→rdOb Z Y.length 0=some ⟨[.i (u:Int),.i (k:Int)],0,true,2⟩:=fun Z bz h=>h.fr.ob ⟨by omega,.inr ⟨.inr rfl,by omega⟩⟩ n1
    have n4:=nE _ _ hH4
    obtain⟨b1,hb1⟩:∃ b1,splitN bs k=b1:=⟨_,rfl⟩
    rw[hb1]at hH4
    have hb1l:b1.length=bs.length+1:=by rw[← hb1,splitN_len]
    have hu1:u<b1.length:=by omega
    have hk1:k<b1.length:=by omega
    obtain⟨id,g,cells,c1,c2,c3,c4,c5,c6,c7,c8,c9,c10⟩:=hH4.tree.termH hu1
    obtain⟨tt,htt⟩:∃ tt,b1[u].term=tt:=⟨_,rfl⟩
    rw[htt]at c4 c5 c6 c8 c9
    have hSE:splitE bs ⟨u,k⟩=setP (setT b1 u (turnT k bs.length tt)) k (((setT b1 u (turnT k bs.length tt))[k]'(by rw[setT_len];exact hk1)).phis.map (turnP u bs.length)):=by
     unfold splitE
     simp only[Int.toNat_natCast]
     rw[hb1,blk_at hu1,htt,blk_at (by rw[setT_len];exact hk1)]
    have fin:∀ (Z:Hp) (tF:TrmR),tF=turnT k bs.length tt→SplitH X1.length X2.length (fun j=>(j=X3.length∧j<X4.length)∨j=Y.length) f.values Y1 Z w4 (setT b1 u tF)→X4.length≤Z.length →
      ∃ id3 g3 z,∃ Gz:Nat→Prop,∃ ps:List PhiR,idxOf 6 w4 (k:Int)=some (.p id3 g3 (k * 6))∧rdC Z id3 g3 (k * 6)=some z∧FRow phiF 2 Z z ps Gz∧ps.length≤BIG∧(∀ j,Gz j→j<Z.length)∧¬ Gz Y.length ∧
       ∀ Z',FRow phiF 2 Z' z (ps.map (turnP u bs.length)) Gz→Frm (fun j=>j<Z.length∧¬ Gz j) Z Z'→Z.length≤Z'.length→SplitH X1.length X2.length (fun j=>j=X3.length∧j<X4.length) f.values X4 Z' w4 (splitE bs ⟨u,k⟩):=by
     intro Z tF htF hZ hlZ
     subst htF
     have hkT:k<(setT b1 u (turnT k bs.length tt)).length:=by rw[setT_len];exact hk1
     obtain⟨id3,g3,z,Gz,d1,d2,d3,d4,d5,d6,d7⟩:=hZ.tree.phis hkT
     refine⟨id3,g3,z,Gz,_,d1,d2,d3,d6,fun j hj=>(d4 j hj).2.1,fun hn=>(d4 _ hn).1.2.1 (.inr rfl),fun Z' hr hf hl=>?_⟩
     have hT':=d7 Z' _ hl (hf.monoL fun j hj h=>⟨hj,h.2⟩) hr (by rw[List.length_map];exact d6)
     rw[hSE,setP_at _ _ hkT]
     have hH7:=hZ.to (by omega) hT' (hf.mono fun j hj=>⟨hj.1,fun hn=>hj.2 (d4 j hn).1⟩) hl
     refine⟨hH7.tree.mono fun j hj=>⟨hj.1,fun hn=>hj.2.1 (.inl hn),hj.2.2⟩,hH7.out,hH.fr.trans ((Frm.pre hp1Y).trans (hH7.fr.mono fun j hj=>⟨by omega,by rcases hj.2 with h | h;exact .inl h;exact .inr ⟨.inl h.1,h.2⟩⟩)),by omega⟩
    have hid4:=rdOb_lt c2
    have o4:=hH4.out
    obtain⟨Y5,hY5⟩:∃ Y5,Y4++[(⟨[.i tt.kind,.i tt.a,.i tt.to,.i tt.els],0,true,4⟩:Ob)]=Y5:=⟨_,rfl⟩
    have hp5:Pre Y4 Y5:=⟨_,hY5.symm⟩
    have lY5:Y5.length=Y4.length+1:=by rw[← hY5];simp
    have t5:rdOb Y5 Y4.length 0=some ⟨[.i tt.kind,.i tt.a,.i tt.to,.i tt.els],0,true,4⟩:=by rw[← hY5];simp
    have n5:=hp5.rdOb n4
    unfold vf22b2
    cases hA:decide (tt.to=(k:Int)) with
    | true =>
     have hA':=of_decide_eq_true hA
     obtain⟨Y6,hY6⟩:∃ Y6,Y5.set Y4.length ⟨[.i tt.kind,.i tt.a,.i (bs.length:Int),.i tt.els],0,true,4⟩=Y6:=⟨_,rfl⟩
     have hp6:Pre Y4 Y6:=by rw[← hY6];exact hp5.set (Nat.le_refl _) _
     have t6:rdOb Y6 Y4.length 0=some ⟨[.i tt.kind,.i tt.a,.i (bs.length:Int),.i tt.els],0,true,4⟩:=by rw[← hY6,rdOb_set_self (by omega)];simp
     have n6:=hp6.rdOb n4
     cases hB:decide (tt.els=(k:Int)) with
     | true =>
      have hB':=of_decide_eq_true hB
      obtain⟨Y7,hY7⟩:∃ Y7,Y6.set Y4.length ⟨[.i tt.kind,.i tt.a,.i (bs.length:Int),.i (bs.length:Int)],0,true,4⟩=Y7:=⟨_,rfl⟩
      have hp7:Pre Y4 Y7:=by rw[← hY7];exact hp6.set (Nat.le_refl _) _
      have tZ:rdOb Y7 Y4.length 0=some ⟨[.i tt.kind,.i tt.a,.i (bs.length:Int),.i (bs.length:Int)],0,true,4⟩:=by rw[← hY7,rdOb_set_self (rdOb_lt t6)];simp
      have hpZ:Pre Y4 Y7:=hp7
      have hHZ:SplitH X1.length X2.length (fun j=>(j=X3.length∧j<X4.length)∨j=Y.length) f.values Y1 Y7 w4 b1:=by
       have hpZ9:=hpZ;obtain⟨LZ,hLZ⟩:=hpZ9
       rw[hLZ];exact hH4.app LZ
      obtain⟨idz,gz,cellsz,z1,z2,z3,_,_,_,z7,_,_,z10⟩:=hHZ.tree.termH hu1
      have ez:idz=id∧gz=g:=by have e:=z1.symm.trans c1;injection e with e;injection e with e1 e2;exact⟨e1,e2⟩
      obtain⟨rfl,rfl⟩:=ez
      obtain⟨Y8,hY8⟩:∃ Y8,(Y7:Hp).set idz ⟨putAt cellsz (u * 6+2) [.i tt.kind,.i tt.a,.i (bs.length:Int),.i (bs.length:Int)],gz,true,6⟩=Y8:=⟨_,rfl⟩
      have z10':=z10 ⟨tt.kind,tt.a,(bs.length:Int),(bs.length:Int)⟩
      simp only[trmC]at z10'
      rw[hY8]at z10'
      have lY8:Y8.length=(Y7:Hp).length:=by rw[← hY8];simp
      have hH8:=hHZ.to (by omega) z10' (by rw[← hY8];exact Frm.set _ _ (fun hn=>hn.2 z7)) (by omega)
      have hcl:u * 6+2+4≤cellsz.length:=by omega
      have nZ:=nE _ _ hHZ
      have oZ:=hHZ.out
      have oF:=hH8.out
      have nF:=nE _ _ hH8
      have hlZ:=hpZ.le
      obtain⟨id3,g3,z,Gz,ps,d1,d2,d3,d4,d5,d6,d7⟩:=fin Y8 _ (by unfold turnT;rw[if_pos hA',if_pos hB']) hH8 (by omega)
      have hlz:=d3.lenOf
      subst hw4
      simp[e2,e4,e5,e6,hleY,hi,q1,q2,p20,p21,p22,q40,q42,q43,q44,q60,q62,hY1,o1,rdC_ob o1,hlw,n1,rdC_ob n1,hY2,hsrc,happ,hO3',hY4w,rdC_ob o4,rdC_ob n4,c1,c6,hY5,rdC_ob t5,rdC_ob n5,hA,t5,hY6,rdC_ob t6,rdC_ob n6,hB,t6,hY7,rdC_ob nZ,rdC_ob oZ,rdN_ob tZ,z2,hcl,hY8,rdC_ob oF,rdC_ob nF,d1,d2]
      refine phisInS (o7:=Y.length) (G:=Gz) (fr:=u) (vv:=k) (at_:=bs.length) (x2:=.c (.p (H.length+1) 0 0)) (x4:=.c (.p X2.length 0 0)) (x5:=.c ew) (x6:=.c (.i i)) d3 d4 nF d6 (by simp) (by simp) (by simp) (by simp) (by simp) (by simp) (by simp) (by simp) ?_
      intro Z' e' hr hf hl f2 f4 f5 f6
      simp[f2,f4,f5,f6,up1 hi (show es.length≤BIG by simp only[BIG];omega)]
      have hfin:=d7 Z' hr hf hl
      rw[← hsucc]at hfin
      exact (hI _ ⟨_,_⟩).2 ⟨_,hfin,by simp[f2,f4,f5,f6]⟩
     | false =>
      have hB':=of_decide_eq_false hB
      have tZ:=t6
      have hpZ:Pre Y4 Y6:=hp6
      have hHZ:SplitH X1.length X2.length (fun j=>(j=X3.length∧j<X4.length)∨j=Y.length) f.values Y1 Y6 w4 b1:=by
       have hpZ9:=hpZ;obtain⟨LZ,hLZ⟩:=hpZ9
       rw[hLZ];exact hH4.app LZ
      obtain⟨idz,gz,cellsz,z1,z2,z3,_,_,_,z7,_,_,z10⟩:=hHZ.tree.termH hu1
      have ez:idz=id∧gz=g:=by have e:=z1.symm.trans c1;injection e with e;injection e with e1 e2;exact⟨e1,e2⟩
      obtain⟨rfl,rfl⟩:=ez
      obtain⟨Y8,hY8⟩:∃ Y8,(Y6:Hp).set idz ⟨putAt cellsz (u * 6+2) [.i tt.kind,.i tt.a,.i (bs.length:Int),.i tt.els],gz,true,6⟩=Y8:=⟨_,rfl⟩
      have z10':=z10 ⟨tt.kind,tt.a,(bs.length:Int),tt.els⟩
      simp only[trmC]at z10'
      rw[hY8]at z10'
      have lY8:Y8.length=(Y6:Hp).length:=by rw[← hY8];simp
      have hH8:=hHZ.to (by omega) z10' (by rw[← hY8];exact Frm.set _ _ (fun hn=>hn.2 z7)) (by omega)
      have hcl:u * 6+2+4≤cellsz.length:=by omega
      have nZ:=nE _ _ hHZ
      have oZ:=hHZ.out
      have oF:=hH8.out
      have nF:=nE _ _ hH8
      have hlZ:=hpZ.le
      obtain⟨id3,g3,z,Gz,ps,d1,d2,d3,d4,d5,d6,d7⟩:=fin Y8 _ (by unfold turnT;rw[if_pos hA',if_neg hB']) hH8 (by omega)
      have hlz:=d3.lenOf
      subst hw4
      simp[e2,e4,e5,e6,hleY,hi,q1,q2,p20,p21,p22,q40,q42,q43,q44,q60,q62,hY1,o1,rdC_ob o1,hlw,n1,rdC_ob n1,hY2,hsrc,happ,hO3',hY4w,rdC_ob o4,rdC_ob n4,c1,c6,hY5,rdC_ob t5,rdC_ob n5,hA,t5,hY6,rdC_ob t6,rdC_ob n6,hB,rdC_ob nZ,rdC_ob oZ,rdN_ob tZ,z2,hcl,hY8,rdC_ob oF,rdC_ob nF,d1,d2]
      refine phisInS (o7:=Y.length) (G:=Gz) (fr:=u) (vv:=k) (at_:=bs.length) (x2:=.c (.p (H.length+1) 0 0)) (x4:=.c (.p X2.length 0 0)) (x5:=.c ew) (x6:=.c (.i i)) d3 d4 nF d6 (by simp) (by simp) (by simp) (by simp) (by simp) (by simp) (by simp) (by simp) ?_
      intro Z' e' hr hf hl f2 f4 f5 f6
      simp[f2,f4,f5,f6,up1 hi (show es.length≤BIG by simp only[BIG];omega)]
      have hfin:=d7 Z' hr hf hl
      rw[← hsucc]at hfin
      exact (hI _ ⟨_,_⟩).2 ⟨_,hfin,by simp[f2,f4,f5,f6]⟩
    | false =>
     have hA':=of_decide_eq_false hA
     cases hB:decide (tt.els=(k:Int)) with
     | true =>
      have hB':=of_decide_eq_true hB
      obtain⟨Y7,hY7⟩:∃ Y7,Y5.set Y4.length ⟨[.i tt.kind,.i tt.a,.i tt.to,.i (bs.length:Int)],0,true,4⟩=Y7:=⟨_,rfl⟩
      have hp7:Pre Y4 Y7:=by rw[← hY7];exact hp5.set (Nat.le_refl _) _
      have tZ:rdOb Y7 Y4.length 0=some ⟨[.i tt.kind,.i tt.a,.i tt.to,.i (bs.length:Int)],0,true,4⟩:=by rw[← hY7,rdOb_set_self (rdOb_lt t5)];simp
      have hpZ:Pre Y4 Y7:=hp7
      have hHZ:SplitH X1.length X2.length (fun j=>(j=X3.length∧j<X4.length)∨j=Y.length) f.values Y1 Y7 w4 b1:=by
       have hpZ9:=hpZ;obtain⟨LZ,hLZ⟩:=hpZ9
       rw[hLZ];exact hH4.app LZ
      obtain⟨idz,gz,cellsz,z1,z2,z3,_,_,_,z7,_,_,z10⟩:=hHZ.tree.termH hu1
      have ez:idz=id∧gz=g:=by have e:=z1.symm.trans c1;injection e with e;injection e with e1 e2;exact⟨e1,e2⟩
      obtain⟨rfl,rfl⟩:=ez
      obtain⟨Y8,hY8⟩:∃ Y8,(Y7:Hp).set idz ⟨putAt cellsz (u * 6+2) [.i tt.kind,.i tt.a,.i tt.to,.i (bs.length:Int)],gz,true,6⟩=Y8:=⟨_,rfl⟩
      have z10':=z10 ⟨tt.kind,tt.a,tt.to,(bs.length:Int)⟩
      simp only[trmC]at z10'
      rw[hY8]at z10'
      have lY8:Y8.length=(Y7:Hp).length:=by rw[← hY8];simp
      have hH8:=hHZ.to (by omega) z10' (by rw[← hY8];exact Frm.set _ _ (fun hn=>hn.2 z7)) (by omega)
      have hcl:u * 6+2+4≤cellsz.length:=by omega
      have nZ:=nE _ _ hHZ
      have oZ:=hHZ.out
      have oF:=hH8.out
      have nF:=nE _ _ hH8
      have hlZ:=hpZ.le
      obtain⟨id3,g3,z,Gz,ps,d1,d2,d3,d4,d5,d6,d7⟩:=fin Y8 _ (by unfold turnT;rw[if_neg hA',if_pos hB']) hH8 (by omega)
      have hlz:=d3.lenOf
      subst hw4
      simp[e2,e4,e5,e6,hleY,hi,q1,q2,p20,p21,p22,q40,q42,q43,q44,q60,q62,hY1,o1,rdC_ob o1,hlw,n1,rdC_ob n1,hY2,hsrc,happ,hO3',hY4w,rdC_ob o4,rdC_ob n4,c1,c6,hY5,rdC_ob t5,rdC_ob n5,hA,hB,t5,hY7,rdC_ob nZ,rdC_ob oZ,rdN_ob tZ,z2,hcl,hY8,rdC_ob oF,rdC_ob nF,d1,d2]
      refine phisInS (o7:=Y.length) (G:=Gz) (fr:=u) (vv:=k) (at_:=bs.length) (x2:=.c (.p (H.length+1) 0 0)) (x4:=.c (.p X2.length 0 0)) (x5:=.c ew) (x6:=.c (.i i)) d3 d4 nF d6 (by simp) (by simp) (by simp) (by simp) (by simp) (by simp) (by simp) (by simp) ?_
      intro Z' e' hr hf hl f2 f4 f5 f6
      simp[f2,f4,f5,f6,up1 hi (show es.length≤BIG by simp only[BIG];omega)]
      have hfin:=d7 Z' hr hf hl
      rw[← hsucc]at hfin
      exact (hI _ ⟨_,_⟩).2 ⟨_,hfin,by simp[f2,f4,f5,f6]⟩
     | false =>
      have hB':=of_decide_eq_false hB
      have tZ:=t5
      have hpZ:Pre Y4 Y5:=hp5
      have hHZ:SplitH X1.length X2.length (fun j=>(j=X3.length∧j<X4.length)∨j=Y.length) f.values Y1 Y5 w4 b1:=by
       have hpZ9:=hpZ;obtain⟨LZ,hLZ⟩:=hpZ9
       rw[hLZ];exact hH4.app LZ
      obtain⟨idz,gz,cellsz,z1,z2,z3,_,_,_,z7,_,_,z10⟩:=hHZ.tree.termH hu1
      have ez:idz=id∧gz=g:=by have e:=z1.symm.trans c1;injection e with e;injection e with e1 e2;exact⟨e1,e2⟩
      obtain⟨rfl,rfl⟩:=ez
      obtain⟨Y8,hY8⟩:∃ Y8,(Y5:Hp).set idz ⟨putAt cellsz (u * 6+2) [.i tt.kind,.i tt.a,.i tt.to,.i tt.els],gz,true,6⟩=Y8:=⟨_,rfl⟩
      have z10':=z10 ⟨tt.kind,tt.a,tt.to,tt.els⟩
      simp only[trmC]at z10'
      rw[hY8]at z10'
      have lY8:Y8.length=(Y5:Hp).length:=by rw[← hY8];simp
      have hH8:=hHZ.to (by omega) z10' (by rw[← hY8];exact Frm.set _ _ (fun hn=>hn.2 z7)) (by omega)
      have hcl:u * 6+2+4≤cellsz.length:=by omega
      have nZ:=nE _ _ hHZ
      have oZ:=hHZ.out
      have oF:=hH8.out
      have nF:=nE _ _ hH8
      have hlZ:=hpZ.le
      obtain⟨id3,g3,z,Gz,ps,d1,d2,d3,d4,d5,d6,d7⟩:=fin Y8 _ (by unfold turnT;rw[if_neg hA',if_neg hB']) hH8 (by omega)
      have hlz:=d3.lenOf
      subst hw4
      simp[e2,e4,e5,e6,hleY,hi,q1,q2,p20,p21,p22,q40,q42,q43,q44,q60,q62,hY1,o1,rdC_ob o1,hlw,n1,rdC_ob n1,hY2,hsrc,happ,hO3',hY4w,rdC_ob o4,rdC_ob n4,c1,c6,hY5,rdC_ob t5,rdC_ob n5,hA,hB,rdC_ob nZ,rdC_ob oZ,rdN_ob tZ,z2,hcl,hY8,rdC_ob oF,rdC_ob nF,d1,d2]
      refine phisInS (o7:=Y.length) (G:=Gz) (fr:=u) (vv:=k) (at_:=bs.length) (x2:=.c (.p (H.length+1) 0 0)) (x4:=.c (.p X2.length 0 0)) (x5:=.c ew) (x6:=.c (.i i)) d3 d4 nF d6 (by simp) (by simp) (by simp) (by simp) (by simp) (by simp) (by simp) (by simp) ?_
      intro Z' e' hr hf hl f2 f4 f5 f6
      simp[f2,f4,f5,f6,up1 hi (show es.length≤BIG by simp only[BIG];omega)]
      have hfin:=d7 Z' hr hf hl
      rw[← hsucc]at hfin
      exact (hI _ ⟨_,_⟩).2 ⟨_,hfin,by simp[f2,f4,f5,f6]⟩
   ·rintro⟨e,Y⟩ hIs
    obtain⟨w',hH,e2,e4,e5,e6⟩:=(hI _ _).1 hIs
    simp only at hH e2 e4 e5 e6 ⊢
    rw[List.take_length]at hH
    have hRY:rdOb Y (H.length+1) 0=some ⟨[.ns,.i 0],0,true,2⟩:=hH.fr.ob ⟨by omega,.inl (by omega)⟩ hR4
    obtain⟨Y2,hY2⟩:∃ Y2,Y.set (H.length+1) ⟨[w',.i f.values],0,true,2⟩=Y2:=⟨_,rfl⟩
    have hR2:rdOb Y2 (H.length+1) 0=some ⟨[w',.i f.values],0,true,2⟩:=by rw[← hY2,rdOb_set_self (rdOb_lt hRY)];simp
    have hpY:Pre H Y:=(hH.fr.mono fun j (hj:j<H.length)=>⟨by omega,.inl (by omega)⟩).cut (hp13.trans hp4)
    have hleY:lenOf ew=some es.length:=hle
    unfold vf22b2
    simp[e2,e4,e5,e6,hleY,rdN_ob hH.out,hRY,putAt,hY2,rdN_ob hR2]
    rw[hg.1,hg.2]
    refine FnRes2.mk (H:=H) (g:=⟨es.foldl splitE f.blocks,f.values⟩) (S:=fun j=>X1.length≤j∧¬ (j=X3.length∧j<X4.length)∧j≠X2.length) ?_ ?_ (fun j hj=>by omega)
    ·rw[← hY2];exact hpY.set (by omega) _
    ·rw[← hY2];exact hH.tree.fr blkF_st (Frm.set _ _ (by omega))
  ·obtain⟨g1,g2⟩:=hfalse (fun h=>hlen h.2)
   have hn16:16<(f.blocks.length:Int)+((crit0 f).length:Int):=by omega
   simp[putAt,hX3,rdN_ob hB3,specCheck hv3 hb,hck,hcrit,hX4,rdC_ob hB4,hlv,hle,wrap64_id hw64,hn16,rdN_ob hO4,hR4,hX6,rdN_ob hR6]
   rw[g1,g2]
   exact hbad _ _ hp4 hX6
 ·obtain⟨g1,g2⟩:=hfalse (fun h=>hck h.1)
  obtain⟨X6,hX6⟩:∃ X6,X3.set (H.length+1) ⟨[w,.i f.values],0,true,2⟩=X6:=⟨_,rfl⟩
  have hR6:rdOb X6 (H.length+1) 0=some ⟨[w,.i f.values],0,true,2⟩:=by rw[← hX6,rdOb_set_self (rdOb_lt hR3)];simp
  simp[putAt,hX3,rdN_ob hB3,specCheck hv3 hb,hck,rdN_ob hO3,hR3,hX6,rdN_ob hR6]
  rw[g1,g2]
  exact hbad _ _ (Pre.refl _) hX6
def RanRes (H:Hp) (q:Int×Int×RunS) (r:IV×Hp):Prop:=
 ∃ Z c tv pv,r=(.tup [(false,[.p c 0 0]),(false,[.i q.1])],Z)∧Pre H Z∧H.length≤c∧rdC Z c 0 6=some tv∧rdC Z c 0 7=some pv∧rdC Z c 0 8=some (.i q.2.1) ∧
  OutR Z tv q.2.2.told∧(∀ id,IsOut tv id→H.length≤id)∧OutR Z pv q.2.2.path∧(∀ id,IsOut pv id→H.length≤id)

theorem gc_tup2 (H Y:Hp) (c:Nat) (x:Int):gcRet H (.tup [(false,[.p c 0 0]),(false,[.i x])]) Y=(.tup [(false,[.p c 0 0]),(false,[.i x])],Y):=by
 unfold gcRet;split
 ·rw[if_neg (by simp[flatV,flatC])]
 ·rfl

theorem not_out {n:Nat}:∀ id,IsOut .ns id→n≤id:=by
 rintro id ⟨g,k,h⟩;cases h

theorem min_fuel {fuel:Int} (h:0≤fuel):(if 5000<fuel then 5000 else fuel)=(((min fuel 5000).toNat:Nat):Int)∧(min fuel 5000).toNat≤5000:=by
 by_cases h5:5000<fuel
 ·rw[if_pos h5];omega
 ·rw[if_neg h5];omega

set_option maxRecDepth 100000 in
theorem ran_call {H:Hp} {v rv:CV} {f:FnR} {reads:List Int} {fuel:Int} (hH:Blocks H v f.blocks) (hb:f.blocks.length≤BIG) (hr:IsI H rv reads) :
  CM 63 [.agg [v,.i f.values],.c rv,.c (.i fuel)] H (RanRes H (runW f reads fuel)):=by
 refine cw63 ?_
 unfold vf63c
 obtain⟨X1,hX1⟩:∃ X1,H++[(⟨[v,.i f.values],0,true,2⟩:Ob)]=X1:=⟨_,rfl⟩
 have hp1:Pre H X1:=⟨_,hX1.symm⟩
 have h3:rdOb X1 H.length 0=some ⟨[v,.i f.values],0,true,2⟩:=by rw[← hX1];simp
 have l1:X1.length=H.length+1:=by rw[← hX1];simp
 obtain⟨X2,hX2⟩:∃ X2,X1++[(⟨[.ns,.i 0,.ns,.ns,.ns,.i 0,.ns,.ns,.i 0],0,true,9⟩:Ob)]=X2:=⟨_,rfl⟩
 have hp2:Pre X1 X2:=⟨_,hX2.symm⟩
 have h11:rdOb X2 X1.length 0=some ⟨[.ns,.i 0,.ns,.ns,.ns,.i 0,.ns,.ns,.i 0],0,true,9⟩:=by rw[← hX2];simp
 have l2:X2.length=H.length+2:=by rw[← hX2];simp[l1]
 have h32:=hp2.rdOb h3
 have hB2:=(hH.pre hp1).pre hp2
 by_cases hs:shapeB f=true∧0≤fuel
 ·obtain⟨hsh,hf0⟩:=hs
  have hw:runW f reads fuel=runGo f.blocks ((min fuel 5000).toNat+1) (min fuel 5000).toNat 0 (-1) (initS f.values reads):=by unfold runW;rw[if_pos ⟨hsh,hf0⟩]
  obtain⟨hmn,hφ⟩:=min_fuel hf0
  obtain⟨s1,s2,s3,s4⟩:=shape_len hsh
  rw[hw]
  obtain⟨φ,hφe⟩:∃ φ,(min fuel 5000).toNat=φ:=⟨_,rfl⟩
  rw[hφe]at hmn hφ ⊢
  have hrun:∀ (X5:Hp) (c vi ci:Nat),Pre H X5→H.length≤c→H.length≤vi→H.length≤ci→c≠vi→c≠ci→vi≠ci→rdOb X5 c 0=some ⟨[v,.i f.values,.sl vi 0 0 f.values.toNat,.sl ci 0 0 8,rv,.i φ,.ns,.ns,.i 0],0,true,9⟩ →
    rdOb X5 vi 0=some ⟨List.replicate f.values.toNat (.i 0),0,true,1⟩→rdOb X5 ci 0=some ⟨List.replicate 8 (.i 0),0,true,1⟩ →
    CM 123 [.c (.p c 0 0)] X5 fun r=>∃ Z tv pv,r=(.c (.i (runGo f.blocks (φ+1) φ 0 (-1) (initS f.values reads)).1),Z)∧Pre H Z∧rdC Z c 0 6=some tv∧rdC Z c 0 7=some pv∧rdC Z c 0 8=some (.i (runGo f.blocks (φ+1) φ 0 (-1) (initS f.values reads)).2.1) ∧
     OutR Z tv (runGo f.blocks (φ+1) φ 0 (-1) (initS f.values reads)).2.2.told∧(∀ id,IsOut tv id→H.length≤id)∧OutR Z pv (runGo f.blocks (φ+1) φ 0 (-1) (initS f.values reads)).2.2.path∧(∀ id,IsOut pv id→H.length≤id):=by
   intro X5 c vi ci hp5 hc hv5 hc5 n1 n2 n3 o1 o2 o3
   obtain⟨κ,hκ⟩:∃ κ:RK,∀ id,κ id=if id=c then 1 else if id=vi then 2 else if id=ci then 3 else 0:=⟨fun id=>if id=c then 1 else if id=vi then 2 else if id=ci then 3 else 0,fun _=>rfl⟩
   have hk:∀ id,id<H.length→κ id=0:=fun id hi=>by rw[hκ,if_neg (by omega),if_neg (by omega),if_neg (by omega)]
   have hR:RInv true v f.values f.values.toNat κ X5 c 0 (initS f.values reads) φ:=by
    refine⟨vi,0,ci,rv,.ns,.ns,initS_ok _ _,o1,by rw[hκ,if_pos rfl],by rw[hκ,if_neg (fun e=>n1 e.symm),if_pos rfl],by rw[hκ,if_neg (fun e=>n2 e.symm),if_neg (fun e=>n3 e.symm),if_pos rfl],?_,?_,Sl.pre hp5 hr,?_,.inl ⟨rfl,rfl⟩,?_,.inl ⟨rfl,rfl⟩,?_,?_⟩
    ·simpa [initS] using o2
    ·simpa [initS] using o3
    ·intro id g off k he
     subst he
     rcases hr with⟨h,_⟩ | ⟨_,_,_,_,h,h2,_⟩
     ·cases h
     ·cases h;exact hk _ (rdOb_lt h2)
    ·rintro id ⟨g,k,h⟩;cases h
    ·rintro id ⟨g,k,h⟩;cases h
    ·intro id hi
     have a:=rdOb_lt o1;have b:=rdOb_lt o2;have d:=rdOb_lt o3
     rw[hκ,if_neg (by omega),if_neg (by omega),if_neg (by omega)]
   refine (run_call hH hsh hp5 hk hR rfl hφ rfl rfl).mono ?_
   rintro _ ⟨κ',Z,fu',rfl,⟨vi',gv',ci',rv',tv,pv,P⟩,F⟩
   have hob:rdOb Z c 0=some ⟨[v,.i f.values,.sl vi' gv' 0 f.values.toNat,.sl ci' 0 0 8,rv',.i fu',tv,pv,.i _],0,true,9⟩:=P.ob
   have hlo:∀ id,id<H.length→κ' id=0:=fun id hi=>by rw[F.same id (by have:=hp5.le;omega)];exact hk id hi
   refine⟨Z,tv,pv,rfl,F.pre hp5 hk,by rw[rdC_ob hob];rfl,by rw[rdC_ob hob];rfl,by rw[rdC_ob hob];rfl,P.told,fun id hi=>?_,P.path,fun id hi=>?_⟩
   ·have:=P.kt id hi
    cases Nat.lt_or_ge id H.length with
    | inl h=>rw[hlo id h]at this;cases this
    | inr h=>exact h
   ·have:=P.kp id hi
    cases Nat.lt_or_ge id H.length with
    | inl h=>rw[hlo id h]at this;cases this
    | inr h=>exact h
  have hm1:(0≤f.values∧f.values≤(LIM:Int))=True:=eq_true ⟨s3,by simp only[LIM];omega⟩
  have hm8:(8≤LIM)=True:=eq_true (by simp only[LIM];omega)
  obtain⟨A1,hA1⟩:∃ A1,X2++[(⟨List.replicate f.values.toNat (.i 0),0,true,1⟩:Ob)]=A1:=⟨_,rfl⟩
  obtain⟨A2,hA2⟩:∃ A2,A1++[(⟨[.i 0,.i 0,.i 0,.i 0,.i 0,.i 0,.i 0,.i 0],0,true,1⟩:Ob)]=A2:=⟨_,rfl⟩
  obtain⟨A3,hA3⟩:∃ A3,A2++[(⟨[v,.i f.values,.sl X2.length 0 0 f.values.toNat,.sl A1.length 0 0 8,rv,.i φ,.ns,.ns,.i 0],0,true,9⟩:Ob)]=A3:=⟨_,rfl⟩
  have pA1:Pre X2 A1:=⟨_,hA1.symm⟩
  have pA2:Pre A1 A2:=⟨_,hA2.symm⟩
  have pA3:Pre A2 A3:=⟨_,hA3.symm⟩
  have lA1:A1.length=X2.length+1:=by rw[← hA1];simp
  have lA2:A2.length=X2.length+2:=by rw[← hA2];simp[lA1]
  have oA1:rdOb A1 X2.length 0=some ⟨List.replicate f.values.toNat (.i 0),0,true,1⟩:=by rw[← hA1];simp
  have oA2:rdOb A2 A1.length 0=some ⟨List.replicate 8 (.i 0),0,true,1⟩:=by rw[← hA2];simp
  have oA3:rdOb A3 A2.length 0=some ⟨[v,.i f.values,.sl X2.length 0 0 f.values.toNat,.sl A1.length 0 0 8,rv,.i φ,.ns,.ns,.i 0],0,true,9⟩:=by rw[← hA3];simp
  have rA:=hrun A3 A2.length X2.length A1.length ((hp1.trans hp2).trans (pA1.trans (pA2.trans pA3))) (by omega) (by omega) (by omega) (by omega) (by omega) (by omega) oA3 ((pA2.trans pA3).rdOb oA1) (pA3.rdOb oA2)
  have kA1:rdOb A1 H.length 0=rdOb X2 H.length 0:=by rw[pA1.rdOb h32,h32]
  have kA2:rdOb A2 H.length 0=rdOb X2 H.length 0:=by rw[(pA1.trans pA2).rdOb h32,h32]
  obtain⟨B1,hB1⟩:∃ B1,X2++[(⟨[.i 0,.i 0,.i 0,.i 0,.i 0,.i 0,.i 0,.i 0],0,true,1⟩:Ob)]=B1:=⟨_,rfl⟩
  obtain⟨B2,hB2'⟩:∃ B2,B1++[(⟨List.replicate f.values.toNat (.i 0),0,true,1⟩:Ob)]=B2:=⟨_,rfl⟩
  obtain⟨B3,hB3⟩:∃ B3,B2++[(⟨[v,.i f.values,.sl B1.length 0 0 f.values.toNat,.sl X2.length 0 0 8,rv,.i φ,.ns,.ns,.i 0],0,true,9⟩:Ob)]=B3:=⟨_,rfl⟩
  have pB1:Pre X2 B1:=⟨_,hB1.symm⟩
  have pB2:Pre B1 B2:=⟨_,hB2'.symm⟩
  have pB3:Pre B2 B3:=⟨_,hB3.symm⟩
  have lB1:B1.length=X2.length+1:=by rw[← hB1];simp
  have lB2:B2.length=X2.length+2:=by rw[← hB2'];simp[lB1]
  have oB1:rdOb B1 X2.length 0=some ⟨List.replicate 8 (.i 0),0,true,1⟩:=by rw[← hB1];simp
  have oB2:rdOb B2 B1.length 0=some ⟨List.replicate f.values.toNat (.i 0),0,true,1⟩:=by rw[← hB2'];simp
  have oB3:rdOb B3 B2.length 0=some ⟨[v,.i f.values,.sl B1.length 0 0 f.values.toNat,.sl X2.length 0 0 8,rv,.i φ,.ns,.ns,.i 0],0,true,9⟩:=by rw[← hB3];simp
  have rB:=hrun B3 B2.length B1.length X2.length ((hp1.trans hp2).trans (pB1.trans (pB2.trans pB3))) (by omega) (by omega) (by omega) (by omega) (by omega) (by omega) oB3 (pB3.rdOb oB2) ((pB2.trans pB3).rdOb oB1)
  have kB1:rdOb B1 H.length 0=rdOb X2 H.length 0:=by rw[pB1.rdOb h32,h32]
  have kB2:rdOb B2 H.length 0=rdOb X2 H.length 0:=by rw[(pB1.trans pB2).rdOb h32,h32]
  have h3B1:=pB1.rdOb h32
  have hform:rv=.ns∨∃ i1 g1 o1 k1,rv=.sl i1 g1 o1 k1:=by
   rcases hr with⟨h,_⟩ | ⟨i1,g1,o1,_,h,_⟩
   ·exact .inl h
   ·exact .inr ⟨i1,g1,o1,_,h⟩
  rcases hform with rfl | ⟨i1,g1,o1,k1,rfl⟩
  all_goals
   simp[hX1,hX2,rdN_ob h32,implShape hB2 hb,hsh,Int.not_lt.2 hf0,vf63t0,rdC_ob h32,rdC_ob h3B1,rdN_ob h3B1,hm1,hm8,hA1,hA2,kA1,kA2,hB1,hB2',kB1,kB2,hmn,putD0,putL2,putL3,putL4,putL5,hA3,hB3]
   refine⟨?_,?_⟩
   ·refine rA.mono ?_
    rintro _ ⟨Z,tv,pv,rfl,a1,a2,a3,a4,a5,a6,a7,a8⟩
    simp[gc_tup2]
    exact⟨Z,_,tv,pv,rfl,a1,by omega,a2,a3,a4,a5,a6,a7,a8⟩
   ·refine rB.mono ?_
    rintro _ ⟨Z,tv,pv,rfl,a1,a2,a3,a4,a5,a6,a7,a8⟩
    simp[gc_tup2]
    exact⟨Z,_,tv,pv,rfl,a1,by omega,a2,a3,a4,a5,a6,a7,a8⟩
 ·have hw:runW f reads fuel=(3,0,⟨[],[],[],[],[]⟩):=by unfold runW;rw[if_neg hs]
  rw[hw]
  have hend:RanRes H (3,0,⟨[],[],[],[],[]⟩) (.tup [(false,[.p X1.length 0 0]),(false,[.i 3])],X2):=
   ⟨X2,X1.length,.ns,.ns,rfl,hp1.trans hp2,by omega,by rw[rdC_ob h11];rfl,by rw[rdC_ob h11];rfl,by rw[rdC_ob h11];rfl,.inl ⟨rfl,rfl⟩,not_out,.inl ⟨rfl,rfl⟩,not_out⟩
  cases hsh:shapeB f with
  | false =>
   simp[hX1,hX2,rdN_ob h32,implShape hB2 hb,hsh,gc_tup2]
   exact hend
  | true =>
   have hf0:fuel<0:=Int.not_le.1 fun h=>hs ⟨hsh,h⟩
   simp[hX1,hX2,rdN_ob h32,implShape hB2 hb,hsh,hf0,gc_tup2]
   exact hend

def RunOut (H:Hp) (q:Int×Int×RunS) (r:IV×Hp):Prop:=
 ∃ Z tv,r=(.tup [(false,[tv]),(false,[.i q.1]),(false,[.i q.2.1])],Z)∧Pre H Z∧OutR Z tv q.2.2.told∧∀ id,IsOut tv id→H.length≤id

theorem OutR.form {X:Hp} {w:CV} {xs:List Int} (h:OutR X w xs):w=.ns∨∃ id g n,w=.sl id g 0 n:=by
 rcases h with⟨h,_⟩ | ⟨o,g,h,_⟩
 ·exact .inl h
 ·exact .inr ⟨o,g,_,h⟩

theorem RunOut.gc {H Z:Hp} {tv:CV} {x y:Int} {xs:List Int} (hp:Pre H Z) (ht:OutR Z tv xs) (ho:∀ id,IsOut tv id→H.length≤id) :
  ∃ Z',gcRet H (.tup [(false,[tv]),(false,[.i x]),(false,[.i y])]) Z=(.tup [(false,[tv]),(false,[.i x]),(false,[.i y])],Z')∧Pre H Z'∧OutR Z' tv xs:=by
 rcases ht.form with rfl | ⟨id,g,n,rfl⟩
 ·refine⟨H,gcRet_flat hp rfl,Pre.refl _,?_⟩
  rcases ht with⟨_,h⟩ | ⟨_,_,h,_⟩
  ·exact .inl ⟨rfl,h⟩
  ·cases h
 ·refine⟨Z,?_,hp,ht⟩
  unfold gcRet;split
  ·rw[if_neg (by simp[flatV,flatC])]
  ·rfl

theorem implRun {H:Hp} {v rv:CV} {f:FnR} {reads:List Int} {fuel:Int} (hH:Blocks H v f.blocks) (hb:f.blocks.length≤BIG) (hr:IsI H rv reads) :
  CM 19 [.agg [v,.i f.values],.c rv,.c (.i fuel)] H (RunOut H (runW f reads fuel)):=by
 refine cw19 ?_
 unfold vf19c
 obtain⟨X1,hX1⟩:∃ X1,H++[(⟨[v,.i f.values],0,true,2⟩:Ob)]=X1:=⟨_,rfl⟩
 have hp1:Pre H X1:=⟨_,hX1.symm⟩
 have h3:rdOb X1 H.length 0=some ⟨[v,.i f.values],0,true,2⟩:=by rw[← hX1];simp
 simp[hX1,rdN_ob h3]
 refine (ran_call (hH.pre hp1) hb (Sl.pre hp1 hr)).mono ?_
 rintro _ ⟨Z,c,tv,pv,rfl,a1,a2,a3,a4,a5,a6,a7,a8⟩
 obtain⟨Z',g1,g2,g3⟩:=RunOut.gc (x:=(runW f reads fuel).1) (y:=(runW f reads fuel).2.1) (hp1.trans a1) a6 (fun id hi=>by have:=a7 id hi;have:=hp1.le;omega)
 have hend:RunOut H (runW f reads fuel) (.tup [(false,[tv]),(false,[.i (runW f reads fuel).1]),(false,[.i (runW f reads fuel).2.1])],Z'):=⟨Z',tv,rfl,g2,g3,fun id hi=>by have:=a7 id hi;have:=hp1.le;omega⟩
 rcases a6.form with rfl | ⟨i1,g1,n1,rfl⟩
 all_goals
  simp[a3,a5,g1]
  exact hend
def SInsRes (v:CV) (m:Int) (n:Nat) (κ:RK) (X:Hp) (c:Nat) (fu:Int) (q:Int×RunS) (r:IV×Hp):Prop:=
 ∃ κ' Z,r=(.c (.i q.1),Z)∧RInv false v m n κ' Z c 0 q.2 fu∧Fr κ κ' X Z

theorem SInsRes.mk' {v:CV} {m:Int} {n:Nat} {κ κ':RK} {X Y:Hp} {c:Nat} {s:RunS} {fu:Int} {q:Int×RunS} (h:RInv false v m n κ X c 0 s fu) (h':RInv false v m n κ' Y c 0 q.2 fu) (hf:Fr κ κ' X Y) :
  SInsRes v m n κ X c fu q (gcRet X (.c (.i q.1)) Y):=by
 obtain⟨κ2,Z,e,h1,h2⟩:=h.gc h' hf (r:=.c (.i q.1)) rfl
 rw[e]
 exact⟨κ2,Z,rfl,h1,h2⟩
def SRunRes (v:CV) (m:Int) (n:Nat) (κ:RK) (X:Hp) (c:Nat) (q:Int×Int×RunS) (r:IV×Hp):Prop:=
 ∃ κ' Z fu',r=(.tup [(false,[.i q.1]),(false,[.i q.2.1])],Z)∧RInv false v m n κ' Z c 0 q.2.2 fu'∧Fr κ κ' X Z

theorem SRunRes.mk' {v:CV} {m:Int} {n:Nat} {κ κ':RK} {X Y:Hp} {c:Nat} {s:RunS} {fu fu':Int} {q:Int×Int×RunS} (h:RInv false v m n κ X c 0 s fu) (h':RInv false v m n κ' Y c 0 q.2.2 fu') (hf:Fr κ κ' X Y) :
  SRunRes v m n κ X c q (gcRet X (.tup [(false,[.i q.1]),(false,[.i q.2.1])]) Y):=by
 obtain⟨κ2,Z,e,h1,h2⟩:=h.gc h' hf (r:=.tup [(false,[.i q.1]),(false,[.i q.2.1])]) rfl
 rw[e]
 exact⟨κ2,Z,fu',rfl,h1,h2⟩
def NewPs (m:Int) (reads:List Int) (κ:RK) (h:Hp) (vi ci ri g ti pi:Nat):Prop:=
 (κ vi=2∧rdOb h vi 0=some ⟨List.replicate m.toNat (.i 0),0,true,1⟩)∧(κ ci=3∧rdOb h ci 0=some ⟨List.replicate 8 (.i 0),0,true,1⟩)∧(κ ri=6∧rdOb h ri g=some ⟨reads.map .i,g,true,1⟩) ∧
 (κ ti=4∧rdOb h ti 0=some ⟨[],0,true,1⟩)∧(κ pi=5∧rdOb h pi 0=some ⟨[],0,true,1⟩)

def newP (m fuel φ:Int) (rv:CV) (reads:List Int) (κ:RK) (h:Hp) (u:IV):Nat→Prop
 | 0=>u=.c (.i m)
 | 1=>∃ i,u=.c (.sl i 0 0 m.toNat)∧κ i=2∧rdOb h i 0=some ⟨List.replicate m.toNat (.i 0),0,true,1⟩
 | 2=>∃ i,u=.c (.sl i 0 0 8)∧κ i=3∧rdOb h i 0=some ⟨List.replicate 8 (.i 0),0,true,1⟩
 | 3=>∃ i,u=.c (.sl i 0 0 0)∧κ i=6∧rdOb h i 0=some ⟨[],0,true,1⟩
 | 4=>u=.c rv
 | 5=>∃ i g,u=.c (.sl i g 0 reads.length)∧κ i=6∧rdOb h i g=some ⟨reads.map .i,g,true,1⟩
 | 6=>∃ i,u=.c (.sl i 0 0 0)∧κ i=4∧rdOb h i 0=some ⟨[],0,true,1⟩
 | 7=>∃ i,u=.c (.sl i 0 0 0)∧κ i=5∧rdOb h i 0=some ⟨[],0,true,1⟩
 | 8=>u=.c (.i fuel)
 | 9=>u=.c (.i φ)
 | 10=>∃ vi ci ri g ti pi,u=.agg [.sl vi 0 0 m.toNat,.sl ci 0 0 8,.sl ri g 0 reads.length,.sl ti 0 0 0,.sl pi 0 0 0,.i φ]∧NewPs m reads κ h vi ci ri g ti pi
 | _=>∃ c vi ci ri g ti pi,u=.c (.p c 0 0)∧κ c=1∧rdOb h c 0=some ⟨[.sl vi 0 0 m.toNat,.sl ci 0 0 8,.sl ri g 0 reads.length,.sl ti 0 0 0,.sl pi 0 0 0,.i φ],0,true,6⟩∧NewPs m reads κ h vi ci ri g ti pi

section

variable {m fuel φ:Int} {rv:CV} {reads:List Int} {κ κ':RK} {h h':Hp} {u:IV}

theorem NewPs.keep {vi ci ri g ti pi:Nat} (hp:NewPs m reads κ h vi ci ri g ti pi) (hk:∀ id gg o,κ id≠0→rdOb h id gg=some o→rdOb h' id gg=some o∧κ' id=κ id):NewPs m reads κ' h' vi ci ri g ti pi:=by
 obtain⟨⟨a1,a2⟩,⟨b1,b2⟩,⟨c1,c2⟩,⟨d1,d2⟩,⟨e1,e2⟩⟩:=hp
 have A:=hk _ _ _ (by omega) a2;have B:=hk _ _ _ (by omega) b2;have C:=hk _ _ _ (by omega) c2;have D:=hk _ _ _ (by omega) d2;have E:=hk _ _ _ (by omega) e2
 exact⟨⟨by rw[A.2];exact a1,A.1⟩,⟨by rw[B.2];exact b1,B.1⟩,⟨by rw[C.2];exact c1,C.1⟩,⟨by rw[D.2];exact d1,D.1⟩,⟨by rw[E.2];exact e1,E.1⟩⟩

theorem newP.keep {j:Nat} (hp:newP m fuel φ rv reads κ h u j) (hk:∀ id gg o,κ id≠0→rdOb h id gg=some o→rdOb h' id gg=some o∧κ' id=κ id):newP m fuel φ rv reads κ' h' u j:=by
 match j,hp with
 | 0,hp=>exact hp
 | 1,⟨i,a,b,c⟩=>have A:=hk _ _ _ (by omega) c;exact⟨i,a,by rw[A.2];exact b,A.1⟩
 | 2,⟨i,a,b,c⟩=>have A:=hk _ _ _ (by omega) c;exact⟨i,a,by rw[A.2];exact b,A.1⟩
 | 3,⟨i,a,b,c⟩=>have A:=hk _ _ _ (by omega) c;exact⟨i,a,by rw[A.2];exact b,A.1⟩
 | 4,hp=>exact hp
 | 5,⟨i,g,a,b,c⟩=>have A:=hk _ _ _ (by omega) c;exact⟨i,g,a,by rw[A.2];exact b,A.1⟩
 | 6,⟨i,a,b,c⟩=>have A:=hk _ _ _ (by omega) c;exact⟨i,a,by rw[A.2];exact b,A.1⟩
 | 7,⟨i,a,b,c⟩=>have A:=hk _ _ _ (by omega) c;exact⟨i,a,by rw[A.2];exact b,A.1⟩
 | 8,hp=>exact hp
 | 9,hp=>exact hp
 | 10,⟨vi,ci,ri,g,ti,pi,a,b⟩=>exact⟨vi,ci,ri,g,ti,pi,a,b.keep hk⟩
 | j+11,⟨c,vi,ci,ri,g,ti,pi,a,b,d,e⟩=>have A:=hk _ _ _ (by omega) d;exact⟨c,vi,ci,ri,g,ti,pi,a,by rw[A.2];exact b,A.1,e.keep hk⟩

end
theorem rowGc {X Z:Hp} {c id g:Nat} {xs:List Int} (h:CurL c X Z) (hx:Cur X c) (hid:X.length≤id) (ho:rdOb Z id g=some ⟨xs.map .i,g,true,1⟩) :
  ∃ w Z',gcRet X (.c (.sl id g 0 xs.length)) Z=(.c w,Z')∧CurL c X Z'∧OutR Z' w xs∧∀ id,IsOut w id→X.length≤id:=by
 by_cases ht:Z.take X.length=X
 ·have hp:Pre X Z:=⟨Z.drop X.length,by have:=List.take_append_drop X.length Z;rw[ht]at this;exact this.symm⟩
  refine⟨_,_,gcRet_row hp hid ho rfl (by simp[flatC]),(CurL.refl hx).app _,.inr ⟨X.length,0,rfl,by simp⟩,?_⟩
  rintro i ⟨g',n,he⟩;cases he;exact Nat.le_refl _
 ·refine⟨_,Z,by unfold gcRet;rw[if_neg ht],h,.inr ⟨id,g,rfl,ho⟩,?_⟩
  rintro i ⟨g',n,he⟩;cases he;exact hid

def ReadsRes (X:Hp) (c:Nat) (r:IV×Hp):Prop:=∃ w Z xs,r=(.c w,Z)∧CurL c X Z∧OutR Z w xs∧(∀ id,IsOut w id→X.length≤id)∧xs.length≤6

theorem drawReads_call {X:Hp} {c:Nat} (h:Cur X c):CM 111 [.c (.p c 0 0)] X (ReadsRes X c):=by
 refine cw111 ?_
 unfold vf111c
 have hlt:=h.lt
 simp
 obtain⟨I,hI⟩:∃ I:Nat→St→Prop,∀ k st,I k st↔(∃ (xs:List Int) (id g:Nat),k+xs.length=6∧CurL c X st.h∧X.length≤id∧rdOb st.h id g=some ⟨xs.map .i,g,true,1⟩∧Env.get st.e 0=.c (.p c 0 0)∧Env.get st.e 3=.c (.sl id g 0 xs.length)∧Env.get st.e 4=.c (.i xs.length)):=⟨_,fun _ _=>Iff.rfl⟩
 refine wp_loop CM_mono I (k:=6) ((hI _ _).2 ⟨[],X.length,0,rfl,(CurL.refl h).app _,Nat.le_refl _,by simp,by simp⟩) ?_
 rintro k ⟨e,Y⟩ hIs
 obtain⟨xs,id,g,hk,hC,hid,ho,e0,e3,e4⟩:=(hI _ _).1 hIs
 simp only at hC ho e0 e3 e4 ⊢
 obtain⟨r,Y1,r0,r1,_,C1,eb⟩:=below_call hC.cur 6
 have r6:=r1 (by omega)
 have hne:id≠c:=by omega
 have ho1:=C1.l.keep _ _ _ hne ho
 have hC1:=hC.trans C1.l
 unfold vf111b0
 by_cases hlt2:(xs.length:Int)<r
 ·have hxl:xs.length≤4:=by omega
  obtain⟨x,Y2,hx,C2,en⟩:=num_call C1.cur
  have ho2:=C2.keep _ _ _ hne ho1
  obtain⟨Y3,hY3⟩:∃ Y3,Y2++[(⟨[.i x],0,true,1⟩:Ob)]=Y3:=⟨_,rfl⟩
  have ho3:rdOb Y3 id g=some ⟨xs.map .i,g,true,1⟩:=by rw[← hY3];exact rdOb_app _ ho2
  have hT:rdOb Y3 Y2.length 0=some ⟨[.i x],0,true,1⟩:=by rw[← hY3];simp
  have hsrc:srcOf Y3 1 (.sl Y2.length 0 0 1)=some (1,[.i x]):=by simp[srcOf,hT]
  have happ:=app_own (X:=Y3) (o:=id) (g:=g) (n:=xs.length) (sz:=1) (m:=1) (cs:=xs.map .i) (xs:=[.i x]) ho3 (by simp) (by simp) (by simp[LIM];omega)
  simp[e0,e3,e4,eb,hlt2,en,putL0,hY3,hsrc,happ,up1 (show xs.length<6 by omega) (show 6≤BIG by simp[BIG])]
  refine⟨k - 1,by omega,(hI _ _).2 ⟨xs++[x],id,g+1,by simp;omega,?_,hid,?_,by simp[e0]⟩⟩
  ·have hC3:CurL c X Y3:=by rw[← hY3];exact (hC1.trans C2).app _
   refine⟨?_,by simpa using hC3.le,fun i gg o h1 h2=>?_⟩
   ·obtain⟨bs,i,hh,ys,q1,q2,q3,q4,q5⟩:=hC3.cur
    refine⟨bs,i,hh,ys,by rw[rdOb_set_ne (Ne.symm hne)];exact q1,?_,q3,q4,q5⟩
    rcases q2 with q2 | ⟨i2,g2,off,ob,w1,w2,w3⟩
    ·exact .inl q2
    ·exact .inr ⟨i2,g2,off,ob,w1,by rw[rdOb_set_ne (by have:=q5 _ _ _ _ w1;omega)];exact w2,w3⟩
   ·rw[rdOb_set_ne (by have:=rdOb_lt h2;omega)];exact hC3.keep i gg o h1 h2
  ·simp only;rw[rdOb_set_self (rdOb_lt ho3)];simp
 ·obtain⟨w,Z,g1,g2,g3,g4⟩:=rowGc hC1 h hid ho1
  simp[e0,e3,e4,eb,hlt2,g1]
  exact⟨w,Z,xs,rfl,g2,g3,g4,by omega⟩

def FuelRes (X:Hp) (c:Nat) (r:IV×Hp):Prop:=∃ n Z,r=(.c (.i n),Z)∧CurL c X Z∧-1≤n∧n≤5001

theorem FuelRes.mk' {X Z:Hp} {c:Nat} {n:Int} (h:CurL c X Z) (hx:Cur X c) (h1:-1≤n) (h2:n≤5001):FuelRes X c (gcRet X (.c (.i n)) Z):=by
 obtain⟨Z',e,hC⟩:=CurL.gc h hx (r:=.c (.i n)) rfl
 rw[e];exact⟨n,Z',rfl,hC,h1,h2⟩

theorem drawFuel_call {X:Hp} {c:Nat} (h:Cur X c):CM 112 [.c (.p c 0 0)] X (FuelRes X c):=by
 refine cw112 ?_
 unfold vf112c
 obtain⟨r,Y1,r0,r1,_,C1,eb⟩:=below_call h 6
 by_cases h0:r=0
 ·subst h0
  obtain⟨r2,Y2,q0,q1,_,C2,eb2⟩:=below_call C1.cur 40
  have:=q1 (by omega)
  simp[eb,eb2]
  exact FuelRes.mk' (C1.l.trans C2.l) h (by omega) (by omega)
 ·by_cases h1:r=1
  ·subst h1
   obtain⟨Y2,hY2⟩:∃ Y2,Y1++[(⟨[.i (-1),.i 0,.i 5000,.i 5001],0,true,1⟩:Ob)]=Y2:=⟨_,rfl⟩
   have hI:IsI Y2 (.sl Y1.length 0 0 4) [-1,0,5000,5001]:=own_isI (by rw[← hY2];simp) rfl
   have C2:CurL c X Y2:=by rw[← hY2];exact C1.l.app _
   obtain⟨p,Y3,hp,C3,ep⟩:=pick_call C2.cur hI (by simp)
   simp at hp
   simp[eb,putL0,putL1,putL2,putL3,hY2,ep]
   exact FuelRes.mk' (C2.trans C3.l) h (by omega) (by omega)
  ·simp[eb,h0,h1]
   exact FuelRes.mk' C1.l h (by omega) (by omega)

def RunDraw (H:Hp) (r:IV×Hp):Prop:=∃ X v m bs w xs n,r=(.tup [(true,[v,.i m]),(false,[w]),(false,[.i n])],X)∧(∃ d g,v=.sl d g 0 bs.length)∧Pre H X∧HiBlocks H.length X v bs∧bs.length≤BIG∧0<bs.length ∧
 OutR X w xs∧(∀ id,IsOut w id→H.length≤id)∧xs.length≤6∧-1≤n∧n≤5001

theorem HiBlocks.lower {lo lo':Nat} {X:Hp} {v:CV} {bs:List BlkR} (h:HiBlocks lo X v bs) (hl:lo'≤lo):HiBlocks lo' X v bs:=fun Y hY=>h Y fun id g o hi ho=>hY id g o (by omega) ho

theorem HiBlocks.to {lo:Nat} {X Y:Hp} {v:CV} {bs:List BlkR} (h:HiBlocks lo X v bs) (hh:Hi lo X Y):HiBlocks lo Y v bs:=fun Z hZ=>h Z (hh.trans hZ (Nat.le_refl _))

theorem gc_tp3 (H Y:Hp) (d g n:Nat) (m:Int) (w:CV) (q:Int):gcRet H (.tup [(true,[.sl d g 0 n,.i m]),(false,[w]),(false,[.i q])]) Y=(.tup [(true,[.sl d g 0 n,.i m]),(false,[w]),(false,[.i q])],Y):=by
 unfold gcRet;split
 ·rw[if_neg (by simp[flatV,flatC])]
 ·rfl

theorem drawAll_call {H:Hp} {v:CV} {xs:List Int} (hv:IsB H v xs) (hb:xs.length≤BIG):CM 53 [.c v] H (RunDraw H):=by
 refine cw53 ?_
 unfold vf53c
 simp
 have hv1:IsB (H++[(⟨[.ns,.i 0],0,true,2⟩:Ob)]) v xs:=Sl.app _ hv
 have hl:(H++[(⟨[.ns,.i 0],0,true,2⟩:Ob)]).length=H.length+1:=by simp
 have hR:rdOb (H++[(⟨[.ns,.i 0],0,true,2⟩:Ob)]) H.length 0=some ⟨[.ns,.i 0],0,true,2⟩:=by simp
 have hp1:Pre H (H++[(⟨[.ns,.i 0],0,true,2⟩:Ob)]):=⟨_,rfl⟩
 generalize H++[(⟨[.ns,.i 0],0,true,2⟩:Ob)]=X0 at hv1 hl hR hp1 ⊢
 refine (new_call hv1 hb).mono ?_
 rintro _ ⟨h,rfl⟩
 have hc:=new_cur hv1 hb h
 have hR1:=rdOb_app [(⟨[v,.i 0,.i h],0,true,3⟩:Ob)] hR
 have hp2:Pre H (X0++[(⟨[v,.i 0,.i h],0,true,3⟩:Ob)]):=hp1.app _
 have hl1:(X0++[(⟨[v,.i 0,.i h],0,true,3⟩:Ob)]).length=H.length+2:=by simp[hl]
 generalize X0++[(⟨[v,.i 0,.i h],0,true,3⟩:Ob)]=X1 at hc hR1 hp2 hl1 ⊢
 simp
 refine (draw_call hc).mono ?_
 rintro _ ⟨X,w,m,bs,rfl,⟨d,g,rfl⟩,C,hB,hbl,hb0⟩
 obtain⟨X2,hX2⟩:∃ X2,X++[(⟨[.sl d g 0 bs.length,.i m],0,true,2⟩:Ob)]=X2:=⟨_,rfl⟩
 have hF2:rdOb X2 X.length 0=some ⟨[.sl d g 0 bs.length,.i m],0,true,2⟩:=by rw[← hX2];simp
 have C2:CurL X0.length X1 X2:=by rw[← hX2];exact C.app _
 have l2:X2.length=X.length+1:=by rw[← hX2];simp
 have hCle:=C.le
 simp[putD0',hX2]
 refine (drawReads_call C2.cur).mono ?_
 rintro _ ⟨w,Z,ys,rfl,C3,hO,hOlo,hyl⟩
 have hXc:X.length≠X0.length:=by omega
 have hF3:=C3.keep _ _ _ hXc hF2
 simp[rdN_ob hF3]
 refine (drawFuel_call C3.cur).mono ?_
 rintro _ ⟨n,Y,rfl,C4,hn1,hn2⟩
 have hF4:=C4.keep _ _ _ hXc hF3
 have hR4:=((C2.trans C3).trans C4).keep _ _ _ (by omega) hR1
 have hrd:rdN (Y.set H.length ⟨[.sl d g 0 bs.length,.i m],0,true,2⟩) H.length 0 0 2=some [.sl d g 0 bs.length,.i m]:=by
  rw[rdN_ob (o:=⟨[.sl d g 0 bs.length,.i m],0,true,2⟩) (by rw[rdOb_set_self (rdOb_lt hR4)];simp)];simp
 have hO':OutR (Y.set H.length ⟨[.sl d g 0 bs.length,.i m],0,true,2⟩) w ys:=hO.keep fun id gg o hi ho=>by
  have:=hOlo id hi
  rw[rdOb_set_ne (by omega)];exact C4.keep _ _ _ (by omega) ho
 rcases hO.form with rfl | ⟨i1,g1,n1,rfl⟩
 all_goals
  simp[hF3,hF4,rdN_ob hF3,rdN_ob hF4,putD0',hR4,hrd,gc_tp3]
  refine⟨_,_,m,bs,_,ys,n,rfl,⟨d,g,rfl⟩,(((C2.trans C3).trans C4).pre hp2 (by omega)).set (Nat.le_refl _) _,?_,hbl,hb0,hO',fun id hi=>by have:=hOlo id hi;omega,hyl,hn1,hn2⟩
  rw[hl1]at hB
  exact (hB.to (((Pre.hi (lo:=H.length+2) ⟨_,hX2.symm⟩).trans ((C3.trans C4).hi (lo:=H.length+2) (by omega)) (Nat.le_refl _)).trans (Hi.set (lo:=H.length+2) (by omega) _) (Nat.le_refl _))).lower (by omega)
theorem drawRun_call {H:Hp} {v:CV} {xs:List Int} (hv:IsB H v xs) (hb:xs.length≤BIG):CM 17 [.c v] H (RunDraw H):=by
 refine cw17 ?_
 unfold vf17c
 obtain⟨X0,hX0⟩:∃ X0,H++[(⟨[.ns,.i 0],0,true,2⟩:Ob)]=X0:=⟨_,rfl⟩
 have hp0:Pre H X0:=⟨_,hX0.symm⟩
 have hR:rdOb X0 H.length 0=some ⟨[.ns,.i 0],0,true,2⟩:=by rw[← hX0];simp
 have l0:X0.length=H.length+1:=by rw[← hX0];simp
 simp[hX0]
 refine (drawAll_call (Sl.pre hp0 hv) hb).mono ?_
 rintro _ ⟨X,w,m,bs,u,ys,n,rfl,⟨d,g,rfl⟩,hp1,hB,hbl,hb0,hO,hOlo,hyl,hn1,hn2⟩
 obtain⟨X2,hX2⟩:∃ X2,X++[(⟨[.sl d g 0 bs.length,.i m],0,true,2⟩:Ob)]=X2:=⟨_,rfl⟩
 have hp2:Pre X X2:=⟨_,hX2.symm⟩
 have hF2:rdOb X2 X.length 0=some ⟨[.sl d g 0 bs.length,.i m],0,true,2⟩:=by rw[← hX2];simp
 have hR2:=(hp1.trans hp2).rdOb hR
 have hrd:rdN (X2.set H.length ⟨[.sl d g 0 bs.length,.i m],0,true,2⟩) H.length 0 0 2=some [.sl d g 0 bs.length,.i m]:=by
  rw[rdN_ob (o:=⟨[.sl d g 0 bs.length,.i m],0,true,2⟩) (by rw[rdOb_set_self (rdOb_lt hR2)];simp)];simp
 have hO':OutR (X2.set H.length ⟨[.sl d g 0 bs.length,.i m],0,true,2⟩) u ys:=hO.keep fun id gg o hi ho=>by
  have:=hOlo id hi
  rw[rdOb_set_ne (by omega)];exact hp2.rdOb ho
 rcases hO.form with rfl | ⟨i1,g1,n1,rfl⟩
 all_goals
  simp[putD0',hX2,rdN_ob hF2,hR2,hrd,gc_tp3]
  refine⟨_,_,m,bs,_,ys,n,rfl,⟨d,g,rfl⟩,((hp0.trans hp1).trans hp2).set (Nat.le_refl _) _,?_,hbl,hb0,hO',fun id hi=>by have:=hOlo id hi;omega,hyl,hn1,hn2⟩
  rw[l0]at hB
  exact (hB.to ((Pre.hi (lo:=H.length+1) hp2).trans (Hi.set (lo:=H.length+1) (by omega) _) (Nat.le_refl _))).lower (by omega)
def OwnG (Y:Hp) (w:CV) (n:Nat) (cells:List CV):Prop:=(w=.ns∧n=0∧cells=[])∨∃ id g,w=.sl id g 0 n∧rdOb Y id g=some ⟨cells,g,true,1⟩∧cells.length=n

theorem OwnG.isI {Y:Hp} {w:CV} {xs:List Int} {n:Nat} (h:OwnG Y w n (xs.map .i)):IsI Y w xs:=by
 rcases h with⟨rfl,rfl,h⟩ | ⟨id,g,rfl,h,hl⟩
 ·have:xs=[]:=by simpa using h
  subst this;exact IsI.ns _
 ·exact own_isI h (by simpa using hl)

theorem OwnG.keep {Y Z:Hp} {w:CV} {n:Nat} {cells:List CV} (h:OwnG Y w n cells) (hk:∀ id g o,IsOut w id→rdOb Y id g=some o→rdOb Z id g=some o):OwnG Z w n cells:=by
 rcases h with h | ⟨id,g,rfl,h,hl⟩
 ·exact .inl h
 ·exact .inr ⟨id,g,rfl,hk _ _ _ ⟨_,_,rfl⟩ h,hl⟩

theorem RowRes.lo {H:Hp} {w:CV} {L:Hp} {xs:List Int} (h:RowRes H w L xs):∀ id,IsOut w id→H.length≤id:=by
 rintro id ⟨g,n,e⟩
 rcases h with⟨rfl,_,rfl⟩ | ⟨rfl,rfl⟩
 ·cases e
 ·cases e;exact Nat.le_refl _
set_option maxRecDepth 100000 in
theorem split_law {H:Hp} {v:CV} {xs:List Int} (hv:IsB H v xs):CM 6 [.c v] H Tru:=by
 refine cw6 ?_
 unfold vf6c
 by_cases hbig:1048576<xs.length
 ·simp[big_call hv.lenOf,hbig]
 have hb:xs.length≤BIG:=by simp only[BIG];omega
 simp[big_call hv.lenOf,hbig]
 refine (drawRun_call hv hb).mono ?_
 rintro _ ⟨X,w,m,bs,rv,reads,n,rfl,⟨d,g,rfl⟩,hp,hB,hbl,h0,hO,_,hrl,hn1,hn2⟩
 obtain⟨X1,hX1⟩:∃ X1,X++[(⟨[.sl d g 0 bs.length,.i m],0,true,2⟩:Ob)]=X1:=⟨_,rfl⟩
 have hp1:Pre X X1:=⟨_,hX1.symm⟩
 have hB1:Blocks X1 (.sl d g 0 bs.length) bs:=(hB _ (Hi.refl _ _)).pre hp1
 have hF1:rdOb X1 X.length 0=some ⟨[.sl d g 0 bs.length,.i m],0,true,2⟩:=by rw[← hX1];simp
 have hR1:IsI X1 rv reads:=Sl.pre hp1 hO.isI
 have hrb:reads.length≤BIG:=by simp only[BIG];omega
 obtain⟨f,hf⟩:∃ f:FnR,f=⟨bs,m⟩:=⟨_,rfl⟩
 obtain rfl:bs=f.blocks:=by rw[hf]
 obtain rfl:m=f.values:=by rw[hf]
 clear hf
 obtain⟨vv,hvv⟩:∃ vv,CV.sl d g 0 f.blocks.length=vv:=⟨_,rfl⟩
 rw[hvv]at hX1 hB1 hF1
 have hl1:=split0_le hbl
 have hnot:=@split0_not f
 have hlen:=@split_len f
 have hcheck:=@split_check f
 have hcrit:=@split_crit f
 have hcost:=@split_cost f
 have hrun:=@split_run f
 obtain⟨h1,hh1⟩:∃ h1,split0 f=h1:=⟨_,rfl⟩
 obtain⟨ok,hok⟩:∃ ok,splitOk f=ok:=⟨_,rfl⟩
 rw[hh1]at hl1 hnot hlen hcheck hcrit hcost hrun
 rw[hok]at hnot hlen hcheck hcrit hcost hrun
 rcases hO.form with rfl | ⟨i1,g1,n1,rfl⟩
 all_goals
  simp[hvv,putD0',hX1,rdN_ob hF1]
  refine (implSplit hB1 hbl).mono ?_
  rw[hh1,hok]
  rintro _ ⟨w1,L1,rfl,hT1⟩
  obtain⟨X2,hX2⟩:∃ X2,X1++L1=X2:=⟨_,rfl⟩
  have hp2:Pre X1 X2:=⟨_,hX2.symm⟩
  rw[hX2]at hT1 ⊢
  obtain⟨X3,hX3⟩:∃ X3,X2++[(⟨[w1,.i h1.values],0,true,2⟩:Ob)]=X3:=⟨_,rfl⟩
  have hp3:Pre X2 X3:=⟨_,hX3.symm⟩
  have hG3:rdOb X3 X2.length 0=some ⟨[w1,.i h1.values],0,true,2⟩:=by rw[← hX3];simp
  have hF3:=(hp2.trans hp3).rdOb hF1
  have hB3:=hB1.pre (hp2.trans hp3)
  have hW3:=(Tree.blocks hT1).pre hp3
  simp[putAt,hX3,rdN_ob hF3]
  refine (specSplit hB3 hbl).mono ?_
  rw[hh1,hok]
  rintro _ ⟨w2,L2,rfl,hT2⟩
  obtain⟨X4,hX4⟩:∃ X4,X3++L2=X4:=⟨_,rfl⟩
  have hp4:Pre X3 X4:=⟨_,hX4.symm⟩
  rw[hX4]at hT2 ⊢
  obtain⟨X5,hX5⟩:∃ X5,X4++[(⟨[w2,.i h1.values],0,true,2⟩:Ob)]=X5:=⟨_,rfl⟩
  have hp5:Pre X4 X5:=⟨_,hX5.symm⟩
  have hH5:rdOb X5 X4.length 0=some ⟨[w2,.i h1.values],0,true,2⟩:=by rw[← hX5];simp
  have hp35:=hp4.trans hp5
  have hF5:=hp35.rdOb hF3
  have hG5:=hp35.rdOb hG3
  have hB5:=hB3.pre hp35
  have hW5:=hW3.pre hp35
  have hV5:=(Tree.blocks hT2).pre hp5
  have hR5:=Sl.pre ((hp2.trans hp3).trans hp35) hR1
  cases ok with
  | false =>
   have e:=hnot rfl
   subst e
   simp[putAt,hX5,rdN_ob hF5,rdN_ob hG5,rdN_ob hH5,sameFn_call hW5 hV5 hl1,hF5,hG5,sameFn_call hB5 hW5 hbl]
  | true =>
   have ecr:=hcrit rfl
   have ech:=hcheck rfl
   have eco:=hcost rfl
   have eln:=hlen rfl
   simp[putAt,hX5,rdN_ob hF5,rdN_ob hG5,rdN_ob hH5,sameFn_call hW5 hV5 hl1,hF5,hG5]
   refine (implRun hB5 hbl hR5).mono ?_
   obtain⟨q,hq⟩:∃ q,runW f reads n=q:=⟨_,rfl⟩
   rw[hq]
   rintro _ ⟨X6,tI,rfl,hp6,hI6,_⟩
   have hG6:=hp6.rdOb hG5
   simp[rdN_ob hG6]
   refine (implRun (hW5.pre hp6) hl1 (Sl.pre hp6 hR5)).mono ?_
   obtain⟨r,hr⟩:∃ r,runW h1 reads 5000=r:=⟨_,rfl⟩
   rw[hr]
   rintro _ ⟨X7,tJ,rfl,hp7,hJ7,_⟩
   have hp57:=hp6.trans hp7
   have hF7:=hp57.rdOb hF5
   have hG7:=hp57.rdOb hG5
   have hB7:=hB5.pre hp57
   have hW7:=hW5.pre hp57
   have key:¬ (q.1=0∧((r.1=0∧q.2.1≠r.2.1)∨r.1=2)):=by
    rintro⟨h1,h2⟩
    have:=hrun rfl (reads:=reads) (fuel:=n) (by rw[hq];exact h1)
    rw[hq,hr]at this
    rcases h2 with⟨h3,h4⟩ | h3
    ·exact h4 (this.2 h3).symm
    ·exact this.1 h3
   obtain⟨wc,Lc,hwc,hcc⟩:=implCrit0 hW7 hl1
   have lc:=hwc.isE.lenOf
   rw[ecr]at lc
   obtain⟨Xc,hXc⟩:∃ Xc,X7++Lc=Xc:=⟨_,rfl⟩
   have hpc:Pre X7 Xc:=⟨_,hXc.symm⟩
   obtain⟨wd,Ld,hwd,hcd⟩:=implCrit0 (hB7.pre hpc) hbl
   have ld:=hwd.isE.lenOf
   obtain⟨Xd,hXd⟩:∃ Xd,Xc++Ld=Xd:=⟨_,rfl⟩
   have hpd:Pre Xc Xd:=⟨_,hXd.symm⟩
   have hFc:=hpc.rdOb hF7
   have hGc:=hpc.rdOb hG7
   have hFd:=hpd.rdOb hFc
   have hGd:=hpd.rdOb hGc
   have hWd:=(hW7.pre hpc).pre hpd
   have hBd:=(hB7.pre hpc).pre hpd
   have wl:=hW7.lenOf
   have bl:=hB7.lenOf
   have cl:=crit0_le hbl
   have hwr:wrap64 ((f.blocks.length:Int)+(crit0 f).length)=(f.blocks.length:Int)+(crit0 f).length:=wrap64_id (by simp only[BIG]at hbl cl;omega)
   have hsum:(h1.blocks.length:Int)=(f.blocks.length:Int)+(crit0 f).length:=by omega
   by_cases c1:q.1=0
   ·by_cases c2:r.1=0
    ·have c3:q.2.1=r.2.1:=by
      apply Classical.byContradiction
      intro hn;exact key ⟨c1,.inl ⟨c2,hn⟩⟩
     simp[c1,c2,c3,rdN_ob hG7,hG7,implCheck hW7 hl1,ech,hcc,hXc,hXd,lc,rdC_ob hGc,rdC_ob hFc,rdN_ob hGc,rdN_ob hFc,wl,bl,hcd,ld,rdC_ob hGd,rdC_ob hFd,rdN_ob hGd,rdN_ob hFd,hGc,hFc,hGd,hFd,hwr,hsum,implCost hWd hl1,implCost hBd hbl,eco]
    ·have c3:¬ r.1=2:=fun h=>key ⟨c1,.inr h⟩
     simp[c1,c2,c3,rdN_ob hG7,hG7,implCheck hW7 hl1,ech,hcc,hXc,hXd,lc,rdC_ob hGc,rdC_ob hFc,rdN_ob hGc,rdN_ob hFc,wl,bl,hcd,ld,rdC_ob hGd,rdC_ob hFd,rdN_ob hGd,rdN_ob hFd,hGc,hFc,hGd,hFd,hwr,hsum,implCost hWd hl1,implCost hBd hbl,eco]
   ·simp[c1,rdN_ob hG7,hG7,implCheck hW7 hl1,ech,hcc,hXc,hXd,lc,rdC_ob hGc,rdC_ob hFc,rdN_ob hGc,rdN_ob hFc,wl,bl,hcd,ld,rdC_ob hGd,rdC_ob hFd,rdN_ob hGd,rdN_ob hFd,hGc,hFc,hGd,hFd,hwr,hsum,implCost hWd hl1,implCost hBd hbl,eco]
end Go.Proofs.YtiecgmmaihckeaaGreat.Vm
