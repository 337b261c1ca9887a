/- A part of the proof: the machine and the walks. No conditions. -/
import Derived.Test.YtiecgmmaihckeaaGreatW7
namespace Go.Proofs.YtiecgmmaihckeaaGreat.Vm
open Go.RowKit (wrap64)
set_option linter.unusedSimpArgs false
set_option linter.unusedVariables false
set_option maxRecDepth 100000
theorem Tree.list {S:Nat→Prop} {X:Hp} {v:CV} {bs:List BlkR} {b:Nat} (h:Tree S X v bs) (hb:b<bs.length) :
  ∃ id g u,∃ Gu:Nat→Prop,idxOf 6 v (b:Int)=some (.p id g (b * 6))∧rdC X id g (b * 6+1)=some u∧FRow insF 5 X u bs[b].list Gu∧(∀ j,Gu j→S j∧j<X.length∧j≠id)∧S id∧bs[b].list.length≤BIG ∧
   ∀ Y ls,X.length≤Y.length→Frm (fun j=>S j∧¬ Gu j) X Y→FRow insF 5 Y u ls Gu→ls.length≤BIG→Tree S Y v (bs.set b ⟨bs[b].phis,ls,bs[b].term⟩):=by
 obtain⟨id,g,cells,Fs,z,u,Gz,Gu,rfl,hc,h1,h2,h3,h4,h5,h6,h7⟩:=h.at_ hb
 clear h
 refine⟨id,g,u,Gu,idx_sl hb,?_,h3,fun j hj=>⟨(hc.sub b j hb (h5 j hj)).1,(hc.sub b j hb (h5 j hj)).2.2,(hc.sub b j hb (h5 j hj)).2.1⟩,hc.own,h7,fun Y ls hl hf hr hlb=>?_⟩
 ·rw[hc.c (by omega),h1];rfl
 ·have:=(hc.nest blkF_st hb (x':=⟨bs[b].phis,ls,bs[b].term⟩) hl (hf.mono fun j hj=>⟨hj.1,fun h=>hj.2 (h5 j h)⟩)
   ⟨z,u,Gz,Gu,h1,h2.fr phiF_st (hf.mono fun j hj=>⟨(hc.sub b j hb (h4 j hj).1).1,(h4 j hj).2⟩),hr,h4,h5,h6,hlb⟩).row
  simpa using this

theorem Tree.phis {S:Nat→Prop} {X:Hp} {v:CV} {bs:List BlkR} {b:Nat} (h:Tree S X v bs) (hb:b<bs.length) :
  ∃ id g z,∃ Gz:Nat→Prop,idxOf 6 v (b:Int)=some (.p id g (b * 6))∧rdC X id g (b * 6)=some z∧FRow phiF 2 X z bs[b].phis Gz∧(∀ j,Gz j→S j∧j<X.length∧j≠id)∧S id∧bs[b].phis.length≤BIG ∧
   ∀ Y ps,X.length≤Y.length→Frm (fun j=>S j∧¬ Gz j) X Y→FRow phiF 2 Y z ps Gz→ps.length≤BIG→Tree S Y v (bs.set b ⟨ps,bs[b].list,bs[b].term⟩):=by
 obtain⟨id,g,cells,Fs,z,u,Gz,Gu,rfl,hc,h1,h2,h3,h4,h5,h6,h7⟩:=h.at_ hb
 clear h
 refine⟨id,g,z,Gz,idx_sl hb,?_,h2,fun j hj=>⟨(hc.sub b j hb (h4 j hj).1).1,(hc.sub b j hb (h4 j hj).1).2.2,(hc.sub b j hb (h4 j hj).1).2.1⟩,hc.own,h6,fun Y ps hl hf hr hlb=>?_⟩
 ·have:=hc.c (k:=b) (j:=0) (by omega)
  rw[Nat.add_zero]at this
  rw[this,h1];rfl
 ·have:=(hc.nest blkF_st hb (x':=⟨ps,bs[b].list,bs[b].term⟩) hl (hf.mono fun j hj=>⟨hj.1,fun h=>hj.2 (h4 j h).1⟩)
   ⟨z,u,Gz,Gu,h1,hr,h3.fr insF_st (hf.mono fun j hj=>⟨(hc.sub b j hb (h5 j hj)).1,fun h=>(h4 j h).2 hj⟩),h4,h5,hlb,h7⟩).row
  simpa using this

def FnRes (H:Hp) (g:FnR) (r:IV×Hp):Prop:=∃ w L,r=(.agg [w,.i g.values],H++L)∧Tree (fun i=>H.length≤i) (H++L) w g.blocks

theorem FnRes.mk {H X:Hp} {w:CV} {g:FnR} {S:Nat→Prop} (hp:Pre H X) (hT:Tree S X w g.blocks) (hS:∀ j,S j→H.length≤j):FnRes H g (gcRet H (.agg [w,.i g.values]) X):=by
 have hT:=FRow.mono hT hS
 rcases FRow.form hT with rfl | ⟨i',g',n',rfl⟩
 ·have hbs:g.blocks=[]:=by
   rcases hT with⟨_,h⟩ | ⟨_,_,_,_,h,_⟩
   ·exact h
   ·cases h
  rw[gcRet_flat hp (show flatV (.agg [.ns,.i g.values])=true from rfl)]
  exact⟨.ns,[],by simp,.inl ⟨rfl,hbs⟩⟩
 ·rw[gc_agg (by simp[flatC])]
  obtain⟨L,rfl⟩:=hp
  exact⟨_,L,rfl,hT⟩
structure CObj (X:Hp) (id g sz:Nat) (css:List (List CV)) (rest:List CV):Prop where
 ob:rdOb X id g=some ⟨css.flatten++rest,g,true,sz⟩
 len:∀ cs∈css,cs.length=sz

theorem CObj.at_ {X:Hp} {id g sz:Nat} {css:List (List CV)} {rest:List CV} (h:CObj X id g sz css rest) {k:Nat} (hk:k<css.length):rdN X id g (k * sz) sz=some css[k]:=by
 obtain⟨h1,h2⟩:=flat_drop h.len (List.getElem?_eq_getElem hk)
 rw[rdN_ob h.ob,if_pos (by simp only[List.length_append];omega)]
 simp only
 rw[List.drop_append,List.take_append_of_le_length (by rw[List.length_drop];omega),h1]

theorem CObj.putc {X:Hp} {id g sz:Nat} {css:List (List CV)} {rest:List CV} (h:CObj X id g sz css rest) {k:Nat} (hk:k<css.length) {cs:List CV} (hc:cs.length=sz) :
  putAt (css.flatten++rest) (k * sz) cs=(css.set k cs).flatten++rest∧k * sz+sz≤(css.flatten++rest).length:=by
 have hlen:=h.len
 clear h
 obtain⟨_,h2⟩:=flat_drop hlen (List.getElem?_eq_getElem hk)
 refine⟨?_,by simp only[List.length_append];omega⟩
 have e:css=css.take k++css[k] :: css.drop (k+1):=by rw[← List.drop_eq_getElem_cons hk,List.take_append_drop]
 have hA:(css.take k).flatten.length=k * sz:=by rw[flat_len (sz:=sz) (fun cs h=>hlen cs (List.mem_of_mem_take h)),List.length_take,Nat.min_eq_left (by omega)]
 have hx:=hlen css[k] (List.getElem_mem hk)
 have e1:css.flatten++rest=(css.take k).flatten++(css[k]++((css.drop (k+1)).flatten++rest)):=by
  have e2:css.flatten=(css.take k++css[k] :: css.drop (k+1)).flatten:=congrArg List.flatten e
  rw[e2];simp only[List.flatten_append,List.flatten_cons,List.append_assoc]
 rw[e1,put_mid hA (hc.trans hx.symm),List.set_eq_take_append_cons_drop,if_pos hk]
 simp

theorem set_leftC {α:Type} {L xs:List α} (h:L.length<xs.length) (a:α):(L++xs.drop L.length).set L.length a=(L++[a])++xs.drop (L.length+1):=by
 have e:(xs.drop L.length).set 0 a=a :: xs.drop (L.length+1):=by rw[List.drop_eq_getElem_cons h];rfl
 rw[List.set_append,if_neg (by omega),Nat.sub_self,e];simp

def leftC {α:Type} (p:α→Bool) (xs:List α) (i:Nat):List α:=(xs.take i).filter fun x=>!p x

theorem leftC_succ {α:Type} {p:α→Bool} {xs:List α} {i:Nat} (hi:i<xs.length):leftC p xs (i+1)=leftC p xs i++(if p xs[i]=true then [] else [xs[i]]):=by
 unfold leftC
 rw[List.take_succ_eq_append_getElem hi,List.filter_append]
 congr 1
 cases h:p xs[i]<;>simp[h]

structure Onl (id:Nat) (X Y:Hp):Prop where
 fr:Frm (fun j=>j≠id) X Y
 len:X.length≤Y.length

theorem Onl.refl (id:Nat) (X:Hp):Onl id X X:=⟨Frm.refl _ _,Nat.le_refl _⟩

theorem Onl.app {id:Nat} {X Y:Hp} (h:Onl id X Y) (L:Hp):Onl id X (Y++L):=⟨h.fr.trans (Frm.app _ _ _),by have:=h.len;simp only[List.length_append];omega⟩

theorem Onl.set {id:Nat} {X Y:Hp} (h:Onl id X Y) (o:Ob):Onl id X (Y.set id o):=⟨h.fr.trans (Frm.set _ _ (by simp)),by have:=h.len;simp;omega⟩

def DelRes (X:Hp) (id g sz:Nat) (ys:List (List CV)) (n:Nat) (r:IV×Hp):Prop:=∃ Z rest',r=(.c (.sl id g 0 ys.length),Z)∧Onl id X Z∧CObj Z id g sz ys rest'∧(ys.flatten++rest').length=n

theorem gc_innerG {X Z:Hp} {id g n:Nat} (hlt:id<X.length):gcRet X (.c (.sl id g 0 n)) Z=(.c (.sl id g 0 n),Z):=by
 unfold gcRet
 split
 ·rw[if_neg (by simp[flatV,flatC])]
  simp only
  rw[if_neg (by omega)]
 ·rfl

theorem indexPhiC {X:Hp} {id g:Nat} {css:List (List CV)} {rest:List CV} (h:CObj X id g 2 css rest) (hb:css.length≤BIG) {fid:Nat} {caps:List CV} (p:List CV→Bool)
  (hp:∀ cs∈css,∀ k:IV×Hp→Prop,CM fid (.agg cs :: caps.map .c) X k=k (.c (.b (p cs)),X)) (k:IV×Hp→Prop) :
  CM 83 [.c (.sl id g 0 css.length),.f fid caps] X k=k (.c (.i (findI p css)),X):=by
 refine det (cw83 ?_) k
 unfold vf83c
 simp
 refine wp_for CM_mono css.length (fun i s=>(∀ j (hj:j<i) (hx:j<css.length),p css[j]=false)∧s.h=X∧Env.get s.e 0=.c (.sl id g 0 css.length)∧Env.get s.e 1=.f fid caps∧Env.get s.e 7=.c (.i css.length)∧Env.get s.e 8=.c (.i i)) (by simp) ?_ ?_
 ·rintro i ⟨e,Y⟩ hi ⟨ht,rfl,h0,h1,h7,h8⟩
  simp only at h0 h1 h7 h8 h hp ⊢
  have hq:=h.at_ hi
  have hwr:=up1 hi hb
  have hpi:=hp _ (List.getElem_mem hi)
  unfold vf83b0
  cases hpx:p css[i] with
  | false =>
   simp[h0,h1,h7,h8,hq,hi,hwr,hpi,hpx]
   intro j hj hx
   by_cases e:j=i
   ·subst e;exact hpx
   ·exact ht j (by omega) hx
  | true =>
   simp[h0,h1,h7,h8,hq,hi,hwr,hpi,hpx,findI_some hi (fun j hj=>ht j hj (by omega)) hpx]
 ·rintro⟨e,Y⟩ ⟨ht,rfl,h0,h1,h7,h8⟩
  simp only at h0 h1 h7 h8 ⊢
  unfold vf83b0
  simp[h0,h1,h7,h8,findI_none (fun j hj=>ht j hj hj)]

theorem deletePhiC {X:Hp} {id g:Nat} {xs:List (List CV)} {rest:List CV} (h:CObj X id g 2 xs rest) (hb:xs.length≤BIG) {fid:Nat} {caps:List CV} (p:List CV→Bool)
  (hp:∀ Y,Onl id X Y→∀ cs∈xs,∀ k:IV×Hp→Prop,CM fid (.agg cs :: caps.map .c) Y k=k (.c (.b (p cs)),Y)) :
  CM 34 [.c (.sl id g 0 xs.length),.f fid caps] X (DelRes X id g 2 (leftC p xs xs.length) (xs.flatten++rest).length):=by
 generalize hN:(xs.flatten++rest).length=N
 refine cw34 ?_
 unfold vf34c
 have hlt:=rdOb_lt h.ob
 have hix:=fun k=>indexPhiC h hb (fid:=fid) (caps:=caps) p (hp X (Onl.refl _ _)) k
 have hlook:∀ i,i≤xs.length→(∀ j (hj:j<i) (hx:j<xs.length),p xs[j]=false)→leftC p xs i=xs.take i:=fun i hi hf=>by
  unfold leftC
  rw[List.filter_eq_self]
  intro x hx
  obtain⟨l,hl,rfl⟩:=List.mem_take_iff_getElem.1 hx
  rw[hf l (by omega) (by omega)];rfl
 cases hany:xs.any p with
 | false =>
  have hf:findI p xs=-1:=by
   cases hd:decide (0≤findI p xs) with
   | true=>rw[findI_nonneg.1 (of_decide_eq_true hd)]at hany;cases hany
   | false =>
    refine findI_none fun j hj=>?_
    rw[List.any_eq_false]at hany
    simpa using hany _ (List.getElem_mem hj)
  have hall:leftC p xs xs.length=xs:=by
   rw[hlook _ (Nat.le_refl _) fun j _ hx=>by
    rw[List.any_eq_false]at hany
    simpa using hany _ (List.getElem_mem hx),List.take_length]
  simp[hix,hf]
  rw[gc_innerG hlt]
  have hd:DelRes X id g 2 xs N (.c (.sl id g 0 xs.length),X):=⟨X,rest,rfl,Onl.refl _ _,h,hN⟩
  rw[hall]
  simpa using hd
 | true =>
  obtain⟨j,hj,hfj,hpj,hbf⟩:∃ j:Nat,∃ hj:j<xs.length,findI p xs=j∧p (xs[j]'hj)=true∧∀ i (hi:i<j),p (xs[i]'(by omega))=false:=by
   have h1:=findI_nonneg.2 hany
   unfold findI at h1 ⊢
   cases hf:xs.findIdx? p with
   | none=>rw[hf]at h1;exact absurd h1 (by decide)
   | some j =>
    rw[List.findIdx?_eq_some_iff_getElem]at hf
    obtain⟨hj,h2,h3⟩:=hf
    exact⟨j,hj,rfl,h2,fun i hi=>by simpa using h3 i hi⟩
  have hl0:leftC p xs (j+1)=xs.take j:=by
   rw[leftC_succ hj,if_pos hpj,List.append_nil,hlook j (by omega) fun l hl hx=>hbf l hl]
  have hmem:∀ n,∀ cs∈leftC p xs n,cs.length=2:=fun n cs hc=>by
   unfold leftC at hc
   exact h.len cs (List.mem_of_mem_take (List.mem_filter.1 hc).1)
  simp[hix,hfj,up1 hj hb,show ¬ ((j:Int)=-1) by omega]
  obtain⟨I,hI⟩:∃ I:Nat→St→Prop,∀ i st,I i st↔(Onl id X st.h∧CObj st.h id g 2 (leftC p xs (j+1+i)++xs.drop (leftC p xs (j+1+i)).length) rest∧(leftC p xs (j+1+i)).length<j+1+i∧Env.get st.e 0=.c (.sl id g 0 xs.length)∧Env.get st.e 1=.f fid caps∧Env.get st.e 5=.c (.i (leftC p xs (j+1+i)).length)∧Env.get st.e 6=.c (.i ((j+1+i:Nat):Int))):=⟨_,fun _ _=>Iff.rfl⟩
  refine wp_for CM_mono (xs.length - (j+1)) I ((hI _ _).2 ⟨Onl.refl _ _,?_,?_,?_⟩) ?_ ?_
  ·simp only[Nat.add_zero,hl0]
   rw[List.length_take,Nat.min_eq_left (by omega),List.take_append_drop];exact h
  ·simp only[Nat.add_zero,hl0,List.length_take];omega
  ·simp[hl0];omega
  ·rintro i ⟨e,Y⟩ hi hIs
   obtain⟨hB,hY,hlen,h0,h1,h5,h6⟩:=(hI _ _).1 hIs
   simp only at hB hY hlen h0 h1 h5 h6 ⊢
   obtain⟨n,hn⟩:∃ n,n=j+1+i:=⟨_,rfl⟩
   have hnl:n<xs.length:=by omega
   rw[← hn]at hY hlen h5 h6
   have hsu:=leftC_succ (p:=p) hnl
   have hme:=hmem n
   generalize hF:leftC p xs n=F at hY hlen h5 hsu hme
   have hFl:F.length<xs.length:=by omega
   have hlm:(F++xs.drop F.length).length=xs.length:=by simp;omega
   have hg:(F++xs.drop F.length)[n]'(by omega)=xs[n]:=by
    rw[List.getElem_append_right (by omega),List.getElem_drop]
    congr 1;omega
   have r1:=hY.at_ (k:=n) (by omega)
   rw[hg]at r1
   have hcl:=h.len _ (List.getElem_mem hnl)
   have hpn:=fun Y' hY'=>hp Y' hY' _ (List.getElem_mem hnl)
   obtain⟨cs,hcs⟩:∃ cs,xs[n]=cs:=⟨_,rfl⟩
   rw[hcs]at r1 hsu hcl hpn
   obtain⟨Y1,hY1⟩:∃ Y1,Y++[(⟨cs,0,true,2⟩:Ob)]=Y1:=⟨_,rfl⟩
   have hlY:=rdOb_lt hY.ob
   have hM1:CObj Y1 id g 2 (F++xs.drop F.length) rest:=by rw[← hY1];exact⟨rdOb_app _ hY.ob,hY.len⟩
   have hB1:Onl id X Y1:=by rw[← hY1];exact hB.app _
   have hlY1:=rdOb_lt hM1.ob
   have hnew:rdN Y1 Y.length 0 0 2=some cs:=by rw[← hY1,rdN_ob (o:=⟨cs,0,true,2⟩) (by simp)];simp[hcl,List.take_of_length_le]
   have en:j+1+(i+1)=n+1:=by omega
   have hp2:putAt [.i 0,.ns] 0 cs=cs:=by
    unfold putAt
    rw[List.drop_eq_nil_of_le (by simp;omega)];simp
   have hpY:=hpn Y1 hB1
   unfold vf34b0
   cases hpx:p cs with
   | true =>
    rw[if_pos hpx,List.append_nil]at hsu
    simp[h0,h1,h5,h6,hnl,idxOf,r1,hp2,hcl,hY1,hnew,hpY,hpx,up1 hnl hb]
    exact (hI _ _).2 ⟨hB1,by rw[en,hsu];exact hM1,by rw[en,hsu];omega,by simp[h0,h1,h5,en,hsu]⟩
   | false =>
    rw[if_neg (by simp[hpx])]at hsu
    obtain⟨w1,w2⟩:=hM1.putc (k:=F.length) (by omega) hcl
    rw[set_leftC hFl]at w1
    have hM1':=hM1.ob
    generalize hcc:(F++xs.drop F.length).flatten++rest=cc at w1 w2 hM1'
    simp[h0,h1,h5,h6,hnl,hFl,idxOf,r1,hp2,hcl,hY1,hnew,hpY,hpx,hM1',w1,w2,up1 hnl hb,up1 hFl hb]
    refine (hI _ _).2 ⟨hB1.set _,?_,by rw[en,hsu];simp;omega,by simp[en,hsu,h0,h1]⟩
    rw[en,hsu,show (F++[cs]).length=F.length+1 by simp]
    refine⟨?_,fun q hq=>?_⟩
    ·show rdOb (Y1.set id _) id g=_
     rw[rdOb_set_self hlY1];simp
    ·rcases List.mem_append.1 hq with hq | hq
     ·rcases List.mem_append.1 hq with hq | hq
      ·exact hme q hq
      ·simp at hq;rw[hq];exact hcl
     ·exact h.len q (List.mem_of_mem_drop hq)
  ·rintro⟨e,Y⟩ hIs
   obtain⟨hB,hY,hlen,h0,h1,h5,h6⟩:=(hI _ _).1 hIs
   simp only at hB hY hlen h0 h1 h5 h6 ⊢
   rw[show j+1+(xs.length - (j+1))=xs.length by omega]at hY hlen h5 h6
   have hme:=hmem xs.length
   generalize hF:leftC p xs xs.length=F at hY hlen h5 hme
   have hlY:=rdOb_lt hY.ob
   have hcl:F.flatten.length=F.length * 2:=flat_len hme
   have hdl:(xs.drop F.length).flatten.length=(xs.length - F.length) * 2:=by rw[flat_len (sz:=2) (fun cs h'=>h.len cs (List.mem_of_mem_drop h')),List.length_drop]
   have hxl:xs.flatten.length=xs.length * 2:=flat_len h.len
   obtain⟨zs,hzs⟩:∃ zs:List CV,(List.replicate (xs.length - F.length) [CV.i 0,CV.ns]).flatten=zs:=⟨_,rfl⟩
   have hzl:zs.length=(xs.length - F.length) * 2:=by rw[← hzs];simp
   have hYo:=hY.ob
   have hall:((F++xs.drop F.length).flatten++rest).length=xs.length * 2+rest.length:=by rw[List.flatten_append,List.length_append,List.length_append,hcl,hdl];omega
   have hput:putAt ((F++xs.drop F.length).flatten++rest) (F.length * 2) zs=F.flatten++(zs++rest):=by
    rw[List.flatten_append,List.append_assoc]
    exact put_mid hcl (by rw[hzl,hdl])
   have hle:F.length * 2+(xs.length - F.length) * 2≤((F++xs.drop F.length).flatten++rest).length:=by rw[hall];omega
   generalize hcs:(F++xs.drop F.length).flatten++rest=cs at hYo hput hle
   have hs1:doSlice Y 2 (.sl id g 0 xs.length) (some (.c (.i (F.length:Int)))) none=some (.c (.sl id g (F.length * 2) (xs.length - F.length))):=by
    simp[doSlice,hYo]<;>omega
   have hs2:doSlice (Y.set id ⟨F.flatten++(zs++rest),g,true,2⟩) 2 (.sl id g 0 xs.length) none (some (.c (.i (F.length:Int))))=some (.c (.sl id g 0 F.length)):=by
    simp[doSlice,rdOb_set_self hlY]<;>omega
   unfold vf34b0
   simp[h0,h1,h5,h6,hs1,hYo,hzs,hle,hput,hs2]
   rw[gc_innerG hlt]
   refine⟨_,zs++rest,rfl,hB.set _,⟨?_,hme⟩,?_⟩
   ·show rdOb (Y.set id _) id g=_
    rw[rdOb_set_self hlY];simp
   ·rw[← hN,List.length_append,List.length_append,List.length_append,hcl,hzl,hxl];omega

theorem indexInsC {X:Hp} {id g:Nat} {css:List (List CV)} {rest:List CV} (h:CObj X id g 5 css rest) (hb:css.length≤BIG) {fid:Nat} {caps:List CV} (p:List CV→Bool)
  (hp:∀ cs∈css,∀ k:IV×Hp→Prop,CM fid (.agg cs :: caps.map .c) X k=k (.c (.b (p cs)),X)) (k:IV×Hp→Prop) :
  CM 84 [.c (.sl id g 0 css.length),.f fid caps] X k=k (.c (.i (findI p css)),X):=by
 refine det (cw84 ?_) k
 unfold vf84c
 simp
 refine wp_for CM_mono css.length (fun i s=>(∀ j (hj:j<i) (hx:j<css.length),p css[j]=false)∧s.h=X∧Env.get s.e 0=.c (.sl id g 0 css.length)∧Env.get s.e 1=.f fid caps∧Env.get s.e 7=.c (.i css.length)∧Env.get s.e 8=.c (.i i)) (by simp) ?_ ?_
 ·rintro i ⟨e,Y⟩ hi ⟨ht,rfl,h0,h1,h7,h8⟩
  simp only at h0 h1 h7 h8 h hp ⊢
  have hq:=h.at_ hi
  have hwr:=up1 hi hb
  have hpi:=hp _ (List.getElem_mem hi)
  unfold vf84b0
  cases hpx:p css[i] with
  | false =>
   simp[h0,h1,h7,h8,hq,hi,hwr,hpi,hpx]
   intro j hj hx
   by_cases e:j=i
   ·subst e;exact hpx
   ·exact ht j (by omega) hx
  | true =>
   simp[h0,h1,h7,h8,hq,hi,hwr,hpi,hpx,findI_some hi (fun j hj=>ht j hj (by omega)) hpx]
 ·rintro⟨e,Y⟩ ⟨ht,rfl,h0,h1,h7,h8⟩
  simp only at h0 h1 h7 h8 ⊢
  unfold vf84b0
  simp[h0,h1,h7,h8,findI_none (fun j hj=>ht j hj hj)]

theorem deleteInsC {X:Hp} {id g:Nat} {xs:List (List CV)} {rest:List CV} (h:CObj X id g 5 xs rest) (hb:xs.length≤BIG) {fid:Nat} {caps:List CV} (p:List CV→Bool)
  (hp:∀ Y,Onl id X Y→∀ cs∈xs,∀ k:IV×Hp→Prop,CM fid (.agg cs :: caps.map .c) Y k=k (.c (.b (p cs)),Y)) :
  CM 36 [.c (.sl id g 0 xs.length),.f fid caps] X (DelRes X id g 5 (leftC p xs xs.length) (xs.flatten++rest).length):=by
 generalize hN:(xs.flatten++rest).length=N
 refine cw36 ?_
 unfold vf36c
 have hlt:=rdOb_lt h.ob
 have hix:=fun k=>indexInsC h hb (fid:=fid) (caps:=caps) p (hp X (Onl.refl _ _)) k
 have hlook:∀ i,i≤xs.length→(∀ j (hj:j<i) (hx:j<xs.length),p xs[j]=false)→leftC p xs i=xs.take i:=fun i hi hf=>by
  unfold leftC
  rw[List.filter_eq_self]
  intro x hx
  obtain⟨l,hl,rfl⟩:=List.mem_take_iff_getElem.1 hx
  rw[hf l (by omega) (by omega)];rfl
 cases hany:xs.any p with
 | false =>
  have hf:findI p xs=-1:=by
   cases hd:decide (0≤findI p xs) with
   | true=>rw[findI_nonneg.1 (of_decide_eq_true hd)]at hany;cases hany
   | false =>
    refine findI_none fun j hj=>?_
    rw[List.any_eq_false]at hany
    simpa using hany _ (List.getElem_mem hj)
  have hall:leftC p xs xs.length=xs:=by
   rw[hlook _ (Nat.le_refl _) fun j _ hx=>by
    rw[List.any_eq_false]at hany
    simpa using hany _ (List.getElem_mem hx),List.take_length]
  simp[hix,hf]
  rw[gc_innerG hlt]
  have hd:DelRes X id g 5 xs N (.c (.sl id g 0 xs.length),X):=⟨X,rest,rfl,Onl.refl _ _,h,hN⟩
  rw[hall]
  simpa using hd
 | true =>
  obtain⟨j,hj,hfj,hpj,hbf⟩:∃ j:Nat,∃ hj:j<xs.length,findI p xs=j∧p (xs[j]'hj)=true∧∀ i (hi:i<j),p (xs[i]'(by omega))=false:=by
   have h1:=findI_nonneg.2 hany
   unfold findI at h1 ⊢
   cases hf:xs.findIdx? p with
   | none=>rw[hf]at h1;exact absurd h1 (by decide)
   | some j =>
    rw[List.findIdx?_eq_some_iff_getElem]at hf
    obtain⟨hj,h2,h3⟩:=hf
    exact⟨j,hj,rfl,h2,fun i hi=>by simpa using h3 i hi⟩
  have hl0:leftC p xs (j+1)=xs.take j:=by
   rw[leftC_succ hj,if_pos hpj,List.append_nil,hlook j (by omega) fun l hl hx=>hbf l hl]
  have hmem:∀ n,∀ cs∈leftC p xs n,cs.length=5:=fun n cs hc=>by
   unfold leftC at hc
   exact h.len cs (List.mem_of_mem_take (List.mem_filter.1 hc).1)
  simp[hix,hfj,up1 hj hb,show ¬ ((j:Int)=-1) by omega]
  obtain⟨I,hI⟩:∃ I:Nat→St→Prop,∀ i st,I i st↔(Onl id X st.h∧CObj st.h id g 5 (leftC p xs (j+1+i)++xs.drop (leftC p xs (j+1+i)).length) rest∧(leftC p xs (j+1+i)).length<j+1+i∧Env.get st.e 0=.c (.sl id g 0 xs.length)∧Env.get st.e 1=.f fid caps∧Env.get st.e 5=.c (.i (leftC p xs (j+1+i)).length)∧Env.get st.e 6=.c (.i ((j+1+i:Nat):Int))):=⟨_,fun _ _=>Iff.rfl⟩
  refine wp_for CM_mono (xs.length - (j+1)) I ((hI _ _).2 ⟨Onl.refl _ _,?_,?_,?_⟩) ?_ ?_
  ·simp only[Nat.add_zero,hl0]
   rw[List.length_take,Nat.min_eq_left (by omega),List.take_append_drop];exact h
  ·simp only[Nat.add_zero,hl0,List.length_take];omega
  ·simp[hl0];omega
  ·rintro i ⟨e,Y⟩ hi hIs
   obtain⟨hB,hY,hlen,h0,h1,h5,h6⟩:=(hI _ _).1 hIs
   simp only at hB hY hlen h0 h1 h5 h6 ⊢
   obtain⟨n,hn⟩:∃ n,n=j+1+i:=⟨_,rfl⟩
   have hnl:n<xs.length:=by omega
   rw[← hn]at hY hlen h5 h6
   have hsu:=leftC_succ (p:=p) hnl
   have hme:=hmem n
   generalize hF:leftC p xs n=F at hY hlen h5 hsu hme
   have hFl:F.length<xs.length:=by omega
   have hlm:(F++xs.drop F.length).length=xs.length:=by simp;omega
   have hg:(F++xs.drop F.length)[n]'(by omega)=xs[n]:=by
    rw[List.getElem_append_right (by omega),List.getElem_drop]
    congr 1;omega
   have r1:=hY.at_ (k:=n) (by omega)
   rw[hg]at r1
   have hcl:=h.len _ (List.getElem_mem hnl)
   have hpn:=fun Y' hY'=>hp Y' hY' _ (List.getElem_mem hnl)
   obtain⟨cs,hcs⟩:∃ cs,xs[n]=cs:=⟨_,rfl⟩
   rw[hcs]at r1 hsu hcl hpn
   obtain⟨Y1,hY1⟩:∃ Y1,Y++[(⟨cs,0,true,5⟩:Ob)]=Y1:=⟨_,rfl⟩
   have hlY:=rdOb_lt hY.ob
   have hM1:CObj Y1 id g 5 (F++xs.drop F.length) rest:=by rw[← hY1];exact⟨rdOb_app _ hY.ob,hY.len⟩
   have hB1:Onl id X Y1:=by rw[← hY1];exact hB.app _
   have hlY1:=rdOb_lt hM1.ob
   have hnew:rdN Y1 Y.length 0 0 5=some cs:=by rw[← hY1,rdN_ob (o:=⟨cs,0,true,5⟩) (by simp)];simp[hcl,List.take_of_length_le]
   have en:j+1+(i+1)=n+1:=by omega
   have hp2:putAt [.i 0,.i 0,.i 0,.i 0,.i 0] 0 cs=cs:=by
    unfold putAt
    rw[List.drop_eq_nil_of_le (by simp;omega)];simp
   have hpY:=hpn Y1 hB1
   unfold vf36b0
   cases hpx:p cs with
   | true =>
    rw[if_pos hpx,List.append_nil]at hsu
    simp[h0,h1,h5,h6,hnl,idxOf,r1,hp2,hcl,hY1,hnew,hpY,hpx,up1 hnl hb]
    exact (hI _ _).2 ⟨hB1,by rw[en,hsu];exact hM1,by rw[en,hsu];omega,by simp[h0,h1,h5,en,hsu]⟩
   | false =>
    rw[if_neg (by simp[hpx])]at hsu
    obtain⟨w1,w2⟩:=hM1.putc (k:=F.length) (by omega) hcl
    rw[set_leftC hFl]at w1
    have hM1':=hM1.ob
    generalize hcc:(F++xs.drop F.length).flatten++rest=cc at w1 w2 hM1'
    simp[h0,h1,h5,h6,hnl,hFl,idxOf,r1,hp2,hcl,hY1,hnew,hpY,hpx,hM1',w1,w2,up1 hnl hb,up1 hFl hb]
    refine (hI _ _).2 ⟨hB1.set _,?_,by rw[en,hsu];simp;omega,by simp[en,hsu,h0,h1]⟩
    rw[en,hsu,show (F++[cs]).length=F.length+1 by simp]
    refine⟨?_,fun q hq=>?_⟩
    ·show rdOb (Y1.set id _) id g=_
     rw[rdOb_set_self hlY1];simp
    ·rcases List.mem_append.1 hq with hq | hq
     ·rcases List.mem_append.1 hq with hq | hq
      ·exact hme q hq
      ·simp at hq;rw[hq];exact hcl
     ·exact h.len q (List.mem_of_mem_drop hq)
  ·rintro⟨e,Y⟩ hIs
   obtain⟨hB,hY,hlen,h0,h1,h5,h6⟩:=(hI _ _).1 hIs
   simp only at hB hY hlen h0 h1 h5 h6 ⊢
   rw[show j+1+(xs.length - (j+1))=xs.length by omega]at hY hlen h5 h6
   have hme:=hmem xs.length
   generalize hF:leftC p xs xs.length=F at hY hlen h5 hme
   have hlY:=rdOb_lt hY.ob
   have hcl:F.flatten.length=F.length * 5:=flat_len hme
   have hdl:(xs.drop F.length).flatten.length=(xs.length - F.length) * 5:=by rw[flat_len (sz:=5) (fun cs h'=>h.len cs (List.mem_of_mem_drop h')),List.length_drop]
   have hxl:xs.flatten.length=xs.length * 5:=flat_len h.len
   obtain⟨zs,hzs⟩:∃ zs:List CV,(List.replicate (xs.length - F.length) [CV.i 0,CV.i 0,CV.i 0,CV.i 0,CV.i 0]).flatten=zs:=⟨_,rfl⟩
   have hzl:zs.length=(xs.length - F.length) * 5:=by rw[← hzs];simp
   have hYo:=hY.ob
   have hall:((F++xs.drop F.length).flatten++rest).length=xs.length * 5+rest.length:=by rw[List.flatten_append,List.length_append,List.length_append,hcl,hdl];omega
   have hput:putAt ((F++xs.drop F.length).flatten++rest) (F.length * 5) zs=F.flatten++(zs++rest):=by
    rw[List.flatten_append,List.append_assoc]
    exact put_mid hcl (by rw[hzl,hdl])
   have hle:F.length * 5+(xs.length - F.length) * 5≤((F++xs.drop F.length).flatten++rest).length:=by rw[hall];omega
   generalize hcs:(F++xs.drop F.length).flatten++rest=cs at hYo hput hle
   have hs1:doSlice Y 5 (.sl id g 0 xs.length) (some (.c (.i (F.length:Int)))) none=some (.c (.sl id g (F.length * 5) (xs.length - F.length))):=by
    simp[doSlice,hYo]<;>omega
   have hs2:doSlice (Y.set id ⟨F.flatten++(zs++rest),g,true,5⟩) 5 (.sl id g 0 xs.length) none (some (.c (.i (F.length:Int))))=some (.c (.sl id g 0 F.length)):=by
    simp[doSlice,rdOb_set_self hlY]<;>omega
   unfold vf36b0
   simp[h0,h1,h5,h6,hs1,hYo,hzs,hle,hput,hs2]
   rw[gc_innerG hlt]
   refine⟨_,zs++rest,rfl,hB.set _,⟨?_,hme⟩,?_⟩
   ·show rdOb (Y.set id _) id g=_
    rw[rdOb_set_self hlY];simp
   ·rw[← hN,List.length_append,List.length_append,List.length_append,hcl,hzl,hxl];omega
theorem p20 (a b x:CV):putAt [a,b] 0 [x]=[x,b]:=rfl

theorem p21 (a b x:CV):putAt [a,b] 1 [x]=[a,x]:=rfl

theorem p22 (a b x y:CV):putAt [a,b] 0 [x,y]=[x,y]:=rfl

theorem map_range_getD {α:Type} (xs:List α) (x0:α):(List.range xs.length).map (fun k=>xs.getD k x0)=xs:=by
 apply List.ext_getElem (by simp)
 intro i h1 h2
 simp[List.getD_eq_getElem?_getD,h2]

section

variable {α:Type} {P:Hp→List CV→α→(Nat→Prop)→Prop} {sz:Nat} {X Z:Hp} {id g:Nat} {cells:List CV} {xs:List α} {F:Nat→Prop} {Fs:Nat→Nat→Prop}

theorem FPc.cobj (h:FPc P sz X id g cells xs F Fs):CObj X id g sz ((List.range xs.length).map (chk cells sz)) (cells.drop (xs.length * sz)):=by
 obtain⟨m,h1,h2⟩:=h.len
 have hm:xs.length * sz≤m * sz:=Nat.mul_le_mul_right _ h2
 refine⟨?_,fun cs hc=>?_⟩
 ·rw[chks_flat _ _ _ (by omega),List.take_append_drop];exact h.ob
 ·obtain⟨k,hk,rfl⟩:=List.mem_map.1 hc
  exact chk_len (h.fit (List.mem_range.1 hk))

theorem FPc.thin (hP:Stab P) (h:FPc P sz X id g cells xs F Fs) {p:List CV→Bool} {q:α→Bool} (hq:∀ k (hk:k<xs.length),p (chk cells sz k)=q xs[k]) (hZ:Onl id X Z) {rest:List CV}
  (hc:CObj Z id g sz (leftC p ((List.range xs.length).map (chk cells sz)) ((List.range xs.length).map (chk cells sz)).length) rest)
  (hl:((leftC p ((List.range xs.length).map (chk cells sz)) ((List.range xs.length).map (chk cells sz)).length).flatten++rest).length=cells.length) :
  FRow P sz Z (.sl id g 0 (leftC p ((List.range xs.length).map (chk cells sz)) ((List.range xs.length).map (chk cells sz)).length).length) (xs.filter fun x=>!q x) F:=by
 obtain⟨ix,hix⟩:∃ ix,(List.range xs.length).filter (fun k=>!p (chk cells sz k))=ix:=⟨_,rfl⟩
 have hixl:∀ k∈ix,k<xs.length:=fun k hk=>by rw[← hix]at hk;exact List.mem_range.1 (List.mem_filter.1 hk).1
 have hnd:ix.Nodup:=by rw[← hix];exact List.nodup_range.filter _
 have e1:leftC p ((List.range xs.length).map (chk cells sz)) ((List.range xs.length).map (chk cells sz)).length=ix.map (chk cells sz):=by
  unfold leftC
  rw[List.take_length,List.filter_map,← hix];rfl
 rw[e1]at hc hl ⊢
 rw[List.length_map]
 rcases Nat.eq_zero_or_pos xs.length with h0 | h0
 ·have hx:xs=[]:=List.length_eq_zero_iff.1 h0
  subst hx
  have hi:ix=[]:=by rw[← hix];rfl
  subst hi
  have hlt:=rdOb_lt hc.ob
  refine .inr ⟨id,g,_,fun _ _=>False,rfl,⟨hc.ob,?_,h.own,fun k i hk=>absurd hk (by simp),fun j k i hj=>absurd hj (by simp),fun k hk=>absurd hk (by simp)⟩⟩
  obtain⟨m,h1,h2⟩:=h.len
  exact⟨m,by rw[hl];exact h1,by simp⟩
 ·have e2:xs.filter (fun x=>!q x)=ix.map (fun k=>xs.getD k xs[0]):=by
   have e3:=map_range_getD xs xs[0]
   have e4:((List.range xs.length).map (fun k=>xs.getD k xs[0])).filter (fun x=>!q x)=((List.range xs.length).filter (fun k=>!p (chk cells sz k))).map (fun k=>xs.getD k xs[0]):=by
    rw[List.filter_map]
    congr 1
    apply List.filter_congr
    intro k hk
    have hk:=List.mem_range.1 hk
    rw[hq k hk]
    simp[List.getD_eq_getElem?_getD,hk]
   rw[e3,hix]at e4
   exact e4
  have hlen:(xs.filter fun x=>!q x).length=ix.length:=by rw[e2,List.length_map]
  have hfm:∀ k (hk:k<ix.length),chk ((ix.map (chk cells sz)).flatten++rest) sz k=chk cells sz ix[k]:=fun k hk=>by
   have hm:∀ cs∈ix.map (chk cells sz),cs.length=sz:=hc.len
   have h2:=chunk hm (k:=k) (by simpa using hk)
   have hfit:k * sz+sz≤(ix.map (chk cells sz)).flatten.length:=by
    rw[flat_len hm,List.length_map,← Nat.succ_mul]
    exact Nat.mul_le_mul_right _ hk
   rw[chk_app hfit]
   unfold chk at h2 ⊢
   rw[h2];simp
  refine .inr ⟨id,g,_,fun k i=>∃ hk:k<ix.length,Fs ix[k] i,by rw[hlen],⟨hc.ob,?_,h.own,fun k i hk hi=>?_,fun j k i hj hk hjk h1 h2=>?_,fun k hk=>?_⟩⟩
  ·obtain⟨m,h1,h2⟩:=h.len
   refine⟨m,by rw[hl];exact h1,Nat.le_trans ?_ h2⟩
   exact List.length_filter_le _ _
  ·obtain⟨hk',hi⟩:=hi
   obtain⟨a,b,c⟩:=h.sub _ i (hixl _ (List.getElem_mem hk')) hi
   exact⟨a,b,Nat.lt_of_lt_of_le c hZ.len⟩
  ·obtain⟨hj',h1⟩:=h1
   obtain⟨hk',h2⟩:=h2
   refine h.dis _ _ i (hixl _ (List.getElem_mem hj')) (hixl _ (List.getElem_mem hk')) (fun e=>hjk ?_) h1 h2
   apply Classical.byContradiction
   intro hne
   rcases Nat.lt_or_gt_of_ne hne with hlt | hlt
   ·exact List.pairwise_iff_getElem.1 hnd _ _ hj' hk' hlt e
   ·exact List.pairwise_iff_getElem.1 hnd _ _ hk' hj' hlt e.symm
  ·have hk':k<ix.length:=by rw[← hlen];exact hk
   have hkl:=hixl _ (List.getElem_mem hk')
   rw[hfm k hk']
   have e5:(xs.filter fun x=>!q x)[k]=xs[ix[k]]:=by
    have:(xs.filter fun x=>!q x)[k]? = some xs[ix[k]]:=by
     rw[e2,List.getElem?_map,List.getElem?_eq_getElem hk']
     simp[List.getD_eq_getElem?_getD,hkl]
    rw[List.getElem?_eq_getElem hk]at this
    injection this
   rw[e5]
   have hel:=h.el _ hkl
   have e6:(fun i=>∃ hk:k<ix.length,Fs ix[k] i)=Fs ix[k]:=by
    funext i
    exact propext ⟨fun ⟨_,h⟩=>h,fun h=>⟨hk',h⟩⟩
   rw[e6]
   exact hP.st (hZ.fr.mono fun i hi=>(h.sub _ i hkl hi).2.1) hel

end

theorem Tree.phisH {S:Nat→Prop} {X:Hp} {v:CV} {bs:List BlkR} {b:Nat} (h:Tree S X v bs) (hb:b<bs.length) :
  ∃ id g cells z u,∃ Gz:Nat→Prop,idxOf 6 v (b:Int)=some (.p id g (b * 6))∧rdOb X id g=some ⟨cells,g,true,6⟩∧b * 6+6≤cells.length∧rdN X id g (b * 6) 6=some (z :: u :: trmC bs[b].term)∧rdC X id g (b * 6)=some z∧FRow phiF 2 X z bs[b].phis Gz∧(∀ j,Gz j→S j∧j<X.length∧j≠id)∧S id∧bs[b].phis.length≤BIG ∧
   ∀ Y ps z' (Gz':Nat→Prop),X.length≤Y.length→Frm (fun j=>S j∧¬ Gz j) X Y→FRow phiF 2 Y z' ps Gz'→(∀ j,Gz' j→Gz j∨(X.length≤j∧S j∧j<Y.length))→ps.length≤BIG →
    rdOb Y id g=some ⟨cells,g,true,6⟩∧Tree S (Y.set id ⟨putAt cells (b * 6) [z'],g,true,6⟩) v (bs.set b ⟨ps,bs[b].list,bs[b].term⟩):=by
 obtain⟨id,g,cells,Fs,z,u,Gz,Gu,rfl,hc,h1,h2,h3,h4,h5,h6,h7⟩:=h.at_ hb
 clear h
 have hsub:∀ j,Gz j→S j∧j<X.length∧j≠id:=fun j hj=>⟨(hc.sub b j hb (h4 j hj).1).1,(hc.sub b j hb (h4 j hj).1).2.2,(hc.sub b j hb (h4 j hj).1).2.1⟩
 have hlt:=hc.lt
 refine⟨id,g,cells,z,u,Gz,idx_sl hb,hc.ob,hc.fit hb,by rw[hc.nn hb,h1],?_,h2,hsub,hc.own,h6,fun Y ps z' Gz' hl hf hr hg hlb=>?_⟩
 ·have:=hc.c (k:=b) (j:=0) (by omega)
  rw[Nat.add_zero]at this
  rw[this,h1];rfl
 ·have hob:rdOb Y id g=some ⟨cells,g,true,6⟩:=hf.ob ⟨hc.own,fun h=>(hsub id h).2.2 rfl⟩ hc.ob
  refine⟨hob,?_⟩
  obtain⟨Y',hY'⟩:∃ Y',Y.set id ⟨putAt cells (b * 6) [z'],g,true,6⟩=Y':=⟨_,rfl⟩
  have hfs:∀ G:Nat→Prop,¬ G id→Frm G Y Y':=fun G hG=>by rw[← hY'];exact Frm.set Y _ hG
  have hl':Y'.length=Y.length:=by rw[← hY'];simp
  rw[hY']
  have:=(hc.put blkF_st hb (j:=0) (ys:=[z']) (x':=⟨ps,bs[b].list,bs[b].term⟩) (G':=fun i=>Fs b i∨(X.length≤i∧S i∧i<Y.length)) (Y:=Y') (by simp) (by rw[Nat.add_zero,← hY',rdOb_set_self (rdOb_lt hob)];simp)
   ((hf.mono fun j hj=>⟨hj.1,fun h=>hj.2.2 (h4 j h).1⟩).trans (hfs _ fun hn=>hn.2.1 rfl))
   (fun i hi=>by
    rcases hi with hi | hi
    ·have:=hc.sub b i hb hi
     exact⟨this.1,this.2.1,by omega,.inl hi⟩
    ·exact⟨hi.2.1,by omega,by omega,.inr hi.1⟩)
   (by
    rw[h1]
    refine⟨z',u,Gz',Gu,rfl,hr.fr phiF_st (hfs _ fun hn=>?_),(h3.fr insF_st (hf.mono fun j hj=>⟨(hc.sub b j hb (h5 j hj)).1,fun h=>(h4 j h).2 hj⟩)).fr insF_st (hfs _ fun hn=>(hc.sub b id hb (h5 id hn)).2.1 rfl),fun i hi=>?_,fun i hi=>.inl (h5 i hi),hlb,h7⟩
    ·rcases hg id hn with h | h
     ·exact (hsub id h).2.2 rfl
     ·omega
    ·rcases hg i hi with h | h
     ·exact⟨.inl (h4 i h).1,(h4 i h).2⟩
     ·exact⟨.inr h,fun hu=>by have:=(hc.sub b i hb (h5 i hu)).2.2;omega⟩)).row
  simpa using this

theorem Tree.listH {S:Nat→Prop} {X:Hp} {v:CV} {bs:List BlkR} {b:Nat} (h:Tree S X v bs) (hb:b<bs.length) :
  ∃ id g cells z u,∃ Gu:Nat→Prop,idxOf 6 v (b:Int)=some (.p id g (b * 6))∧rdOb X id g=some ⟨cells,g,true,6⟩∧b * 6+6≤cells.length∧rdN X id g (b * 6) 6=some (z :: u :: trmC bs[b].term)∧rdC X id g (b * 6+1)=some u∧FRow insF 5 X u bs[b].list Gu∧(∀ j,Gu j→S j∧j<X.length∧j≠id)∧S id∧bs[b].list.length≤BIG ∧
   ∀ Y ls u' (Gu':Nat→Prop),X.length≤Y.length→Frm (fun j=>S j∧¬ Gu j) X Y→FRow insF 5 Y u' ls Gu'→(∀ j,Gu' j→Gu j∨(X.length≤j∧S j∧j<Y.length))→ls.length≤BIG →
    rdOb Y id g=some ⟨cells,g,true,6⟩∧Tree S (Y.set id ⟨putAt cells (b * 6+1) [u'],g,true,6⟩) v (bs.set b ⟨bs[b].phis,ls,bs[b].term⟩):=by
 obtain⟨id,g,cells,Fs,z,u,Gz,Gu,rfl,hc,h1,h2,h3,h4,h5,h6,h7⟩:=h.at_ hb
 clear h
 have hsub:∀ j,Gu j→S j∧j<X.length∧j≠id:=fun j hj=>⟨(hc.sub b j hb (h5 j hj)).1,(hc.sub b j hb (h5 j hj)).2.2,(hc.sub b j hb (h5 j hj)).2.1⟩
 have hlt:=hc.lt
 refine⟨id,g,cells,z,u,Gu,idx_sl hb,hc.ob,hc.fit hb,by rw[hc.nn hb,h1],by rw[hc.c (by omega),h1];rfl,h3,hsub,hc.own,h7,fun Y ls u' Gu' hl hf hr hg hlb=>?_⟩
 have hob:rdOb Y id g=some ⟨cells,g,true,6⟩:=hf.ob ⟨hc.own,fun h=>(hsub id h).2.2 rfl⟩ hc.ob
 refine⟨hob,?_⟩
 obtain⟨Y',hY'⟩:∃ Y',Y.set id ⟨putAt cells (b * 6+1) [u'],g,true,6⟩=Y':=⟨_,rfl⟩
 have hfs:∀ G:Nat→Prop,¬ G id→Frm G Y Y':=fun G hG=>by rw[← hY'];exact Frm.set Y _ hG
 have hl':Y'.length=Y.length:=by rw[← hY'];simp
 rw[hY']
 have:=(hc.put blkF_st hb (j:=1) (ys:=[u']) (x':=⟨bs[b].phis,ls,bs[b].term⟩) (G':=fun i=>Fs b i∨(X.length≤i∧S i∧i<Y.length)) (Y:=Y') (by simp) (by rw[← hY',rdOb_set_self (rdOb_lt hob)];simp)
  ((hf.mono fun j hj=>⟨hj.1,fun h=>hj.2.2 (h5 j h)⟩).trans (hfs _ fun hn=>hn.2.1 rfl))
  (fun i hi=>by
   rcases hi with hi | hi
   ·have:=hc.sub b i hb hi
    exact⟨this.1,this.2.1,by omega,.inl hi⟩
   ·exact⟨hi.2.1,by omega,by omega,.inr hi.1⟩)
  (by
   rw[h1]
   refine⟨z,u',Gz,Gu',rfl,(h2.fr phiF_st (hf.mono fun j hj=>⟨(hc.sub b j hb (h4 j hj).1).1,fun h=>(h4 j hj).2 h⟩)).fr phiF_st (hfs _ fun hn=>(hc.sub b id hb (h4 id hn).1).2.1 rfl),hr.fr insF_st (hfs _ fun hn=>?_),fun i hi=>⟨.inl (h4 i hi).1,fun hu=>?_⟩,fun i hi=>?_,h6,hlb⟩
   ·rcases hg id hn with h | h
    ·exact (hsub id h).2.2 rfl
    ·omega
   ·rcases hg i hu with h | h
    ·exact (h4 i hi).2 h
    ·have:=(hc.sub b i hb (h4 i hi).1).2.2;omega
   ·rcases hg i hi with h | h
    ·exact .inl (h5 i h)
    ·exact .inr h)).row
 simpa using this
theorem IsL.getD {H:Hp} {v:CV} {xs:List Bool} (h:IsL H v xs) {k:Nat} (hk:k<xs.length):∃ id g off,idxOf 1 v (k:Int)=some (.p id g off)∧rdC H id g off=some (.b (xs.getD k false)):=by
 obtain⟨id,g,off,h1,h2⟩:=h.at_ hk
 exact⟨id,g,off,h1,by rw[h2,getD_at hk]⟩

theorem prune1 {Y:Hp} {a:Nat} {ul:CV} {us:List Bool} {d:Int} {w:CV} (h:rdOb Y a 0=some ⟨[ul],0,true,1⟩) (hus:IsL Y ul us) (hd:∃ k:Nat,d=k∧k<us.length) (K:IV×Hp→Prop) :
  CM 35 [.agg [.i d,w],.c (.p a 0 0)] Y K=K (.c (.b (!us.getD d.toNat false)),Y):=by
 obtain⟨k,rfl,hk⟩:=hd
 refine det (cw35 ?_) K
 unfold vf35c
 obtain⟨X1,hX1⟩:∃ X1,Y++[(⟨[.i (k:Int),w],0,true,2⟩:Ob)]=X1:=⟨_,rfl⟩
 have hp:Pre Y X1:=⟨_,hX1.symm⟩
 have h1:=hp.rdOb h
 have h2:rdOb X1 Y.length 0=some ⟨[.i (k:Int),w],0,true,2⟩:=by rw[← hX1];simp
 have hus1:IsL X1 ul us:=Sl.pre hp hus
 obtain⟨id,g,off,q1,q2⟩:=hus1.getD hk
 cases hb:us.getD k false<;>rw[hb]at q2<;>simp[hX1,rdC_ob h1,rdC_ob h2,q1,q2]<;>(rw[gcRet_flat hp rfl];simp at hb;simp[hb])

theorem prune2 {Y:Hp} {a:Nat} {ul:CV} {us:List Bool} {x:InsR} (h:rdOb Y a 0=some ⟨[ul],0,true,1⟩) (hus:IsL Y ul us) (hd:0≤insDefF x→∃ k:Nat,insDefF x=k∧k<us.length) (K:IV×Hp→Prop) :
  CM 37 [.agg [.i x.op,.i x.d,.i x.a,.i x.b,.i x.n],.c (.p a 0 0)] Y K=K (.c (.b (dropX us x)),Y):=by
 refine det (cw37 ?_) K
 unfold vf37c
 obtain⟨X1,hX1⟩:∃ X1,Y++[(⟨[.i x.op,.i x.d,.i x.a,.i x.b,.i x.n],0,true,5⟩:Ob)]=X1:=⟨_,rfl⟩
 have hp:Pre Y X1:=⟨_,hX1.symm⟩
 have h1:=hp.rdOb h
 have h2:rdOb X1 Y.length 0=some ⟨[.i x.op,.i x.d,.i x.a,.i x.b,.i x.n],0,true,5⟩:=by rw[← hX1];simp
 have hus1:IsL X1 ul us:=Sl.pre hp hus
 unfold dropX
 by_cases h0:0≤insDefF x
 ·obtain⟨k,hk1,hk2⟩:=hd h0
  obtain⟨id,g,off,q1,q2⟩:=hus1.getD hk2
  cases hb:us.getD k false with
  | true =>
   rw[hb]at q2
   simp[hX1,rdN_ob h2,implInsDef,hk1,rdC_ob h1,q1,q2]
   rw[gcRet_flat hp rfl]
   simp at hb
   simp[hb]
  | false =>
   rw[hb]at q2
   simp at hb
   cases h24:decide (x.op=24) with
   | true =>
    simp[hX1,rdN_ob h2,implInsDef,hk1,rdC_ob h1,q1,q2,rdC_ob h2,h24]
    rw[gcRet_flat hp rfl]
   | false =>
    cases h21:decide (x.op=21) with
    | true =>
     simp[hX1,rdN_ob h2,implInsDef,hk1,rdC_ob h1,q1,q2,rdC_ob h2,h24,h21]
     rw[gcRet_flat hp rfl]
    | false =>
     simp[hX1,rdN_ob h2,implInsDef,hk1,rdC_ob h1,q1,q2,rdC_ob h2,h24,h21,hb]
     rw[gcRet_flat hp rfl]
 ·simp[hX1,rdN_ob h2,implInsDef,h0]
  rw[gcRet_flat hp rfl]

theorem deletePhiN {X:Hp} {f:IV} (fid:Nat) (caps:List CV) (K:IV×Hp→Prop):CM 34 [.c .ns,.f fid caps] X K=K (.c .ns,X):=by
 refine det (cw34 ?_) K
 unfold vf34c
 have:=fun k=>indexPhi (H:=X) (v:=.ns) (xs:=[]) Row.ns (by simp) (fid:=fid) (caps:=caps) (fun _=>true) (fun i hi=>absurd hi (by simp)) k
 simp[this,findI]

theorem deleteInsN {X:Hp} {f:IV} (fid:Nat) (caps:List CV) (K:IV×Hp→Prop):CM 36 [.c .ns,.f fid caps] X K=K (.c .ns,X):=by
 refine det (cw36 ?_) K
 unfold vf36c
 have:=fun k=>indexIns (H:=X) (v:=.ns) (xs:=[]) Row.ns (by simp) (fid:=fid) (caps:=caps) (fun _=>true) (fun i hi=>absurd hi (by simp)) k
 simp[this,findI]

def ThinRes {α:Type} (P:Hp→List CV→α→(Nat→Prop)→Prop) (sz:Nat) (G:Nat→Prop) (X:Hp) (ys:List α) (r:IV×Hp):Prop:=
 ∃ w' Z,r=(.c w',Z)∧FRow P sz Z w' ys G∧Frm (fun j=>¬ G j) X Z∧X.length≤Z.length∧cellsOf (.c w')=some [w']

theorem thinPhis {X:Hp} {w:CV} {ps:List PhiR} {G:Nat→Prop} (h:FRow phiF 2 X w ps G) (hb:ps.length≤BIG) {fid:Nat} {caps:List CV} (q:Int→Bool)
  (hp:∀ Y,Frm (fun j=>¬ G j) X Y→X.length≤Y.length→∀ p∈ps,∀ z (k:IV×Hp→Prop),CM fid (.agg [.i p.d,z] :: caps.map .c) Y k=k (.c (.b (q p.d)),Y)) :
  CM 34 [.c w,.f fid caps] X (ThinRes phiF 2 G X (ps.filter fun p=>!q p.d)):=by
 rcases h with⟨rfl,rfl⟩ | ⟨id,g,cells,Fs,rfl,h⟩
 ·rw[deletePhiN (f:=.f fid caps)]
  exact⟨.ns,X,rfl,FRow.ns,Frm.refl _ _,Nat.le_refl _,rfl⟩
 ·have hc:=h.cobj
  obtain⟨p,hpd⟩:∃ p:List CV→Bool,p=fun cs=>match cs with
   | .i d :: _=>q d
   | _=>false:=⟨_,rfl⟩
  have hpq:∀ k (hk:k<ps.length),p (chk cells 2 k)=q ps[k].d:=fun k hk=>by
   obtain⟨z,e,_⟩:=h.el k hk
   rw[e,hpd]
  have hlen:((List.range ps.length).map (chk cells 2)).length=ps.length:=by simp
  have hd:=deletePhiC hc (by rw[hlen];exact hb) (fid:=fid) (caps:=caps) p (fun Y hY cs hcs k=>by
   obtain⟨i,hi,rfl⟩:=List.mem_map.1 hcs
   have hi:=List.mem_range.1 hi
   rw[hpq i hi]
   obtain⟨z,e,_⟩:=h.el i hi
   rw[e]
   exact hp Y (hY.fr.mono fun j hj e=>hj (e▸h.own)) hY.len _ (List.getElem_mem hi) z k)
  rw[hlen]at hd
  refine hd.mono ?_
  rintro _ ⟨Z,rest,rfl,hZ,hcZ,hl⟩
  have hl':((List.map (chk cells 2) (List.range ps.length)).flatten++cells.drop (ps.length * 2)).length=cells.length:=by
   obtain⟨m,h1,h2⟩:=h.len
   rw[chks_flat _ _ _ (by omega),List.take_append_drop]
  rw[hl']at hl
  have hth:=h.thin phiF_st (p:=p) (q:=fun x=>q x.d) hpq hZ (by rw[hlen];exact hcZ) (by rw[hlen];exact hl)
  rw[hlen]at hth
  exact⟨_,Z,rfl,hth,hZ.fr.mono fun j hj e=>hj (e▸h.own),hZ.len,rfl⟩

theorem thinIns {X:Hp} {w:CV} {ls:List InsR} {G:Nat→Prop} (h:FRow insF 5 X w ls G) (hb:ls.length≤BIG) {fid:Nat} {caps:List CV} (q:InsR→Bool)
  (hp:∀ Y,Frm (fun j=>¬ G j) X Y→X.length≤Y.length→∀ x∈ls,∀ (k:IV×Hp→Prop),CM fid (.agg [.i x.op,.i x.d,.i x.a,.i x.b,.i x.n] :: caps.map .c) Y k=k (.c (.b (q x)),Y)) :
  CM 36 [.c w,.f fid caps] X (ThinRes insF 5 G X (ls.filter fun x=>!q x)):=by
 rcases h with⟨rfl,rfl⟩ | ⟨id,g,cells,Fs,rfl,h⟩
 ·rw[deleteInsN (f:=.f fid caps)]
  exact⟨.ns,X,rfl,FRow.ns,Frm.refl _ _,Nat.le_refl _,rfl⟩
 ·have hc:=h.cobj
  obtain⟨p,hpd⟩:∃ p:List CV→Bool,p=fun cs=>match cs with
   | [.i a,.i b,.i c,.i d,.i e]=>q ⟨a,b,c,d,e⟩
   | _=>false:=⟨_,rfl⟩
  have hpq:∀ k (hk:k<ls.length),p (chk cells 5 k)=q ls[k]:=fun k hk=>by
   have e:chk cells 5 k=insC ls[k]:=h.el k hk
   rw[e,hpd];rfl
  have hlen:((List.range ls.length).map (chk cells 5)).length=ls.length:=by simp
  have hd:=deleteInsC hc (by rw[hlen];exact hb) (fid:=fid) (caps:=caps) p (fun Y hY cs hcs k=>by
   obtain⟨i,hi,rfl⟩:=List.mem_map.1 hcs
   have hi:=List.mem_range.1 hi
   rw[hpq i hi]
   have e:chk cells 5 i=insC ls[i]:=h.el i hi
   rw[e]
   exact hp Y (hY.fr.mono fun j hj e=>hj (e▸h.own)) hY.len _ (List.getElem_mem hi) k)
  rw[hlen]at hd
  refine hd.mono ?_
  rintro _ ⟨Z,rest,rfl,hZ,hcZ,hl⟩
  have hl':((List.map (chk cells 5) (List.range ls.length)).flatten++cells.drop (ls.length * 5)).length=cells.length:=by
   obtain⟨m,h1,h2⟩:=h.len
   rw[chks_flat _ _ _ (by omega),List.take_append_drop]
  rw[hl']at hl
  have hth:=h.thin insF_st (p:=p) (q:=q) hpq hZ (by rw[hlen];exact hcZ) (by rw[hlen];exact hl)
  rw[hlen]at hth
  exact⟨_,Z,rfl,hth,hZ.fr.mono fun j hj e=>hj (e▸h.own),hZ.len,rfl⟩
theorem drop_filter {us:List Bool} (ps:List PhiR):(ps.filter fun p=>!(fun d:Int=>!us.getD d.toNat false) p.d)=ps.filter fun p=>!dropP us p:=rfl

theorem IsL.frm {X Y:Hp} {v:CV} {us:List Bool} {G:Nat→Prop} (h:IsL X v us) (hv:∀ id g off n,v=.sl id g off n→G id) (hf:Frm G X Y):IsL Y v us:=by
 rcases h with⟨h1,h2,h3⟩ | ⟨id,g,off,o,h1,h2,h3⟩
 ·exact .inl ⟨h1,h2,h3⟩
 ·exact .inr ⟨id,g,off,o,h1,hf.ob (hv _ _ _ _ h1) h2,h3⟩

set_option maxRecDepth 100000 in
theorem implPrune {H:Hp} {v:CV} {f:FnR} (hv:Blocks H v f.blocks) (hb:f.blocks.length≤BIG):CM 10 [.agg [v,.i f.values]] H (FnRes H (prune0 f)):=by
 refine cw10 ?_
 unfold vf10c
 obtain⟨X1,hX1⟩:∃ X1,H++[(⟨[v,.i f.values],0,true,2⟩:Ob),⟨[.ns,.i 0],0,true,2⟩]=X1:=⟨_,rfl⟩
 have hp1:Pre H X1:=⟨_,hX1.symm⟩
 have l1:X1.length=H.length+2:=by rw[← hX1];simp
 have hB1:rdOb X1 H.length 0=some ⟨[v,.i f.values],0,true,2⟩:=by rw[← hX1];simp
 have hR1:rdOb X1 (H.length+1) 0=some ⟨[.ns,.i 0],0,true,2⟩:=by rw[← hX1];simp
 simp[hX1,rdN_ob hB1]
 refine (implClone (hv.pre hp1) hb).mono ?_
 rintro _ ⟨w,L1,rfl,hT⟩
 obtain⟨X2,hX2⟩:∃ X2,X1++L1=X2:=⟨_,rfl⟩
 rw[hX2]at hT ⊢
 have hp2:Pre X1 X2:=⟨_,hX2.symm⟩
 have l2:=hp2.le
 obtain⟨X3,hX3⟩:∃ X3,X2++[(⟨[w,.i f.values],0,true,2⟩:Ob)]=X3:=⟨_,rfl⟩
 have hp3:Pre X2 X3:=⟨_,hX3.symm⟩
 have l3:X3.length=X2.length+1:=by rw[← hX3];simp
 have hO3:rdOb X3 X2.length 0=some ⟨[w,.i f.values],0,true,2⟩:=by rw[← hX3];simp
 have hT3:Tree (fun j=>X1.length≤j∧j<X2.length) X3 w f.blocks:=hT.bound.fr blkF_st (Frm.pre hp3)
 have hB3:=hp3.rdOb (hp2.rdOb hB1)
 have hp13:=hp1.trans (hp2.trans hp3)
 have hv3:=hv.pre hp13
 obtain⟨ul,Lu,hul,hused⟩:=implUsed (f:=f) hv3 hb
 obtain⟨X4,hX4⟩:∃ X4,X3++Lu=X4:=⟨_,rfl⟩
 have hp4:Pre X3 X4:=⟨_,hX4.symm⟩
 have l4:=hp4.le
 have hU4:IsL X4 ul (used0 f):=by rw[← hX4];exact hul.isL
 obtain⟨Xz,hXz⟩:∃ Xz,X4++[(⟨[.ns],0,true,1⟩:Ob)]=Xz:=⟨_,rfl⟩
 have hpz:Pre X4 Xz:=⟨_,hXz.symm⟩
 have lz:Xz.length=X4.length+1:=by rw[← hXz];simp
 have hAz:rdOb Xz X4.length 0=some ⟨[.ns],0,true,1⟩:=by rw[← hXz];simp
 obtain⟨X5,hX5⟩:∃ X5,Xz.set X4.length (⟨[ul],0,true,1⟩:Ob)=X5:=⟨_,rfl⟩
 have hp5:Pre X4 X5:=by rw[← hX5];exact hpz.set (Nat.le_refl _) _
 have l5:X5.length=X4.length+1:=by rw[← hX5];simp[lz]
 have hA5:rdOb X5 X4.length 0=some ⟨[ul],0,true,1⟩:=by rw[← hX5,rdOb_set_self (rdOb_lt hAz)];simp
 have hp35:=hp4.trans hp5
 have hO5:=hp35.rdOb hO3
 have hB5:=hp35.rdOb hB3
 have hR5:=hp35.rdOb (hp3.rdOb (hp2.rdOb hR1))
 have hT5:=hT3.fr blkF_st (Frm.pre hp35)
 have hv5:=hv3.pre hp35
 have hcul:cellsOf (.c ul)=some [ul]:=by rcases hul with⟨rfl,_⟩ | ⟨rfl,_⟩<;>rfl
 by_cases hck:checkF f=0
 ·have hg:prune0 f=⟨f.blocks.map (pruneB (usedW f)),f.values⟩:=by unfold prune0;rw[if_pos hck]
  have hW:=well_iff.1 hck
  have hsh:=hW.sh
  have hu0:used0 f=usedW f:=by unfold used0;rw[if_pos hck]
  rw[hu0]at hU4
  have hun:(usedW f).length=f.values.toNat:=usedW_len f
  obtain⟨us,hus⟩:∃ us,usedW f=us:=⟨_,rfl⟩
  rw[hus]at hU4 hun hg
  have hlw:=FRow.lenOf hT5
  rcases hul with⟨rfl,_⟩ | ⟨rfl,_⟩
  all_goals
   simp[putAt,hX3,rdN_ob hB3,hused,hX4,hXz,hAz,hX5,implCheck hv5 hb,hck,rdN_ob hB5,rdC_ob hO5,hlw]
   obtain⟨ul,hA6,hU5,hUi⟩:∃ ul,rdOb X5 X4.length 0=some ⟨[ul],0,true,1⟩∧IsL X5 ul us∧∀ id g off n,ul=.sl id g off n→id=X3.length:=⟨_,hA5,Sl.pre hp5 hU4,fun id g off n e=>by cases e<;>rfl⟩
   obtain⟨I,hI⟩:∃ I:Nat→St→Prop,∀ i s,I i s↔(Tree (fun j=>X1.length≤j∧j<X2.length) s.h w ((f.blocks.take i).map (pruneB us)++f.blocks.drop i)∧Frm (fun j=>j<X5.length∧¬ (X1.length≤j∧j<X2.length)) X5 s.h∧X5.length≤s.h.length ∧
    Env.get s.e 2=.c (.p (H.length+1) 0 0)∧Env.get s.e 3=.c (.p X2.length 0 0)∧Env.get s.e 4=.c (.p X4.length 0 0)∧Env.get s.e 16=.c w∧Env.get s.e 17=.c (.i f.blocks.length)∧Env.get s.e 18=.c (.i i)):=⟨_,fun _ _=>Iff.rfl⟩
   refine wp_for CM_mono f.blocks.length I ((hI _ ⟨_,_⟩).2 ⟨by simpa using hT5,Frm.refl _ _,Nat.le_refl _,by simp⟩) ?_ ?_
   ·rintro i ⟨e,Y⟩ hi hIs
    obtain⟨hTY,hf,hlY,e2,e3,e4,e16,e17,e18⟩:=(hI _ _).1 hIs
    simp only at hTY hf hlY e2 e3 e4 e16 e17 e18 ⊢
    obtain⟨b,hbb⟩:∃ b,f.blocks[i]=b:=⟨_,rfl⟩
    have hbm:b∈f.blocks:=hbb▸List.getElem_mem hi
    rw[drop_mid hi,hbb]at hTY
    obtain⟨A,hA⟩:∃ A,(f.blocks.take i).map (pruneB us)=A:=⟨_,rfl⟩
    have hAl:A.length=i:=by rw[← hA];simp;omega
    have hAs:(f.blocks.take (i+1)).map (pruneB us)=A++[pruneB us b]:=by rw[List.take_succ_eq_append_getElem hi,List.map_append,hA,hbb];rfl
    rw[hA]at hTY
    have hil:i<(A++b :: f.blocks.drop (i+1)).length:=by simp;omega
    have hat:(A++b :: f.blocks.drop (i+1))[i]=b:=by subst hAl;exact mid_at _ _ _ hil
    obtain⟨id,g,cells,z,u,Gz,q1,q2,q3,q4,q5,q6,q7,q8,q9,q10⟩:=hTY.phisH hil
    rw[hat]at q4 q6 q9 q10
    simp only[trmC]at q4
    obtain⟨Y1,hY1⟩:∃ Y1,Y++[BOb z u b.term]=Y1:=⟨_,rfl⟩
    have hp1Y:Pre Y Y1:=⟨_,hY1.symm⟩
    have lY1:Y1.length=Y.length+1:=by rw[← hY1];simp
    have n1:rdOb Y1 Y.length 0=some (BOb z u b.term):=by rw[← hY1];simp
    have o1:rdOb Y1 X2.length 0=some ⟨[w,.i f.values],0,true,2⟩:=hp1Y.rdOb (hf.ob ⟨by omega,by omega⟩ hO5)
    have hpY:Frm (fun j=>j<X5.length∧¬ (X1.length≤j∧j<X2.length)) X5 Y1:=hf.trans (Frm.pre hp1Y)
    have hflag:∀ Z,Frm (fun j=>j<Y1.length∧¬ (X1.length≤j∧j<X2.length)) Y1 Z→rdOb Z X4.length 0=some ⟨[ul],0,true,1⟩∧IsL Z ul us:=by
     intro Z hZ
     have hXZ:Frm (fun j=>j<X5.length∧¬ (X1.length≤j∧j<X2.length)) X5 Z:=hpY.trans (hZ.mono fun j hj=>⟨by omega,hj.2⟩)
     exact⟨hXZ.ob ⟨by omega,by omega⟩ hA6,hU5.frm (fun id g off n e=>by have:=hUi id g off n e;omega) hXZ⟩
    have hsl:=shape_lens hsh hbm
    have hfz:FRow phiF 2 Y1 z b.phis Gz:=q6.fr phiF_st (Frm.pre hp1Y)
    have hthin:=thinPhis hfz q9 (fid:=35) (caps:=[.p X4.length 0 0]) (fun d=>!us.getD d.toNat false) (fun Z hZ hlZ p hp z' k=>by
     obtain⟨k1,k2⟩:=hflag Z (hZ.mono fun j hj hg=>hj.2 (q7 j hg).1)
     obtain⟨kd,hk1,hk2⟩:=val_nat (phi_vals (shape_phi hsh hbm hp)).1
     exact prune1 k1 k2 ⟨kd,hk1,by rw[hun];exact hk2⟩ k)
    unfold vf10b0
    simp[e2,e3,e4,e16,e17,e18,hi,q1,q4,putAt,hY1,n1,rdC_ob n1,o1,rdC_ob o1]
    refine hthin.mono ?_
    rw[drop_filter]
    rintro _ ⟨z',Z,rfl,hzr,hzf,hzl,_⟩
    have hzS:∀ G:Nat→Prop,(∀ j,G j→¬ Gz j)→Frm G Y Z:=fun G hG=>(Frm.pre hp1Y).trans (hzf.mono fun j hj=>hG j hj)
    obtain⟨c1,hT2⟩:=q10 Z _ z' Gz (by omega) (hzS _ fun j hj=>hj.2) hzr (fun j hj=>.inl hj) (Nat.le_trans (List.length_filter_le _ _) q9)
    obtain⟨Z1,hZ1⟩:∃ Z1,Z.set id ⟨putAt cells (i * 6) [z'],g,true,6⟩=Z1:=⟨_,rfl⟩
    rw[hZ1]at hT2
    have hz1f:Frm (fun j=>j≠id) Z Z1:=by rw[← hZ1];exact Frm.set _ _ (by simp)
    have lZ1:Z1.length=Z.length:=by rw[← hZ1];simp
    have oZ:rdOb Z X2.length 0=some ⟨[w,.i f.values],0,true,2⟩:=hzf.ob (fun hg=>by have:=(q7 _ hg).1;omega) o1
    have oZ1:rdOb Z1 X2.length 0=some ⟨[w,.i f.values],0,true,2⟩:=hz1f.ob (by omega) oZ
    have nZ:rdOb Z Y.length 0=some (BOb z u b.term):=hzf.ob (fun hg=>by have:=(q7 _ hg).2.1;omega) n1
    have nZ1:rdOb Z1 Y.length 0=some (BOb z u b.term):=hz1f.ob (by have:=rdOb_lt q2;omega) nZ
    have uZ1:rdC Z1 id g (i * 6+1)=some u:=by
     have h1:rdOb Z1 id g=some ⟨putAt cells (i * 6) [z'],g,true,6⟩:=by rw[← hZ1,rdOb_set_self (rdOb_lt c1)];simp
     rw[rdC_ob h1]
     simp only
     rw[putAt_get3 (by simp;omega),if_neg (by omega),if_neg (by simp)]
     rw[rdN_ob q2,if_pos q3]at q4
     injection q4 with q4
     have h2:((cells.drop (i * 6)).take 6)[1]? = some u:=by simp only at q4;rw[q4];rfl
     rw[List.getElem?_take,if_pos (by omega),List.getElem?_drop]at h2
     exact h2
    have hlen2:i<((A++b :: f.blocks.drop (i+1)).set i ⟨b.phis.filter (fun p=>!dropP us p),b.list,b.term⟩).length:=by rw[List.length_set];exact hil
    have hset:∀ x y:BlkR,(A++x :: f.blocks.drop (i+1)).set i y=A++y :: f.blocks.drop (i+1):=fun x y=>by subst hAl;exact mid_set _ _ _ _
    rw[hset]at hT2
    have hil2:i<(A++(⟨b.phis.filter (fun p=>!dropP us p),b.list,b.term⟩:BlkR) :: f.blocks.drop (i+1)).length:=by simp;omega
    have hat2:(A++(⟨b.phis.filter (fun p=>!dropP us p),b.list,b.term⟩:BlkR) :: f.blocks.drop (i+1))[i]=⟨b.phis.filter (fun p=>!dropP us p),b.list,b.term⟩:=by subst hAl;exact mid_at _ _ _ hil2
    obtain⟨id',g',cells',z2,u2,Gu,r1,r2,r3,r4,r5,r6,r7,r8,r9,r10⟩:=hT2.listH hil2
    have ei:id'=id∧g'=g:=by have e:=r1.symm.trans q1;injection e with e;injection e with e1 e2;exact⟨e1,e2⟩
    obtain⟨rfl,rfl⟩:=ei
    obtain rfl:u2=u:=by rw[uZ1]at r5;injection r5 with e;exact e.symm
    rw[hat2]at r6 r9 r10
    simp only at r6 r9 r10
    have hZ1f:Frm (fun j=>j<X5.length∧¬ (X1.length≤j∧j<X2.length)) X5 Z1:=(hpY.trans (hzf.mono fun j hj hg=>hj.2 (q7 j hg).1)).trans (hz1f.mono fun j hj e=>hj.2 (e▸q8))
    have hflag1:∀ W,Frm (fun j=>j<Z1.length∧¬ (X1.length≤j∧j<X2.length)) Z1 W→rdOb W X4.length 0=some ⟨[ul],0,true,1⟩∧IsL W ul us:=by
     intro W hW
     have hXW:Frm (fun j=>j<X5.length∧¬ (X1.length≤j∧j<X2.length)) X5 W:=hZ1f.trans (hW.mono fun j hj=>⟨by omega,hj.2⟩)
     exact⟨hXW.ob ⟨by omega,by omega⟩ hA6,hU5.frm (fun id g off n e=>by have:=hUi id g off n e;omega) hXW⟩
    have hthin2:=thinIns r6 r9 (fid:=37) (caps:=[.p X4.length 0 0]) (dropX us) (fun W hW hlW x hx k=>by
     obtain⟨k1,k2⟩:=hflag1 W (hW.mono fun j hj hg=>hj.2 (r7 j hg).1)
     refine prune2 k1 k2 (fun h0=>?_) k
     obtain⟨kd,hk1,hk2⟩:=ins_def (shape_ins hsh hbm hx) h0
     exact⟨kd,hk1,by rw[hun];exact hk2⟩)
    have hb6:i * 6+1≤cells.length:=by omega
    rcases hzr.form with rfl | ⟨zi,zg,zn,rfl⟩
    all_goals
     simp[q1,oZ,o1,c1,hb6,hZ1,oZ1,rdC_ob oZ1,nZ1,rdC_ob nZ1]
     refine hthin2.mono ?_
     rintro _ ⟨u',W,rfl,hur,huf,hul',_⟩
     obtain⟨d1,hT3'⟩:=r10 W _ u' Gu hul' (huf.mono fun j hj=>hj.2) hur (fun j hj=>.inl hj) (Nat.le_trans (List.length_filter_le _ _) r9)
     obtain⟨W1,hW1⟩:∃ W1,W.set id' ⟨putAt cells' (i * 6+1) [u'],g',true,6⟩=W1:=⟨_,rfl⟩
     rw[hW1]at hT3'
     have hb7:i * 6+1+1≤cells'.length:=by omega
     have oW:rdOb W X2.length 0=some ⟨[w,.i f.values],0,true,2⟩:=huf.ob (fun hg=>by have:=(r7 _ hg).1;omega) oZ1
     have hend:∀ e':Env,(Env.get e' 2=.c (.p (H.length+1) 0 0)∧Env.get e' 3=.c (.p X2.length 0 0)∧Env.get e' 4=.c (.p X4.length 0 0)∧Env.get e' 16=.c w∧Env.get e' 17=.c (.i f.blocks.length)∧Env.get e' 18=.c (.i (i+1:Nat)))→I (i+1) ⟨e',W1⟩:=by
      intro e' he
      refine (hI _ _).2 ⟨?_,?_,?_,he⟩
      ·rw[hset]at hT3'
       rw[hAs]
       simpa [pruneB] using hT3'
      ·refine hZ1f.trans ((huf.mono fun j hj hg=>hj.2 (r7 j hg).1).trans ?_)
       rw[← hW1]
       exact Frm.set _ _ (fun hn=>hn.2 r8)
      ·simp only
       rw[← hW1,List.length_set];omega
     rcases hur.form with rfl | ⟨wi,wg,wn,rfl⟩
     all_goals
      simp[q1,oW,oZ1,d1,hb7,hW1,up1 hi hb]
      refine hend _ ?_
      simp
   ·rintro⟨e,Y⟩ hIs
    obtain⟨hTY,hf,hlY,e2,e3,e4,e16,e17,e18⟩:=(hI _ _).1 hIs
    simp only at hTY hf hlY e2 e3 e4 e16 e17 e18 ⊢
    rw[List.take_length,List.drop_length,List.append_nil]at hTY
    have hOY:rdOb Y X2.length 0=some ⟨[w,.i f.values],0,true,2⟩:=hf.ob ⟨by omega,by omega⟩ hO5
    have hRY:rdOb Y (H.length+1) 0=some ⟨[.ns,.i 0],0,true,2⟩:=hf.ob ⟨by omega,by omega⟩ hR5
    obtain⟨Y2,hY2⟩:∃ Y2,Y.set (H.length+1) ⟨[w,.i f.values],0,true,2⟩=Y2:=⟨_,rfl⟩
    have hR2:rdOb Y2 (H.length+1) 0=some ⟨[w,.i f.values],0,true,2⟩:=by rw[← hY2,rdOb_set_self (rdOb_lt hRY)];simp
    have hpY:Pre H Y:=(hf.mono fun j (hj:j<H.length)=>⟨by omega,by omega⟩).cut (hp13.trans hp35)
    unfold vf10b0
    simp[e2,e3,e4,e16,e17,e18,rdN_ob hOY,hRY,putAt,hY2,rdN_ob hR2]
    rw[hg]
    refine FnRes.mk (H:=H) (g:=⟨f.blocks.map (pruneB us),f.values⟩) (S:=fun j=>X1.length≤j∧j<X2.length) ?_ ?_ (fun j hj=>by omega)
    ·rw[← hY2];exact hpY.set (by omega) _
    ·rw[← hY2];exact hTY.fr blkF_st (Frm.set _ _ (by omega))
 ·have hg:prune0 f=f:=by unfold prune0;rw[if_neg hck]
  obtain⟨X6,hX6⟩:∃ X6,X5.set (H.length+1) ⟨[w,.i f.values],0,true,2⟩=X6:=⟨_,rfl⟩
  have hR6:rdOb X6 (H.length+1) 0=some ⟨[w,.i f.values],0,true,2⟩:=by rw[← hX6,rdOb_set_self (rdOb_lt hR5)];simp
  rcases hul with⟨rfl,_⟩ | ⟨rfl,_⟩
  all_goals
   simp[putAt,hX3,rdN_ob hB3,hused,hX4,hXz,hAz,hX5,implCheck hv5 hb,hck,rdN_ob hB5,rdN_ob hO5,hR5,hX6,rdN_ob hR6,hg]
   refine FnRes.mk (H:=H) (g:=f) (S:=fun j=>X1.length≤j∧j<X2.length) ?_ ?_ (fun j hj=>by omega)
   ·rw[← hX6];exact (hp13.trans hp35).set (by omega) _
   ·rw[← hX6];exact hT5.fr blkF_st (Frm.set _ _ (by omega))
def RoundRes (H:Hp) (bs:List BlkR) (uid:Nat) (us:List Bool) (r:IV×Hp):Prop:=
 ∃ us' m Y,r=(.c (.b m),Y)∧Pre H Y∧rdOb Y uid 0=some (UsOb us')∧Rnd bs us us' m∧(m=false→∀ b∈bs,ClosedB us b)

theorem RoundRes.gc {H X Y:Hp} {bs:List BlkR} {uid:Nat} {us us':List Bool} {m:Bool} (hX:Pre H X) (ho:rdOb X uid 0=some (UsOb us)) (hY:Pre H Y) (hU:rdOb Y uid 0=some (UsOb us'))
  (hR:Rnd bs us us' m) (hc:m=false→∀ b∈bs,ClosedB us b):RoundRes H bs uid us (gcRet X (.c (.b m)) Y):=by
 unfold gcRet
 split
 ·rename_i h
  have hp:Pre X Y:=⟨Y.drop X.length,by have:=List.take_append_drop X.length Y;rw[h]at this;exact this.symm⟩
  have:=hp.rdOb ho
  rw[hU]at this
  refine⟨us',m,X,?_,hX,by rw[ho,← this],hR,hc⟩
  rw[if_pos (show flatV (.c (.b m))=true from rfl)]
 ·exact⟨us',m,Y,rfl,hY,hU,hR,hc⟩

set_option maxRecDepth 100000 in
theorem round_call {H X:Hp} {v:CV} {f:FnR} (hv:Blocks H v f.blocks) (hbb:f.blocks.length≤BIG) (hsh:shapeB f=true) (hp:Pre H X) {uid:Nat} (hu:H.length≤uid) {us:List Bool}
  (ho:rdOb X uid 0=some (UsOb us)) (hl:us.length=f.values.toNat) (hs:∀ j:Nat,us.getD j false=true→UsedP f.blocks j) :
  CM 93 [.agg [v,.i f.values],.c (.sl uid 0 0 us.length)] X (RoundRes H f.blocks uid us):=by
 refine cw93 ?_
 unfold vf93c
 have hlt:=rdOb_lt ho
 obtain⟨X1,hX1⟩:∃ X1,X++[(⟨[v,.i f.values],0,true,2⟩:Ob)]=X1:=⟨_,rfl⟩
 have hp1:Pre X X1:=⟨_,hX1.symm⟩
 have hB1:rdOb X1 X.length 0=some ⟨[v,.i f.values],0,true,2⟩:=by rw[← hX1];simp
 have hU1:=hp1.rdOb ho
 have hne:X.length≠uid:=by omega
 have hvl:=hv.lenOf
 simp[hX1]
 obtain⟨I,hI⟩:∃ I:Nat→St→Prop,∀ i st,I i st↔(∃ ui m,Pre H st.h∧rdOb st.h uid 0=some (UsOb ui)∧Rnd f.blocks us ui m∧(m=false→∀ b∈f.blocks.take i,ClosedB us b)∧rdOb st.h X.length 0=some ⟨[v,.i f.values],0,true,2⟩ ∧
   Env.get st.e 1=.c (.sl uid 0 0 us.length)∧Env.get st.e 2=.c (.p X.length 0 0)∧Env.get st.e 5=.c (.b m)∧Env.get st.e 6=.c (.i i)):=⟨_,fun _ _=>Iff.rfl⟩
 refine wp_for CM_mono f.blocks.length I ((hI _ _).2 ⟨us,false,hp.trans hp1,hU1,Rnd.refl hs,fun _=>by simp,hB1,by simp⟩) ?_ ?_
 ·rintro i ⟨e,Z⟩ hi hIs
  obtain⟨ui,m,hZ,hU,hR,hc,hBZ,e1,e2,e5,e6⟩:=(hI _ _).1 hIs
  simp only at hZ hU hBZ e1 e2 e5 e6 ⊢
  have hmem:f.blocks[i]∈f.blocks:=List.getElem_mem hi
  obtain⟨b,hb⟩:∃ b,f.blocks[i]=b:=⟨_,rfl⟩
  obtain⟨i0,g0,off0,w,u,q1,_,q2,qp,ql,qpl,qll,_,_⟩:=Blocks.get hv hi
  obtain⟨GZ,hGZ⟩:=id hZ
  have q2':=q2 GZ
  rw[← hGZ]at q2'
  rw[hb]at q2' qp ql qpl qll hmem
  obtain⟨t,ht⟩:∃ t,b.term=t:=⟨_,rfl⟩
  rw[ht]at q2'
  obtain⟨Z1,hZ1⟩:∃ Z1,Z++[(⟨[w,u,.i t.kind,.i t.a,.i t.to,.i t.els],0,true,6⟩:Ob)]=Z1:=⟨_,rfl⟩
  have hpZ1:Pre Z Z1:=⟨_,hZ1.symm⟩
  have h7:rdOb Z1 Z.length 0=some ⟨[w,u,.i t.kind,.i t.a,.i t.to,.i t.els],0,true,6⟩:=by rw[← hZ1];simp
  have hU1:=hpZ1.rdOb hU
  have hltZ:=rdOb_lt hU
  have hltB:=rdOb_lt hBZ
  have hne7:Z.length≠uid:=by omega
  have hpl:=qp.lenOf
  have hll:=ql.lenOf
  unfold vf93b3
  simp[e1,e2,e5,e6,rdC_ob hBZ,hvl,hi,q1,q2'.2.2.2.2.2.2.2.2.2.2,put66c,hZ1]
  obtain⟨J,hJ⟩:∃ J:Nat→St→Prop,∀ j st,J j st↔(∃ ui m,Pre H st.h∧rdOb st.h uid 0=some (UsOb ui)∧Rnd f.blocks us ui m∧(m=false→(∀ b∈f.blocks.take i,ClosedB us b)∧∀ x∈b.list.take j,InsOk us x)∧rdOb st.h X.length 0=some ⟨[v,.i f.values],0,true,2⟩∧rdOb st.h Z.length 0=some ⟨[w,u,.i t.kind,.i t.a,.i t.to,.i t.els],0,true,6⟩ ∧
      Env.get st.e 1=.c (.sl uid 0 0 us.length)∧Env.get st.e 2=.c (.p X.length 0 0)∧Env.get st.e 5=.c (.b m)∧Env.get st.e 6=.c (.i i)∧Env.get st.e 7=.c (.p Z.length 0 0)∧Env.get st.e 8=.c (.i j)):=⟨_,fun _ _=>Iff.rfl⟩
  refine wp_for CM_mono b.list.length J ((hJ _ _).2 ⟨ui,m,hZ.trans hpZ1,hU1,hR,fun h=>⟨hc h,by simp⟩,hpZ1.rdOb hBZ,h7,by simp[e1,e2,e5,e6]⟩) ?_ ?_
  ·rintro j ⟨e',W⟩ hj hJs
   obtain⟨ui,m,hW,hUW,hR,hc,hBW,h7W,e1,e2,e5,e6,e7,e8⟩:=(hJ _ _).1 hJs
   simp only at hW hUW hBW h7W e1 e2 e5 e6 e7 e8 ⊢
   obtain⟨id2,g2,off2,r1,_,r2,_⟩:=List5.get (List5.pre hW ql) hj
   have r2':=r2 []
   rw[List.append_nil]at r2'
   obtain⟨x,hx⟩:∃ x,b.list[j]=x:=⟨_,rfl⟩
   have hxm:x∈b.list:=hx▸List.getElem_mem hj
   have hxB:=shape_ins hsh hmem hxm
   rw[hx]at r2'
   have hul:ui.length=us.length:=hR.len
   obtain⟨uw,L,hw,hcall⟩:=specUses W x
   obtain⟨W2,hW2⟩:∃ W2,W++L=W2:=⟨_,rfl⟩
   have hwI:=hw.isI
   have hpW2:Pre W W2:=⟨_,hW2.symm⟩
   rw[hW2]at hwI
   have hU2:=hpW2.rdOb hUW
   have hvx:=uses_vals hsh hmem hxm
   have hua:=fun k=>specMark hU2 hwI (by rw[hul,hl];exact hvx) (Nat.le_trans (usesF_le x) (by simp[BIG])) k
   rw[hul]at hua
   obtain⟨W3,hW3⟩:∃ W3,W2.set uid (UsOb (markAll ui (usesF x)))=W3:=⟨_,rfl⟩
   have hU3:rdOb W3 uid 0=some (UsOb (markAll ui (usesF x))):=by rw[← hW3,rdOb_set_self (rdOb_lt hU2)];simp[UsOb]
   have hpH3:Pre H W3:=by rw[← hW3];exact (hW.trans hpW2).set hu _
   have hB3:rdOb W3 X.length 0=some ⟨[v,.i f.values],0,true,2⟩:=by rw[← hW3,rdOb_set_ne hne];exact hpW2.rdOb hBW
   have h73:rdOb W3 Z.length 0=some ⟨[w,u,.i t.kind,.i t.a,.i t.to,.i t.els],0,true,6⟩:=by rw[← hW3,rdOb_set_ne hne7];exact hpW2.rdOb h7W
   have hgo:(keepsF x.op=true∨(0≤insDefF x∧Us ui (insDefF x)))→Rnd f.blocks us (markAll ui (usesF x)) (m || moreF ui (usesF x)):=fun hk=>hR.mark (by rw[hl];exact hvx) (fun v hv=>by
    rcases hk with hk | ⟨hd,hk⟩
    ·exact .stay hmem hxm hk hv
    ·refine .make hmem hxm hd ?_ hv
     obtain⟨k,h1,_⟩:=ins_def hxB hd
     unfold Us at hk
     rw[h1,Int.toNat_natCast]at hk
     rw[h1];exact hR.snd k hk)
   have hcl:moreF ui (usesF x)=false→m=false→(∀ b∈f.blocks.take i,ClosedB us b)∧∀ x∈b.list.take (j+1),InsOk us x:=fun h1 h2=>by
    refine⟨(hc h2).1,all_take hj (hc h2).2 ?_⟩
    rw[hx,← hR.no h2];exact fun _=>moreF_no h1
   have hskip:¬ (keepsF x.op=true∨(0≤insDefF x∧Us ui (insDefF x)))→m=false→(∀ b∈f.blocks.take i,ClosedB us b)∧∀ x∈b.list.take (j+1),InsOk us x:=fun h1 h2=>by
    refine⟨(hc h2).1,all_take hj (hc h2).2 ?_⟩
    rw[hx,← hR.no h2];exact fun hk=>absurd hk h1
   have hfin:∀ (e'':Env),(keepsF x.op=true∨(0≤insDefF x∧Us ui (insDefF x)))→(Env.get e'' 1=.c (.sl uid 0 0 us.length)∧Env.get e'' 2=.c (.p X.length 0 0)∧Env.get e'' 5=.c (.b (m || moreF ui (usesF x)))∧Env.get e'' 6=.c (.i i)∧Env.get e'' 7=.c (.p Z.length 0 0)∧Env.get e'' 8=.c (.i (j+1:Nat)))→J (j+1) ⟨e'',W3⟩:=fun e'' hk he=>(hJ _ _).2 ⟨_,_,hpH3,hU3,hgo hk,fun hf=>by
     rw[Bool.or_eq_false_iff]at hf;exact hcl hf.2 hf.1,hB3,h73,he⟩
   unfold vf93b0
   cases h21:decide (x.op=21) with
   | true =>
    cases hmo:moreF ui (usesF x) <;>
    ·simp[e1,e2,e5,e6,e7,e8,hll,hj,rdC_ob h7W,r1,r2'.1,r2'.2.2.2.2.2,specInsDef,h21,hcall,hW2,hua,hmo,hW3,up1 hj qll]
     exact hfin _ (.inl (by unfold keepsF;rw[h21];simp)) (by rw[hmo];simp[e1,e2,e5,e6,e7])
   | false =>
    cases h22:decide (x.op=22) with
    | true =>
     cases hmo:moreF ui (usesF x) <;>
     ·simp[e1,e2,e5,e6,e7,e8,hll,hj,rdC_ob h7W,r1,r2'.1,r2'.2.2.2.2.2,specInsDef,h21,h22,hcall,hW2,hua,hmo,hW3,up1 hj qll]
      exact hfin _ (.inl (by unfold keepsF;rw[h22];simp)) (by rw[hmo];simp[e1,e2,e5,e6,e7])
    | false =>
     cases h23:decide (x.op=23) with
     | true =>
      cases hmo:moreF ui (usesF x) <;>
      ·simp[e1,e2,e5,e6,e7,e8,hll,hj,rdC_ob h7W,r1,r2'.1,r2'.2.2.2.2.2,specInsDef,h21,h22,h23,hcall,hW2,hua,hmo,hW3,up1 hj qll]
       exact hfin _ (.inl (by unfold keepsF;rw[h23];simp)) (by rw[hmo];simp[e1,e2,e5,e6,e7])
     | false =>
      by_cases hd:0≤insDefF x
      ·obtain⟨k,hk1,hk2⟩:=ins_def hxB hd
       have hrd:=rdU hUW (k:=k) (by omega)
       have hix:idxOf 1 (.sl uid 0 0 us.length) (k:Int)=some (.p uid 0 k):=idx1 (by omega)
       have hkp:keepsF x.op=false:=by unfold keepsF;rw[h21,h22,h23];rfl
       cases hb0:ui.getD k false with
       | true =>
        rw[hb0]at hrd
        have hus:Us ui (insDefF x):=by unfold Us;rw[hk1,Int.toNat_natCast];exact hb0
        cases hmo:moreF ui (usesF x) <;>
        ·simp[e1,e2,e5,e6,e7,e8,hll,hj,rdC_ob h7W,r1,r2'.1,r2'.2.2.2.2.2,specInsDef,h21,h22,h23,hk1,hix,hrd,hcall,hW2,hua,hmo,hW3,up1 hj qll]
         exact hfin _ (.inr ⟨hd,hus⟩) (by rw[hmo];simp[e1,e2,e5,e6,e7])
       | false =>
        rw[hb0]at hrd
        have hno:¬ (keepsF x.op=true∨(0≤insDefF x∧Us ui (insDefF x))):=fun h=>by
         rcases h with h | ⟨_,h⟩
         ·rw[hkp]at h;cases h
         ·unfold Us at h;rw[hk1,Int.toNat_natCast,hb0]at h;cases h
        simp[e1,e2,e5,e6,e7,e8,hll,hj,rdC_ob h7W,r1,r2'.1,r2'.2.2.2.2.2,specInsDef,h21,h22,h23,hk1,hix,hrd,up1 hj qll]
        exact (hJ _ _).2 ⟨ui,m,hW,hUW,hR,hskip hno,hBW,h7W,by simp[e1,e2,e5,e6,e7]⟩
      ·have hkp:keepsF x.op=false:=by unfold keepsF;rw[h21,h22,h23];rfl
       have hno:¬ (keepsF x.op=true∨(0≤insDefF x∧Us ui (insDefF x))):=fun h=>by
        rcases h with h | ⟨h,_⟩
        ·rw[hkp]at h;cases h
        ·exact hd h
       simp[e1,e2,e5,e6,e7,e8,hll,hj,rdC_ob h7W,r1,r2'.1,r2'.2.2.2.2.2,specInsDef,h21,h22,h23,hd,up1 hj qll]
       exact (hJ _ _).2 ⟨ui,m,hW,hUW,hR,hskip hno,hBW,h7W,by simp[e1,e2,e5,e6,e7]⟩
  ·rintro⟨e',W⟩ hJs
   obtain⟨ui,m,hW,hUW,hR,hc,hBW,h7W,e1,e2,e5,e6,e7,e8⟩:=(hJ _ _).1 hJs
   simp only at hW hUW hBW h7W e1 e2 e5 e6 e7 e8 ⊢
   rw[List.take_length]at hc
   unfold vf93b0
   simp[e1,e2,e5,e6,e7,e8,rdC_ob h7W,hll]
   obtain⟨A,hA⟩:∃ A:Nat→St→Prop,∀ j st,A j st↔(∃ ui m,Pre H st.h∧rdOb st.h uid 0=some (UsOb ui)∧Rnd f.blocks us ui m∧(m=false→((∀ b∈f.blocks.take i,ClosedB us b)∧(∀ x∈b.list,InsOk us x))∧∀ p∈b.phis.take j,PhiOk us p)∧rdOb st.h X.length 0=some ⟨[v,.i f.values],0,true,2⟩∧rdOb st.h Z.length 0=some ⟨[w,u,.i t.kind,.i t.a,.i t.to,.i t.els],0,true,6⟩ ∧
       Env.get st.e 1=.c (.sl uid 0 0 us.length)∧Env.get st.e 2=.c (.p X.length 0 0)∧Env.get st.e 5=.c (.b m)∧Env.get st.e 6=.c (.i i)∧Env.get st.e 7=.c (.p Z.length 0 0)∧Env.get st.e 11=.c (.i j)):=⟨_,fun _ _=>Iff.rfl⟩
   refine wp_for CM_mono b.phis.length A ((hA _ _).2 ⟨ui,m,hW,hUW,hR,fun h=>⟨hc h,by simp⟩,hBW,h7W,by simp[e1,e2,e5,e6,e7]⟩) ?_ ?_
   ·rintro j ⟨e',W⟩ hj hAs
    obtain⟨ui,m,hW,hUW,hR,hc,hBW,h7W,e1,e2,e5,e6,e7,e11⟩:=(hA _ _).1 hAs
    simp only at hW hUW hBW h7W e1 e2 e5 e6 e7 e11 ⊢
    obtain⟨id2,g2,off2,w2,r1,r2,_,qa,_⟩:=Phis.get (Phis.pre hW qp) hj
    obtain⟨ph,hph⟩:∃ ph,b.phis[j]=ph:=⟨_,rfl⟩
    have hpm:ph∈b.phis:=hph▸List.getElem_mem hj
    have hphB:=shape_phi hsh hmem hpm
    rw[hph]at r2 qa
    obtain⟨hvd,hal,harm⟩:=phi_vals hphB
    obtain⟨kd,hkd,hkn⟩:=val_nat hvd
    have hul:ui.length=us.length:=hR.len
    have hall:=qa.lenOf
    have hrd:=rdU hUW (k:=kd) (by omega)
    have hix:idxOf 1 (.sl uid 0 0 us.length) ph.d=some (.p uid 0 kd):=by rw[hkd];exact idx1 (by omega)
    unfold vf93b2
    simp[e1,e2,e5,e6,e7,e11,rdC_ob h7W,hpl,hj]
    cases hm:ui.getD kd false with
    | false =>
     rw[hm]at hrd
     obtain⟨K,hK⟩:∃ K:Nat→St→Prop,∀ k st,K k st↔(st.h=W∧Env.get st.e 1=.c (.sl uid 0 0 us.length)∧Env.get st.e 2=.c (.p X.length 0 0)∧Env.get st.e 5=.c (.b m)∧Env.get st.e 6=.c (.i i)∧Env.get st.e 7=.c (.p Z.length 0 0)∧Env.get st.e 11=.c (.i j)∧Env.get st.e 12=.c (.i 0)):=⟨_,fun _ _=>Iff.rfl⟩
     refine wp_for CM_mono 0 K ((hK _ _).2 ⟨rfl,by simp[e1,e2,e5,e6,e7,e11]⟩) (fun k st hk=>absurd hk (by omega)) ?_
     rintro⟨e2',U⟩ hKs
     obtain⟨hU,e1,e2,e5,e6,e7,e11,e12⟩:=(hK _ _).1 hKs
     simp only at hU e1 e2 e5 e6 e7 e11 e12 ⊢
     subst hU
     have hdone:m=false→((∀ b∈f.blocks.take i,ClosedB us b)∧(∀ x∈b.list,InsOk us x))∧∀ p∈b.phis.take (j+1),PhiOk us p:=fun hf=>by
      refine⟨(hc hf).1,all_take hj (hc hf).2 ?_⟩
      rw[hph]
      intro hd
      unfold Us at hd
      rw[hkd,Int.toNat_natCast,← hR.no hf,hm]at hd
      cases hd
     unfold vf93b1
     by_cases h0:0<ph.arms.length
     ·simp[e1,e2,e5,e6,e7,e11,e12,rdC_ob h7W,r1,r2.1,r2.2.1,hall,h0,hix,hrd,up1 hj qpl]
      exact (hA _ _).2 ⟨ui,m,hW,hUW,hR,hdone,hBW,h7W,by simp[e1,e2,e5,e6,e7]⟩
     ·simp[e1,e2,e5,e6,e7,e11,e12,rdC_ob h7W,r1,r2.1,r2.2.1,hall,h0,hix,hrd,up1 hj qpl]
      exact (hA _ _).2 ⟨ui,m,hW,hUW,hR,hdone,hBW,h7W,by simp[e1,e2,e5,e6,e7]⟩
    | true =>
     have hud:UsedP f.blocks ph.d:=by rw[hkd];exact hR.snd kd hm
     obtain⟨K,hK⟩:∃ K:Nat→St→Prop,∀ k st,K k st↔(∃ ui m,ui.getD kd false=true∧Pre H st.h∧rdOb st.h uid 0=some (UsOb ui)∧Rnd f.blocks us ui m∧(m=false→(((∀ b∈f.blocks.take i,ClosedB us b)∧(∀ x∈b.list,InsOk us x))∧∀ p∈b.phis.take j,PhiOk us p)∧∀ a∈ph.arms.take k,Us us a.v)∧rdOb st.h X.length 0=some ⟨[v,.i f.values],0,true,2⟩∧rdOb st.h Z.length 0=some ⟨[w,u,.i t.kind,.i t.a,.i t.to,.i t.els],0,true,6⟩ ∧
       Env.get st.e 1=.c (.sl uid 0 0 us.length)∧Env.get st.e 2=.c (.p X.length 0 0)∧Env.get st.e 5=.c (.b m)∧Env.get st.e 6=.c (.i i)∧Env.get st.e 7=.c (.p Z.length 0 0)∧Env.get st.e 11=.c (.i j)∧Env.get st.e 12=.c (.i k)):=⟨_,fun _ _=>Iff.rfl⟩
     refine wp_for CM_mono ph.arms.length K ((hK _ _).2 ⟨ui,m,hm,hW,hUW,hR,fun h=>⟨hc h,by simp⟩,hBW,h7W,by simp[e1,e2,e5,e6,e7,e11]⟩) ?_ ?_
     ·rintro k ⟨e2',U⟩ hk hKs
      obtain⟨uk,mk,hmk,hU,hUU,hRk,hck,hBU,h7U,e1,e2,e5,e6,e7,e11,e12⟩:=(hK _ _).1 hKs
      simp only at hU hUU hBU h7U e1 e2 e5 e6 e7 e11 e12 ⊢
      obtain⟨id2,g2,off2,w2,r1,r2,_,qa,_⟩:=Phis.get (Phis.pre hU qp) hj
      rw[hph]at r2 qa
      have hall:=qa.lenOf
      obtain⟨id3,g3,off3,m1,⟨m2,m3,m4⟩,m5,m6,m7⟩:=Arms.get qa hk
      obtain⟨a,ha⟩:∃ a,ph.arms[k]=a:=⟨_,rfl⟩
      have hamem:a∈ph.arms:=ha▸List.getElem_mem hk
      have hav:=(harm k hk).2
      rw[ha]at m2 m3 m4 hav
      have hukl:uk.length=us.length:=hRk.len
      have hrd:=rdU hUU (k:=kd) (by omega)
      rw[hmk]at hrd
      obtain⟨W2,hW2⟩:∃ W2,U++[(⟨[.i a.v],0,true,1⟩:Ob)]=W2:=⟨_,rfl⟩
      have hpW2:Pre U W2:=⟨_,hW2.symm⟩
      have hrow:IsI W2 (.sl U.length 0 0 1) [a.v]:=one_row (by rw[← hW2];simp)
      have hU2:=hpW2.rdOb hUU
      have hvals:Vals uk.length [a.v]:=fun v hv=>by
       simp at hv;subst hv
       obtain⟨c,h1,h2⟩:=val_nat hav
       exact⟨c,h1,by omega⟩
      have hua:=fun k=>specMark hU2 hrow hvals (by simp[BIG]) k
      rw[hukl]at hua
      have hRn:=hRk.mark (vs:=[a.v]) (by rw[← hukl];exact hvals) (fun v hv=>by simp at hv;rw[hv];exact .phi hmem hpm hud hamem)
      have hmk2:(markAll uk [a.v]).getD kd false=true:=by rw[markAll_get,hmk];rfl
      obtain⟨W3,hW3⟩:∃ W3,W2.set uid (UsOb (markAll uk [a.v]))=W3:=⟨_,rfl⟩
      have hU3:rdOb W3 uid 0=some (UsOb (markAll uk [a.v])):=by rw[← hW3,rdOb_set_self (rdOb_lt hU2)];simp[UsOb]
      have hB3:rdOb W3 X.length 0=some ⟨[v,.i f.values],0,true,2⟩:=by rw[← hW3,rdOb_set_ne hne];exact hpW2.rdOb hBU
      have h73:rdOb W3 Z.length 0=some ⟨[w,u,.i t.kind,.i t.a,.i t.to,.i t.els],0,true,6⟩:=by rw[← hW3,rdOb_set_ne hne7];exact hpW2.rdOb h7U
      have hpH3:Pre H W3:=by rw[← hW3];exact (hU.trans hpW2).set hu _
      have hcl:moreF uk [a.v]=false→mk=false→(((∀ b∈f.blocks.take i,ClosedB us b)∧(∀ x∈b.list,InsOk us x))∧∀ p∈b.phis.take j,PhiOk us p)∧∀ a∈ph.arms.take (k+1),Us us a.v:=fun h1 h2=>by
       refine⟨(hck h2).1,all_take (P:=fun a:ArmR=>Us us a.v) hk (hck h2).2 ?_⟩
       rw[ha,← hRk.no h2];exact moreF_no h1 _ (by simp)
      unfold vf93b1
      cases hmo:moreF uk [a.v] with
      | true =>
       rw[hmo,Bool.or_true]at hRn
       simp[e1,e2,e5,e6,e7,e11,e12,rdC_ob h7U,r1,r2.1,r2.2.1,hall,hk,hix,hrd,m1,m3,putL0,hW2,hua,hmo,hW3,up1 hk (show ph.arms.length≤BIG by simp only[BIG];omega)]
       exact (hK _ _).2 ⟨_,true,hmk2,hpH3,hU3,hRn,(fun h=>by cases h),hB3,h73,by simp[e1,e2,e6,e7,e11]⟩
      | false =>
       rw[hmo,Bool.or_false]at hRn
       simp[e1,e2,e5,e6,e7,e11,e12,rdC_ob h7U,r1,r2.1,r2.2.1,hall,hk,hix,hrd,m1,m3,putL0,hW2,hua,hmo,hW3,up1 hk (show ph.arms.length≤BIG by simp only[BIG];omega)]
       exact (hK _ _).2 ⟨_,mk,hmk2,hpH3,hU3,hRn,hcl hmo,hB3,h73,by simp[e1,e2,e5,e6,e7,e11]⟩
     ·rintro⟨e2',U⟩ hKs
      obtain⟨uk,mk,hmk,hU,hUU,hRk,hck,hBU,h7U,e1,e2,e5,e6,e7,e11,e12⟩:=(hK _ _).1 hKs
      simp only at hU hUU hBU h7U e1 e2 e5 e6 e7 e11 e12 ⊢
      rw[List.take_length]at hck
      obtain⟨id2,g2,off2,w2,r1,r2,_,qa,_⟩:=Phis.get (Phis.pre hU qp) hj
      rw[hph]at r2 qa
      have hall:=qa.lenOf
      unfold vf93b1
      simp[e1,e2,e5,e6,e7,e11,e12,rdC_ob h7U,r1,r2.1,r2.2.1,hall,up1 hj qpl]
      exact (hA _ _).2 ⟨uk,mk,hU,hUU,hRk,fun hf=>⟨(hck hf).1.1,all_take hj (hck hf).1.2 (by rw[hph];exact fun _=>(hck hf).2)⟩,hBU,h7U,by simp[e1,e2,e5,e6,e7]⟩
   ·rintro⟨e',W⟩ hAs
    obtain⟨ui,m,hW,hUW,hR,hc,hBW,h7W,e1,e2,e5,e6,e7,e11⟩:=(hA _ _).1 hAs
    simp only at hW hUW hBW h7W e1 e2 e5 e6 e7 e11 ⊢
    rw[List.take_length]at hc
    have hul:ui.length=us.length:=hR.len
    obtain⟨tw,L,hw,hcall⟩:=specTUses W t
    obtain⟨W2,hW2⟩:∃ W2,W++L=W2:=⟨_,rfl⟩
    have hwI:=hw.isI
    have hpW2:Pre W W2:=⟨_,hW2.symm⟩
    rw[hW2]at hwI
    have hU2:=hpW2.rdOb hUW
    have hvt:=tuses_vals hsh hmem
    rw[ht]at hvt
    have hua:=fun k=>specMark hU2 hwI (by rw[hul,hl];exact hvt) (Nat.le_trans (tusesF_le t) (by simp[BIG])) k
    rw[hul]at hua
    have hRn:=hR.mark (vs:=tusesF t) (by rw[hl];exact hvt) (fun v hv=>.term hmem (by rw[ht];exact hv))
    obtain⟨W3,hW3⟩:∃ W3,W2.set uid (UsOb (markAll ui (tusesF t)))=W3:=⟨_,rfl⟩
    have hU3:rdOb W3 uid 0=some (UsOb (markAll ui (tusesF t))):=by rw[← hW3,rdOb_set_self (rdOb_lt hU2)];simp[UsOb]
    have hB3:rdOb W3 X.length 0=some ⟨[v,.i f.values],0,true,2⟩:=by rw[← hW3,rdOb_set_ne hne];exact hpW2.rdOb hBW
    have hpH3:Pre H W3:=by rw[← hW3];exact (hW.trans hpW2).set hu _
    have hcl:(m || moreF ui (tusesF t))=false→∀ b∈f.blocks.take (i+1),ClosedB us b:=fun h=>by
     rw[Bool.or_eq_false_iff]at h
     refine all_take hi (hc h.1).1.1 ?_
     rw[hb]
     exact⟨by rw[ht,← hR.no h.1];exact moreF_no h.2,(hc h.1).2,(hc h.1).1.2⟩
    unfold vf93b2
    cases hmo:moreF ui (tusesF t) with
    | true =>
     rw[hmo,Bool.or_true]at hRn hcl
     simp[e1,e2,e5,e6,e7,e11,rdC_ob h7W,rdN_ob h7W,hpl,hcall,hW2,hua,hmo,hW3,up1 hi hbb]
     exact (hI _ _).2 ⟨_,true,hpH3,hU3,hRn,hcl,hB3,by simp[e1,e2]⟩
    | false =>
     rw[hmo,Bool.or_false]at hRn hcl
     simp[e1,e2,e5,e6,e7,e11,rdC_ob h7W,rdN_ob h7W,hpl,hcall,hW2,hua,hmo,hW3,up1 hi hbb]
     exact (hI _ _).2 ⟨_,m,hpH3,hU3,hRn,hcl,hB3,by simp[e1,e2,e5]⟩
 ·rintro⟨e,Z⟩ hIs
  obtain⟨ui,m,hZ,hU,hR,hc,hBZ,e1,e2,e5,e6⟩:=(hI _ _).1 hIs
  simp only at hZ hU hBZ e1 e2 e5 e6 ⊢
  rw[List.take_length]at hc
  unfold vf93b3
  simp[e1,e2,e5,e6,rdC_ob hBZ,hvl]
  exact RoundRes.gc hp ho hZ hU hR hc
set_option maxRecDepth 100000 in
theorem specUsedL {H:Hp} {v:CV} {f:FnR} (hv:Blocks H v f.blocks) (hb:f.blocks.length≤BIG) (hsh:shapeB f=true) (k:IV×Hp→Prop) :
  CM 44 [.agg [v,.i f.values]] H k=k (.c (.sl H.length 0 0 f.values.toNat),H++[⟨(usedW f).map .b,0,true,1⟩]):=by
 refine det (cw44 ?_) k
 unfold vf44c
 obtain⟨s1,s2,s3,s4⟩:=shape_len hsh
 obtain⟨X,hX⟩:∃ X,H++[(⟨[v,.i f.values],0,true,2⟩:Ob)]=X:=⟨_,rfl⟩
 have hp:Pre H X:=⟨_,hX.symm⟩
 have hB:rdOb X H.length 0=some ⟨[v,.i f.values],0,true,2⟩:=by rw[← hX];simp
 have hvX:=Blocks.pre hp hv
 have hm1:(0≤f.values∧f.values≤(LIM:Int))=True:=eq_true ⟨s3,by simp only[LIM];omega⟩
 obtain⟨X1,hX1⟩:∃ X1,X++[(⟨List.replicate f.values.toNat (.b false),0,true,1⟩:Ob)]=X1:=⟨_,rfl⟩
 have hp1:Pre X X1:=⟨_,hX1.symm⟩
 have hlX:X.length=H.length+1:=by rw[← hX];simp
 have hU1:rdOb X1 X.length 0=some (UsOb (List.replicate f.values.toNat false)):=by rw[← hX1];simp[UsOb]
 simp[hX,rdN_ob hB,rdC_ob hB,hm1,hX1]
 obtain⟨O,hO⟩:∃ O:Nat→St→Prop,∀ n st,O n st↔(∃ us,Pre X st.h∧rdOb st.h X.length 0=some (UsOb us)∧us.length=f.values.toNat∧(∀ j:Nat,us.getD j false=true→UsedP f.blocks j)∧cf us≤n ∧
   Env.get st.e 1=.c (.p H.length 0 0)∧Env.get st.e 3=.c (.sl X.length 0 0 f.values.toNat)):=⟨_,fun _ _=>Iff.rfl⟩
 refine wp_loop CM_mono O (k:=f.values.toNat) ((hO _ _).2 ⟨_,hp1,hU1,by simp,fun j hj=>?_,by rw[cf_reps];exact Nat.le_refl _,by simp⟩) ?_
 ·rw[List.getD_eq_getElem?_getD,List.getElem?_replicate]at hj
  split at hj<;>simp at hj
 ·rintro n ⟨e,Y⟩ hOs
  obtain⟨us,hY,hUY,hul,hs,hcf,e1,e3⟩:=(hO _ _).1 hOs
  simp only at hY hUY e1 e3 ⊢
  have hBY:=hY.rdOb hB
  have hrc:=round_call hvX hb hsh hY (Nat.le_refl _) hUY hul hs
  rw[hul]at hrc
  unfold vf44b0
  simp[e1,e3,rdN_ob hBY]
  refine hrc.mono ?_
  rintro _ ⟨u2,m2,Y2,rfl,hY2,hU2,hR2,hc2⟩
  have hlen:=hR2.len
  cases m2 with
  | true =>
   have:=hR2.yes rfl
   simp[e1,e3]
   exact⟨n - 1,by omega,(hO _ _).2 ⟨u2,hY2,hU2,by omega,hR2.snd,by omega,by simp[e1,e3]⟩⟩
  | false =>
   have hno:=hR2.no rfl
   have hfin:=used_done hul hs (hc2 rfl)
   rw[hno,hfin]at hU2
   simp[e1,e3]
   rw[gcRet_row (o:=UsOb (usedW f)) (hp.trans hY2) (by omega) hU2 rfl (by simp[UsOb,flatC])]
   simp[UsOb]
theorem l7Stays_call (H:Hp) (x:InsR) (k:IV×Hp→Prop):CM 45 [.agg [.i x.op,.i x.d,.i x.a,.i x.b,.i x.n]] H k=k (.c (.b (decide (x.op=22) || decide (x.op=23) || decide (x.op=21) || decide (x.op=24))),H):=by
 refine det (cw45 ?_) k
 unfold vf45c
 obtain⟨X1,hX1⟩:∃ X1,H++[(⟨[.i x.op,.i x.d,.i x.a,.i x.b,.i x.n],0,true,5⟩:Ob)]=X1:=⟨_,rfl⟩
 have hp:Pre H X1:=⟨_,hX1.symm⟩
 have h2:rdOb X1 H.length 0=some ⟨[.i x.op,.i x.d,.i x.a,.i x.b,.i x.n],0,true,5⟩:=by rw[← hX1];simp
 cases h22:decide (x.op=22) with
 | true=>simp[hX1,rdC_ob h2,h22];rw[gcRet_flat hp rfl]
 | false =>
  cases h23:decide (x.op=23) with
  | true=>simp[hX1,rdC_ob h2,h22,h23];rw[gcRet_flat hp rfl]
  | false =>
   cases h21:decide (x.op=21) with
   | true=>simp[hX1,rdC_ob h2,h22,h23,h21];rw[gcRet_flat hp rfl]
   | false =>
    cases h24:decide (x.op=24) with
    | true=>simp[hX1,rdC_ob h2,h22,h23,h21,h24];rw[gcRet_flat hp rfl]
    | false=>simp[hX1,rdC_ob h2,h22,h23,h21,h24];rw[gcRet_flat hp rfl]

structure PruneH (N o3 uid bf:Nat) (w v:CV) (m:Int) (us:List Bool) (B Y0 Y:Hp) (bs:List BlkR):Prop where
 tree:Tree (fun j=>N≤j∧j≠o3∧j≠uid) Y w bs
 out:rdOb Y o3 0=some ⟨[w,.i m],0,true,2⟩
 used:rdOb Y uid 0=some (KOb us)
 pre:Pre B Y
 bl:B.length≤N
 box:rdOb B bf 0=some ⟨[v,.i m],0,true,2⟩
 lo:Frm (fun j=>j<N) Y0 Y
 len:Y0.length≤Y.length

theorem PruneH.app {N o3 uid bf:Nat} {w v:CV} {m:Int} {us:List Bool} {B Y0 Y:Hp} {bs:List BlkR} (h:PruneH N o3 uid bf w v m us B Y0 Y bs) (L:Hp):PruneH N o3 uid bf w v m us B Y0 (Y++L) bs:=
 ⟨h.tree.fr blkF_st (Frm.app _ _ _),rdOb_app L h.out,rdOb_app L h.used,h.pre.app L,h.bl,h.box,h.lo.trans (Frm.app _ _ _),by have:=h.len;simp only[List.length_append];omega⟩

theorem PruneH.to {N o3 uid bf:Nat} {w v:CV} {m:Int} {us:List Bool} {B Y0 Y Z:Hp} {bs bs':List BlkR} (h:PruneH N o3 uid bf w v m us B Y0 Y bs) (hT:Tree (fun j=>N≤j∧j≠o3∧j≠uid) Z w bs') (hf:Frm (fun j=>¬ (N≤j∧j≠o3∧j≠uid)) Y Z) (hl:Y.length≤Z.length) :
  PruneH N o3 uid bf w v m us B Y0 Z bs':=
 ⟨hT,hf.ob (by omega) h.out,hf.ob (by omega) h.used,(hf.mono fun j (hj:j<B.length)=>by have:=h.bl;omega).cut h.pre,h.bl,h.box,h.lo.trans (hf.mono fun j hj=>by omega),Nat.le_trans h.len hl⟩

set_option maxRecDepth 100000 in
theorem prunePIn {N o3 uid bf b n id0 g0 off0:Nat} {w v wz:CV} {m:Int} {us:List Bool} {B Y0:Hp} {A D:List BlkR} {ps:List PhiR} {ls:List InsR} {t:TrmR} {e:Env} {Q:X×St→Prop} {x2:IV}
  (h0:PruneH N o3 uid bf w v m us B Y0 Y0 (A++⟨[],ls,t⟩ :: D)) (hA:A.length=b) (hun:us.length=n) (hN:N≤Y0.length) (hp:Phis B wz ps) (hb:ps.length≤BIG) (hix:idxOf 6 v (b:Int)=some (.p id0 g0 off0)) (hwz:rdC B id0 g0 off0=some wz) (hval:∀ p∈ps,∃ k:Nat,p.d=k∧k<n)
  (e1:Env.get e 1=.c (.p bf 0 0)) (e2:Env.get e 2=x2) (e3:Env.get e 3=.c (.p o3 0 0)) (e4:Env.get e 4=.c (.sl uid 0 0 n)) (e5:Env.get e 5=.c (.i b)) (e6:Env.get e 6=.c (.i 0))
  (hQ:∀ (Y:Hp) (e':Env),PruneH N o3 uid bf w v m us B Y0 Y (A++⟨ps.filter fun p=>!dropP us p,ls,t⟩ :: D) →
   Env.get e' 1=.c (.p bf 0 0)→Env.get e' 2=x2→Env.get e' 3=.c (.p o3 0 0)→Env.get e' 4=.c (.sl uid 0 0 n)→Env.get e' 5=.c (.i b)→Q (.exit 2,⟨e',Y⟩)) :
  loopD (exW CM [0,1,2,3,4,5,6,7,8,9,14,22,43,59,88,108] vf12b0) ⟨e,Y0⟩ Q:=by
 obtain⟨I,hI⟩:∃ I:Nat→St→Prop,∀ j s,I j s↔(PruneH N o3 uid bf w v m us B Y0 s.h (A++⟨(ps.take j).filter fun p=>!dropP us p,ls,t⟩ :: D) ∧
   Env.get s.e 1=.c (.p bf 0 0)∧Env.get s.e 2=x2∧Env.get s.e 3=.c (.p o3 0 0)∧Env.get s.e 4=.c (.sl uid 0 0 n)∧Env.get s.e 5=.c (.i b)∧Env.get s.e 6=.c (.i j)):=⟨_,fun _ _=>Iff.rfl⟩
 obtain⟨oz,hoz⟩:=rdOb_of_rdC hwz
 refine wp_for CM_mono ps.length I ((hI _ ⟨_,_⟩).2 ⟨h0,e1,e2,e3,e4,e5,e6⟩) ?_ ?_
 ·rintro j ⟨e0,Y⟩ hj hIs
  obtain⟨hH,f1,f2,f3,f4,f5,f6⟩:=(hI _ _).1 hIs
  simp only at hH f1 f2 f3 f4 f5 f6 ⊢
  have hwzY:=rdC_to hH.pre hwz
  have hBf:=hH.pre.rdOb hH.box
  have hpY:=Phis.pre hH.pre hp
  have hlz:=hpY.lenOf
  obtain⟨p,hpp⟩:∃ p,ps[j]=p:=⟨_,rfl⟩
  obtain⟨id2,g2,off2,wa,q1,q2,q3,qa,qb,_,_⟩:=Phis.get hpY hj
  rw[hpp]at q2 q3 qa qb
  obtain⟨kd,hkd,hkn⟩:=hval p (hpp▸List.getElem_mem hj)
  have hsu:(ps.take (j+1)).filter (fun p=>!dropP us p)=(ps.take j).filter (fun p=>!dropP us p)++if us.getD kd false=true then [p] else []:=by
   rw[List.take_succ_eq_append_getElem hj,List.filter_append,hpp]
   congr 1
   cases hu:us.getD kd false<;>(simp at hu;simp[dropP,hkd,hu])
  obtain⟨Y1,hY1⟩:∃ Y1,Y++[(⟨[.i p.d,wa],0,true,2⟩:Ob)]=Y1:=⟨_,rfl⟩
  have hp1:Pre Y Y1:=⟨_,hY1.symm⟩
  have l1:Y1.length=Y.length+1:=by rw[← hY1];simp
  have n1:rdOb Y1 Y.length 0=some ⟨[.i p.d,wa],0,true,2⟩:=by rw[← hY1];simp
  have hH1:PruneH N o3 uid bf w v m us B Y0 Y1 (A++⟨(ps.take j).filter fun p=>!dropP us p,ls,t⟩ :: D):=by rw[← hY1];exact hH.app _
  obtain⟨i1,c1⟩:=rd_bool hH1.used hun hkn
  have hlo:=rdOb_lt hH.out
  have hlu:=rdOb_lt hH.used
  have hNY:N≤Y.length:=Nat.le_trans hN hH.len
  unfold vf12b0
  cases hu:us.getD kd false with
  | false =>
   rw[hu]at c1
   rw[hkd]at n1 hY1 q2
   simp[f1,f2,f3,f4,f5,f6,rdC_ob hBf,hix,hwzY,hlz,hj,q1,q2.2.2,putAt,hY1,rdC_ob n1,i1,c1,up1 hj hb]
   refine (hI _ ⟨_,_⟩).2 ⟨?_,by simp⟩
   rw[hsu,hu]
   simpa using hH1
  | true =>
   rw[hu]at c1
   have hbl:b<(A++(⟨(ps.take j).filter fun p=>!dropP us p,ls,t⟩:BlkR) :: D).length:=by simp;omega
   have hat:(A++(⟨(ps.take j).filter fun p=>!dropP us p,ls,t⟩:BlkR) :: D)[b]=⟨(ps.take j).filter fun p=>!dropP us p,ls,t⟩:=by subst hA;exact mid_at _ _ _ hbl
   obtain⟨id,g,cells,z,u,Gz,r1,r2,r3,r4,r5,r6,r7,r8,r9,r10⟩:=hH1.tree.phisH hbl
   rw[hat]at r6 r9 r10
   simp only at r6 r9 r10
   have o1:=hH1.out
   have hset:∀ x y:BlkR,(A++x :: D).set b y=A++y :: D:=fun x y=>by subst hA;exact mid_set _ _ _ _
   obtain⟨Y2,hY2⟩:∃ Y2,Y1++[(⟨[],0,true,2⟩:Ob)]=Y2:=⟨_,rfl⟩
   have hp2:Pre Y1 Y2:=⟨_,hY2.symm⟩
   have l2:Y2.length=Y1.length+1:=by rw[← hY2];simp
   have n2:=hp2.rdOb n1
   have o2:=hp2.rdOb o1
   have b2:=hp2.rdOb r2
   have m2:rdOb Y2 Y1.length 0=some ⟨[],0,true,2⟩:=by rw[← hY2];simp
   have hsrcA:=arms_srcF (Arms.pre (hp1.trans hp2) qa)
   obtain⟨ga,hga⟩:=fillApp (n:=p.arms.length) m2 (flat_map_len armC_len p.arms) (by omega) (big_lim qb (by omega))
   obtain⟨Y3,hY3⟩:∃ Y3,Y2.set Y1.length ⟨(p.arms.map armC).flatten,ga,true,2⟩=Y3:=⟨_,rfl⟩
   have l3:Y3.length=Y2.length:=by rw[← hY3];simp
   have hf23:∀ G:Nat→Prop,¬ G Y1.length→Frm G Y2 Y3:=fun G hG=>by rw[← hY3];exact Frm.set _ _ hG
   have hid:=rdOb_lt r2
   have n3:rdOb Y3 Y.length 0=some ⟨[.i p.d,wa],0,true,2⟩:=(hf23 (fun i=>i=Y.length) (by omega)).ob rfl n2
   have o3':rdOb Y3 o3 0=some ⟨[w,.i m],0,true,2⟩:=(hf23 (fun i=>i=o3) (by omega)).ob rfl o2
   have b3:rdOb Y3 id g=some ⟨cells,g,true,6⟩:=(hf23 (fun i=>i=id) (by omega)).ob rfl b2
   have m3:rdOb Y3 Y1.length ga=some ⟨(p.arms.map armC).flatten,ga,true,2⟩:=by rw[← hY3,rdOb_set_self (rdOb_lt m2)];simp
   have har:FRow armF 2 Y3 (.sl Y1.length ga 0 p.arms.length) p.arms (fun i=>i=Y1.length):=FRow.leaf armC_len (fun _ _ _=>rfl) m3 rfl
   obtain⟨Y4,hY4⟩:∃ Y4,Y3++[(⟨[.i p.d,.sl Y1.length ga 0 p.arms.length],0,true,2⟩:Ob)]=Y4:=⟨_,rfl⟩
   have hp4:Pre Y3 Y4:=⟨_,hY4.symm⟩
   have l4:Y4.length=Y3.length+1:=by rw[← hY4];simp
   have n4:rdOb Y4 Y3.length 0=some ⟨[.i p.d,.sl Y1.length ga 0 p.arms.length],0,true,2⟩:=by rw[← hY4];simp
   have o4:=hp4.rdOb o3'
   have b4:=hp4.rdOb b3
   have hsrc:srcOf Y4 2 (.sl Y3.length 0 0 1)=some (1,[.i p.d,.sl Y1.length ga 0 p.arms.length]):=by simp[srcOf,n4]
   have h14:∀ G:Nat→Prop,¬ G Y1.length→Frm G Y1 Y4:=fun G hG=>(Frm.pre hp2).trans ((hf23 G hG).trans (Frm.pre hp4))
   have hR4:=r6.fr phiF_st (h14 _ (fun hg=>by have:=(r7 _ hg).2.1;omega))
   have hcl:((ps.take j).filter fun p=>!dropP us p).length≤j:=Nat.le_trans (List.length_filter_le _ _) (by rw[List.length_take];omega)
   obtain⟨iz,gz,Y5,happ,hR5,hf5,l5⟩:=hR4.snoc phiF_st (by omega) (by omega) (by omega) (cs:=[.i p.d,.sl Y1.length ga 0 p.arms.length]) (x:=p) (G:=fun i=>i=Y1.length) rfl
    (fun Z hZ=>⟨_,rfl,har.fr armF_st ((Frm.pre hp4).trans hZ),qb⟩) (fun i hi=>⟨fun hg=>by have:=(r7 _ hg).2.1;omega,by omega⟩)
   obtain⟨zz,hzz⟩:∃ zz,CV.sl iz gz 0 (((ps.take j).filter fun p=>!dropP us p).length+1)=zz:=⟨_,rfl⟩
   rw[hzz]at happ hR5
   obtain⟨s1,s2⟩:=r10 Y5 _ zz _ (by omega) (((h14 (fun i=>i<Y1.length) (by omega)).monoL fun i hi _=>hi).trans (hf5.mono fun j hj=>hj.2)) hR5 (fun i hi=>by
    rcases hi with hi | hi | hi
    ·exact .inl hi
    ·exact .inr ⟨by omega,by omega,by omega⟩
    ·exact .inr ⟨by omega,by omega,by omega⟩) (by simp;omega)
   obtain⟨Y6,hY6⟩:∃ Y6,Y5.set id ⟨putAt cells (b * 6) [zz],g,true,6⟩=Y6:=⟨_,rfl⟩
   rw[hY6,hset]at s2
   have hcc:cellsOf (.c zz)=some [zz]:=by rw[← hzz];rfl
   have l6:Y6.length=Y5.length:=by rw[← hY6];simp
   have hb6:b * 6+1≤cells.length:=by omega
   have o5:rdOb Y5 o3 0=some ⟨[w,.i m],0,true,2⟩:=hf5.ob (fun hg=>by have:=(r7 _ hg).1;omega) o4
   have z4:∀ W,rdOb W id g=some ⟨cells,g,true,6⟩→rdC W id g (b * 6)=some z:=fun W hW=>by rw[rdC_ob hW,← rdC_ob r2];exact r5
   have hfin:PruneH N o3 uid bf w v m us B Y0 Y6 (A++⟨((ps.take j).filter fun p=>!dropP us p)++[p],ls,t⟩ :: D):=by
    refine hH1.to s2 ?_ (by omega)
    refine ((h14 (fun i=>i<Y1.length) (by omega)).monoL fun i hi _=>hi).trans ((hf5.mono fun i hi hg=>hi (r7 _ hg).1).trans ?_)
    rw[← hY6]
    exact Frm.set _ _ (fun hn=>hn r8)
   have z1:=z4 _ r2
   rw[hu]at hsu
   have i1':=i1
   rw[hkd]at n1 n2 n3 hY1 hY4 q2 hsrc happ
   subst hzz
   simp[f1,f2,f3,f4,f5,f6,rdC_ob hBf,hix,hwzY,hlz,hj,q1,q2.2.2,p20,p21,p22,hY1,rdC_ob n1,i1,c1,o1,rdC_ob o1,r1,z1,r2,n1,hY2,n2,rdC_ob n2,o2,b2,hsrcA,hga,hY3,o3',b3,n3,hY4,hsrc,happ,o4,b4,o5,s1,hb6,hY6,up1 hj hb]
   refine (hI _ ⟨_,_⟩).2 ⟨?_,by simp⟩
   rw[hsu]
   simpa using hfin
 ·rintro⟨e0,Y⟩ hIs
  obtain⟨hH,f1,f2,f3,f4,f5,f6⟩:=(hI _ _).1 hIs
  simp only at hH f1 f2 f3 f4 f5 f6 ⊢
  have hwzY:=rdC_to hH.pre hwz
  have hBf:=hH.pre.rdOb hH.box
  have hlz:=(Phis.pre hH.pre hp).lenOf
  rw[List.take_length]at hH
  unfold vf12b0
  simp[f1,f2,f3,f4,f5,f6,rdC_ob hBf,hix,hwzY,hlz]
  exact hQ Y _ hH (by simp) (by simp) (by simp) (by simp) (by simp)
theorem keep_stay {us:List Bool} {x:InsR} (h:(decide (x.op=22) || decide (x.op=23) || decide (x.op=21) || decide (x.op=24))=true):dropX us x=false:=by
 unfold dropX
 simp only[Bool.or_eq_true,decide_eq_true_eq]at h
 rcases h with ((h | h) | h) | h
 ·have:insDefF x=-1:=by unfold insDefF;rw[h];rfl
  rw[this];rfl
 ·have:insDefF x=-1:=by unfold insDefF;rw[h];rfl
  rw[this];rfl
 ·rw[h];simp
 ·rw[h];simp

theorem keep_else {us:List Bool} {x:InsR} {m:Int} (hx:insB x m=true) (h:(decide (x.op=22) || decide (x.op=23) || decide (x.op=21) || decide (x.op=24))=false):∃ k:Nat,insDefF x=k∧k<m.toNat∧dropX us x=!us.getD k false:=by
 simp only[Bool.or_eq_false_iff,decide_eq_false_iff_not]at h
 obtain⟨⟨⟨h1,h2⟩,h3⟩,h4⟩:=h
 have hm:makesF x.op=true:=by
  unfold makesF
  rcases ins_kinds hx with hw | ⟨hw,e | e | e | e | e | e⟩
  ·rw[hw];rfl
  ·rw[e];rfl
  ·exact absurd e h3
  ·exact absurd e h1
  ·exact absurd e h2
  ·exact absurd e h4
  ·rw[e];rfl
 have hd:insDefF x=x.d:=by unfold insDefF;rw[if_pos hm]
 obtain⟨k,hk1,hk2⟩:=val_nat (makes_val hx hm)
 refine⟨k,by rw[hd,hk1],hk2,?_⟩
 unfold dropX
 rw[hd,hk1]
 have e3:decide (x.op=21)=false:=decide_eq_false h3
 have e4:decide (x.op=24)=false:=decide_eq_false h4
 rw[e3,e4]
 simp

set_option maxRecDepth 100000 in
theorem pruneLIn {N o3 uid bf b n id0 g0 off0:Nat} {w v wu:CV} {m:Int} {us:List Bool} {B Y0:Hp} {A D:List BlkR} {ps:List PhiR} {ls:List InsR} {t:TrmR} {e:Env} {Q:X×St→Prop} {x2:IV}
  (h0:PruneH N o3 uid bf w v m us B Y0 Y0 (A++⟨ps,[],t⟩ :: D)) (hA:A.length=b) (hun:us.length=n) (hN:N≤Y0.length) (hp:List5 B wu ls) (hb:ls.length≤BIG) (hix:idxOf 6 v (b:Int)=some (.p id0 g0 off0)) (hwu:rdC B id0 g0 (off0+1)=some wu) (hm:n=m.toNat) (hval:∀ x∈ls,insB x m=true)
  (e1:Env.get e 1=.c (.p bf 0 0)) (e2:Env.get e 2=x2) (e3:Env.get e 3=.c (.p o3 0 0)) (e4:Env.get e 4=.c (.sl uid 0 0 n)) (e5:Env.get e 5=.c (.i b)) (e8:Env.get e 8=.c (.i 0))
  (hQ:∀ (Y:Hp) (e':Env),PruneH N o3 uid bf w v m us B Y0 Y (A++⟨ps,ls.filter fun x=>!dropX us x,t⟩ :: D) →
   Env.get e' 1=.c (.p bf 0 0)→Env.get e' 2=x2→Env.get e' 3=.c (.p o3 0 0)→Env.get e' 4=.c (.sl uid 0 0 n)→Env.get e' 5=.c (.i b)→Q (.exit 4,⟨e',Y⟩)) :
  loopD (exW CM [0,1,2,3,4,5,6,7,8,9,14,22,43,59,88,108] vf12b1) ⟨e,Y0⟩ Q:=by
 obtain⟨I,hI⟩:∃ I:Nat→St→Prop,∀ j s,I j s↔(PruneH N o3 uid bf w v m us B Y0 s.h (A++⟨ps,(ls.take j).filter fun x=>!dropX us x,t⟩ :: D) ∧
   Env.get s.e 1=.c (.p bf 0 0)∧Env.get s.e 2=x2∧Env.get s.e 3=.c (.p o3 0 0)∧Env.get s.e 4=.c (.sl uid 0 0 n)∧Env.get s.e 5=.c (.i b)∧Env.get s.e 8=.c (.i j)):=⟨_,fun _ _=>Iff.rfl⟩
 obtain⟨oz,hoz⟩:=rdOb_of_rdC hwu
 refine wp_for CM_mono ls.length I ((hI _ ⟨_,_⟩).2 ⟨h0,e1,e2,e3,e4,e5,e8⟩) ?_ ?_
 ·rintro j ⟨e0,Y⟩ hj hIs
  obtain⟨hH,f1,f2,f3,f4,f5,f8⟩:=(hI _ _).1 hIs
  simp only at hH f1 f2 f3 f4 f5 f8 ⊢
  have hwuY:=rdC_to hH.pre hwu
  have hBf:=hH.pre.rdOb hH.box
  have hpY:=List5.pre hH.pre hp
  have hlz:=hpY.lenOf
  obtain⟨x,hx⟩:∃ x,ls[j]=x:=⟨_,rfl⟩
  obtain⟨id2,g2,off2,q1,q2,q3,_,_⟩:=List5.get hpY hj
  rw[hx]at q2 q3
  have hxB:=hval x (hx▸List.getElem_mem hj)
  have hsu:(ls.take (j+1)).filter (fun p=>!dropX us p)=(ls.take j).filter (fun p=>!dropX us p)++if dropX us x=true then [] else [x]:=by
   rw[List.take_succ_eq_append_getElem hj,List.filter_append,hx]
   congr 1
   cases hu:dropX us x<;>simp[hu]
  obtain⟨Y1,hY1⟩:∃ Y1,Y++[(⟨[.i x.op,.i x.d,.i x.a,.i x.b,.i x.n],0,true,5⟩:Ob)]=Y1:=⟨_,rfl⟩
  have hp1:Pre Y Y1:=⟨_,hY1.symm⟩
  have l1:Y1.length=Y.length+1:=by rw[← hY1];simp
  have n1:rdOb Y1 Y.length 0=some ⟨[.i x.op,.i x.d,.i x.a,.i x.b,.i x.n],0,true,5⟩:=by rw[← hY1];simp
  have hH1:PruneH N o3 uid bf w v m us B Y0 Y1 (A++⟨ps,(ls.take j).filter fun x=>!dropX us x,t⟩ :: D):=by rw[← hY1];exact hH.app _
  have hNY:N≤Y.length:=Nat.le_trans hN hH.len
  have hlo:=rdOb_lt hH.out
  have hlu:=rdOb_lt hH.used
  have hbl:b<(A++(⟨ps,(ls.take j).filter fun x=>!dropX us x,t⟩:BlkR) :: D).length:=by simp;omega
  have hat:(A++(⟨ps,(ls.take j).filter fun x=>!dropX us x,t⟩:BlkR) :: D)[b]=⟨ps,(ls.take j).filter fun x=>!dropX us x,t⟩:=by subst hA;exact mid_at _ _ _ hbl
  obtain⟨id,g,cells,z,u,Gu,r1,r2,r3,r4,r5,r6,r7,r8,r9,r10⟩:=hH1.tree.listH hbl
  rw[hat]at r6 r9 r10
  simp only at r6 r9 r10
  have o1:=hH1.out
  have hset:∀ x y:BlkR,(A++x :: D).set b y=A++y :: D:=fun x y=>by subst hA;exact mid_set _ _ _ _
  obtain⟨Y4,hY4⟩:∃ Y4,Y1++[(⟨[.i x.op,.i x.d,.i x.a,.i x.b,.i x.n],0,true,5⟩:Ob)]=Y4:=⟨_,rfl⟩
  have hp4:Pre Y1 Y4:=⟨_,hY4.symm⟩
  have l4:Y4.length=Y1.length+1:=by rw[← hY4];simp
  have n4:rdOb Y4 Y1.length 0=some ⟨[.i x.op,.i x.d,.i x.a,.i x.b,.i x.n],0,true,5⟩:=by rw[← hY4];simp
  have o4:=hp4.rdOb o1
  have b4:=hp4.rdOb r2
  have hsrc:srcOf Y4 5 (.sl Y1.length 0 0 1)=some (1,[.i x.op,.i x.d,.i x.a,.i x.b,.i x.n]):=by simp[srcOf,n4]
  have hR4:=r6.fr insF_st (Frm.pre hp4)
  have hcl:((ls.take j).filter fun p=>!dropX us p).length≤j:=Nat.le_trans (List.length_filter_le _ _) (by rw[List.length_take];omega)
  obtain⟨iz,gz,Y5,happ,hR5,hf5,l5⟩:=hR4.snoc insF_st (by omega) (by omega) (by omega) (cs:=[.i x.op,.i x.d,.i x.a,.i x.b,.i x.n]) (x:=x) (G:=fun _=>False) rfl
   (fun Z hZ=>rfl) (fun i hi=>hi.elim)
  have hid:=rdOb_lt r2
  obtain⟨s1,s2⟩:=r10 Y5 _ (.sl iz gz 0 (((ls.take j).filter fun p=>!dropX us p).length+1)) _ (by omega) ((Frm.pre hp4).trans (hf5.mono fun j hj=>hj.2)) hR5 (fun i hi=>by
   rcases hi with hi | hi | hi
   ·exact .inl hi
   ·exact hi.elim
   ·exact .inr ⟨by omega,by omega,by omega⟩) (by simp;omega)
  obtain⟨Y6,hY6⟩:∃ Y6,Y5.set id ⟨putAt cells (b * 6+1) [.sl iz gz 0 (((ls.take j).filter fun p=>!dropX us p).length+1)],g,true,6⟩=Y6:=⟨_,rfl⟩
  rw[hY6,hset]at s2
  have l6:Y6.length=Y5.length:=by rw[← hY6];simp
  have hb6:b * 6+1+1≤cells.length:=by omega
  have o5:rdOb Y5 o3 0=some ⟨[w,.i m],0,true,2⟩:=hf5.ob (fun hg=>by have:=(r7 _ hg).1;omega) o4
  have hfin:PruneH N o3 uid bf w v m us B Y0 Y6 (A++⟨ps,((ls.take j).filter fun p=>!dropX us p)++[x],t⟩ :: D):=by
   refine hH1.to s2 ?_ (by omega)
   refine (Frm.pre hp4).trans ((hf5.mono fun i hi hg=>hi (r7 _ hg).1).trans ?_)
   rw[← hY6]
   exact Frm.set _ _ (fun hn=>hn r8)
  unfold vf12b1
  cases hst:(decide (x.op=22) || decide (x.op=23) || decide (x.op=21) || decide (x.op=24)) with
  | true =>
   have hk:=keep_stay (us:=us) hst
   simp[f1,f2,f3,f4,f5,f8,rdC_ob hBf,hix,hwuY,hlz,hj,q1,q2.2.2.2.2.2,putAt_get5,hY1,rdN_ob n1,n1,l7Stays_call,-Bool.or_eq_true,hst,o1,rdC_ob o1,r1,r5,r2,hY4,hsrc,happ,o4,b4,o5,s1,hb6,hY6,up1 hj hb]
   refine (hI _ ⟨_,_⟩).2 ⟨?_,by simp⟩
   rw[hsu,hk]
   simpa using hfin
  | false =>
   obtain⟨kd,hk1,hk2,hk3⟩:=keep_else (us:=us) hxB hst
   obtain⟨i1,c1⟩:=rd_bool hH1.used hun (show kd<n by omega)
   cases hu:us.getD kd false with
   | false =>
    rw[hu]at c1 hk3
    simp[f1,f2,f3,f4,f5,f8,rdC_ob hBf,hix,hwuY,hlz,hj,q1,q2.2.2.2.2.2,putAt_get5,hY1,rdN_ob n1,l7Stays_call,-Bool.or_eq_true,hst,specInsDef,hk1,i1,c1,up1 hj hb]
    refine (hI _ ⟨_,_⟩).2 ⟨?_,by simp⟩
    rw[hsu,hk3]
    simpa using hH1
   | true =>
    rw[hu]at c1 hk3
    simp[f1,f2,f3,f4,f5,f8,rdC_ob hBf,hix,hwuY,hlz,hj,q1,q2.2.2.2.2.2,putAt_get5,hY1,rdN_ob n1,n1,l7Stays_call,-Bool.or_eq_true,hst,specInsDef,hk1,i1,c1,o1,rdC_ob o1,r1,r5,r2,hY4,hsrc,happ,o4,b4,o5,s1,hb6,hY6,up1 hj hb]
    refine (hI _ ⟨_,_⟩).2 ⟨?_,by simp⟩
    rw[hsu,hk3]
    simpa using hfin
 ·rintro⟨e0,Y⟩ hIs
  obtain⟨hH,f1,f2,f3,f4,f5,f8⟩:=(hI _ _).1 hIs
  simp only at hH f1 f2 f3 f4 f5 f8 ⊢
  have hwuY:=rdC_to hH.pre hwu
  have hBf:=hH.pre.rdOb hH.box
  have hlz:=(List5.pre hH.pre hp).lenOf
  rw[List.take_length]at hH
  unfold vf12b1
  simp[f1,f2,f3,f4,f5,f8,rdC_ob hBf,hix,hwuY,hlz]
  exact hQ Y _ hH (by simp) (by simp) (by simp) (by simp) (by simp)
set_option maxRecDepth 100000 in
theorem specPrune {H:Hp} {v:CV} {f:FnR} (hv:Blocks H v f.blocks) (hb:f.blocks.length≤BIG):CM 12 [.agg [v,.i f.values]] H (FnRes H (prune0 f)):=by
 refine cw12 ?_
 unfold vf12c
 obtain⟨X1,hX1⟩:∃ X1,H++[(⟨[v,.i f.values],0,true,2⟩:Ob),⟨[.ns,.i 0],0,true,2⟩]=X1:=⟨_,rfl⟩
 have hp1:Pre H X1:=⟨_,hX1.symm⟩
 have l1:X1.length=H.length+2:=by rw[← hX1];simp
 have hB1:rdOb X1 H.length 0=some ⟨[v,.i f.values],0,true,2⟩:=by rw[← hX1];simp
 have hR1:rdOb X1 (H.length+1) 0=some ⟨[.ns,.i 0],0,true,2⟩:=by rw[← hX1];simp
 simp[hX1,rdN_ob hB1]
 refine (specCopy (hv.pre hp1) hb).mono ?_
 rintro _ ⟨w,L1,rfl,hT⟩
 obtain⟨X2,hX2⟩:∃ X2,X1++L1=X2:=⟨_,rfl⟩
 rw[hX2]at hT ⊢
 have hp2:Pre X1 X2:=⟨_,hX2.symm⟩
 have l2:=hp2.le
 obtain⟨X3,hX3⟩:∃ X3,X2++[(⟨[w,.i f.values],0,true,2⟩:Ob)]=X3:=⟨_,rfl⟩
 have hp3:Pre X2 X3:=⟨_,hX3.symm⟩
 have l3:X3.length=X2.length+1:=by rw[← hX3];simp
 have hO3:rdOb X3 X2.length 0=some ⟨[w,.i f.values],0,true,2⟩:=by rw[← hX3];simp
 have hT3:Tree (fun j=>X1.length≤j∧j<X2.length) X3 w f.blocks:=hT.bound.fr blkF_st (Frm.pre hp3)
 have hB3:=hp3.rdOb (hp2.rdOb hB1)
 have hR3:=hp3.rdOb (hp2.rdOb hR1)
 have hp13:=hp1.trans (hp2.trans hp3)
 have hv3:=hv.pre hp13
 by_cases hck:checkF f=0
 ·have hg:prune0 f=⟨f.blocks.map (pruneB (usedW f)),f.values⟩:=by unfold prune0;rw[if_pos hck]
  have hW:=well_iff.1 hck
  have hsh:=hW.sh
  have hun:(usedW f).length=f.values.toNat:=usedW_len f
  obtain⟨us,hus⟩:∃ us,usedW f=us:=⟨_,rfl⟩
  obtain⟨n,hnt⟩:∃ n:Nat,f.values.toNat=n:=⟨_,rfl⟩
  have huse:=specUsedL hv3 hb hsh
  rw[hus]at hun hg huse
  rw[hnt]at hun huse
  obtain⟨X4,hX4⟩:∃ X4,X3++[KOb us]=X4:=⟨_,rfl⟩
  have hp4:Pre X3 X4:=⟨_,hX4.symm⟩
  have l4:X4.length=X3.length+1:=by rw[← hX4];simp
  have hU4:rdOb X4 X3.length 0=some (KOb us):=by rw[← hX4];simp
  have hR4:=hp4.rdOb hR3
  have hH0:PruneH X1.length X2.length X3.length H.length w v f.values us X1 X4 X4 f.blocks:=
   ⟨(hT3.fr blkF_st (Frm.pre hp4)).mono fun j hj=>by omega,hp4.rdOb hO3,hU4,hp2.trans (hp3.trans hp4),Nat.le_refl _,hB1,Frm.refl _ _,Nat.le_refl _⟩
  have hv1:=hv.pre hp1
  have hlv:=hv1.lenOf
  simp only[KOb]at hX4
  simp[putAt,hX3,rdN_ob hB3,specCheck hv3 hb,hck,huse,hX4]
  obtain⟨I,hI⟩:∃ I:Nat→St→Prop,∀ i s,I i s↔(PruneH X1.length X2.length X3.length H.length w v f.values us X1 X4 s.h ((f.blocks.take i).map (pruneB us)++f.blocks.drop i) ∧
   Env.get s.e 1=.c (.p H.length 0 0)∧Env.get s.e 2=.c (.p (H.length+1) 0 0)∧Env.get s.e 3=.c (.p X2.length 0 0)∧Env.get s.e 4=.c (.sl X3.length 0 0 n)∧Env.get s.e 5=.c (.i i)):=⟨_,fun _ _=>Iff.rfl⟩
  refine wp_for CM_mono f.blocks.length I ((hI _ ⟨_,_⟩).2 ⟨by simpa using hH0,by simp⟩) ?_ ?_
  ·rintro i ⟨e,Y⟩ hi hIs
   obtain⟨hH,e1,e2,e3,e4,e5⟩:=(hI _ _).1 hIs
   simp only at hH e1 e2 e3 e4 e5 ⊢
   obtain⟨b,hbb⟩:∃ b,f.blocks[i]=b:=⟨_,rfl⟩
   have hbm:b∈f.blocks:=hbb▸List.getElem_mem hi
   rw[drop_mid hi,hbb]at hH
   obtain⟨A,hA⟩:∃ A,(f.blocks.take i).map (pruneB us)=A:=⟨_,rfl⟩
   have hAl:A.length=i:=by rw[← hA];simp;omega
   have hAs:(f.blocks.take (i+1)).map (pruneB us)=A++[pruneB us b]:=by rw[List.take_succ_eq_append_getElem hi,List.map_append,hA,hbb];rfl
   rw[hA]at hH
   obtain⟨D,hD⟩:∃ D,f.blocks.drop (i+1)=D:=⟨_,rfl⟩
   rw[hD]at hH
   have hset:∀ x y:BlkR,(A++x :: D).set i y=A++y :: D:=fun x y=>by subst hAl;exact mid_set _ _ _ _
   obtain⟨id0,g0,off0,wz,wu,p1,p2,p3,pp,pl,ppl,pll,_,_⟩:=Blocks.get hv1 hi
   rw[hbb]at p2 p3 pp pl ppl pll
   have hBf:=hH.pre.rdOb hH.box
   have hlY:=(hv1.pre hH.pre).lenOf
   have hil:i<(A++b :: D).length:=by simp;omega
   have hat:(A++b :: D)[i]=b:=by subst hAl;exact mid_at _ _ _ hil
   obtain⟨id,g,cells,z,u,Gz,q1,q2,q3,q4,q5,q6,q7,q8,q9,q10⟩:=hH.tree.phisH hil
   rw[hat]at q10
   obtain⟨c1,c2⟩:=q10 Y [] .ns (fun _=>False) (Nat.le_refl _) (Frm.refl _ _) FRow.ns (fun j hj=>hj.elim) (by simp)
   obtain⟨Y1,hY1⟩:∃ Y1,Y.set id ⟨putAt cells (i * 6) [.ns],g,true,6⟩=Y1:=⟨_,rfl⟩
   rw[hY1,hset]at c2
   have hH1:=hH.to c2 (by rw[← hY1];exact Frm.set _ _ (fun hn=>hn q8)) (by rw[← hY1];simp)
   have hil1:i<(A++(⟨[],b.list,b.term⟩:BlkR) :: D).length:=by simp;omega
   have hat1:(A++(⟨[],b.list,b.term⟩:BlkR) :: D)[i]=⟨[],b.list,b.term⟩:=by subst hAl;exact mid_at _ _ _ hil1
   obtain⟨id',g',cells',z2,u2,Gu,r1,r2,r3,r4,r5,r6,r7,r8,r9,r10⟩:=hH1.tree.listH hil1
   rw[hat1]at r10
   obtain⟨d1,d2⟩:=r10 Y1 [] .ns (fun _=>False) (Nat.le_refl _) (Frm.refl _ _) FRow.ns (fun j hj=>hj.elim) (by simp)
   obtain⟨Y2,hY2⟩:∃ Y2,Y1.set id' ⟨putAt cells' (i * 6+1) [.ns],g',true,6⟩=Y2:=⟨_,rfl⟩
   rw[hY2,hset]at d2
   have hH2:=hH1.to d2 (by rw[← hY2];exact Frm.set _ _ (fun hn=>hn r8)) (by rw[← hY2];simp)
   have ei:id'=id∧g'=g:=by have e:=r1.symm.trans q1;injection e with e;injection e with e1 e2;exact⟨e1,e2⟩
   obtain⟨rfl,rfl⟩:=ei
   have hb1:i * 6+1≤cells.length:=by omega
   have hb2:i * 6+1+1≤cells'.length:=by omega
   have o1:=hH.out
   have o2:=hH1.out
   have hlX4:=hH.len
   have hN2:X1.length≤Y2.length:=by have:=hH2.len;omega
   have hH2':PruneH X1.length X2.length X3.length H.length w v f.values us X1 Y2 Y2 (A++⟨[],[],b.term⟩ :: D):=⟨hH2.tree,hH2.out,hH2.used,hH2.pre,hH2.bl,hH2.box,Frm.refl _ _,Nat.le_refl _⟩
   unfold vf12b2
   simp[e1,e2,e3,e4,e5,rdC_ob hBf,hlY,hi,rdC_ob o1,q1,c1,hb1,hY1,rdC_ob o2,d1,hb2,hY2]
   refine prunePIn (x2:=.c (.p (H.length+1) 0 0)) (ps:=b.phis) (ls:=[]) (n:=n) hH2' hAl hun hN2 pp ppl p1 p2.1 (fun p hp=>by
    obtain⟨k,h1,h2⟩:=val_nat (phi_vals (shape_phi hsh hbm hp)).1
    exact⟨k,h1,by omega⟩) (by simp[e1]) (by simp[e2]) (by simp[e3]) (by simp[e4]) (by simp[e5]) (by simp) ?_
   intro Y3 e' hH3 f1 f2 f3 f4 f5
   have hH3':PruneH X1.length X2.length X3.length H.length w v f.values us X1 Y3 Y3 (A++⟨b.phis.filter fun p=>!dropP us p,[],b.term⟩ :: D):=⟨hH3.tree,hH3.out,hH3.used,hH3.pre,hH3.bl,hH3.box,Frm.refl _ _,Nat.le_refl _⟩
   simp[f1,f2,f3,f4,f5]
   refine pruneLIn (x2:=.c (.p (H.length+1) 0 0)) (ls:=b.list) (n:=n) (m:=f.values) hH3' hAl hun (by have:=hH3.len;omega) pl pll p1 p2.2.1 hnt.symm (fun x hx=>shape_ins hsh hbm hx) (by simp) (by simp) (by simp) (by simp) (by simp) (by simp) ?_
   intro Y4 e'' hH4 g1 g2 g3 g4 g5
   simp[g1,g2,g3,g4,g5,up1 hi hb]
   refine (hI _ ⟨_,_⟩).2 ⟨?_,by simp[g1,g2,g3,g4]⟩
   rw[hAs,hD]
   have hfin:PruneH X1.length X2.length X3.length H.length w v f.values us X1 X4 Y4 (A++pruneB us b :: D):=
    ⟨hH4.tree,hH4.out,hH4.used,hH4.pre,hH4.bl,hH4.box,hH2.lo.trans (hH3.lo.trans hH4.lo),Nat.le_trans hH2.len (Nat.le_trans hH3.len hH4.len)⟩
   simpa using hfin
  ·rintro⟨e,Y⟩ hIs
   obtain⟨hH,e1,e2,e3,e4,e5⟩:=(hI _ _).1 hIs
   simp only at hH e1 e2 e3 e4 e5 ⊢
   rw[List.take_length,List.drop_length,List.append_nil]at hH
   have hBf:=hH.pre.rdOb hH.box
   have hlY:=(hv1.pre hH.pre).lenOf
   have hRY:rdOb Y (H.length+1) 0=some ⟨[.ns,.i 0],0,true,2⟩:=hH.lo.ob (by omega) hR4
   obtain⟨Y2,hY2⟩:∃ Y2,Y.set (H.length+1) ⟨[w,.i f.values],0,true,2⟩=Y2:=⟨_,rfl⟩
   have hR2:rdOb Y2 (H.length+1) 0=some ⟨[w,.i f.values],0,true,2⟩:=by rw[← hY2,rdOb_set_self (rdOb_lt hRY)];simp
   have hpY:Pre H Y:=hp1.trans hH.pre
   unfold vf12b2
   simp[e1,e2,e3,e4,e5,rdC_ob hBf,hlY,rdN_ob hH.out,hRY,putAt,hY2,rdN_ob hR2]
   rw[hg]
   refine FnRes.mk (H:=H) (g:=⟨f.blocks.map (pruneB us),f.values⟩) (S:=fun j=>X1.length≤j∧j≠X2.length∧j≠X3.length) ?_ ?_ (fun j hj=>by omega)
   ·rw[← hY2];exact hpY.set (by omega) _
   ·rw[← hY2];exact hH.tree.fr blkF_st (Frm.set _ _ (by omega))
 ·have hg:prune0 f=f:=by unfold prune0;rw[if_neg hck]
  obtain⟨X6,hX6⟩:∃ X6,X3.set (H.length+1) ⟨[w,.i f.values],0,true,2⟩=X6:=⟨_,rfl⟩
  have hR6:rdOb X6 (H.length+1) 0=some ⟨[w,.i f.values],0,true,2⟩:=by rw[← hX6,rdOb_set_self (rdOb_lt hR3)];simp
  simp[putAt,hX3,rdN_ob hB3,specCheck hv3 hb,hck,rdN_ob hO3,hR3,hX6,rdN_ob hR6,hg]
  refine FnRes.mk (H:=H) (g:=f) (S:=fun j=>X1.length≤j∧j<X2.length) ?_ ?_ (fun j hj=>by omega)
  ·rw[← hX6];exact hp13.set (by omega) _
  ·rw[← hX6];exact hT3.fr blkF_st (Frm.set _ _ (by omega))
def RanRes (H:Hp) (q:Int×Int×RunS) (r:IV×Hp):Prop:=
 ∃ Z c tv pv,r=(.tup [(false,[.p c 0 0]),(false,[.i q.1])],Z)∧Pre H Z∧H.length≤c∧rdC Z c 0 6=some tv∧rdC Z c 0 7=some pv∧rdC Z c 0 8=some (.i q.2.1) ∧
  OutR Z tv q.2.2.told∧(∀ id,IsOut tv id→H.length≤id)∧OutR Z pv q.2.2.path∧(∀ id,IsOut pv id→H.length≤id)

theorem gc_tup2 (H Y:Hp) (c:Nat) (x:Int):gcRet H (.tup [(false,[.p c 0 0]),(false,[.i x])]) Y=(.tup [(false,[.p c 0 0]),(false,[.i x])],Y):=by
 unfold gcRet;split
 ·rw[if_neg (by simp[flatV,flatC])]
 ·rfl

theorem not_out {n:Nat}:∀ id,IsOut .ns id→n≤id:=by
 rintro id ⟨g,k,h⟩;cases h

theorem min_fuel {fuel:Int} (h:0≤fuel):(if 5000<fuel then 5000 else fuel)=(((min fuel 5000).toNat:Nat):Int)∧(min fuel 5000).toNat≤5000:=by
 by_cases h5:5000<fuel
 ·rw[if_pos h5];omega
 ·rw[if_neg h5];omega

set_option maxRecDepth 100000 in
theorem ran_call {H:Hp} {v rv:CV} {f:FnR} {reads:List Int} {fuel:Int} (hH:Blocks H v f.blocks) (hb:f.blocks.length≤BIG) (hr:IsI H rv reads) :
  CM 63 [.agg [v,.i f.values],.c rv,.c (.i fuel)] H (RanRes H (runW f reads fuel)):=by
 refine cw63 ?_
 unfold vf63c
 obtain⟨X1,hX1⟩:∃ X1,H++[(⟨[v,.i f.values],0,true,2⟩:Ob)]=X1:=⟨_,rfl⟩
 have hp1:Pre H X1:=⟨_,hX1.symm⟩
 have h3:rdOb X1 H.length 0=some ⟨[v,.i f.values],0,true,2⟩:=by rw[← hX1];simp
 have l1:X1.length=H.length+1:=by rw[← hX1];simp
 obtain⟨X2,hX2⟩:∃ X2,X1++[(⟨[.ns,.i 0,.ns,.ns,.ns,.i 0,.ns,.ns,.i 0],0,true,9⟩:Ob)]=X2:=⟨_,rfl⟩
 have hp2:Pre X1 X2:=⟨_,hX2.symm⟩
 have h11:rdOb X2 X1.length 0=some ⟨[.ns,.i 0,.ns,.ns,.ns,.i 0,.ns,.ns,.i 0],0,true,9⟩:=by rw[← hX2];simp
 have l2:X2.length=H.length+2:=by rw[← hX2];simp[l1]
 have h32:=hp2.rdOb h3
 have hB2:=(hH.pre hp1).pre hp2
 by_cases hs:shapeB f=true∧0≤fuel
 ·obtain⟨hsh,hf0⟩:=hs
  have hw:runW f reads fuel=runGo f.blocks ((min fuel 5000).toNat+1) (min fuel 5000).toNat 0 (-1) (initS f.values reads):=by unfold runW;rw[if_pos ⟨hsh,hf0⟩]
  obtain⟨hmn,hφ⟩:=min_fuel hf0
  obtain⟨s1,s2,s3,s4⟩:=shape_len hsh
  rw[hw]
  obtain⟨φ,hφe⟩:∃ φ,(min fuel 5000).toNat=φ:=⟨_,rfl⟩
  rw[hφe]at hmn hφ ⊢
  have hrun:∀ (X5:Hp) (c vi ci:Nat),Pre H X5→H.length≤c→H.length≤vi→H.length≤ci→c≠vi→c≠ci→vi≠ci→rdOb X5 c 0=some ⟨[v,.i f.values,.sl vi 0 0 f.values.toNat,.sl ci 0 0 8,rv,.i φ,.ns,.ns,.i 0],0,true,9⟩ →
    rdOb X5 vi 0=some ⟨List.replicate f.values.toNat (.i 0),0,true,1⟩→rdOb X5 ci 0=some ⟨List.replicate 8 (.i 0),0,true,1⟩ →
    CM 123 [.c (.p c 0 0)] X5 fun r=>∃ Z tv pv,r=(.c (.i (runGo f.blocks (φ+1) φ 0 (-1) (initS f.values reads)).1),Z)∧Pre H Z∧rdC Z c 0 6=some tv∧rdC Z c 0 7=some pv∧rdC Z c 0 8=some (.i (runGo f.blocks (φ+1) φ 0 (-1) (initS f.values reads)).2.1) ∧
     OutR Z tv (runGo f.blocks (φ+1) φ 0 (-1) (initS f.values reads)).2.2.told∧(∀ id,IsOut tv id→H.length≤id)∧OutR Z pv (runGo f.blocks (φ+1) φ 0 (-1) (initS f.values reads)).2.2.path∧(∀ id,IsOut pv id→H.length≤id):=by
   intro X5 c vi ci hp5 hc hv5 hc5 n1 n2 n3 o1 o2 o3
   obtain⟨κ,hκ⟩:∃ κ:RK,∀ id,κ id=if id=c then 1 else if id=vi then 2 else if id=ci then 3 else 0:=⟨fun id=>if id=c then 1 else if id=vi then 2 else if id=ci then 3 else 0,fun _=>rfl⟩
   have hk:∀ id,id<H.length→κ id=0:=fun id hi=>by rw[hκ,if_neg (by omega),if_neg (by omega),if_neg (by omega)]
   have hR:RInv true v f.values f.values.toNat κ X5 c 0 (initS f.values reads) φ:=by
    refine⟨vi,0,ci,rv,.ns,.ns,initS_ok _ _,o1,by rw[hκ,if_pos rfl],by rw[hκ,if_neg (fun e=>n1 e.symm),if_pos rfl],by rw[hκ,if_neg (fun e=>n2 e.symm),if_neg (fun e=>n3 e.symm),if_pos rfl],?_,?_,Sl.pre hp5 hr,?_,.inl ⟨rfl,rfl⟩,?_,.inl ⟨rfl,rfl⟩,?_,?_⟩
    ·simpa [initS] using o2
    ·simpa [initS] using o3
    ·intro id g off k he
     subst he
     rcases hr with⟨h,_⟩ | ⟨_,_,_,_,h,h2,_⟩
     ·cases h
     ·cases h;exact hk _ (rdOb_lt h2)
    ·rintro id ⟨g,k,h⟩;cases h
    ·rintro id ⟨g,k,h⟩;cases h
    ·intro id hi
     have a:=rdOb_lt o1;have b:=rdOb_lt o2;have d:=rdOb_lt o3
     rw[hκ,if_neg (by omega),if_neg (by omega),if_neg (by omega)]
   refine (run_call hH hsh hp5 hk hR rfl hφ rfl rfl).mono ?_
   rintro _ ⟨κ',Z,fu',rfl,⟨vi',gv',ci',rv',tv,pv,P⟩,F⟩
   have hob:rdOb Z c 0=some ⟨[v,.i f.values,.sl vi' gv' 0 f.values.toNat,.sl ci' 0 0 8,rv',.i fu',tv,pv,.i _],0,true,9⟩:=P.ob
   have hlo:∀ id,id<H.length→κ' id=0:=fun id hi=>by rw[F.same id (by have:=hp5.le;omega)];exact hk id hi
   refine⟨Z,tv,pv,rfl,F.pre hp5 hk,by rw[rdC_ob hob];rfl,by rw[rdC_ob hob];rfl,by rw[rdC_ob hob];rfl,P.told,fun id hi=>?_,P.path,fun id hi=>?_⟩
   ·have:=P.kt id hi
    cases Nat.lt_or_ge id H.length with
    | inl h=>rw[hlo id h]at this;cases this
    | inr h=>exact h
   ·have:=P.kp id hi
    cases Nat.lt_or_ge id H.length with
    | inl h=>rw[hlo id h]at this;cases this
    | inr h=>exact h
  have hm1:(0≤f.values∧f.values≤(LIM:Int))=True:=eq_true ⟨s3,by simp only[LIM];omega⟩
  have hm8:(8≤LIM)=True:=eq_true (by simp only[LIM];omega)
  obtain⟨A1,hA1⟩:∃ A1,X2++[(⟨List.replicate f.values.toNat (.i 0),0,true,1⟩:Ob)]=A1:=⟨_,rfl⟩
  obtain⟨A2,hA2⟩:∃ A2,A1++[(⟨[.i 0,.i 0,.i 0,.i 0,.i 0,.i 0,.i 0,.i 0],0,true,1⟩:Ob)]=A2:=⟨_,rfl⟩
  obtain⟨A3,hA3⟩:∃ A3,A2++[(⟨[v,.i f.values,.sl X2.length 0 0 f.values.toNat,.sl A1.length 0 0 8,rv,.i φ,.ns,.ns,.i 0],0,true,9⟩:Ob)]=A3:=⟨_,rfl⟩
  have pA1:Pre X2 A1:=⟨_,hA1.symm⟩
  have pA2:Pre A1 A2:=⟨_,hA2.symm⟩
  have pA3:Pre A2 A3:=⟨_,hA3.symm⟩
  have lA1:A1.length=X2.length+1:=by rw[← hA1];simp
  have lA2:A2.length=X2.length+2:=by rw[← hA2];simp[lA1]
  have oA1:rdOb A1 X2.length 0=some ⟨List.replicate f.values.toNat (.i 0),0,true,1⟩:=by rw[← hA1];simp
  have oA2:rdOb A2 A1.length 0=some ⟨List.replicate 8 (.i 0),0,true,1⟩:=by rw[← hA2];simp
  have oA3:rdOb A3 A2.length 0=some ⟨[v,.i f.values,.sl X2.length 0 0 f.values.toNat,.sl A1.length 0 0 8,rv,.i φ,.ns,.ns,.i 0],0,true,9⟩:=by rw[← hA3];simp
  have rA:=hrun A3 A2.length X2.length A1.length ((hp1.trans hp2).trans (pA1.trans (pA2.trans pA3))) (by omega) (by omega) (by omega) (by omega) (by omega) (by omega) oA3 ((pA2.trans pA3).rdOb oA1) (pA3.rdOb oA2)
  have kA1:rdOb A1 H.length 0=rdOb X2 H.length 0:=by rw[pA1.rdOb h32,h32]
  have kA2:rdOb A2 H.length 0=rdOb X2 H.length 0:=by rw[(pA1.trans pA2).rdOb h32,h32]
  obtain⟨B1,hB1⟩:∃ B1,X2++[(⟨[.i 0,.i 0,.i 0,.i 0,.i 0,.i 0,.i 0,.i 0],0,true,1⟩:Ob)]=B1:=⟨_,rfl⟩
  obtain⟨B2,hB2'⟩:∃ B2,B1++[(⟨List.replicate f.values.toNat (.i 0),0,true,1⟩:Ob)]=B2:=⟨_,rfl⟩
  obtain⟨B3,hB3⟩:∃ B3,B2++[(⟨[v,.i f.values,.sl B1.length 0 0 f.values.toNat,.sl X2.length 0 0 8,rv,.i φ,.ns,.ns,.i 0],0,true,9⟩:Ob)]=B3:=⟨_,rfl⟩
  have pB1:Pre X2 B1:=⟨_,hB1.symm⟩
  have pB2:Pre B1 B2:=⟨_,hB2'.symm⟩
  have pB3:Pre B2 B3:=⟨_,hB3.symm⟩
  have lB1:B1.length=X2.length+1:=by rw[← hB1];simp
  have lB2:B2.length=X2.length+2:=by rw[← hB2'];simp[lB1]
  have oB1:rdOb B1 X2.length 0=some ⟨List.replicate 8 (.i 0),0,true,1⟩:=by rw[← hB1];simp
  have oB2:rdOb B2 B1.length 0=some ⟨List.replicate f.values.toNat (.i 0),0,true,1⟩:=by rw[← hB2'];simp
  have oB3:rdOb B3 B2.length 0=some ⟨[v,.i f.values,.sl B1.length 0 0 f.values.toNat,.sl X2.length 0 0 8,rv,.i φ,.ns,.ns,.i 0],0,true,9⟩:=by rw[← hB3];simp
  have rB:=hrun B3 B2.length B1.length X2.length ((hp1.trans hp2).trans (pB1.trans (pB2.trans pB3))) (by omega) (by omega) (by omega) (by omega) (by omega) (by omega) oB3 (pB3.rdOb oB2) ((pB2.trans pB3).rdOb oB1)
  have kB1:rdOb B1 H.length 0=rdOb X2 H.length 0:=by rw[pB1.rdOb h32,h32]
  have kB2:rdOb B2 H.length 0=rdOb X2 H.length 0:=by rw[(pB1.trans pB2).rdOb h32,h32]
  have h3B1:=pB1.rdOb h32
  have hform:rv=.ns∨∃ i1 g1 o1 k1,rv=.sl i1 g1 o1 k1:=by
   rcases hr with⟨h,_⟩ | ⟨i1,g1,o1,_,h,_⟩
   ·exact .inl h
   ·exact .inr ⟨i1,g1,o1,_,h⟩
  rcases hform with rfl | ⟨i1,g1,o1,k1,rfl⟩
  all_goals
   simp[hX1,hX2,rdN_ob h32,implShape hB2 hb,hsh,Int.not_lt.2 hf0,vf63t0,rdC_ob h32,rdC_ob h3B1,rdN_ob h3B1,hm1,hm8,hA1,hA2,kA1,kA2,hB1,hB2',kB1,kB2,hmn,putD0,putL2,putL3,putL4,putL5,hA3,hB3]
   refine⟨?_,?_⟩
   ·refine rA.mono ?_
    rintro _ ⟨Z,tv,pv,rfl,a1,a2,a3,a4,a5,a6,a7,a8⟩
    simp[gc_tup2]
    exact⟨Z,_,tv,pv,rfl,a1,by omega,a2,a3,a4,a5,a6,a7,a8⟩
   ·refine rB.mono ?_
    rintro _ ⟨Z,tv,pv,rfl,a1,a2,a3,a4,a5,a6,a7,a8⟩
    simp[gc_tup2]
    exact⟨Z,_,tv,pv,rfl,a1,by omega,a2,a3,a4,a5,a6,a7,a8⟩
 ·have hw:runW f reads fuel=(3,0,⟨[],[],[],[],[]⟩):=by unfold runW;rw[if_neg hs]
  rw[hw]
  have hend:RanRes H (3,0,⟨[],[],[],[],[]⟩) (.tup [(false,[.p X1.length 0 0]),(false,[.i 3])],X2):=
   ⟨X2,X1.length,.ns,.ns,rfl,hp1.trans hp2,by omega,by rw[rdC_ob h11];rfl,by rw[rdC_ob h11];rfl,by rw[rdC_ob h11];rfl,.inl ⟨rfl,rfl⟩,not_out,.inl ⟨rfl,rfl⟩,not_out⟩
  cases hsh:shapeB f with
  | false =>
   simp[hX1,hX2,rdN_ob h32,implShape hB2 hb,hsh,gc_tup2]
   exact hend
  | true =>
   have hf0:fuel<0:=Int.not_le.1 fun h=>hs ⟨hsh,h⟩
   simp[hX1,hX2,rdN_ob h32,implShape hB2 hb,hsh,hf0,gc_tup2]
   exact hend

def RunOut (H:Hp) (q:Int×Int×RunS) (r:IV×Hp):Prop:=
 ∃ Z tv,r=(.tup [(false,[tv]),(false,[.i q.1]),(false,[.i q.2.1])],Z)∧Pre H Z∧OutR Z tv q.2.2.told∧∀ id,IsOut tv id→H.length≤id

theorem OutR.form {X:Hp} {w:CV} {xs:List Int} (h:OutR X w xs):w=.ns∨∃ id g n,w=.sl id g 0 n:=by
 rcases h with⟨h,_⟩ | ⟨o,g,h,_⟩
 ·exact .inl h
 ·exact .inr ⟨o,g,_,h⟩

theorem RunOut.gc {H Z:Hp} {tv:CV} {x y:Int} {xs:List Int} (hp:Pre H Z) (ht:OutR Z tv xs) (ho:∀ id,IsOut tv id→H.length≤id) :
  ∃ Z',gcRet H (.tup [(false,[tv]),(false,[.i x]),(false,[.i y])]) Z=(.tup [(false,[tv]),(false,[.i x]),(false,[.i y])],Z')∧Pre H Z'∧OutR Z' tv xs:=by
 rcases ht.form with rfl | ⟨id,g,n,rfl⟩
 ·refine⟨H,gcRet_flat hp rfl,Pre.refl _,?_⟩
  rcases ht with⟨_,h⟩ | ⟨_,_,h,_⟩
  ·exact .inl ⟨rfl,h⟩
  ·cases h
 ·refine⟨Z,?_,hp,ht⟩
  unfold gcRet;split
  ·rw[if_neg (by simp[flatV,flatC])]
  ·rfl

theorem implRun {H:Hp} {v rv:CV} {f:FnR} {reads:List Int} {fuel:Int} (hH:Blocks H v f.blocks) (hb:f.blocks.length≤BIG) (hr:IsI H rv reads) :
  CM 19 [.agg [v,.i f.values],.c rv,.c (.i fuel)] H (RunOut H (runW f reads fuel)):=by
 refine cw19 ?_
 unfold vf19c
 obtain⟨X1,hX1⟩:∃ X1,H++[(⟨[v,.i f.values],0,true,2⟩:Ob)]=X1:=⟨_,rfl⟩
 have hp1:Pre H X1:=⟨_,hX1.symm⟩
 have h3:rdOb X1 H.length 0=some ⟨[v,.i f.values],0,true,2⟩:=by rw[← hX1];simp
 simp[hX1,rdN_ob h3]
 refine (ran_call (hH.pre hp1) hb (Sl.pre hp1 hr)).mono ?_
 rintro _ ⟨Z,c,tv,pv,rfl,a1,a2,a3,a4,a5,a6,a7,a8⟩
 obtain⟨Z',g1,g2,g3⟩:=RunOut.gc (x:=(runW f reads fuel).1) (y:=(runW f reads fuel).2.1) (hp1.trans a1) a6 (fun id hi=>by have:=a7 id hi;have:=hp1.le;omega)
 have hend:RunOut H (runW f reads fuel) (.tup [(false,[tv]),(false,[.i (runW f reads fuel).1]),(false,[.i (runW f reads fuel).2.1])],Z'):=⟨Z',tv,rfl,g2,g3,fun id hi=>by have:=a7 id hi;have:=hp1.le;omega⟩
 rcases a6.form with rfl | ⟨i1,g1,n1,rfl⟩
 all_goals
  simp[a3,a5,g1]
  exact hend
def SInsRes (v:CV) (m:Int) (n:Nat) (κ:RK) (X:Hp) (c:Nat) (fu:Int) (q:Int×RunS) (r:IV×Hp):Prop:=
 ∃ κ' Z,r=(.c (.i q.1),Z)∧RInv false v m n κ' Z c 0 q.2 fu∧Fr κ κ' X Z

theorem SInsRes.mk' {v:CV} {m:Int} {n:Nat} {κ κ':RK} {X Y:Hp} {c:Nat} {s:RunS} {fu:Int} {q:Int×RunS} (h:RInv false v m n κ X c 0 s fu) (h':RInv false v m n κ' Y c 0 q.2 fu) (hf:Fr κ κ' X Y) :
  SInsRes v m n κ X c fu q (gcRet X (.c (.i q.1)) Y):=by
 obtain⟨κ2,Z,e,h1,h2⟩:=h.gc h' hf (r:=.c (.i q.1)) rfl
 rw[e]
 exact⟨κ2,Z,rfl,h1,h2⟩
def SRunRes (v:CV) (m:Int) (n:Nat) (κ:RK) (X:Hp) (c:Nat) (q:Int×Int×RunS) (r:IV×Hp):Prop:=
 ∃ κ' Z fu',r=(.tup [(false,[.i q.1]),(false,[.i q.2.1])],Z)∧RInv false v m n κ' Z c 0 q.2.2 fu'∧Fr κ κ' X Z

theorem SRunRes.mk' {v:CV} {m:Int} {n:Nat} {κ κ':RK} {X Y:Hp} {c:Nat} {s:RunS} {fu fu':Int} {q:Int×Int×RunS} (h:RInv false v m n κ X c 0 s fu) (h':RInv false v m n κ' Y c 0 q.2.2 fu') (hf:Fr κ κ' X Y) :
  SRunRes v m n κ X c q (gcRet X (.tup [(false,[.i q.1]),(false,[.i q.2.1])]) Y):=by
 obtain⟨κ2,Z,e,h1,h2⟩:=h.gc h' hf (r:=.tup [(false,[.i q.1]),(false,[.i q.2.1])]) rfl
 rw[e]
 exact⟨κ2,Z,fu',rfl,h1,h2⟩
def NewPs (m:Int) (reads:List Int) (κ:RK) (h:Hp) (vi ci ri g ti pi:Nat):Prop:=
 (κ vi=2∧rdOb h vi 0=some ⟨List.replicate m.toNat (.i 0),0,true,1⟩)∧(κ ci=3∧rdOb h ci 0=some ⟨List.replicate 8 (.i 0),0,true,1⟩)∧(κ ri=6∧rdOb h ri g=some ⟨reads.map .i,g,true,1⟩) ∧
 (κ ti=4∧rdOb h ti 0=some ⟨[],0,true,1⟩)∧(κ pi=5∧rdOb h pi 0=some ⟨[],0,true,1⟩)

def newP (m fuel φ:Int) (rv:CV) (reads:List Int) (κ:RK) (h:Hp) (u:IV):Nat→Prop
 | 0=>u=.c (.i m)
 | 1=>∃ i,u=.c (.sl i 0 0 m.toNat)∧κ i=2∧rdOb h i 0=some ⟨List.replicate m.toNat (.i 0),0,true,1⟩
 | 2=>∃ i,u=.c (.sl i 0 0 8)∧κ i=3∧rdOb h i 0=some ⟨List.replicate 8 (.i 0),0,true,1⟩
 | 3=>∃ i,u=.c (.sl i 0 0 0)∧κ i=6∧rdOb h i 0=some ⟨[],0,true,1⟩
 | 4=>u=.c rv
 | 5=>∃ i g,u=.c (.sl i g 0 reads.length)∧κ i=6∧rdOb h i g=some ⟨reads.map .i,g,true,1⟩
 | 6=>∃ i,u=.c (.sl i 0 0 0)∧κ i=4∧rdOb h i 0=some ⟨[],0,true,1⟩
 | 7=>∃ i,u=.c (.sl i 0 0 0)∧κ i=5∧rdOb h i 0=some ⟨[],0,true,1⟩
 | 8=>u=.c (.i fuel)
 | 9=>u=.c (.i φ)
 | 10=>∃ vi ci ri g ti pi,u=.agg [.sl vi 0 0 m.toNat,.sl ci 0 0 8,.sl ri g 0 reads.length,.sl ti 0 0 0,.sl pi 0 0 0,.i φ]∧NewPs m reads κ h vi ci ri g ti pi
 | _=>∃ c vi ci ri g ti pi,u=.c (.p c 0 0)∧κ c=1∧rdOb h c 0=some ⟨[.sl vi 0 0 m.toNat,.sl ci 0 0 8,.sl ri g 0 reads.length,.sl ti 0 0 0,.sl pi 0 0 0,.i φ],0,true,6⟩∧NewPs m reads κ h vi ci ri g ti pi

section

variable {m fuel φ:Int} {rv:CV} {reads:List Int} {κ κ':RK} {h h':Hp} {u:IV}

theorem NewPs.keep {vi ci ri g ti pi:Nat} (hp:NewPs m reads κ h vi ci ri g ti pi) (hk:∀ id gg o,κ id≠0→rdOb h id gg=some o→rdOb h' id gg=some o∧κ' id=κ id):NewPs m reads κ' h' vi ci ri g ti pi:=by
 obtain⟨⟨a1,a2⟩,⟨b1,b2⟩,⟨c1,c2⟩,⟨d1,d2⟩,⟨e1,e2⟩⟩:=hp
 have A:=hk _ _ _ (by omega) a2;have B:=hk _ _ _ (by omega) b2;have C:=hk _ _ _ (by omega) c2;have D:=hk _ _ _ (by omega) d2;have E:=hk _ _ _ (by omega) e2
 exact⟨⟨by rw[A.2];exact a1,A.1⟩,⟨by rw[B.2];exact b1,B.1⟩,⟨by rw[C.2];exact c1,C.1⟩,⟨by rw[D.2];exact d1,D.1⟩,⟨by rw[E.2];exact e1,E.1⟩⟩

theorem newP.keep {j:Nat} (hp:newP m fuel φ rv reads κ h u j) (hk:∀ id gg o,κ id≠0→rdOb h id gg=some o→rdOb h' id gg=some o∧κ' id=κ id):newP m fuel φ rv reads κ' h' u j:=by
 match j,hp with
 | 0,hp=>exact hp
 | 1,⟨i,a,b,c⟩=>have A:=hk _ _ _ (by omega) c;exact⟨i,a,by rw[A.2];exact b,A.1⟩
 | 2,⟨i,a,b,c⟩=>have A:=hk _ _ _ (by omega) c;exact⟨i,a,by rw[A.2];exact b,A.1⟩
 | 3,⟨i,a,b,c⟩=>have A:=hk _ _ _ (by omega) c;exact⟨i,a,by rw[A.2];exact b,A.1⟩
 | 4,hp=>exact hp
 | 5,⟨i,g,a,b,c⟩=>have A:=hk _ _ _ (by omega) c;exact⟨i,g,a,by rw[A.2];exact b,A.1⟩
 | 6,⟨i,a,b,c⟩=>have A:=hk _ _ _ (by omega) c;exact⟨i,a,by rw[A.2];exact b,A.1⟩
 | 7,⟨i,a,b,c⟩=>have A:=hk _ _ _ (by omega) c;exact⟨i,a,by rw[A.2];exact b,A.1⟩
 | 8,hp=>exact hp
 | 9,hp=>exact hp
 | 10,⟨vi,ci,ri,g,ti,pi,a,b⟩=>exact⟨vi,ci,ri,g,ti,pi,a,b.keep hk⟩
 | j+11,⟨c,vi,ci,ri,g,ti,pi,a,b,d,e⟩=>have A:=hk _ _ _ (by omega) d;exact⟨c,vi,ci,ri,g,ti,pi,a,by rw[A.2];exact b,A.1,e.keep hk⟩

end
theorem rowGc {X Z:Hp} {c id g:Nat} {xs:List Int} (h:CurL c X Z) (hx:Cur X c) (hid:X.length≤id) (ho:rdOb Z id g=some ⟨xs.map .i,g,true,1⟩) :
  ∃ w Z',gcRet X (.c (.sl id g 0 xs.length)) Z=(.c w,Z')∧CurL c X Z'∧OutR Z' w xs∧∀ id,IsOut w id→X.length≤id:=by
 by_cases ht:Z.take X.length=X
 ·have hp:Pre X Z:=⟨Z.drop X.length,by have:=List.take_append_drop X.length Z;rw[ht]at this;exact this.symm⟩
  refine⟨_,_,gcRet_row hp hid ho rfl (by simp[flatC]),(CurL.refl hx).app _,.inr ⟨X.length,0,rfl,by simp⟩,?_⟩
  rintro i ⟨g',n,he⟩;cases he;exact Nat.le_refl _
 ·refine⟨_,Z,by unfold gcRet;rw[if_neg ht],h,.inr ⟨id,g,rfl,ho⟩,?_⟩
  rintro i ⟨g',n,he⟩;cases he;exact hid

def ReadsRes (X:Hp) (c:Nat) (r:IV×Hp):Prop:=∃ w Z xs,r=(.c w,Z)∧CurL c X Z∧OutR Z w xs∧(∀ id,IsOut w id→X.length≤id)∧xs.length≤6

theorem drawReads_call {X:Hp} {c:Nat} (h:Cur X c):CM 111 [.c (.p c 0 0)] X (ReadsRes X c):=by
 refine cw111 ?_
 unfold vf111c
 have hlt:=h.lt
 simp
 obtain⟨I,hI⟩:∃ I:Nat→St→Prop,∀ k st,I k st↔(∃ (xs:List Int) (id g:Nat),k+xs.length=6∧CurL c X st.h∧X.length≤id∧rdOb st.h id g=some ⟨xs.map .i,g,true,1⟩∧Env.get st.e 0=.c (.p c 0 0)∧Env.get st.e 3=.c (.sl id g 0 xs.length)∧Env.get st.e 4=.c (.i xs.length)):=⟨_,fun _ _=>Iff.rfl⟩
 refine wp_loop CM_mono I (k:=6) ((hI _ _).2 ⟨[],X.length,0,rfl,(CurL.refl h).app _,Nat.le_refl _,by simp,by simp⟩) ?_
 rintro k ⟨e,Y⟩ hIs
 obtain⟨xs,id,g,hk,hC,hid,ho,e0,e3,e4⟩:=(hI _ _).1 hIs
 simp only at hC ho e0 e3 e4 ⊢
 obtain⟨r,Y1,r0,r1,_,C1,eb⟩:=below_call hC.cur 6
 have r6:=r1 (by omega)
 have hne:id≠c:=by omega
 have ho1:=C1.l.keep _ _ _ hne ho
 have hC1:=hC.trans C1.l
 unfold vf111b0
 by_cases hlt2:(xs.length:Int)<r
 ·have hxl:xs.length≤4:=by omega
  obtain⟨x,Y2,hx,C2,en⟩:=num_call C1.cur
  have ho2:=C2.keep _ _ _ hne ho1
  obtain⟨Y3,hY3⟩:∃ Y3,Y2++[(⟨[.i x],0,true,1⟩:Ob)]=Y3:=⟨_,rfl⟩
  have ho3:rdOb Y3 id g=some ⟨xs.map .i,g,true,1⟩:=by rw[← hY3];exact rdOb_app _ ho2
  have hT:rdOb Y3 Y2.length 0=some ⟨[.i x],0,true,1⟩:=by rw[← hY3];simp
  have hsrc:srcOf Y3 1 (.sl Y2.length 0 0 1)=some (1,[.i x]):=by simp[srcOf,hT]
  have happ:=app_own (X:=Y3) (o:=id) (g:=g) (n:=xs.length) (sz:=1) (m:=1) (cs:=xs.map .i) (xs:=[.i x]) ho3 (by simp) (by simp) (by simp[LIM];omega)
  simp[e0,e3,e4,eb,hlt2,en,putL0,hY3,hsrc,happ,up1 (show xs.length<6 by omega) (show 6≤BIG by simp[BIG])]
  refine⟨k - 1,by omega,(hI _ _).2 ⟨xs++[x],id,g+1,by simp;omega,?_,hid,?_,by simp[e0]⟩⟩
  ·have hC3:CurL c X Y3:=by rw[← hY3];exact (hC1.trans C2).app _
   refine⟨?_,by simpa using hC3.le,fun i gg o h1 h2=>?_⟩
   ·obtain⟨bs,i,hh,ys,q1,q2,q3,q4,q5⟩:=hC3.cur
    refine⟨bs,i,hh,ys,by rw[rdOb_set_ne (Ne.symm hne)];exact q1,?_,q3,q4,q5⟩
    rcases q2 with q2 | ⟨i2,g2,off,ob,w1,w2,w3⟩
    ·exact .inl q2
    ·exact .inr ⟨i2,g2,off,ob,w1,by rw[rdOb_set_ne (by have:=q5 _ _ _ _ w1;omega)];exact w2,w3⟩
   ·rw[rdOb_set_ne (by have:=rdOb_lt h2;omega)];exact hC3.keep i gg o h1 h2
  ·simp only;rw[rdOb_set_self (rdOb_lt ho3)];simp
 ·obtain⟨w,Z,g1,g2,g3,g4⟩:=rowGc hC1 h hid ho1
  simp[e0,e3,e4,eb,hlt2,g1]
  exact⟨w,Z,xs,rfl,g2,g3,g4,by omega⟩

def FuelRes (X:Hp) (c:Nat) (r:IV×Hp):Prop:=∃ n Z,r=(.c (.i n),Z)∧CurL c X Z∧-1≤n∧n≤5001

theorem FuelRes.mk' {X Z:Hp} {c:Nat} {n:Int} (h:CurL c X Z) (hx:Cur X c) (h1:-1≤n) (h2:n≤5001):FuelRes X c (gcRet X (.c (.i n)) Z):=by
 obtain⟨Z',e,hC⟩:=CurL.gc h hx (r:=.c (.i n)) rfl
 rw[e];exact⟨n,Z',rfl,hC,h1,h2⟩

theorem drawFuel_call {X:Hp} {c:Nat} (h:Cur X c):CM 112 [.c (.p c 0 0)] X (FuelRes X c):=by
 refine cw112 ?_
 unfold vf112c
 obtain⟨r,Y1,r0,r1,_,C1,eb⟩:=below_call h 6
 by_cases h0:r=0
 ·subst h0
  obtain⟨r2,Y2,q0,q1,_,C2,eb2⟩:=below_call C1.cur 40
  have:=q1 (by omega)
  simp[eb,eb2]
  exact FuelRes.mk' (C1.l.trans C2.l) h (by omega) (by omega)
 ·by_cases h1:r=1
  ·subst h1
   obtain⟨Y2,hY2⟩:∃ Y2,Y1++[(⟨[.i (-1),.i 0,.i 5000,.i 5001],0,true,1⟩:Ob)]=Y2:=⟨_,rfl⟩
   have hI:IsI Y2 (.sl Y1.length 0 0 4) [-1,0,5000,5001]:=own_isI (by rw[← hY2];simp) rfl
   have C2:CurL c X Y2:=by rw[← hY2];exact C1.l.app _
   obtain⟨p,Y3,hp,C3,ep⟩:=pick_call C2.cur hI (by simp)
   simp at hp
   simp[eb,putL0,putL1,putL2,putL3,hY2,ep]
   exact FuelRes.mk' (C2.trans C3.l) h (by omega) (by omega)
  ·simp[eb,h0,h1]
   exact FuelRes.mk' C1.l h (by omega) (by omega)

def RunDraw (H:Hp) (r:IV×Hp):Prop:=∃ X v m bs w xs n,r=(.tup [(true,[v,.i m]),(false,[w]),(false,[.i n])],X)∧(∃ d g,v=.sl d g 0 bs.length)∧Pre H X∧HiBlocks H.length X v bs∧bs.length≤BIG∧0<bs.length ∧
 OutR X w xs∧(∀ id,IsOut w id→H.length≤id)∧xs.length≤6∧-1≤n∧n≤5001

theorem HiBlocks.lower {lo lo':Nat} {X:Hp} {v:CV} {bs:List BlkR} (h:HiBlocks lo X v bs) (hl:lo'≤lo):HiBlocks lo' X v bs:=fun Y hY=>h Y fun id g o hi ho=>hY id g o (by omega) ho

theorem HiBlocks.to {lo:Nat} {X Y:Hp} {v:CV} {bs:List BlkR} (h:HiBlocks lo X v bs) (hh:Hi lo X Y):HiBlocks lo Y v bs:=fun Z hZ=>h Z (hh.trans hZ (Nat.le_refl _))

theorem gc_tp3 (H Y:Hp) (d g n:Nat) (m:Int) (w:CV) (q:Int):gcRet H (.tup [(true,[.sl d g 0 n,.i m]),(false,[w]),(false,[.i q])]) Y=(.tup [(true,[.sl d g 0 n,.i m]),(false,[w]),(false,[.i q])],Y):=by
 unfold gcRet;split
 ·rw[if_neg (by simp[flatV,flatC])]
 ·rfl

theorem drawAll_call {H:Hp} {v:CV} {xs:List Int} (hv:IsB H v xs) (hb:xs.length≤BIG):CM 53 [.c v] H (RunDraw H):=by
 refine cw53 ?_
 unfold vf53c
 simp
 have hv1:IsB (H++[(⟨[.ns,.i 0],0,true,2⟩:Ob)]) v xs:=Sl.app _ hv
 have hl:(H++[(⟨[.ns,.i 0],0,true,2⟩:Ob)]).length=H.length+1:=by simp
 have hR:rdOb (H++[(⟨[.ns,.i 0],0,true,2⟩:Ob)]) H.length 0=some ⟨[.ns,.i 0],0,true,2⟩:=by simp
 have hp1:Pre H (H++[(⟨[.ns,.i 0],0,true,2⟩:Ob)]):=⟨_,rfl⟩
 generalize H++[(⟨[.ns,.i 0],0,true,2⟩:Ob)]=X0 at hv1 hl hR hp1 ⊢
 refine (new_call hv1 hb).mono ?_
 rintro _ ⟨h,rfl⟩
 have hc:=new_cur hv1 hb h
 have hR1:=rdOb_app [(⟨[v,.i 0,.i h],0,true,3⟩:Ob)] hR
 have hp2:Pre H (X0++[(⟨[v,.i 0,.i h],0,true,3⟩:Ob)]):=hp1.app _
 have hl1:(X0++[(⟨[v,.i 0,.i h],0,true,3⟩:Ob)]).length=H.length+2:=by simp[hl]
 generalize X0++[(⟨[v,.i 0,.i h],0,true,3⟩:Ob)]=X1 at hc hR1 hp2 hl1 ⊢
 simp
 refine (draw_call hc).mono ?_
 rintro _ ⟨X,w,m,bs,rfl,⟨d,g,rfl⟩,C,hB,hbl,hb0⟩
 obtain⟨X2,hX2⟩:∃ X2,X++[(⟨[.sl d g 0 bs.length,.i m],0,true,2⟩:Ob)]=X2:=⟨_,rfl⟩
 have hF2:rdOb X2 X.length 0=some ⟨[.sl d g 0 bs.length,.i m],0,true,2⟩:=by rw[← hX2];simp
 have C2:CurL X0.length X1 X2:=by rw[← hX2];exact C.app _
 have l2:X2.length=X.length+1:=by rw[← hX2];simp
 have hCle:=C.le
 simp[putD0',hX2]
 refine (drawReads_call C2.cur).mono ?_
 rintro _ ⟨w,Z,ys,rfl,C3,hO,hOlo,hyl⟩
 have hXc:X.length≠X0.length:=by omega
 have hF3:=C3.keep _ _ _ hXc hF2
 simp[rdN_ob hF3]
 refine (drawFuel_call C3.cur).mono ?_
 rintro _ ⟨n,Y,rfl,C4,hn1,hn2⟩
 have hF4:=C4.keep _ _ _ hXc hF3
 have hR4:=((C2.trans C3).trans C4).keep _ _ _ (by omega) hR1
 have hrd:rdN (Y.set H.length ⟨[.sl d g 0 bs.length,.i m],0,true,2⟩) H.length 0 0 2=some [.sl d g 0 bs.length,.i m]:=by
  rw[rdN_ob (o:=⟨[.sl d g 0 bs.length,.i m],0,true,2⟩) (by rw[rdOb_set_self (rdOb_lt hR4)];simp)];simp
 have hO':OutR (Y.set H.length ⟨[.sl d g 0 bs.length,.i m],0,true,2⟩) w ys:=hO.keep fun id gg o hi ho=>by
  have:=hOlo id hi
  rw[rdOb_set_ne (by omega)];exact C4.keep _ _ _ (by omega) ho
 rcases hO.form with rfl | ⟨i1,g1,n1,rfl⟩
 all_goals
  simp[hF3,hF4,rdN_ob hF3,rdN_ob hF4,putD0',hR4,hrd,gc_tp3]
  refine⟨_,_,m,bs,_,ys,n,rfl,⟨d,g,rfl⟩,(((C2.trans C3).trans C4).pre hp2 (by omega)).set (Nat.le_refl _) _,?_,hbl,hb0,hO',fun id hi=>by have:=hOlo id hi;omega,hyl,hn1,hn2⟩
  rw[hl1]at hB
  exact (hB.to (((Pre.hi (lo:=H.length+2) ⟨_,hX2.symm⟩).trans ((C3.trans C4).hi (lo:=H.length+2) (by omega)) (Nat.le_refl _)).trans (Hi.set (lo:=H.length+2) (by omega) _) (Nat.le_refl _))).lower (by omega)
theorem drawRun_call {H:Hp} {v:CV} {xs:List Int} (hv:IsB H v xs) (hb:xs.length≤BIG):CM 17 [.c v] H (RunDraw H):=by
 refine cw17 ?_
 unfold vf17c
 obtain⟨X0,hX0⟩:∃ X0,H++[(⟨[.ns,.i 0],0,true,2⟩:Ob)]=X0:=⟨_,rfl⟩
 have hp0:Pre H X0:=⟨_,hX0.symm⟩
 have hR:rdOb X0 H.length 0=some ⟨[.ns,.i 0],0,true,2⟩:=by rw[← hX0];simp
 have l0:X0.length=H.length+1:=by rw[← hX0];simp
 simp[hX0]
 refine (drawAll_call (Sl.pre hp0 hv) hb).mono ?_
 rintro _ ⟨X,w,m,bs,u,ys,n,rfl,⟨d,g,rfl⟩,hp1,hB,hbl,hb0,hO,hOlo,hyl,hn1,hn2⟩
 obtain⟨X2,hX2⟩:∃ X2,X++[(⟨[.sl d g 0 bs.length,.i m],0,true,2⟩:Ob)]=X2:=⟨_,rfl⟩
 have hp2:Pre X X2:=⟨_,hX2.symm⟩
 have hF2:rdOb X2 X.length 0=some ⟨[.sl d g 0 bs.length,.i m],0,true,2⟩:=by rw[← hX2];simp
 have hR2:=(hp1.trans hp2).rdOb hR
 have hrd:rdN (X2.set H.length ⟨[.sl d g 0 bs.length,.i m],0,true,2⟩) H.length 0 0 2=some [.sl d g 0 bs.length,.i m]:=by
  rw[rdN_ob (o:=⟨[.sl d g 0 bs.length,.i m],0,true,2⟩) (by rw[rdOb_set_self (rdOb_lt hR2)];simp)];simp
 have hO':OutR (X2.set H.length ⟨[.sl d g 0 bs.length,.i m],0,true,2⟩) u ys:=hO.keep fun id gg o hi ho=>by
  have:=hOlo id hi
  rw[rdOb_set_ne (by omega)];exact hp2.rdOb ho
 rcases hO.form with rfl | ⟨i1,g1,n1,rfl⟩
 all_goals
  simp[putD0',hX2,rdN_ob hF2,hR2,hrd,gc_tp3]
  refine⟨_,_,m,bs,_,ys,n,rfl,⟨d,g,rfl⟩,((hp0.trans hp1).trans hp2).set (Nat.le_refl _) _,?_,hbl,hb0,hO',fun id hi=>by have:=hOlo id hi;omega,hyl,hn1,hn2⟩
  rw[l0]at hB
  exact (hB.to ((Pre.hi (lo:=H.length+1) hp2).trans (Hi.set (lo:=H.length+1) (by omega) _) (Nat.le_refl _))).lower (by omega)
theorem runGo_told (bs:List BlkR):∀ (n φ b:Nat) (fr:Int) (s:RunS),(runGo bs n φ b fr s).2.2.told.length≤s.told.length+φ∧(runGo bs n φ b fr s).2.2.path.length≤s.path.length+φ+1:=by
 intro n
 induction n with
 | zero=>intro φ b fr s;exact⟨Nat.le_add_right _ _,by simp only[runGo];omega⟩
 | succ n ih =>
  intro φ b fr s
  simp only[runGo]
  have h1:=listGo_told (bs.getD b blk0).list φ (comeGo b fr (bs.getD b blk0).phis s)
  have h2:(comeGo b fr (bs.getD b blk0).phis s).told=s.told:=rfl
  have h3:(comeGo b fr (bs.getD b blk0).phis s).path.length=s.path.length+1:=by simp[comeGo]
  generalize comeGo b fr (bs.getD b blk0).phis s=s1 at *
  have h4:=listGo_fuel (bs.getD b blk0).list φ s1
  generalize listGo (bs.getD b blk0).list φ s1=r at *
  have h5:r.2.2.path.length=s.path.length+1:=by rw[h1.2];exact h3
  rw[h2]at h1
  split
  ·split
   ·exact⟨by simp only;omega,by simp only;omega⟩
   ·split
    ·exact⟨by simp only;omega,by simp only;omega⟩
    ·have:=ih (r.2.1 - 1) (nextGo (bs.getD b blk0).term r.2.2).toNat (b:Int) r.2.2
     omega
  ·exact⟨by simp only;omega,by simp only;omega⟩

theorem runW_told (f:FnR) (reads:List Int) (fuel:Int):(runW f reads fuel).2.2.told.length≤BIG∧(runW f reads fuel).2.2.path.length≤BIG:=by
 unfold runW
 split
 ·have:=runGo_told f.blocks ((min fuel 5000).toNat+1) (min fuel 5000).toNat 0 (-1) (initS f.values reads)
  simp only[initS,List.length_nil]at this ⊢
  simp only[BIG]
  omega
 ·simp[BIG]


def OwnG (Y:Hp) (w:CV) (n:Nat) (cells:List CV):Prop:=(w=.ns∧n=0∧cells=[])∨∃ id g,w=.sl id g 0 n∧rdOb Y id g=some ⟨cells,g,true,1⟩∧cells.length=n

theorem OwnG.isI {Y:Hp} {w:CV} {xs:List Int} {n:Nat} (h:OwnG Y w n (xs.map .i)):IsI Y w xs:=by
 rcases h with⟨rfl,rfl,h⟩ | ⟨id,g,rfl,h,hl⟩
 ·have:xs=[]:=by simpa using h
  subst this;exact IsI.ns _
 ·exact own_isI h (by simpa using hl)

theorem OwnG.keep {Y Z:Hp} {w:CV} {n:Nat} {cells:List CV} (h:OwnG Y w n cells) (hk:∀ id g o,IsOut w id→rdOb Y id g=some o→rdOb Z id g=some o):OwnG Z w n cells:=by
 rcases h with h | ⟨id,g,rfl,h,hl⟩
 ·exact .inl h
 ·exact .inr ⟨id,g,rfl,hk _ _ _ ⟨_,_,rfl⟩ h,hl⟩

theorem RowRes.lo {H:Hp} {w:CV} {L:Hp} {xs:List Int} (h:RowRes H w L xs):∀ id,IsOut w id→H.length≤id:=by
 rintro id ⟨g,n,e⟩
 rcases h with⟨rfl,_,rfl⟩ | ⟨rfl,rfl⟩
 ·cases e
 ·cases e;exact Nat.le_refl _
theorem isI_take {X:Hp} {w:CV} {xs:List Int} (h:IsI X w xs) {k:Nat} (hk:k≤xs.length):∃ w',doSlice X 1 w none (some (.c (.i k)))=some (.c w')∧IsI X w' (xs.take k):=by
 rcases h with⟨rfl,h1,h2⟩ | ⟨id,g,off,o,rfl,h1,h2,h3,h4⟩
 ·have hx:xs=[]:=List.length_eq_zero_iff.1 h1
  subst hx
  have:k=0:=by simpa using hk
  subst this
  exact⟨.ns,by simp[doSlice],IsI.ns _⟩
 ·rw[Nat.mul_one]at h3 h4
  refine⟨.sl id g off k,by simp[doSlice,h1,h2,hk],?_⟩
  have hl:(xs.take k).length=k:=by simp;omega
  have:=IsI.mk (xs:=xs.take k) (off:=off) h1 h2 (by rw[hl];omega) (by
   rw[hl,List.map_take,← h4,List.take_take,Nat.min_eq_left hk])
  rwa [hl]at this
set_option maxRecDepth 100000 in
theorem pruned_law {H:Hp} {v:CV} {xs:List Int} (hv:IsB H v xs):CM 5 [.c v] H Tru:=by
 refine cw5 ?_
 unfold vf5c
 by_cases hbig:1048576<xs.length
 ·simp[big_call hv.lenOf,hbig]
 have hb:xs.length≤BIG:=by simp only[BIG];omega
 simp[big_call hv.lenOf,hbig]
 refine (drawRun_call hv hb).mono ?_
 rintro _ ⟨X,w,m,bs,rv,reads,n,rfl,⟨d,g,rfl⟩,hp,hB,hbl,h0,hO,_,hrl,hn1,hn2⟩
 obtain⟨X1,hX1⟩:∃ X1,X++[(⟨[.sl d g 0 bs.length,.i m],0,true,2⟩:Ob)]=X1:=⟨_,rfl⟩
 have hp1:Pre X X1:=⟨_,hX1.symm⟩
 have hB1:Blocks X1 (.sl d g 0 bs.length) bs:=(hB _ (Hi.refl _ _)).pre hp1
 have hF1:rdOb X1 X.length 0=some ⟨[.sl d g 0 bs.length,.i m],0,true,2⟩:=by rw[← hX1];simp
 have hR1:IsI X1 rv reads:=Sl.pre hp1 hO.isI
 have hrb:reads.length≤BIG:=by simp only[BIG];omega
 obtain⟨f,hf⟩:∃ f:FnR,f=⟨bs,m⟩:=⟨_,rfl⟩
 obtain rfl:bs=f.blocks:=by rw[hf]
 obtain rfl:m=f.values:=by rw[hf]
 clear hf
 obtain⟨vv,hvv⟩:∃ vv,CV.sl d g 0 f.blocks.length=vv:=⟨_,rfl⟩
 rw[hvv]at hX1 hB1 hF1
 have hl1:=prune0_le hbl
 have hcheck:=prune_well f
 have hcost:=prune_cost f
 obtain⟨hrun1,hrun2⟩:=prune_run f reads n
 obtain⟨h1,hh1⟩:∃ h1,prune0 f=h1:=⟨_,rfl⟩
 rw[hh1]at hl1 hcheck hcost hrun1 hrun2
 have hcost':¬ costF f<costF h1:=by omega
 obtain⟨q,hq⟩:∃ q,runW f reads n=q:=⟨_,rfl⟩
 obtain⟨r,hr⟩:∃ r,runW h1 reads n=r:=⟨_,rfl⟩
 have htl:=(runW_told f reads n).1
 rw[hq]at htl hrun1 hrun2
 rw[hr]at hrun1 hrun2
 rcases hO.form with rfl | ⟨i1,g1,n1,rfl⟩
 all_goals
  simp[hvv,putD0',hX1,rdN_ob hF1]
  refine (implPrune hB1 hbl).mono ?_
  rw[hh1]
  rintro _ ⟨w1,L1,rfl,hT1⟩
  obtain⟨X2,hX2⟩:∃ X2,X1++L1=X2:=⟨_,rfl⟩
  have hp2:Pre X1 X2:=⟨_,hX2.symm⟩
  rw[hX2]at hT1 ⊢
  obtain⟨X3,hX3⟩:∃ X3,X2++[(⟨[w1,.i h1.values],0,true,2⟩:Ob)]=X3:=⟨_,rfl⟩
  have hp3:Pre X2 X3:=⟨_,hX3.symm⟩
  have hG3:rdOb X3 X2.length 0=some ⟨[w1,.i h1.values],0,true,2⟩:=by rw[← hX3];simp
  have hF3:=(hp2.trans hp3).rdOb hF1
  have hB3:=hB1.pre (hp2.trans hp3)
  have hW3:=(Tree.blocks hT1).pre hp3
  simp[putAt,hX3,rdN_ob hF3]
  refine (specPrune hB3 hbl).mono ?_
  rw[hh1]
  rintro _ ⟨w2,L2,rfl,hT2⟩
  obtain⟨X4,hX4⟩:∃ X4,X3++L2=X4:=⟨_,rfl⟩
  have hp4:Pre X3 X4:=⟨_,hX4.symm⟩
  rw[hX4]at hT2 ⊢
  obtain⟨X5,hX5⟩:∃ X5,X4++[(⟨[w2,.i h1.values],0,true,2⟩:Ob)]=X5:=⟨_,rfl⟩
  have hp5:Pre X4 X5:=⟨_,hX5.symm⟩
  have hH5:rdOb X5 X4.length 0=some ⟨[w2,.i h1.values],0,true,2⟩:=by rw[← hX5];simp
  have hp35:=hp4.trans hp5
  have hF5:=hp35.rdOb hF3
  have hG5:=hp35.rdOb hG3
  have hB5:=hB3.pre hp35
  have hW5:=hW3.pre hp35
  have hV5:=(Tree.blocks hT2).pre hp5
  have hR5:=Sl.pre ((hp2.trans hp3).trans hp35) hR1
  simp[putAt,hX5,rdN_ob hF5,rdN_ob hG5,rdN_ob hH5,sameFn_call hW5 hV5 hl1,implCheck hW5 hl1,implCheck hB5 hbl,hcheck,implCost hW5 hl1,implCost hB5 hbl,hcost',hF5,hG5]
  refine (implRun hB5 hbl hR5).mono ?_
  rw[hq]
  rintro _ ⟨X6,tI,rfl,hp6,hI6,_⟩
  simp[rdN_ob (hp6.rdOb hG5)]
  refine (implRun (hW5.pre hp6) hl1 (Sl.pre hp6 hR5)).mono ?_
  rw[hr]
  rintro _ ⟨X7,tJ,rfl,hp7,hJ7,_⟩
  have hI7:=Sl.pre hp7 hI6.isI
  by_cases hc:q.1=1
  ·obtain⟨hne,hpre⟩:=hrun2 hc
   have hle:=hpre.length_le
   obtain⟨w3,e3,i3⟩:=isI_take hJ7.isI hle
   rw[← List.prefix_iff_eq_take.1 hpre]at i3
   simp[hc,hne,hI7.lenOf,hJ7.isI.lenOf,hle,e3,sameInts_call hI7 i3 htl]
  ·obtain⟨a1,a2,a3⟩:=hrun1 hc
   have hJ7':=hJ7.isI
   rw[a3]at hJ7'
   simp[hc,a1,a2,sameInts_call hI7 hJ7' htl]
end Go.Proofs.YtiecgmmaihckeaaGreat.Vm
