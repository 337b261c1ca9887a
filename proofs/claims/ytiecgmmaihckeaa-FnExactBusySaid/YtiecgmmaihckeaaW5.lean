/- A part of the proof: the machine and the walks. No conditions. -/
import Derived.Test.YtiecgmmaihckeaaW4
namespace Go.Proofs.Ytiecgmmaihckeaa.Vm
open Go.RowKit (wrap64)
set_option linter.unusedSimpArgs false
set_option linter.unusedVariables false
set_option maxRecDepth 100000
theorem putAt_set {vs:List CV} {b:Nat} (h:b<vs.length) (c:CV):putAt vs b [c]=vs.set b c:=by
 unfold putAt
 rw[List.set_eq_take_append_cons_drop,if_pos h];simp

structure RowsO (X:Hp) (o g:Nat) (vs:List CV) (ins:List (List Bool)):Prop where
 ob:rdOb X o g=some ⟨vs,g,true,1⟩
 len:vs.length=ins.length
 row:∀ k (h:k<ins.length),∃ id gg,vs[k]? = some (.sl id gg 0 ins[k].length)∧id≠o∧rdOb X id gg=some ⟨ins[k].map .b,gg,true,1⟩

section

variable {X Y:Hp} {o g:Nat} {vs:List CV} {ins:List (List Bool)}

theorem RowsO.rows (h:RowsO X o g vs ins):Rows X (.sl o g 0 ins.length) ins:=⟨o,g,vs,rfl,h.ob,h.len,fun k hk=>by
 obtain⟨id,gg,h1,_,h3⟩:=h.row k hk
 exact⟨_,h1,id,gg,rfl,h3⟩⟩

theorem RowsO.pre (h:RowsO X o g vs ins) (hp:Pre X Y):RowsO Y o g vs ins:=⟨hp.rdOb h.ob,h.len,fun k hk=>by
 obtain⟨id,gg,h1,h2,h3⟩:=h.row k hk
 exact⟨id,gg,h1,h2,hp.rdOb h3⟩⟩

theorem RowsO.put (h:RowsO X o g vs ins) {b:Nat} (hb:b<ins.length) {id gg:Nat} {r:List Bool} (hid:id≠o) (hr:rdOb X id gg=some ⟨r.map .b,gg,true,1⟩) :
  RowsO (X.set o ⟨vs.set b (.sl id gg 0 r.length),g,true,1⟩) o g (vs.set b (.sl id gg 0 r.length)) (ins.set b r):=by
 have hlt:=rdOb_lt h.ob
 refine⟨by rw[rdOb_set_self hlt];simp,by simp[h.len],fun k hk=>?_⟩
 have hk':k<ins.length:=by simpa using hk
 by_cases e:b=k
 ·subst e
  refine⟨id,gg,?_,hid,?_⟩
  ·rw[List.getElem?_set,if_pos rfl,if_pos (by rw[h.len];exact hb)];simp
  ·rw[rdOb_set_ne hid,hr];simp
 ·obtain⟨id',gg',h1,h2,h3⟩:=h.row k hk'
  refine⟨id',gg',?_,h2,?_⟩
  ·rw[List.getElem?_set,if_neg e,h1,List.getElem_set_ne e]
  ·rw[rdOb_set_ne h2,h3,List.getElem_set_ne e]

theorem RowsO.push (h:RowsO X o g vs ins) {id gg g':Nat} {r:List Bool} (hid:id≠o) (hr:rdOb X id gg=some ⟨r.map .b,gg,true,1⟩) :
  RowsO (X.set o ⟨vs++[.sl id gg 0 r.length],g',true,1⟩) o g' (vs++[.sl id gg 0 r.length]) (ins++[r]):=by
 have hlt:=rdOb_lt h.ob
 refine⟨by rw[rdOb_set_self hlt];simp,by simp[h.len],fun k hk=>?_⟩
 by_cases e:k<ins.length
 ·obtain⟨id',gg',h1,h2,h3⟩:=h.row k e
  refine⟨id',gg',?_,h2,?_⟩
  ·rw[List.getElem?_append_left (by rw[h.len];exact e),h1,List.getElem_append_left e]
  ·rw[rdOb_set_ne h2,h3,List.getElem_append_left e]
 ·have ek:k=ins.length:=by simp at hk;omega
  subst ek
  refine⟨id,gg,?_,hid,?_⟩
  ·rw[List.getElem?_append_right (by rw[h.len];exact Nat.le_refl _),h.len,Nat.sub_self];simp
  ·rw[rdOb_set_ne hid,hr];simp

theorem RowsO.pushA (h:RowsO X o g vs ins) (hl:vs.length≤1000) (c:CV):doApp X 1 (.sl o g 0 ins.length) 1 [c]=some (.c (.sl o (g+1) 0 (ins.length+1)),X.set o ⟨vs++[c],g+1,true,1⟩):=by
 have:=app_own (X:=X) (o:=o) (g:=g) (n:=ins.length) (sz:=1) (m:=1) (cs:=vs) (xs:=[c]) h.ob (by rw[h.len];simp) (by simp) (by simp only[LIM,List.length_cons,List.length_nil];omega)
 exact this

end

theorem gc_rows {X Y:Hp} {o g n:Nat} {vs:List CV} (ho:rdOb Y o g=some ⟨vs,g,true,1⟩) (hv:∃ c∈vs,flatC c=false):gcRet X (.c (.sl o g 0 n)) Y=(.c (.sl o g 0 n),Y):=by
 unfold gcRet
 split
 ·rw[if_neg (by simp[flatV,flatC])]
  simp only
  split
  ·obtain⟨h1,h2⟩:=rdOb_some.1 ho
   rw[h1]
   simp only
   rw[if_neg]
   rintro⟨_,_,h3⟩
   obtain⟨c,hc,hcf⟩:=hv
   rw[List.all_eq_true]at h3
   rw[h3 c hc]at hcf;cases hcf
  ·rfl
 ·rfl

def LiveRes (X:Hp) (f:FnR) (r:IV×Hp):Prop:=∃ w Y,r=(.c w,Y)∧Pre X Y∧Rows Y w (liveW f)∧LiveR f (liveW f)

theorem RowsO.res {X Y:Hp} {o g:Nat} {vs:List CV} {f:FnR} {ins:List (List Bool)} (h:RowsO Y o g vs ins) (hp:Pre X Y) (hL:LiveR f ins) (h0:0<f.blocks.length):LiveRes X f (gcRet X (.c (.sl o g 0 ins.length)) Y):=by
 have hl:=hL.good.len
 have hflat:∃ c∈vs,flatC c=false:=by
  obtain⟨id,gg,h1,_,_⟩:=h.row 0 (by omega)
  exact⟨_,List.mem_of_getElem? h1,rfl⟩
 rw[gc_rows h.ob hflat]
 have e:=liveW_eq hL
 refine⟨_,Y,rfl,hp,?_,?_⟩
 ·rw[← e];exact h.rows
 ·rw[← e];exact hL

theorem befF_impl {f:FnR} {b:Nat} (hb:b<f.blocks.length) (ins:List (List Bool)) (i:Nat):bkL f.blocks[b].list (markAll (outTo f.values.toNat ins (succsF f.blocks[b].term)) (tusesF f.blocks[b].term)) i=befF f ins b i:=by
 unfold befF endF
 rw[blk_at hb]

set_option maxRecDepth 100000 in
theorem implLive {X:Hp} {v:CV} {f:FnR} (hv:Blocks X v f.blocks) (hsh:shapeB f=true):CM 24 [.agg [v,.i f.values]] X (LiveRes X f):=by
 refine cw24 ?_
 unfold vf24c
 obtain⟨s1,s2,s3,s4⟩:=shape_len hsh
 have hbb:f.blocks.length≤BIG:=by simp only[BIG];omega
 obtain⟨N,hNv⟩:∃ N:Nat,f.values=N:=⟨f.values.toNat,by omega⟩
 have hNt:f.values.toNat=N:=by omega
 have hlim:N≤LIM:=by simp only[LIM];omega
 obtain⟨X1,hX1⟩:∃ X1,X++[(⟨[v,.i f.values],0,true,2⟩:Ob)]=X1:=⟨_,rfl⟩
 have hp1:Pre X X1:=⟨_,hX1.symm⟩
 have l1:X1.length=X.length+1:=by rw[← hX1];simp
 have hB1:rdOb X1 X.length 0=some ⟨[v,.i f.values],0,true,2⟩:=by rw[← hX1];simp
 obtain⟨X2,hX2⟩:∃ X2,X1++[(⟨[],0,true,1⟩:Ob)]=X2:=⟨_,rfl⟩
 have hp2:Pre X1 X2:=⟨_,hX2.symm⟩
 have hO2:rdOb X2 X1.length 0=some ⟨[],0,true,1⟩:=by rw[← hX2];simp
 have hB2:=hp2.rdOb hB1
 have hvl:=hv.lenOf
 obtain⟨o,ho⟩:∃ o,X1.length=o:=⟨_,rfl⟩
 have e1:X.length+1=o:=by omega
 have hX12:X++[(⟨[v,.i f.values],0,true,2⟩:Ob),⟨[],0,true,1⟩]=X2:=by rw[← hX2,← hX1];simp
 simp[hX1,hX12,hX2,e1,ho,rdC_ob hB2,hvl]
 obtain⟨I,hI⟩:∃ I:Nat→St→Prop,∀ i st,I i st↔(∃ g vs,Pre X1 st.h∧RowsO st.h o g vs (List.replicate i (List.replicate N false))∧Env.get st.e 1=.c (.p X.length 0 0)∧Env.get st.e 3=.c (.sl o g 0 i)∧Env.get st.e 10=.c (.i f.blocks.length)∧Env.get st.e 11=.c (.i i)):=⟨_,fun _ _=>Iff.rfl⟩
 refine wp_for CM_mono f.blocks.length I ?_ ?_ ?_
 ·refine (hI _ _).2 ⟨0,[],hp2,⟨by rw[← ho];exact hO2,rfl,fun k hk=>by simp at hk⟩,?_⟩
  simp
 ·rintro i ⟨e,Y⟩ hi hIs
  obtain⟨g,vs,hY,hR,e1',e3,e10,e11⟩:=(hI _ _).1 hIs
  simp only at hY hR e1' e3 e10 e11 ⊢
  have hBY:=hY.rdOb hB1
  have hlt:=rdOb_lt hR.ob
  obtain⟨Y1,hY1⟩:∃ Y1,Y++[(⟨List.replicate N (CV.b false),0,true,1⟩:Ob)]=Y1:=⟨_,rfl⟩
  have hq1:Pre Y Y1:=⟨_,hY1.symm⟩
  have m1:rdOb Y1 Y.length 0=some ⟨(List.replicate N false).map .b,0,true,1⟩:=by rw[← hY1];simp
  obtain⟨Y2,hY2⟩:∃ Y2,Y1++[(⟨[.sl Y.length 0 0 N],0,true,1⟩:Ob)]=Y2:=⟨_,rfl⟩
  have hq2:Pre Y1 Y2:=⟨_,hY2.symm⟩
  have m2:rdOb Y2 Y1.length 0=some ⟨[.sl Y.length 0 0 N],0,true,1⟩:=by rw[← hY2];simp
  have ly1:Y1.length=Y.length+1:=by rw[← hY1];simp
  have hR2:=hR.pre (hq1.trans hq2)
  have happ:=hR2.pushA (by rw[hR.len];simp;omega) (.sl Y.length 0 0 N)
  have hne:Y.length≠o:=by omega
  have hpush:=hR2.push (g':=g+1) hne (hq2.rdOb m1)
  simp only[List.length_replicate]at happ hpush
  obtain⟨Y3,hY3⟩:∃ Y3,Y2.set o ⟨vs++[.sl Y.length 0 0 N],g+1,true,1⟩=Y3:=⟨_,rfl⟩
  rw[hY3]at happ hpush
  have hY12:Y++[(⟨List.replicate N (CV.b false),0,true,1⟩:Ob),⟨[.sl Y.length 0 0 N],0,true,1⟩]=Y2:=by rw[← hY2,← hY1];simp
  have ely:Y.length+1=Y1.length:=by omega
  unfold vf24b0
  simp[e1',e3,e10,e11,hi,rdC_ob hBY,hNv,hlim,hY1,hY2,hY12,ely,putAt,srcOf,m2,happ,up1 hi hbb]
  refine (hI _ _).2 ⟨g+1,vs++[.sl Y.length 0 0 N],?_,?_,?_⟩
  ·rw[← hY3];exact ((hY.trans hq1).trans hq2).set (by omega) _
  ·rw[List.replicate_succ'];exact hpush
  ·simp[e1',e10]
 ·rintro⟨e,Y⟩ hIs
  obtain⟨g,vs,hY,hR,e1',e3,e10,e11⟩:=(hI _ _).1 hIs
  simp only at hY hR e1' e3 e10 e11 ⊢
  unfold vf24b0
  simp[e1',e3,e10,e11]
  obtain⟨J,hJ⟩:∃ J:Nat→St→Prop,∀ k st,J k st↔(∃ ins vs j flag,k=2 * fal ins+(if flag=true then 1 else 0)∧ins=swN f j∧(flag=false→sweep f ins=ins)∧Pre X1 st.h∧RowsO st.h o g vs ins∧Env.get st.e 1=.c (.p X.length 0 0)∧Env.get st.e 3=.c (.sl o g 0 f.blocks.length)∧Env.get st.e 4=.c (.b flag)):=⟨_,fun _ _=>Iff.rfl⟩
  refine wp_loop CM_mono J (k:=2 * fal (ins0 f)+1) ?_ ?_
  ·refine (hJ _ _).2 ⟨ins0 f,vs,0,true,by simp,rfl,fun h=>by simp at h,hY,?_,?_⟩
   ·unfold ins0;rw[hNt];exact hR
   ·simp[e1',e3]
  ·rintro k ⟨e',Z⟩ hJs
   obtain⟨ins,vs,j,flag,hk,hins,hfix,hZ,hR,f1,f3,f4⟩:=(hJ _ _).1 hJs
   simp only at hZ hR f1 f3 f4 ⊢
   have hG:=goodN f j
   rw[← hins]at hG
   have hBZ:=hZ.rdOb hB1
   unfold vf24b2
   cases flag with
   | false =>
    have hL:LiveR f ins:=⟨hfix rfl,j,hins⟩
    simp[f1,f3,f4]
    have:=hR.res (hp1.trans hZ) hL (by omega)
    rw[hG.len]at this
    exact this
   | true =>
    simp[f1,f3,f4,rdC_ob hBZ,hvl,up_sub hbb]
    obtain⟨L,hL⟩:∃ L:Nat→St→Prop,∀ t st,L t st↔(∃ vs,Pre X1 st.h∧RowsO st.h o g vs (swTo f ins t)∧Env.get st.e 1=.c (.p X.length 0 0)∧Env.get st.e 3=.c (.sl o g 0 f.blocks.length)∧Env.get st.e 4=.c (.b (chTo f ins t))∧Env.get st.e 5=.c (.i ((f.blocks.length:Int) - 1 - t))):=⟨_,fun _ _=>Iff.rfl⟩
    refine wp_for CM_mono f.blocks.length L ?_ ?_ ?_
    ·refine (hL _ _).2 ⟨vs,hZ,hR,?_⟩
     simp[f1,f3,chTo]
    ·rintro t ⟨e'',W⟩ ht hLs
     obtain⟨vs,hW,hR,f1,f3,f4,f5⟩:=(hL _ _).1 hLs
     simp only at hW hR f1 f3 f4 f5 ⊢
     obtain⟨hGt,_,_,_⟩:=hG.to t (by omega)
     obtain⟨b,hbe⟩:∃ b,f.blocks.length - 1 - t=b:=⟨_,rfl⟩
     have hb:b<f.blocks.length:=by omega
     have hcast:(f.blocks.length:Int) - 1 - t=(b:Int):=by omega
     have hsw:swTo f ins (t+1)=swStep f (swTo f ins t) b:=by rw[← hbe];rfl
     have hch:chTo f ins (t+1)=(chTo f ins t || !decide (befF f (swTo f ins t) b 0=(swTo f ins t).getD b [])):=by rw[← hbe];rfl
     have hnext:(f.blocks.length:Int) - 1 - ((t+1:Nat):Int)=(b:Int) - 1:=by omega
     rw[hcast]at f5
     obtain⟨cur,hcur⟩:∃ cur,swTo f ins t=cur:=⟨_,rfl⟩
     rw[hcur]at hR hGt hsw hch
     obtain⟨c0,hc0⟩:∃ c0,chTo f ins t=c0:=⟨_,rfl⟩
     rw[hc0]at f4 hch
     have hrw:Rows W (.sl o g 0 f.blocks.length) cur:=by have:=hR.rows;rwa [hGt.len]at this
     have hAt:=fun k=>implAtEnd (hv.pre (hp1.trans hW)) hsh hrw hGt.len hGt.row hb k
     obtain⟨W1,hW1⟩:∃ W1,W++[(⟨(outTo f.values.toNat cur (succsF f.blocks[b].term)).map .b,0,true,1⟩:Ob)]=W1:=⟨_,rfl⟩
     have hq1:Pre W W1:=⟨_,hW1.symm⟩
     simp only[hW1]at hAt
     have m1:rdOb W1 W.length 0=some ⟨(outTo f.values.toNat cur (succsF f.blocks[b].term)).map .b,0,true,1⟩:=by rw[← hW1];simp
     have hOB1:OB W1 (.sl W.length 0 0 f.values.toNat) (outTo f.values.toNat cur (succsF f.blocks[b].term)):=⟨_,0,by rw[outTo_len],m1⟩
     have hBk:=fun k=>implBack (hv.pre ((hp1.trans hW).trans hq1)) hsh hOB1 (outTo_len _ _ _) hb (i:=0) (Nat.zero_le _) k
     simp only[befF_impl hb,Int.natCast_zero]at hBk
     have hnl:=befF_len f cur b 0
     obtain⟨nx,hnx⟩:∃ nx,befF f cur b 0=nx:=⟨_,rfl⟩
     simp only[hnx]at hBk hnl hch
     obtain⟨W2,hW2⟩:∃ W2,W1++[(⟨nx.map .b,0,true,1⟩:Ob)]=W2:=⟨_,rfl⟩
     have hq2:Pre W1 W2:=⟨_,hW2.symm⟩
     simp only[hW2]at hBk
     have m2:rdOb W2 W1.length 0=some ⟨nx.map .b,0,true,1⟩:=by rw[← hW2];simp
     have hOB2:OB W2 (.sl W1.length 0 0 f.values.toNat) nx:=⟨_,0,by rw[hnl],m2⟩
     have hR2:=hR.pre (hq1.trans hq2)
     have hbc:b<cur.length:=by rw[hGt.len];exact hb
     obtain⟨id,gg,r1,r2,r3⟩:=hR2.row b hbc
     have hcl:=hGt.row _ (List.getElem_mem hbc)
     rw[getD_rowB hbc]at hch
     obtain⟨old,hold⟩:∃ old,cur[b]=old:=⟨_,rfl⟩
     rw[hold]at r1 r3 hcl hch
     have hOB3:OB W2 (.sl id gg 0 old.length) old:=⟨_,_,rfl,r3⟩
     have hEq:=fun k=>equalB hOB2 hOB3 (by rw[hnl,hcl]) (by rw[hnl,hNt];simp only[BIG];omega) k
     have hBW:=hW.rdOb hB1
     have hBW1:=hq1.rdOb hBW
     have hBW2:=hq2.rdOb hBW1
     have hix:idxOf 1 (.sl o g 0 f.blocks.length) (b:Int)=some (.p o g b):=by simp[idxOf,hb]
     have hrd:rdC W2 o g b=some (.sl id gg 0 old.length):=by rw[rdC_ob hR2.ob];exact r1
     have hwd:wrap64 ((b:Int) - 1)=(b:Int) - 1:=dn_sub (by omega) (by simp only[BIG]at hbb;omega)
     obtain⟨_,_,hsame⟩:=hGt.fal hb
     rw[hnx,getD_rowB hbc,hold]at hsame
     unfold vf24b1
     by_cases he:nx=old
     ·rw[hsame he]at hsw
      simp only[he,decide_true,Bool.not_true,Bool.or_false]at hch
      simp[f1,f3,f4,f5,rdN_ob hBW,hBW,hBW1,rdN_ob hBW1,hAt,hBk,hix,hrd,hEq,he,hwd]
      refine (hL _ _).2 ⟨vs,(hW.trans hq1).trans hq2,by rw[hsw];exact hR2,?_⟩
      rw[hch,hnext];simp[f1,f3,f4]
     ·have hWo:W1.length≠o:=by
       have h1:=rdOb_lt hR.ob
       have h2:W1.length=W.length+1:=by rw[← hW1];simp
       omega
      have hput:=hR2.put hbc hWo m2
      have hsv:putAt vs b [.sl W1.length 0 0 nx.length]=vs.set b (.sl W1.length 0 0 nx.length):=putAt_set (by rw[hR.len];exact hbc) _
      rw[hnl]at hput hsv
      obtain⟨W3,hW3⟩:∃ W3,W2.set o ⟨vs.set b (.sl W1.length 0 0 f.values.toNat),g,true,1⟩=W3:=⟨_,rfl⟩
      rw[hW3]at hput
      have hbv:b+1≤vs.length:=by rw[hR.len];exact hbc
      have hch':chTo f ins (t+1)=true:=by rw[hch];simp[he]
      simp[f1,f3,f4,f5,rdN_ob hBW,hBW,hBW1,rdN_ob hBW1,hAt,hBk,hix,hrd,hEq,he,hwd,hR2.ob,hsv,hW3,hbv]
      refine (hL _ _).2 ⟨vs.set b (.sl W1.length 0 0 f.values.toNat),?_,?_,?_⟩
      ·rw[← hW3];exact ((hW.trans hq1).trans hq2).set (by omega) _
      ·rw[hsw];unfold swStep;rw[hnx];exact hput
      ·rw[hch',hnext];simp[f1,f3]
    ·rintro⟨e'',W⟩ hLs
     obtain⟨vs,hW,hR,f1,f3,f4,f5⟩:=(hL _ _).1 hLs
     simp only at hW hR f1 f3 f4 f5 ⊢
     obtain⟨g1,g2,g3,g4⟩:=hG.to f.blocks.length (Nat.le_refl _)
     have hneg:¬ (0≤(f.blocks.length:Int) - 1 - (f.blocks.length:Int)):=by omega
     unfold vf24b1
     have hneg2:¬ ((f.blocks.length:Int)≤(f.blocks.length:Int) - 1):=by omega
     simp[f1,f3,f4,f5,hneg,hneg2]
     refine⟨2 * fal (sweep f ins)+(if chTo f ins f.blocks.length=true then 1 else 0),?_,(hJ _ _).2 ⟨sweep f ins,vs,j+1,chTo f ins f.blocks.length,rfl,by rw[hins];rfl,fun hc=>?_,hW,hR,?_⟩⟩
     ·rw[hk]
      have h2':fal (sweep f ins)≤fal ins:=g2
      cases hc:chTo f ins f.blocks.length with
      | true =>
       have h3':fal (sweep f ins)<fal ins:=g3 hc
       simp;omega
      | false=>simp;omega
     ·have h4':sweep f ins=ins:=g4 hc
      rw[h4',h4']
     ·simp[f1,f3,f4]
def difTo (a b:List Bool) (i:Nat):Bool:=(List.range i).any fun v=>a.getD v false != b.getD v false

theorem difTo_succ (a b:List Bool) (i:Nat):difTo a b (i+1)=(difTo a b i || (a.getD i false != b.getD i false)):=by
 unfold difTo
 rw[List.range_succ,List.any_append];simp only[List.any_cons,List.any_nil,Bool.or_false]

theorem difTo_all {a b:List Bool} (hl:a.length=b.length):difTo a b a.length=!decide (a=b):=by
 by_cases h:a=b
 ·subst h
  unfold difTo
  simp
 ·rw[decide_eq_false h,Bool.not_false]
  unfold difTo
  rw[List.any_eq_true]
  apply Classical.byContradiction
  intro hn
  refine h (List.ext_getElem hl fun i h1 h2=>?_)
  apply Classical.byContradiction
  intro hne
  refine hn ⟨i,List.mem_range.2 h1,?_⟩
  rw[getD_bit h1,getD_bit h2]
  simpa using hne

set_option maxRecDepth 100000 in
theorem specLive {X:Hp} {v:CV} {f:FnR} (hv:Blocks X v f.blocks) (hsh:shapeB f=true):CM 18 [.agg [v,.i f.values]] X (LiveRes X f):=by
 refine cw18 ?_
 unfold vf18c
 obtain⟨s1,s2,s3,s4⟩:=shape_len hsh
 have hbb:f.blocks.length≤BIG:=by simp only[BIG];omega
 obtain⟨N,hNv⟩:∃ N:Nat,f.values=N:=⟨f.values.toNat,by omega⟩
 have hNt:f.values.toNat=N:=by omega
 have hlim:N≤LIM:=by simp only[LIM];omega
 obtain⟨X1,hX1⟩:∃ X1,X++[(⟨[v,.i f.values],0,true,2⟩:Ob)]=X1:=⟨_,rfl⟩
 have hp1:Pre X X1:=⟨_,hX1.symm⟩
 have l1:X1.length=X.length+1:=by rw[← hX1];simp
 have hB1:rdOb X1 X.length 0=some ⟨[v,.i f.values],0,true,2⟩:=by rw[← hX1];simp
 obtain⟨X2,hX2⟩:∃ X2,X1++[(⟨[],0,true,1⟩:Ob)]=X2:=⟨_,rfl⟩
 have hp2:Pre X1 X2:=⟨_,hX2.symm⟩
 have hO2:rdOb X2 X1.length 0=some ⟨[],0,true,1⟩:=by rw[← hX2];simp
 have hB2:=hp2.rdOb hB1
 have hvl:=hv.lenOf
 obtain⟨o,ho⟩:∃ o,X1.length=o:=⟨_,rfl⟩
 have e1:X.length+1=o:=by omega
 have hX12:X++[(⟨[v,.i f.values],0,true,2⟩:Ob),⟨[],0,true,1⟩]=X2:=by rw[← hX2,← hX1];simp
 simp[hX1,hX12,hX2,e1,ho,rdC_ob hB2,hvl]
 obtain⟨I,hI⟩:∃ I:Nat→St→Prop,∀ i st,I i st↔(∃ g vs,Pre X1 st.h∧RowsO st.h o g vs (List.replicate i (List.replicate N false))∧Env.get st.e 1=.c (.p X.length 0 0)∧Env.get st.e 3=.c (.sl o g 0 i)∧Env.get st.e 4=.c (.i i)):=⟨_,fun _ _=>Iff.rfl⟩
 refine wp_for CM_mono f.blocks.length I ?_ ?_ ?_
 ·refine (hI _ _).2 ⟨0,[],hp2,⟨by rw[← ho];exact hO2,rfl,fun k hk=>by simp at hk⟩,?_⟩
  simp
 ·rintro i ⟨e,Y⟩ hi hIs
  obtain⟨g,vs,hY,hR,e1',e3,e4⟩:=(hI _ _).1 hIs
  simp only at hY hR e1' e3 e4 ⊢
  have hBY:=hY.rdOb hB1
  have hlt:=rdOb_lt hR.ob
  obtain⟨Y1,hY1⟩:∃ Y1,Y++[(⟨List.replicate N (CV.b false),0,true,1⟩:Ob)]=Y1:=⟨_,rfl⟩
  have hq1:Pre Y Y1:=⟨_,hY1.symm⟩
  have m1:rdOb Y1 Y.length 0=some ⟨(List.replicate N false).map .b,0,true,1⟩:=by rw[← hY1];simp
  obtain⟨Y2,hY2⟩:∃ Y2,Y1++[(⟨[.sl Y.length 0 0 N],0,true,1⟩:Ob)]=Y2:=⟨_,rfl⟩
  have hq2:Pre Y1 Y2:=⟨_,hY2.symm⟩
  have m2:rdOb Y2 Y1.length 0=some ⟨[.sl Y.length 0 0 N],0,true,1⟩:=by rw[← hY2];simp
  have ly1:Y1.length=Y.length+1:=by rw[← hY1];simp
  have hR2:=hR.pre (hq1.trans hq2)
  have happ:=hR2.pushA (by rw[hR.len];simp;omega) (.sl Y.length 0 0 N)
  have hne:Y.length≠o:=by omega
  have hpush:=hR2.push (g':=g+1) hne (hq2.rdOb m1)
  simp only[List.length_replicate]at happ hpush
  obtain⟨Y3,hY3⟩:∃ Y3,Y2.set o ⟨vs++[.sl Y.length 0 0 N],g+1,true,1⟩=Y3:=⟨_,rfl⟩
  rw[hY3]at happ hpush
  have hY12:Y++[(⟨List.replicate N (CV.b false),0,true,1⟩:Ob),⟨[.sl Y.length 0 0 N],0,true,1⟩]=Y2:=by rw[← hY2,← hY1];simp
  have ely:Y.length+1=Y1.length:=by omega
  unfold vf18b0
  simp[e1',e3,e4,hi,rdC_ob hBY,hvl,hNv,hlim,hY1,hY2,hY12,ely,putAt,srcOf,m2,happ,up1 hi hbb]
  refine (hI _ _).2 ⟨g+1,vs++[.sl Y.length 0 0 N],?_,?_,?_⟩
  ·rw[← hY3];exact ((hY.trans hq1).trans hq2).set (by omega) _
  ·rw[List.replicate_succ'];exact hpush
  ·simp[e1']
 ·rintro⟨e,Y⟩ hIs
  obtain⟨g,vs,hY,hR,e1',e3,e4⟩:=(hI _ _).1 hIs
  simp only at hY hR e1' e3 e4 ⊢
  unfold vf18b0
  simp[e1',e3,e4,rdC_ob (hY.rdOb hB1),hvl]
  obtain⟨J,hJ⟩:∃ J:Nat→St→Prop,∀ k st,J k st↔(∃ ins vs j flag,k=2 * fal ins+(if flag=true then 1 else 0)∧ins=swN f j∧(flag=false→sweep f ins=ins)∧Pre X1 st.h∧RowsO st.h o g vs ins∧Env.get st.e 1=.c (.p X.length 0 0)∧Env.get st.e 3=.c (.sl o g 0 f.blocks.length)∧Env.get st.e 5=.c (.b flag)):=⟨_,fun _ _=>Iff.rfl⟩
  refine wp_loop CM_mono J (k:=2 * fal (ins0 f)+1) ?_ ?_
  ·refine (hJ _ _).2 ⟨ins0 f,vs,0,true,by simp,rfl,fun h=>by simp at h,hY,?_,?_⟩
   ·unfold ins0;rw[hNt];exact hR
   ·simp[e1',e3]
  ·rintro k ⟨e',Z⟩ hJs
   obtain⟨ins,vs,j,flag,hk,hins,hfix,hZ,hR,f1,f3,f5⟩:=(hJ _ _).1 hJs
   simp only at hZ hR f1 f3 f5 ⊢
   have hG:=goodN f j
   rw[← hins]at hG
   have hBZ:=hZ.rdOb hB1
   unfold vf18b3
   cases flag with
   | false =>
    have hL:LiveR f ins:=⟨hfix rfl,j,hins⟩
    simp[f1,f3,f5]
    have:=hR.res (hp1.trans hZ) hL (by omega)
    rw[hG.len]at this
    exact this
   | true =>
    simp[f1,f3,f5,rdC_ob hBZ,hvl,up_sub hbb]
    obtain⟨L,hL⟩:∃ L:Nat→St→Prop,∀ t st,L t st↔(∃ vs,Pre X1 st.h∧RowsO st.h o g vs (swTo f ins t)∧Env.get st.e 1=.c (.p X.length 0 0)∧Env.get st.e 3=.c (.sl o g 0 f.blocks.length)∧Env.get st.e 5=.c (.b (chTo f ins t))∧Env.get st.e 6=.c (.i ((f.blocks.length:Int) - 1 - t))):=⟨_,fun _ _=>Iff.rfl⟩
    refine wp_for CM_mono f.blocks.length L ?_ ?_ ?_
    ·refine (hL _ _).2 ⟨vs,hZ,hR,?_⟩
     simp[f1,f3,chTo]
    ·rintro t ⟨e'',W⟩ ht hLs
     obtain⟨vs,hW,hR,f1,f3,f5,f6⟩:=(hL _ _).1 hLs
     simp only at hW hR f1 f3 f5 f6 ⊢
     obtain⟨hGt,_,_,_⟩:=hG.to t (by omega)
     obtain⟨b,hbe⟩:∃ b,f.blocks.length - 1 - t=b:=⟨_,rfl⟩
     have hb:b<f.blocks.length:=by omega
     have hcast:(f.blocks.length:Int) - 1 - t=(b:Int):=by omega
     have hsw:swTo f ins (t+1)=swStep f (swTo f ins t) b:=by rw[← hbe];rfl
     have hch:chTo f ins (t+1)=(chTo f ins t || !decide (befF f (swTo f ins t) b 0=(swTo f ins t).getD b [])):=by rw[← hbe];rfl
     have hnext:(f.blocks.length:Int) - 1 - ((t+1:Nat):Int)=(b:Int) - 1:=by omega
     rw[hcast]at f6
     obtain⟨cur,hcur⟩:∃ cur,swTo f ins t=cur:=⟨_,rfl⟩
     rw[hcur]at hR hGt hsw hch
     obtain⟨c0,hc0⟩:∃ c0,chTo f ins t=c0:=⟨_,rfl⟩
     rw[hc0]at f5 hch
     have hrw:Rows W (.sl o g 0 f.blocks.length) cur:=by have:=hR.rows;rwa [hGt.len]at this
     have hBk:=fun k=>specBefore (hv.pre (hp1.trans hW)) hsh hrw hGt.len hGt.row hb (i:=0) (Nat.zero_le _) k
     simp only[Int.natCast_zero,hNt]at hBk
     have hnl:=befF_len f cur b 0
     rw[hNt]at hnl
     obtain⟨nx,hnx⟩:∃ nx,befF f cur b 0=nx:=⟨_,rfl⟩
     simp only[hnx]at hBk hnl hch
     obtain⟨W2,hW2⟩:∃ W2,W++[(⟨nx.map .b,0,true,1⟩:Ob)]=W2:=⟨_,rfl⟩
     have hq2:Pre W W2:=⟨_,hW2.symm⟩
     simp only[hW2]at hBk
     have m2:rdOb W2 W.length 0=some ⟨nx.map .b,0,true,1⟩:=by rw[← hW2];simp
     have hOB2:OB W2 (.sl W.length 0 0 N) nx:=⟨_,0,by rw[hnl],m2⟩
     have hR2:=hR.pre hq2
     have hbc:b<cur.length:=by rw[hGt.len];exact hb
     obtain⟨id,gg,r1,r2,r3⟩:=hR2.row b hbc
     have hcl:=hGt.row _ (List.getElem_mem hbc)
     rw[hNt]at hcl
     rw[getD_rowB hbc]at hch
     obtain⟨old,hold⟩:∃ old,cur[b]=old:=⟨_,rfl⟩
     rw[hold]at r1 r3 hcl hch
     have hOB3:OB W2 (.sl id gg 0 old.length) old:=⟨_,_,rfl,r3⟩
     have hBW:=hW.rdOb hB1
     have hBW2:=hq2.rdOb hBW
     have hix:idxOf 1 (.sl o g 0 f.blocks.length) (b:Int)=some (.p o g b):=by simp[idxOf,hb]
     have hrd:rdC W2 o g b=some (.sl id gg 0 old.length):=by rw[rdC_ob hR2.ob];exact r1
     have hwd:wrap64 ((b:Int) - 1)=(b:Int) - 1:=dn_sub (by omega) (by simp only[BIG]at hbb;omega)
     have hNb:N≤BIG:=by simp only[BIG];omega
     have hge:(0:Int)≤(b:Int):=by omega
     unfold vf18b2
     simp[f1,f3,f5,f6,rdN_ob hBW,hBk,hge]
     obtain⟨D,hD⟩:∃ D:Nat→St→Prop,∀ i st,D i st↔(st.h=W2∧Env.get st.e 1=.c (.p X.length 0 0)∧Env.get st.e 3=.c (.sl o g 0 f.blocks.length)∧Env.get st.e 5=.c (.b (c0 || difTo nx old i))∧Env.get st.e 6=.c (.i b)∧Env.get st.e 7=.c (.sl W.length 0 0 N)∧Env.get st.e 8=.c (.i i)):=⟨_,fun _ _=>Iff.rfl⟩
     refine wp_for CM_mono N D ?_ ?_ ?_
     ·refine (hD _ _).2 ⟨rfl,?_⟩
      simp[f1,f3,f5,f6,difTo]
     ·rintro i ⟨e3',V'⟩ hi hDs
      obtain⟨hV,u1,u3,u5,u6,u7,u8⟩:=(hD _ _).1 hDs
      simp only at hV u1 u3 u5 u6 u7 u8 ⊢
      subst hV
      obtain⟨id3,g3,t1,t2⟩:=hOB2.at_ (show i<nx.length by omega)
      obtain⟨id4,g4,t3,t4⟩:=hOB3.at_ (show i<old.length by omega)
      have hds:=difTo_succ nx old i
      rw[getD_bit (show i<nx.length by omega),getD_bit (show i<old.length by omega)]at hds
      obtain⟨x1,hx1⟩:∃ x1,nx[i]=x1:=⟨_,rfl⟩
      obtain⟨x2,hx2⟩:∃ x2,old[i]=x2:=⟨_,rfl⟩
      rw[hx1]at t2 hds
      rw[hx2]at t4 hds
      obtain⟨d0,hd0⟩:∃ d0,difTo nx old i=d0:=⟨_,rfl⟩
      rw[hd0]at u5 hds
      unfold vf18b1
      cases hcd:(c0 || d0) with
      | true =>
       rw[hcd]at u5
       simp[u1,u3,u5,u6,u7,u8,rdC_ob hBW2,hNv,hi,up1 hi hNb]
       refine (hD _ _).2 ⟨rfl,?_⟩
       rw[hds,← Bool.or_assoc,hcd];simp[u1,u3,u6,u7]
      | false =>
       rw[hcd]at u5
       have hcx:(c0 || difTo nx old (i+1))=(x1 != x2):=by rw[hds,← Bool.or_assoc,hcd,Bool.false_or]
       cases x1<;>cases x2 <;>
       ·simp[u1,u3,u5,u6,u7,u8,rdC_ob hBW2,hNv,hi,up1 hi hNb,t1,t2,t3,t4,hix,hrd]
        refine (hD _ _).2 ⟨rfl,?_⟩
        rw[hcx];simp[u1,u3,u6,u7]
     ·rintro⟨e3',V'⟩ hDs
      obtain⟨hV,u1,u3,u5,u6,u7,u8⟩:=(hD _ _).1 hDs
      simp only at hV u1 u3 u5 u6 u7 u8 ⊢
      subst hV
      have hdall:=difTo_all (a:=nx) (b:=old) (by omega)
      rw[hnl]at hdall
      rw[hdall,← hch]at u5
      have hWo:W.length≠o:=by
       have h1:=rdOb_lt hR.ob
       omega
      have hput:=hR2.put hbc hWo m2
      have hsv:putAt vs b [.sl W.length 0 0 nx.length]=vs.set b (.sl W.length 0 0 nx.length):=putAt_set (by rw[hR.len];exact hbc) _
      rw[hnl]at hput hsv
      obtain⟨W3,hW3⟩:∃ W3,V'.set o ⟨vs.set b (.sl W.length 0 0 N),g,true,1⟩=W3:=⟨_,rfl⟩
      rw[hW3]at hput
      have hbv:b+1≤vs.length:=by rw[hR.len];exact hbc
      unfold vf18b1
      simp[u1,u3,u5,u6,u7,u8,rdC_ob hBW2,hNv,hix,hR2.ob,hsv,hW3,hbv,hwd]
      refine (hL _ _).2 ⟨vs.set b (.sl W.length 0 0 N),?_,?_,?_⟩
      ·rw[← hW3];exact (hW.trans hq2).set (by omega) _
      ·rw[hsw];unfold swStep;rw[hnx];exact hput
      ·rw[hnext];simp[u1,u3,u5]
    ·rintro⟨e'',W⟩ hLs
     obtain⟨vs,hW,hR,f1,f3,f5,f6⟩:=(hL _ _).1 hLs
     simp only at hW hR f1 f3 f5 f6 ⊢
     obtain⟨g1,g2,g3,g4⟩:=hG.to f.blocks.length (Nat.le_refl _)
     have hneg:¬ (0≤(f.blocks.length:Int) - 1 - (f.blocks.length:Int)):=by omega
     have hneg2:¬ ((f.blocks.length:Int)≤(f.blocks.length:Int) - 1):=by omega
     unfold vf18b2
     simp[f1,f3,f5,f6,hneg,hneg2]
     refine⟨2 * fal (sweep f ins)+(if chTo f ins f.blocks.length=true then 1 else 0),?_,(hJ _ _).2 ⟨sweep f ins,vs,j+1,chTo f ins f.blocks.length,rfl,by rw[hins];rfl,fun hc=>?_,hW,hR,?_⟩⟩
     ·rw[hk]
      have h2':fal (sweep f ins)≤fal ins:=g2
      cases hc:chTo f ins f.blocks.length with
      | true =>
       have h3':fal (sweep f ins)<fal ins:=g3 hc
       simp;omega
      | false=>simp;omega
     ·have h4':sweep f ins=ins:=g4 hc
      rw[h4',h4']
     ·simp[f1,f3,f5]
def maxI (a b:Int):Int:=if b<a then a else b

def cntF (f:FnR) (ins:List (List Bool)) (b i:Nat):Int:=((numT (befF f ins b i) f.values.toNat).length:Nat)

def busyL (f:FnR) (ins:List (List Bool)) (b:Nat) (m:Int):Nat→Int
 | 0=>m
 | i+1=>maxI (busyL f ins b m i) (cntF f ins b i)

def busyTo (f:FnR) (ins:List (List Bool)):Nat→Int
 | 0=>0
 | b+1=>busyL f ins b (busyTo f ins b) ((f.blocks.getD b blk0).list.length+1)

noncomputable def busyF (f:FnR):Int:=if plainF f=true then busyTo f (liveW f) f.blocks.length else -1

theorem specMaxB (H:Hp) (a b:Int) (k:IV×Hp→Prop):CM 19 [.c (.i a),.c (.i b)] H k=k (.c (.i (maxI a b)),H):=by
 refine det (cw19 ?_) k
 unfold vf19c maxI
 by_cases h:b<a<;>simp[h]

theorem plain_shape {f:FnR} (h:plainF f=true):shapeB f=true:=by
 unfold plainF at h
 rw[Bool.and_eq_true]at h
 exact h.1

theorem gc_i {X Y:Hp} (hp:Pre X Y) (a:Int):gcRet X (.c (.i a)) Y=(.c (.i a),X):=gcRet_flat hp (show flatV (.c (.i a))=true from rfl)

set_option maxRecDepth 100000 in
theorem specBusy {H:Hp} {v:CV} {f:FnR} (hv:Blocks H v f.blocks) (hb:f.blocks.length≤BIG) (k:IV×Hp→Prop):CM 6 [.agg [v,.i f.values]] H k=k (.c (.i (busyF f)),H):=by
 refine det (cw6 ?_) k
 unfold vf6c
 obtain⟨X1,hX1⟩:∃ X1,H++[(⟨[v,.i f.values],0,true,2⟩:Ob)]=X1:=⟨_,rfl⟩
 have hp1:Pre H X1:=⟨_,hX1.symm⟩
 have hB1:rdOb X1 H.length 0=some ⟨[v,.i f.values],0,true,2⟩:=by rw[← hX1];simp
 have hv1:=hv.pre hp1
 cases hpl:plainF f with
 | false =>
  have e:busyF f=-1:=by unfold busyF;rw[hpl];rfl
  simp[hX1,rdN_ob hB1,specPlain hv1 hb,hpl,gc_i hp1,e]
 | true =>
  have hsh:=plain_shape hpl
  obtain⟨s1,s2,s3,s4⟩:=shape_len hsh
  have e:busyF f=busyTo f (liveW f) f.blocks.length:=by unfold busyF;rw[if_pos hpl]
  rw[e]
  simp[hX1,rdN_ob hB1,specPlain hv1 hb,hpl]
  refine (specLive hv1 hsh).mono ?_
  rintro _ ⟨w,X2,rfl,hp2,hR,hL⟩
  have hG:=hL.good
  obtain⟨ins,hins⟩:∃ ins,liveW f=ins:=⟨_,rfl⟩
  rw[hins]at hR hG ⊢
  have hB2:=hp2.rdOb hB1
  have hvl:=hv1.lenOf
  simp
  obtain⟨I,hI⟩:∃ I:Nat→St→Prop,∀ b st,I b st↔(Pre X2 st.h∧Env.get st.e 1=.c (.p H.length 0 0)∧Env.get st.e 3=.c w∧Env.get st.e 4=.c (.i (busyTo f ins b))∧Env.get st.e 5=.c (.i b)):=⟨_,fun _ _=>Iff.rfl⟩
  refine wp_for CM_mono f.blocks.length I ?_ ?_ ?_
  ·refine (hI _ _).2 ⟨Pre.refl _,?_⟩
   simp[busyTo]
  ·rintro b ⟨e',Y⟩ hbl hIs
   obtain⟨hY,e1,e3,e4,e5⟩:=(hI _ _).1 hIs
   simp only at hY e1 e3 e4 e5 ⊢
   have hBY:=hY.rdOb hB2
   have hmem:f.blocks[b]∈f.blocks:=List.getElem_mem hbl
   obtain⟨_,p2⟩:=shape_lens hsh hmem
   have hxb:f.blocks[b].list.length≤BIG:=by simp only[BIG];omega
   have hnext:busyTo f ins (b+1)=busyL f ins b (busyTo f ins b) (f.blocks[b].list.length+1):=by show busyL f ins b _ _=_;rw[blk_at hbl]
   unfold vf6b1
   simp[e1,e3,e4,e5,rdC_ob hBY,hvl,hbl]
   obtain⟨J,hJ⟩:∃ J:Nat→St→Prop,∀ i st,J i st↔(Pre X2 st.h∧Env.get st.e 1=.c (.p H.length 0 0)∧Env.get st.e 3=.c w∧Env.get st.e 4=.c (.i (busyL f ins b (busyTo f ins b) i))∧Env.get st.e 5=.c (.i b)∧Env.get st.e 6=.c (.i i)):=⟨_,fun _ _=>Iff.rfl⟩
   refine wp_for CM_mono (f.blocks[b].list.length+1) J ?_ ?_ ?_
   ·refine (hJ _ _).2 ⟨hY,?_⟩
    simp[e1,e3,e4,e5,busyL]
   ·rintro i ⟨e'',Z⟩ hi hJs
    obtain⟨hZ,e1,e3,e4,e5,e6⟩:=(hJ _ _).1 hJs
    simp only at hZ e1 e3 e4 e5 e6 ⊢
    have hBZ:=hZ.rdOb hB2
    obtain⟨i0,g0,off0,wp,wl,q1,q2,_,qp,ql,_,_,_,_⟩:=Blocks.get (hv1.pre (hp2.trans hZ)) hbl
    have hll:=ql.lenOf
    have hil:(i:Int)≤(f.blocks[b].list.length:Int):=by omega
    have hBf:=fun k=>specBefore (hv1.pre (hp2.trans hZ)) hsh (hR.pre hZ) hG.len hG.row hbl (i:=i) (by omega) k
    have hbl2:=befF_len f ins b i
    obtain⟨r,hr⟩:∃ r,befF f ins b i=r:=⟨_,rfl⟩
    simp only[hr]at hBf hbl2
    obtain⟨Z1,hZ1⟩:∃ Z1,Z++[(⟨r.map .b,0,true,1⟩:Ob)]=Z1:=⟨_,rfl⟩
    have hq1:Pre Z Z1:=⟨_,hZ1.symm⟩
    simp only[hZ1]at hBf
    have m1:rdOb Z1 Z.length 0=some ⟨r.map .b,0,true,1⟩:=by rw[← hZ1];simp
    have hOB:OB Z1 (.sl Z.length 0 0 f.values.toNat) r:=⟨_,0,by rw[hbl2],m1⟩
    have hLi:=fun k=>specList hOB (by rw[hbl2];omega) k
    have hcnt:cntF f ins b i=((numT r r.length).length:Nat):=by unfold cntF;rw[hr,hbl2]
    have hsucc:busyL f ins b (busyTo f ins b) (i+1)=maxI (busyL f ins b (busyTo f ins b) i) (cntF f ins b i):=rfl
    rw[hcnt]at hsucc
    have hup:wrap64 ((i:Int)+1)=(i:Int)+1:=wrap64_id (by omega)
    unfold vf6b0
    simp[e1,e3,e4,e5,e6,rdC_ob hBZ,rdN_ob hBZ,q1,q2.1,q2.2.1,hll,hil,hBf,hLi,specMaxB,hup]
    refine (hJ _ _).2 ⟨hZ.trans (hq1.app _),?_⟩
    rw[hsucc];simp[e1,e3,e5]
   ·rintro⟨e'',Z⟩ hJs
    obtain⟨hZ,e1,e3,e4,e5,e6⟩:=(hJ _ _).1 hJs
    simp only at hZ e1 e3 e4 e5 e6 ⊢
    have hBZ:=hZ.rdOb hB2
    obtain⟨i0,g0,off0,wp,wl,q1,q2,_,qp,ql,_,_,_,_⟩:=Blocks.get (hv1.pre (hp2.trans hZ)) hbl
    have hll:=ql.lenOf
    have hil:¬ ((f.blocks[b].list.length:Int)+1≤(f.blocks[b].list.length:Int)):=by omega
    unfold vf6b0
    simp[e1,e3,e4,e5,e6,rdC_ob hBZ,q1,q2.1,q2.2.1,hll,hil,up1 hbl hb]
    refine (hI _ _).2 ⟨hZ,?_⟩
    rw[hnext];simp[e1,e3]
  ·rintro⟨e',Y⟩ hIs
   obtain⟨hY,e1,e3,e4,e5⟩:=(hI _ _).1 hIs
   simp only at hY e1 e3 e4 e5 ⊢
   have hBY:=hY.rdOb hB2
   unfold vf6b1
   simp[e1,e3,e4,e5,rdC_ob hBY,hvl,gc_i ((hp1.trans hp2).trans hY)]

theorem mx_eq (a b:Int):(if a<b then b else a)=maxI a b:=by unfold maxI;split<;>split<;>omega

set_option maxRecDepth 100000 in
theorem implBusy {H:Hp} {v:CV} {f:FnR} (hv:Blocks H v f.blocks) (hb:f.blocks.length≤BIG) (k:IV×Hp→Prop):CM 8 [.agg [v,.i f.values]] H k=k (.c (.i (busyF f)),H):=by
 refine det (cw8 ?_) k
 unfold vf8c
 obtain⟨X1,hX1⟩:∃ X1,H++[(⟨[v,.i f.values],0,true,2⟩:Ob)]=X1:=⟨_,rfl⟩
 have hp1:Pre H X1:=⟨_,hX1.symm⟩
 have hB1:rdOb X1 H.length 0=some ⟨[v,.i f.values],0,true,2⟩:=by rw[← hX1];simp
 have hv1:=hv.pre hp1
 cases hpl:plainF f with
 | false =>
  have e:busyF f=-1:=by unfold busyF;rw[hpl];rfl
  simp[hX1,rdN_ob hB1,implPlain hv1 hb,hpl,gc_i hp1,e]
 | true =>
  have hsh:=plain_shape hpl
  obtain⟨s1,s2,s3,s4⟩:=shape_len hsh
  have e:busyF f=busyTo f (liveW f) f.blocks.length:=by unfold busyF;rw[if_pos hpl]
  rw[e]
  simp[hX1,rdN_ob hB1,implPlain hv1 hb,hpl]
  refine (implLive hv1 hsh).mono ?_
  rintro _ ⟨w,X2,rfl,hp2,hR,hL⟩
  have hG:=hL.good
  obtain⟨ins,hins⟩:∃ ins,liveW f=ins:=⟨_,rfl⟩
  rw[hins]at hR hG ⊢
  have hB2:=hp2.rdOb hB1
  have hvl:=hv1.lenOf
  simp[rdC_ob hB2,hvl]
  obtain⟨I,hI⟩:∃ I:Nat→St→Prop,∀ b st,I b st↔(Pre X2 st.h∧Env.get st.e 1=.c (.p H.length 0 0)∧Env.get st.e 3=.c w∧Env.get st.e 4=.c (.i (busyTo f ins b))∧Env.get st.e 15=.c v∧Env.get st.e 16=.c (.i f.blocks.length)∧Env.get st.e 17=.c (.i b)):=⟨_,fun _ _=>Iff.rfl⟩
  refine wp_for CM_mono f.blocks.length I ?_ ?_ ?_
  ·refine (hI _ _).2 ⟨Pre.refl _,?_⟩
   simp[busyTo]
  ·rintro b ⟨e',Y⟩ hbl hIs
   obtain⟨hY,e1,e3,e4,e15,e16,e17⟩:=(hI _ _).1 hIs
   simp only at hY e1 e3 e4 e15 e16 e17 ⊢
   have hBY:=hY.rdOb hB2
   have hmem:f.blocks[b]∈f.blocks:=List.getElem_mem hbl
   obtain⟨_,p2⟩:=shape_lens hsh hmem
   have hnext:busyTo f ins (b+1)=busyL f ins b (busyTo f ins b) (f.blocks[b].list.length+1):=by show busyL f ins b _ _=_;rw[blk_at hbl]
   obtain⟨j0,h0,o0,wp',wl',z1,z2,_,zp,zl,_,_,_,_⟩:=Blocks.get (hv1.pre (hp2.trans hY)) hbl
   obtain⟨tt,htt⟩:∃ tt,f.blocks[b].term=tt:=⟨_,rfl⟩
   rw[htt]at z2
   obtain⟨Y1,hY1⟩:∃ Y1,Y++[(⟨[wp',wl',.i tt.kind,.i tt.a,.i tt.to,.i tt.els],0,true,6⟩:Ob)]=Y1:=⟨_,rfl⟩
   have hq1:Pre Y Y1:=⟨_,hY1.symm⟩
   have n1:rdOb Y1 Y.length 0=some ⟨[wp',wl',.i tt.kind,.i tt.a,.i tt.to,.i tt.els],0,true,6⟩:=by rw[← hY1];simp
   have hBY1:=hq1.rdOb hBY
   have hAt:=fun k=>implAtEnd (hv1.pre ((hp2.trans hY).trans hq1)) hsh (hR.pre (hY.trans hq1)) hG.len hG.row hbl k
   obtain⟨en,hen⟩:∃ en,outTo f.values.toNat ins (succsF f.blocks[b].term)=en:=⟨_,rfl⟩
   have henl:=outTo_len f.values.toNat ins (succsF f.blocks[b].term)
   have hbf:=fun i=>befF_impl hbl ins i
   simp only[hen]at hAt henl hbf
   obtain⟨Y2,hY2⟩:∃ Y2,Y1++[(⟨en.map .b,0,true,1⟩:Ob)]=Y2:=⟨_,rfl⟩
   have hq2:Pre Y1 Y2:=⟨_,hY2.symm⟩
   simp only[hY2]at hAt
   have n2:rdOb Y2 Y1.length 0=some ⟨en.map .b,0,true,1⟩:=by rw[← hY2];simp
   have hll:=(List5.pre (hq1.trans hq2) zl).lenOf
   unfold vf8b1
   simp[e1,e3,e4,e15,e16,e17,hbl,z1,z2.2.2.2.2.2.2.2.2.2.2,putAt,hY1,rdN_ob hBY1,hAt]
   obtain⟨J,hJ⟩:∃ J:Nat→St→Prop,∀ i st,J i st↔(Pre X2 st.h∧Pre Y2 st.h∧Env.get st.e 1=.c (.p H.length 0 0)∧Env.get st.e 3=.c w∧Env.get st.e 4=.c (.i (busyL f ins b (busyTo f ins b) i))∧Env.get st.e 5=.c (.i b)∧Env.get st.e 6=.c (.p Y.length 0 0)∧Env.get st.e 7=.c (.sl Y1.length 0 0 f.values.toNat)∧Env.get st.e 8=.c (.i i) ∧
     Env.get st.e 15=.c v∧Env.get st.e 16=.c (.i f.blocks.length)∧Env.get st.e 17=.c (.i b)):=⟨_,fun _ _=>Iff.rfl⟩
   refine wp_for CM_mono (f.blocks[b].list.length+1) J ?_ ?_ ?_
   ·refine (hJ _ _).2 ⟨(hY.trans hq1).trans hq2,Pre.refl _,?_⟩
    simp[e1,e3,e4,e15,e16,e17,busyL]
   ·rintro i ⟨e'',Z⟩ hi hJs
    obtain⟨hZ,hYZ,e1,e3,e4,e5,e6,e7,e8,e15,e16,e17⟩:=(hJ _ _).1 hJs
    simp only at hZ hYZ e1 e3 e4 e5 e6 e7 e8 e15 e16 e17 ⊢
    have hBZ:=hZ.rdOb hB2
    have h6Z:=hYZ.rdOb (hq2.rdOb n1)
    have hil:(i:Int)≤(f.blocks[b].list.length:Int):=by omega
    have hOB1:OB Z (.sl Y1.length 0 0 f.values.toNat) en:=⟨_,0,by rw[henl],hYZ.rdOb n2⟩
    have hBf:=fun k=>implBack (hv1.pre (hp2.trans hZ)) hsh hOB1 henl hbl (i:=i) (by omega) k
    simp only[hbf]at hBf
    have hbl2:=befF_len f ins b i
    obtain⟨r,hr⟩:∃ r,befF f ins b i=r:=⟨_,rfl⟩
    simp only[hr]at hBf hbl2
    obtain⟨Z1,hZ1⟩:∃ Z1,Z++[(⟨r.map .b,0,true,1⟩:Ob)]=Z1:=⟨_,rfl⟩
    have hqz:Pre Z Z1:=⟨_,hZ1.symm⟩
    simp only[hZ1]at hBf
    have m1:rdOb Z1 Z.length 0=some ⟨r.map .b,0,true,1⟩:=by rw[← hZ1];simp
    have hOB:OB Z1 (.sl Z.length 0 0 f.values.toNat) r:=⟨_,0,by rw[hbl2],m1⟩
    have hLi:=fun k=>implListed hOB (by rw[hbl2];omega) k
    have hcnt:cntF f ins b i=((numT r r.length).length:Nat):=by unfold cntF;rw[hr,hbl2]
    have hsucc:busyL f ins b (busyTo f ins b) (i+1)=maxI (busyL f ins b (busyTo f ins b) i) (cntF f ins b i):=rfl
    rw[hcnt]at hsucc
    have hup:wrap64 ((i:Int)+1)=(i:Int)+1:=wrap64_id (by omega)
    have hllZ:=(List5.pre ((hq1.trans hq2).trans hYZ) zl).lenOf
    unfold vf8b0
    simp[e1,e3,e4,e5,e6,e7,e8,e15,e16,e17,rdC_ob h6Z,rdN_ob hBZ,hllZ,hil,hBf,hLi,mx_eq,hup]
    refine (hJ _ _).2 ⟨hZ.trans (hqz.app _),hYZ.trans (hqz.app _),?_⟩
    rw[hsucc];simp[e1,e3,e5,e6,e7,e15,e16,e17]
   ·rintro⟨e'',Z⟩ hJs
    obtain⟨hZ,hYZ,e1,e3,e4,e5,e6,e7,e8,e15,e16,e17⟩:=(hJ _ _).1 hJs
    simp only at hZ hYZ e1 e3 e4 e5 e6 e7 e8 e15 e16 e17 ⊢
    have h6Z:=hYZ.rdOb (hq2.rdOb n1)
    have hllZ:=(List5.pre ((hq1.trans hq2).trans hYZ) zl).lenOf
    have hil:¬ ((f.blocks[b].list.length:Int)+1≤(f.blocks[b].list.length:Int)):=by omega
    unfold vf8b0
    simp[e1,e3,e4,e5,e6,e7,e8,e15,e16,e17,rdC_ob h6Z,hllZ,hil,up1 hbl hb]
    refine (hI _ _).2 ⟨hZ,?_⟩
    rw[hnext];simp[e1,e3,e15,e16]
  ·rintro⟨e',Y⟩ hIs
   obtain⟨hY,e1,e3,e4,e15,e16,e17⟩:=(hI _ _).1 hIs
   simp only at hY e1 e3 e4 e15 e16 e17 ⊢
   unfold vf8b1
   simp[e1,e3,e4,e15,e16,e17,gc_i ((hp1.trans hp2).trans hY)]
end Go.Proofs.Ytiecgmmaihckeaa.Vm
