/- A part of the proof: the machine and the walks. No conditions. -/
import Derived.Test.YtiecgmmaihckeaaGreatW7
namespace Go.Proofs.YtiecgmmaihckeaaGreat.Vm
open Go.RowKit (wrap64)
set_option linter.unusedSimpArgs false
set_option linter.unusedVariables false
set_option maxRecDepth 100000
def RanRes (H:Hp) (q:Int×Int×RunS) (r:IV×Hp):Prop:=
 ∃ Z c tv pv,r=(.tup [(false,[.p c 0 0]),(false,[.i q.1])],Z)∧Pre H Z∧H.length≤c∧rdC Z c 0 6=some tv∧rdC Z c 0 7=some pv∧rdC Z c 0 8=some (.i q.2.1) ∧
  OutR Z tv q.2.2.told∧(∀ id,IsOut tv id→H.length≤id)∧OutR Z pv q.2.2.path∧(∀ id,IsOut pv id→H.length≤id)

theorem gc_tup2 (H Y:Hp) (c:Nat) (x:Int):gcRet H (.tup [(false,[.p c 0 0]),(false,[.i x])]) Y=(.tup [(false,[.p c 0 0]),(false,[.i x])],Y):=by
 unfold gcRet;split
 ·rw[if_neg (by simp[flatV,flatC])]
 ·rfl

theorem not_out {n:Nat}:∀ id,IsOut .ns id→n≤id:=by
 rintro id ⟨g,k,h⟩;cases h

theorem min_fuel {fuel:Int} (h:0≤fuel):(if 5000<fuel then 5000 else fuel)=(((min fuel 5000).toNat:Nat):Int)∧(min fuel 5000).toNat≤5000:=by
 by_cases h5:5000<fuel
 ·rw[if_pos h5];omega
 ·rw[if_neg h5];omega

set_option maxRecDepth 100000 in
theorem ran_call {H:Hp} {v rv:CV} {f:FnR} {reads:List Int} {fuel:Int} (hH:Blocks H v f.blocks) (hb:f.blocks.length≤BIG) (hr:IsI H rv reads) :
  CM 63 [.agg [v,.i f.values],.c rv,.c (.i fuel)] H (RanRes H (runW f reads fuel)):=by
 refine cw63 ?_
 unfold vf63c
 obtain⟨X1,hX1⟩:∃ X1,H++[(⟨[v,.i f.values],0,true,2⟩:Ob)]=X1:=⟨_,rfl⟩
 have hp1:Pre H X1:=⟨_,hX1.symm⟩
 have h3:rdOb X1 H.length 0=some ⟨[v,.i f.values],0,true,2⟩:=by rw[← hX1];simp
 have l1:X1.length=H.length+1:=by rw[← hX1];simp
 obtain⟨X2,hX2⟩:∃ X2,X1++[(⟨[.ns,.i 0,.ns,.ns,.ns,.i 0,.ns,.ns,.i 0],0,true,9⟩:Ob)]=X2:=⟨_,rfl⟩
 have hp2:Pre X1 X2:=⟨_,hX2.symm⟩
 have h11:rdOb X2 X1.length 0=some ⟨[.ns,.i 0,.ns,.ns,.ns,.i 0,.ns,.ns,.i 0],0,true,9⟩:=by rw[← hX2];simp
 have l2:X2.length=H.length+2:=by rw[← hX2];simp[l1]
 have h32:=hp2.rdOb h3
 have hB2:=(hH.pre hp1).pre hp2
 by_cases hs:shapeB f=true∧0≤fuel
 ·obtain⟨hsh,hf0⟩:=hs
  have hw:runW f reads fuel=runGo f.blocks ((min fuel 5000).toNat+1) (min fuel 5000).toNat 0 (-1) (initS f.values reads):=by unfold runW;rw[if_pos ⟨hsh,hf0⟩]
  obtain⟨hmn,hφ⟩:=min_fuel hf0
  obtain⟨s1,s2,s3,s4⟩:=shape_len hsh
  rw[hw]
  obtain⟨φ,hφe⟩:∃ φ,(min fuel 5000).toNat=φ:=⟨_,rfl⟩
  rw[hφe]at hmn hφ ⊢
  have hrun:∀ (X5:Hp) (c vi ci:Nat),Pre H X5→H.length≤c→H.length≤vi→H.length≤ci→c≠vi→c≠ci→vi≠ci→rdOb X5 c 0=some ⟨[v,.i f.values,.sl vi 0 0 f.values.toNat,.sl ci 0 0 8,rv,.i φ,.ns,.ns,.i 0],0,true,9⟩ →
    rdOb X5 vi 0=some ⟨List.replicate f.values.toNat (.i 0),0,true,1⟩→rdOb X5 ci 0=some ⟨List.replicate 8 (.i 0),0,true,1⟩ →
    CM 123 [.c (.p c 0 0)] X5 fun r=>∃ Z tv pv,r=(.c (.i (runGo f.blocks (φ+1) φ 0 (-1) (initS f.values reads)).1),Z)∧Pre H Z∧rdC Z c 0 6=some tv∧rdC Z c 0 7=some pv∧rdC Z c 0 8=some (.i (runGo f.blocks (φ+1) φ 0 (-1) (initS f.values reads)).2.1) ∧
     OutR Z tv (runGo f.blocks (φ+1) φ 0 (-1) (initS f.values reads)).2.2.told∧(∀ id,IsOut tv id→H.length≤id)∧OutR Z pv (runGo f.blocks (φ+1) φ 0 (-1) (initS f.values reads)).2.2.path∧(∀ id,IsOut pv id→H.length≤id):=by
   intro X5 c vi ci hp5 hc hv5 hc5 n1 n2 n3 o1 o2 o3
   obtain⟨κ,hκ⟩:∃ κ:RK,∀ id,κ id=if id=c then 1 else if id=vi then 2 else if id=ci then 3 else 0:=⟨fun id=>if id=c then 1 else if id=vi then 2 else if id=ci then 3 else 0,fun _=>rfl⟩
   have hk:∀ id,id<H.length→κ id=0:=fun id hi=>by rw[hκ,if_neg (by omega),if_neg (by omega),if_neg (by omega)]
   have hR:RInv true v f.values f.values.toNat κ X5 c 0 (initS f.values reads) φ:=by
    refine⟨vi,0,ci,rv,.ns,.ns,initS_ok _ _,o1,by rw[hκ,if_pos rfl],by rw[hκ,if_neg (fun e=>n1 e.symm),if_pos rfl],by rw[hκ,if_neg (fun e=>n2 e.symm),if_neg (fun e=>n3 e.symm),if_pos rfl],?_,?_,Sl.pre hp5 hr,?_,.inl ⟨rfl,rfl⟩,?_,.inl ⟨rfl,rfl⟩,?_,?_⟩
    ·simpa [initS] using o2
    ·simpa [initS] using o3
    ·intro id g off k he
     subst he
     rcases hr with⟨h,_⟩ | ⟨_,_,_,_,h,h2,_⟩
     ·cases h
     ·cases h;exact hk _ (rdOb_lt h2)
    ·rintro id ⟨g,k,h⟩;cases h
    ·rintro id ⟨g,k,h⟩;cases h
    ·intro id hi
     have a:=rdOb_lt o1;have b:=rdOb_lt o2;have d:=rdOb_lt o3
     rw[hκ,if_neg (by omega),if_neg (by omega),if_neg (by omega)]
   refine (run_call hH hsh hp5 hk hR rfl hφ rfl rfl).mono ?_
   rintro _ ⟨κ',Z,fu',rfl,⟨vi',gv',ci',rv',tv,pv,P⟩,F⟩
   have hob:rdOb Z c 0=some ⟨[v,.i f.values,.sl vi' gv' 0 f.values.toNat,.sl ci' 0 0 8,rv',.i fu',tv,pv,.i _],0,true,9⟩:=P.ob
   have hlo:∀ id,id<H.length→κ' id=0:=fun id hi=>by rw[F.same id (by have:=hp5.le;omega)];exact hk id hi
   refine⟨Z,tv,pv,rfl,F.pre hp5 hk,by rw[rdC_ob hob];rfl,by rw[rdC_ob hob];rfl,by rw[rdC_ob hob];rfl,P.told,fun id hi=>?_,P.path,fun id hi=>?_⟩
   ·have:=P.kt id hi
    cases Nat.lt_or_ge id H.length with
    | inl h=>rw[hlo id h]at this;cases this
    | inr h=>exact h
   ·have:=P.kp id hi
    cases Nat.lt_or_ge id H.length with
    | inl h=>rw[hlo id h]at this;cases this
    | inr h=>exact h
  have hm1:(0≤f.values∧f.values≤(LIM:Int))=True:=eq_true ⟨s3,by simp only[LIM];omega⟩
  have hm8:(8≤LIM)=True:=eq_true (by simp only[LIM];omega)
  obtain⟨A1,hA1⟩:∃ A1,X2++[(⟨List.replicate f.values.toNat (.i 0),0,true,1⟩:Ob)]=A1:=⟨_,rfl⟩
  obtain⟨A2,hA2⟩:∃ A2,A1++[(⟨[.i 0,.i 0,.i 0,.i 0,.i 0,.i 0,.i 0,.i 0],0,true,1⟩:Ob)]=A2:=⟨_,rfl⟩
  obtain⟨A3,hA3⟩:∃ A3,A2++[(⟨[v,.i f.values,.sl X2.length 0 0 f.values.toNat,.sl A1.length 0 0 8,rv,.i φ,.ns,.ns,.i 0],0,true,9⟩:Ob)]=A3:=⟨_,rfl⟩
  have pA1:Pre X2 A1:=⟨_,hA1.symm⟩
  have pA2:Pre A1 A2:=⟨_,hA2.symm⟩
  have pA3:Pre A2 A3:=⟨_,hA3.symm⟩
  have lA1:A1.length=X2.length+1:=by rw[← hA1];simp
  have lA2:A2.length=X2.length+2:=by rw[← hA2];simp[lA1]
  have oA1:rdOb A1 X2.length 0=some ⟨List.replicate f.values.toNat (.i 0),0,true,1⟩:=by rw[← hA1];simp
  have oA2:rdOb A2 A1.length 0=some ⟨List.replicate 8 (.i 0),0,true,1⟩:=by rw[← hA2];simp
  have oA3:rdOb A3 A2.length 0=some ⟨[v,.i f.values,.sl X2.length 0 0 f.values.toNat,.sl A1.length 0 0 8,rv,.i φ,.ns,.ns,.i 0],0,true,9⟩:=by rw[← hA3];simp
  have rA:=hrun A3 A2.length X2.length A1.length ((hp1.trans hp2).trans (pA1.trans (pA2.trans pA3))) (by omega) (by omega) (by omega) (by omega) (by omega) (by omega) oA3 ((pA2.trans pA3).rdOb oA1) (pA3.rdOb oA2)
  have kA1:rdOb A1 H.length 0=rdOb X2 H.length 0:=by rw[pA1.rdOb h32,h32]
  have kA2:rdOb A2 H.length 0=rdOb X2 H.length 0:=by rw[(pA1.trans pA2).rdOb h32,h32]
  obtain⟨B1,hB1⟩:∃ B1,X2++[(⟨[.i 0,.i 0,.i 0,.i 0,.i 0,.i 0,.i 0,.i 0],0,true,1⟩:Ob)]=B1:=⟨_,rfl⟩
  obtain⟨B2,hB2'⟩:∃ B2,B1++[(⟨List.replicate f.values.toNat (.i 0),0,true,1⟩:Ob)]=B2:=⟨_,rfl⟩
  obtain⟨B3,hB3⟩:∃ B3,B2++[(⟨[v,.i f.values,.sl B1.length 0 0 f.values.toNat,.sl X2.length 0 0 8,rv,.i φ,.ns,.ns,.i 0],0,true,9⟩:Ob)]=B3:=⟨_,rfl⟩
  have pB1:Pre X2 B1:=⟨_,hB1.symm⟩
  have pB2:Pre B1 B2:=⟨_,hB2'.symm⟩
  have pB3:Pre B2 B3:=⟨_,hB3.symm⟩
  have lB1:B1.length=X2.length+1:=by rw[← hB1];simp
  have lB2:B2.length=X2.length+2:=by rw[← hB2'];simp[lB1]
  have oB1:rdOb B1 X2.length 0=some ⟨List.replicate 8 (.i 0),0,true,1⟩:=by rw[← hB1];simp
  have oB2:rdOb B2 B1.length 0=some ⟨List.replicate f.values.toNat (.i 0),0,true,1⟩:=by rw[← hB2'];simp
  have oB3:rdOb B3 B2.length 0=some ⟨[v,.i f.values,.sl B1.length 0 0 f.values.toNat,.sl X2.length 0 0 8,rv,.i φ,.ns,.ns,.i 0],0,true,9⟩:=by rw[← hB3];simp
  have rB:=hrun B3 B2.length B1.length X2.length ((hp1.trans hp2).trans (pB1.trans (pB2.trans pB3))) (by omega) (by omega) (by omega) (by omega) (by omega) (by omega) oB3 (pB3.rdOb oB2) ((pB2.trans pB3).rdOb oB1)
  have kB1:rdOb B1 H.length 0=rdOb X2 H.length 0:=by rw[pB1.rdOb h32,h32]
  have kB2:rdOb B2 H.length 0=rdOb X2 H.length 0:=by rw[(pB1.trans pB2).rdOb h32,h32]
  have h3B1:=pB1.rdOb h32
  have hform:rv=.ns∨∃ i1 g1 o1 k1,rv=.sl i1 g1 o1 k1:=by
   rcases hr with⟨h,_⟩ | ⟨i1,g1,o1,_,h,_⟩
   ·exact .inl h
   ·exact .inr ⟨i1,g1,o1,_,h⟩
  rcases hform with rfl | ⟨i1,g1,o1,k1,rfl⟩
  all_goals
   simp[hX1,hX2,rdN_ob h32,implShape hB2 hb,hsh,Int.not_lt.2 hf0,vf63t0,rdC_ob h32,rdC_ob h3B1,rdN_ob h3B1,hm1,hm8,hA1,hA2,kA1,kA2,hB1,hB2',kB1,kB2,hmn,putD0,putL2,putL3,putL4,putL5,hA3,hB3]
   refine⟨?_,?_⟩
   ·refine rA.mono ?_
    rintro _ ⟨Z,tv,pv,rfl,a1,a2,a3,a4,a5,a6,a7,a8⟩
    simp[gc_tup2]
    exact⟨Z,_,tv,pv,rfl,a1,by omega,a2,a3,a4,a5,a6,a7,a8⟩
   ·refine rB.mono ?_
    rintro _ ⟨Z,tv,pv,rfl,a1,a2,a3,a4,a5,a6,a7,a8⟩
    simp[gc_tup2]
    exact⟨Z,_,tv,pv,rfl,a1,by omega,a2,a3,a4,a5,a6,a7,a8⟩
 ·have hw:runW f reads fuel=(3,0,⟨[],[],[],[],[]⟩):=by unfold runW;rw[if_neg hs]
  rw[hw]
  have hend:RanRes H (3,0,⟨[],[],[],[],[]⟩) (.tup [(false,[.p X1.length 0 0]),(false,[.i 3])],X2):=
   ⟨X2,X1.length,.ns,.ns,rfl,hp1.trans hp2,by omega,by rw[rdC_ob h11];rfl,by rw[rdC_ob h11];rfl,by rw[rdC_ob h11];rfl,.inl ⟨rfl,rfl⟩,not_out,.inl ⟨rfl,rfl⟩,not_out⟩
  cases hsh:shapeB f with
  | false =>
   simp[hX1,hX2,rdN_ob h32,implShape hB2 hb,hsh,gc_tup2]
   exact hend
  | true =>
   have hf0:fuel<0:=Int.not_le.1 fun h=>hs ⟨hsh,h⟩
   simp[hX1,hX2,rdN_ob h32,implShape hB2 hb,hsh,hf0,gc_tup2]
   exact hend

def RunOut (H:Hp) (q:Int×Int×RunS) (r:IV×Hp):Prop:=
 ∃ Z tv,r=(.tup [(false,[tv]),(false,[.i q.1]),(false,[.i q.2.1])],Z)∧Pre H Z∧OutR Z tv q.2.2.told∧∀ id,IsOut tv id→H.length≤id

theorem OutR.form {X:Hp} {w:CV} {xs:List Int} (h:OutR X w xs):w=.ns∨∃ id g n,w=.sl id g 0 n:=by
 rcases h with⟨h,_⟩ | ⟨o,g,h,_⟩
 ·exact .inl h
 ·exact .inr ⟨o,g,_,h⟩

theorem RunOut.gc {H Z:Hp} {tv:CV} {x y:Int} {xs:List Int} (hp:Pre H Z) (ht:OutR Z tv xs) (ho:∀ id,IsOut tv id→H.length≤id) :
  ∃ Z',gcRet H (.tup [(false,[tv]),(false,[.i x]),(false,[.i y])]) Z=(.tup [(false,[tv]),(false,[.i x]),(false,[.i y])],Z')∧Pre H Z'∧OutR Z' tv xs:=by
 rcases ht.form with rfl | ⟨id,g,n,rfl⟩
 ·refine⟨H,gcRet_flat hp rfl,Pre.refl _,?_⟩
  rcases ht with⟨_,h⟩ | ⟨_,_,h,_⟩
  ·exact .inl ⟨rfl,h⟩
  ·cases h
 ·refine⟨Z,?_,hp,ht⟩
  unfold gcRet;split
  ·rw[if_neg (by simp[flatV,flatC])]
  ·rfl

theorem implRun {H:Hp} {v rv:CV} {f:FnR} {reads:List Int} {fuel:Int} (hH:Blocks H v f.blocks) (hb:f.blocks.length≤BIG) (hr:IsI H rv reads) :
  CM 19 [.agg [v,.i f.values],.c rv,.c (.i fuel)] H (RunOut H (runW f reads fuel)):=by
 refine cw19 ?_
 unfold vf19c
 obtain⟨X1,hX1⟩:∃ X1,H++[(⟨[v,.i f.values],0,true,2⟩:Ob)]=X1:=⟨_,rfl⟩
 have hp1:Pre H X1:=⟨_,hX1.symm⟩
 have h3:rdOb X1 H.length 0=some ⟨[v,.i f.values],0,true,2⟩:=by rw[← hX1];simp
 simp[hX1,rdN_ob h3]
 refine (ran_call (hH.pre hp1) hb (Sl.pre hp1 hr)).mono ?_
 rintro _ ⟨Z,c,tv,pv,rfl,a1,a2,a3,a4,a5,a6,a7,a8⟩
 obtain⟨Z',g1,g2,g3⟩:=RunOut.gc (x:=(runW f reads fuel).1) (y:=(runW f reads fuel).2.1) (hp1.trans a1) a6 (fun id hi=>by have:=a7 id hi;have:=hp1.le;omega)
 have hend:RunOut H (runW f reads fuel) (.tup [(false,[tv]),(false,[.i (runW f reads fuel).1]),(false,[.i (runW f reads fuel).2.1])],Z'):=⟨Z',tv,rfl,g2,g3,fun id hi=>by have:=a7 id hi;have:=hp1.le;omega⟩
 rcases a6.form with rfl | ⟨i1,g1,n1,rfl⟩
 all_goals
  simp[a3,a5,g1]
  exact hend
def SInsRes (v:CV) (m:Int) (n:Nat) (κ:RK) (X:Hp) (c:Nat) (fu:Int) (q:Int×RunS) (r:IV×Hp):Prop:=
 ∃ κ' Z,r=(.c (.i q.1),Z)∧RInv false v m n κ' Z c 0 q.2 fu∧Fr κ κ' X Z

theorem SInsRes.mk' {v:CV} {m:Int} {n:Nat} {κ κ':RK} {X Y:Hp} {c:Nat} {s:RunS} {fu:Int} {q:Int×RunS} (h:RInv false v m n κ X c 0 s fu) (h':RInv false v m n κ' Y c 0 q.2 fu) (hf:Fr κ κ' X Y) :
  SInsRes v m n κ X c fu q (gcRet X (.c (.i q.1)) Y):=by
 obtain⟨κ2,Z,e,h1,h2⟩:=h.gc h' hf (r:=.c (.i q.1)) rfl
 rw[e]
 exact⟨κ2,Z,rfl,h1,h2⟩
def SRunRes (v:CV) (m:Int) (n:Nat) (κ:RK) (X:Hp) (c:Nat) (q:Int×Int×RunS) (r:IV×Hp):Prop:=
 ∃ κ' Z fu',r=(.tup [(false,[.i q.1]),(false,[.i q.2.1])],Z)∧RInv false v m n κ' Z c 0 q.2.2 fu'∧Fr κ κ' X Z

theorem SRunRes.mk' {v:CV} {m:Int} {n:Nat} {κ κ':RK} {X Y:Hp} {c:Nat} {s:RunS} {fu fu':Int} {q:Int×Int×RunS} (h:RInv false v m n κ X c 0 s fu) (h':RInv false v m n κ' Y c 0 q.2.2 fu') (hf:Fr κ κ' X Y) :
  SRunRes v m n κ X c q (gcRet X (.tup [(false,[.i q.1]),(false,[.i q.2.1])]) Y):=by
 obtain⟨κ2,Z,e,h1,h2⟩:=h.gc h' hf (r:=.tup [(false,[.i q.1]),(false,[.i q.2.1])]) rfl
 rw[e]
 exact⟨κ2,Z,fu',rfl,h1,h2⟩
def NewPs (m:Int) (reads:List Int) (κ:RK) (h:Hp) (vi ci ri g ti pi:Nat):Prop:=
 (κ vi=2∧rdOb h vi 0=some ⟨List.replicate m.toNat (.i 0),0,true,1⟩)∧(κ ci=3∧rdOb h ci 0=some ⟨List.replicate 8 (.i 0),0,true,1⟩)∧(κ ri=6∧rdOb h ri g=some ⟨reads.map .i,g,true,1⟩) ∧
 (κ ti=4∧rdOb h ti 0=some ⟨[],0,true,1⟩)∧(κ pi=5∧rdOb h pi 0=some ⟨[],0,true,1⟩)

def newP (m fuel φ:Int) (rv:CV) (reads:List Int) (κ:RK) (h:Hp) (u:IV):Nat→Prop
 | 0=>u=.c (.i m)
 | 1=>∃ i,u=.c (.sl i 0 0 m.toNat)∧κ i=2∧rdOb h i 0=some ⟨List.replicate m.toNat (.i 0),0,true,1⟩
 | 2=>∃ i,u=.c (.sl i 0 0 8)∧κ i=3∧rdOb h i 0=some ⟨List.replicate 8 (.i 0),0,true,1⟩
 | 3=>∃ i,u=.c (.sl i 0 0 0)∧κ i=6∧rdOb h i 0=some ⟨[],0,true,1⟩
 | 4=>u=.c rv
 | 5=>∃ i g,u=.c (.sl i g 0 reads.length)∧κ i=6∧rdOb h i g=some ⟨reads.map .i,g,true,1⟩
 | 6=>∃ i,u=.c (.sl i 0 0 0)∧κ i=4∧rdOb h i 0=some ⟨[],0,true,1⟩
 | 7=>∃ i,u=.c (.sl i 0 0 0)∧κ i=5∧rdOb h i 0=some ⟨[],0,true,1⟩
 | 8=>u=.c (.i fuel)
 | 9=>u=.c (.i φ)
 | 10=>∃ vi ci ri g ti pi,u=.agg [.sl vi 0 0 m.toNat,.sl ci 0 0 8,.sl ri g 0 reads.length,.sl ti 0 0 0,.sl pi 0 0 0,.i φ]∧NewPs m reads κ h vi ci ri g ti pi
 | _=>∃ c vi ci ri g ti pi,u=.c (.p c 0 0)∧κ c=1∧rdOb h c 0=some ⟨[.sl vi 0 0 m.toNat,.sl ci 0 0 8,.sl ri g 0 reads.length,.sl ti 0 0 0,.sl pi 0 0 0,.i φ],0,true,6⟩∧NewPs m reads κ h vi ci ri g ti pi

section

variable {m fuel φ:Int} {rv:CV} {reads:List Int} {κ κ':RK} {h h':Hp} {u:IV}

theorem NewPs.keep {vi ci ri g ti pi:Nat} (hp:NewPs m reads κ h vi ci ri g ti pi) (hk:∀ id gg o,κ id≠0→rdOb h id gg=some o→rdOb h' id gg=some o∧κ' id=κ id):NewPs m reads κ' h' vi ci ri g ti pi:=by
 obtain⟨⟨a1,a2⟩,⟨b1,b2⟩,⟨c1,c2⟩,⟨d1,d2⟩,⟨e1,e2⟩⟩:=hp
 have A:=hk _ _ _ (by omega) a2;have B:=hk _ _ _ (by omega) b2;have C:=hk _ _ _ (by omega) c2;have D:=hk _ _ _ (by omega) d2;have E:=hk _ _ _ (by omega) e2
 exact⟨⟨by rw[A.2];exact a1,A.1⟩,⟨by rw[B.2];exact b1,B.1⟩,⟨by rw[C.2];exact c1,C.1⟩,⟨by rw[D.2];exact d1,D.1⟩,⟨by rw[E.2];exact e1,E.1⟩⟩

theorem newP.keep {j:Nat} (hp:newP m fuel φ rv reads κ h u j) (hk:∀ id gg o,κ id≠0→rdOb h id gg=some o→rdOb h' id gg=some o∧κ' id=κ id):newP m fuel φ rv reads κ' h' u j:=by
 match j,hp with
 | 0,hp=>exact hp
 | 1,⟨i,a,b,c⟩=>have A:=hk _ _ _ (by omega) c;exact⟨i,a,by rw[A.2];exact b,A.1⟩
 | 2,⟨i,a,b,c⟩=>have A:=hk _ _ _ (by omega) c;exact⟨i,a,by rw[A.2];exact b,A.1⟩
 | 3,⟨i,a,b,c⟩=>have A:=hk _ _ _ (by omega) c;exact⟨i,a,by rw[A.2];exact b,A.1⟩
 | 4,hp=>exact hp
 | 5,⟨i,g,a,b,c⟩=>have A:=hk _ _ _ (by omega) c;exact⟨i,g,a,by rw[A.2];exact b,A.1⟩
 | 6,⟨i,a,b,c⟩=>have A:=hk _ _ _ (by omega) c;exact⟨i,a,by rw[A.2];exact b,A.1⟩
 | 7,⟨i,a,b,c⟩=>have A:=hk _ _ _ (by omega) c;exact⟨i,a,by rw[A.2];exact b,A.1⟩
 | 8,hp=>exact hp
 | 9,hp=>exact hp
 | 10,⟨vi,ci,ri,g,ti,pi,a,b⟩=>exact⟨vi,ci,ri,g,ti,pi,a,b.keep hk⟩
 | j+11,⟨c,vi,ci,ri,g,ti,pi,a,b,d,e⟩=>have A:=hk _ _ _ (by omega) d;exact⟨c,vi,ci,ri,g,ti,pi,a,by rw[A.2];exact b,A.1,e.keep hk⟩

end
theorem rowGc {X Z:Hp} {c id g:Nat} {xs:List Int} (h:CurL c X Z) (hx:Cur X c) (hid:X.length≤id) (ho:rdOb Z id g=some ⟨xs.map .i,g,true,1⟩) :
  ∃ w Z',gcRet X (.c (.sl id g 0 xs.length)) Z=(.c w,Z')∧CurL c X Z'∧OutR Z' w xs∧∀ id,IsOut w id→X.length≤id:=by
 by_cases ht:Z.take X.length=X
 ·have hp:Pre X Z:=⟨Z.drop X.length,by have:=List.take_append_drop X.length Z;rw[ht]at this;exact this.symm⟩
  refine⟨_,_,gcRet_row hp hid ho rfl (by simp[flatC]),(CurL.refl hx).app _,.inr ⟨X.length,0,rfl,by simp⟩,?_⟩
  rintro i ⟨g',n,he⟩;cases he;exact Nat.le_refl _
 ·refine⟨_,Z,by unfold gcRet;rw[if_neg ht],h,.inr ⟨id,g,rfl,ho⟩,?_⟩
  rintro i ⟨g',n,he⟩;cases he;exact hid

def ReadsRes (X:Hp) (c:Nat) (r:IV×Hp):Prop:=∃ w Z xs,r=(.c w,Z)∧CurL c X Z∧OutR Z w xs∧(∀ id,IsOut w id→X.length≤id)∧xs.length≤6

theorem drawReads_call {X:Hp} {c:Nat} (h:Cur X c):CM 111 [.c (.p c 0 0)] X (ReadsRes X c):=by
 refine cw111 ?_
 unfold vf111c
 have hlt:=h.lt
 simp
 obtain⟨I,hI⟩:∃ I:Nat→St→Prop,∀ k st,I k st↔(∃ (xs:List Int) (id g:Nat),k+xs.length=6∧CurL c X st.h∧X.length≤id∧rdOb st.h id g=some ⟨xs.map .i,g,true,1⟩∧Env.get st.e 0=.c (.p c 0 0)∧Env.get st.e 3=.c (.sl id g 0 xs.length)∧Env.get st.e 4=.c (.i xs.length)):=⟨_,fun _ _=>Iff.rfl⟩
 refine wp_loop CM_mono I (k:=6) ((hI _ _).2 ⟨[],X.length,0,rfl,(CurL.refl h).app _,Nat.le_refl _,by simp,by simp⟩) ?_
 rintro k ⟨e,Y⟩ hIs
 obtain⟨xs,id,g,hk,hC,hid,ho,e0,e3,e4⟩:=(hI _ _).1 hIs
 simp only at hC ho e0 e3 e4 ⊢
 obtain⟨r,Y1,r0,r1,_,C1,eb⟩:=below_call hC.cur 6
 have r6:=r1 (by omega)
 have hne:id≠c:=by omega
 have ho1:=C1.l.keep _ _ _ hne ho
 have hC1:=hC.trans C1.l
 unfold vf111b0
 by_cases hlt2:(xs.length:Int)<r
 ·have hxl:xs.length≤4:=by omega
  obtain⟨x,Y2,hx,C2,en⟩:=num_call C1.cur
  have ho2:=C2.keep _ _ _ hne ho1
  obtain⟨Y3,hY3⟩:∃ Y3,Y2++[(⟨[.i x],0,true,1⟩:Ob)]=Y3:=⟨_,rfl⟩
  have ho3:rdOb Y3 id g=some ⟨xs.map .i,g,true,1⟩:=by rw[← hY3];exact rdOb_app _ ho2
  have hT:rdOb Y3 Y2.length 0=some ⟨[.i x],0,true,1⟩:=by rw[← hY3];simp
  have hsrc:srcOf Y3 1 (.sl Y2.length 0 0 1)=some (1,[.i x]):=by simp[srcOf,hT]
  have happ:=app_own (X:=Y3) (o:=id) (g:=g) (n:=xs.length) (sz:=1) (m:=1) (cs:=xs.map .i) (xs:=[.i x]) ho3 (by simp) (by simp) (by simp[LIM];omega)
  simp[e0,e3,e4,eb,hlt2,en,putL0,hY3,hsrc,happ,up1 (show xs.length<6 by omega) (show 6≤BIG by simp[BIG])]
  refine⟨k - 1,by omega,(hI _ _).2 ⟨xs++[x],id,g+1,by simp;omega,?_,hid,?_,by simp[e0]⟩⟩
  ·have hC3:CurL c X Y3:=by rw[← hY3];exact (hC1.trans C2).app _
   refine⟨?_,by simpa using hC3.le,fun i gg o h1 h2=>?_⟩
   ·obtain⟨bs,i,hh,ys,q1,q2,q3,q4,q5⟩:=hC3.cur
    refine⟨bs,i,hh,ys,by rw[rdOb_set_ne (Ne.symm hne)];exact q1,?_,q3,q4,q5⟩
    rcases q2 with q2 | ⟨i2,g2,off,ob,w1,w2,w3⟩
    ·exact .inl q2
    ·exact .inr ⟨i2,g2,off,ob,w1,by rw[rdOb_set_ne (by have:=q5 _ _ _ _ w1;omega)];exact w2,w3⟩
   ·rw[rdOb_set_ne (by have:=rdOb_lt h2;omega)];exact hC3.keep i gg o h1 h2
  ·simp only;rw[rdOb_set_self (rdOb_lt ho3)];simp
 ·obtain⟨w,Z,g1,g2,g3,g4⟩:=rowGc hC1 h hid ho1
  simp[e0,e3,e4,eb,hlt2,g1]
  exact⟨w,Z,xs,rfl,g2,g3,g4,by omega⟩

def FuelRes (X:Hp) (c:Nat) (r:IV×Hp):Prop:=∃ n Z,r=(.c (.i n),Z)∧CurL c X Z∧-1≤n∧n≤5001

theorem FuelRes.mk' {X Z:Hp} {c:Nat} {n:Int} (h:CurL c X Z) (hx:Cur X c) (h1:-1≤n) (h2:n≤5001):FuelRes X c (gcRet X (.c (.i n)) Z):=by
 obtain⟨Z',e,hC⟩:=CurL.gc h hx (r:=.c (.i n)) rfl
 rw[e];exact⟨n,Z',rfl,hC,h1,h2⟩

theorem drawFuel_call {X:Hp} {c:Nat} (h:Cur X c):CM 112 [.c (.p c 0 0)] X (FuelRes X c):=by
 refine cw112 ?_
 unfold vf112c
 obtain⟨r,Y1,r0,r1,_,C1,eb⟩:=below_call h 6
 by_cases h0:r=0
 ·subst h0
  obtain⟨r2,Y2,q0,q1,_,C2,eb2⟩:=below_call C1.cur 40
  have:=q1 (by omega)
  simp[eb,eb2]
  exact FuelRes.mk' (C1.l.trans C2.l) h (by omega) (by omega)
 ·by_cases h1:r=1
  ·subst h1
   obtain⟨Y2,hY2⟩:∃ Y2,Y1++[(⟨[.i (-1),.i 0,.i 5000,.i 5001],0,true,1⟩:Ob)]=Y2:=⟨_,rfl⟩
   have hI:IsI Y2 (.sl Y1.length 0 0 4) [-1,0,5000,5001]:=own_isI (by rw[← hY2];simp) rfl
   have C2:CurL c X Y2:=by rw[← hY2];exact C1.l.app _
   obtain⟨p,Y3,hp,C3,ep⟩:=pick_call C2.cur hI (by simp)
   simp at hp
   simp[eb,putL0,putL1,putL2,putL3,hY2,ep]
   exact FuelRes.mk' (C2.trans C3.l) h (by omega) (by omega)
  ·simp[eb,h0,h1]
   exact FuelRes.mk' C1.l h (by omega) (by omega)

def RunDraw (H:Hp) (r:IV×Hp):Prop:=∃ X v m bs w xs n,r=(.tup [(true,[v,.i m]),(false,[w]),(false,[.i n])],X)∧(∃ d g,v=.sl d g 0 bs.length)∧Pre H X∧HiBlocks H.length X v bs∧bs.length≤BIG∧0<bs.length ∧
 OutR X w xs∧(∀ id,IsOut w id→H.length≤id)∧xs.length≤6∧-1≤n∧n≤5001

theorem HiBlocks.lower {lo lo':Nat} {X:Hp} {v:CV} {bs:List BlkR} (h:HiBlocks lo X v bs) (hl:lo'≤lo):HiBlocks lo' X v bs:=fun Y hY=>h Y fun id g o hi ho=>hY id g o (by omega) ho

theorem HiBlocks.to {lo:Nat} {X Y:Hp} {v:CV} {bs:List BlkR} (h:HiBlocks lo X v bs) (hh:Hi lo X Y):HiBlocks lo Y v bs:=fun Z hZ=>h Z (hh.trans hZ (Nat.le_refl _))

theorem gc_tp3 (H Y:Hp) (d g n:Nat) (m:Int) (w:CV) (q:Int):gcRet H (.tup [(true,[.sl d g 0 n,.i m]),(false,[w]),(false,[.i q])]) Y=(.tup [(true,[.sl d g 0 n,.i m]),(false,[w]),(false,[.i q])],Y):=by
 unfold gcRet;split
 ·rw[if_neg (by simp[flatV,flatC])]
 ·rfl

theorem drawAll_call {H:Hp} {v:CV} {xs:List Int} (hv:IsB H v xs) (hb:xs.length≤BIG):CM 53 [.c v] H (RunDraw H):=by
 refine cw53 ?_
 unfold vf53c
 simp
 have hv1:IsB (H++[(⟨[.ns,.i 0],0,true,2⟩:Ob)]) v xs:=Sl.app _ hv
 have hl:(H++[(⟨[.ns,.i 0],0,true,2⟩:Ob)]).length=H.length+1:=by simp
 have hR:rdOb (H++[(⟨[.ns,.i 0],0,true,2⟩:Ob)]) H.length 0=some ⟨[.ns,.i 0],0,true,2⟩:=by simp
 have hp1:Pre H (H++[(⟨[.ns,.i 0],0,true,2⟩:Ob)]):=⟨_,rfl⟩
 generalize H++[(⟨[.ns,.i 0],0,true,2⟩:Ob)]=X0 at hv1 hl hR hp1 ⊢
 refine (new_call hv1 hb).mono ?_
 rintro _ ⟨h,rfl⟩
 have hc:=new_cur hv1 hb h
 have hR1:=rdOb_app [(⟨[v,.i 0,.i h],0,true,3⟩:Ob)] hR
 have hp2:Pre H (X0++[(⟨[v,.i 0,.i h],0,true,3⟩:Ob)]):=hp1.app _
 have hl1:(X0++[(⟨[v,.i 0,.i h],0,true,3⟩:Ob)]).length=H.length+2:=by simp[hl]
 generalize X0++[(⟨[v,.i 0,.i h],0,true,3⟩:Ob)]=X1 at hc hR1 hp2 hl1 ⊢
 simp
 refine (draw_call hc).mono ?_
 rintro _ ⟨X,w,m,bs,rfl,⟨d,g,rfl⟩,C,hB,hbl,hb0⟩
 obtain⟨X2,hX2⟩:∃ X2,X++[(⟨[.sl d g 0 bs.length,.i m],0,true,2⟩:Ob)]=X2:=⟨_,rfl⟩
 have hF2:rdOb X2 X.length 0=some ⟨[.sl d g 0 bs.length,.i m],0,true,2⟩:=by rw[← hX2];simp
 have C2:CurL X0.length X1 X2:=by rw[← hX2];exact C.app _
 have l2:X2.length=X.length+1:=by rw[← hX2];simp
 have hCle:=C.le
 simp[putD0',hX2]
 refine (drawReads_call C2.cur).mono ?_
 rintro _ ⟨w,Z,ys,rfl,C3,hO,hOlo,hyl⟩
 have hXc:X.length≠X0.length:=by omega
 have hF3:=C3.keep _ _ _ hXc hF2
 simp[rdN_ob hF3]
 refine (drawFuel_call C3.cur).mono ?_
 rintro _ ⟨n,Y,rfl,C4,hn1,hn2⟩
 have hF4:=C4.keep _ _ _ hXc hF3
 have hR4:=((C2.trans C3).trans C4).keep _ _ _ (by omega) hR1
 have hrd:rdN (Y.set H.length ⟨[.sl d g 0 bs.length,.i m],0,true,2⟩) H.length 0 0 2=some [.sl d g 0 bs.length,.i m]:=by
  rw[rdN_ob (o:=⟨[.sl d g 0 bs.length,.i m],0,true,2⟩) (by rw[rdOb_set_self (rdOb_lt hR4)];simp)];simp
 have hO':OutR (Y.set H.length ⟨[.sl d g 0 bs.length,.i m],0,true,2⟩) w ys:=hO.keep fun id gg o hi ho=>by
  have:=hOlo id hi
  rw[rdOb_set_ne (by omega)];exact C4.keep _ _ _ (by omega) ho
 rcases hO.form with rfl | ⟨i1,g1,n1,rfl⟩
 all_goals
  simp[hF3,hF4,rdN_ob hF3,rdN_ob hF4,putD0',hR4,hrd,gc_tp3]
  refine⟨_,_,m,bs,_,ys,n,rfl,⟨d,g,rfl⟩,(((C2.trans C3).trans C4).pre hp2 (by omega)).set (Nat.le_refl _) _,?_,hbl,hb0,hO',fun id hi=>by have:=hOlo id hi;omega,hyl,hn1,hn2⟩
  rw[hl1]at hB
  exact (hB.to (((Pre.hi (lo:=H.length+2) ⟨_,hX2.symm⟩).trans ((C3.trans C4).hi (lo:=H.length+2) (by omega)) (Nat.le_refl _)).trans (Hi.set (lo:=H.length+2) (by omega) _) (Nat.le_refl _))).lower (by omega)
theorem drawRun_call {H:Hp} {v:CV} {xs:List Int} (hv:IsB H v xs) (hb:xs.length≤BIG):CM 17 [.c v] H (RunDraw H):=by
 refine cw17 ?_
 unfold vf17c
 obtain⟨X0,hX0⟩:∃ X0,H++[(⟨[.ns,.i 0],0,true,2⟩:Ob)]=X0:=⟨_,rfl⟩
 have hp0:Pre H X0:=⟨_,hX0.symm⟩
 have hR:rdOb X0 H.length 0=some ⟨[.ns,.i 0],0,true,2⟩:=by rw[← hX0];simp
 have l0:X0.length=H.length+1:=by rw[← hX0];simp
 simp[hX0]
 refine (drawAll_call (Sl.pre hp0 hv) hb).mono ?_
 rintro _ ⟨X,w,m,bs,u,ys,n,rfl,⟨d,g,rfl⟩,hp1,hB,hbl,hb0,hO,hOlo,hyl,hn1,hn2⟩
 obtain⟨X2,hX2⟩:∃ X2,X++[(⟨[.sl d g 0 bs.length,.i m],0,true,2⟩:Ob)]=X2:=⟨_,rfl⟩
 have hp2:Pre X X2:=⟨_,hX2.symm⟩
 have hF2:rdOb X2 X.length 0=some ⟨[.sl d g 0 bs.length,.i m],0,true,2⟩:=by rw[← hX2];simp
 have hR2:=(hp1.trans hp2).rdOb hR
 have hrd:rdN (X2.set H.length ⟨[.sl d g 0 bs.length,.i m],0,true,2⟩) H.length 0 0 2=some [.sl d g 0 bs.length,.i m]:=by
  rw[rdN_ob (o:=⟨[.sl d g 0 bs.length,.i m],0,true,2⟩) (by rw[rdOb_set_self (rdOb_lt hR2)];simp)];simp
 have hO':OutR (X2.set H.length ⟨[.sl d g 0 bs.length,.i m],0,true,2⟩) u ys:=hO.keep fun id gg o hi ho=>by
  have:=hOlo id hi
  rw[rdOb_set_ne (by omega)];exact hp2.rdOb ho
 rcases hO.form with rfl | ⟨i1,g1,n1,rfl⟩
 all_goals
  simp[putD0',hX2,rdN_ob hF2,hR2,hrd,gc_tp3]
  refine⟨_,_,m,bs,_,ys,n,rfl,⟨d,g,rfl⟩,((hp0.trans hp1).trans hp2).set (Nat.le_refl _) _,?_,hbl,hb0,hO',fun id hi=>by have:=hOlo id hi;omega,hyl,hn1,hn2⟩
  rw[l0]at hB
  exact (hB.to ((Pre.hi (lo:=H.length+1) hp2).trans (Hi.set (lo:=H.length+1) (by omega) _) (Nat.le_refl _))).lower (by omega)
theorem runGo_told (bs:List BlkR):∀ (n φ b:Nat) (fr:Int) (s:RunS),(runGo bs n φ b fr s).2.2.told.length≤s.told.length+φ∧(runGo bs n φ b fr s).2.2.path.length≤s.path.length+φ+1:=by
 intro n
 induction n with
 | zero=>intro φ b fr s;exact⟨Nat.le_add_right _ _,by simp only[runGo];omega⟩
 | succ n ih =>
  intro φ b fr s
  simp only[runGo]
  have h1:=listGo_told (bs.getD b blk0).list φ (comeGo b fr (bs.getD b blk0).phis s)
  have h2:(comeGo b fr (bs.getD b blk0).phis s).told=s.told:=rfl
  have h3:(comeGo b fr (bs.getD b blk0).phis s).path.length=s.path.length+1:=by simp[comeGo]
  generalize comeGo b fr (bs.getD b blk0).phis s=s1 at *
  have h4:=listGo_fuel (bs.getD b blk0).list φ s1
  generalize listGo (bs.getD b blk0).list φ s1=r at *
  have h5:r.2.2.path.length=s.path.length+1:=by rw[h1.2];exact h3
  rw[h2]at h1
  split
  ·split
   ·exact⟨by simp only;omega,by simp only;omega⟩
   ·split
    ·exact⟨by simp only;omega,by simp only;omega⟩
    ·have:=ih (r.2.1 - 1) (nextGo (bs.getD b blk0).term r.2.2).toNat (b:Int) r.2.2
     omega
  ·exact⟨by simp only;omega,by simp only;omega⟩

theorem runW_told (f:FnR) (reads:List Int) (fuel:Int):(runW f reads fuel).2.2.told.length≤BIG∧(runW f reads fuel).2.2.path.length≤BIG:=by
 unfold runW
 split
 ·have:=runGo_told f.blocks ((min fuel 5000).toNat+1) (min fuel 5000).toNat 0 (-1) (initS f.values reads)
  simp only[initS,List.length_nil]at this ⊢
  simp only[BIG]
  omega
 ·simp[BIG]


def OwnG (Y:Hp) (w:CV) (n:Nat) (cells:List CV):Prop:=(w=.ns∧n=0∧cells=[])∨∃ id g,w=.sl id g 0 n∧rdOb Y id g=some ⟨cells,g,true,1⟩∧cells.length=n

theorem OwnG.isI {Y:Hp} {w:CV} {xs:List Int} {n:Nat} (h:OwnG Y w n (xs.map .i)):IsI Y w xs:=by
 rcases h with⟨rfl,rfl,h⟩ | ⟨id,g,rfl,h,hl⟩
 ·have:xs=[]:=by simpa using h
  subst this;exact IsI.ns _
 ·exact own_isI h (by simpa using hl)

theorem OwnG.keep {Y Z:Hp} {w:CV} {n:Nat} {cells:List CV} (h:OwnG Y w n cells) (hk:∀ id g o,IsOut w id→rdOb Y id g=some o→rdOb Z id g=some o):OwnG Z w n cells:=by
 rcases h with h | ⟨id,g,rfl,h,hl⟩
 ·exact .inl h
 ·exact .inr ⟨id,g,rfl,hk _ _ _ ⟨_,_,rfl⟩ h,hl⟩

theorem RowRes.lo {H:Hp} {w:CV} {L:Hp} {xs:List Int} (h:RowRes H w L xs):∀ id,IsOut w id→H.length≤id:=by
 rintro id ⟨g,n,e⟩
 rcases h with⟨rfl,_,rfl⟩ | ⟨rfl,rfl⟩
 ·cases e
 ·cases e;exact Nat.le_refl _
theorem fold0_leG {f:FnR} (hb:f.blocks.length≤BIG):(fold0 f).blocks.length≤BIG:=by
 unfold fold0
 split
 ·rename_i h
  have hsh:=(well_iff.1 h).sh
  have:=(foldTo_ok hsh (ordF f.blocks) (walk0_seen (shape_pos hsh)).1).len
  simp only;omega
 ·exact hb

set_option maxRecDepth 100000 in
theorem folded_law {H:Hp} {v:CV} {xs:List Int} (hv:IsB H v xs):CM 4 [.c v] H Tru:=by
 refine cw4 ?_
 unfold vf4c
 by_cases hbig:1048576<xs.length
 ·simp[big_call hv.lenOf,hbig]
 have hb:xs.length≤BIG:=by simp only[BIG];omega
 simp[big_call hv.lenOf,hbig]
 refine (drawRun_call hv hb).mono ?_
 rintro _ ⟨X,w,m,bs,rv,reads,n,rfl,⟨d,g,rfl⟩,hp,hB,hbl,h0,hO,_,hrl,hn1,hn2⟩
 obtain⟨X1,hX1⟩:∃ X1,X++[(⟨[.sl d g 0 bs.length,.i m],0,true,2⟩:Ob)]=X1:=⟨_,rfl⟩
 have hp1:Pre X X1:=⟨_,hX1.symm⟩
 have hB1:Blocks X1 (.sl d g 0 bs.length) bs:=(hB _ (Hi.refl _ _)).pre hp1
 have hF1:rdOb X1 X.length 0=some ⟨[.sl d g 0 bs.length,.i m],0,true,2⟩:=by rw[← hX1];simp
 have hR1:IsI X1 rv reads:=Sl.pre hp1 hO.isI
 have hrb:reads.length≤BIG:=by simp only[BIG];omega
 obtain⟨f,hf⟩:∃ f:FnR,f=⟨bs,m⟩:=⟨_,rfl⟩
 obtain rfl:bs=f.blocks:=by rw[hf]
 obtain rfl:m=f.values:=by rw[hf]
 clear hf
 obtain⟨vv,hvv⟩:∃ vv,CV.sl d g 0 f.blocks.length=vv:=⟨_,rfl⟩
 rw[hvv]at hX1 hB1 hF1
 have hl1:=fold0_leG hbl
 have hcheck:=fold_well f
 have hcost:=fold_cost f
 have hrun:=fold_run f reads n
 have hidem:=fold_fold f
 obtain⟨h1,hh1⟩:∃ h1,fold0 f=h1:=⟨_,rfl⟩
 rw[hh1]at hl1 hcheck hcost hrun hidem
 obtain⟨q,hq⟩:∃ q,runW f reads n=q:=⟨_,rfl⟩
 have htl:=(runW_told f reads n).1
 rw[hq]at htl hrun
 rcases hO.form with rfl | ⟨i1,g1,n1,rfl⟩
 all_goals
  simp[hvv,putD0',hX1,rdN_ob hF1]
  refine (implFold hB1 hbl).mono ?_
  rw[hh1]
  rintro _ ⟨w1,L1,rfl,hT1⟩
  obtain⟨X2,hX2⟩:∃ X2,X1++L1=X2:=⟨_,rfl⟩
  have hp2:Pre X1 X2:=⟨_,hX2.symm⟩
  rw[hX2]at hT1 ⊢
  obtain⟨X3,hX3⟩:∃ X3,X2++[(⟨[w1,.i h1.values],0,true,2⟩:Ob)]=X3:=⟨_,rfl⟩
  have hp3:Pre X2 X3:=⟨_,hX3.symm⟩
  have hG3:rdOb X3 X2.length 0=some ⟨[w1,.i h1.values],0,true,2⟩:=by rw[← hX3];simp
  have hF3:=(hp2.trans hp3).rdOb hF1
  have hB3:=hB1.pre (hp2.trans hp3)
  have hW3:=(Tree.blocks hT1).pre hp3
  simp[putAt,hX3,rdN_ob hF3]
  refine (specFold hB3 hbl).mono ?_
  rw[hh1]
  rintro _ ⟨w2,L2,rfl,hT2⟩
  obtain⟨X4,hX4⟩:∃ X4,X3++L2=X4:=⟨_,rfl⟩
  have hp4:Pre X3 X4:=⟨_,hX4.symm⟩
  rw[hX4]at hT2 ⊢
  obtain⟨X5,hX5⟩:∃ X5,X4++[(⟨[w2,.i h1.values],0,true,2⟩:Ob)]=X5:=⟨_,rfl⟩
  have hp5:Pre X4 X5:=⟨_,hX5.symm⟩
  have hH5:rdOb X5 X4.length 0=some ⟨[w2,.i h1.values],0,true,2⟩:=by rw[← hX5];simp
  have hp35:=hp4.trans hp5
  have hF5:=hp35.rdOb hF3
  have hG5:=hp35.rdOb hG3
  have hB5:=hB3.pre hp35
  have hW5:=hW3.pre hp35
  have hV5:=(Tree.blocks hT2).pre hp5
  have hR5:=Sl.pre ((hp2.trans hp3).trans hp35) hR1
  simp[putAt,hX5,rdN_ob hF5,rdN_ob hG5,rdN_ob hH5,sameFn_call hW5 hV5 hl1,implCheck hW5 hl1,implCheck hB5 hbl,hcheck,hF5,hG5]
  refine (implRun hB5 hbl hR5).mono ?_
  rw[hq]
  rintro _ ⟨X6,tI,rfl,hp6,hI6,_⟩
  simp[rdN_ob (hp6.rdOb hG5)]
  refine (implRun (hW5.pre hp6) hl1 (Sl.pre hp6 hR5)).mono ?_
  rw[hrun]
  rintro _ ⟨X7,tJ,rfl,hp7,hJ7,_⟩
  have hI7:=Sl.pre hp7 hI6.isI
  have hp57:=hp6.trans hp7
  have hF7:=hp57.rdOb hF5
  have hG7:=hp57.rdOb hG5
  have hB7:=hB5.pre hp57
  have hW7:=hW5.pre hp57
  simp[sameInts_call hI7 hJ7.isI htl,rdN_ob hF7,rdN_ob hG7,implCost hW7 hl1,implCost hB7 hbl,hcost,hF7,hG7]
  refine (implFold hW7 hl1).mono ?_
  rw[hidem]
  rintro _ ⟨w3,L3,rfl,hT3⟩
  obtain⟨X8,hX8⟩:∃ X8,X7++L3=X8:=⟨_,rfl⟩
  have hp8:Pre X7 X8:=⟨_,hX8.symm⟩
  rw[hX8]at hT3 ⊢
  have hG8:=hp8.rdOb hG7
  simp[hG7,hG8,rdN_ob hG8,sameFn_call (Tree.blocks hT3) (hW7.pre hp8) hl1]
end Go.Proofs.YtiecgmmaihckeaaGreat.Vm
