/- A part of the proof: the machine and the walks. No conditions. -/
import Derived.Test.YtiecgmmaihckeaaW3
namespace Go.Proofs.Ytiecgmmaihckeaa.Vm
open Go.RowKit (wrap64)
set_option linter.unusedSimpArgs false
set_option linter.unusedVariables false
set_option maxRecDepth 100000
theorem XK_sim {w0:World}:OrdSim Try.prog w0 XK:=sort_sim ⟨_,Try.func31,by kernel_rfl,by kernel_rfl⟩ (fun blk off cap zs w h1 h2 h3=>Go.Proofs.Try.slices_Sort_int blk off cap zs w h1 h2 h3) (fun p cap w=>Go.Proofs.Try.slices_Sort_int_none p cap w)
theorem det {f:Nat} {ar:List IV} {H:Hp} {r:IV×Hp} (h:CM f ar H fun x=>x=r) (k:IV×Hp→Prop):CM f ar H k=k r:=by
 apply propext
 constructor
 ·intro hk
  obtain⟨x,rfl,hx⟩:=callD_nm XK_nm _ _ _ _ (callD_cj XK_mono XK_cj _ _ _ _ _ h hk)
  exact hx
 ·intro hk
  exact CM_mono _ _ _ _ _ (fun x hx=>by subst hx;exact hk) h

theorem CM.mono {f:Nat} {ar:List IV} {H:Hp} {Q Q':IV×Hp→Prop} (h:CM f ar H Q) (hq:∀ r,Q r→Q' r):CM f ar H Q':=CM_mono _ _ _ _ _ hq h

theorem IsI.at_ {H:Hp} {v:CV} {xs:List Int} (h:IsI H v xs) {k:Nat} (hk:k<xs.length) :
  ∃ id g off,idxOf 1 v (k:Int)=some (.p id g off)∧rdC H id g off=some (.i xs[k]):=by
 obtain⟨id,g,off,o,h1,h2,h3⟩:=h.get hk
 exact⟨id,g,off,h1,by simp[rdC,h2,h3]⟩


@[simp] theorem rdC_r (H L:Hp) (k g off:Nat):rdC (H++L) (H.length+k) g off=rdC L k g off:=by simp[rdC]

@[simp] theorem rdC_r0 (H L:Hp) (g off:Nat):rdC (H++L) H.length g off=rdC L 0 g off:=by simp[rdC]

@[simp] theorem rdC_c0 (o:Ob) (L:Hp) (g off:Nat):rdC (o :: L) 0 g off=if o.g=g then o.cells[off]? else none:=by
 simp only[rdC,rdOb_c0];split<;>rfl

@[simp] theorem rdC_cs (o:Ob) (L:Hp) (k g off:Nat):rdC (o :: L) (k+1) g off=rdC L k g off:=by simp[rdC]

@[simp] theorem rdN_r (H L:Hp) (k g off n:Nat):rdN (H++L) (H.length+k) g off n=rdN L k g off n:=by simp[rdN]

@[simp] theorem rdN_r0 (H L:Hp) (g off n:Nat):rdN (H++L) H.length g off n=rdN L 0 g off n:=by simp[rdN]

@[simp] theorem rdN_c0 (o:Ob) (L:Hp) (g off n:Nat):rdN (o :: L) 0 g off n=if o.g=g then (if off+n≤o.cells.length then some ((o.cells.drop off).take n) else none) else none:=by
 simp only[rdN,rdOb_c0];split<;>rfl

@[simp] theorem rdN_cs (o:Ob) (L:Hp) (k g off n:Nat):rdN (o :: L) (k+1) g off n=rdN L k g off n:=by simp[rdN]

theorem rdC_ob {H:Hp} {id g off:Nat} {o:Ob} (h:rdOb H id g=some o):rdC H id g off=o.cells[off]?:=by simp[rdC,h]

theorem rdN_ob {H:Hp} {id g off n:Nat} {o:Ob} (h:rdOb H id g=some o):rdN H id g off n=if off+n≤o.cells.length then some ((o.cells.drop off).take n) else none:=by simp[rdN,h]

theorem rdOb_keep {H:Hp} (L:Hp) {id g:Nat} {o:Ob} (h:rdOb H id g=some o):rdOb (H++L) id g=rdOb H id g:=by rw[rdOb_app L h,h]


def Row {α:Type} (P:Hp→List CV→α→Prop) (sz:Nat) (H:Hp) (v:CV) (xs:List α):Prop:=
 ∃ css:List (List CV),Sl H sz v xs.length css.flatten∧css.length=xs.length∧∀ (k:Nat) cs x,css[k]? = some cs→xs[k]? = some x→cs.length=sz∧P H cs x

theorem Row.lenOf {α:Type} {P:Hp→List CV→α→Prop} {sz:Nat} {H:Hp} {v:CV} {xs:List α} (h:Row P sz H v xs):lenOf v=some xs.length:=by
 obtain⟨css,h,_⟩:=h;exact Sl.lenOf h

theorem Row.pre {α:Type} {P:Hp→List CV→α→Prop} {sz:Nat} {H X:Hp} (hP:∀ cs x,P H cs x→P X cs x) (hp:Pre H X) {v:CV} {xs:List α} (h:Row P sz H v xs):Row P sz X v xs:=by
 obtain⟨css,h1,h2,h3⟩:=h
 exact⟨css,Sl.pre hp h1,h2,fun k cs x a b=>⟨(h3 k cs x a b).1,hP _ _ (h3 k cs x a b).2⟩⟩

theorem Row.ns {α:Type} {P:Hp→List CV→α→Prop} {sz:Nat} {H:Hp}:Row P sz H .ns ([]:List α):=⟨[],.inl ⟨rfl,rfl,rfl⟩,rfl,fun k cs x h=>by simp at h⟩

theorem flat_drop {sz:Nat}:∀ {css:List (List CV)},(∀ cs∈css,cs.length=sz)→∀ {k:Nat} {cs:List CV},css[k]? = some cs→(css.flatten.drop (k * sz)).take sz=cs∧k * sz+sz≤css.flatten.length:=by
 intro css
 induction css with
 | nil=>intro _ k cs h;simp at h
 | cons c r ih =>
  intro hl k cs h
  have hc:=hl c (by simp)
  cases k with
  | zero =>
   simp at h;subst h
   simp[hc]
  | succ k =>
   simp at h
   obtain⟨h1,h2⟩:=ih (fun cs hcs=>hl cs (by simp[hcs])) h
   rw[List.flatten_cons]
   have e:(k+1) * sz=c.length+k * sz:=by rw[Nat.succ_mul,hc];omega
   rw[e,List.drop_append,List.drop_eq_nil_of_le (by omega),List.nil_append,Nat.add_sub_cancel_left,List.length_append]
   exact⟨h1,by omega⟩

structure At (H:Hp) (id g off:Nat) (cs:List CV):Prop where
 ob:∃ o,rdOb H id g=some o∧off+cs.length≤o.cells.length∧(o.cells.drop off).take cs.length=cs

theorem At.pre {H X:Hp} (hp:Pre H X) {id g off:Nat} {cs:List CV} (h:At H id g off cs):At X id g off cs:=by
 obtain⟨o,h1,h2⟩:=h.ob
 exact⟨o,hp.rdOb h1,h2⟩

theorem At.app {H:Hp} {id g off:Nat} {cs:List CV} (h:At H id g off cs) (L:Hp):At (H++L) id g off cs:=h.pre ⟨L,rfl⟩

theorem At.c {H:Hp} {id g off:Nat} {cs:List CV} (h:At H id g off cs) (j:Nat) (hj:j<cs.length):rdC H id g (off+j)=some cs[j]:=by
 obtain⟨o,h1,h2,h3⟩:=h.ob
 rw[rdC_ob h1]
 have:((o.cells.drop off).take cs.length)[j]? = cs[j]?:=by rw[h3]
 rw[List.getElem?_take,if_pos hj,List.getElem?_drop,List.getElem?_eq_getElem hj]at this
 exact this

theorem At.n {H:Hp} {id g off:Nat} {cs:List CV} (h:At H id g off cs) (j m:Nat) (hj:j+m≤cs.length):rdN H id g (off+j) m=some ((cs.drop j).take m):=by
 obtain⟨o,h1,h2,h3⟩:=h.ob
 rw[rdN_ob h1,if_pos (by omega)]
 congr 1
 rw[← h3,List.drop_take,List.take_take,List.drop_drop,Nat.min_eq_left (by omega)]

theorem At.keep {H:Hp} {id g off:Nat} {cs:List CV} (h:At H id g off cs) (L:Hp):rdOb (H++L) id g=rdOb H id g:=by
 obtain⟨o,h1,_⟩:=h.ob;exact rdOb_keep L h1

theorem At.lt {H:Hp} {id g off:Nat} {cs:List CV} (h:At H id g off cs):id<H.length:=by
 obtain⟨o,h1,_⟩:=h.ob;exact rdOb_lt h1

theorem Row.get {α:Type} {P:Hp→List CV→α→Prop} {sz:Nat} {H:Hp} {v:CV} {xs:List α} (h:Row P sz H v xs) {k:Nat} (hk:k<xs.length) :
  ∃ id g off cs,idxOf sz v (k:Int)=some (.p id g off)∧At H id g off cs∧cs.length=sz∧P H cs xs[k]:=by
 obtain⟨css,h1,h2,h3⟩:=h
 have hl:∀ cs∈css,cs.length=sz:=by
  intro cs hcs
  obtain⟨i,hi,rfl⟩:=List.getElem_of_mem hcs
  exact (h3 i _ xs[i] (List.getElem?_eq_getElem hi) (List.getElem?_eq_getElem (by omega))).1
 have hc:css[k]? = some css[k]:=List.getElem?_eq_getElem (by omega)
 obtain⟨f1,f2⟩:=flat_drop hl hc
 obtain⟨g1,g2⟩:=h3 k _ xs[k] hc (List.getElem?_eq_getElem hk)
 rcases h1 with⟨_,h1,_⟩ | ⟨id,g,off,o,rfl,q1,q2,q3,q4⟩
 ·omega
 ·refine⟨id,g,off+k * sz,css[k],by simp[hk],⟨o,q1,?_,?_⟩,g1,g2⟩
  ·have:(k+1) * sz≤xs.length * sz:=Nat.mul_le_mul_right _ hk
   rw[Nat.succ_mul]at this
   rw[g1];omega
  ·have e:((css.flatten.drop (k * sz)).take sz)=css[k]:=f1
   rw[← q4,List.drop_take,List.take_take,List.drop_drop,Nat.min_eq_left]at e
   ·rw[g1];exact e
   ·have:(k+1) * sz≤xs.length * sz:=Nat.mul_le_mul_right _ hk
    rw[Nat.succ_mul]at this
    omega

theorem Row.mk {α:Type} {P:Hp→List CV→α→Prop} {sz:Nat} {H:Hp} {id g:Nat} {o:Ob} {xs:List α} {css:List (List CV)} (h:rdOb H id g=some o) (hs:o.sz=sz) (hc:o.cells=css.flatten) (hl:css.length=xs.length)
  (hP:∀ (k:Nat) cs x,css[k]? = some cs→xs[k]? = some x→cs.length=sz∧P H cs x):Row P sz H (.sl id g 0 xs.length) xs:=by
 have hl2:∀ cs∈css,cs.length=sz:=by
  intro cs hcs
  obtain⟨i,hi,rfl⟩:=List.getElem_of_mem hcs
  exact (hP i _ xs[i] (List.getElem?_eq_getElem hi) (List.getElem?_eq_getElem (by omega))).1
 have hfl:css.flatten.length=xs.length * sz:=by
  rw[← hl]
  clear hP hl hc
  induction css with
  | nil=>simp
  | cons c r ih=>rw[List.flatten_cons,List.length_append,ih (fun cs h=>hl2 cs (by simp[h])),hl2 c (by simp),List.length_cons,Nat.succ_mul];omega
 refine⟨css,.inr ⟨id,g,0,o,rfl,h,hs,by rw[hc,hfl];omega,?_⟩,hl,hP⟩
 rw[hc,List.drop_zero,List.take_of_length_le (by omega)]


structure ArmR where
 fr:Int
 v:Int
 deriving DecidableEq

structure PhiR where
 d:Int
 arms:List ArmR
 deriving DecidableEq

structure InsR where
 op:Int
 d:Int
 a:Int
 b:Int
 n:Int
 deriving DecidableEq

structure TrmR where
 kind:Int
 a:Int
 to:Int
 els:Int
 deriving DecidableEq

structure BlkR where
 phis:List PhiR
 list:List InsR
 term:TrmR
 deriving DecidableEq

structure FnR where
 blocks:List BlkR
 values:Int
 deriving DecidableEq

def armC (a:ArmR):List CV:=[.i a.fr,.i a.v]

def insC (x:InsR):List CV:=[.i x.op,.i x.d,.i x.a,.i x.b,.i x.n]

def trmC (t:TrmR):List CV:=[.i t.kind,.i t.a,.i t.to,.i t.els]

def armP (_:Hp) (cs:List CV) (a:ArmR):Prop:=cs=armC a

def insP (_:Hp) (cs:List CV) (x:InsR):Prop:=cs=insC x

def phiP (B:Nat) (H:Hp) (cs:List CV) (p:PhiR):Prop:=∃ w,cs=[.i p.d,w]∧Row armP 2 H w p.arms∧p.arms.length≤B

def blkP (B:Nat) (H:Hp) (cs:List CV) (b:BlkR):Prop:=∃ w u,cs=w :: u :: trmC b.term∧Row (phiP B) 2 H w b.phis∧Row insP 5 H u b.list∧b.phis.length≤B∧b.list.length≤B

def fnP (B:Nat) (H:Hp) (cs:List CV) (f:FnR):Prop:=∃ v,cs=[v,.i f.values]∧Row (blkP B) 6 H v f.blocks∧f.blocks.length≤B

theorem armP.pre {H X:Hp} {cs:List CV} {a:ArmR} (h:armP H cs a):armP X cs a:=h

theorem insP.pre {H X:Hp} {cs:List CV} {a:InsR} (h:insP H cs a):insP X cs a:=h

def BIG:Nat:=1048576

theorem phiP.pre {B:Nat} {H X:Hp} (hp:Pre H X) {cs:List CV} {p:PhiR} (h:phiP B H cs p):phiP B X cs p:=by
 obtain⟨w,h1,h2,h3⟩:=h;exact⟨w,h1,h2.pre (fun _ _=>armP.pre) hp,h3⟩

theorem blkP.pre {B:Nat} {H X:Hp} (hp:Pre H X) {cs:List CV} {p:BlkR} (h:blkP B H cs p):blkP B X cs p:=by
 obtain⟨w,u,h1,h2,h3,h4⟩:=h;exact⟨w,u,h1,h2.pre (fun _ _=>phiP.pre hp) hp,h3.pre (fun _ _=>insP.pre) hp,h4⟩

theorem fnP.pre {B:Nat} {H X:Hp} (hp:Pre H X) {cs:List CV} {p:FnR} (h:fnP B H cs p):fnP B X cs p:=by
 obtain⟨v,h1,h2,h3⟩:=h;exact⟨v,h1,h2.pre (fun _ _=>blkP.pre hp) hp,h3⟩

abbrev Blocks (H:Hp) (v:CV) (bs:List BlkR):Prop:=Row (blkP BIG) 6 H v bs

abbrev Phis (H:Hp) (v:CV) (ps:List PhiR):Prop:=Row (phiP BIG) 2 H v ps

abbrev Arms (H:Hp) (v:CV) (ps:List ArmR):Prop:=Row armP 2 H v ps

abbrev List5 (H:Hp) (v:CV) (ps:List InsR):Prop:=Row insP 5 H v ps

theorem Blocks.pre {H X:Hp} (hp:Pre H X) {v:CV} {bs:List BlkR} (h:Blocks H v bs):Blocks X v bs:=Row.pre (fun _ _=>blkP.pre hp) hp h

theorem Blocks.app {H:Hp} {v:CV} {bs:List BlkR} (h:Blocks H v bs) (L:Hp):Blocks (H++L) v bs:=h.pre ⟨L,rfl⟩

theorem Phis.pre {H X:Hp} (hp:Pre H X) {v:CV} {bs:List PhiR} (h:Phis H v bs):Phis X v bs:=Row.pre (fun _ _=>phiP.pre hp) hp h

theorem Phis.app {H:Hp} {v:CV} {bs:List PhiR} (h:Phis H v bs) (L:Hp):Phis (H++L) v bs:=h.pre ⟨L,rfl⟩

theorem Arms.pre {H X:Hp} (hp:Pre H X) {v:CV} {bs:List ArmR} (h:Arms H v bs):Arms X v bs:=Row.pre (fun _ _=>armP.pre) hp h

theorem Arms.app {H:Hp} {v:CV} {bs:List ArmR} (h:Arms H v bs) (L:Hp):Arms (H++L) v bs:=h.pre ⟨L,rfl⟩

theorem List5.pre {H X:Hp} (hp:Pre H X) {v:CV} {bs:List InsR} (h:List5 H v bs):List5 X v bs:=Row.pre (fun _ _=>insP.pre) hp h

theorem List5.app {H:Hp} {v:CV} {bs:List InsR} (h:List5 H v bs) (L:Hp):List5 (H++L) v bs:=h.pre ⟨L,rfl⟩

abbrev ArmAt (H:Hp) (id g off:Nat) (a:ArmR):Prop:=rdC H id g off=some (.i a.fr)∧rdC H id g (off+1)=some (.i a.v)∧rdN H id g off 2=some [.i a.fr,.i a.v]

abbrev InsAt (H:Hp) (id g off:Nat) (x:InsR):Prop:=rdC H id g off=some (.i x.op)∧rdC H id g (off+1)=some (.i x.d)∧rdC H id g (off+2)=some (.i x.a)∧rdC H id g (off+3)=some (.i x.b)∧rdC H id g (off+4)=some (.i x.n) ∧
 rdN H id g off 5=some [.i x.op,.i x.d,.i x.a,.i x.b,.i x.n]

abbrev PhiAt (H:Hp) (id g off:Nat) (d:Int) (w:CV):Prop:=rdC H id g off=some (.i d)∧rdC H id g (off+1)=some w∧rdN H id g off 2=some [.i d,w]

abbrev BlkAt (H:Hp) (id g off:Nat) (w u:CV) (t:TrmR):Prop:=rdC H id g off=some w∧rdC H id g (off+1)=some u∧rdC H id g (off+2)=some (.i t.kind)∧rdC H id g (off+3)=some (.i t.a)∧rdC H id g (off+4)=some (.i t.to)∧rdC H id g (off+5)=some (.i t.els) ∧
 rdC H id g (off+2+1)=some (.i t.a)∧rdC H id g (off+2+2)=some (.i t.to)∧rdC H id g (off+2+3)=some (.i t.els) ∧
 rdN H id g (off+2) 4=some [.i t.kind,.i t.a,.i t.to,.i t.els]∧rdN H id g off 6=some [w,u,.i t.kind,.i t.a,.i t.to,.i t.els]

theorem At.arm {H:Hp} {id g off:Nat} {a:ArmR} (h:At H id g off (armC a)):ArmAt H id g off a:=⟨h.c 0 (by simp[armC]),h.c 1 (by simp[armC]),h.n 0 2 (by simp[armC])⟩

theorem At.ins {H:Hp} {id g off:Nat} {a:InsR} (h:At H id g off (insC a)):InsAt H id g off a:=
 ⟨h.c 0 (by simp[insC]),h.c 1 (by simp[insC]),h.c 2 (by simp[insC]),h.c 3 (by simp[insC]),h.c 4 (by simp[insC]),h.n 0 5 (by simp[insC])⟩

theorem At.phi {H:Hp} {id g off:Nat} {d:Int} {w:CV} (h:At H id g off [.i d,w]):PhiAt H id g off d w:=⟨h.c 0 (by simp),h.c 1 (by simp),h.n 0 2 (by simp)⟩

theorem At.blk {H:Hp} {id g off:Nat} {w u:CV} {t:TrmR} (h:At H id g off (w :: u :: trmC t)):BlkAt H id g off w u t:=
 ⟨h.c 0 (by simp[trmC]),h.c 1 (by simp[trmC]),h.c 2 (by simp[trmC]),h.c 3 (by simp[trmC]),h.c 4 (by simp[trmC]),h.c 5 (by simp[trmC]),h.c 3 (by simp[trmC]),h.c 4 (by simp[trmC]),h.c 5 (by simp[trmC]),
  h.n 2 4 (by simp[trmC]),h.n 0 6 (by simp[trmC])⟩

theorem Arms.get {H:Hp} {v:CV} {xs:List ArmR} (h:Arms H v xs) {k:Nat} (hk:k<xs.length) :
  ∃ id g off,idxOf 2 v (k:Int)=some (.p id g off)∧ArmAt H id g off xs[k]∧(∀ L,ArmAt (H++L) id g off xs[k])∧(∀ L,rdOb (H++L) id g=rdOb H id g)∧id<H.length:=by
 obtain⟨id,g,off,cs,h1,h2,h3,h4⟩:=Row.get h hk
 have h4:cs=armC xs[k]:=h4
 subst h4
 exact⟨id,g,off,h1,h2.arm,fun L=>(h2.app L).arm,h2.keep,h2.lt⟩

theorem List5.get {H:Hp} {v:CV} {xs:List InsR} (h:List5 H v xs) {k:Nat} (hk:k<xs.length) :
  ∃ id g off,idxOf 5 v (k:Int)=some (.p id g off)∧InsAt H id g off xs[k]∧(∀ L,InsAt (H++L) id g off xs[k])∧(∀ L,rdOb (H++L) id g=rdOb H id g)∧id<H.length:=by
 obtain⟨id,g,off,cs,h1,h2,h3,h4⟩:=Row.get h hk
 have h4:cs=insC xs[k]:=h4
 subst h4
 exact⟨id,g,off,h1,h2.ins,fun L=>(h2.app L).ins,h2.keep,h2.lt⟩

theorem Phis.get {H:Hp} {v:CV} {xs:List PhiR} (h:Phis H v xs) {k:Nat} (hk:k<xs.length) :
  ∃ id g off w,idxOf 2 v (k:Int)=some (.p id g off)∧PhiAt H id g off xs[k].d w∧(∀ L,PhiAt (H++L) id g off xs[k].d w)∧Arms H w xs[k].arms∧xs[k].arms.length≤BIG∧(∀ L,rdOb (H++L) id g=rdOb H id g)∧id<H.length:=by
 obtain⟨id,g,off,cs,h1,h2,h3,w,rfl,h5,h6⟩:=Row.get h hk
 exact⟨id,g,off,w,h1,h2.phi,fun L=>(h2.app L).phi,h5,h6,h2.keep,h2.lt⟩

theorem Blocks.get {H:Hp} {v:CV} {xs:List BlkR} (h:Blocks H v xs) {k:Nat} (hk:k<xs.length) :
  ∃ id g off w u,idxOf 6 v (k:Int)=some (.p id g off)∧BlkAt H id g off w u xs[k].term∧(∀ L,BlkAt (H++L) id g off w u xs[k].term)∧Phis H w xs[k].phis∧List5 H u xs[k].list∧xs[k].phis.length≤BIG∧xs[k].list.length≤BIG ∧
   (∀ L,rdOb (H++L) id g=rdOb H id g)∧id<H.length:=by
 obtain⟨id,g,off,cs,h1,h2,h3,w,u,rfl,h5,h6,h7,h8⟩:=Row.get h hk
 exact⟨id,g,off,w,u,h1,h2.blk,fun L=>(h2.app L).blk,h5,h6,h7,h8,h2.keep,h2.lt⟩

theorem up1 {i n:Nat} (hi:i<n) (hn:n≤BIG):wrap64 ((i:Int)+1)=(i:Int)+1:=wrap64_id (by simp only[BIG]at hn;omega)
def inB (x a b:Int):Bool:=decide (a≤x∧x≤b)

def valB (v n:Int):Bool:=decide (0≤v∧v<n)

def wordOk (op:Int):Bool:=inB op 1 10

theorem specIn (H:Hp) (x a b:Int) (k:IV×Hp→Prop):CM 46 [.c (.i x),.c (.i a),.c (.i b)] H k=k (.c (.b (inB x a b)),H):=by
 refine det (cw46 ?_) k
 unfold vf46c inB
 by_cases h:a≤x<;>simp[h]

theorem implIn (H:Hp) (x a b:Int) (k:IV×Hp→Prop):CM 50 [.c (.i x),.c (.i a),.c (.i b)] H k=k (.c (.b (inB x a b)),H):=by
 refine det (cw50 ?_) k
 unfold vf50c inB
 by_cases h:a≤x<;>simp[h]

theorem specVal (H:Hp) (x n:Int) (k:IV×Hp→Prop):CM 78 [.c (.i x),.c (.i n)] H k=k (.c (.b (valB x n)),H):=by
 refine det (cw78 ?_) k
 unfold vf78c valB
 by_cases h:0≤x<;>simp[h]

theorem specWordOk (H:Hp) (op:Int) (k:IV×Hp→Prop):CM 79 [.c (.i op)] H k=k (.c (.b (wordOk op)),H):=by
 refine det (cw79 ?_) k
 unfold vf79c
 simp[specIn,wordOk]

theorem implWordOk (H:Hp) (op:Int) (k:IV×Hp→Prop):CM 107 [.c (.i op)] H k=k (.c (.b (wordOk op)),H):=by
 refine det (cw107 ?_) k
 unfold vf107c
 simp[implIn,wordOk]

def termB (t:TrmR) (n m:Int):Bool:=
 if t.kind=1 then inB t.to 0 (n - 1) && decide (t.a=0) && decide (t.els=0)
 else if t.kind=2 then inB t.to 0 (n - 1) && inB t.els 0 (n - 1) && valB t.a m
 else if t.kind=3 then valB t.a m && decide (t.to=0) && decide (t.els=0)
 else false

def insB (x:InsR) (m:Int):Bool:=
 if wordOk x.op=true then valB x.d m && valB x.a m && valB x.b m && decide (x.n=0)
 else if x.op=20 then valB x.d m && decide (x.a=0) && decide (x.b=0)
 else if x.op=21∨x.op=25 then valB x.d m && valB x.a m && decide (x.b=0) && decide (x.n=0)
 else if x.op=22 then valB x.a m && valB x.b m && decide (x.d=0) && decide (x.n=0)
 else if x.op=23 then valB x.a m && decide (x.d=0) && decide (x.b=0) && decide (x.n=0)
 else if x.op=24 then valB x.d m && decide (x.a=0) && decide (x.b=0) && decide (x.n=0)
 else false

theorem specTerm (H:Hp) (t:TrmR) (n m:Int) (hn:-9223372036854775807≤n∧n≤9223372036854775807) (k:IV×Hp→Prop) :
  CM 47 [.agg (trmC t),.c (.i n),.c (.i m)] H k=k (.c (.b (termB t n m)),H):=by
 refine det (cw47 ?_) k
 unfold vf47c termB
 have hw:wrap64 (n - 1)=n - 1:=wrap64_id (by omega)
 obtain⟨kind,a,to,els⟩:=t
 by_cases h1:kind=1
 ·subst h1;simp[trmC,specIn,specVal,hw];repeat' first | (refine cnd_of (fun hc=>?_) (fun hc=>?_)<;>simp[hc,trmC]) | (refine grd_t (fun hc=>?_) (fun hc=>?_)<;>simp[hc,trmC]) | (refine grd_f (fun hc=>?_) (fun hc=>?_)<;>simp[hc,trmC])
 ·by_cases h2:kind=2
  ·subst h2;simp[trmC,specIn,specVal,hw];repeat' first | (refine cnd_of (fun hc=>?_) (fun hc=>?_)<;>simp[hc,trmC]) | (refine grd_t (fun hc=>?_) (fun hc=>?_)<;>simp[hc,trmC]) | (refine grd_f (fun hc=>?_) (fun hc=>?_)<;>simp[hc,trmC])
  ·by_cases h3:kind=3
   ·subst h3;simp[trmC,specIn,specVal,hw];repeat' first | (refine cnd_of (fun hc=>?_) (fun hc=>?_)<;>simp[hc,trmC]) | (refine grd_t (fun hc=>?_) (fun hc=>?_)<;>simp[hc,trmC]) | (refine grd_f (fun hc=>?_) (fun hc=>?_)<;>simp[hc,trmC])
   ·simp[trmC,specIn,specVal,hw,h1,h2,h3]

theorem specIns (H:Hp) (x:InsR) (m:Int) (k:IV×Hp→Prop) :
  CM 49 [.agg (insC x),.c (.i m)] H k=k (.c (.b (insB x m)),H):=by
 refine det (cw49 ?_) k
 unfold vf49c insB
 obtain⟨op,d,a,b,n⟩:=x
 cases h0:wordOk op with
 | true=>simp[insC,specVal,specWordOk,h0];repeat' first | (refine cnd_of (fun hc=>?_) (fun hc=>?_)<;>simp[hc,insC]) | (refine grd_t (fun hc=>?_) (fun hc=>?_)<;>simp[hc,insC]) | (refine grd_f (fun hc=>?_) (fun hc=>?_)<;>simp[hc,insC])
 | false =>
  by_cases h1:op=20
  ·subst h1;simp[insC,specVal,specWordOk,h0];repeat' first | (refine cnd_of (fun hc=>?_) (fun hc=>?_)<;>simp[hc,insC]) | (refine grd_t (fun hc=>?_) (fun hc=>?_)<;>simp[hc,insC]) | (refine grd_f (fun hc=>?_) (fun hc=>?_)<;>simp[hc,insC])
  ·by_cases h2:op=21
   ·subst h2;simp[insC,specVal,specWordOk,h0];repeat' first | (refine cnd_of (fun hc=>?_) (fun hc=>?_)<;>simp[hc,insC]) | (refine grd_t (fun hc=>?_) (fun hc=>?_)<;>simp[hc,insC]) | (refine grd_f (fun hc=>?_) (fun hc=>?_)<;>simp[hc,insC])
   ·by_cases h3:op=25
    ·subst h3;simp[insC,specVal,specWordOk,h0];repeat' first | (refine cnd_of (fun hc=>?_) (fun hc=>?_)<;>simp[hc,insC]) | (refine grd_t (fun hc=>?_) (fun hc=>?_)<;>simp[hc,insC]) | (refine grd_f (fun hc=>?_) (fun hc=>?_)<;>simp[hc,insC])
    ·by_cases h4:op=22
     ·subst h4;simp[insC,specVal,specWordOk,h0];repeat' first | (refine cnd_of (fun hc=>?_) (fun hc=>?_)<;>simp[hc,insC]) | (refine grd_t (fun hc=>?_) (fun hc=>?_)<;>simp[hc,insC]) | (refine grd_f (fun hc=>?_) (fun hc=>?_)<;>simp[hc,insC])
     ·by_cases h5:op=23
      ·subst h5;simp[insC,specVal,specWordOk,h0];repeat' first | (refine cnd_of (fun hc=>?_) (fun hc=>?_)<;>simp[hc,insC]) | (refine grd_t (fun hc=>?_) (fun hc=>?_)<;>simp[hc,insC]) | (refine grd_f (fun hc=>?_) (fun hc=>?_)<;>simp[hc,insC])
      ·by_cases h6:op=24
       ·subst h6;simp[insC,specVal,specWordOk,h0];repeat' first | (refine cnd_of (fun hc=>?_) (fun hc=>?_)<;>simp[hc,insC]) | (refine grd_t (fun hc=>?_) (fun hc=>?_)<;>simp[hc,insC]) | (refine grd_f (fun hc=>?_) (fun hc=>?_)<;>simp[hc,insC])
       ·simp[insC,specVal,specWordOk,h0,h1,h2,h3,h4,h5,h6]
def findI {α:Type} (p:α→Bool) (xs:List α):Int:=match xs.findIdx? p with
 | some i=>i
 | none=>-1

theorem findI_some {α:Type} {p:α→Bool} {xs:List α} {i:Nat} (hi:i<xs.length) (h:∀ j (hj:j<i),p (xs[j]'(by omega))=false) (hp:p xs[i]=true):findI p xs=i:=by
 unfold findI
 have:xs.findIdx? p=some i:=by
  rw[List.findIdx?_eq_some_iff_getElem]
  exact⟨hi,hp,fun j hj=>by rw[h j hj];simp⟩
 rw[this]

theorem findI_none {α:Type} {p:α→Bool} {xs:List α} (h:∀ j (hj:j<xs.length),p xs[j]=false):findI p xs=-1:=by
 unfold findI
 have:xs.findIdx? p=none:=by
  rw[List.findIdx?_eq_none_iff]
  intro x hx
  obtain⟨j,hj,rfl⟩:=List.getElem_of_mem hx
  exact h j hj
 rw[this]

theorem findI_nonneg {α:Type} {p:α→Bool} {xs:List α}:0≤findI p xs↔xs.any p=true:=by
 unfold findI
 cases h:xs.findIdx? p with
 | some i =>
  rw[List.findIdx?_eq_some_iff_getElem]at h
  obtain⟨hi,hp,_⟩:=h
  simp only[Int.natCast_nonneg,true_iff,List.any_eq_true]
  exact⟨_,List.getElem_mem hi,hp⟩
 | none =>
  rw[List.findIdx?_eq_none_iff]at h
  constructor
  ·intro h2;exact absurd h2 (by decide)
  ·intro h2
   rw[List.any_eq_true]at h2
   obtain⟨x,hx,hp⟩:=h2
   rw[h x hx]at hp;cases hp

theorem indexBlk {H:Hp} {v:CV} {xs:List BlkR} (hv:Blocks H v xs) (hb:xs.length≤BIG) {fid:Nat} {caps:List CV} (p:BlkR→Bool)
  (hp:∀ i (hi:i<xs.length) cs,blkP BIG H cs xs[i]→∀ k:IV×Hp→Prop,CM fid (.agg cs :: caps.map .c) H k=k (.c (.b (p xs[i])),H)) (k:IV×Hp→Prop) :
  CM 72 [.c v,.f fid caps] H k=k (.c (.i (findI p xs)),H):=by
 refine det (cw72 ?_) k
 unfold vf72c
 simp[hv.lenOf]
 refine wp_for CM_mono xs.length (fun i s=>(∀ j (hj:j<i) (hx:j<xs.length),p xs[j]=false)∧s.h=H∧Env.get s.e 0=.c v∧Env.get s.e 1=.f fid caps∧Env.get s.e 7=.c (.i xs.length)∧Env.get s.e 8=.c (.i i)) (by simp) ?_ ?_
 ·rintro i ⟨e,X⟩ hi ⟨ht,rfl,h0,h1,h7,h8⟩
  simp only at h0 h1 h7 h8 hv hp ⊢
  obtain⟨id,g,off,cs,q1,hA,hl,hP⟩:=Row.get hv hi
  have hq:rdN X id g off 6=some cs:=by have:=hA.n 0 6 (by omega);rw[Nat.add_zero,List.drop_zero,List.take_of_length_le (by omega)]at this;exact this
  have hwr:=up1 hi hb
  unfold vf72b0
  cases hpx:p xs[i] with
  | false =>
   simp[h0,h1,h7,h8,q1,hq,hi,hwr,hp i hi _ hP,hpx]
   intro j hj hx
   by_cases e:j=i
   ·subst e;exact hpx
   ·exact ht j (by omega) hx
  | true =>
   simp[h0,h1,h7,h8,q1,hq,hi,hwr,hp i hi _ hP,hpx,findI_some hi (fun j hj=>ht j hj (by omega)) hpx]
 ·rintro⟨e,X⟩ ⟨ht,rfl,h0,h1,h7,h8⟩
  simp only at h0 h1 h7 h8 ⊢
  unfold vf72b0
  simp[h0,h1,h7,h8,findI_none (fun j hj=>ht j hj hj)]

theorem containsBlk {H:Hp} {v:CV} {xs:List BlkR} (hv:Blocks H v xs) (hb:xs.length≤BIG) {fid:Nat} {caps:List CV} (p:BlkR→Bool)
  (hp:∀ i (hi:i<xs.length) cs,blkP BIG H cs xs[i]→∀ k:IV×Hp→Prop,CM fid (.agg cs :: caps.map .c) H k=k (.c (.b (p xs[i])),H)) (k:IV×Hp→Prop) :
  CM 38 [.c v,.f fid caps] H k=k (.c (.b (xs.any p)),H):=by
 refine det (cw38 ?_) k
 unfold vf38c
 have e:decide (0≤findI p xs)=xs.any p:=by
  cases h:xs.any p with
  | true=>exact decide_eq_true (findI_nonneg.2 h)
  | false=>exact decide_eq_false fun hc=>by rw[findI_nonneg.1 hc]at h;cases h
 simp[indexBlk hv hb p hp,e]

theorem indexPhi {H:Hp} {v:CV} {xs:List PhiR} (hv:Phis H v xs) (hb:xs.length≤BIG) {fid:Nat} {caps:List CV} (p:PhiR→Bool)
  (hp:∀ i (hi:i<xs.length) cs,phiP BIG H cs xs[i]→∀ k:IV×Hp→Prop,CM fid (.agg cs :: caps.map .c) H k=k (.c (.b (p xs[i])),H)) (k:IV×Hp→Prop) :
  CM 81 [.c v,.f fid caps] H k=k (.c (.i (findI p xs)),H):=by
 refine det (cw81 ?_) k
 unfold vf81c
 simp[hv.lenOf]
 refine wp_for CM_mono xs.length (fun i s=>(∀ j (hj:j<i) (hx:j<xs.length),p xs[j]=false)∧s.h=H∧Env.get s.e 0=.c v∧Env.get s.e 1=.f fid caps∧Env.get s.e 7=.c (.i xs.length)∧Env.get s.e 8=.c (.i i)) (by simp) ?_ ?_
 ·rintro i ⟨e,X⟩ hi ⟨ht,rfl,h0,h1,h7,h8⟩
  simp only at h0 h1 h7 h8 hv hp ⊢
  obtain⟨id,g,off,cs,q1,hA,hl,hP⟩:=Row.get hv hi
  have hq:rdN X id g off 2=some cs:=by have:=hA.n 0 2 (by omega);rw[Nat.add_zero,List.drop_zero,List.take_of_length_le (by omega)]at this;exact this
  have hwr:=up1 hi hb
  unfold vf81b0
  cases hpx:p xs[i] with
  | false =>
   simp[h0,h1,h7,h8,q1,hq,hi,hwr,hp i hi _ hP,hpx]
   intro j hj hx
   by_cases e:j=i
   ·subst e;exact hpx
   ·exact ht j (by omega) hx
  | true =>
   simp[h0,h1,h7,h8,q1,hq,hi,hwr,hp i hi _ hP,hpx,findI_some hi (fun j hj=>ht j hj (by omega)) hpx]
 ·rintro⟨e,X⟩ ⟨ht,rfl,h0,h1,h7,h8⟩
  simp only at h0 h1 h7 h8 ⊢
  unfold vf81b0
  simp[h0,h1,h7,h8,findI_none (fun j hj=>ht j hj hj)]

theorem containsPhi {H:Hp} {v:CV} {xs:List PhiR} (hv:Phis H v xs) (hb:xs.length≤BIG) {fid:Nat} {caps:List CV} (p:PhiR→Bool)
  (hp:∀ i (hi:i<xs.length) cs,phiP BIG H cs xs[i]→∀ k:IV×Hp→Prop,CM fid (.agg cs :: caps.map .c) H k=k (.c (.b (p xs[i])),H)) (k:IV×Hp→Prop) :
  CM 53 [.c v,.f fid caps] H k=k (.c (.b (xs.any p)),H):=by
 refine det (cw53 ?_) k
 unfold vf53c
 have e:decide (0≤findI p xs)=xs.any p:=by
  cases h:xs.any p with
  | true=>exact decide_eq_true (findI_nonneg.2 h)
  | false=>exact decide_eq_false fun hc=>by rw[findI_nonneg.1 hc]at h;cases h
 simp[indexPhi hv hb p hp,e]

theorem indexIns {H:Hp} {v:CV} {xs:List InsR} (hv:List5 H v xs) (hb:xs.length≤BIG) {fid:Nat} {caps:List CV} (p:InsR→Bool)
  (hp:∀ i (hi:i<xs.length) cs,insP H cs xs[i]→∀ k:IV×Hp→Prop,CM fid (.agg cs :: caps.map .c) H k=k (.c (.b (p xs[i])),H)) (k:IV×Hp→Prop) :
  CM 84 [.c v,.f fid caps] H k=k (.c (.i (findI p xs)),H):=by
 refine det (cw84 ?_) k
 unfold vf84c
 simp[hv.lenOf]
 refine wp_for CM_mono xs.length (fun i s=>(∀ j (hj:j<i) (hx:j<xs.length),p xs[j]=false)∧s.h=H∧Env.get s.e 0=.c v∧Env.get s.e 1=.f fid caps∧Env.get s.e 7=.c (.i xs.length)∧Env.get s.e 8=.c (.i i)) (by simp) ?_ ?_
 ·rintro i ⟨e,X⟩ hi ⟨ht,rfl,h0,h1,h7,h8⟩
  simp only at h0 h1 h7 h8 hv hp ⊢
  obtain⟨id,g,off,cs,q1,hA,hl,hP⟩:=Row.get hv hi
  have hq:rdN X id g off 5=some cs:=by have:=hA.n 0 5 (by omega);rw[Nat.add_zero,List.drop_zero,List.take_of_length_le (by omega)]at this;exact this
  have hwr:=up1 hi hb
  unfold vf84b0
  cases hpx:p xs[i] with
  | false =>
   simp[h0,h1,h7,h8,q1,hq,hi,hwr,hp i hi _ hP,hpx]
   intro j hj hx
   by_cases e:j=i
   ·subst e;exact hpx
   ·exact ht j (by omega) hx
  | true =>
   simp[h0,h1,h7,h8,q1,hq,hi,hwr,hp i hi _ hP,hpx,findI_some hi (fun j hj=>ht j hj (by omega)) hpx]
 ·rintro⟨e,X⟩ ⟨ht,rfl,h0,h1,h7,h8⟩
  simp only at h0 h1 h7 h8 ⊢
  unfold vf84b0
  simp[h0,h1,h7,h8,findI_none (fun j hj=>ht j hj hj)]

theorem containsIns {H:Hp} {v:CV} {xs:List InsR} (hv:List5 H v xs) (hb:xs.length≤BIG) {fid:Nat} {caps:List CV} (p:InsR→Bool)
  (hp:∀ i (hi:i<xs.length) cs,insP H cs xs[i]→∀ k:IV×Hp→Prop,CM fid (.agg cs :: caps.map .c) H k=k (.c (.b (p xs[i])),H)) (k:IV×Hp→Prop) :
  CM 56 [.c v,.f fid caps] H k=k (.c (.b (xs.any p)),H):=by
 refine det (cw56 ?_) k
 unfold vf56c
 have e:decide (0≤findI p xs)=xs.any p:=by
  cases h:xs.any p with
  | true=>exact decide_eq_true (findI_nonneg.2 h)
  | false=>exact decide_eq_false fun hc=>by rw[findI_nonneg.1 hc]at h;cases h
 simp[indexIns hv hb p hp,e]

theorem indexArm {H:Hp} {v:CV} {xs:List ArmR} (hv:Arms H v xs) (hb:xs.length≤BIG) {fid:Nat} {caps:List CV} (p:ArmR→Bool)
  (hp:∀ i (hi:i<xs.length) cs,armP H cs xs[i]→∀ k:IV×Hp→Prop,CM fid (.agg cs :: caps.map .c) H k=k (.c (.b (p xs[i])),H)) (k:IV×Hp→Prop) :
  CM 106 [.c v,.f fid caps] H k=k (.c (.i (findI p xs)),H):=by
 refine det (cw106 ?_) k
 unfold vf106c
 simp[hv.lenOf]
 refine wp_for CM_mono xs.length (fun i s=>(∀ j (hj:j<i) (hx:j<xs.length),p xs[j]=false)∧s.h=H∧Env.get s.e 0=.c v∧Env.get s.e 1=.f fid caps∧Env.get s.e 7=.c (.i xs.length)∧Env.get s.e 8=.c (.i i)) (by simp) ?_ ?_
 ·rintro i ⟨e,X⟩ hi ⟨ht,rfl,h0,h1,h7,h8⟩
  simp only at h0 h1 h7 h8 hv hp ⊢
  obtain⟨id,g,off,cs,q1,hA,hl,hP⟩:=Row.get hv hi
  have hq:rdN X id g off 2=some cs:=by have:=hA.n 0 2 (by omega);rw[Nat.add_zero,List.drop_zero,List.take_of_length_le (by omega)]at this;exact this
  have hwr:=up1 hi hb
  unfold vf106b0
  cases hpx:p xs[i] with
  | false =>
   simp[h0,h1,h7,h8,q1,hq,hi,hwr,hp i hi _ hP,hpx]
   intro j hj hx
   by_cases e:j=i
   ·subst e;exact hpx
   ·exact ht j (by omega) hx
  | true =>
   simp[h0,h1,h7,h8,q1,hq,hi,hwr,hp i hi _ hP,hpx,findI_some hi (fun j hj=>ht j hj (by omega)) hpx]
 ·rintro⟨e,X⟩ ⟨ht,rfl,h0,h1,h7,h8⟩
  simp only at h0 h1 h7 h8 ⊢
  unfold vf106b0
  simp[h0,h1,h7,h8,findI_none (fun j hj=>ht j hj hj)]

theorem containsArm {H:Hp} {v:CV} {xs:List ArmR} (hv:Arms H v xs) (hb:xs.length≤BIG) {fid:Nat} {caps:List CV} (p:ArmR→Bool)
  (hp:∀ i (hi:i<xs.length) cs,armP H cs xs[i]→∀ k:IV×Hp→Prop,CM fid (.agg cs :: caps.map .c) H k=k (.c (.b (p xs[i])),H)) (k:IV×Hp→Prop) :
  CM 82 [.c v,.f fid caps] H k=k (.c (.b (xs.any p)),H):=by
 refine det (cw82 ?_) k
 unfold vf82c
 have e:decide (0≤findI p xs)=xs.any p:=by
  cases h:xs.any p with
  | true=>exact decide_eq_true (findI_nonneg.2 h)
  | false=>exact decide_eq_false fun hc=>by rw[findI_nonneg.1 hc]at h;cases h
 simp[indexArm hv hb p hp,e]
theorem Row.slice {α:Type} {P:Hp→List CV→α→Prop} {sz:Nat} {H:Hp} {v:CV} {xs:List α} (h:Row P sz H v xs) {l m:Nat} (hl:l≤m) (hm:m≤xs.length) :
  ∃ w,doSlice H sz v (some (.c (.i l))) (some (.c (.i m)))=some (.c w)∧Row P sz H w ((xs.drop l).take (m - l))∧(l=0→doSlice H sz v none (some (.c (.i m)))=some (.c w))∧(m=xs.length→doSlice H sz v (some (.c (.i l))) none=some (.c w)):=by
 obtain⟨css,h1,h2,h3⟩:=h
 have hl2:∀ cs∈css,cs.length=sz:=by
  intro cs hcs
  obtain⟨i,hi,rfl⟩:=List.getElem_of_mem hcs
  exact (h3 i _ xs[i] (List.getElem?_eq_getElem hi) (List.getElem?_eq_getElem (by omega))).1
 rcases h1 with⟨rfl,h1,_⟩ | ⟨id,g,off,o,rfl,q1,q2,q3,q4⟩
 ·have e1:l=0:=by omega
  have e2:m=0:=by omega
  subst e1;subst e2
  refine⟨.ns,by simp[doSlice],by simpa using Row.ns,fun _=>by simp[doSlice],fun _=>by simp[doSlice]⟩
 ·have hmi:¬ ((m:Int)<l):=by omega
  refine⟨.sl id g (off+l * sz) (m - l),by simp[doSlice,hl,hm,q1,q2],?_,fun e=>by subst e;simp[doSlice,hm,q1,q2],fun e=>by subst e;simp[doSlice,hl,q1,q2]⟩
  have hmul:m * sz≤xs.length * sz:=Nat.mul_le_mul_right _ hm
  have hlm:l * sz+(m - l) * sz=m * sz:=by rw[← Nat.add_mul];congr 1;omega
  have hlen:((xs.drop l).take (m - l)).length=m - l:=by simp;omega
  refine⟨(css.drop l).take (m - l),?_,by simp;omega,fun k cs x a b=>?_⟩
  ·rw[hlen]
   refine .inr ⟨id,g,off+l * sz,o,rfl,q1,q2,by omega,?_⟩
   have key:∀ (css:List (List CV)),(∀ cs∈css,cs.length=sz)→∀ l n,l+n≤css.length→((css.drop l).take n).flatten=(css.flatten.drop (l * sz)).take (n * sz):=by
    intro css
    induction css with
    | nil=>intro _ l n h;simp at h;simp[h.1,h.2]
    | cons c r ih =>
     intro hc l n h
     have hcl:=hc c (by simp)
     cases l with
     | zero =>
      cases n with
      | zero=>simp
      | succ n =>
       have:=ih (fun cs h=>hc cs (by simp[h])) 0 n (by simpa using h)
       simp at this
       have hm:(n+1) * sz=c.length+n * sz:=by rw[Nat.succ_mul,hcl];omega
       simp[hm,List.take_append,this]
       rw[List.take_of_length_le (by omega)]
     | succ l =>
      have:=ih (fun cs h=>hc cs (by simp[h])) l n (by simp at h;omega)
      have hm:(l+1) * sz=c.length+l * sz:=by rw[Nat.succ_mul,hcl];omega
      have hd:List.drop (c.length+l * sz) c=[]:=List.drop_eq_nil_of_le (by omega)
      simp[hm,List.drop_append,this,hd]
   rw[key css hl2 l (m - l) (by omega),← q4,List.drop_take,List.take_take,List.drop_drop]
   congr 1
   omega
  ·rw[List.getElem?_take]at a b
   split at a
   ·rename_i hk
    rw[if_pos hk]at b
    rw[List.getElem?_drop]at a b
    exact h3 _ cs x a b
   ·cases a


def IsB (H:Hp) (v:CV) (xs:List Int):Prop:=Sl H 1 v xs.length (xs.map .y)

theorem IsB.lenOf {H:Hp} {v:CV} {xs:List Int} (h:IsB H v xs):lenOf v=some xs.length:=Sl.lenOf h

theorem IsB.at_ {H:Hp} {v:CV} {xs:List Int} (h:IsB H v xs) {k:Nat} (hk:k<xs.length) :
  ∃ id g off,idxOf 1 v (k:Int)=some (.p id g off)∧rdC H id g off=some (.y xs[k]):=by
 obtain⟨id,g,off,o,h1,h2,_,h3⟩:=Sl.get h hk
 refine⟨id,g,off,h1,?_⟩
 have:=h3 0 (by omega)
 simp[hk]at this
 simp[rdC,h2,this]

theorem IsB.mk {H:Hp} {id g off:Nat} {o:Ob} {xs:List Int} (h:rdOb H id g=some o) (hs:o.sz=1) (hl:off+xs.length≤o.cells.length) (hc:(o.cells.drop off).take xs.length=xs.map .y):IsB H (.sl id g off xs.length) xs:=
 .inr ⟨id,g,off,o,rfl,h,hs,by omega,by rw[Nat.mul_one];exact hc⟩

theorem indexByte {H:Hp} {v:CV} {xs:List Int} {x:Int} (hv:IsB H v xs) (hb:xs.length≤BIG) (k:IV×Hp→Prop) :
  CM 118 [.c v,.c (.y x)] H k=k (.c (.i (findI (fun y=>decide (x=y)) xs)),H):=by
 refine det (cw118 ?_) k
 unfold vf118c
 simp[hv.lenOf]
 refine wp_for CM_mono xs.length (fun i s=>(∀ j (hj:j<i) (hx:j<xs.length),decide (x=xs[j])=false)∧s.h=H∧Env.get s.e 0=.c v∧Env.get s.e 1=.c (.y x)∧Env.get s.e 7=.c (.i xs.length)∧Env.get s.e 8=.c (.i i)) (by simp) ?_ ?_
 ·rintro i ⟨e,X⟩ hi ⟨ht,rfl,h0,h1,h7,h8⟩
  simp only at h0 h1 h7 h8 hv ⊢
  obtain⟨id,g,off,q1,q2⟩:=hv.at_ hi
  have hwr:=up1 hi hb
  unfold vf118b0
  cases hpx:decide (x=xs[i]) with
  | false =>
   simp[h0,h1,h7,h8,q1,q2,hi,hwr,hpx]
   intro j hj hx
   by_cases e:j=i
   ·subst e;exact of_decide_eq_false hpx
   ·exact of_decide_eq_false (ht j (by omega) hx)
  | true =>
   simp[h0,h1,h7,h8,q1,q2,hi,hwr,hpx,findI_some hi (p:=fun y=>decide (x=y)) (fun j hj=>ht j hj (by omega)) hpx]
 ·rintro⟨e,X⟩ ⟨ht,rfl,h0,h1,h7,h8⟩
  simp only at h0 h1 h7 h8 ⊢
  unfold vf118b0
  simp[h0,h1,h7,h8,findI_none (p:=fun y=>decide (x=y)) (fun j hj=>ht j hj hj)]

theorem containsByte {H:Hp} {v:CV} {xs:List Int} {x:Int} (hv:IsB H v xs) (hb:xs.length≤BIG) (k:IV×Hp→Prop) :
  CM 108 [.c v,.c (.y x)] H k=k (.c (.b (xs.any fun y=>decide (x=y))),H):=by
 refine det (cw108 ?_) k
 unfold vf108c
 have e:decide (0≤findI (fun y=>decide (x=y)) xs)=xs.any (fun y=>decide (x=y)):=by
  cases h:xs.any (fun y=>decide (x=y)) with
  | true=>exact decide_eq_true (findI_nonneg.2 h)
  | false=>exact decide_eq_false fun hc=>by rw[findI_nonneg.1 hc]at h;cases h
 simp[indexByte hv hb,e]

def formF (op:Int):ByteArray×Bool:=
 if op=20 then (⟨#[68,78]⟩,true) else if op=21∨op=25 then (⟨#[68,65]⟩,true) else if op=22 then (⟨#[65,66]⟩,true) else if op=23 then (⟨#[65]⟩,true) else if op=24 then (⟨#[68]⟩,true) else (⟨#[68,65,66]⟩,wordOk op)

theorem gc_tup (H:Hp) (s:ByteArray) (b:Bool):gcRet H (.tup [(false,[.s s]),(false,[.b b])]) H=(.tup [(false,[.s s]),(false,[.b b])],H):=gc_same H rfl

theorem formOf_call (H:Hp) (op:Int) (k:IV×Hp→Prop):CM 85 [.c (.i op)] H k=k (.tup [(false,[.s (formF op).1]),(false,[.b (formF op).2])],H):=by
 refine det (cw85 ?_) k
 unfold vf85c formF
 by_cases h0:op=20
 ·simp[h0,gc_tup]
 ·by_cases h1:op=21
  ·simp[h1,gc_tup]
  ·by_cases h5:op=25
   ·simp[h5,gc_tup]
   ·by_cases h2:op=22
    ·simp[h2,gc_tup]
    ·by_cases h3:op=23
     ·simp[h3,gc_tup]
     ·by_cases h4:op=24
      ·simp[h4,gc_tup]
      ·simp[h0,h1,h2,h3,h4,h5,gc_tup,implWordOk]

def bytesI (s:ByteArray):List Int:=s.data.toList.map fun b=>(b.toNat:Int)

def hasF (op x:Int):Bool:=(formF op).2 && (bytesI (formF op).1).any fun y=>decide (x=y)

theorem has_call (H:Hp) (op x:Int) (k:IV×Hp→Prop):CM 86 [.c (.i op),.c (.y x)] H k=k (.c (.b (hasF op x)),H):=by
 refine det (cw86 ?_) k
 unfold vf86c
 have hsz:(formF op).1.size≤3:=by
  unfold formF
  repeat' split
  all_goals first
   | decide
   | exact (by decide:ByteArray.size ⟨#[68,65,66]⟩≤3)
 generalize hf:formF op=f at hsz
 obtain⟨s,ok⟩:=f
 simp only at hsz
 unfold hasF
 rw[hf]
 have hlen:(bytesI s).length=s.size:=by simp[bytesI]
 have hc:=containsByte (H:=H++[⟨s.data.toList.map fun b=>.y b.toNat,0,false,1⟩]) (v:=.sl H.length 0 0 s.size) (xs:=bytesI s) (x:=x)
  (by rw[← hlen];exact IsB.mk (o:=⟨s.data.toList.map fun b=>.y b.toNat,0,false,1⟩) (by simp) rfl (by simp[hlen]) (by rw[hlen,List.drop_zero,List.take_of_length_le (by simp)];simp[bytesI])) (by rw[hlen];simp only[BIG];omega)
 have hl:s.size≤LIM:=by unfold LIM;omega
 cases ok with
 | true=>simp[formOf_call,hf,hc,hl]
 | false=>simp[formOf_call,hf,hc,hl]

theorem partOk_call (H:Hp) (n m:Int) (had:Bool) (k:IV×Hp→Prop):CM 80 [.c (.i n),.c (.b had),.c (.i m)] H k=k (.c (.b (if had=true then valB n m else decide (n=0))),H):=by
 refine det (cw80 ?_) k
 unfold vf80c valB
 cases had with
 | true=>by_cases h:0≤n<;>simp[h]
 | false=>simp

theorem implTerm (H:Hp) (t:TrmR) (n m:Int) (hn:-9223372036854775807≤n∧n≤9223372036854775807) (k:IV×Hp→Prop) :
  CM 52 [.agg (trmC t),.c (.i n),.c (.i m)] H k=k (.c (.b (termB t n m)),H):=by
 refine det (cw52 ?_) k
 unfold vf52c termB
 have hw:wrap64 (n - 1)=n - 1:=wrap64_id (by omega)
 obtain⟨kind,a,to,els⟩:=t
 by_cases h1:kind=1
 ·subst h1;simp[trmC,implIn,partOk_call,hw];repeat' first | (refine cnd_of (fun hc=>?_) (fun hc=>?_)<;>simp[hc,implIn,partOk_call,hw]) | (refine grd_t (fun hc=>?_) (fun hc=>?_)<;>simp[hc,implIn,partOk_call,hw]) | (refine grd_f (fun hc=>?_) (fun hc=>?_)<;>simp[hc,implIn,partOk_call,hw])
 ·by_cases h2:kind=2
  ·subst h2;simp[trmC,implIn,partOk_call,hw];repeat' first | (refine cnd_of (fun hc=>?_) (fun hc=>?_)<;>simp[hc,implIn,partOk_call,hw]) | (refine grd_t (fun hc=>?_) (fun hc=>?_)<;>simp[hc,implIn,partOk_call,hw]) | (refine grd_f (fun hc=>?_) (fun hc=>?_)<;>simp[hc,implIn,partOk_call,hw])
  ·by_cases h3:kind=3
   ·subst h3;simp[trmC,implIn,partOk_call,hw];repeat' first | (refine cnd_of (fun hc=>?_) (fun hc=>?_)<;>simp[hc,implIn,partOk_call,hw]) | (refine grd_t (fun hc=>?_) (fun hc=>?_)<;>simp[hc,implIn,partOk_call,hw]) | (refine grd_f (fun hc=>?_) (fun hc=>?_)<;>simp[hc,implIn,partOk_call,hw])
   ·simp[trmC,implIn,partOk_call,hw,h1,h2,h3]

theorem has_tab (op:Int):(wordOk op=true∧hasF op 68=true∧hasF op 65=true∧hasF op 66=true∧hasF op 78=false∧(formF op).2=true) ∨
  (op=20∧hasF op 68=true∧hasF op 65=false∧hasF op 66=false∧hasF op 78=true∧(formF op).2=true) ∨
  ((op=21∨op=25)∧hasF op 68=true∧hasF op 65=true∧hasF op 66=false∧hasF op 78=false∧(formF op).2=true) ∨
  (op=22∧hasF op 68=false∧hasF op 65=true∧hasF op 66=true∧hasF op 78=false∧(formF op).2=true) ∨
  (op=23∧hasF op 68=false∧hasF op 65=true∧hasF op 66=false∧hasF op 78=false∧(formF op).2=true) ∨
  (op=24∧hasF op 68=true∧hasF op 65=false∧hasF op 66=false∧hasF op 78=false∧(formF op).2=true) ∨
  (wordOk op=false∧op≠20∧op≠21∧op≠25∧op≠22∧op≠23∧op≠24∧hasF op 68=false∧hasF op 65=false∧hasF op 66=false∧hasF op 78=false∧(formF op).2=false):=by
 by_cases h0:op=20
 ·subst h0;exact .inr (.inl (by decide))
 ·by_cases h1:op=21
  ·subst h1;exact .inr (.inr (.inl (by decide)))
  ·by_cases h5:op=25
   ·subst h5;exact .inr (.inr (.inl (by decide)))
   ·by_cases h2:op=22
    ·subst h2;exact .inr (.inr (.inr (.inl (by decide))))
    ·by_cases h3:op=23
     ·subst h3;exact .inr (.inr (.inr (.inr (.inl (by decide)))))
     ·by_cases h4:op=24
      ·subst h4;exact .inr (.inr (.inr (.inr (.inr (.inl (by decide))))))
      ·have hf:formF op=(⟨#[68,65,66]⟩,wordOk op):=by simp[formF,h0,h1,h2,h3,h4,h5]
       have hb:bytesI ⟨#[68,65,66]⟩=[68,65,66]:=by decide
       cases hw:wordOk op with
       | true=>left;simp[hasF,hf,hw,hb]
       | false=>right;right;right;right;right;right;simp[hasF,hf,hw,h0,h1,h2,h3,h4,h5]

set_option maxRecDepth 4000 in
theorem implIns (H:Hp) (x:InsR) (m:Int) (k:IV×Hp→Prop) :
  CM 58 [.agg (insC x),.c (.i m)] H k=k (.c (.b (insB x m)),H):=by
 refine det (cw58 ?_) k
 unfold vf58c insB
 obtain⟨op,d,a,b,n⟩:=x
 simp only
 rcases has_tab op with h | h | h | h | h | h | h
 ·obtain⟨h0,h1,h2,h3,h4,h5⟩:=h
  simp[insC,formOf_call,has_call,partOk_call,h0,h1,h2,h3,h4,h5]
  repeat' first | (refine cnd_of (fun hc=>?_) (fun hc=>?_)<;>simp[hc,has_call,partOk_call,h0,h1,h2,h3,h4,h5]) | (refine grd_t (fun hc=>?_) (fun hc=>?_)<;>simp[hc,has_call,partOk_call,h0,h1,h2,h3,h4,h5]) | (refine grd_f (fun hc=>?_) (fun hc=>?_)<;>simp[hc,has_call,partOk_call,h0,h1,h2,h3,h4,h5])
 ·obtain⟨rfl,h1,h2,h3,h4,h5⟩:=h
  have h0:wordOk 20=false:=by decide
  simp[insC,formOf_call,has_call,partOk_call,h0,h1,h2,h3,h4,h5]
  repeat' first | (refine cnd_of (fun hc=>?_) (fun hc=>?_)<;>simp[hc,has_call,partOk_call,h0,h1,h2,h3,h4,h5]) | (refine grd_t (fun hc=>?_) (fun hc=>?_)<;>simp[hc,has_call,partOk_call,h0,h1,h2,h3,h4,h5]) | (refine grd_f (fun hc=>?_) (fun hc=>?_)<;>simp[hc,has_call,partOk_call,h0,h1,h2,h3,h4,h5])
 ·obtain⟨rfl | rfl,h1,h2,h3,h4,h5⟩:=h
  ·have h0:wordOk 21=false:=by decide
   simp[insC,formOf_call,has_call,partOk_call,h0,h1,h2,h3,h4,h5]
   repeat' first | (refine cnd_of (fun hc=>?_) (fun hc=>?_)<;>simp[hc,has_call,partOk_call,h0,h1,h2,h3,h4,h5]) | (refine grd_t (fun hc=>?_) (fun hc=>?_)<;>simp[hc,has_call,partOk_call,h0,h1,h2,h3,h4,h5]) | (refine grd_f (fun hc=>?_) (fun hc=>?_)<;>simp[hc,has_call,partOk_call,h0,h1,h2,h3,h4,h5])
  ·have h0:wordOk 25=false:=by decide
   simp[insC,formOf_call,has_call,partOk_call,h0,h1,h2,h3,h4,h5]
   repeat' first | (refine cnd_of (fun hc=>?_) (fun hc=>?_)<;>simp[hc,has_call,partOk_call,h0,h1,h2,h3,h4,h5]) | (refine grd_t (fun hc=>?_) (fun hc=>?_)<;>simp[hc,has_call,partOk_call,h0,h1,h2,h3,h4,h5]) | (refine grd_f (fun hc=>?_) (fun hc=>?_)<;>simp[hc,has_call,partOk_call,h0,h1,h2,h3,h4,h5])
 ·obtain⟨rfl,h1,h2,h3,h4,h5⟩:=h
  have h0:wordOk 22=false:=by decide
  simp[insC,formOf_call,has_call,partOk_call,h0,h1,h2,h3,h4,h5]
  repeat' first | (refine cnd_of (fun hc=>?_) (fun hc=>?_)<;>simp[hc,has_call,partOk_call,h0,h1,h2,h3,h4,h5]) | (refine grd_t (fun hc=>?_) (fun hc=>?_)<;>simp[hc,has_call,partOk_call,h0,h1,h2,h3,h4,h5]) | (refine grd_f (fun hc=>?_) (fun hc=>?_)<;>simp[hc,has_call,partOk_call,h0,h1,h2,h3,h4,h5])
 ·obtain⟨rfl,h1,h2,h3,h4,h5⟩:=h
  have h0:wordOk 23=false:=by decide
  simp[insC,formOf_call,has_call,partOk_call,h0,h1,h2,h3,h4,h5]
  repeat' first | (refine cnd_of (fun hc=>?_) (fun hc=>?_)<;>simp[hc,has_call,partOk_call,h0,h1,h2,h3,h4,h5]) | (refine grd_t (fun hc=>?_) (fun hc=>?_)<;>simp[hc,has_call,partOk_call,h0,h1,h2,h3,h4,h5]) | (refine grd_f (fun hc=>?_) (fun hc=>?_)<;>simp[hc,has_call,partOk_call,h0,h1,h2,h3,h4,h5])
 ·obtain⟨rfl,h1,h2,h3,h4,h5⟩:=h
  have h0:wordOk 24=false:=by decide
  simp[insC,formOf_call,has_call,partOk_call,h0,h1,h2,h3,h4,h5]
  repeat' first | (refine cnd_of (fun hc=>?_) (fun hc=>?_)<;>simp[hc,has_call,partOk_call,h0,h1,h2,h3,h4,h5]) | (refine grd_t (fun hc=>?_) (fun hc=>?_)<;>simp[hc,has_call,partOk_call,h0,h1,h2,h3,h4,h5]) | (refine grd_f (fun hc=>?_) (fun hc=>?_)<;>simp[hc,has_call,partOk_call,h0,h1,h2,h3,h4,h5])
 ·obtain⟨h0,e1,e2,e3,e4,e5,e6,h1,h2,h3,h4,h5⟩:=h
  simp[insC,formOf_call,has_call,partOk_call,h0,h1,h2,h3,h4,h5,e1,e2,e3,e4,e5,e6]
theorem all_of {α:Type} {p:α→Bool} {xs:List α} (h:∀ j (hj:j<xs.length),p xs[j]=true):xs.all p=true:=by
 rw[List.all_eq_true]
 intro x hx
 obtain⟨j,hj,rfl⟩:=List.getElem_of_mem hx
 exact h j hj

theorem all_not {α:Type} {p:α→Bool} {xs:List α} {i:Nat} (hi:i<xs.length) (h:p xs[i]=false):xs.all p=false:=by
 cases hc:xs.all p with
 | false=>rfl
 | true=>rw[List.all_eq_true]at hc;rw[hc _ (List.getElem_mem hi)]at h;cases h

def armB (n m:Int) (arms:List ArmR) (i:Nat):Bool:=match arms[i]? with
 | some a=>inB a.fr 0 (n - 1) && valB a.v m && !(arms.take i).any fun x=>decide (x.fr=a.fr)
 | none=>true

def armsB (n m:Int) (arms:List ArmR):Bool:=(List.range arms.length).all (armB n m arms)

def phiB (n m:Int) (p:PhiR):Bool:=valB p.d m && decide (p.arms.length≤16) && armsB n m p.arms

def blkB (n m:Int) (b:BlkR):Bool:=decide (b.phis.length≤24) && decide (b.list.length≤24) && termB b.term n m && b.phis.all (phiB n m) && b.list.all fun x=>insB x m

def shapeB (f:FnR):Bool:=inB f.blocks.length 1 16 && inB f.values 0 80 && f.blocks.all (blkB f.blocks.length f.values)

theorem armB_at {n m:Int} {arms:List ArmR} {i:Nat} (hi:i<arms.length):armB n m arms i=(inB arms[i].fr 0 (n - 1) && valB arms[i].v m && !(arms.take i).any fun x=>decide (x.fr=arms[i].fr)):=by
 unfold armB;rw[List.getElem?_eq_getElem hi]

theorem armsB_true {n m:Int} {arms:List ArmR} (h:∀ j,j<arms.length→armB n m arms j=true):armsB n m arms=true:=by
 unfold armsB;rw[List.all_eq_true];intro j hj;exact h j (List.mem_range.1 hj)

theorem armsB_false {n m:Int} {arms:List ArmR} {i:Nat} (hi:i<arms.length) (h:armB n m arms i=false):armsB n m arms=false:=by
 cases hc:armsB n m arms with
 | false=>rfl
 | true =>
  unfold armsB at hc
  rw[List.all_eq_true]at hc
  rw[hc i (List.mem_range.2 hi)]at h;cases h

theorem natLe {m:Nat}:((m:Int)≤16)=(m≤16):=by simp only[eq_iff_iff];omega

theorem wn1 {n:Int} (hn:-9223372036854775807≤n∧n≤9223372036854775807):wrap64 (n - 1)=n - 1:=wrap64_id (by omega)

theorem specPhi {H:Hp} {d:Int} {w:CV} {arms:List ArmR} (hw:Arms H w arms) (hb:arms.length≤BIG) (n m:Int) (hn:-9223372036854775807≤n∧n≤9223372036854775807) (k:IV×Hp→Prop) :
  CM 48 [.agg [.i d,w],.c (.i n),.c (.i m)] H k=k (.c (.b (phiB n m ⟨d,arms⟩)),H):=by
 refine det (cw48 ?_) k
 unfold vf48c phiB
 simp only
 cases e1:valB d m with
 | false=>simp[specVal,e1]
 | true =>
  by_cases e2:arms.length≤16
  ·have e2':¬ (16:Int)<arms.length:=by omega
   simp[specVal,e1,hw.lenOf,e2,e2']
   refine wp_for CM_mono arms.length (fun i s=>(∀ j,j<i→armB n m arms j=true)∧s.h=H++[⟨[.i d,w],0,true,2⟩]∧Env.get s.e 1=.c (.i n)∧Env.get s.e 2=.c (.i m)∧Env.get s.e 3=.c (.p H.length 0 0)∧Env.get s.e 7=.c (.i i)) (by simp) ?_ ?_
   ·rintro i ⟨e,X⟩ hi ⟨ht,rfl,h1,h2,h3,h7⟩
    simp only at h1 h2 h3 h7 ⊢
    obtain⟨id,g,off,q1,q2,q3,q4,q5⟩:=hw.get hi
    have hA:=armB_at (n:=n) (m:=m) hi
    unfold vf48b1
    cases f1:inB arms[i].fr 0 (n - 1) with
    | false=>simp[h1,h2,h3,h7,hw.lenOf,hi,q1,q3,specIn,wn1 hn,f1,armsB_false hi (by rw[hA,f1];rfl)]
    | true =>
     cases f2:valB arms[i].v m with
     | false=>simp[h1,h2,h3,h7,hw.lenOf,hi,q1,q3,specIn,specVal,wn1 hn,f1,f2,armsB_false hi (by rw[hA,f1,f2];rfl)]
     | true =>
      simp[h1,h2,h3,h7,hw.lenOf,hi,q1,q3,specIn,specVal,wn1 hn,f1,f2]
      refine wp_for CM_mono i (fun j s=>(∀ l (hl:l<j) (hx:l<arms.length),¬ arms[l].fr=arms[i].fr)∧s.h=H++[⟨[.i d,w],0,true,2⟩]∧Env.get s.e 1=.c (.i n)∧Env.get s.e 2=.c (.i m)∧Env.get s.e 3=.c (.p H.length 0 0)∧Env.get s.e 7=.c (.i i)∧Env.get s.e 8=.c (.i j)) (by simp[h1,h2,h3,h7]) ?_ ?_
      ·rintro j ⟨e',X'⟩ hj ⟨ht',rfl,h1,h2,h3,h7,h8⟩
       simp only at h1 h2 h3 h7 h8 ⊢
       obtain⟨id',g',off',r1,r2,r3,r4,r5⟩:=hw.get (k:=j) (by omega)
       unfold vf48b0
       by_cases f3:arms[j].fr=arms[i].fr
       ·have hany:((arms.take i).any fun x=>decide (x.fr=arms[i].fr))=true:=by
         rw[List.any_eq_true]
         exact⟨arms[j],List.mem_take_iff_getElem.2 ⟨j,by omega,rfl⟩,by simp[f3]⟩
        simp[h1,h2,h3,h7,h8,hj,q1,q3,r1,r3,f3,armsB_false hi (by rw[hA,hany];simp)]
       ·simp[h1,h2,h3,h7,h8,hj,q1,q3,r1,r3,f3,up1 hj (Nat.le_of_lt (Nat.lt_of_lt_of_le hi hb))]
        intro l hl hx
        by_cases el:l=j
        ·subst el;exact f3
        ·exact ht' l (by omega) hx
      ·rintro⟨e',X'⟩ ⟨ht',rfl,h1,h2,h3,h7,h8⟩
       simp only at h1 h2 h3 h7 h8 ⊢
       unfold vf48b0
       have hany:((arms.take i).any fun x=>decide (x.fr=arms[i].fr))=false:=by
        rw[List.any_eq_false]
        intro x hx
        obtain⟨l,hl,rfl⟩:=List.mem_take_iff_getElem.1 hx
        simpa using ht' l (by omega) (by omega)
       have hAt:armB n m arms i=true:=by rw[hA,f1,f2,hany];rfl
       simp[h1,h2,h3,h7,h8,up1 hi hb]
       intro l hl
       by_cases el:l=i
       ·subst el;exact hAt
       ·exact ht l (by omega)
   ·rintro⟨e,X⟩ ⟨ht,rfl,h1,h2,h3,h7⟩
    simp only at h1 h2 h3 h7 ⊢
    unfold vf48b1
    simp[h1,h2,h3,h7,hw.lenOf,armsB_true ht]
  ·have e2':(16:Int)<arms.length:=by omega
   simp[specVal,e1,hw.lenOf,e2,e2']

theorem phiTest {H:Hp} {id g:Nat} {fr:Int} (h:rdC H id g 0=some (.i fr)) (a:ArmR) (k:IV×Hp→Prop) :
  CM 83 [.agg (armC a),.c (.p id g 0)] H k=k (.c (.b (decide (a.fr=fr))),H):=by
 refine det (cw83 ?_) k
 unfold vf83c
 have hk:∀ L,rdC (H++L) id g 0=some (.i fr):=by
  intro L
  unfold rdC at h ⊢
  cases ho:rdOb H id g with
  | none=>rw[ho]at h;cases h
  | some o=>rw[ho]at h;rw[rdOb_app L ho];exact h
 simp[armC,hk]

theorem implPhi {H:Hp} {d:Int} {w:CV} {arms:List ArmR} (hw:Arms H w arms) (hb:arms.length≤BIG) (n m:Int) (hn:-9223372036854775807≤n∧n≤9223372036854775807) (k:IV×Hp→Prop) :
  CM 55 [.agg [.i d,w],.c (.i n),.c (.i m)] H k=k (.c (.b (phiB n m ⟨d,arms⟩)),H):=by
 refine det (cw55 ?_) k
 unfold vf55c phiB
 simp[hw.lenOf]
 refine wp_for CM_mono arms.length (fun i s=>(∀ j,j<i→armB n m arms j=true)∧Pre (H++[⟨[.i d,w],0,true,2⟩]) s.h∧Env.get s.e 1=.c (.i n)∧Env.get s.e 2=.c (.i m)∧Env.get s.e 3=.c (.p H.length 0 0)∧Env.get s.e 10=.c w∧Env.get s.e 11=.c (.i arms.length)∧Env.get s.e 12=.c (.i i)) ⟨by simp,Pre.refl _,by simp⟩ ?_ ?_
 ·rintro i ⟨e,X⟩ hi ⟨ht,⟨L,hX⟩,h1,h2,h3,h10,h11,h12⟩
  simp only at h1 h2 h3 h10 h11 h12 hX ⊢
  simp only[List.append_assoc,List.cons_append,List.nil_append]at hX
  subst hX
  obtain⟨id,g,off,q1,q2,q3,q4,q5⟩:=hw.get hi
  have hA:=armB_at (n:=n) (m:=m) hi
  unfold vf55b0
  cases f1:inB arms[i].fr 0 (n - 1) with
  | false=>simp[h1,h2,h3,h10,h11,h12,hi,q1,q3,implIn,wn1 hn,f1,armsB_false hi (by rw[hA,f1];rfl),putAt]
  | true =>
   cases f2:valB arms[i].v m with
   | false=>simp[h1,h2,h3,h10,h11,h12,hi,q1,q3,implIn,partOk_call,wn1 hn,f1,f2,armsB_false hi (by rw[hA,f1,f2];rfl),putAt]
   | true =>
    obtain⟨w',s1,s2,s3,_⟩:=Row.slice (Arms.app hw (⟨[.i d,w],0,true,2⟩ :: (L++[⟨[.i arms[i].fr,.i arms[i].v],0,true,2⟩]))) (l:=0) (m:=i) (by omega) (by omega)
    have s3:=s3 rfl
    rw[List.drop_zero,Nat.sub_zero]at s2
    simp[h1,h2,h3,h10,h11,h12,hi,q1,q3,implIn,partOk_call,wn1 hn,f1,f2,putAt,s3]
    rw[containsArm s2 (by simp;omega) (fun a=>decide (a.fr=arms[i].fr)) (fun l hl cs hcs k=>by
     have hcs:cs=armC _:=hcs
     subst hcs
     exact phiTest (by simp) _ k)]
    cases f4:(arms.take i).any fun a=>decide (a.fr=arms[i].fr) with
    | true=>simp[h1,h2,h3,h10,h11,h12,armsB_false hi (by rw[hA,f4];simp)]
    | false =>
     have hAt:armB n m arms i=true:=by rw[hA,f1,f2,f4];rfl
     simp[h1,h2,h3,h10,h11,h12,up1 hi hb]
     refine⟨fun l hl=>?_,?_⟩
     ·by_cases el:l=i
      ·subst el;exact hAt
      ·exact ht l (by omega)
     ·exact⟨L++[⟨[.i arms[i].fr,.i arms[i].v],0,true,2⟩],by simp⟩
 ·rintro⟨e,X⟩ ⟨ht,⟨L,hX⟩,h1,h2,h3,h10,h11,h12⟩
  simp only at h1 h2 h3 h10 h11 h12 hX ⊢
  simp only[List.append_assoc,List.cons_append,List.nil_append]at hX
  subst hX
  unfold vf55b0
  cases e1:valB d m with
  | false=>simp[h1,h2,h3,h10,h11,h12,partOk_call,e1]
  | true=>simp[h1,h2,h3,h10,h11,h12,partOk_call,e1,armsB_true ht,hw.lenOf,natLe]
theorem specTerm' (H:Hp) (t:TrmR) (n m:Int) (hn:-9223372036854775807≤n∧n≤9223372036854775807) (k:IV×Hp→Prop) :
  CM 47 [.agg [.i t.kind,.i t.a,.i t.to,.i t.els],.c (.i n),.c (.i m)] H k=k (.c (.b (termB t n m)),H):=specTerm H t n m hn k

theorem implTerm' (H:Hp) (t:TrmR) (n m:Int) (hn:-9223372036854775807≤n∧n≤9223372036854775807) (k:IV×Hp→Prop) :
  CM 52 [.agg [.i t.kind,.i t.a,.i t.to,.i t.els],.c (.i n),.c (.i m)] H k=k (.c (.b (termB t n m)),H):=implTerm H t n m hn k

theorem specIns' (H:Hp) (x:InsR) (m:Int) (k:IV×Hp→Prop) :
  CM 49 [.agg [.i x.op,.i x.d,.i x.a,.i x.b,.i x.n],.c (.i m)] H k=k (.c (.b (insB x m)),H):=specIns H x m k

theorem implIns' (H:Hp) (x:InsR) (m:Int) (k:IV×Hp→Prop) :
  CM 58 [.agg [.i x.op,.i x.d,.i x.a,.i x.b,.i x.n],.c (.i m)] H k=k (.c (.b (insB x m)),H):=implIns H x m k

theorem bigI {n:Nat} (hb:n≤BIG):-9223372036854775807≤(n:Int)∧(n:Int)≤9223372036854775807:=by simp only[BIG]at hb;omega

theorem not_all {α:Type} {p:α→Bool} {xs:List α} {i:Nat} (hi:i<xs.length) (h:p xs[i]=false):∃ x,x∈xs∧p x=false:=⟨_,List.getElem_mem hi,h⟩

theorem all_mem {α:Type} {p:α→Bool} {xs:List α} (h:∀ j (hj:j<xs.length),p xs[j]=true):∀ x∈xs,p x=true:=List.all_eq_true.1 (all_of h)

theorem specShape {H:Hp} {v:CV} {f:FnR} (hv:Blocks H v f.blocks) (hb:f.blocks.length≤BIG) (k:IV×Hp→Prop) :
  CM 29 [.agg [v,.i f.values]] H k=k (.c (.b (shapeB f)),H):=by
 refine det (cw29 ?_) k
 obtain⟨bs,m⟩:=f
 simp only at hv hb ⊢
 unfold vf29c shapeB
 simp only
 cases e1:inB bs.length 1 16 with
 | false=>simp[hv.lenOf,(hv.app _).lenOf,specIn,e1]
 | true =>
  cases e2:inB m 0 80 with
  | false=>simp[hv.lenOf,(hv.app _).lenOf,specIn,e1,e2]
  | true =>
   simp[hv.lenOf,(hv.app _).lenOf,specIn,e1,e2]
   refine wp_for CM_mono bs.length (fun i s=>(∀ j (hj:j<i) (hx:j<bs.length),blkB bs.length m bs[j]=true)∧Pre (H++[⟨[v,.i m],0,true,2⟩]) s.h∧Env.get s.e 1=.c (.p H.length 0 0)∧Env.get s.e 3=.c (.i bs.length)∧Env.get s.e 4=.c (.i i)) ⟨by simp,Pre.refl _,by simp⟩ ?_ ?_
   ·rintro i ⟨e,X⟩ hi ⟨ht,⟨L,hX⟩,h1,h3,h4⟩
    simp only at h1 h3 h4 hX ⊢
    simp only[List.append_assoc,List.cons_append,List.nil_append]at hX
    subst hX
    obtain⟨id,g,off,w,u,q1,q2,q3,hw,hu,hb1,hb2,q4,q5⟩:=hv.get hi
    unfold vf29b2
    by_cases f1:bs[i].phis.length≤24
    ·have f1':¬ (24:Int)<bs[i].phis.length:=by omega
     by_cases f2:bs[i].list.length≤24
     ·have f2':¬ (24:Int)<bs[i].list.length:=by omega
      cases f3:termB bs[i].term bs.length m with
      | false =>
       simp[h1,h3,h4,hi,q1,q3,putAt,hw.lenOf,hu.lenOf,f1',f2',specTerm' _ _ _ _ (bigI hb),f3]
       exact not_all hi (by simp[blkB,f3])
      | true =>
       simp[h1,h3,h4,hi,q1,q3,putAt,hw.lenOf,hu.lenOf,f1',f2',specTerm' _ _ _ _ (bigI hb),f3]
       generalize hBX:(L++[(⟨[w,u,.i bs[i].term.kind,.i bs[i].term.a,.i bs[i].term.to,.i bs[i].term.els],0,true,6⟩:Ob)])=L1
       refine wp_for CM_mono bs[i].phis.length (fun j s=>(∀ l (hl:l<j) (hx:l<bs[i].phis.length),phiB bs.length m bs[i].phis[l]=true)∧s.h=H++(⟨[v,.i m],0,true,2⟩ :: L1)∧Env.get s.e 1=.c (.p H.length 0 0)∧Env.get s.e 3=.c (.i bs.length)∧Env.get s.e 4=.c (.i i) ∧
        Env.get s.e 5=.c (.p (H.length+(L.length+1)) 0 0)∧Env.get s.e 6=.c (.i j)) ⟨by simp,by simp,by simp[h1,h3,h4]⟩ ?_ ?_
       ·rintro j ⟨e',X'⟩ hj ⟨ht',rfl,h1,h3,h4,h5,h6⟩
        simp only at h1 h3 h4 h5 h6 ⊢
        obtain⟨id',g',off',z,r1,r2,r3,hz,hbz,r4,r5⟩:=hw.get hj
        unfold vf29b0
        subst hBX
        cases f4:phiB bs.length m bs[i].phis[j] with
        | false =>
         simp[h1,h3,h4,h5,h6,hw.lenOf,hj,r1,r3,specPhi (hz.app _) hbz bs.length m (bigI hb),f4]
         exact not_all hi (by simp only[blkB,all_not hj f4];simp)
        | true =>
         simp[h1,h3,h4,h5,h6,hw.lenOf,hj,r1,r3,specPhi (hz.app _) hbz bs.length m (bigI hb),f4,up1 hj hb1]
         intro l hl hx
         by_cases el:l=j
         ·subst el;exact f4
         ·exact ht' l (by omega) hx
       ·rintro⟨e',X'⟩ ⟨ht',rfl,h1,h3,h4,h5,h6⟩
        simp only at h1 h3 h4 h5 h6 ⊢
        have hph:=all_of (fun j hj=>ht' j hj hj)
        unfold vf29b0
        subst hBX
        simp[h1,h3,h4,h5,h6,hw.lenOf]
        generalize hBX:(L++[(⟨[w,u,.i bs[i].term.kind,.i bs[i].term.a,.i bs[i].term.to,.i bs[i].term.els],0,true,6⟩:Ob)])=L1
        refine wp_for CM_mono bs[i].list.length (fun j s=>(∀ l (hl:l<j) (hx:l<bs[i].list.length),insB bs[i].list[l] m=true)∧s.h=H++(⟨[v,.i m],0,true,2⟩ :: L1)∧Env.get s.e 1=.c (.p H.length 0 0)∧Env.get s.e 3=.c (.i bs.length)∧Env.get s.e 4=.c (.i i) ∧
         Env.get s.e 5=.c (.p (H.length+(L.length+1)) 0 0)∧Env.get s.e 7=.c (.i j)) ⟨by simp,by simp,by simp[h1,h3,h4,h5]⟩ ?_ ?_
        ·rintro j ⟨e',X'⟩ hj ⟨ht',rfl,h1,h3,h4,h5,h7⟩
         simp only at h1 h3 h4 h5 h7 ⊢
         obtain⟨id',g',off',r1,r2,r3,r4,r5⟩:=hu.get hj
         unfold vf29b1
         subst hBX
         cases f4:insB bs[i].list[j] m with
         | false =>
          simp[h1,h3,h4,h5,h7,hu.lenOf,hj,r1,r3,specIns',f4]
          exact not_all hi (by simp only[blkB,all_not (p:=fun x=>insB x m) hj f4];simp)
         | true =>
          simp[h1,h3,h4,h5,h7,hu.lenOf,hj,r1,r3,specIns',f4,up1 hj hb2]
          intro l hl hx
          by_cases el:l=j
          ·subst el;exact f4
          ·exact ht' l (by omega) hx
        ·rintro⟨e',X'⟩ ⟨ht',rfl,h1,h3,h4,h5,h7⟩
         simp only at h1 h3 h4 h5 h7 ⊢
         have hin:=all_of (p:=fun x=>insB x m) (fun j hj=>ht' j hj hj)
         unfold vf29b1
         subst hBX
         have hAt:blkB bs.length m bs[i]=true:=by simp only[blkB,f1,f2,f3,hph,hin];simp
         simp[h1,h3,h4,h5,h7,hu.lenOf,up1 hi hb]
         refine⟨fun l hl hx=>?_,⟨_,by simp;rfl⟩⟩
         by_cases el:l=i
         ·subst el;exact hAt
         ·exact ht l (by omega) hx
     ·have f2':(24:Int)<bs[i].list.length:=by omega
      simp[h1,h3,h4,hi,q1,q3,putAt,hw.lenOf,hu.lenOf,f1',f2']
      exact not_all hi (by simp[blkB,f2])
    ·have f1':(24:Int)<bs[i].phis.length:=by omega
     simp[h1,h3,h4,hi,q1,q3,putAt,hw.lenOf,hu.lenOf,f1']
     exact not_all hi (by simp[blkB,f1])
   ·rintro⟨e,X⟩ ⟨ht,⟨L,hX⟩,h1,h3,h4⟩
    simp only at h1 h3 h4 hX ⊢
    simp only[List.append_assoc,List.cons_append,List.nil_append]at hX
    subst hX
    unfold vf29b2
    simp[h1,h3,h4]
    exact all_mem (fun j hj=>ht j hj hj)
theorem rdC_app {H:Hp} {id g off:Nat} {c:CV} (h:rdC H id g off=some c) (L:Hp):rdC (H++L) id g off=some c:=by
 unfold rdC at h ⊢
 cases ho:rdOb H id g with
 | none=>rw[ho]at h;cases h
 | some o=>rw[ho]at h;rw[rdOb_app L ho];exact h

theorem shape11 {H:Hp} {idn gn idf gf:Nat} {n m d:Int} {w:CV} {arms:List ArmR} (hn:rdC H idn gn 0=some (.i n)) (hf:rdC H idf gf 1=some (.i m)) (hw:Arms H w arms) (hb:arms.length≤BIG) (hr:-9223372036854775807≤n∧n≤9223372036854775807) (k:IV×Hp→Prop) :
  CM 54 [.agg [.i d,w],.c (.p idn gn 0),.c (.p idf gf 0)] H k=k (.c (.b (!phiB n m ⟨d,arms⟩)),H):=by
 refine det (cw54 ?_) k
 unfold vf54c
 simp[rdC_app hn,rdC_app hf,implPhi (hw.app _) hb n m hr]

theorem shape12 {H:Hp} {idf gf:Nat} {m:Int} (x:InsR) (hf:rdC H idf gf 1=some (.i m)) (k:IV×Hp→Prop) :
  CM 57 [.agg [.i x.op,.i x.d,.i x.a,.i x.b,.i x.n],.c (.p idf gf 0)] H k=k (.c (.b (!insB x m)),H):=by
 refine det (cw57 ?_) k
 unfold vf57c
 simp[rdC_app hf,implIns']

theorem shape1 {H:Hp} {idn gn idf gf:Nat} {n m:Int} {w u:CV} {b:BlkR} (hn:rdC H idn gn 0=some (.i n)) (hf:rdC H idf gf 1=some (.i m)) (hw:Phis H w b.phis) (hu:List5 H u b.list) (hb1:b.phis.length≤BIG) (hb2:b.list.length≤BIG)
  (hr:-9223372036854775807≤n∧n≤9223372036854775807) (k:IV×Hp→Prop) :
  CM 51 [.agg [w,u,.i b.term.kind,.i b.term.a,.i b.term.to,.i b.term.els],.c (.p idn gn 0),.c (.p idf gf 0)] H k=k (.c (.b (!blkB n m b)),H):=by
 refine det (cw51 ?_) k
 unfold vf51c blkB
 by_cases f1:b.phis.length≤24
 ·have f1':¬ (24:Int)<b.phis.length:=by omega
  by_cases f2:b.list.length≤24
  ·have f2':¬ (24:Int)<b.list.length:=by omega
   cases f3:termB b.term n m with
   | false=>simp[hw.lenOf,hu.lenOf,f1,f1',f2,f2',rdC_app hn,rdC_app hf,implTerm' _ _ _ _ hr,f3]
   | true =>
    simp[hw.lenOf,hu.lenOf,f1,f1',f2,f2',rdC_app hn,rdC_app hf,implTerm' _ _ _ _ hr,f3]
    rw[containsPhi (hw.app _) hb1 (fun p=>!phiB n m p) (fun i hi cs hP k=>by
     obtain⟨z,rfl,hz,hbz⟩:=hP
     exact shape11 (rdC_app hn _) (rdC_app hf _) hz hbz hr k)]
    cases f4:b.phis.any (fun p=>!phiB n m p) with
    | true =>
     simp
     have:b.phis.all (phiB n m)=false:=by
      obtain⟨x,hx,hq⟩:=List.any_eq_true.1 f4
      rw[List.all_eq_false]
      exact⟨x,hx,by simpa using hq⟩
     left
     simpa using this
    | false =>
     have h4:∀ x∈b.phis,phiB n m x=true:=by
      intro x hx
      have:=List.any_eq_false.1 f4 x hx
      simpa using this
     simp[rdC_app hf]
     rw[containsIns (hu.app _) hb2 (fun x=>!insB x m) (fun i hi cs hP k=>by
      have hP:cs=insC _:=hP
      subst hP
      exact shape12 _ (rdC_app hf _) k)]
     simp
     cases f5:b.list.any (fun x=>!insB x m) with
     | true =>
      have:b.list.all (fun x=>insB x m)=false:=by
       obtain⟨x,hx,hq⟩:=List.any_eq_true.1 f5
       rw[List.all_eq_false]
       exact⟨x,hx,by simpa using hq⟩
      rw[this];simp
     | false =>
      have h5:b.list.all (fun x=>insB x m)=true:=by
       rw[List.all_eq_true]
       intro x hx
       have:=List.any_eq_false.1 f5 x hx
       simpa using this
      have h6:b.phis.all (phiB n m)=true:=List.all_eq_true.2 h4
      rw[h5,h6];simp
  ·have f2':(24:Int)<b.list.length:=by omega
   simp[hw.lenOf,hu.lenOf,f1,f1',f2,f2']
 ·have f1':(24:Int)<b.phis.length:=by omega
  simp[hw.lenOf,hu.lenOf,f1,f1']

theorem implShape {H:Hp} {v:CV} {f:FnR} (hv:Blocks H v f.blocks) (hb:f.blocks.length≤BIG) (k:IV×Hp→Prop) :
  CM 30 [.agg [v,.i f.values]] H k=k (.c (.b (shapeB f)),H):=by
 refine det (cw30 ?_) k
 obtain⟨bs,m⟩:=f
 simp only at hv hb ⊢
 unfold vf30c shapeB
 simp only
 cases e1:inB bs.length 1 16 with
 | false=>simp[hv.lenOf,(hv.app _).lenOf,implIn,e1,putAt]
 | true =>
  cases e2:inB m 0 80 with
  | false=>simp[hv.lenOf,(hv.app _).lenOf,implIn,e1,e2,putAt]
  | true =>
   simp[hv.lenOf,(hv.app _).lenOf,implIn,e1,e2,putAt]
   rw[containsBlk (hv.app _) hb (fun b=>!blkB bs.length m b) (fun i hi cs hP k=>by
    obtain⟨w,u,rfl,hw,hu,hb1,hb2⟩:=hP
    exact shape1 (by simp) (by simp) hw hu hb1 hb2 (bigI hb) k)]
   simp
   rw[Bool.eq_iff_iff]
   simp
theorem take_snoc_eq {α:Type} {xs ys:List α} {i:Nat} (hi:i<xs.length) (hj:i<ys.length) (ht:xs.take i=ys.take i) (he:xs[i]=ys[i]):xs.take (i+1)=ys.take (i+1):=by
 rw[List.take_succ_eq_append_getElem hi,List.take_succ_eq_append_getElem hj,ht,he]

theorem At.all {H:Hp} {id g off:Nat} {cs:List CV} (h:At H id g off cs) {n:Nat} (hn:cs.length=n):rdN H id g off n=some cs:=by
 have:=h.n 0 n (by omega)
 rwa [Nat.add_zero,List.drop_zero,List.take_of_length_le (by omega)]at this

theorem eqArm_call (H:Hp) {cs cs':List CV} {a b:ArmR} (ha:armP H cs a) (hb:armP H cs' b) (k:IV×Hp→Prop):CM 121 [.agg cs,.agg cs'] H k=k (.c (.b (decide (a=b))),H):=by
 cases ha;cases hb
 refine det (cw121 ?_) k
 unfold vf121c
 obtain⟨a1,a2⟩:=a
 obtain⟨b1,b2⟩:=b
 by_cases h1:a1=b1<;>by_cases h2:a2=b2<;>simp[armC,h1,h2]

theorem eqIns_call (H:Hp) {cs cs':List CV} {a b:InsR} (ha:insP H cs a) (hb:insP H cs' b) (k:IV×Hp→Prop):CM 105 [.agg cs,.agg cs'] H k=k (.c (.b (decide (a=b))),H):=by
 cases ha;cases hb
 refine det (cw105 ?_) k
 unfold vf105c
 obtain⟨a1,a2,a3,a4,a5⟩:=a
 obtain⟨b1,b2,b3,b4,b5⟩:=b
 by_cases h1:a1=b1
 ·by_cases h2:a2=b2
  ·by_cases h3:a3=b3
   ·by_cases h4:a4=b4
    ·by_cases h5:a5=b5<;>simp[insC,h1,h2,h3,h4,h5]
    ·simp[insC,h1,h2,h3,h4]
   ·simp[insC,h1,h2,h3]
  ·simp[insC,h1,h2]
 ·simp[insC,h1]

theorem eqTerm_call (H:Hp) (a b:TrmR) (k:IV×Hp→Prop):CM 77 [.agg [.i a.kind,.i a.a,.i a.to,.i a.els],.agg [.i b.kind,.i b.a,.i b.to,.i b.els]] H k=k (.c (.b (decide (a=b))),H):=by
 refine det (cw77 ?_) k
 unfold vf77c
 obtain⟨a1,a2,a3,a4⟩:=a
 obtain⟨b1,b2,b3,b4⟩:=b
 by_cases h1:a1=b1
 ·by_cases h2:a2=b2
  ·by_cases h3:a3=b3
   ·by_cases h4:a4=b4<;>simp[h1,h2,h3,h4]
   ·simp[h1,h2,h3]
  ·simp[h1,h2]
 ·simp[h1]

theorem eqArmS_call {H:Hp} {v w:CV} {xs ys:List ArmR} (hv:Row armP 2 H v xs) (hw:Row armP 2 H w ys) (hb:xs.length≤BIG) (k:IV×Hp→Prop):CM 117 [.c v,.c w] H k=k (.c (.b (decide (xs=ys))),H):=by
 refine det (cw117 ?_) k
 unfold vf117c
 simp[hv.lenOf,hw.lenOf]
 refine cnd_of (fun hl=>?_) (fun hl=>?_)<;>simp at hl
 ·have he:¬ xs=ys:=fun h=>hl (by rw[h])
  simp[he]
 ·simp
  refine wp_for CM_mono xs.length (fun i s=>xs.take i=ys.take i∧s.h=H∧Env.get s.e 0=.c v∧Env.get s.e 1=.c w∧Env.get s.e 5=.c (.i i)) (by simp) ?_ ?_
  ·rintro i ⟨e,X⟩ hi ⟨ht,rfl,h0,h1,h5⟩
   simp only at h0 h1 h5 hv hw ⊢
   obtain⟨id,g,off,cs,p1,p2,p3,p4⟩:=Row.get hv hi
   obtain⟨id',g',off',cs',q1,q2,q3,q4⟩:=Row.get hw (k:=i) (by omega)
   unfold vf117b0
   by_cases he:xs[i]=ys[i]
   ·simp[h0,h1,h5,hv.lenOf,p1,p2.all p3,q1,q2.all q3,hi,up1 hi hb,eqArm_call X p4 q4,he]
    exact take_snoc_eq hi (by omega) ht he
   ·simp[h0,h1,h5,hv.lenOf,p1,p2.all p3,q1,q2.all q3,hi,up1 hi hb,eqArm_call X p4 q4,he]
    rintro rfl;exact he rfl
  ·rintro⟨e,X⟩ ⟨ht,rfl,h0,h1,h5⟩
   simp only at h0 h1 h5 hv hw ⊢
   unfold vf117b0
   simp[h0,h1,h5,hv.lenOf]
   rw[List.take_length,hl,List.take_length]at ht
   exact ht

theorem eqInsS_call {H:Hp} {v w:CV} {xs ys:List InsR} (hv:Row insP 5 H v xs) (hw:Row insP 5 H w ys) (hb:xs.length≤BIG) (k:IV×Hp→Prop):CM 76 [.c v,.c w] H k=k (.c (.b (decide (xs=ys))),H):=by
 refine det (cw76 ?_) k
 unfold vf76c
 simp[hv.lenOf,hw.lenOf]
 refine cnd_of (fun hl=>?_) (fun hl=>?_)<;>simp at hl
 ·have he:¬ xs=ys:=fun h=>hl (by rw[h])
  simp[he]
 ·simp
  refine wp_for CM_mono xs.length (fun i s=>xs.take i=ys.take i∧s.h=H∧Env.get s.e 0=.c v∧Env.get s.e 1=.c w∧Env.get s.e 5=.c (.i i)) (by simp) ?_ ?_
  ·rintro i ⟨e,X⟩ hi ⟨ht,rfl,h0,h1,h5⟩
   simp only at h0 h1 h5 hv hw ⊢
   obtain⟨id,g,off,cs,p1,p2,p3,p4⟩:=Row.get hv hi
   obtain⟨id',g',off',cs',q1,q2,q3,q4⟩:=Row.get hw (k:=i) (by omega)
   unfold vf76b0
   by_cases he:xs[i]=ys[i]
   ·simp[h0,h1,h5,hv.lenOf,p1,p2.all p3,q1,q2.all q3,hi,up1 hi hb,eqIns_call X p4 q4,he]
    exact take_snoc_eq hi (by omega) ht he
   ·simp[h0,h1,h5,hv.lenOf,p1,p2.all p3,q1,q2.all q3,hi,up1 hi hb,eqIns_call X p4 q4,he]
    rintro rfl;exact he rfl
  ·rintro⟨e,X⟩ ⟨ht,rfl,h0,h1,h5⟩
   simp only at h0 h1 h5 hv hw ⊢
   unfold vf76b0
   simp[h0,h1,h5,hv.lenOf]
   rw[List.take_length,hl,List.take_length]at ht
   exact ht

theorem eqPhi_call (H:Hp) {cs cs':List CV} {a b:PhiR} (ha:phiP BIG H cs a) (hb:phiP BIG H cs' b) (k:IV×Hp→Prop):CM 104 [.agg cs,.agg cs'] H k=k (.c (.b (decide (a=b))),H):=by
 obtain⟨d,arms⟩:=a
 obtain⟨d',arms'⟩:=b
 obtain⟨z,rfl,hz,hbz⟩:=ha
 obtain⟨z',rfl,hz',hbz'⟩:=hb
 simp only at hz hz' hbz hbz' ⊢
 refine det (cw104 ?_) k
 unfold vf104c
 by_cases h1:d=d'
 ·by_cases h2:arms=arms'
  ·simp[h1,eqArmS_call (Arms.app hz _) (Arms.app hz' _) hbz,h2]
  ·simp[h1,eqArmS_call (Arms.app hz _) (Arms.app hz' _) hbz,h2]
 ·simp[h1]

theorem eqPhiS_call {H:Hp} {v w:CV} {xs ys:List PhiR} (hv:Row (phiP BIG) 2 H v xs) (hw:Row (phiP BIG) 2 H w ys) (hb:xs.length≤BIG) (k:IV×Hp→Prop):CM 75 [.c v,.c w] H k=k (.c (.b (decide (xs=ys))),H):=by
 refine det (cw75 ?_) k
 unfold vf75c
 simp[hv.lenOf,hw.lenOf]
 refine cnd_of (fun hl=>?_) (fun hl=>?_)<;>simp at hl
 ·have he:¬ xs=ys:=fun h=>hl (by rw[h])
  simp[he]
 ·simp
  refine wp_for CM_mono xs.length (fun i s=>xs.take i=ys.take i∧s.h=H∧Env.get s.e 0=.c v∧Env.get s.e 1=.c w∧Env.get s.e 5=.c (.i i)) (by simp) ?_ ?_
  ·rintro i ⟨e,X⟩ hi ⟨ht,rfl,h0,h1,h5⟩
   simp only at h0 h1 h5 hv hw ⊢
   obtain⟨id,g,off,cs,p1,p2,p3,p4⟩:=Row.get hv hi
   obtain⟨id',g',off',cs',q1,q2,q3,q4⟩:=Row.get hw (k:=i) (by omega)
   unfold vf75b0
   by_cases he:xs[i]=ys[i]
   ·simp[h0,h1,h5,hv.lenOf,p1,p2.all p3,q1,q2.all q3,hi,up1 hi hb,eqPhi_call X p4 q4,he]
    exact take_snoc_eq hi (by omega) ht he
   ·simp[h0,h1,h5,hv.lenOf,p1,p2.all p3,q1,q2.all q3,hi,up1 hi hb,eqPhi_call X p4 q4,he]
    rintro rfl;exact he rfl
  ·rintro⟨e,X⟩ ⟨ht,rfl,h0,h1,h5⟩
   simp only at h0 h1 h5 hv hw ⊢
   unfold vf75b0
   simp[h0,h1,h5,hv.lenOf]
   rw[List.take_length,hl,List.take_length]at ht
   exact ht

theorem eqBlk_call (H:Hp) {cs cs':List CV} {a b:BlkR} (ha:blkP BIG H cs a) (hb:blkP BIG H cs' b) (k:IV×Hp→Prop):CM 45 [.agg cs,.agg cs'] H k=k (.c (.b (decide (a=b))),H):=by
 obtain⟨ps,ls,t⟩:=a
 obtain⟨ps',ls',t'⟩:=b
 obtain⟨z,u,rfl,hz,hu,hb1,hb2⟩:=ha
 obtain⟨z',u',rfl,hz',hu',hb1',hb2'⟩:=hb
 simp only at hz hu hz' hu' hb1 hb2 ⊢
 refine det (cw45 ?_) k
 unfold vf45c
 by_cases h1:ps=ps'
 ·by_cases h2:ls=ls'
  ·by_cases h3:t=t'<;>simp[trmC,h1,eqPhiS_call (Phis.app hz _) (Phis.app hz' _) hb1,eqInsS_call (List5.app hu _) (List5.app hu' _) hb2,eqTerm_call,h2,h3]
  ·simp[trmC,h1,eqPhiS_call (Phis.app hz _) (Phis.app hz' _) hb1,eqInsS_call (List5.app hu _) (List5.app hu' _) hb2,h2]
 ·simp[trmC,h1,eqPhiS_call (Phis.app hz _) (Phis.app hz' _) hb1]

theorem eqBlkS_call {H:Hp} {v w:CV} {xs ys:List BlkR} (hv:Row (blkP BIG) 6 H v xs) (hw:Row (blkP BIG) 6 H w ys) (hb:xs.length≤BIG) (k:IV×Hp→Prop):CM 28 [.c v,.c w] H k=k (.c (.b (decide (xs=ys))),H):=by
 refine det (cw28 ?_) k
 unfold vf28c
 simp[hv.lenOf,hw.lenOf]
 refine cnd_of (fun hl=>?_) (fun hl=>?_)<;>simp at hl
 ·have he:¬ xs=ys:=fun h=>hl (by rw[h])
  simp[he]
 ·simp
  refine wp_for CM_mono xs.length (fun i s=>xs.take i=ys.take i∧s.h=H∧Env.get s.e 0=.c v∧Env.get s.e 1=.c w∧Env.get s.e 5=.c (.i i)) (by simp) ?_ ?_
  ·rintro i ⟨e,X⟩ hi ⟨ht,rfl,h0,h1,h5⟩
   simp only at h0 h1 h5 hv hw ⊢
   obtain⟨id,g,off,cs,p1,p2,p3,p4⟩:=Row.get hv hi
   obtain⟨id',g',off',cs',q1,q2,q3,q4⟩:=Row.get hw (k:=i) (by omega)
   unfold vf28b0
   by_cases he:xs[i]=ys[i]
   ·simp[h0,h1,h5,hv.lenOf,p1,p2.all p3,q1,q2.all q3,hi,up1 hi hb,eqBlk_call X p4 q4,he]
    exact take_snoc_eq hi (by omega) ht he
   ·simp[h0,h1,h5,hv.lenOf,p1,p2.all p3,q1,q2.all q3,hi,up1 hi hb,eqBlk_call X p4 q4,he]
    rintro rfl;exact he rfl
  ·rintro⟨e,X⟩ ⟨ht,rfl,h0,h1,h5⟩
   simp only at h0 h1 h5 hv hw ⊢
   unfold vf28b0
   simp[h0,h1,h5,hv.lenOf]
   rw[List.take_length,hl,List.take_length]at ht
   exact ht

theorem eqFn_call (H:Hp) {cs cs':List CV} {a b:FnR} (ha:fnP BIG H cs a) (hb:fnP BIG H cs' b) (k:IV×Hp→Prop):CM 9 [.agg cs,.agg cs'] H k=k (.c (.b (decide (a=b))),H):=by
 obtain⟨bs,m⟩:=a
 obtain⟨bs',m'⟩:=b
 obtain⟨z,rfl,hz,hbz⟩:=ha
 obtain⟨z',rfl,hz',hbz'⟩:=hb
 simp only at hz hz' hbz ⊢
 refine det (cw9 ?_) k
 unfold vf9c
 by_cases h1:bs=bs'
 ·by_cases h2:m=m'<;>simp[h1,eqBlkS_call (Blocks.app hz _) (Blocks.app hz' _) hbz,h2]
 ·simp[h1,eqBlkS_call (Blocks.app hz _) (Blocks.app hz' _) hbz]


def szL (n:Nat) (l:Int):Int:=if l - n<0 then -1 else l - n

def szPhisFrom:List PhiR→Int→Int
 | [],l=>l
 | p :: r,l=>if szL p.arms.length l<0 then -1 else szPhisFrom r (szL p.arms.length l)

def szPhis (ps:List PhiR) (l:Int):Int:=if l - ps.length<0 then -1 else szPhisFrom ps (l - ps.length)

def szBlk (b:BlkR) (l:Int):Int:=if szPhis b.phis l<0 then -1 else szL b.list.length (szPhis b.phis l)

def szBlksFrom:List BlkR→Int→Int
 | [],l=>l
 | b :: r,l=>if szBlk b l<0 then -1 else szBlksFrom r (szBlk b l)

def szFnF (f:FnR) (l:Int):Int:=if l - f.blocks.length<0 then -1 else szBlksFrom f.blocks (l - f.blocks.length)

theorem szL_le {n:Nat} {l:Int} (h0:0≤l):-1≤szL n l∧szL n l≤l∧(0≤szL n l→n≤l.toNat):=by
 unfold szL;split<;>omega

theorem szPhisFrom_le:∀ {ps:List PhiR} {l:Int},0≤l→-1≤szPhisFrom ps l∧szPhisFrom ps l≤l∧(0≤szPhisFrom ps l→∀ p∈ps,p.arms.length≤l.toNat):=by
 intro ps
 induction ps with
 | nil=>intro l h;exact⟨by simp only[szPhisFrom];omega,by simp[szPhisFrom],fun _ p hp=>by cases hp⟩
 | cons p r ih =>
  intro l h
  obtain⟨a1,a2,a3⟩:=szL_le (n:=p.arms.length) h
  simp only[szPhisFrom]
  split
  ·exact⟨by omega,by omega,fun h=>by omega⟩
  ·rename_i hn
   obtain⟨b1,b2,b3⟩:=ih (l:=szL p.arms.length l) (by omega)
   refine⟨b1,by omega,fun h q hq=>?_⟩
   rcases List.mem_cons.1 hq with rfl | hq
   ·exact a3 (by omega)
   ·have:=b3 h q hq;omega

theorem szPhis_le {ps:List PhiR} {l:Int} (h:0≤l):-1≤szPhis ps l∧szPhis ps l≤l∧(0≤szPhis ps l→ps.length≤l.toNat∧∀ p∈ps,p.arms.length≤l.toNat):=by
 unfold szPhis
 split
 ·exact⟨by omega,by omega,fun h=>by omega⟩
 ·obtain⟨b1,b2,b3⟩:=szPhisFrom_le (ps:=ps) (l:=l - ps.length) (by omega)
  exact⟨b1,by omega,fun h=>⟨by omega,fun p hp=>by have:=b3 h p hp;omega⟩⟩

theorem szBlk_le {b:BlkR} {l:Int} (h:0≤l):-1≤szBlk b l∧szBlk b l≤l∧(0≤szBlk b l→b.phis.length≤l.toNat∧b.list.length≤l.toNat∧∀ p∈b.phis,p.arms.length≤l.toNat):=by
 unfold szBlk
 obtain⟨b1,b2,b3⟩:=szPhis_le (ps:=b.phis) h
 split
 ·exact⟨by omega,by omega,fun h=>by omega⟩
 ·obtain⟨c1,c2,c3⟩:=szL_le (n:=b.list.length) (l:=szPhis b.phis l) (by omega)
  refine⟨c1,by omega,fun h=>?_⟩
  have:=b3 (by omega)
  exact⟨this.1,by have:=c3 h;omega,this.2⟩

theorem szBlksFrom_le:∀ {bs:List BlkR} {l:Int},0≤l→-1≤szBlksFrom bs l∧szBlksFrom bs l≤l∧(0≤szBlksFrom bs l→∀ b∈bs,b.phis.length≤l.toNat∧b.list.length≤l.toNat∧∀ p∈b.phis,p.arms.length≤l.toNat):=by
 intro bs
 induction bs with
 | nil=>intro l h;exact⟨by simp only[szBlksFrom];omega,by simp[szBlksFrom],fun _ p hp=>by cases hp⟩
 | cons p r ih =>
  intro l h
  obtain⟨a1,a2,a3⟩:=szBlk_le (b:=p) h
  simp only[szBlksFrom]
  split
  ·exact⟨by omega,by omega,fun h=>by omega⟩
  ·rename_i hn
   obtain⟨b1,b2,b3⟩:=ih (l:=szBlk p l) (by omega)
   refine⟨b1,by omega,fun h q hq=>?_⟩
   rcases List.mem_cons.1 hq with rfl | hq
   ·exact a3 (by omega)
   ·obtain⟨c1,c2,c3⟩:=b3 h q hq
    exact⟨by omega,by omega,fun x hx=>by have:=c3 x hx;omega⟩

theorem szFnF_le {f:FnR} {l:Int} (h:0≤l):-1≤szFnF f l∧szFnF f l≤l∧(0≤szFnF f l→f.blocks.length≤l.toNat∧∀ b∈f.blocks,b.phis.length≤l.toNat∧b.list.length≤l.toNat∧∀ p∈b.phis,p.arms.length≤l.toNat):=by
 unfold szFnF
 split
 ·exact⟨by omega,by omega,fun h=>by omega⟩
 ·obtain⟨b1,b2,b3⟩:=szBlksFrom_le (bs:=f.blocks) (l:=l - f.blocks.length) (by omega)
  refine⟨b1,by omega,fun h=>⟨by omega,fun b hb=>?_⟩⟩
  obtain⟨c1,c2,c3⟩:=b3 h b hb
  exact⟨by omega,by omega,fun x hx=>by have:=c3 x hx;omega⟩

theorem wsub {l:Int} {n:Nat} (h0:0≤l) (h1:l≤1048576) (hn:n≤maxLen):wrap64 (l - n)=l - n:=wrap64_id (by simp only[maxLen]at hn;omega)

theorem upM {i n:Nat} (hi:i<n) (hn:n≤maxLen):wrap64 ((i:Int)+1)=(i:Int)+1:=wrap64_id (by simp only[maxLen]at hn;omega)

theorem szArmS_call {H:Hp} {v:CV} {xs:List ArmR} (hv:Row armP 2 H v xs) (hb:xs.length≤maxLen) {l:Int} (h0:0≤l) (h1:l≤1048576) (k:IV×Hp→Prop):CM 115 [.c v,.c (.i l)] H k=k (.c (.i (szL xs.length l)),H):=by
 refine det (cw115 ?_) k
 unfold vf115c szL
 by_cases h:l - (xs.length:Int)<0
 ·simp[hv.lenOf,wsub h0 h1 hb,h]
 ·simp[hv.lenOf,wsub h0 h1 hb,h]

theorem szInsS_call {H:Hp} {v:CV} {xs:List InsR} (hv:Row insP 5 H v xs) (hb:xs.length≤maxLen) {l:Int} (h0:0≤l) (h1:l≤1048576) (k:IV×Hp→Prop):CM 64 [.c v,.c (.i l)] H k=k (.c (.i (szL xs.length l)),H):=by
 refine det (cw64 ?_) k
 unfold vf64c szL
 by_cases h:l - (xs.length:Int)<0
 ·simp[hv.lenOf,wsub h0 h1 hb,h]
 ·simp[hv.lenOf,wsub h0 h1 hb,h]

theorem szPhi_call {H:Hp} {cs:List CV} {p:PhiR} (hp:phiP maxLen H cs p) {l:Int} (h0:0≤l) (h1:l≤1048576) (k:IV×Hp→Prop):CM 99 [.agg cs,.c (.i l)] H k=k (.c (.i (szL p.arms.length l)),H):=by
 obtain⟨z,rfl,hz,hbz⟩:=hp
 refine det (cw99 ?_) k
 unfold vf99c
 by_cases h:szL p.arms.length l<0
 ·have h3:szL p.arms.length l=-1:=by have:=(szL_le (n:=p.arms.length) h0).1;omega
  simp[szArmS_call (Arms.app hz _) hbz h0 h1,h3]
 ·simp[szArmS_call (Arms.app hz _) hbz h0 h1,h]

theorem szPhiS_call {H:Hp} {v:CV} {xs:List PhiR} (hv:Row (phiP maxLen) 2 H v xs) (hb:xs.length≤maxLen) {l:Int} (h0:0≤l) (h1:l≤1048576) (k:IV×Hp→Prop):CM 63 [.c v,.c (.i l)] H k=k (.c (.i (szPhis xs l)),H):=by
 refine det (cw63 ?_) k
 unfold vf63c szPhis
 by_cases h:l - (xs.length:Int)<0
 ·simp[hv.lenOf,wsub h0 h1 hb,h]
 ·simp[hv.lenOf,wsub h0 h1 hb,h]
  refine wp_for CM_mono xs.length (fun i s=>∃ m:Int,0≤m∧m≤1048576∧szPhisFrom xs (l - xs.length)=szPhisFrom (xs.drop i) m∧s.h=H∧Env.get s.e 0=.c v∧Env.get s.e 1=.c (.i m)∧Env.get s.e 5=.c (.i i)) ⟨l - xs.length,by omega,by omega,by simp⟩ ?_ ?_
  ·rintro i ⟨e,X⟩ hi ⟨m,m0,m1,ht,rfl,g0,g1,g5⟩
   simp only at g0 g1 g5 hv ⊢
   obtain⟨id,g,off,cs,p1,p2,p3,p4⟩:=Row.get hv hi
   rw[List.drop_eq_getElem_cons hi]at ht
   simp only[szPhisFrom]at ht
   unfold vf63b0
   by_cases hn:szL xs[i].arms.length m<0
   ·rw[if_pos hn]at ht
    have h3:szL xs[i].arms.length m=-1:=by have:=(szL_le (n:=xs[i].arms.length) m0).1;omega
    simp[g0,g1,g5,hv.lenOf,p1,p2.all p3,hi,szPhi_call p4 m0 m1,h3,ht]
   ·rw[if_neg hn]at ht
    simp[g0,g1,g5,hv.lenOf,p1,p2.all p3,hi,szPhi_call p4 m0 m1,hn,upM hi hb,ht]
    have:=(szL_le (n:=xs[i].arms.length) m0).2.1
    refine⟨szL xs[i].arms.length m,by omega,by omega,?_⟩
    simp
  ·rintro⟨e,X⟩ ⟨m,m0,m1,ht,rfl,g0,g1,g5⟩
   simp only at g0 g1 g5 hv ⊢
   rw[List.drop_length]at ht
   unfold vf63b0
   simp[g0,g1,g5,hv.lenOf,ht,szPhisFrom]

theorem szBlk_call {H:Hp} {cs:List CV} {b:BlkR} (hp:blkP maxLen H cs b) {l:Int} (h0:0≤l) (h1:l≤1048576) (k:IV×Hp→Prop):CM 34 [.agg cs,.c (.i l)] H k=k (.c (.i (szBlk b l)),H):=by
 obtain⟨z,u,rfl,hz,hu,hb1,hb2⟩:=hp
 refine det (cw34 ?_) k
 unfold vf34c szBlk
 have a0:=szPhis_le (ps:=b.phis) h0
 by_cases h:szPhis b.phis l<0
 ·simp[trmC,szPhiS_call (Row.pre (fun _ _=>phiP.pre ⟨_,rfl⟩) ⟨_,rfl⟩ hz) hb1 h0 h1,h]
 ·have a1:=szL_le (n:=b.list.length) (l:=szPhis b.phis l) (by omega)
  by_cases h2:szL b.list.length (szPhis b.phis l)<0
  ·have h3:szL b.list.length (szPhis b.phis l)=-1:=by omega
   simp[trmC,szPhiS_call (Row.pre (fun _ _=>phiP.pre ⟨_,rfl⟩) ⟨_,rfl⟩ hz) hb1 h0 h1,h,szInsS_call (List5.app hu _) hb2 (l:=szPhis b.phis l) (by omega) (by omega),h3]
  ·simp[trmC,szPhiS_call (Row.pre (fun _ _=>phiP.pre ⟨_,rfl⟩) ⟨_,rfl⟩ hz) hb1 h0 h1,h,szInsS_call (List5.app hu _) hb2 (l:=szPhis b.phis l) (by omega) (by omega),h2]

theorem szBlkS_call {H:Hp} {v:CV} {xs:List BlkR} (hv:Row (blkP maxLen) 6 H v xs) (hb:xs.length≤maxLen) {l:Int} (h0:0≤l) (h1:l≤1048576) (k:IV×Hp→Prop):CM 16 [.c v,.c (.i l)] H k=k (.c (.i (szFnF ⟨xs,0⟩ l)),H):=by
 refine det (cw16 ?_) k
 unfold vf16c szFnF
 by_cases h:l - (xs.length:Int)<0
 ·simp[hv.lenOf,wsub h0 h1 hb,h]
 ·simp[hv.lenOf,wsub h0 h1 hb,h]
  refine wp_for CM_mono xs.length (fun i s=>∃ m:Int,0≤m∧m≤1048576∧szBlksFrom xs (l - xs.length)=szBlksFrom (xs.drop i) m∧s.h=H∧Env.get s.e 0=.c v∧Env.get s.e 1=.c (.i m)∧Env.get s.e 5=.c (.i i)) ⟨l - xs.length,by omega,by omega,by simp⟩ ?_ ?_
  ·rintro i ⟨e,X⟩ hi ⟨m,m0,m1,ht,rfl,g0,g1,g5⟩
   simp only at g0 g1 g5 hv ⊢
   obtain⟨id,g,off,cs,p1,p2,p3,p4⟩:=Row.get hv hi
   rw[List.drop_eq_getElem_cons hi]at ht
   simp only[szBlksFrom]at ht
   unfold vf16b0
   by_cases hn:szBlk xs[i] m<0
   ·rw[if_pos hn]at ht
    have h3:szBlk xs[i] m=-1:=by have:=(szBlk_le (b:=xs[i]) m0).1;omega
    simp[g0,g1,g5,hv.lenOf,p1,p2.all p3,hi,szBlk_call p4 m0 m1,h3,ht]
   ·rw[if_neg hn]at ht
    simp[g0,g1,g5,hv.lenOf,p1,p2.all p3,hi,szBlk_call p4 m0 m1,hn,upM hi hb,ht]
    have:=(szBlk_le (b:=xs[i]) m0).2.1
    refine⟨szBlk xs[i] m,by omega,by omega,?_⟩
    simp
  ·rintro⟨e,X⟩ ⟨m,m0,m1,ht,rfl,g0,g1,g5⟩
   simp only at g0 g1 g5 hv ⊢
   rw[List.drop_length]at ht
   unfold vf16b0
   simp[g0,g1,g5,hv.lenOf,ht,szBlksFrom]

theorem szFn_call {H:Hp} {cs:List CV} {f:FnR} (hp:fnP maxLen H cs f) {l:Int} (h0:0≤l) (h1:l≤1048576) (k:IV×Hp→Prop):CM 5 [.agg cs,.c (.i l)] H k=k (.c (.i (szFnF f l)),H):=by
 obtain⟨z,rfl,hz,hbz⟩:=hp
 refine det (cw5 ?_) k
 unfold vf5c
 have e:szFnF f l=szFnF ⟨f.blocks,0⟩ l:=rfl
 rw[e]
 have hz':∀ L,Row (blkP maxLen) 6 (H++L) z f.blocks:=fun L=>Row.pre (fun _ _=>blkP.pre ⟨_,rfl⟩) ⟨_,rfl⟩ hz
 by_cases h:szFnF ⟨f.blocks,0⟩ l<0
 ·have h3:szFnF ⟨f.blocks,0⟩ l=-1:=by have:=(szFnF_le (f:=⟨f.blocks,0⟩) h0).1;omega
  simp[szBlkS_call (hz' _) hbz h0 h1,h3]
 ·simp[szBlkS_call (hz' _) hbz h0 h1,h]
def Keep (lo:Nat) (X X':Hp):Prop:=∀ id g o,lo≤id→rdOb X id g=some o→rdOb X' id g=some o

theorem Keep.refl (lo:Nat) (X:Hp):Keep lo X X:=fun _ _ _ _ h=>h

theorem Keep.trans {lo:Nat} {X Y Z:Hp} (h:Keep lo X Y) (k:Keep lo Y Z):Keep lo X Z:=fun id g o hl ho=>k id g o hl (h id g o hl ho)

theorem Keep.app (lo:Nat) (X L:Hp):Keep lo X (X++L):=fun _ _ _ _ h=>rdOb_app L h

theorem Keep.mono {lo lo':Nat} {X Y:Hp} (h:Keep lo X Y) (hl:lo≤lo'):Keep lo' X Y:=fun id g o h1 h2=>h id g o (Nat.le_trans hl h1) h2

theorem Keep.mid (H:Hp) (a b:Ob) (L L':Hp):Keep (H.length+1) (H++a :: L) (H++b :: (L++L')):=by
 intro id g o hl ho
 obtain⟨j,rfl⟩:∃ j,id=H.length+(j+1):=⟨id - H.length - 1,by omega⟩
 rw[rdOb_r,rdOb_cs]at ho ⊢
 exact rdOb_app L' ho

theorem Keep.alt (X A B L L2:Hp) (h:A.length=B.length):Keep (X.length+A.length) (X++(A++L)) (X++(B++(L++L2))):=by
 intro id g o hl ho
 obtain⟨j,rfl⟩:∃ j,id=X.length+(A.length+j):=⟨id - X.length - A.length,by omega⟩
 rw[rdOb_r,rdOb_r]at ho
 rw[rdOb_r,h,rdOb_r]
 exact rdOb_app L2 ho

theorem keep3 (X:Hp) (a b c a' b' c':Ob) (L:Hp):Keep (X.length+3) (X++a :: b :: c :: L) (X++a' :: b' :: c' :: L):=by
 have:=Keep.alt X [a,b,c] [a',b',c'] L [] rfl
 simpa using this

theorem keep3' (X:Hp) (a b c a' b' c':Ob) (L L2:Hp):Keep (X.length+3) (X++a :: b :: c :: L) (X++a' :: b' :: c' :: (L++L2)):=by
 have:=Keep.alt X [a,b,c] [a',b',c'] L L2 rfl
 simpa using this

def ORow {α:Type} (P:Nat→Hp→List CV→α→Prop) (sz:Nat) (lo:Nat) (X:Hp) (w:CV) (xs:List α):Prop:=
 ∃ (id:Nat) (css:List (List CV)),w=.sl id 0 0 xs.length∧lo≤id∧rdOb X id 0=some ⟨css.flatten,0,true,sz⟩∧css.length=xs.length∧∀ (k:Nat) cs x,css[k]? = some cs→xs[k]? = some x→cs.length=sz∧P lo X cs x

theorem ORow.row {α:Type} {P:Nat→Hp→List CV→α→Prop} {P':Hp→List CV→α→Prop} {sz lo:Nat} {X:Hp} {w:CV} {xs:List α} (h:ORow P sz lo X w xs) (hP:∀ cs x,x∈xs→P lo X cs x→P' X cs x):Row P' sz X w xs:=by
 obtain⟨id,css,rfl,h2,h3,h4,h5⟩:=h
 exact Row.mk h3 rfl rfl h4 fun k cs x a b=>⟨(h5 k cs x a b).1,hP _ _ (List.mem_of_getElem? b) (h5 k cs x a b).2⟩

theorem ORow.keep {α:Type} {P:Nat→Hp→List CV→α→Prop} {sz lo:Nat} {X X':Hp} (hk:Keep lo X X') (hP:∀ cs x,P lo X cs x→P lo X' cs x) {w:CV} {xs:List α} (h:ORow P sz lo X w xs):ORow P sz lo X' w xs:=by
 obtain⟨id,css,h1,h2,h3,h4,h5⟩:=h
 exact⟨id,css,h1,h2,hk _ _ _ h2 h3,h4,fun k cs x a b=>⟨(h5 k cs x a b).1,hP _ _ (h5 k cs x a b).2⟩⟩

theorem ORow.lo {α:Type} {P:Nat→Hp→List CV→α→Prop} {sz lo lo':Nat} {X:Hp} (hl:lo'≤lo) (hP:∀ cs x,P lo X cs x→P lo' X cs x) {w:CV} {xs:List α} (h:ORow P sz lo X w xs):ORow P sz lo' X w xs:=by
 obtain⟨id,css,h1,h2,h3,h4,h5⟩:=h
 exact⟨id,css,h1,Nat.le_trans hl h2,h3,h4,fun k cs x a b=>⟨(h5 k cs x a b).1,hP _ _ (h5 k cs x a b).2⟩⟩

theorem ORow.sl {α:Type} {P:Nat→Hp→List CV→α→Prop} {sz lo:Nat} {X:Hp} {w:CV} {xs:List α} (h:ORow P sz lo X w xs):∃ id,w=.sl id 0 0 xs.length:=by
 obtain⟨id,css,rfl,_⟩:=h;exact⟨_,rfl⟩

theorem ORow.lenOf {α:Type} {P:Nat→Hp→List CV→α→Prop} {sz lo:Nat} {X:Hp} {w:CV} {xs:List α} (h:ORow P sz lo X w xs):lenOf w=some xs.length:=by
 obtain⟨id,css,rfl,_⟩:=h;rfl

def armO (_:Nat) (_:Hp) (cs:List CV) (a:ArmR):Prop:=cs=armC a

def insO (_:Nat) (_:Hp) (cs:List CV) (x:InsR):Prop:=cs=insC x

def phiO (lo:Nat) (X:Hp) (cs:List CV) (p:PhiR):Prop:=∃ z,cs=[.i p.d,z]∧ORow armO 2 lo X z p.arms

def blkO (lo:Nat) (X:Hp) (cs:List CV) (b:BlkR):Prop:=∃ z u,cs=z :: u :: trmC b.term∧ORow phiO 2 lo X z b.phis∧ORow insO 5 lo X u b.list

def fnO (lo:Nat) (X:Hp) (cs:List CV) (f:FnR):Prop:=∃ z,cs=[z,.i f.values]∧ORow blkO 6 lo X z f.blocks

theorem armO.keep {lo lo':Nat} {X X':Hp} {cs:List CV} {a:ArmR} (h:armO lo X cs a):armO lo' X' cs a:=h

theorem insO.keep {lo lo':Nat} {X X':Hp} {cs:List CV} {a:InsR} (h:insO lo X cs a):insO lo' X' cs a:=h

theorem phiO.keep {lo:Nat} {X X':Hp} (hk:Keep lo X X') {cs:List CV} {p:PhiR} (h:phiO lo X cs p):phiO lo X' cs p:=by
 obtain⟨z,h1,h2⟩:=h;exact⟨z,h1,h2.keep hk fun _ _ h=>h⟩

theorem blkO.keep {lo:Nat} {X X':Hp} (hk:Keep lo X X') {cs:List CV} {p:BlkR} (h:blkO lo X cs p):blkO lo X' cs p:=by
 obtain⟨z,u,h1,h2,h3⟩:=h;exact⟨z,u,h1,h2.keep hk fun _ _=>phiO.keep hk,h3.keep hk fun _ _ h=>h⟩

theorem fnO.keep {lo:Nat} {X X':Hp} (hk:Keep lo X X') {cs:List CV} {p:FnR} (h:fnO lo X cs p):fnO lo X' cs p:=by
 obtain⟨z,h1,h2⟩:=h;exact⟨z,h1,h2.keep hk fun _ _=>blkO.keep hk⟩

theorem phiO.lo {lo lo':Nat} {X:Hp} (hl:lo'≤lo) {cs:List CV} {p:PhiR} (h:phiO lo X cs p):phiO lo' X cs p:=by
 obtain⟨z,h1,h2⟩:=h;exact⟨z,h1,h2.lo hl fun _ _ h=>h⟩

theorem blkO.lo {lo lo':Nat} {X:Hp} (hl:lo'≤lo) {cs:List CV} {p:BlkR} (h:blkO lo X cs p):blkO lo' X cs p:=by
 obtain⟨z,u,h1,h2,h3⟩:=h;exact⟨z,u,h1,h2.lo hl fun _ _=>phiO.lo hl,h3.lo hl fun _ _ h=>h⟩

theorem fnO.lo {lo lo':Nat} {X:Hp} (hl:lo'≤lo) {cs:List CV} {p:FnR} (h:fnO lo X cs p):fnO lo' X cs p:=by
 obtain⟨z,h1,h2⟩:=h;exact⟨z,h1,h2.lo hl fun _ _=>blkO.lo hl⟩

def Small (f:FnR):Prop:=f.blocks.length≤BIG∧∀ b∈f.blocks,b.phis.length≤BIG∧b.list.length≤BIG∧∀ p∈b.phis,p.arms.length≤BIG

theorem phiO.p {lo:Nat} {X:Hp} {cs:List CV} {p:PhiR} (hs:p.arms.length≤BIG) (h:phiO lo X cs p):phiP BIG X cs p:=by
 obtain⟨z,h1,h2⟩:=h;exact⟨z,h1,h2.row fun _ _ _ h=>h,hs⟩

theorem blkO.p {lo:Nat} {X:Hp} {cs:List CV} {b:BlkR} (hs:b.phis.length≤BIG∧b.list.length≤BIG∧∀ p∈b.phis,p.arms.length≤BIG) (h:blkO lo X cs b):blkP BIG X cs b:=by
 obtain⟨z,u,h1,h2,h3⟩:=h;exact⟨z,u,h1,h2.row fun _ _ hx=>phiO.p (hs.2.2 _ hx),h3.row fun _ _ _ h=>h,hs.1,hs.2.1⟩

theorem fnO.p {lo:Nat} {X:Hp} {cs:List CV} {f:FnR} (hs:Small f) (h:fnO lo X cs f):fnP BIG X cs f:=by
 obtain⟨z,h1,h2⟩:=h;exact⟨z,h1,h2.row fun _ _ hx=>blkO.p (hs.2 _ hx),hs.1⟩

theorem gc_own {H L:Hp} {n:Nat} {ob:Ob} (hrw:ob.rw=true) (hg:ob.g=0) :
  ∃ L',gcRet H (.c (.sl H.length 0 0 n)) (H++ob :: L)=(.c (.sl H.length 0 0 n),H++ob :: L')∧(L'=L∨(L'=[]∧ob.cells.all flatC=true)):=by
 unfold gcRet
 rw[if_pos (by simp),if_neg (by simp[flatV,flatC])]
 simp only[Nat.le_refl,if_true,List.getElem?_append_right (Nat.le_refl _),Nat.sub_self,List.getElem?_cons_zero,hg,hrw,true_and]
 by_cases hf:ob.cells.all flatC=true
 ·rw[if_pos hf]
  refine⟨[],?_,.inr ⟨rfl,hf⟩⟩
  obtain⟨cs,g,rw_,sz⟩:=ob
  simp only at hg hrw
  subst hg;subst hrw
  rfl
 ·rw[if_neg hf]
  exact⟨L,rfl,.inl rfl⟩

theorem gc_agg {H H':Hp} {cs:List CV} (h:cs.all flatC=false):gcRet H (.agg cs) H'=(.agg cs,H'):=by
 unfold gcRet
 split
 ·rw[if_neg (by simp only[flatV,h];simp)]
 ·rfl

theorem gc_aggF {H L:Hp} {cs:List CV} (h:cs.all flatC=true):gcRet H (.agg cs) (H++L)=(.agg cs,H):=gc_flat H L h

theorem put_mid {A zs R cs:List CV} {n:Nat} (hn:A.length=n) (h:cs.length=zs.length):putAt (A++(zs++R)) n cs=A++(cs++R):=by
 subst hn
 unfold putAt
 rw[List.take_append_of_le_length (Nat.le_refl _),List.take_length,List.drop_append,List.drop_eq_nil_of_le (by omega),List.nil_append,Nat.add_sub_cancel_left,h,List.drop_append,List.drop_eq_nil_of_le (by omega)]
 simp

theorem flat_len {css:List (List CV)} {sz:Nat} (h:∀ cs∈css,cs.length=sz):css.flatten.length=css.length * sz:=by
 induction css with
 | nil=>simp
 | cons c r ih=>rw[List.flatten_cons,List.length_append,ih (fun cs hc=>h cs (by simp[hc])),h c (by simp),List.length_cons,Nat.succ_mul];omega

theorem toArm_call (H:Hp) (a:ArmR) (k:IV×Hp→Prop):CM 120 [.agg (armC a)] H k=k (.agg (armC a),H):=by
 refine det (cw120 ?_) k
 unfold vf120c
 simp[armC,putAt]
 exact gc_aggF (by simp[flatC])

theorem toIns_call (H:Hp) (a:InsR) (k:IV×Hp→Prop):CM 103 [.agg (insC a)] H k=k (.agg (insC a),H):=by
 refine det (cw103 ?_) k
 unfold vf103c
 simp[insC,putAt]
 exact gc_aggF (by simp[flatC])

theorem toTerm_call (H:Hp) (t:TrmR) (k:IV×Hp→Prop):CM 71 [.agg [.i t.kind,.i t.a,.i t.to,.i t.els]] H k=k (.agg [.i t.kind,.i t.a,.i t.to,.i t.els],H):=by
 refine det (cw71 ?_) k
 unfold vf71c
 simp[putAt]
 exact gc_aggF (by simp[flatC])

theorem toArm_own (X:Hp) {cs:List CV} {a:ArmR} (h:armP X cs a):CM 120 [.agg cs] X fun r=>∃ cs' L,r=(.agg cs',X++L)∧cs'.length=2∧armO X.length (X++L) cs' a:=by
 cases h
 rw[toArm_call]
 exact⟨armC a,[],by simp,rfl,rfl⟩

theorem toIns_own (X:Hp) {cs:List CV} {a:InsR} (h:insP X cs a):CM 103 [.agg cs] X fun r=>∃ cs' L,r=(.agg cs',X++L)∧cs'.length=5∧insO X.length (X++L) cs' a:=by
 cases h
 rw[toIns_call]
 exact⟨insC a,[],by simp,rfl,rfl⟩

def ToInv {α:Type} (O:Nat→Hp→List CV→α→Prop) (sz:Nat) (zs:List CV) (H:Hp) (v:CV) (xs:List α) (i:Nat) (s:St):Prop:=
 ∃ (css:List (List CV)) (L:Hp),s.h=H++⟨css.flatten++(List.replicate (xs.length - i) zs).flatten,0,true,sz⟩ :: L∧css.length=i ∧
  (∀ (k:Nat) cs x,css[k]? = some cs→xs[k]? = some x→cs.length=sz∧O (H.length+1) s.h cs x)∧Env.get s.e 0=.c v∧Env.get s.e 3=.c (.sl H.length 0 0 xs.length)∧Env.get s.e 4=.c (.i i)

section

variable {α:Type} {O:Nat→Hp→List CV→α→Prop} {sz:Nat} {zs:List CV} {H:Hp} {v:CV} {xs:List α} {i:Nat}

theorem ToInv.start {e:Env} (h0:Env.get e 0=.c v) (h3:Env.get e 3=.c (.sl H.length 0 0 xs.length)) (h4:Env.get e 4=.c (.i 0)):ToInv O sz zs H v xs 0 ⟨e,H++[⟨(List.replicate xs.length zs).flatten,0,true,sz⟩]⟩:=
 ⟨[],[],by simp,rfl,fun k cs x h=>by simp at h,h0,h3,h4⟩

theorem ToInv.next (hk:∀ X X',Keep (H.length+1) X X'→∀ cs x,O (H.length+1) X cs x→O (H.length+1) X' cs x) (hlo:∀ lo,H.length+1≤lo→∀ X cs x,O lo X cs x→O (H.length+1) X cs x) (hzs:zs.length=sz)
  (hi:i<xs.length) {css:List (List CV)} {L L':Hp} {cs':List CV} (hc:css.length=i) (hP:∀ (k:Nat) cs x,css[k]? = some cs→xs[k]? = some x→cs.length=sz∧O (H.length+1) (H++⟨css.flatten++(List.replicate (xs.length - i) zs).flatten,0,true,sz⟩ :: L) cs x)
  (hl:cs'.length=sz) (ho:O (H++⟨css.flatten++(List.replicate (xs.length - i) zs).flatten,0,true,sz⟩ :: L).length (H++⟨css.flatten++(List.replicate (xs.length - i) zs).flatten,0,true,sz⟩ :: L++L') cs' xs[i]) {e:Env} {X':Hp}
  (hX:X'=H++⟨putAt (css.flatten++(List.replicate (xs.length - i) zs).flatten) (i * sz) cs',0,true,sz⟩ :: (L++L')) (h0:Env.get e 0=.c v) (h3:Env.get e 3=.c (.sl H.length 0 0 xs.length)) (h4:Env.get e 4=.c (.i (i+1))):ToInv O sz zs H v xs (i+1) ⟨e,X'⟩:=by
 have hl2:∀ cs∈css,cs.length=sz:=by
  intro cs hcs
  obtain⟨j,hj,rfl⟩:=List.getElem_of_mem hcs
  exact (hP j _ xs[j] (List.getElem?_eq_getElem hj) (List.getElem?_eq_getElem (by omega))).1
 have hfl:css.flatten.length=i * sz:=by rw[flat_len hl2,hc]
 have hrep:(List.replicate (xs.length - i) zs).flatten=zs++(List.replicate (xs.length - (i+1)) zs).flatten:=by
  rw[show xs.length - i=(xs.length - (i+1))+1 by omega,List.replicate_succ,List.flatten_cons]
 have hput:=put_mid (A:=css.flatten) (zs:=zs) (R:=(List.replicate (xs.length - (i+1)) zs).flatten) hfl (hl.trans hzs.symm)
 rw[← hrep]at hput
 rw[hput]at hX
 subst hX
 refine⟨css++[cs'],L++L',by simp,by simp[hc],fun k cs x a b=>?_,h0,h3,by simpa using h4⟩
 by_cases hkl:k<css.length
 ·rw[List.getElem?_append_left hkl]at a
  obtain⟨g1,g2⟩:=hP k cs x a b
  exact⟨g1,hk _ _ (Keep.mid _ _ _ _ _) _ _ g2⟩
 ·have hk2:k=css.length:=by
   have:=(List.getElem?_eq_some_iff.1 a).1
   simp at this;omega
  subst hk2
  rw[List.getElem?_append_right (Nat.le_refl _),Nat.sub_self]at a
  simp at a
  subst a
  have hx:x=xs[i]:=by simp only[hc]at b;rw[List.getElem?_eq_getElem hi]at b;injection b with b;exact b.symm
  subst hx
  refine⟨hl,hk _ _ ?_ _ _ (hlo _ (by simp) _ _ _ ho)⟩
  intro id g o hid hob
  obtain⟨j,rfl⟩:∃ j,id=H.length+(j+1):=⟨id - H.length - 1,by omega⟩
  rw[List.append_assoc,rdOb_r,List.cons_append,rdOb_cs]at hob
  rw[rdOb_r,rdOb_cs]
  exact hob

theorem ToInv.fits (hzs:zs.length=sz) (hi:i<xs.length) {css:List (List CV)} (hc:css.length=i) (hl2:∀ (k:Nat) cs x,css[k]? = some cs→xs[k]? = some x→cs.length=sz):i * sz+sz≤(css.flatten++(List.replicate (xs.length - i) zs).flatten).length:=by
 have hl3:∀ cs∈css,cs.length=sz:=by
  intro cs hcs
  obtain⟨j,hj,rfl⟩:=List.getElem_of_mem hcs
  exact hl2 j _ xs[j] (List.getElem?_eq_getElem hj) (List.getElem?_eq_getElem (by omega))
 rw[List.length_append,flat_len hl3,hc,flat_len (sz:=sz) (fun cs h=>by rw[List.eq_of_mem_replicate h,hzs]),List.length_replicate]
 have:1 * sz≤(xs.length - i) * sz:=Nat.mul_le_mul_right _ (by omega)
 omega

theorem ToInv.done (hlo:∀ X cs x,O (H.length+1) X cs x→O H.length X cs x) (hfl:∀ X X' cs x,cs.all flatC=true→O H.length X cs x→O H.length X' cs x) {css:List (List CV)} {L:Hp} (hc:css.length=xs.length)
  (hP:∀ (k:Nat) cs x,css[k]? = some cs→xs[k]? = some x→cs.length=sz∧O (H.length+1) (H++⟨css.flatten++(List.replicate (xs.length - xs.length) zs).flatten,0,true,sz⟩ :: L) cs x) :
  ∃ w L',gcRet H (.c (.sl H.length 0 0 xs.length)) (H++⟨css.flatten++(List.replicate (xs.length - xs.length) zs).flatten,0,true,sz⟩ :: L)=(.c w,H++L')∧ORow O sz H.length (H++L') w xs:=by
 simp only[Nat.sub_self,List.replicate_zero,List.flatten_nil,List.append_nil]at hP ⊢
 obtain⟨L',hg,hL⟩:=gc_own (H:=H) (L:=L) (n:=xs.length) (ob:=⟨css.flatten,0,true,sz⟩) rfl rfl
 refine⟨_,_,hg,H.length,css,rfl,Nat.le_refl _,by simp,hc,fun k cs x a b=>?_⟩
 obtain⟨g1,g2⟩:=hP k cs x a b
 refine⟨g1,?_⟩
 rcases hL with rfl | ⟨rfl,hf⟩
 ·exact hlo _ _ _ g2
 ·refine hfl _ _ _ _ ?_ (hlo _ _ _ g2)
  rw[List.all_eq_true]at hf ⊢
  intro c hcc
  exact hf c (List.mem_flatten.2 ⟨cs,List.mem_of_getElem? a,hcc⟩)

end

theorem toArmS_call {H:Hp} {v:CV} {xs:List ArmR} (hv:Row armP 2 H v xs) (hb:xs.length≤BIG):CM 116 [.c v] H fun r=>∃ w L,r=(.c w,H++L)∧ORow armO 2 H.length (H++L) w xs:=by
 refine cw116 ?_
 unfold vf116c
 have hlim:xs.length * 2≤LIM:=by simp only[BIG]at hb;simp only[LIM];omega
 simp[hv.lenOf,hlim]
 refine wp_for CM_mono xs.length (ToInv armO 2 [.i 0,.i 0] H v xs) (ToInv.start (by simp) (by simp) (by simp)) ?_ ?_
 ·rintro i ⟨e,X⟩ hi ⟨css,L,hX,hc,hP,h0,h3,h4⟩
  simp only at h0 h3 h4 hX hP ⊢
  subst hX
  obtain⟨id,g,off,cs,q1,hA,hl,hp⟩:=Row.get hv hi
  have hq:=(hA.app (⟨css.flatten++(List.replicate (xs.length - i) [.i 0,.i 0]).flatten,0,true,2⟩ :: L)).all hl
  have hfit:=ToInv.fits (zs:=[.i 0,.i 0]) (sz:=2) rfl hi hc (fun k cs x a b=>(hP k cs x a b).1)
  generalize hcells:css.flatten++(List.replicate (xs.length - i) [.i 0,.i 0]).flatten=cells at hq hfit
  unfold vf116b0
  simp[h0,h3,h4,hv.lenOf,hi,q1,hq,hcells]
  refine (toArm_own _ (armP.pre hp)).mono ?_
  rintro _ ⟨cs',L',rfl,hl',ho⟩
  simp[h0,h3,h4,hl',up1 hi hb,hi,hfit]
  subst hcells
  exact ToInv.next (O:=armO) (zs:=[.i 0,.i 0]) (sz:=2) (fun _ _ hk _ _=>fun h=>h) (fun _ hlo _ _ _=>fun h=>h) rfl hi hc hP hl' ho rfl (by simp) (by simp) (by simp)
 ·rintro⟨e,X⟩ ⟨css,L,hX,hc,hP,h0,h3,h4⟩
  simp only at h0 h3 h4 hX hP ⊢
  subst hX
  obtain⟨w,L',hg,ho⟩:=ToInv.done (O:=armO) (zs:=[.i 0,.i 0]) (sz:=2) (fun _ _ _=>fun h=>h) (fun _ _ _ _=>fun _ h=>h) hc hP
  generalize hcells:css.flatten++(List.replicate (xs.length - xs.length) [.i 0,.i 0]).flatten=cells at hg
  unfold vf116b0
  simp[h0,h3,h4,hv.lenOf,hcells,hg]
  exact⟨_,_,⟨rfl,rfl⟩,ho⟩

theorem toInsS_call {H:Hp} {v:CV} {xs:List InsR} (hv:Row insP 5 H v xs) (hb:xs.length≤BIG):CM 70 [.c v] H fun r=>∃ w L,r=(.c w,H++L)∧ORow insO 5 H.length (H++L) w xs:=by
 refine cw70 ?_
 unfold vf70c
 have hlim:xs.length * 5≤LIM:=by simp only[BIG]at hb;simp only[LIM];omega
 simp[hv.lenOf,hlim]
 refine wp_for CM_mono xs.length (ToInv insO 5 [.i 0,.i 0,.i 0,.i 0,.i 0] H v xs) (ToInv.start (by simp) (by simp) (by simp)) ?_ ?_
 ·rintro i ⟨e,X⟩ hi ⟨css,L,hX,hc,hP,h0,h3,h4⟩
  simp only at h0 h3 h4 hX hP ⊢
  subst hX
  obtain⟨id,g,off,cs,q1,hA,hl,hp⟩:=Row.get hv hi
  have hq:=(hA.app (⟨css.flatten++(List.replicate (xs.length - i) [.i 0,.i 0,.i 0,.i 0,.i 0]).flatten,0,true,5⟩ :: L)).all hl
  have hfit:=ToInv.fits (zs:=[.i 0,.i 0,.i 0,.i 0,.i 0]) (sz:=5) rfl hi hc (fun k cs x a b=>(hP k cs x a b).1)
  generalize hcells:css.flatten++(List.replicate (xs.length - i) [.i 0,.i 0,.i 0,.i 0,.i 0]).flatten=cells at hq hfit
  unfold vf70b0
  simp[h0,h3,h4,hv.lenOf,hi,q1,hq,hcells]
  refine (toIns_own _ (insP.pre hp)).mono ?_
  rintro _ ⟨cs',L',rfl,hl',ho⟩
  simp[h0,h3,h4,hl',up1 hi hb,hi,hfit]
  subst hcells
  exact ToInv.next (O:=insO) (zs:=[.i 0,.i 0,.i 0,.i 0,.i 0]) (sz:=5) (fun _ _ hk _ _=>fun h=>h) (fun _ hlo _ _ _=>fun h=>h) rfl hi hc hP hl' ho rfl (by simp) (by simp) (by simp)
 ·rintro⟨e,X⟩ ⟨css,L,hX,hc,hP,h0,h3,h4⟩
  simp only at h0 h3 h4 hX hP ⊢
  subst hX
  obtain⟨w,L',hg,ho⟩:=ToInv.done (O:=insO) (zs:=[.i 0,.i 0,.i 0,.i 0,.i 0]) (sz:=5) (fun _ _ _=>fun h=>h) (fun _ _ _ _=>fun _ h=>h) hc hP
  generalize hcells:css.flatten++(List.replicate (xs.length - xs.length) [.i 0,.i 0,.i 0,.i 0,.i 0]).flatten=cells at hg
  unfold vf70b0
  simp[h0,h3,h4,hv.lenOf,hcells,hg]
  exact⟨_,_,⟨rfl,rfl⟩,ho⟩

theorem toPhi_own (X:Hp) {cs:List CV} {p:PhiR} (h:phiP BIG X cs p):CM 102 [.agg cs] X fun r=>∃ cs' L,r=(.agg cs',X++L)∧cs'.length=2∧phiO X.length (X++L) cs' p:=by
 obtain⟨z,rfl,hz,hbz⟩:=h
 refine cw102 ?_
 unfold vf102c
 simp[putAt]
 refine (toArmS_call (Arms.app hz _) hbz).mono ?_
 rintro _ ⟨w,L,rfl,ho⟩
 obtain⟨idw,rfl⟩:=ho.sl
 simp[putAt]
 rw[gc_agg (by simp[flatC])]
 refine⟨_,_,rfl,rfl,_,rfl,?_⟩
 simp only[List.append_assoc,List.cons_append,List.nil_append,List.length_append,List.length_cons,List.length_nil,Nat.zero_add,Nat.reduceAdd]at ho
 exact (ho.keep (keep3 _ _ _ _ _ _ _ _) (fun _ _=>armO.keep)).lo (by simp) (fun _ _=>armO.keep)

theorem toPhiS_call {H:Hp} {v:CV} {xs:List PhiR} (hv:Row (phiP BIG) 2 H v xs) (hb:xs.length≤BIG):CM 69 [.c v] H fun r=>∃ w L,r=(.c w,H++L)∧ORow phiO 2 H.length (H++L) w xs:=by
 refine cw69 ?_
 unfold vf69c
 have hlim:xs.length * 2≤LIM:=by simp only[BIG]at hb;simp only[LIM];omega
 simp[hv.lenOf,hlim]
 refine wp_for CM_mono xs.length (ToInv phiO 2 [.i 0,.ns] H v xs) (ToInv.start (by simp) (by simp) (by simp)) ?_ ?_
 ·rintro i ⟨e,X⟩ hi ⟨css,L,hX,hc,hP,h0,h3,h4⟩
  simp only at h0 h3 h4 hX hP ⊢
  subst hX
  obtain⟨id,g,off,cs,q1,hA,hl,hp⟩:=Row.get hv hi
  have hq:=(hA.app (⟨css.flatten++(List.replicate (xs.length - i) [.i 0,.ns]).flatten,0,true,2⟩ :: L)).all hl
  have hfit:=ToInv.fits (zs:=[.i 0,.ns]) (sz:=2) rfl hi hc (fun k cs x a b=>(hP k cs x a b).1)
  generalize hcells:css.flatten++(List.replicate (xs.length - i) [.i 0,.ns]).flatten=cells at hq hfit
  unfold vf69b0
  simp[h0,h3,h4,hv.lenOf,hi,q1,hq,hcells]
  refine (toPhi_own _ (phiP.pre ⟨_,rfl⟩ hp)).mono ?_
  rintro _ ⟨cs',L',rfl,hl',ho⟩
  simp[h0,h3,h4,hl',up1 hi hb,hi,hfit]
  subst hcells
  exact ToInv.next (O:=phiO) (zs:=[.i 0,.ns]) (sz:=2) (fun _ _ hk _ _=>phiO.keep hk) (fun _ hlo _ _ _=>phiO.lo hlo) rfl hi hc hP hl' ho rfl (by simp) (by simp) (by simp)
 ·rintro⟨e,X⟩ ⟨css,L,hX,hc,hP,h0,h3,h4⟩
  simp only at h0 h3 h4 hX hP ⊢
  subst hX
  obtain⟨w,L',hg,ho⟩:=ToInv.done (O:=phiO) (zs:=[.i 0,.ns]) (sz:=2) (fun _ _ _=>phiO.lo (Nat.le_succ _)) (fun _ _ _ _=>fun hf h=>by obtain⟨z,rfl,id,css,rfl,_⟩:=h;simp[flatC]at hf) hc hP
  generalize hcells:css.flatten++(List.replicate (xs.length - xs.length) [.i 0,.ns]).flatten=cells at hg
  unfold vf69b0
  simp[h0,h3,h4,hv.lenOf,hcells,hg]
  exact⟨_,_,⟨rfl,rfl⟩,ho⟩

theorem toBlk_own (X:Hp) {cs:List CV} {b:BlkR} (h:blkP BIG X cs b):CM 37 [.agg cs] X fun r=>∃ cs' L,r=(.agg cs',X++L)∧cs'.length=6∧blkO X.length (X++L) cs' b:=by
 obtain⟨z,u,rfl,hz,hu,hb1,hb2⟩:=h
 refine cw37 ?_
 unfold vf37c
 simp[trmC,putAt]
 refine (toPhiS_call (Phis.app hz _) hb1).mono ?_
 rintro _ ⟨w,L,rfl,ho⟩
 obtain⟨idw,rfl⟩:=ho.sl
 simp[putAt]
 refine (toInsS_call (List5.app hu _) hb2).mono ?_
 rintro _ ⟨w2,L2,rfl,ho2⟩
 obtain⟨idw2,rfl⟩:=ho2.sl
 simp[putAt,toTerm_call]
 rw[gc_agg (by simp[flatC])]
 refine⟨_,_,rfl,rfl,_,_,rfl,?_,?_⟩
 ·simp only[List.append_assoc,List.cons_append,List.nil_append,List.length_append,List.length_cons,List.length_nil,Nat.zero_add,Nat.reduceAdd]at ho
  exact (ho.keep (keep3' _ _ _ _ _ _ _ _ _) (fun _ _=>phiO.keep (keep3' _ _ _ _ _ _ _ _ _))).lo (by simp) (fun _ _=>phiO.lo (by simp))
 ·simp only[List.append_assoc,List.cons_append,List.nil_append,List.length_append,List.length_cons,List.length_nil,Nat.zero_add,Nat.reduceAdd]at ho2
  exact (ho2.keep (Keep.mono (keep3 _ _ _ _ _ _ _ _) (by omega)) (fun _ _=>insO.keep)).lo (by omega) (fun _ _=>insO.keep)

theorem toBlkS_call {H:Hp} {v:CV} {xs:List BlkR} (hv:Row (blkP BIG) 6 H v xs) (hb:xs.length≤BIG):CM 22 [.c v] H fun r=>∃ w L,r=(.c w,H++L)∧ORow blkO 6 H.length (H++L) w xs:=by
 refine cw22 ?_
 unfold vf22c
 have hlim:xs.length * 6≤LIM:=by simp only[BIG]at hb;simp only[LIM];omega
 simp[hv.lenOf,hlim]
 refine wp_for CM_mono xs.length (ToInv blkO 6 [.ns,.ns,.i 0,.i 0,.i 0,.i 0] H v xs) (ToInv.start (by simp) (by simp) (by simp)) ?_ ?_
 ·rintro i ⟨e,X⟩ hi ⟨css,L,hX,hc,hP,h0,h3,h4⟩
  simp only at h0 h3 h4 hX hP ⊢
  subst hX
  obtain⟨id,g,off,cs,q1,hA,hl,hp⟩:=Row.get hv hi
  have hq:=(hA.app (⟨css.flatten++(List.replicate (xs.length - i) [.ns,.ns,.i 0,.i 0,.i 0,.i 0]).flatten,0,true,6⟩ :: L)).all hl
  have hfit:=ToInv.fits (zs:=[.ns,.ns,.i 0,.i 0,.i 0,.i 0]) (sz:=6) rfl hi hc (fun k cs x a b=>(hP k cs x a b).1)
  generalize hcells:css.flatten++(List.replicate (xs.length - i) [.ns,.ns,.i 0,.i 0,.i 0,.i 0]).flatten=cells at hq hfit
  unfold vf22b0
  simp[h0,h3,h4,hv.lenOf,hi,q1,hq,hcells]
  refine (toBlk_own _ (blkP.pre ⟨_,rfl⟩ hp)).mono ?_
  rintro _ ⟨cs',L',rfl,hl',ho⟩
  simp[h0,h3,h4,hl',up1 hi hb,hi,hfit]
  subst hcells
  exact ToInv.next (O:=blkO) (zs:=[.ns,.ns,.i 0,.i 0,.i 0,.i 0]) (sz:=6) (fun _ _ hk _ _=>blkO.keep hk) (fun _ hlo _ _ _=>blkO.lo hlo) rfl hi hc hP hl' ho rfl (by simp) (by simp) (by simp)
 ·rintro⟨e,X⟩ ⟨css,L,hX,hc,hP,h0,h3,h4⟩
  simp only at h0 h3 h4 hX hP ⊢
  subst hX
  obtain⟨w,L',hg,ho⟩:=ToInv.done (O:=blkO) (zs:=[.ns,.ns,.i 0,.i 0,.i 0,.i 0]) (sz:=6) (fun _ _ _=>blkO.lo (Nat.le_succ _)) (fun _ _ _ _=>fun hf h=>by obtain⟨z,u,rfl,⟨id,css,rfl,_⟩,_⟩:=h;simp[flatC]at hf) hc hP
  generalize hcells:css.flatten++(List.replicate (xs.length - xs.length) [.ns,.ns,.i 0,.i 0,.i 0,.i 0]).flatten=cells at hg
  unfold vf22b0
  simp[h0,h3,h4,hv.lenOf,hcells,hg]
  exact⟨_,_,⟨rfl,rfl⟩,ho⟩

theorem toFn_call (X:Hp) {cs:List CV} {f:FnR} (h:fnP BIG X cs f):CM 7 [.agg cs] X fun r=>∃ cs' L,r=(.agg cs',X++L)∧fnO X.length (X++L) cs' f:=by
 obtain⟨z,rfl,hz,hb1⟩:=h
 refine cw7 ?_
 unfold vf7c
 simp[putAt]
 refine (toBlkS_call (Blocks.app hz _) hb1).mono ?_
 rintro _ ⟨w,L,rfl,ho⟩
 obtain⟨idw,rfl⟩:=ho.sl
 simp[putAt]
 rw[gc_agg (by simp[flatC])]
 refine⟨_,_,rfl,_,rfl,?_⟩
 simp only[List.append_assoc,List.cons_append,List.nil_append,List.length_append,List.length_cons,List.length_nil,Nat.zero_add,Nat.reduceAdd]at ho
 exact (ho.keep (keep3 _ _ _ _ _ _ _ _) (fun _ _=>blkO.keep (keep3 _ _ _ _ _ _ _ _))).lo (by simp) (fun _ _=>blkO.lo (by simp))
def intP (_:Hp) (cs:List CV) (x:Int):Prop:=cs=[.i x]

theorem IsI.row {H:Hp} {v:CV} {xs:List Int} (h:IsI H v xs):Row intP 1 H v xs:=by
 refine⟨xs.map fun x=>[.i x],?_,by simp,fun k cs x a b=>?_⟩
 ·have e:∀ xs:List Int,(xs.map fun x=>[CV.i x]).flatten=xs.map .i:=by
   intro xs
   induction xs with
   | nil=>rfl
   | cons a r ih=>simp[ih]
  rw[e];exact h
 ·rw[List.getElem?_map,b]at a
  simp at a;subst a
  exact⟨rfl,rfl⟩


def RowRes (H:Hp) (w:CV) (L:Hp) (xs:List Int):Prop:=(w=.ns∧L=[]∧xs=[])∨(w=.sl H.length 0 0 xs.length∧L=[⟨xs.map .i,0,true,1⟩])

theorem RowRes.isI {H:Hp} {w:CV} {L:Hp} {xs:List Int} (h:RowRes H w L xs):IsI (H++L) w xs:=by
 rcases h with⟨rfl,rfl,rfl⟩ | ⟨rfl,rfl⟩
 ·exact IsI.ns _
 ·exact IsI.mk (o:=⟨xs.map .i,0,true,1⟩) (by simp) rfl (by simp) (by rw[List.drop_zero,List.take_of_length_le (by simp)])

theorem app_own {X:Hp} {o g n sz m:Nat} {cs xs:List CV} (h:rdOb X o g=some ⟨cs,g,true,sz⟩) (hn:n * sz=cs.length) (hx:0<xs.length) (hl:cs.length+xs.length≤LIM) :
  doApp X sz (.sl o g 0 n) m xs=some (.c (.sl o (g+1) 0 (n+m)),X.set o ⟨cs++xs,g+1,true,sz⟩):=by
 have h1:¬ (cs.length+xs.length≤cs.length):=by omega
 simp[doApp,h,hn,h1,hl]


def succsF (t:TrmR):List Int:=if t.kind=1∨(t.kind=2∧t.to=t.els) then [t.to] else if t.kind=2 then [t.to,t.els] else []

def succsAt (bs:List BlkR) (j:Nat):List Int:=match bs[j]? with
 | some b=>succsF b.term
 | none=>[]
theorem Blocks.small {H:Hp} {v:CV} {bs:List BlkR} (hv:Blocks H v bs):∀ j (hj:j<bs.length),bs[j].phis.length≤BIG∧bs[j].list.length≤BIG:=by
 intro j hj
 obtain⟨id,g,off,w,u,q1,q2,q3,hw,hu,hb1,hb2,q4,q5⟩:=hv.get hj
 exact⟨hb1,hb2⟩
theorem shape_ins {f:FnR} (h:shapeB f=true) {b:BlkR} (hb:b∈f.blocks) {x:InsR} (hx:x∈b.list):insB x f.values=true:=by
 unfold shapeB at h
 simp only[Bool.and_eq_true,List.all_eq_true]at h
 have:=h.2 b hb
 unfold blkB at this
 simp only[Bool.and_eq_true,List.all_eq_true]at this
 exact this.2 x hx

theorem shape_len {f:FnR} (h:shapeB f=true):1≤f.blocks.length∧f.blocks.length≤16∧0≤f.values∧f.values≤80:=by
 unfold shapeB inB at h
 simp only[Bool.and_eq_true,decide_eq_true_eq]at h
 omega

theorem shape_lens {f:FnR} (h:shapeB f=true) {b:BlkR} (hb:b∈f.blocks):b.phis.length≤24∧b.list.length≤24:=by
 unfold shapeB at h
 simp only[Bool.and_eq_true,List.all_eq_true]at h
 have:=h.2 b hb
 unfold blkB at this
 simp only[Bool.and_eq_true,decide_eq_true_eq]at this
 exact⟨this.1.1.1.1,this.1.1.1.2⟩
def SimC (a b:CV):Prop:=a=b∨((∃ x,a=.i x)∧∃ y,b=.i y)

theorem SimC.refl (a:CV):SimC a a:=.inl rfl

theorem SimC.trans {a b c:CV} (h:SimC a b) (k:SimC b c):SimC a c:=by
 rcases h with rfl | ⟨h1,h2⟩
 ·exact k
 ·rcases k with rfl | ⟨_,k2⟩
  ·exact .inr ⟨h1,h2⟩
  ·exact .inr ⟨h1,k2⟩

theorem SimC.int {x:Int} {b:CV} (h:SimC (.i x) b):∃ y,b=.i y:=by
 rcases h with rfl | ⟨_,h⟩
 ·exact⟨x,rfl⟩
 ·exact h

theorem SimC.sl {id g o n:Nat} {b:CV} (h:SimC (.sl id g o n) b):b=.sl id g o n:=by
 rcases h with rfl | ⟨⟨x,h⟩,_⟩
 ·rfl
 ·cases h

def SimsC (us bs:List CV):Prop:=us.length=bs.length∧∀ (j:Nat) (a b:CV),us[j]? = some a→bs[j]? = some b→SimC a b

theorem SimsC.refl (us:List CV):SimsC us us:=⟨rfl,fun j a b h k=>by rw[h]at k;cases k;exact SimC.refl _⟩

theorem SimsC.trans {us bs cs:List CV} (h:SimsC us bs) (k:SimsC bs cs):SimsC us cs:=by
 refine⟨h.1.trans k.1,fun j a c ha hc=>?_⟩
 have hj:j<bs.length:=by rw[k.1];exact (List.getElem?_eq_some_iff.1 hc).1
 exact (h.2 j a _ ha (List.getElem?_eq_getElem hj)).trans (k.2 j _ c (List.getElem?_eq_getElem hj) hc)

theorem SimsC.part {us bs:List CV} (h:SimsC us bs) (o n:Nat):SimsC ((us.drop o).take n) ((bs.drop o).take n):=by
 refine⟨by simp[h.1],fun j a b ha hb=>?_⟩
 rw[List.getElem?_take]at ha hb
 by_cases hj:j<n
 ·rw[if_pos hj,List.getElem?_drop]at ha hb
  exact h.2 _ _ _ ha hb
 ·rw[if_neg hj]at ha;cases ha

theorem putAt_get {cs:List CV} {o:Nat} {x:CV} (h:o<cs.length):putAt cs o [x]=cs.set o x:=by
 simp[putAt,List.set_eq_take_append_cons_drop,h]

theorem SimsC.put {cs:List CV} {o:Nat} {y:Int} (h:cs[o]? = some (.i y)) (x:Int):SimsC cs (putAt cs o [.i x]):=by
 have ho:o<cs.length:=(List.getElem?_eq_some_iff.1 h).1
 rw[putAt_get ho]
 refine⟨by simp,fun j a b ha hb=>?_⟩
 rw[List.getElem?_set]at hb
 split at hb
 ·rename_i e
  subst e
  rw[h]at ha
  cases ha
  cases hb
  exact .inr ⟨⟨_,rfl⟩,_,rfl⟩
 ·rw[ha]at hb;cases hb;exact SimC.refl _

structure IntCh (lo hi:Nat) (Y Z:Hp):Prop where
 len:Z.length=Y.length
 ob:∀ id g o,rdOb Y id g=some o→∃ cs,rdOb Z id g=some ⟨cs,o.g,o.rw,o.sz⟩∧SimsC o.cells cs
 out:∀ id g o,(id<lo∨hi≤id)→rdOb Y id g=some o→rdOb Z id g=some o

theorem IntCh.refl (lo hi:Nat) (Y:Hp):IntCh lo hi Y Y:=⟨rfl,fun _ _ o h=>⟨o.cells,h,SimsC.refl _⟩,fun _ _ _ _ h=>h⟩

theorem IntCh.trans {lo hi:Nat} {X Y Z:Hp} (h:IntCh lo hi X Y) (k:IntCh lo hi Y Z):IntCh lo hi X Z:=by
 refine⟨k.len.trans h.len,fun id g o ho=>?_,fun id g o hl ho=>k.out id g o hl (h.out id g o hl ho)⟩
 obtain⟨cs,h1,h2⟩:=h.ob id g o ho
 obtain⟨ds,h3,h4⟩:=k.ob id g _ h1
 exact⟨ds,h3,h2.trans h4⟩

theorem IntCh.put {lo hi:Nat} {Y:Hp} {id g:Nat} {cs:List CV} {rw:Bool} {sz:Nat} {off:Nat} {y:Int} (h:rdOb Y id g=some ⟨cs,g,rw,sz⟩) (hc:cs[off]? = some (.i y)) (hl:lo≤id) (hh:id<hi) (x:Int):IntCh lo hi Y (Y.set id ⟨putAt cs off [.i x],g,rw,sz⟩):=by
 have hlt:=rdOb_lt h
 refine⟨by simp,fun id' g' o ho=>?_,fun id' g' o hl' ho=>?_⟩
 ·by_cases e:id'=id
  ·subst e
   have e1:=(rdOb_some.1 h).1
   have e2:=(rdOb_some.1 ho).1
   rw[e1]at e2
   injection e2 with e2
   subst e2
   have e3:=(rdOb_some.1 ho).2
   simp only at e3
   subst e3
   exact⟨putAt cs off [.i x],by rw[rdOb_set_self hlt];simp,SimsC.put hc x⟩
  ·exact⟨o.cells,by rw[rdOb_set_ne e];exact ho,SimsC.refl _⟩
 ·rw[rdOb_set_ne (by omega)];exact ho

def MRow (P:Hp→List CV→Prop) (sz lo hi:Nat) (Y:Hp) (v:CV) (n:Nat):Prop:=
 ∃ (id:Nat) (cells:List CV),v=.sl id 0 0 n∧lo≤id∧id<hi∧rdOb Y id 0=some ⟨cells,0,true,sz⟩∧cells.length=n * sz∧∀ k,k<n→P Y ((cells.drop (k * sz)).take sz)

theorem MRow.ch {P:Hp→List CV→Prop} {sz lo hi:Nat} {Y Z:Hp} {v:CV} {n:Nat} (hP:∀ us bs,SimsC us bs→P Y us→P Z bs) (hc:IntCh lo hi Y Z) (h:MRow P sz lo hi Y v n):MRow P sz lo hi Z v n:=by
 obtain⟨id,cells,h1,h2,h3,h4,h5,h6⟩:=h
 obtain⟨cs,k1,k2⟩:=hc.ob _ _ _ h4
 exact⟨id,cs,h1,h2,h3,k1,by rw[← k2.1];exact h5,fun k hk=>hP _ _ (k2.part _ _) (h6 k hk)⟩

theorem MRow.lenOf {P:Hp→List CV→Prop} {sz lo hi:Nat} {Y:Hp} {v:CV} {n:Nat} (h:MRow P sz lo hi Y v n):lenOf v=some n:=by
 obtain⟨id,_,rfl,_⟩:=h;rfl

theorem MRow.cell {P:Hp→List CV→Prop} {sz lo hi:Nat} {Y:Hp} {v:CV} {n:Nat} (h:MRow P sz lo hi Y v n) {k:Nat} (hk:k<n) (j:Nat) (hj:j<sz) (hP:∀ cs,P Y cs→∃ y,cs[j]? = some (.i y)) (x:Int) :
  ∃ (id:Nat) (cells:List CV) (Z:Hp),idxOf sz v (k:Int)=some (.p id 0 (k * sz))∧rdOb Y id 0=some ⟨cells,0,true,sz⟩∧k * sz+j+1≤cells.length∧Y.set id ⟨putAt cells (k * sz+j) [.i x],0,true,sz⟩=Z∧IntCh lo hi Y Z:=by
 obtain⟨id,cells,rfl,h2,h3,h4,h5,h6⟩:=h
 obtain⟨y,hy⟩:=hP _ (h6 k hk)
 rw[List.getElem?_take,if_pos hj,List.getElem?_drop]at hy
 refine⟨id,cells,_,by simp[idxOf,hk],h4,(List.getElem?_eq_some_iff.1 hy).1,rfl,IntCh.put h4 hy h2 h3 x⟩

theorem MRow.field {P:Hp→List CV→Prop} {sz lo hi:Nat} {Y:Hp} {v:CV} {n:Nat} (h:MRow P sz lo hi Y v n) {k:Nat} (hk:k<n) :
  ∃ (id:Nat) (cs:List CV),idxOf sz v (k:Int)=some (.p id 0 (k * sz))∧P Y cs∧∀ j c,j<sz→cs[j]? = some c→rdC Y id 0 (k * sz+j)=some c:=by
 obtain⟨id,cells,rfl,h2,h3,h4,h5,h6⟩:=h
 refine⟨id,_,by simp[idxOf,hk],h6 k hk,fun j c hj hc=>?_⟩
 rw[List.getElem?_take,if_pos hj,List.getElem?_drop]at hc
 rw[rdC_ob h4];exact hc

theorem gc_nolen {Y X:Hp} {r:IV} (hl:X.length=Y.length) (hf:flatV r=true):gcRet Y r X=(r,X):=by
 unfold gcRet
 rw[List.take_of_length_le (by omega)]
 split
 ·rename_i h;rw[h]
 ·rfl

def armM (_:Hp) (cs:List CV):Prop:=∃ a b:Int,cs=[.i a,.i b]

def insM (_:Hp) (cs:List CV):Prop:=∃ a b c d e:Int,cs=[.i a,.i b,.i c,.i d,.i e]

def phiM (lo hi:Nat) (Y:Hp) (cs:List CV):Prop:=∃ (a:Int) (z:CV) (n:Nat),cs=[.i a,z]∧MRow armM 2 lo hi Y z n∧n≤BIG

def blkM (lo hi:Nat) (Y:Hp) (cs:List CV):Prop:=∃ (z u:CV) (n m:Nat) (a b c d:Int),cs=[z,u,.i a,.i b,.i c,.i d]∧MRow (phiM lo hi) 2 lo hi Y z n∧n≤BIG∧MRow insM 5 lo hi Y u m∧m≤BIG

theorem MRow.sim {P:Hp→List CV→Prop} {sz lo hi:Nat} {Y:Hp} {v w:CV} {n:Nat} (h:MRow P sz lo hi Y v n) (hs:SimC v w):w=v:=by
 obtain⟨id,cells,rfl,_⟩:=h
 exact hs.sl

theorem armM.ch {Y Z:Hp} {us bs:List CV} (hs:SimsC us bs) (h:armM Y us):armM Z bs:=by
 obtain⟨a,b,rfl⟩:=h
 obtain⟨hl,hs⟩:=hs
 match bs,hl with
 | [x,y],_ =>
  obtain⟨x',rfl⟩:=(hs 0 _ _ rfl rfl).int
  obtain⟨y',rfl⟩:=(hs 1 _ _ rfl rfl).int
  exact⟨_,_,rfl⟩

theorem insM.ch {Y Z:Hp} {us bs:List CV} (hs:SimsC us bs) (h:insM Y us):insM Z bs:=by
 obtain⟨a,b,c,d,e,rfl⟩:=h
 obtain⟨hl,hs⟩:=hs
 match bs,hl with
 | [x,y,z,u,w],_ =>
  obtain⟨x',rfl⟩:=(hs 0 _ _ rfl rfl).int
  obtain⟨y',rfl⟩:=(hs 1 _ _ rfl rfl).int
  obtain⟨z',rfl⟩:=(hs 2 _ _ rfl rfl).int
  obtain⟨u',rfl⟩:=(hs 3 _ _ rfl rfl).int
  obtain⟨w',rfl⟩:=(hs 4 _ _ rfl rfl).int
  exact⟨_,_,_,_,_,rfl⟩

theorem phiM.ch {lo hi:Nat} {Y Z:Hp} (hc:IntCh lo hi Y Z) {us bs:List CV} (hs:SimsC us bs) (h:phiM lo hi Y us):phiM lo hi Z bs:=by
 obtain⟨a,z,n,rfl,h1,h2⟩:=h
 obtain⟨hl,hs⟩:=hs
 match bs,hl with
 | [x,y],_ =>
  obtain⟨x',rfl⟩:=(hs 0 _ _ rfl rfl).int
  obtain rfl:=h1.sim (hs 1 _ _ rfl rfl)
  exact⟨_,_,n,rfl,h1.ch (fun _ _=>armM.ch) hc,h2⟩

theorem blkM.ch {lo hi:Nat} {Y Z:Hp} (hc:IntCh lo hi Y Z) {us bs:List CV} (hs:SimsC us bs) (h:blkM lo hi Y us):blkM lo hi Z bs:=by
 obtain⟨z,u,n,m,a,b,c,d,rfl,h1,h2,h3,h4⟩:=h
 obtain⟨hl,hs⟩:=hs
 match bs,hl with
 | [z',u',x,y,p,q],_ =>
  obtain rfl:=h1.sim (hs 0 _ _ rfl rfl)
  obtain rfl:=h3.sim (hs 1 _ _ rfl rfl)
  obtain⟨x',rfl⟩:=(hs 2 _ _ rfl rfl).int
  obtain⟨y',rfl⟩:=(hs 3 _ _ rfl rfl).int
  obtain⟨p',rfl⟩:=(hs 4 _ _ rfl rfl).int
  obtain⟨q',rfl⟩:=(hs 5 _ _ rfl rfl).int
  exact⟨_,_,n,m,_,_,_,_,rfl,h1.ch (fun _ _=>phiM.ch hc) hc,h2,h3.ch (fun _ _=>insM.ch) hc,h4⟩

def MRes (lo hi:Nat) (Y:Hp) (k:Int) (c:Nat) (r:IV×Hp):Prop:=∃ m Z,r=(.c (.i m),Z)∧k≤m∧m≤k+c∧IntCh lo hi Y Z

theorem markArmS_weak {lo hi:Nat} {Y:Hp} {v:CV} {n:Nat} {k:Int} (hv:MRow (armM) 2 lo hi Y v n) (hn:n≤BIG) (hk:0≤k) (hk2:k≤4611686018427387904):CM 98 [.c v,.c (.i k)] Y (MRes lo hi Y k (2 * n)):=by
 refine cw98 ?_
 unfold vf98c
 simp
 obtain⟨I,hI⟩:∃ I:Nat→St→Prop,∀ i s,I i s↔(∃ m:Int,k≤m∧m≤k+2 * i∧IntCh lo hi Y s.h∧Env.get s.e 0=.c v∧Env.get s.e 1=.c (.i m)∧Env.get s.e 5=.c (.i i)):=⟨_,fun _ _=>Iff.rfl⟩
 refine wp_for CM_mono n I ((hI _ _).2 ⟨k,Int.le_refl _,by omega,IntCh.refl _ _ _,by simp⟩) ?_ ?_
 ·rintro i ⟨e,X⟩ hi' hIs
  obtain⟨m,hm1,hm2,hc,h0,h1,h5⟩:=(hI _ _).1 hIs
  simp only at hc h0 h1 h5 ⊢
  have hv0:=hv.ch (fun _ _=>armM.ch) hc
  have hni:2 * i≤2 * n:=Nat.mul_le_mul_left _ (by omega)
  have hnb:2 * n≤2 * BIG:=Nat.mul_le_mul_left _ hn
  simp only[BIG]at hni hnb hn
  unfold vf98b0
  obtain⟨id0,cl0,Z0,hx0,ho0,hl0,hZ0,hc0⟩:=hv0.cell hi' 0 (by omega) (fun cs h=>by obtain⟨a,b,rfl⟩:=h;exact⟨_,rfl⟩) (m)
  have hl0':=hl0
  try simp only[Nat.add_zero]at hl0' hZ0
  have hw0:-9223372036854775808≤(m:Int)+1∧(m:Int)+1≤9223372036854775807:=by omega
  have hv1:=hv0.ch (fun _ _=>armM.ch) hc0
  simp[h0,h1,h5,hv0.lenOf,hi',hx0,ho0,hl0',hZ0,wrap64_id hw0]
  obtain⟨id1,cl1,Z1,hx1,ho1,hl1,hZ1,hc1⟩:=hv1.cell hi' 1 (by omega) (fun cs h=>by obtain⟨a,b,rfl⟩:=h;exact⟨_,rfl⟩) ((m+1))
  have e1:id1=id0:=by have e:=hx1.symm.trans hx0;injection e with e;injection e
  subst e1
  have hl1':=hl1
  try simp only[Nat.add_zero]at hl1' hZ1
  have hw1:-9223372036854775808≤((m+1):Int)+1∧((m+1):Int)+1≤9223372036854775807:=by omega
  have hv2:=hv1.ch (fun _ _=>armM.ch) hc1
  simp[h0,h1,h5,hv0.lenOf,hi',hx1,ho1,hl1',hZ1,wrap64_id hw1]
  simp[h0,h1,h5,hv0.lenOf,hi',up1 hi' hn]
  exact (hI _ _).2 ⟨((m+1)+1),by omega,by omega,((hc.trans hc0).trans hc1),by simp⟩
 ·rintro⟨e,X⟩ hIs
  obtain⟨m,hm1,hm2,hc,h0,h1,h5⟩:=(hI _ _).1 hIs
  simp only at hc h0 h1 h5 ⊢
  unfold vf98b0
  simp[h0,h1,h5,hv.lenOf,gc_nolen hc.len (show flatV (.c (.i m))=true from rfl)]
  exact⟨m,X,rfl,hm1,hm2,hc⟩

theorem markInsS_weak {lo hi:Nat} {Y:Hp} {v:CV} {n:Nat} {k:Int} (hv:MRow (insM) 5 lo hi Y v n) (hn:n≤BIG) (hk:0≤k) (hk2:k≤4611686018427387904):CM 62 [.c v,.c (.i k)] Y (MRes lo hi Y k (5 * n)):=by
 refine cw62 ?_
 unfold vf62c
 simp
 obtain⟨I,hI⟩:∃ I:Nat→St→Prop,∀ i s,I i s↔(∃ m:Int,k≤m∧m≤k+5 * i∧IntCh lo hi Y s.h∧Env.get s.e 0=.c v∧Env.get s.e 1=.c (.i m)∧Env.get s.e 5=.c (.i i)):=⟨_,fun _ _=>Iff.rfl⟩
 refine wp_for CM_mono n I ((hI _ _).2 ⟨k,Int.le_refl _,by omega,IntCh.refl _ _ _,by simp⟩) ?_ ?_
 ·rintro i ⟨e,X⟩ hi' hIs
  obtain⟨m,hm1,hm2,hc,h0,h1,h5⟩:=(hI _ _).1 hIs
  simp only at hc h0 h1 h5 ⊢
  have hv0:=hv.ch (fun _ _=>insM.ch) hc
  have hni:5 * i≤5 * n:=Nat.mul_le_mul_left _ (by omega)
  have hnb:5 * n≤5 * BIG:=Nat.mul_le_mul_left _ hn
  simp only[BIG]at hni hnb hn
  unfold vf62b0
  obtain⟨id0,cl0,Z0,hx0,ho0,hl0,hZ0,hc0⟩:=hv0.cell hi' 0 (by omega) (fun cs h=>by obtain⟨a,b,c,d,e,rfl⟩:=h;exact⟨_,rfl⟩) (m)
  have hl0':=hl0
  try simp only[Nat.add_zero]at hl0' hZ0
  have hw0:-9223372036854775808≤(m:Int)+1∧(m:Int)+1≤9223372036854775807:=by omega
  have hv1:=hv0.ch (fun _ _=>insM.ch) hc0
  simp[h0,h1,h5,hv0.lenOf,hi',hx0,ho0,hl0',hZ0,wrap64_id hw0]
  obtain⟨id1,cl1,Z1,hx1,ho1,hl1,hZ1,hc1⟩:=hv1.cell hi' 1 (by omega) (fun cs h=>by obtain⟨a,b,c,d,e,rfl⟩:=h;exact⟨_,rfl⟩) ((m+1))
  have e1:id1=id0:=by have e:=hx1.symm.trans hx0;injection e with e;injection e
  subst e1
  have hl1':=hl1
  try simp only[Nat.add_zero]at hl1' hZ1
  have hw1:-9223372036854775808≤((m+1):Int)+1∧((m+1):Int)+1≤9223372036854775807:=by omega
  have hv2:=hv1.ch (fun _ _=>insM.ch) hc1
  simp[h0,h1,h5,hv0.lenOf,hi',hx1,ho1,hl1',hZ1,wrap64_id hw1]
  obtain⟨id2,cl2,Z2,hx2,ho2,hl2,hZ2,hc2⟩:=hv2.cell hi' 2 (by omega) (fun cs h=>by obtain⟨a,b,c,d,e,rfl⟩:=h;exact⟨_,rfl⟩) (((m+1)+1))
  have e2:id2=id1:=by have e:=hx2.symm.trans hx1;injection e with e;injection e
  subst e2
  have hl2':=hl2
  try simp only[Nat.add_zero]at hl2' hZ2
  have hw2:-9223372036854775808≤(((m+1)+1):Int)+1∧(((m+1)+1):Int)+1≤9223372036854775807:=by omega
  have hv3:=hv2.ch (fun _ _=>insM.ch) hc2
  simp[h0,h1,h5,hv0.lenOf,hi',hx2,ho2,hl2',hZ2,wrap64_id hw2]
  obtain⟨id3,cl3,Z3,hx3,ho3,hl3,hZ3,hc3⟩:=hv3.cell hi' 3 (by omega) (fun cs h=>by obtain⟨a,b,c,d,e,rfl⟩:=h;exact⟨_,rfl⟩) ((((m+1)+1)+1))
  have e3:id3=id2:=by have e:=hx3.symm.trans hx2;injection e with e;injection e
  subst e3
  have hl3':=hl3
  try simp only[Nat.add_zero]at hl3' hZ3
  have hw3:-9223372036854775808≤((((m+1)+1)+1):Int)+1∧((((m+1)+1)+1):Int)+1≤9223372036854775807:=by omega
  have hv4:=hv3.ch (fun _ _=>insM.ch) hc3
  simp[h0,h1,h5,hv0.lenOf,hi',hx3,ho3,hl3',hZ3,wrap64_id hw3]
  obtain⟨id4,cl4,Z4,hx4,ho4,hl4,hZ4,hc4⟩:=hv4.cell hi' 4 (by omega) (fun cs h=>by obtain⟨a,b,c,d,e,rfl⟩:=h;exact⟨_,rfl⟩) (((((m+1)+1)+1)+1))
  have e4:id4=id3:=by have e:=hx4.symm.trans hx3;injection e with e;injection e
  subst e4
  have hl4':=hl4
  try simp only[Nat.add_zero]at hl4' hZ4
  have hw4:-9223372036854775808≤(((((m+1)+1)+1)+1):Int)+1∧(((((m+1)+1)+1)+1):Int)+1≤9223372036854775807:=by omega
  have hv5:=hv4.ch (fun _ _=>insM.ch) hc4
  simp[h0,h1,h5,hv0.lenOf,hi',hx4,ho4,hl4',hZ4,wrap64_id hw4]
  simp[h0,h1,h5,hv0.lenOf,hi',up1 hi' hn]
  exact (hI _ _).2 ⟨(((((m+1)+1)+1)+1)+1),by omega,by omega,(((((hc.trans hc0).trans hc1).trans hc2).trans hc3).trans hc4),by simp⟩
 ·rintro⟨e,X⟩ hIs
  obtain⟨m,hm1,hm2,hc,h0,h1,h5⟩:=(hI _ _).1 hIs
  simp only at hc h0 h1 h5 ⊢
  unfold vf62b0
  simp[h0,h1,h5,hv.lenOf,gc_nolen hc.len (show flatV (.c (.i m))=true from rfl)]
  exact⟨m,X,rfl,hm1,hm2,hc⟩

theorem markPhiS_weak {lo hi:Nat} {Y:Hp} {v:CV} {n:Nat} {k:Int} (hv:MRow (phiM lo hi) 2 lo hi Y v n) (hn:n≤BIG) (hk:0≤k) (hk2:k≤3000000000000000000):CM 61 [.c v,.c (.i k)] Y (MRes lo hi Y k (2097153 * n)):=by
 refine cw61 ?_
 unfold vf61c
 simp
 obtain⟨I,hI⟩:∃ I:Nat→St→Prop,∀ i s,I i s↔(∃ m:Int,k≤m∧m≤k+2097153 * i∧IntCh lo hi Y s.h∧Env.get s.e 0=.c v∧Env.get s.e 1=.c (.i m)∧Env.get s.e 5=.c (.i i)):=⟨_,fun _ _=>Iff.rfl⟩
 refine wp_for CM_mono n I ((hI _ _).2 ⟨k,Int.le_refl _,by omega,IntCh.refl _ _ _,by simp⟩) ?_ ?_
 ·rintro i ⟨e,X⟩ hi' hIs
  obtain⟨m,hm1,hm2,hc,h0,h1,h5⟩:=(hI _ _).1 hIs
  simp only at hc h0 h1 h5 ⊢
  have hv0:=hv.ch (fun _ _=>phiM.ch hc) hc
  have hni:2097153 * i≤2097153 * n:=Nat.mul_le_mul_left _ (by omega)
  have hnb:2097153 * n≤2097153 * BIG:=Nat.mul_le_mul_left _ hn
  simp only[BIG]at hni hnb hn
  unfold vf61b0
  obtain⟨id0,cl0,Z0,hx0,ho0,hl0,hZ0,hc0⟩:=hv0.cell hi' 0 (by omega) (fun cs h=>by obtain⟨a,z,q,rfl,_⟩:=h;exact⟨_,rfl⟩) (m)
  have hl0':=hl0
  try simp only[Nat.add_zero]at hl0' hZ0
  have hw0:-9223372036854775808≤(m:Int)+1∧(m:Int)+1≤9223372036854775807:=by omega
  have hv1:=hv0.ch (fun _ _=>phiM.ch hc0) hc0
  simp[h0,h1,h5,hv0.lenOf,hi',hx0,ho0,hl0',hZ0,wrap64_id hw0]
  obtain⟨id1,cs1,hx1,hP1,hf1⟩:=hv1.field hi'
  obtain⟨a1,z1,q1,rfl,hz1,hq1⟩:=hP1
  have hr1:=hf1 1 _ (by omega) rfl
  try simp only[Nat.add_zero]at hr1
  have e1:id1=id0:=by have e:=hx1.symm.trans hx0;injection e with e;injection e
  subst e1
  simp[h0,h1,h5,hv0.lenOf,hi',hx1,hr1]
  refine (markArmS_weak hz1 hq1 (by omega) (by omega)).mono ?_
  rintro _ ⟨m1,Z1,rfl,ha1,hb1,hc1⟩
  have hbd1:2 * q1≤2 * BIG:=by first | exact Nat.mul_le_mul_left _ hq1 | omega
  simp only[BIG]at hbd1
  have hv2:=hv1.ch (fun _ _=>phiM.ch hc1) hc1
  simp[h0,h1,h5,hv0.lenOf,hi',up1 hi' hn]
  exact (hI _ _).2 ⟨m1,by omega,by omega,((hc.trans hc0).trans hc1),by simp⟩
 ·rintro⟨e,X⟩ hIs
  obtain⟨m,hm1,hm2,hc,h0,h1,h5⟩:=(hI _ _).1 hIs
  simp only at hc h0 h1 h5 ⊢
  unfold vf61b0
  simp[h0,h1,h5,hv.lenOf,gc_nolen hc.len (show flatV (.c (.i m))=true from rfl)]
  exact⟨m,X,rfl,hm1,hm2,hc⟩

theorem markBlockS_weak {lo hi:Nat} {Y:Hp} {v:CV} {n:Nat} {k:Int} (hv:MRow (blkM lo hi) 6 lo hi Y v n) (hn:n≤BIG) (hk:0≤k) (hk2:k≤4):CM 33 [.c v,.c (.i k)] Y (MRes lo hi Y k (2199029547012 * n)):=by
 refine cw33 ?_
 unfold vf33c
 simp
 obtain⟨I,hI⟩:∃ I:Nat→St→Prop,∀ i s,I i s↔(∃ m:Int,k≤m∧m≤k+2199029547012 * i∧IntCh lo hi Y s.h∧Env.get s.e 0=.c v∧Env.get s.e 1=.c (.i m)∧Env.get s.e 5=.c (.i i)):=⟨_,fun _ _=>Iff.rfl⟩
 refine wp_for CM_mono n I ((hI _ _).2 ⟨k,Int.le_refl _,by omega,IntCh.refl _ _ _,by simp⟩) ?_ ?_
 ·rintro i ⟨e,X⟩ hi' hIs
  obtain⟨m,hm1,hm2,hc,h0,h1,h5⟩:=(hI _ _).1 hIs
  simp only at hc h0 h1 h5 ⊢
  have hv0:=hv.ch (fun _ _=>blkM.ch hc) hc
  have hni:2199029547012 * i≤2199029547012 * n:=Nat.mul_le_mul_left _ (by omega)
  have hnb:2199029547012 * n≤2199029547012 * BIG:=Nat.mul_le_mul_left _ hn
  simp only[BIG]at hni hnb hn
  unfold vf33b0
  obtain⟨id0,cs0,hx0,hP0,hf0⟩:=hv0.field hi'
  obtain⟨z0,u0,q0,p0,a0,b0,c0,d0,rfl,hz0,hq0,hu0,hp0⟩:=hP0
  have hr0:=hf0 0 _ (by omega) rfl
  try simp only[Nat.add_zero]at hr0
  simp[h0,h1,h5,hv0.lenOf,hi',hx0,hr0]
  refine (markPhiS_weak hz0 hq0 (by omega) (by omega)).mono ?_
  rintro _ ⟨m0,Z0,rfl,ha0,hb0,hc0⟩
  have hbd0:2097153 * q0≤2097153 * BIG:=by first | exact Nat.mul_le_mul_left _ hq0 | omega
  simp only[BIG]at hbd0
  have hv1:=hv0.ch (fun _ _=>blkM.ch hc0) hc0
  obtain⟨id1,cs1,hx1,hP1,hf1⟩:=hv1.field hi'
  obtain⟨z1,u1,q1,p1,a1,b1,c1,d1,rfl,hz1,hq1,hu1,hp1⟩:=hP1
  have hr1:=hf1 1 _ (by omega) rfl
  try simp only[Nat.add_zero]at hr1
  have e1:id1=id0:=by have e:=hx1.symm.trans hx0;injection e with e;injection e
  subst e1
  simp[h0,h1,h5,hv0.lenOf,hi',hx1,hr1]
  refine (markInsS_weak hu1 hp1 (by omega) (by omega)).mono ?_
  rintro _ ⟨m1,Z1,rfl,ha1,hb1,hc1⟩
  have hbd1:5 * p1≤5 * BIG:=by first | exact Nat.mul_le_mul_left _ hp1 | omega
  simp only[BIG]at hbd1
  have hv2:=hv1.ch (fun _ _=>blkM.ch hc1) hc1
  obtain⟨id2,cl2,Z2,hx2,ho2,hl2,hZ2,hc2⟩:=hv2.cell hi' 2 (by omega) (fun cs h=>by obtain⟨z,u,q,p,a,b,c,d,rfl,_⟩:=h;exact⟨_,rfl⟩) (m1)
  have e2:id2=id1:=by have e:=hx2.symm.trans hx1;injection e with e;injection e
  subst e2
  have hl2':=hl2
  try simp only[Nat.add_zero]at hl2' hZ2
  have hw2:-9223372036854775808≤(m1:Int)+1∧(m1:Int)+1≤9223372036854775807:=by omega
  have hv3:=hv2.ch (fun _ _=>blkM.ch hc2) hc2
  simp[h0,h1,h5,hv0.lenOf,hi',hx2,ho2,hl2',hZ2,wrap64_id hw2]
  obtain⟨id3,cl3,Z3,hx3,ho3,hl3,hZ3,hc3⟩:=hv3.cell hi' 3 (by omega) (fun cs h=>by obtain⟨z,u,q,p,a,b,c,d,rfl,_⟩:=h;exact⟨_,rfl⟩) ((m1+1))
  have e3:id3=id2:=by have e:=hx3.symm.trans hx2;injection e with e;injection e
  subst e3
  have hl3':=hl3
  try simp only[Nat.add_zero]at hl3' hZ3
  have hw3:-9223372036854775808≤((m1+1):Int)+1∧((m1+1):Int)+1≤9223372036854775807:=by omega
  have hv4:=hv3.ch (fun _ _=>blkM.ch hc3) hc3
  simp[h0,h1,h5,hv0.lenOf,hi',hx3,ho3,hl3',hZ3,wrap64_id hw3]
  obtain⟨id4,cl4,Z4,hx4,ho4,hl4,hZ4,hc4⟩:=hv4.cell hi' 4 (by omega) (fun cs h=>by obtain⟨z,u,q,p,a,b,c,d,rfl,_⟩:=h;exact⟨_,rfl⟩) (((m1+1)+1))
  have e4:id4=id3:=by have e:=hx4.symm.trans hx3;injection e with e;injection e
  subst e4
  have hl4':=hl4
  try simp only[Nat.add_zero]at hl4' hZ4
  have hw4:-9223372036854775808≤(((m1+1)+1):Int)+1∧(((m1+1)+1):Int)+1≤9223372036854775807:=by omega
  have hv5:=hv4.ch (fun _ _=>blkM.ch hc4) hc4
  simp[h0,h1,h5,hv0.lenOf,hi',hx4,ho4,hl4',hZ4,wrap64_id hw4]
  obtain⟨id5,cl5,Z5,hx5,ho5,hl5,hZ5,hc5⟩:=hv5.cell hi' 5 (by omega) (fun cs h=>by obtain⟨z,u,q,p,a,b,c,d,rfl,_⟩:=h;exact⟨_,rfl⟩) ((((m1+1)+1)+1))
  have e5:id5=id4:=by have e:=hx5.symm.trans hx4;injection e with e;injection e
  subst e5
  have hl5':=hl5
  try simp only[Nat.add_zero]at hl5' hZ5
  have hw5:-9223372036854775808≤((((m1+1)+1)+1):Int)+1∧((((m1+1)+1)+1):Int)+1≤9223372036854775807:=by omega
  have hv6:=hv5.ch (fun _ _=>blkM.ch hc5) hc5
  simp[h0,h1,h5,hv0.lenOf,hi',hx5,ho5,hl5',hZ5,wrap64_id hw5]
  simp[h0,h1,h5,hv0.lenOf,hi',up1 hi' hn]
  exact (hI _ _).2 ⟨((((m1+1)+1)+1)+1),by omega,by omega,((((((hc.trans hc0).trans hc1).trans hc2).trans hc3).trans hc4).trans hc5),by simp⟩
 ·rintro⟨e,X⟩ hIs
  obtain⟨m,hm1,hm2,hc,h0,h1,h5⟩:=(hI _ _).1 hIs
  simp only at hc h0 h1 h5 ⊢
  unfold vf33b0
  simp[h0,h1,h5,hv.lenOf,gc_nolen hc.len (show flatV (.c (.i m))=true from rfl)]
  exact⟨m,X,rfl,hm1,hm2,hc⟩
theorem chunk {css:List (List CV)} {sz:Nat} (h:∀ cs∈css,cs.length=sz) {k:Nat} (hk:k<css.length):(css.flatten.drop (k * sz)).take sz=css[k]:=by
 induction css generalizing k with
 | nil=>simp at hk
 | cons c r ih =>
  have hc:=h c (by simp)
  cases k with
  | zero=>rw[List.flatten_cons];simp[← hc]
  | succ k =>
   rw[List.flatten_cons,Nat.succ_mul,List.drop_append,List.drop_eq_nil_of_le (by rw[hc];omega),List.nil_append,hc,Nat.add_sub_cancel]
   simpa using ih (fun cs hcs=>h cs (by simp[hcs])) (k:=k) (by simpa using hk)

theorem ORow.m {α:Type} {P:Nat→Hp→List CV→α→Prop} {P':Hp→List CV→Prop} {sz lo:Nat} {X:Hp} {w:CV} {xs:List α} (h:ORow P sz lo X w xs) (hP:∀ cs x,x∈xs→P lo X cs x→P' X cs):MRow P' sz lo X.length X w xs.length:=by
 obtain⟨id,css,rfl,h2,h3,h4,h5⟩:=h
 have hl:∀ cs∈css,cs.length=sz:=by
  intro cs hcs
  obtain⟨j,hj,rfl⟩:=List.getElem_of_mem hcs
  exact (h5 j _ _ (List.getElem?_eq_getElem hj) (List.getElem?_eq_getElem (by omega))).1
 refine⟨id,css.flatten,rfl,h2,rdOb_lt h3,h3,by rw[flat_len hl,h4],fun k hk=>?_⟩
 rw[chunk hl (by omega)]
 exact hP _ _ (List.getElem_mem hk) (h5 k _ _ (List.getElem?_eq_getElem (by omega)) (List.getElem?_eq_getElem hk)).2

theorem phiO.m {lo:Nat} {X:Hp} {cs:List CV} {p:PhiR} (hs:p.arms.length≤BIG) (h:phiO lo X cs p):phiM lo X.length X cs:=by
 obtain⟨z,h1,h2⟩:=h
 exact⟨p.d,z,p.arms.length,h1,h2.m fun cs x _ h=>⟨_,_,h⟩,hs⟩

theorem blkO.m {lo:Nat} {X:Hp} {cs:List CV} {b:BlkR} (hs:b.phis.length≤BIG∧b.list.length≤BIG∧∀ p∈b.phis,p.arms.length≤BIG) (h:blkO lo X cs b):blkM lo X.length X cs:=by
 obtain⟨z,u,h1,h2,h3⟩:=h
 exact⟨z,u,_,_,_,_,_,_,h1,h2.m fun cs x hx h=>phiO.m (hs.2.2 _ hx) h,hs.1,h3.m fun cs x _ h=>⟨_,_,_,_,_,h⟩,hs.2.1⟩

theorem MRow.app {P:Hp→List CV→Prop} {sz lo hi:Nat} {Y:Hp} (L:Hp) {v:CV} {n:Nat} (hP:∀ cs,P Y cs→P (Y++L) cs) (h:MRow P sz lo hi Y v n):MRow P sz lo hi (Y++L) v n:=by
 obtain⟨id,cells,h1,h2,h3,h4,h5,h6⟩:=h
 exact⟨id,cells,h1,h2,h3,rdOb_app L h4,h5,fun k hk=>hP _ (h6 k hk)⟩

theorem phiM.app {lo hi:Nat} {Y:Hp} (L:Hp) {cs:List CV} (h:phiM lo hi Y cs):phiM lo hi (Y++L) cs:=by
 obtain⟨a,z,n,h1,h2,h3⟩:=h
 exact⟨a,z,n,h1,h2.app L fun _ h=>h,h3⟩

theorem blkM.app {lo hi:Nat} {Y:Hp} (L:Hp) {cs:List CV} (h:blkM lo hi Y cs):blkM lo hi (Y++L) cs:=by
 obtain⟨z,u,n,m,a,b,c,d,h1,h2,h3,h4,h5⟩:=h
 exact⟨z,u,n,m,a,b,c,d,h1,h2.app L fun _ h=>phiM.app L h,h3,h4.app L fun _ h=>h,h5⟩

def fnM (lo hi:Nat) (Y:Hp) (cs:List CV):Prop:=∃ (z:CV) (m:Int) (n:Nat),cs=[z,.i m]∧MRow (blkM lo hi) 6 lo hi Y z n∧n≤BIG

theorem fnO.m {lo:Nat} {X:Hp} {cs:List CV} {f:FnR} (hs:Small f) (h:fnO lo X cs f):fnM lo X.length X cs:=by
 obtain⟨z,h1,h2⟩:=h
 exact⟨z,_,_,h1,h2.m fun cs x hx h=>blkO.m (hs.2 _ hx) h,hs.1⟩

theorem fnM.app {lo hi:Nat} {Y:Hp} (L:Hp) {cs:List CV} (h:fnM lo hi Y cs):fnM lo hi (Y++L) cs:=by
 obtain⟨z,m,n,h1,h2,h3⟩:=h
 exact⟨z,m,n,h1,h2.app L fun _ h=>blkM.app L h,h3⟩

theorem IntCh.cut {lo hi:Nat} {Y Z L:Hp} (hl:lo≤hi) (hh:hi≤Y.length) (h:IntCh lo hi (Y++L) Z):∃ Z',Z=Z'++L∧IntCh lo hi Y Z':=by
 refine⟨Z.take Y.length,?_,?_⟩
 ·have hlen:=h.len
  rw[List.length_append]at hlen
  apply List.ext_getElem?
  intro i
  by_cases hi':i<Y.length
  ·rw[List.getElem?_append_left (by rw[List.length_take];omega),List.getElem?_take,if_pos hi']
  ·rw[List.getElem?_append_right (by rw[List.length_take];omega),List.length_take,Nat.min_eq_left (by omega)]
   by_cases hz:i<Z.length
   ·have e:(Y++L)[i]? = L[i - Y.length]?:=List.getElem?_append_right (by omega)
    have h1:i - Y.length<L.length:=by omega
    rw[List.getElem?_eq_getElem h1]at e
    have:=h.out i _ _ (.inr (by omega)) (rdOb_some.2 ⟨e,rfl⟩)
    rw[(rdOb_some.1 this).1,List.getElem?_eq_getElem h1]
   ·rw[List.getElem?_eq_none (by omega),List.getElem?_eq_none (by omega)]
 ·have hlen:=h.len
  rw[List.length_append]at hlen
  have key:∀ id g o,id<Y.length→(rdOb Z id g=some o↔rdOb (Z.take Y.length) id g=some o):=by
   intro id g o hid
   rw[rdOb_some,rdOb_some,List.getElem?_take,if_pos hid]
  refine⟨by rw[List.length_take];omega,fun id g o ho=>?_,fun id g o hl' ho=>?_⟩
  ·obtain⟨cs,h1,h2⟩:=h.ob id g o (rdOb_app L ho)
   exact⟨cs,(key _ _ _ (rdOb_lt ho)).1 h1,h2⟩
  ·exact (key _ _ _ (rdOb_lt ho)).1 (h.out id g o hl' (rdOb_app L ho))

def MarkRes (lo hi:Nat) (Y:Hp) (r:IV×Hp):Prop:=∃ m Z L,r=(.c (.i m),Z++L)∧0≤m∧IntCh lo hi Y Z

theorem markFn_weak {lo hi:Nat} {Y:Hp} {cs:List CV} (h:fnM lo hi Y cs) (hh:hi≤Y.length) (hl:lo≤hi) :
  CM 13 [.agg cs,.c (.i 1)] Y (MarkRes lo hi Y):=by
 obtain⟨z,m,n,rfl,hz,hn⟩:=h
 refine cw13 ?_
 unfold vf13c
 simp
 refine (markBlockS_weak (hz.app _ fun _ h=>blkM.app _ h) hn (by omega) (by omega)).mono ?_
 rintro _ ⟨k,Z,rfl,h1,h2,h3⟩
 obtain⟨Z',rfl,h4⟩:=h3.cut hl hh
 simp
 by_cases e:Z'=Y
 ·subst e
  exact⟨k,Z',[],by simp,by omega,h4⟩
 ·have e2:gcRet Y (.c (.i k)) (Z'++[⟨[z,.i m],0,true,2⟩])=(.c (.i k),Z'++[⟨[z,.i m],0,true,2⟩]):=by
   unfold gcRet
   rw[if_neg]
   rw[List.take_append_of_le_length (by rw[h4.len];exact Nat.le_refl _),List.take_of_length_le (by rw[h4.len];exact Nat.le_refl _)]
   exact e
  rw[e2]
  exact⟨k,Z',_,rfl,by omega,h4⟩


theorem eqIntS_call {H:Hp} {v w:CV} {xs ys:List Int} (hv:IsI H v xs) (hw:IsI H w ys) (hb:xs.length≤BIG) (k:IV×Hp→Prop):CM 12 [.c v,.c w] H k=k (.c (.b (decide (xs=ys))),H):=by
 refine det (cw12 ?_) k
 unfold vf12c
 simp[hv.lenOf,hw.lenOf]
 refine cnd_of (fun hl=>?_) (fun hl=>?_)<;>simp at hl
 ·have:xs≠ys:=fun e=>hl (by rw[e])
  simp[this]
 ·simp
  refine wp_for CM_mono xs.length (fun i s=>xs.take i=ys.take i∧s.h=H∧Env.get s.e 0=.c v∧Env.get s.e 1=.c w∧Env.get s.e 5=.c (.i i)) (by simp) ?_ ?_
  ·rintro i ⟨e,X⟩ hi ⟨ht,rfl,h0,h1,h5⟩
   simp only at h0 h1 h5 hv hw ⊢
   obtain⟨id,g,off,q1,q2⟩:=hv.at_ hi
   obtain⟨id',g',off',p1,p2⟩:=hw.at_ (show i<ys.length by omega)
   unfold vf12b0
   by_cases he:xs[i]=ys[i]
   ·simp[h0,h1,h5,q1,q2,p1,p2,hi,hv.lenOf,up1 hi hb,he]
    exact take_snoc_eq hi (by omega) ht he
   ·have hne:xs≠ys:=fun e=>he (by subst e;rfl)
    simp[h0,h1,h5,q1,q2,p1,p2,hi,hv.lenOf,up1 hi hb,he,hne]
  ·rintro⟨e,X⟩ ⟨ht,rfl,h0,h1,h5⟩
   simp only at h0 h1 h5 hv hw ⊢
   rw[List.take_length,hl,List.take_length]at ht
   unfold vf12b0
   simp[h0,h1,h5,hv.lenOf,ht]

def ups (k:Int) (n:Nat):List Int:=(List.range n).map fun (j:Nat)=>k+(j:Int)

@[simp] theorem ups_len (k:Int) (n:Nat):(ups k n).length=n:=by simp[ups]

theorem ups_get {k:Int} {n j:Nat} (h:j<(ups k n).length):(ups k n)[j]=k+j:=by simp[ups]

def Own (Y:Hp) (lo sz:Nat) (w:CV) (n:Nat) (cells:List CV):Prop:=(w=.ns∧n=0∧cells=[])∨∃ id,w=.sl id 0 0 n∧lo≤id∧rdOb Y id 0=some ⟨cells,0,true,sz⟩∧cells.length=n * sz

theorem Own.isI {Y:Hp} {lo:Nat} {w:CV} {n:Nat} {xs:List Int} (h:Own Y lo 1 w n (xs.map .i)):IsI Y w xs:=by
 rcases h with⟨rfl,rfl,h⟩ | ⟨id,rfl,h1,h2,h3⟩
 ·simp at h;subst h;exact IsI.ns _
 ·simp at h3;subst h3
  exact IsI.mk h2 rfl (by simp) (by rw[List.drop_zero,List.take_of_length_le (by simp)])

theorem RowRes.own {H L:Hp} {w:CV} {xs:List Int} (h:RowRes H w L xs):Own (H++L) H.length 1 w xs.length (xs.map .i):=by
 rcases h with⟨rfl,rfl,rfl⟩ | ⟨rfl,rfl⟩
 ·exact .inl ⟨rfl,rfl,rfl⟩
 ·exact .inr ⟨_,rfl,Nat.le_refl _,by simp,by simp⟩

theorem Own.keep {Y Z:Hp} {lo sz:Nat} {w:CV} {n:Nat} {cells:List CV} (h:Own Y lo sz w n cells) (hk:∀ id g o,lo≤id→rdOb Y id g=some o→rdOb Z id g=some o):Own Z lo sz w n cells:=by
 rcases h with h | ⟨id,rfl,h1,h2,h3⟩
 ·exact .inl h
 ·exact .inr ⟨id,rfl,h1,hk _ _ _ h1 h2,h3⟩

def Low (lo:Nat) (Y Z:Hp):Prop:=∀ id g o,id<lo→rdOb Y id g=some o→rdOb Z id g=some o

theorem Low.trans {lo:Nat} {X Y Z:Hp} (h:Low lo X Y) (k:Low lo Y Z):Low lo X Z:=fun id g o hl ho=>k id g o hl (h id g o hl ho)

theorem Low.app (lo:Nat) (Y L:Hp):Low lo Y (Y++L):=fun _ _ _ _ h=>rdOb_app L h

theorem Low.mono {lo lo':Nat} {Y Z:Hp} (h:Low lo Y Z) (hl:lo'≤lo):Low lo' Y Z:=fun id g o h1 h2=>h id g o (by omega) h2

theorem Low.pre {H Y Z:Hp} {lo:Nat} (h:Low lo Y Z) (hp:Pre H Y) (hl:H.length≤lo):Pre H Z:=by
 obtain⟨G,rfl⟩:=hp
 refine⟨Z.drop H.length,?_⟩
 have key:∀ i (hi:i<H.length),Z[i]? = some H[i]:=by
  intro i hi
  have:=h i H[i].g H[i] (by omega) (rdOb_some.2 ⟨by rw[List.getElem?_append_left hi,List.getElem?_eq_getElem hi],rfl⟩)
  exact (rdOb_some.1 this).1
 apply List.ext_getElem?
 intro i
 by_cases hi:i<H.length
 ·rw[List.getElem?_append_left hi,List.getElem?_eq_getElem hi,key i hi]
 ·rw[List.getElem?_append_right (by omega),List.getElem?_drop]
  congr 1;omega

theorem IntCh.low {lo hi:Nat} {Y Z:Hp} (h:IntCh lo hi Y Z):Low lo Y Z:=fun id g o hl ho=>h.out id g o (.inl hl) ho

theorem heldIntS_call {H:Hp} {v:CV} {n:Nat} (hv:IsI H v (ups 1 n)) (hn:n≤BIG) (k:IV×Hp→Prop):CM 15 [.c v,.c (.i 1)] H k=k (.c (.i (1+n)),H):=by
 refine det (cw15 ?_) k
 unfold vf15c
 simp
 refine wp_for CM_mono n (fun i s=>s.h=H∧Env.get s.e 0=.c v∧Env.get s.e 1=.c (.i (1+i))∧Env.get s.e 5=.c (.i i)) (by simp) ?_ ?_
 ·rintro i ⟨e,X⟩ hi ⟨rfl,h0,h1,h5⟩
  simp only at h0 h1 h5 hv ⊢
  obtain⟨id,g,off,q1,q2⟩:=hv.at_ (k:=i) (by simpa using hi)
  rw[ups_get]at q2
  have hw1:-9223372036854775808≤(1+(i:Int))+1∧(1+(i:Int))+1≤9223372036854775807:=by simp only[BIG]at hn;omega
  have hl:=hv.lenOf
  rw[ups_len]at hl
  unfold vf15b0
  simp[h0,h1,h5,q1,q2,hi,hl,up1 hi hn,wrap64_id hw1]
  omega
 ·rintro⟨e,X⟩ ⟨rfl,h0,h1,h5⟩
  simp only at h0 h1 h5 hv ⊢
  have hl:=hv.lenOf
  rw[ups_len]at hl
  unfold vf15b0
  simp[h0,h1,h5,hl]
@[simp] theorem gcRet_fst (H:Hp) (x:Bool) (X:Hp):(gcRet H (.c (.b x)) X).1=.c (.b x):=by
 unfold gcRet
 split
 ·rw[if_pos (show flatV (.c (.b x))=true from rfl)]
 ·rfl

theorem choose_list {α:Type} {Q:List CV→α→Prop}:∀ {css:List (List CV)},(∀ cs∈css,∃ x,Q cs x)→∃ xs:List α,xs.length=css.length∧∀ (k:Nat) cs x,css[k]? = some cs→xs[k]? = some x→Q cs x:=by
 intro css
 induction css with
 | nil=>intro _;exact⟨[],rfl,fun k cs x h=>by simp at h⟩
 | cons c r ih =>
  intro h
  obtain⟨x,hx⟩:=h c (by simp)
  obtain⟨xs,h1,h2⟩:=ih fun cs hc=>h cs (by simp[hc])
  refine⟨x :: xs,by simp[h1],fun k cs y a b=>?_⟩
  cases k with
  | zero=>simp at a b;subst a;subst b;exact hx
  | succ k=>exact h2 k cs y (by simpa using a) (by simpa using b)

section

variable {P:Program} {H:Hp}

theorem leaf_row {α:Type} {R:Hp→List CV→α→Prop} {t e:TypeId} {c:CV} {ls:List TypeId} {sz m:Nat} (hu:P.underlying t=some (.slice e)) (hls:leafTs P m e=some ls) (hsz:P.cellsOf e=sz)
  (hR:∀ cs:List CV,cs.length=ls.length→(∀ (j:Nat) (t':TypeId) (c:CV),ls[j]? = some t'→cs[j]? = some c→Leaf P H t' c)→∃ x,R H cs x) (h:Leaf P H t c):∃ xs:List α,Row R sz H c xs∧xs.length≤maxLen:=by
 obtain⟨n,css,hn,hm,hS,hcs⟩:=Leaf.row hu hls h
 obtain⟨xs,h1,h2⟩:=choose_list (Q:=fun cs x=>cs.length=sz∧R H cs x) (css:=css) fun cs hc=>by
  obtain⟨a,b,d⟩:=hcs cs hc
  obtain⟨x,hx⟩:=hR cs a d
  exact⟨x,by omega,hx⟩
 subst hn
 exact⟨xs,⟨css,by rw[h1,← hsz];exact hS,h1.symm,h2⟩,by omega⟩

theorem leaf_int {i:TypeId} (hi:P.underlying i=some (.int .i64)) {c:CV} (h:Leaf P H i c):∃ n:Int,c=.i n:=by
 obtain⟨n,rfl,_⟩:=Leaf.int hi h;exact⟨n,rfl⟩

structure FnTys (P:Program) (i ta ea tp ep tl el tb eb:TypeId):Prop where
 hi:P.underlying i=some (.int .i64)
 hta:P.underlying ta=some (.slice ea)
 hea:leafTs P 8 ea=some [i,i]
 hsa:P.cellsOf ea=2
 htp:P.underlying tp=some (.slice ep)
 hep:leafTs P 8 ep=some [i,ta]
 hsp:P.cellsOf ep=2
 htl:P.underlying tl=some (.slice el)
 hel:leafTs P 8 el=some [i,i,i,i,i]
 hsl:P.cellsOf el=5
 htb:P.underlying tb=some (.slice eb)
 heb:leafTs P 8 eb=some [tp,tl,i,i,i,i]
 hsb:P.cellsOf eb=6

theorem leaf_arms {i ta ea tp ep tl el tb eb:TypeId} (T:FnTys P i ta ea tp ep tl el tb eb) {c:CV} (h:Leaf P H ta c):∃ xs:List ArmR,Row armP 2 H c xs∧xs.length≤maxLen:=by
 refine leaf_row T.hta T.hea T.hsa (fun cs hl hc=>?_) h
 match cs,hl with
 | [a,b],_ =>
  obtain⟨a,rfl⟩:=leaf_int T.hi (hc 0 i a rfl rfl)
  obtain⟨b,rfl⟩:=leaf_int T.hi (hc 1 i b rfl rfl)
  exact⟨⟨a,b⟩,rfl⟩

theorem leaf_list {i ta ea tp ep tl el tb eb:TypeId} (T:FnTys P i ta ea tp ep tl el tb eb) {c:CV} (h:Leaf P H tl c):∃ xs:List InsR,Row insP 5 H c xs∧xs.length≤maxLen:=by
 refine leaf_row T.htl T.hel T.hsl (fun cs hl hc=>?_) h
 match cs,hl with
 | [a,b,d,e,f],_ =>
  obtain⟨a,rfl⟩:=leaf_int T.hi (hc 0 i a rfl rfl)
  obtain⟨b,rfl⟩:=leaf_int T.hi (hc 1 i b rfl rfl)
  obtain⟨d,rfl⟩:=leaf_int T.hi (hc 2 i d rfl rfl)
  obtain⟨e,rfl⟩:=leaf_int T.hi (hc 3 i e rfl rfl)
  obtain⟨f,rfl⟩:=leaf_int T.hi (hc 4 i f rfl rfl)
  exact⟨⟨a,b,d,e,f⟩,rfl⟩

theorem leaf_phis {i ta ea tp ep tl el tb eb:TypeId} (T:FnTys P i ta ea tp ep tl el tb eb) {c:CV} (h:Leaf P H tp c):∃ xs:List PhiR,Row (phiP maxLen) 2 H c xs∧xs.length≤maxLen:=by
 refine leaf_row T.htp T.hep T.hsp (fun cs hl hc=>?_) h
 match cs,hl with
 | [a,b],_ =>
  obtain⟨a,rfl⟩:=leaf_int T.hi (hc 0 i a rfl rfl)
  obtain⟨xs,h1,h2⟩:=leaf_arms T (hc 1 ta b rfl rfl)
  exact⟨⟨a,xs⟩,b,rfl,h1,h2⟩

theorem leaf_blocks {i ta ea tp ep tl el tb eb:TypeId} (T:FnTys P i ta ea tp ep tl el tb eb) {c:CV} (h:Leaf P H tb c):∃ xs:List BlkR,Row (blkP maxLen) 6 H c xs∧xs.length≤maxLen:=by
 refine leaf_row T.htb T.heb T.hsb (fun cs hl hc=>?_) h
 match cs,hl with
 | [z,u,a,b,d,e],_ =>
  obtain⟨ps,p1,p2⟩:=leaf_phis T (hc 0 tp z rfl rfl)
  obtain⟨ls,l1,l2⟩:=leaf_list T (hc 1 tl u rfl rfl)
  obtain⟨a,rfl⟩:=leaf_int T.hi (hc 2 i a rfl rfl)
  obtain⟨b,rfl⟩:=leaf_int T.hi (hc 3 i b rfl rfl)
  obtain⟨d,rfl⟩:=leaf_int T.hi (hc 4 i d rfl rfl)
  obtain⟨e,rfl⟩:=leaf_int T.hi (hc 5 i e rfl rfl)
  exact⟨⟨ps,ls,⟨a,b,d,e⟩⟩,z,u,rfl,p1,l1,p2,l2⟩

theorem arg_fn {i ta ea tp ep tl el tb eb:TypeId} (T:FnTys P i ta ea tp ep tl el tb eb) {t:TypeId} {n:Nat} {iv:IV} (hp:plainT P n t=true) (ha:aggOf P t=some true) (hl:leafTs P n t=some [tb,i]) (h:ArgTy P H n t iv) :
  ∃ cs f,iv=.agg cs∧fnP maxLen H cs f:=by
 obtain⟨cvs,rfl,hlen,hc⟩:=h.agg hp ha hl
 match cvs,hlen with
 | [a,b],_ =>
  obtain⟨bs,b1,b2⟩:=leaf_blocks T (hc 0 tb a rfl rfl)
  obtain⟨m,rfl⟩:=leaf_int T.hi (hc 1 i b rfl rfl)
  exact⟨_,⟨bs,m⟩,rfl,a,rfl,b1,b2⟩

end

theorem phiP.small {B B':Nat} {H:Hp} {cs:List CV} {p:PhiR} (h:phiP B H cs p) (hs:p.arms.length≤B'):phiP B' H cs p:=by
 obtain⟨w,h1,h2,_⟩:=h;exact⟨w,h1,h2,hs⟩

theorem Row.imp {α:Type} {P P':Hp→List CV→α→Prop} {sz:Nat} {H:Hp} {v:CV} {xs:List α} (h:Row P sz H v xs) (hP:∀ cs x,x∈xs→P H cs x→P' H cs x):Row P' sz H v xs:=by
 obtain⟨css,h1,h2,h3⟩:=h
 exact⟨css,h1,h2,fun k cs x a b=>⟨(h3 k cs x a b).1,hP _ _ (List.mem_of_getElem? b) (h3 k cs x a b).2⟩⟩

theorem blkP.small {B B':Nat} {H:Hp} {cs:List CV} {b:BlkR} (h:blkP B H cs b) (hs:b.phis.length≤B'∧b.list.length≤B'∧∀ p∈b.phis,p.arms.length≤B'):blkP B' H cs b:=by
 obtain⟨w,u,h1,h2,h3,_⟩:=h
 exact⟨w,u,h1,h2.imp fun cs p hp h=>phiP.small h (hs.2.2 p hp),h3,hs.1,hs.2.1⟩

theorem fnP.small {B:Nat} {H:Hp} {cs:List CV} {f:FnR} (h:fnP B H cs f) (hs:Small f):fnP BIG H cs f:=by
 obtain⟨v,h1,h2,_⟩:=h
 exact⟨v,h1,h2.imp fun cs b hb h=>blkP.small h (hs.2 b hb),hs.1⟩

theorem sz_small {f:FnR} (h:0≤szFnF f 1048576):Small f:=by
 obtain⟨_,_,h3⟩:=szFnF_le (f:=f) (l:=1048576) (by omega)
 obtain⟨a,b⟩:=h3 h
 exact⟨a,b⟩
def cf (l:List Bool):Nat:=l.count false

theorem cf_set {l:List Bool} {b:Nat} (h:l.getD b true=false):cf (l.set b true)+1=cf l:=by
 induction l generalizing b with
 | nil=>simp at h
 | cons a r ih =>
  cases b with
  | zero=>simp at h;subst h;simp[cf]
  | succ b =>
   simp only[List.getD_cons_succ]at h
   have:=ih h
   simp only[List.set_cons_succ]
   cases a<;>simp[cf]at this ⊢<;>omega

theorem cf_set_le (l:List Bool) (b:Nat):cf (l.set b true)≤cf l:=by
 induction l generalizing b with
 | nil=>simp
 | cons a r ih =>
  cases b with
  | zero=>cases a<;>simp[cf]
  | succ b =>
   have:=ih b
   simp only[List.set_cons_succ]
   cases a<;>simp[cf]at this ⊢<;>omega

theorem unseen_lt {l:List Bool} {b:Nat} (h:l.getD b true=false):b<l.length:=by
 by_cases hb:b<l.length
 ·exact hb
 ·rw[List.getD_eq_getElem?_getD,List.getElem?_eq_none (by omega)]at h;cases h


abbrev WSt:=List Bool×List Int

def wstepWith (f:Nat→WSt→WSt) (q:WSt) (k:Int):WSt:=if q.1.getD k.toNat true=true then q else f k.toNat q

def walkF (bs:List BlkR):Nat→Nat→WSt→WSt
 | 0,_,p=>p
 | n+1,b,p =>
  let r:=(succsAt bs b).foldl (wstepWith (walkF bs n)) (p.1.set b true,p.2)
  (r.1,r.2++[(b:Int)])

def walkTo (bs:List BlkR) (n:Nat) (xs:List Int) (q:WSt) (i:Nat):WSt:=(xs.take i).foldl (wstepWith (walkF bs n)) q

theorem walkTo_all (bs:List BlkR) (n:Nat) (xs:List Int) (q:WSt):walkTo bs n xs q xs.length=xs.foldl (wstepWith (walkF bs n)) q:=by
 unfold walkTo;rw[List.take_length]

structure WOk (p r:WSt):Prop where
 len:r.1.length=p.1.length
 mono:∀ j,p.1.getD j true=true→r.1.getD j true=true
 le:cf r.1≤cf p.1

theorem WOk.refl (p:WSt):WOk p p:=⟨rfl,fun _ h=>h,Nat.le_refl _⟩

theorem WOk.trans {p q r:WSt} (h:WOk p q) (k:WOk q r):WOk p r:=⟨k.len.trans h.len,fun j hj=>k.mono j (h.mono j hj),Nat.le_trans k.le h.le⟩

theorem fold_ok {f:Nat→WSt→WSt} (ih:∀ b p,WOk p (f b p)∧(p.1.getD b true=false→(f b p).2.length+cf (f b p).1=p.2.length+cf p.1)) :
  ∀ (ks:List Int) (q:WSt),WOk q (ks.foldl (wstepWith f) q)∧(ks.foldl (wstepWith f) q).2.length+cf (ks.foldl (wstepWith f) q).1=q.2.length+cf q.1:=by
 intro ks
 induction ks with
 | nil=>intro q;exact⟨WOk.refl _,rfl⟩
 | cons k r ihk =>
  intro q
  simp only[List.foldl_cons]
  have h1:WOk q (wstepWith f q k)∧(wstepWith f q k).2.length+cf (wstepWith f q k).1=q.2.length+cf q.1:=by
   unfold wstepWith
   split
   ·exact⟨WOk.refl _,rfl⟩
   ·rename_i hn
    obtain⟨a,b⟩:=ih k.toNat q
    exact⟨a,b (by simpa using hn)⟩
  obtain⟨a,b⟩:=ihk (wstepWith f q k)
  exact⟨h1.1.trans a,b.trans h1.2⟩

theorem getD_setT {l:List Bool} {i j:Nat} (h:l.getD j true=true):(l.set i true).getD j true=true:=by
 rw[Vm.getD_set];split
 ·rfl
 ·exact h

theorem walkF_ok (bs:List BlkR):∀ n b p,WOk p (walkF bs n b p)∧(p.1.getD b true=false→(walkF bs n b p).2.length+cf (walkF bs n b p).1≤p.2.length+cf p.1)∧(p.1.getD b true=false→(walkF bs n b p).2.length+cf (walkF bs n b p).1=p.2.length+cf p.1):=by
 intro n
 induction n with
 | zero=>intro b p;exact⟨WOk.refl _,fun _=>Nat.le_refl _,fun _=>rfl⟩
 | succ n ih =>
  intro b p
  obtain⟨h1,h2⟩:=fold_ok (f:=walkF bs n) (fun b p=>⟨(ih b p).1,(ih b p).2.2⟩) (succsAt bs b) (p.1.set b true,p.2)
  have h0:WOk p (p.1.set b true,p.2):=⟨by simp,fun j hj=>getD_setT hj,cf_set_le _ _⟩
  have h3:p.1.getD b true=false→(walkF bs (n+1) b p).2.length+cf (walkF bs (n+1) b p).1=p.2.length+cf p.1:=by
   intro hb
   have:=cf_set hb
   simp only[walkF,List.length_append,List.length_cons,List.length_nil]
   simp only at h2
   omega
  refine⟨⟨?_,?_,?_⟩,fun h=>Nat.le_of_eq (h3 h),h3⟩
  ·exact (h0.trans h1).len
  ·exact (h0.trans h1).mono
  ·exact (h0.trans h1).le

theorem wfold_ok (bs:List BlkR) (n:Nat) (ks:List Int) (q:WSt):WOk q (ks.foldl (wstepWith (walkF bs n)) q)∧(ks.foldl (wstepWith (walkF bs n)) q).2.length+cf (ks.foldl (wstepWith (walkF bs n)) q).1=q.2.length+cf q.1:=
 fold_ok (fun b p=>⟨(walkF_ok bs n b p).1,(walkF_ok bs n b p).2.2⟩) ks q


def OutR (X:Hp) (w:CV) (out:List Int):Prop:=(w=.ns∧out=[])∨∃ o g,w=.sl o g 0 out.length∧rdOb X o g=some ⟨out.map .i,g,true,1⟩

def IsOut (w:CV) (id:Nat):Prop:=∃ g n,w=.sl id g 0 n

theorem OutR.lt {X:Hp} {w:CV} {out:List Int} (h:OutR X w out) {id:Nat} (hi:IsOut w id):id<X.length:=by
 obtain⟨g,n,rfl⟩:=hi
 rcases h with⟨h,_⟩ | ⟨o,g',h,ho⟩
 ·cases h
 ·cases h;exact rdOb_lt ho

theorem OutR.keep {X Y:Hp} {w:CV} {out:List Int} (h:OutR X w out) (hk:∀ id g ob,IsOut w id→rdOb X id g=some ob→rdOb Y id g=some ob):OutR Y w out:=by
 rcases h with⟨rfl,rfl⟩ | ⟨o,g,rfl,ho⟩
 ·exact .inl ⟨rfl,rfl⟩
 ·exact .inr ⟨o,g,rfl,hk _ _ _ ⟨g,_,rfl⟩ ho⟩

theorem OutR.push {X:Hp} {w:CV} {out:List Int} (h:OutR X w out) (b:Int) (hl:out.length+1≤LIM) :
  ∃ w' X',doApp X 1 w 1 [.i b]=some (.c w',X')∧OutR X' w' (out++[b])∧X.length≤X'.length∧(∀ id g ob,¬ IsOut w id→rdOb X id g=some ob→rdOb X' id g=some ob)∧(∀ id,IsOut w' id→IsOut w id∨X.length≤id) ∧
   (∀ H0,Pre H0 X→(∀ id,IsOut w id→H0.length≤id)→Pre H0 X'):=by
 rcases h with⟨rfl,rfl⟩ | ⟨o,g,rfl,ho⟩
 ·refine⟨.sl X.length 0 0 1,X++[⟨[.i b],0,true,1⟩],by simp[doApp,LIM],.inr ⟨X.length,0,rfl,by simp⟩,by simp,fun id g ob _ h=>rdOb_app _ h,fun id hi=>?_,fun H0 hp _=>hp.app _⟩
  obtain⟨g,n,h⟩:=hi
  cases h;exact .inr (Nat.le_refl _)
 ·have hlt:=rdOb_lt ho
  refine⟨.sl o (g+1) 0 (out.length+1),X.set o ⟨out.map .i++[.i b],g+1,true,1⟩,app_own ho (by simp) (by simp) (by simpa using hl),.inr ⟨o,g+1,by simp,?_⟩,by simp,fun id g' ob hn h=>?_,fun id hi=>?_,fun H0 hp hh=>hp.set (hh o ⟨_,_,rfl⟩) _⟩
  ·rw[rdOb_set_self hlt];simp
  ·rw[rdOb_set_ne (fun e=>hn ⟨g,_,by rw[e]⟩)];exact h
  ·obtain⟨g',n,h⟩:=hi
   cases h;exact .inl ⟨_,_,rfl⟩

theorem gc_ne {H H':Hp} {r:IV} {id g:Nat} {o o':Ob} (h:rdOb H id g=some o) (h':rdOb H' id g=some o') (hne:o≠o'):gcRet H r H'=(r,H'):=by
 unfold gcRet
 rw[if_neg]
 intro he
 have hlt:=rdOb_lt h
 obtain⟨a,b⟩:=rdOb_some.1 h
 obtain⟨c,d⟩:=rdOb_some.1 h'
 rw[← he,List.getElem?_take,if_pos hlt,c]at a
 injection a with a
 exact hne a.symm

theorem RowRes.len {X2:Hp} {sv:CV} {L:Hp} {xs:List Int} (h:RowRes X2 sv L xs):lenOf sv=some xs.length:=by
 rcases h with⟨rfl,rfl,rfl⟩ | ⟨rfl,rfl⟩<;>rfl

structure WInv (H0 X3:Hp) (s gs:Nat) (w0:CV) (p:WSt) (w:CV) (Y:Hp):Prop where
 pre:Pre H0 Y
 len:X3.length≤Y.length
 seen:rdOb Y s gs=some ⟨p.1.map .b,gs,true,1⟩
 out:OutR Y w p.2
 keep:∀ id g ob,id≠s→¬ IsOut w0 id→rdOb X3 id g=some ob→rdOb Y id g=some ob
 own:∀ id,IsOut w id→IsOut w0 id∨X3.length≤id

theorem WInv.app {H0 X3 Y:Hp} {s gs:Nat} {w0 w:CV} {p:WSt} (h:WInv H0 X3 s gs w0 p w Y) (B:Hp):WInv H0 X3 s gs w0 p w (Y++B):=
 ⟨h.pre.app _,by have:=h.len;simp only[List.length_append];omega,rdOb_app _ h.seen,h.out.keep fun _ _ _ _ k=>rdOb_app _ k,fun id g ob a b c=>rdOb_app _ (h.keep id g ob a b c),h.own⟩

theorem WInv.trans {H0 X3 Y Y':Hp} {s gs:Nat} {w0 w w':CV} {p p':WSt} (hs:s<X3.length) (h:WInv H0 X3 s gs w0 p w Y) (k:WInv H0 Y s gs w p' w' Y'):WInv H0 X3 s gs w0 p' w' Y':=by
 refine⟨k.pre,Nat.le_trans h.len k.len,k.seen,k.out,fun id g ob h1 h2 h3=>k.keep id g ob h1 (fun hi=>?_) (h.keep id g ob h1 h2 h3),fun id hi=>?_⟩
 ·have:=rdOb_lt h3
  rcases h.own id hi with h | h
  ·exact h2 h
  ·omega
 ·rcases k.own id hi with h1 | h1
  ·exact h.own id h1
  ·have:=h.len
   exact .inr (by omega)

theorem WInv.res {H0 X X2 L Y:Hp} {s gs:Nat} {w0 w:CV} {b:Nat} {n:Nat} {bs:List BlkR} {seen:List Bool} {out:List Int}
  (hf2:∀ id g ob,id≠s→rdOb X id g=some ob→rdOb X2 id g=some ob) (hX2l:X2.length=X.length+1) (hs:H0.length≤s) (hw:∀ id,IsOut w0 id→H0.length≤id∧id≠s) (hX:Pre H0 X)
  (hseen:rdOb X s gs=some ⟨seen.map .b,gs,true,1⟩) (hbs:seen.getD b true=false) (h:WInv H0 (X2++L) s gs w0 (walkTo bs n (succsAt bs b) (seen.set b true,out) (succsAt bs b).length) w Y)
  (hlim:out.length+cf seen≤BIG) :
  ∃ w' Y',doApp Y 1 w 1 [.i b]=some (.c w',Y')∧gcRet X (.c w') Y'=(.c w',Y')∧WInv H0 X s gs w0 (walkF bs (n+1) b (seen,out)) w' Y':=by
 have hq:walkF bs (n+1) b (seen,out)=((walkTo bs n (succsAt bs b) (seen.set b true,out) (succsAt bs b).length).1,(walkTo bs n (succsAt bs b) (seen.set b true,out) (succsAt bs b).length).2++[(b:Int)]):=by
  rw[walkTo_all];rfl
 obtain⟨hok,hsum⟩:=wfold_ok bs n (succsAt bs b) (seen.set b true,out)
 rw[← walkTo_all]at hok hsum
 have hcs:=cf_set hbs
 have hbl:=unseen_lt hbs
 simp only at hsum
 generalize walkTo bs n (succsAt bs b) (seen.set b true,out) (succsAt bs b).length=R at *
 have hsl:=rdOb_lt hseen
 have hnew:R.1.getD b true=true:=hok.mono b (by rw[Vm.getD_set];simp[hbl])
 have hlen:=h.len
 have hsy:¬ IsOut w s:=by
  intro hi
  rcases h.own s hi with h1 | h1
  ·exact (hw s h1).2 rfl
  ·simp only[List.length_append]at h1;omega
 obtain⟨w',Y',h1,h2,h3,h4,h5,h6⟩:=h.out.push (b:Int) (by simp only[BIG]at hlim;simp only[LIM];omega)
 have hp0:=hX.le
 have hown:∀ id,IsOut w' id→IsOut w0 id∨X.length≤id:=by
  intro id hi
  rcases h5 id hi with h7 | h7
  ·rcases h.own id h7 with h8 | h8
   ·exact .inl h8
   ·simp only[List.length_append]at h8;exact .inr (by omega)
  ·simp only[List.length_append]at hlen;exact .inr (by omega)
 refine⟨w',Y',h1,gc_ne hseen (h4 _ _ _ hsy h.seen) ?_,?_⟩
 ·intro e
  have e1:seen.map CV.b=R.1.map CV.b:=congrArg Ob.cells e
  have e2:seen=R.1:=by
   have:=congrArg (List.map fun | CV.b x=>x | _=>true) e1
   simpa [List.map_map,Function.comp_def] using this
  rw[← e2,hbs]at hnew;cases hnew
 ·rw[hq]
  refine⟨h6 H0 h.pre fun id hi=>?_,?_,h4 _ _ _ hsy h.seen,h2,fun id g ob e1 e2 e3=>h4 _ _ _ (fun hi=>?_) (h.keep id g ob e1 e2 (rdOb_app _ (hf2 id g ob e1 e3))),hown⟩
  ·rcases h.own id hi with h8 | h8
   ·exact (hw id h8).1
   ·simp only[List.length_append]at h8;omega
  ·simp only[List.length_append]at hlen;omega
  ·have:=rdOb_lt e3
   rcases h.own id hi with h8 | h8
   ·exact e2 h8
   ·simp only[List.length_append]at h8;omega
def revTo (xs:List Int) (i:Nat):List Int:=(List.range xs.length).map fun k=>if k<i∨xs.length≤k+i then xs.getD (xs.length - 1 - k) 0 else xs.getD k 0

@[simp] theorem revTo_len (xs:List Int) (i:Nat):(revTo xs i).length=xs.length:=by simp[revTo]


def walk0 (bs:List BlkR):WSt:=walkF bs bs.length 0 (List.replicate bs.length false,[])

def seenF (bs:List BlkR):List Bool:=(walk0 bs).1
def IsL (H:Hp) (v:CV) (xs:List Bool):Prop:=Sl H 1 v xs.length (xs.map .b)

theorem IsL.lenOf {H:Hp} {v:CV} {xs:List Bool} (h:IsL H v xs):lenOf v=some xs.length:=Sl.lenOf h

theorem IsL.at_ {H:Hp} {v:CV} {xs:List Bool} (h:IsL H v xs) {k:Nat} (hk:k<xs.length) :
  ∃ id g off,idxOf 1 v (k:Int)=some (.p id g off)∧rdC H id g off=some (.b xs[k]):=by
 obtain⟨id,g,off,o,h1,h2,_,h3⟩:=Sl.get h hk
 refine⟨id,g,off,h1,?_⟩
 have:=h3 0 (by omega)
 simp[hk]at this
 simp[rdC,h2,this]

theorem IsL.pre {H X:Hp} (hp:Pre H X) {v:CV} {xs:List Bool} (h:IsL H v xs):IsL X v xs:=Sl.pre hp h

theorem IsL.ns (H:Hp):IsL H .ns []:=.inl ⟨rfl,rfl,rfl⟩

theorem IsL.mk {H:Hp} {id g off:Nat} {o:Ob} {xs:List Bool} (h:rdOb H id g=some o) (hs:o.sz=1) (hl:off+xs.length≤o.cells.length) (hc:(o.cells.drop off).take xs.length=xs.map .b):IsL H (.sl id g off xs.length) xs:=
 .inr ⟨id,g,off,o,rfl,h,hs,by omega,by rw[Nat.mul_one];exact hc⟩

def third (x:Int):Bool:=decide (x.tmod 3=0)

def flags (n:Nat):List Bool:=(List.range n).map fun (j:Nat)=>third (1+(j:Int))

@[simp] theorem flags_len (n:Nat):(flags n).length=n:=by simp[flags]

def RowB (H:Hp) (w:CV) (L:Hp) (xs:List Bool):Prop:=(w=.ns∧L=[]∧xs=[])∨(w=.sl H.length 0 0 xs.length∧L=[⟨xs.map .b,0,true,1⟩])

theorem RowB.own {H L:Hp} {w:CV} {xs:List Bool} (h:RowB H w L xs):Own (H++L) H.length 1 w xs.length (xs.map .b):=by
 rcases h with⟨rfl,rfl,rfl⟩ | ⟨rfl,rfl⟩
 ·exact .inl ⟨rfl,rfl,rfl⟩
 ·exact .inr ⟨_,rfl,Nat.le_refl _,by simp,by simp⟩


structure Seen (p r:WSt):Prop where
 new:∃ ns:List Int,r.2=p.2++ns∧(∀ x∈ns,∃ k:Nat,x=k∧k<p.1.length)∧∀ j:Nat,r.1.getD j false=true↔p.1.getD j false=true∨(j:Int)∈ns

theorem Seen.refl (p:WSt):Seen p p:=⟨[],by simp,by simp,by simp⟩

theorem Seen.trans {p q r:WSt} (hl:q.1.length=p.1.length) (h:Seen p q) (k:Seen q r):Seen p r:=by
 obtain⟨n1,a1,b1,c1⟩:=h.new
 obtain⟨n2,a2,b2,c2⟩:=k.new
 refine⟨n1++n2,by rw[a2,a1,List.append_assoc],fun x hx=>?_,fun j=>?_⟩
 ·rcases List.mem_append.1 hx with h | h
  ·exact b1 x h
  ·obtain⟨k,hk,hk2⟩:=b2 x h;exact⟨k,hk,by omega⟩
 ·rw[c2,c1,List.mem_append,or_assoc]
def edC (xs:List ArmR):List CV:=(xs.map armC).flatten

@[simp] theorem edC_nil:edC []=[]:=rfl

@[simp] theorem edC_len (xs:List ArmR):(edC xs).length=xs.length * 2:=by
 induction xs with
 | nil=>rfl
 | cons a r ih=>simp[edC,armC]at ih ⊢;omega

theorem Own.isE {Y:Hp} {lo:Nat} {w:CV} {n:Nat} {xs:List ArmR} (h:Own Y lo 2 w n (edC xs)):Row armP 2 Y w xs:=by
 rcases h with⟨rfl,rfl,h⟩ | ⟨id,rfl,h1,h2,h3⟩
 ·have:xs=[]:=by
   have:=congrArg List.length h
   simp at this;exact List.length_eq_zero_iff.1 (by omega)
  subst this
  exact⟨[],.inl ⟨rfl,rfl,rfl⟩,rfl,fun k cs x h=>by simp at h⟩
 ·simp at h3
  have h3:n=xs.length:=by omega
  subst h3
  exact Row.mk h2 rfl rfl (by simp) fun k cs x a b=>by
   rw[List.getElem?_map,b]at a
   simp at a;subst a
   exact⟨rfl,rfl⟩

def RowE (H:Hp) (w:CV) (L:Hp) (xs:List ArmR):Prop:=(w=.ns∧L=[]∧xs=[])∨(w=.sl H.length 0 0 xs.length∧L=[⟨edC xs,0,true,2⟩])

theorem RowE.own {H L:Hp} {w:CV} {xs:List ArmR} (h:RowE H w L xs):Own (H++L) H.length 2 w xs.length (edC xs):=by
 rcases h with⟨rfl,rfl,rfl⟩ | ⟨rfl,rfl⟩
 ·exact .inl ⟨rfl,rfl,rfl⟩
 ·exact .inr ⟨_,rfl,Nat.le_refl _,by simp,by simp⟩

theorem RowE.isE {H L:Hp} {w:CV} {xs:List ArmR} (h:RowE H w L xs):Row armP 2 (H++L) w xs:=h.own.isE

def edgs (n:Nat):List ArmR:=(List.range n).map fun (j:Nat)=>⟨1+2 * (j:Int),2+2 * (j:Int)⟩

@[simp] theorem edgs_len (n:Nat):(edgs n).length=n:=by simp[edgs]
def falses (n:Nat):List Bool:=List.replicate n false

def walkB (bs:List BlkR) (b:Nat):WSt:=walkF bs bs.length 0 ((falses bs.length).set b true,[])

def withoutF (bs:List BlkR) (b:Nat):List Bool:=if b=0 then falses bs.length else (walkB bs b).1.set b false
def domB (bs:List BlkR) (b a:Nat):Bool:=(seenF bs).getD a false && (seenF bs).getD b false && !(withoutF bs a).getD b false

def domTo (bs:List BlkR) (n b:Nat):List Int:=((List.range n).filter (domB bs b)).map fun (a:Nat)=>(a:Int)

def domF (bs:List BlkR) (b:Nat):List Int:=domTo bs bs.length b

structure DInv (K:Nat→Prop) (d n:Nat) (f:Nat→List Int) (Y:Hp):Prop where
 kd:∀ id,K id→id≠d∧id<Y.length
 row:∃ cells,rdOb Y d 0=some ⟨cells,0,true,1⟩∧cells.length=n∧∀ b,b<n→∃ c,cells[b]? = some c∧OutR Y c (f b)∧(∀ id,IsOut c id→¬ K id∧id≠d)∧∀ b' c',b'<n→b'≠b→cells[b']? = some c'→∀ id,IsOut c id→¬ IsOut c' id

theorem DInv.app {K:Nat→Prop} {d n:Nat} {f:Nat→List Int} {Y:Hp} (h:DInv K d n f Y) (L:Hp):DInv K d n f (Y++L):=by
 obtain⟨h1,cells,h2,h3,h4⟩:=h
 refine⟨fun id hi=>⟨(h1 id hi).1,by have:=(h1 id hi).2;simp only[List.length_append];omega⟩,cells,rdOb_app L h2,h3,fun b hb=>?_⟩
 obtain⟨c,a1,a2,a3,a4⟩:=h4 b hb
 exact⟨c,a1,a2.keep fun _ _ _ _ h=>rdOb_app L h,a3,a4⟩

theorem DInv.push {K:Nat→Prop} {d n:Nat} {f:Nat→List Int} {Y:Hp} (h:DInv K d n f Y) {b:Nat} (hb:b<n) (x:Int) (hl:(f b).length+1≤LIM) (B:Hp) :
  ∃ c c' Z cells,(∃ o g n,c'=.sl o g 0 n)∧rdC Y d 0 b=some c∧doApp (Y++B) 1 c 1 [.i x]=some (.c c',Z)∧rdOb Z d 0=some ⟨cells,0,true,1⟩∧b+1≤cells.length ∧
   DInv K d n (fun j=>if j=b then f b++[x] else f j) (Z.set d ⟨putAt cells b [c'],0,true,1⟩)∧∀ id g ob,K id→rdOb Y id g=some ob→rdOb (Z.set d ⟨putAt cells b [c'],0,true,1⟩) id g=some ob:=by
 obtain⟨h1,cells,h2,h3,h4⟩:=h.app B
 have h1':=h.kd
 obtain⟨_,cells0,h20,_,_⟩:=h
 have e0:cells0=cells:=by
  have:=rdOb_app B h20
  rw[h2]at this
  injection this with this;injection this with this;exact this.symm
 subst e0
 obtain⟨c,a1,a2,a3,a4⟩:=h4 b hb
 obtain⟨c',Z,p1,p2,p3,p4,p5,_⟩:=a2.push x hl
 have hdc:¬ IsOut c d:=fun hi=>(a3 d hi).2 rfl
 have hdZ:=p4 d 0 _ hdc h2
 have hdl:=rdOb_lt hdZ
 have hbl:b<cells0.length:=by omega
 have hc's:∃ o g n,c'=.sl o g 0 n:=by
  rcases p2 with⟨_,h⟩ | ⟨o,g,h,_⟩
  ·simp at h
  ·exact⟨o,g,_,h⟩
 refine⟨c,c',Z,cells0,hc's,by rw[rdC_ob h20];exact a1,p1,hdZ,by omega,⟨fun id hi=>⟨(h1 id hi).1,by have:=(h1 id hi).2;rw[List.length_set];omega⟩,cells0.set b c',?_,by simp[h3],fun j hj=>?_⟩,fun id g ob hk ho=>?_⟩
 ·rw[rdOb_set_self hdl,putAt_get hbl];simp
 ·have hc'd:∀ id,IsOut c' id→¬ K id∧id≠d:=by
   intro id hi
   rcases p5 id hi with h7 | h7
   ·exact a3 id h7
   ·exact⟨fun hk=>by have:=(h1 id hk).2;omega,by have:=rdOb_lt h2;omega⟩
  by_cases e:j=b
  ·subst e
   refine⟨c',by rw[List.getElem?_set];simp[hbl],?_,hc'd,fun b' c2 hb' hne hc2 id hi=>?_⟩
   ·simp only[if_true]
    exact p2.keep fun id g ob hi ho=>by rw[rdOb_set_ne (hc'd id hi).2];exact ho
   ·rw[List.getElem?_set,if_neg (by omega)]at hc2
    obtain⟨c3,q1,q2,_,_⟩:=h4 b' hb'
    rw[hc2]at q1;injection q1 with q1;subst q1
    rcases p5 id hi with h7 | h7
    ·exact a4 b' c2 hb' hne hc2 id h7
    ·intro hi2
     have:=q2.lt hi2
     omega
  ·obtain⟨cj,q1,q2,q3,q4⟩:=h4 j hj
   refine⟨cj,by rw[List.getElem?_set,if_neg (by omega)];exact q1,?_,q3,fun b' c2 hb' hne hc2 id hi=>?_⟩
   ·rw[if_neg e]
    exact q2.keep fun id g ob hi ho=>by
     rw[rdOb_set_ne (q3 id hi).2]
     exact p4 id g ob (a4 j cj hj e q1 id |> fun h hc=>(q4 b c hb (fun e'=>e e'.symm) a1 id hi) hc) ho
   ·rw[List.getElem?_set]at hc2
    split at hc2
    ·rename_i e2
     subst e2
     injection hc2 with hc2
     subst hc2
     intro hi2
     rcases p5 id hi2 with h7 | h7
     ·exact q4 b c hb hne a1 id hi h7
     ·have:=q2.lt hi
      omega
    ·exact q4 b' c2 hb' hne hc2 id hi
 ·rw[rdOb_set_ne (h1' id hk).1]
  exact p4 id g ob (fun hi=>(a3 id hi).1 hk) (rdOb_app B ho)

def DomsRes (H:Hp) (bs:List BlkR) (r:IV×Hp):Prop:=∃ d X' cells,r=(.c (.sl d 0 0 bs.length),X')∧Pre H X'∧rdOb X' d 0=some ⟨cells,0,true,1⟩∧cells.length=bs.length∧∀ b,b<bs.length→∃ c,cells[b]? = some c∧IsI X' c (domF bs b)

theorem OutR.isI {X:Hp} {w:CV} {out:List Int} (h:OutR X w out):IsI X w out:=by
 rcases h with⟨rfl,rfl⟩ | ⟨o,g,rfl,ho⟩
 ·exact IsI.ns _
 ·exact IsI.mk ho rfl (by simp) (by rw[List.drop_zero,List.take_of_length_le (by simp)])

theorem DInv.res {K:Nat→Prop} {H Y:Hp} {d:Nat} {bs:List BlkR} (h:DInv K d bs.length (domF bs) Y) (hp:Pre H Y) (hd:H.length≤d):DomsRes H bs (gcRet H (.c (.sl d 0 0 bs.length)) Y):=by
 obtain⟨_,cells,h2,h3,h4⟩:=h
 by_cases hf:cells.all flatC=true
 ·rw[gcRet_row hp hd h2 rfl hf]
  refine⟨H.length,_,cells,rfl,⟨_,rfl⟩,by simp,h3,fun b hb=>?_⟩
  obtain⟨c,a1,a2,_,_⟩:=h4 b hb
  refine⟨c,a1,?_⟩
  rcases a2 with⟨rfl,e⟩ | ⟨o,g,rfl,_⟩
  ·rw[e];exact IsI.ns _
  ·have:=List.all_eq_true.1 hf _ (List.mem_of_getElem? a1)
   cases this
 ·have e:gcRet H (.c (.sl d 0 0 bs.length)) Y=(.c (.sl d 0 0 bs.length),Y):=by
   unfold gcRet
   rw[if_pos hp.take,if_neg (by simp[flatV,flatC])]
   simp only[hd,if_true,(rdOb_some.1 h2).1]
   rw[if_neg (by simp[hf])]
  rw[e]
  refine⟨d,Y,cells,rfl,hp,h2,h3,fun b hb=>?_⟩
  obtain⟨c,a1,a2,_,_⟩:=h4 b hb
  exact⟨c,a1,a2.isI⟩

theorem DInv.congr {K:Nat→Prop} {d n:Nat} {f f':Nat→List Int} {Y:Hp} (h:DInv K d n f Y) (hf:∀ b,b<n→f b=f' b):DInv K d n f' Y:=by
 obtain⟨h1,cells,h2,h3,h4⟩:=h
 refine⟨h1,cells,h2,h3,fun b hb=>?_⟩
 obtain⟨c,a1,a2,a3,a4⟩:=h4 b hb
 exact⟨c,a1,by rw[← hf b hb];exact a2,a3,a4⟩

theorem DInv.start {Y:Hp} {n:Nat}:DInv (fun id=>id<Y.length) Y.length n (fun _=>[]) (Y++[⟨List.replicate n .ns,0,true,1⟩]):=by
 refine⟨fun id hi=>⟨by omega,by simp;omega⟩,List.replicate n .ns,by simp,by simp,fun b hb=>⟨.ns,by simp[hb],.inl ⟨rfl,rfl⟩,(fun id ⟨_,_,h⟩=>by cases h),fun b' c' _ _ _ id ⟨_,_,h⟩=>by cases h⟩⟩
def KeepK (d s:Nat) (X Z:Hp):Prop:=∀ id g ob,(id<d∨id=s)→rdOb X id g=some ob→rdOb Z id g=some ob

theorem KeepK.pre {H X Z:Hp} {d s:Nat} (h:KeepK d s X Z) (hp:Pre H X) (hl:H.length≤d):Pre H Z:=Low.pre (lo:=d) (fun id g o hl ho=>h id g o (.inl hl) ho) hp hl
inductive Rch (bs:List BlkR) (bar:Nat→Prop) (s:Nat):Nat→Prop
 | start:¬ bar s→Rch bs bar s s
 | step {j k:Nat}:Rch bs bar s j→(k:Int)∈succsAt bs j→¬ bar k→Rch bs bar s k

theorem Rch.mono {bs:List BlkR} {bar bar':Nat→Prop} {s j:Nat} (h:Rch bs bar s j) (hb:∀ k,bar' k→bar k):Rch bs bar' s j:=by
 induction h with
 | start h=>exact .start fun h'=>h (hb _ h')
 | step _ hs hk ih=>exact .step ih hs fun h'=>hk (hb _ h')

def On (l:List Bool) (j:Nat):Prop:=l.getD j true=true

structure Dfs (bs:List BlkR) (p r:WSt):Prop where
 closed:∀ k,On r.1 k→¬ On p.1 k→∀ s∈succsAt bs k,On r.1 s.toNat

theorem Dfs.refl (bs:List BlkR) (p:WSt):Dfs bs p p:=⟨fun k h1 h2=>absurd h1 h2⟩

theorem Dfs.trans {bs:List BlkR} {p q r:WSt} (hm:WOk q r) (h:Dfs bs p q) (k:Dfs bs q r):Dfs bs p r:=by
 refine⟨fun j h1 h2 s hs=>?_⟩
 by_cases hq:On q.1 j
 ·exact hm.mono _ (h.closed j hq h2 s hs)
 ·exact k.closed j h1 hq s hs

theorem rch_trans {bs:List BlkR} {s x a b:Nat} (h:Rch bs (·=x) s b):Rch bs (·=a) s b∨Rch bs (·=x) s a:=by
 induction h with
 | start hs =>
  by_cases e:s=a
  ·subst e;exact .inr (.start hs)
  ·exact .inl (.start e)
 | @step j k hj hs hk ih =>
  rcases ih with ih | ih
  ·by_cases e:k=a
   ·subst e;exact .inr (.step hj hs hk)
   ·exact .inl (.step ih hs e)
  ·exact .inr ih
def Dom (bs:List BlkR) (a b:Nat):Prop:=Rch bs (fun _=>False) 0 a∧Rch bs (fun _=>False) 0 b∧¬ Rch bs (·=a) 0 b

theorem Dom.trans {bs:List BlkR} {x a b:Nat} (h:Dom bs x a) (k:Dom bs a b):Dom bs x b:=by
 refine⟨h.1,k.2.1,fun hr=>?_⟩
 rcases rch_trans (a:=a) hr with h1 | h1
 ·exact k.2.2 h1
 ·exact h.2.2 h1
theorem sort_call {H:Hp} {id g:Nat} {xs:List Int} (ho:rdOb H id g=some ⟨xs.map .i,g,true,1⟩) (hb:xs.length≤LIM) (k:IV×Hp→Prop) :
  CM 31 [.c (.sl id g 0 xs.length)] H k=k (.tup [],H.set id ⟨(sortI xs).map .i,g,true,1⟩):=by
 have hM:M 31=none:=by rfl
 refine det ?_ k
 refine callD_of XK_mono ?_
 unfold bodyD
 rw[hM]
 refine⟨rfl,.inr ⟨id,g,0,_,xs,rfl,ho,rfl,rfl,by simp,by simp[List.take_of_length_le],hb,?_⟩⟩
 simp[putAt,List.drop_of_length_le]
def newAt (xs:List Int) (j:Nat):Bool:=decide (j=0) || !decide (xs.getD j 0=xs.getD (j - 1) 0)

def compTo (xs:List Int) (k:Nat):List Int:=((List.range k).filter (newAt xs)).map fun j=>xs.getD j 0

def compI (xs:List Int):List Int:=compTo xs xs.length

theorem compTo_succ (xs:List Int) (k:Nat):compTo xs (k+1)=compTo xs k++(if newAt xs k=true then [xs.getD k 0] else []):=by
 unfold compTo
 rw[List.range_succ,List.filter_append,List.map_append]
 congr 1
 cases h:newAt xs k<;>simp[h]

theorem compTo_le (xs:List Int) (k:Nat):(compTo xs k).length≤k:=by
 unfold compTo
 rw[List.length_map]
 exact Nat.le_trans (List.length_filter_le _ _) (by simp)

theorem compTo_take {xs:List Int} {k:Nat} (hk:k≤xs.length) (h:∀ j,j<k→newAt xs j=true):compTo xs k=xs.take k:=by
 induction k with
 | zero=>rfl
 | succ k ih =>
  rw[compTo_succ,ih (by omega) (fun j hj=>h j (by omega)),if_pos (h k (by omega)),List.take_succ_eq_append_getElem (by omega),List.getD_eq_getElem?_getD,List.getElem?_eq_getElem (by omega)];rfl

def compS (xs:List Int) (k:Nat):List Int:=compTo xs k++xs.drop (compTo xs k).length

theorem compS_len {xs:List Int} {k:Nat} (hk:k≤xs.length):(compS xs k).length=xs.length:=by
 have:=compTo_le xs k
 unfold compS;simp;omega

theorem compS_at {xs:List Int} {k p:Nat} (h:(compTo xs k).length≤p):(compS xs k).getD p 0=xs.getD p 0:=by
 unfold compS
 rw[List.getD_eq_getElem?_getD,List.getElem?_append_right h,List.getElem?_drop,List.getD_eq_getElem?_getD]
 congr 2;omega

theorem compS_same {xs:List Int} {k:Nat} (h:newAt xs k=false):compS xs (k+1)=compS xs k∧compTo xs (k+1)=compTo xs k:=by
 have e:compTo xs (k+1)=compTo xs k:=by rw[compTo_succ,h];simp
 unfold compS;rw[e];exact⟨rfl,rfl⟩

theorem compS_new {xs:List Int} {k:Nat} (hk:k<xs.length) (h:newAt xs k=true):compS xs (k+1)=(compS xs k).set (compTo xs k).length (xs.getD k 0)∧(compTo xs (k+1)).length=(compTo xs k).length+1:=by
 have e:compTo xs (k+1)=compTo xs k++[xs.getD k 0]:=by rw[compTo_succ,h];simp
 have hle:=compTo_le xs k
 constructor
 ·unfold compS
  have hd:=List.drop_eq_getElem_cons (show (compTo xs k).length<xs.length by omega)
  rw[e,List.set_append_right _ _ (Nat.le_refl _),Nat.sub_self,hd,List.set_cons_zero,List.append_assoc,List.length_append]
  rfl
 ·rw[e];simp

theorem gc_rowI {X Z:Hp} {id g n:Nat} (hlt:id<X.length):gcRet X (.c (.sl id g 0 n)) Z=(.c (.sl id g 0 n),Z):=by
 unfold gcRet
 split
 ·rw[if_neg (by simp[flatV,flatC])]
  simp only
  rw[if_neg (by omega)]
 ·rfl

theorem getD_ix {xs:List Int} {k:Nat} (hk:k<xs.length):xs.getD k 0=xs[k]:=by
 rw[List.getD_eq_getElem?_getD,List.getElem?_eq_getElem hk];rfl

theorem rdc_int {H:Hp} {id g k:Nat} {xs:List Int} (ho:rdOb H id g=some ⟨xs.map .i,g,true,1⟩) (hk:k<xs.length):rdC H id g k=some (.i (xs.getD k 0)):=by
 rw[rdC_ob ho]
 simp[hk,getD_ix hk]

set_option maxRecDepth 100000 in
theorem compact_call {H:Hp} {id g:Nat} {xs:List Int} (ho:rdOb H id g=some ⟨xs.map .i,g,true,1⟩) (hb:xs.length≤BIG) :
  CM 32 [.c (.sl id g 0 xs.length)] H fun r=>∃ Z rest,r=(.c (.sl id g 0 (compI xs).length),Z)∧Z=H.set id ⟨(compI xs++rest).map .i,g,true,1⟩:=by
 have hlt:=rdOb_lt ho
 have hH:H.set id ⟨xs.map .i,g,true,1⟩=H:=by
  have h1:=(rdOb_some.1 ho).1
  apply List.ext_getElem?
  intro i
  rw[List.getElem?_set]
  split
  ·rename_i h;subst h;simp[hlt,h1]at h1 ⊢
   first | exact h1.symm | simp_all
  ·rfl
 refine cw32 ?_
 unfold vf32c
 have hall:(∀ j,j<xs.length→newAt xs j=true)→∀ Z,Z=H→∃ Z' rest,(IV.c (.sl id g 0 xs.length),Z)=(IV.c (.sl id g 0 (compI xs).length),Z')∧Z'=H.set id ⟨(compI xs++rest).map .i,g,true,1⟩:=by
  intro h Z hZ
  have e:compI xs=xs:=by unfold compI;rw[compTo_take (Nat.le_refl _) h,List.take_length]
  exact⟨_,[],by rw[e],by rw[e,List.append_nil,hH,hZ]⟩
 by_cases h2:xs.length<2
 ·have h2i:(xs.length:Int)<2:=by omega
  simp[h2i]
  have:=hall (fun j hj=>by
   have:j=0:=by omega
   subst this;simp[newAt]) H rfl
  rw[gc_rowI hlt]
  simpa using this
 ·have h2i:¬ (xs.length:Int)<2:=by omega
  simp[h2i]
  have hix:∀ k,k<xs.length→idxOf 1 (.sl id g 0 xs.length) (k:Int)=some (.p id g k):=fun k hk=>by simp[idxOf,hk]
  obtain⟨I,hI⟩:∃ I:Nat→St→Prop,∀ i s,I i s↔((∀ j,j≤i→newAt xs j=true)∧s.h=H∧Env.get s.e 0=.c (.sl id g 0 xs.length)∧Env.get s.e 3=.c (.i ((i+1:Nat):Int))):=⟨_,fun _ _=>Iff.rfl⟩
  refine wp_for CM_mono (xs.length - 1) I ((hI _ ⟨_,_⟩).2 ⟨fun j hj=>?_,rfl,by simp⟩) ?_ ?_
  ·have:j=0:=by omega
   subst this;simp[newAt]
  ·rintro i ⟨e,Y⟩ hi hIs
   obtain⟨hn,rfl,e0,e3⟩:=(hI _ _).1 hIs
   simp only at ho hlt hH hall hI e0 e3 hIs ⊢
   have hi1:i+1<xs.length:=by omega
   have q1:=hix (i+1) hi1
   have q0:=hix i (by omega)
   have c1:=rdc_int ho hi1
   have c0:=rdc_int ho (show i<xs.length by omega)
   have hlI:((i+1:Nat):Int)<(xs.length:Int):=by omega
   have hw:wrap64 (((i+1:Nat):Int) - 1)=(i:Int):=by rw[wrap64_id (by simp only[BIG]at hb;omega)];omega
   have hna:newAt xs (i+1)=!decide (xs.getD (i+1) 0=xs.getD i 0):=by unfold newAt;simp
   obtain⟨x,hx⟩:∃ x,xs.getD (i+1) 0=x:=⟨_,rfl⟩
   obtain⟨y,hy⟩:∃ y,xs.getD i 0=y:=⟨_,rfl⟩
   rw[hx]at c1 hna
   rw[hy]at c0 hna
   obtain⟨k,hk⟩:∃ k,i+1=k:=⟨_,rfl⟩
   rw[hk]at e3 q1 c1 hlI hw hna hi1
   unfold vf32b1
   by_cases hxy:x=y
   ·rw[hxy]at c1
    have hnk:newAt xs k=false:=by rw[hna];simp[hxy]
    have hck:compTo xs k=xs.take k:=compTo_take (by omega) fun j hj=>hn j (by omega)
    have hcl:(compTo xs (k+1)).length=k:=by rw[(compS_same hnk).2,hck,List.length_take];omega
    have hS0:compS xs (k+1)=xs:=by
     rw[(compS_same hnk).1];unfold compS
     rw[hck,List.length_take,Nat.min_eq_left (by omega),List.take_append_drop]
    have hs1:doSlice Y 1 (.sl id g 0 xs.length) (some (.c (.i (k:Int)))) none=some (.c (.sl id g k (xs.length - k))):=by
     simp[doSlice,ho]<;>omega
    simp[e0,e3,hlI,q1,c1,hw,q0,c0,hs1]
    obtain⟨J,hJ⟩:∃ J:Nat→St→Prop,∀ j s,J j s↔((compTo xs (k+1+j)).length≤k+j∧s.h=Y.set id ⟨(compS xs (k+1+j)).map .i,g,true,1⟩∧Env.get s.e 0=.c (.sl id g 0 xs.length)∧Env.get s.e 3=.c (.i ((compTo xs (k+1+j)).length:Int))∧Env.get s.e 4=.c (.sl id g k (xs.length - k))∧Env.get s.e 5=.c (.i ((j+1:Nat):Int))):=⟨_,fun _ _=>Iff.rfl⟩
    refine wp_for CM_mono (xs.length - k - 1) J ((hJ _ ⟨_,_⟩).2 ⟨by rw[Nat.add_zero,hcl];omega,by rw[Nat.add_zero,hS0];exact hH.symm,?_⟩) ?_ ?_
    ·rw[Nat.add_zero,hcl];simp
    ·rintro j ⟨e',Z⟩ hj hJs
     obtain⟨hle,hZ,f0,f3,f4,f5⟩:=(hJ _ _).1 hJs
     simp only at hZ f0 f3 f4 f5 ⊢
     obtain⟨p,hp⟩:∃ p,k+1+j=p:=⟨_,rfl⟩
     have hpl:p<xs.length:=by omega
     have hU:=compS_len (xs:=xs) (k:=p) (by omega)
     rw[hp]at hle hZ f3
     obtain⟨c,hc⟩:∃ c,(compTo xs p).length=c:=⟨_,rfl⟩
     rw[hc]at hle f3
     have hoZ:rdOb Z id g=some ⟨(compS xs p).map .i,g,true,1⟩:=by rw[hZ,rdOb_set_self hlt];simp
     have d1:=rdc_int hoZ (k:=p) (by omega)
     have d0:=rdc_int hoZ (k:=p - 1) (by omega)
     rw[compS_at (by omega)]at d1 d0
     have j1:idxOf 1 (.sl id g k (xs.length - k)) ((j+1:Nat):Int)=some (.p id g p):=by simp[idxOf];omega
     have j0:idxOf 1 (.sl id g k (xs.length - k)) (j:Int)=some (.p id g (p - 1)):=by simp[idxOf];omega
     have jc:=hix c (by omega)
     have hlJ:((j+1:Nat):Int)<((xs.length - k:Nat):Int):=by omega
     have hwj:wrap64 (((j+1:Nat):Int) - 1)=(j:Int):=by rw[wrap64_id (by simp only[BIG]at hb;omega)];omega
     have hnp:newAt xs p=!decide (xs.getD p 0=xs.getD (p - 1) 0):=by unfold newAt;simp;omega
     obtain⟨x',hx'⟩:∃ x',xs.getD p 0=x':=⟨_,rfl⟩
     obtain⟨y',hy'⟩:∃ y',xs.getD (p - 1) 0=y':=⟨_,rfl⟩
     rw[hx']at d1 hnp
     rw[hy']at d0 hnp
     obtain⟨j2,hj2⟩:∃ j2,j+1=j2:=⟨_,rfl⟩
     rw[hj2]at f5 j1 hlJ hwj
     have hj2l:j2<xs.length:=by omega
     have hcl2:c<xs.length:=by omega
     unfold vf32b0
     by_cases hxy':x'=y'
     ·rw[hxy']at d1
      have hnf:newAt xs p=false:=by rw[hnp];simp[hxy']
      simp[f0,f3,f4,f5,hlJ,j1,d1,hwj,j0,d0,up1 hj2l hb]
      refine (hJ _ ⟨_,_⟩).2 ⟨?_,?_,?_⟩
      ·rw[show k+1+(j+1)=p+1 by omega,(compS_same hnf).2,hc];omega
      ·rw[show k+1+(j+1)=p+1 by omega,(compS_same hnf).1];exact hZ
      ·rw[show k+1+(j+1)=p+1 by omega,(compS_same hnf).2,hc];simp[← hj2]
     ·have hnt:newAt xs p=true:=by rw[hnp];simp[hxy']
      obtain⟨m1,m2⟩:=compS_new hpl hnt
      rw[hc,hx']at m1
      rw[hc]at m2
      have hput:putAt ((compS xs p).map .i) c [CV.i x']=(compS xs (p+1)).map .i:=by
       rw[putAt_get (by rw[List.length_map];omega),m1,List.map_set]
      have hcU:c+1≤(compS xs p).length:=by omega
      simp[f0,f3,f4,f5,hlJ,j1,d1,hwj,j0,d0,hxy',jc,hoZ,hput,hcU,up1 hj2l hb,up1 hcl2 hb]
      refine (hJ _ ⟨_,_⟩).2 ⟨?_,?_,?_⟩
      ·rw[show k+1+(j+1)=p+1 by omega,m2];omega
      ·rw[show k+1+(j+1)=p+1 by omega,hZ];simp
      ·rw[show k+1+(j+1)=p+1 by omega,m2];simp[← hj2]
    ·rintro⟨e',Z⟩ hJs
     obtain⟨hle,hZ,f0,f3,f4,f5⟩:=(hJ _ _).1 hJs
     simp only at hZ f0 f3 f4 f5 ⊢
     rw[show k+1+(xs.length - k - 1)=xs.length by omega]at hle hZ f3
     rw[show xs.length - k - 1+1=xs.length - k by omega]at f5
     have hCe:compTo xs xs.length=compI xs:=rfl
     have hU:=compS_len (xs:=xs) (k:=xs.length) (Nat.le_refl _)
     obtain⟨C,hC⟩:∃ C,compI xs=C:=⟨_,rfl⟩
     rw[hCe,hC]at hle f3
     have hSe:compS xs xs.length=C++xs.drop C.length:=by unfold compS;rw[hCe,hC]
     have hoZ:rdOb Z id g=some ⟨(C++xs.drop C.length).map .i,g,true,1⟩:=by rw[hZ,rdOb_set_self hlt,hSe];simp
     have hCl:C.length≤xs.length:=by omega
     have hs1:doSlice Z 1 (.sl id g 0 xs.length) (some (.c (.i (C.length:Int)))) none=some (.c (.sl id g C.length (xs.length - C.length))):=by
      simp[doSlice,hoZ]<;>omega
     obtain⟨R,hR⟩:∃ R,List.replicate (xs.length - C.length) (0:Int)=R:=⟨_,rfl⟩
     have hput:putAt ((C++xs.drop C.length).map .i) C.length (List.replicate (xs.length - C.length) [CV.i 0]).flatten=(C++R).map .i:=by
      have e:(List.replicate (xs.length - C.length) [CV.i 0]).flatten=R.map .i:=by
       rw[← hR,List.map_replicate]
       generalize xs.length - C.length=q
       induction q with
       | zero=>rfl
       | succ q ih=>rw[List.replicate_succ,List.flatten_cons,ih,List.replicate_succ];rfl
      rw[e,List.map_append,List.map_append]
      have hRl:R.length=xs.length - C.length:=by rw[← hR];simp
      unfold putAt
      simp[hRl]
     obtain⟨Z2,hZ2⟩:∃ Z2,Z.set id ⟨(C++R).map .i,g,true,1⟩=Z2:=⟨_,rfl⟩
     have hoZ2:rdOb Z2 id g=some ⟨(C++R).map .i,g,true,1⟩:=by rw[← hZ2,rdOb_set_self (rdOb_lt hoZ)];simp
     have hs2:doSlice Z2 1 (.sl id g 0 xs.length) none (some (.c (.i (C.length:Int))))=some (.c (.sl id g 0 C.length)):=by
      simp[doSlice,hoZ2]<;>omega
     have hle2:C.length+(xs.length - C.length)≤((C++xs.drop C.length).map CV.i).length:=by simp
     obtain⟨cs,hcs⟩:∃ cs,(C++xs.drop C.length).map CV.i=cs:=⟨_,rfl⟩
     rw[hcs]at hoZ hput hle2
     obtain⟨cs2,hcs2⟩:∃ cs2,(C++R).map CV.i=cs2:=⟨_,rfl⟩
     rw[hcs2]at hput hZ2
     have hlc:((xs.length - k:Nat):Int)=((xs.length - k:Nat):Int):=rfl
     obtain⟨zs,hzs⟩:∃ zs,(List.replicate (xs.length - C.length) [CV.i 0]).flatten=zs:=⟨_,rfl⟩
     rw[hzs]at hput
     unfold vf32b0
     simp[f0,f3,f4,f5,hs1,hoZ,hzs,hle2,hput,hZ2,hs2,gc_rowI hlt]
     refine⟨Z2,⟨by rw[hC],rfl⟩,R,?_⟩
     rw[hC,← hZ2,hZ,List.set_set,← hcs2];simp
   ·simp[e0,e3,hlI,q1,c1,hw,q0,c0,hxy,up1 hi1 hb]
    refine (hI _ ⟨_,_⟩).2 ⟨fun j hj=>?_,rfl,?_⟩
    ·by_cases hjk:j=k
     ·subst hjk;rw[hna];simp[hxy]
     ·exact hn j (by omega)
    ·simp[← hk]
  ·rintro⟨e,Y⟩ hIs
   obtain⟨hn,rfl,e0,e3⟩:=(hI _ _).1 hIs
   simp only at ho hlt hH hall hI e0 e3 hIs ⊢
   rw[show xs.length - 1+1=xs.length by omega]at e3
   unfold vf32b1
   simp[e0,e3,gc_rowI hlt]
   have:=hall (fun j hj=>hn j (by omega)) Y rfl
   simpa using this
def tgsL (xs:List InsR):List Int:=(xs.filter fun x=>decide (x.op=25)).map (·.d)

def tgsB (bs:List BlkR):List Int:=bs.flatMap fun b=>tgsL b.list

def targF (f:FnR):List Int:=if shapeB f=true then compI (sortI (tgsB f.blocks)) else []

theorem tgsB_succ {bs:List BlkR} {i:Nat} (hi:i<bs.length):tgsB (bs.take (i+1))=tgsB (bs.take i)++tgsL bs[i].list:=by
 unfold tgsB
 rw[List.take_succ_eq_append_getElem hi,List.flatMap_append]
 simp

theorem tgsL_succ {xs:List InsR} {i:Nat} (hi:i<xs.length):tgsL (xs.take (i+1))=tgsL (xs.take i)++(if xs[i].op=25 then [xs[i].d] else []):=by
 unfold tgsL
 rw[List.take_succ_eq_append_getElem hi,List.filter_append,List.map_append]
 congr 1
 by_cases h:xs[i].op=25<;>simp[h]

theorem tgsL_le (xs:List InsR) (j:Nat):(tgsL (xs.take j)).length≤xs.length:=by
 unfold tgsL
 rw[List.length_map]
 exact Nat.le_trans (List.length_filter_le _ _) (by rw[List.length_take];omega)

theorem tgsB_le {bs:List BlkR} {q:Nat} (h:∀ b∈bs,b.list.length≤q) (i:Nat):(tgsB (bs.take i)).length≤i * q:=by
 induction i with
 | zero=>simp[tgsB]
 | succ i ih =>
  by_cases hi:i<bs.length
  ·rw[tgsB_succ hi,List.length_append,Nat.succ_mul]
   have h1:=tgsL_le bs[i].list bs[i].list.length
   rw[List.take_length]at h1
   have h2:=h _ (List.getElem_mem hi)
   omega
  ·rw[List.take_of_length_le (by omega)]
   rw[List.take_of_length_le (by omega)]at ih
   rw[Nat.succ_mul];omega

theorem int_push {X:Hp} {b g:Nat} {xs:List Int} (h:rdOb X b g=some ⟨xs.map .i,g,true,1⟩) (hl:xs.length≤1000) (a:Int) :
  ∃ Z,doApp X 1 (.sl b g 0 xs.length) 1 [.i a]=some (.c (.sl b (g+1) 0 (xs.length+1)),Z)∧Z=X.set b ⟨(xs++[a]).map .i,g+1,true,1⟩:=by
 have happ:=app_own (X:=X) (o:=b) (g:=g) (n:=xs.length) (sz:=1) (m:=1) (cs:=xs.map .i) (xs:=[.i a]) h (by simp) (by simp) (by simp only[LIM,List.length_cons,List.length_nil,List.length_map];omega)
 exact⟨_,happ,by simp⟩

def TargRes (H:Hp) (f:FnR) (r:IV×Hp):Prop:=(r=(.c .ns,H)∧targF f=[])∨∃ rest,r=(.c (.sl H.length 0 0 (targF f).length),H++[⟨(targF f++rest).map .i,0,true,1⟩])

set_option maxRecDepth 100000 in
theorem implTargets {H:Hp} {v:CV} {f:FnR} (hv:Blocks H v f.blocks) (hb:f.blocks.length≤BIG) :
  CM 11 [.agg [v,.i f.values]] H (TargRes H f):=by
 refine cw11 ?_
 unfold vf11c
 obtain⟨X1,hX1⟩:∃ X1,H++[(⟨[v,.i f.values],0,true,2⟩:Ob)]=X1:=⟨_,rfl⟩
 have hp1:Pre H X1:=⟨_,hX1.symm⟩
 have l1:X1.length=H.length+1:=by rw[← hX1];simp
 have hB1:rdOb X1 H.length 0=some ⟨[v,.i f.values],0,true,2⟩:=by rw[← hX1];simp
 have hv1:=hv.pre hp1
 cases hs:shapeB f with
 | false =>
  have e:targF f=[]:=by unfold targF;rw[hs];simp
  simp[hX1,rdN_ob hB1,implShape hv1 hb,hs]
  exact .inl ⟨gcRet_flat hp1 (show flatV (.c .ns)=true from rfl),e⟩
 | true =>
  have e:targF f=compI (sortI (tgsB f.blocks)):=by unfold targF;rw[if_pos hs]
  obtain⟨X2,hX2⟩:∃ X2,X1++[(⟨[],0,true,1⟩:Ob)]=X2:=⟨_,rfl⟩
  have hp2:Pre X1 X2:=⟨_,hX2.symm⟩
  simp[hX1,rdN_ob hB1,implShape hv1 hb,hs,hX2,rdC_ob (hp2.rdOb hB1),hv1.lenOf]
  have hsm:f.blocks.length≤16∧∀ b∈f.blocks,b.list.length≤24:=by
   have h:=hs
   unfold shapeB inB at h
   simp only[Bool.and_eq_true,decide_eq_true_eq,List.all_eq_true]at h
   refine⟨by omega,fun b hb=>?_⟩
   have h5:=h.2 b hb
   unfold blkB at h5
   simp only[Bool.and_eq_true,decide_eq_true_eq]at h5
   omega
  obtain⟨o,ho⟩:∃ o,X1.length=o:=⟨_,rfl⟩
  obtain⟨I,hI⟩:∃ I:Nat→St→Prop,∀ i s,I i s↔(∃ g,Low o X1 s.h∧rdOb s.h o g=some ⟨(tgsB (f.blocks.take i)).map .i,g,true,1⟩∧Env.get s.e 3=.c (.sl o g 0 (tgsB (f.blocks.take i)).length)∧Env.get s.e 13=.c v∧Env.get s.e 14=.c (.i f.blocks.length)∧Env.get s.e 15=.c (.i i)):=⟨_,fun _ _=>Iff.rfl⟩
  refine wp_for CM_mono f.blocks.length I ((hI _ ⟨_,_⟩).2 ⟨0,by rw[← hX2];exact Low.app _ _ _,?_,?_⟩) ?_ ?_
  ·subst ho;show rdOb _ _ _=_;rw[← hX2];simp[tgsB]
  ·simp[tgsB,ho]
  ·rintro i ⟨e',Y⟩ hi hIs
   obtain⟨g,hL,hM,e3,e13,e14,e15⟩:=(hI _ _).1 hIs
   simp only at hL hM e3 e13 e14 e15 ⊢
   have hpY:Pre X1 Y:=hL.pre (Pre.refl _) (by omega)
   obtain⟨id1,g1,off1,z,u,q1,_,q3,_,hu,_,hub,_,_⟩:=hv1.get hi
   have q2:BlkAt Y id1 g1 off1 z u f.blocks[i].term:=by obtain⟨L,rfl⟩:=id hpY;exact q3 L
   obtain⟨b,hbk⟩:∃ b,f.blocks[i]=b:=⟨_,rfl⟩
   have hsucc:=tgsB_succ hi
   have hble:=hsm.2 _ (List.getElem_mem hi)
   have hAl:=tgsB_le hsm.2 i
   rw[hbk]at q2 hu hub hsucc hble
   obtain⟨A,hA⟩:∃ A,tgsB (f.blocks.take i)=A:=⟨_,rfl⟩
   rw[hA]at hM e3 hsucc hAl
   obtain⟨Y1,hY1⟩:∃ Y1,Y++[(⟨[z,u,.i b.term.kind,.i b.term.a,.i b.term.to,.i b.term.els],0,true,6⟩:Ob)]=Y1:=⟨_,rfl⟩
   have n1:rdOb Y1 Y.length 0=some ⟨[z,u,.i b.term.kind,.i b.term.a,.i b.term.to,.i b.term.els],0,true,6⟩:=by rw[← hY1];simp
   have hp1':Pre Y Y1:=⟨_,hY1.symm⟩
   have hM1:=hp1'.rdOb hM
   have hlt:=rdOb_lt hM
   have hL1:Low o X1 Y1:=by rw[← hY1];exact hL.trans (Low.app _ _ _)
   have hu1:List5 Y1 u b.list:=List5.pre (hpY.trans hp1') hu
   have hlu:=hu1.lenOf
   unfold vf11b1
   simp[e3,e13,e14,e15,hi,q1,q2.2.2.2.2.2.2.2.2.2.2,putAt,hY1,rdN_ob n1,n1,rdC_ob n1,hlu]
   obtain⟨J,hJ⟩:∃ J:Nat→St→Prop,∀ j s,J j s↔(∃ g,Low o X1 s.h∧(∀ id gg ob,id≠o→rdOb Y1 id gg=some ob→rdOb s.h id gg=some ob)∧rdOb s.h o g=some ⟨(A++tgsL (b.list.take j)).map .i,g,true,1⟩∧Env.get s.e 3=.c (.sl o g 0 (A++tgsL (b.list.take j)).length)∧Env.get s.e 13=.c v∧Env.get s.e 14=.c (.i f.blocks.length)∧Env.get s.e 15=.c (.i i)∧Env.get s.e 20=.c u∧Env.get s.e 21=.c (.i b.list.length)∧Env.get s.e 22=.c (.i j)):=⟨_,fun _ _=>Iff.rfl⟩
   refine wp_for CM_mono b.list.length J ((hJ _ ⟨_,_⟩).2 ⟨g,hL1,fun _ _ _ _ h=>h,by simpa [tgsL] using hM1,?_⟩) ?_ ?_
   ·simp[tgsL]
   ·rintro j ⟨e'',Z⟩ hj hJs
    obtain⟨g2,hL2,hk2,hM2,f3,f13,f14,f15,f20,f21,f22⟩:=(hJ _ _).1 hJs
    simp only at hL2 hk2 hM2 f3 f13 f14 f15 f20 f21 f22 ⊢
    have hpZ:Pre X1 Z:=hL2.pre (Pre.refl _) (by omega)
    obtain⟨id3,g3,off3,r1,r2,_⟩:=List5.get (List5.pre hpZ hu) hj
    have hso:=tgsL_succ hj
    have hlj:=tgsL_le b.list j
    obtain⟨x,hx⟩:∃ x,b.list[j]=x:=⟨_,rfl⟩
    rw[hx]at r2 hso
    obtain⟨C,hC⟩:∃ C,A++tgsL (b.list.take j)=C:=⟨_,rfl⟩
    have hCs:A++tgsL (b.list.take (j+1))=C++(if x.op=25 then [x.d] else []):=by rw[hso,← List.append_assoc,hC]
    have hCl:C.length≤1000:=by
     have:i * 24≤16 * 24:=Nat.mul_le_mul_right _ (by omega)
     rw[← hC,List.length_append];omega
    rw[hC]at hM2 f3
    obtain⟨Z1,hZ1⟩:∃ Z1,Z++[(⟨[.i x.op,.i x.d,.i x.a,.i x.b,.i x.n],0,true,5⟩:Ob)]=Z1:=⟨_,rfl⟩
    have hpz1:Pre Z Z1:=⟨_,hZ1.symm⟩
    have m1:rdOb Z1 Z.length 0=some ⟨[.i x.op,.i x.d,.i x.a,.i x.b,.i x.n],0,true,5⟩:=by rw[← hZ1];simp
    have hM3:=hpz1.rdOb hM2
    have hL3:Low o X1 Z1:=by rw[← hZ1];exact hL2.trans (Low.app _ _ _)
    unfold vf11b0
    cases hop:decide (x.op=25) with
    | true =>
     have hop':=of_decide_eq_true hop
     rw[if_pos hop']at hCs
     obtain⟨Z2,hZ2⟩:∃ Z2,Z1++[(⟨[.i x.d],0,true,1⟩:Ob)]=Z2:=⟨_,rfl⟩
     have hpz2:Pre Z1 Z2:=⟨_,hZ2.symm⟩
     have m2:rdOb Z2 Z1.length 0=some ⟨[.i x.d],0,true,1⟩:=by rw[← hZ2];simp
     obtain⟨Z3,happ,hZ3⟩:=int_push (hpz2.rdOb hM3) hCl x.d
     have hlt2:=rdOb_lt (hpz2.rdOb hM3)
     simp[f3,f13,f14,f15,f20,f21,f22,hj,r1,r2.2.2.2.2.2,putAt,hZ1,rdN_ob m1,m1,rdC_ob m1,hop,hZ2,srcOf,m2,happ,up1 hj hub]
     refine (hJ _ ⟨_,_⟩).2 ⟨g2+1,?_,?_,?_,?_⟩
     ·rw[hZ3];exact fun id gg ob hi h=>by rw[rdOb_set_ne (by omega)];exact hpz2.rdOb (hL3 id gg ob hi h)
     ·intro id gg ob hne h
      rw[hZ3]
      show rdOb (Z2.set o _) id gg=some ob
      rw[rdOb_set_ne hne]
      exact hpz2.rdOb (hpz1.rdOb (hk2 id gg ob hne h))
     ·show rdOb Z3 o (g2+1)=_
      rw[hZ3,rdOb_set_self hlt2,hCs];simp
     ·rw[hCs];simp
    | false =>
     have hop':=of_decide_eq_false hop
     rw[if_neg hop',List.append_nil]at hCs
     simp[f3,f13,f14,f15,f20,f21,f22,hj,r1,r2.2.2.2.2.2,putAt,hZ1,rdN_ob m1,m1,rdC_ob m1,hop,up1 hj hub]
     refine (hJ _ ⟨_,_⟩).2 ⟨g2,hL3,fun id gg ob hne h=>hpz1.rdOb (hk2 id gg ob hne h),by rw[hCs];exact hM3,?_⟩
     rw[hCs];simp
   ·rintro⟨e'',Z⟩ hJs
    obtain⟨g2,hL2,hk2,hM2,f3,f13,f14,f15,f20,f21,f22⟩:=(hJ _ _).1 hJs
    simp only at hL2 hk2 hM2 f3 f13 f14 f15 f20 f21 f22 ⊢
    rw[List.take_length,← hsucc]at hM2 f3
    unfold vf11b0
    simp[f3,f13,f14,f15,f20,f21,f22,up1 hi hb]
    refine (hI _ ⟨_,_⟩).2 ⟨g2,hL2,hM2,?_⟩
    simp
  ·rintro⟨e',Y⟩ hIs
   obtain⟨g,hL,hM,e3,e13,e14,e15⟩:=(hI _ _).1 hIs
   simp only at hL hM e3 e13 e14 e15 ⊢
   rw[List.take_length]at hM e3
   have hAl:=tgsB_le hsm.2 f.blocks.length
   rw[List.take_length]at hAl
   have hpY:Pre X1 Y:=hL.pre (Pre.refl _) (by omega)
   have hAl':(tgsB f.blocks).length≤400:=by
    have:f.blocks.length * 24≤16 * 24:=Nat.mul_le_mul_right _ hsm.1
    omega
   have hsl:(sortI (tgsB f.blocks)).length=(tgsB f.blocks).length:=sortI_len _
   unfold vf11b1
   obtain⟨Y2,hY2⟩:∃ Y2,Y.set o ⟨(sortI (tgsB f.blocks)).map .i,g,true,1⟩=Y2:=⟨_,rfl⟩
   have hM2:rdOb Y2 o g=some ⟨(sortI (tgsB f.blocks)).map .i,g,true,1⟩:=by rw[← hY2,rdOb_set_self (rdOb_lt hM)];simp
   have hpY2:Pre X1 Y2:=by rw[← hY2];exact hpY.set (by omega) _
   simp[e3,e13,e14,e15,sort_call hM (by simp only[LIM];omega),hY2]
   have hcc:=compact_call hM2 (by rw[hsl];simp only[BIG];omega)
   rw[hsl]at hcc
   refine hcc.mono ?_
   rintro _ ⟨Z,rest,rfl,hZ⟩
   simp
   have hMZ:rdOb Z o g=some ⟨(compI (sortI (tgsB f.blocks))++rest).map .i,g,true,1⟩:=by rw[hZ,rdOb_set_self (rdOb_lt hM2)];simp
   have hpZ:Pre H Z:=by rw[hZ];exact (hp1.trans hpY2).set (by omega) _
   rw[gcRet_row hpZ (by omega) hMZ rfl (by simp[flatC])]
   exact .inr ⟨rest,by rw[e]⟩
@[congr] theorem RunAllD_one {K:OrD} {ops:List VO} {Q:St→Prop} {n:Nat} {l:List Bool} {st st':St} (h:st=st'):RunAllD K ops Q n l st=RunAllD K ops Q n l st':=by rw[h]
def Cur (X:Hp) (c:Nat):Prop:=∃ bs i h xs,rdOb X c 0=some ⟨[bs,.i i,.i h],0,true,3⟩∧IsB X bs xs∧xs.length≤BIG∧0≤i∧∀ id g off m,bs=.sl id g off m→id<c

def CurTo (X Y:Hp) (c:Nat):Prop:=∃ ob,Y=X.set c ob∧Cur Y c

theorem Cur.lt {X:Hp} {c:Nat} (h:Cur X c):c<X.length:=by obtain⟨bs,i,h,xs,h1,_⟩:=h;exact rdOb_lt h1

theorem CurTo.cur {X Y:Hp} {c:Nat} (h:CurTo X Y c):Cur Y c:=by obtain⟨_,_,h⟩:=h;exact h

theorem CurTo.trans {X Y Z:Hp} {c:Nat} (h:CurTo X Y c) (k:CurTo Y Z c):CurTo X Z c:=by
 obtain⟨a,rfl,_⟩:=h
 obtain⟨b,rfl,k⟩:=k
 exact⟨b,by simp,by simpa using k⟩

theorem CurTo.refl {X:Hp} {c:Nat} (h:Cur X c):CurTo X X c:=by
 have hlt:=h.lt
 exact⟨X[c],by simp,h⟩

theorem CurTo.len {X Y:Hp} {c:Nat} (h:CurTo X Y c):Y.length=X.length:=by obtain⟨a,rfl,_⟩:=h;simp

theorem CurTo.rdOb {X Y:Hp} {c id g:Nat} (h:CurTo X Y c) (hne:id≠c):rdOb Y id g=Vm.rdOb X id g:=by obtain⟨a,rfl,_⟩:=h;exact rdOb_set_ne hne

theorem CurTo.low {X Y:Hp} {c lo:Nat} (h:CurTo X Y c) (hl:lo≤c):Low lo X Y:=fun id g o hi ho=>by rw[h.rdOb (by omega)];exact ho

theorem Cur.app {X:Hp} {c:Nat} (h:Cur X c) (L:Hp):Cur (X++L) c:=by
 obtain⟨bs,i,h,xs,h1,h2,h3,h4⟩:=h
 exact⟨bs,i,h,xs,rdOb_app L h1,Sl.app L h2,h3,h4⟩

theorem IsI.cur {X Y:Hp} {c:Nat} {v:CV} {xs:List Int} (hv:IsI X v xs) (hc:Cur X c) (h:CurTo X Y c):IsI Y v xs:=by
 obtain⟨ob,rfl,_⟩:=h
 obtain⟨bs,i,hh,ys,h1,_⟩:=hc
 rcases hv with⟨h1,h2,h3⟩ | ⟨id,g,off,o,e1,h2,h3,h4⟩
 ·exact .inl ⟨h1,h2,h3⟩
 ·refine .inr ⟨id,g,off,o,e1,?_,h3,h4⟩
  rw[rdOb_set_ne];exact h2
  rintro rfl
  have a:=(rdOb_some.1 h2).1
  rw[(rdOb_some.1 h1).1]at a
  injection a with a
  rw[← a]at h3
  cases h3

structure CurL (c:Nat) (X Z:Hp):Prop where
 cur:Cur Z c
 le:X.length≤Z.length
 keep:∀ id g o,id≠c→rdOb X id g=some o→rdOb Z id g=some o

theorem CurTo.l {X Y:Hp} {c:Nat} (h:CurTo X Y c):CurL c X Y:=⟨h.cur,Nat.le_of_eq h.len.symm,fun id g o hne ho=>by rw[h.rdOb hne];exact ho⟩

theorem CurL.refl {X:Hp} {c:Nat} (h:Cur X c):CurL c X X:=⟨h,Nat.le_refl _,fun _ _ _ _ h=>h⟩

theorem CurL.trans {X Y Z:Hp} {c:Nat} (h:CurL c X Y) (k:CurL c Y Z):CurL c X Z:=⟨k.cur,Nat.le_trans h.le k.le,fun id g o hne ho=>k.keep id g o hne (h.keep id g o hne ho)⟩

theorem CurL.app {X Z:Hp} {c:Nat} (h:CurL c X Z) (L:Hp):CurL c X (Z++L):=⟨h.cur.app L,by simp;have:=h.le;omega,fun id g o hne ho=>rdOb_app L (h.keep id g o hne ho)⟩

theorem CurL.pre {H X Z:Hp} {c:Nat} (h:CurL c X Z) (hp:Pre H X) (hc:H.length≤c):Pre H Z:=Low.pre (lo:=c) (fun id g o hl ho=>h.keep id g o (by omega) ho) hp hc
structure RunS where
 vals:List Int
 cells:List Int
 reads:List Int
 told:List Int
 path:List Int

def RunS.get (s:RunS) (v:Int):Int:=s.vals.getD v.toNat 0

def RunS.put (s:RunS) (v x:Int):RunS:={ s with vals:=s.vals.set v.toNat x }



theorem val_nat {v m:Int} (h:valB v m=true):∃ k:Nat,v=k∧k<m.toNat:=by
 have:=of_decide_eq_true h
 exact⟨v.toNat,by omega,by omega⟩
theorem asc_ext:∀ (A B:List Int),A.Pairwise (·<·)→B.Pairwise (·<·)→(∀ x,x∈A↔x∈B)→A=B:=by
 intro A
 induction A with
 | nil =>
  intro B _ _ h
  cases B with
  | nil=>rfl
  | cons b s=>exact absurd ((h b).2 (by simp)) (by simp)
 | cons a r ih =>
  intro B hA hB h
  cases B with
  | nil=>exact absurd ((h a).1 (by simp)) (by simp)
  | cons b s =>
   rw[List.pairwise_cons]at hA hB
   have hab:a=b:=by
    rcases List.mem_cons.1 ((h a).1 (by simp)) with h1 | h1
    ·exact h1
    ·rcases List.mem_cons.1 ((h b).2 (by simp)) with h2 | h2
     ·exact h2.symm
     ·have:=hA.1 b h2;have:=hB.1 a h1;omega
   subst hab
   rw[ih s hA.2 hB.2 fun x=>⟨fun hx=>?_,fun hx=>?_⟩]
   ·rcases List.mem_cons.1 ((h x).1 (by simp[hx])) with h1 | h1
    ·have:=hA.1 x hx;omega
    ·exact h1
   ·rcases List.mem_cons.1 ((h x).2 (by simp[hx])) with h1 | h1
    ·have:=hB.1 x hx;omega
    ·exact h1

theorem compTo_in (xs:List Int) (k:Nat) {x:Int} (h:x∈compTo xs k):∃ j,j<k∧x=xs.getD j 0:=by
 unfold compTo at h
 obtain⟨j,hj,rfl⟩:=List.mem_map.1 h
 rw[List.mem_filter,List.mem_range]at hj
 exact⟨j,hj.1,rfl⟩

theorem compTo_has (xs:List Int):∀ (k j:Nat),j<k→xs.getD j 0∈compTo xs k:=by
 intro k
 induction k with
 | zero=>intro j h;omega
 | succ k ih =>
  intro j hj
  rw[compTo_succ]
  by_cases e:j=k
  ·subst e
   cases hn:newAt xs j with
   | true=>simp
   | false =>
    unfold newAt at hn
    simp only[Bool.or_eq_false_iff,decide_eq_false_iff_not,Bool.not_eq_false',decide_eq_true_eq]at hn
    rw[hn.2]
    exact List.mem_append_left _ (ih (j - 1) (by omega))
  ·exact List.mem_append_left _ (ih j (by omega))

theorem compI_iff {xs:List Int} {d:Int}:d∈compI xs↔d∈xs:=by
 constructor
 ·intro h
  obtain⟨j,hj,rfl⟩:=compTo_in xs _ h
  rw[getD_ix hj];exact List.getElem_mem hj
 ·intro h
  obtain⟨j,hj,rfl⟩:=List.getElem_of_mem h
  rw[← getD_ix hj]
  exact compTo_has xs xs.length j hj

theorem compTo_asc {xs:List Int} (hs:∀ i j,i≤j→j<xs.length→xs.getD i 0≤xs.getD j 0):∀ k,k≤xs.length→(compTo xs k).Pairwise (·<·):=by
 intro k
 induction k with
 | zero=>intro _;exact List.Pairwise.nil
 | succ k ih =>
  intro hk
  rw[compTo_succ,List.pairwise_append]
  refine⟨ih (by omega),?_,fun x hx y hy=>?_⟩
  ·split<;>simp
  ·by_cases hn:newAt xs k=true
   ·rw[if_pos hn]at hy
    simp at hy
    obtain⟨j,hj,rfl⟩:=compTo_in xs k hx
    unfold newAt at hn
    simp only[Bool.or_eq_true,decide_eq_true_eq,Bool.not_eq_true',decide_eq_false_iff_not]at hn
    rcases hn with hn | hn
    ·omega
    ·have h1:=hs j (k - 1) (by omega) (by omega)
     have h2:=hs (k - 1) k (by omega) (by omega)
     have hy':y=xs.getD k 0:=by rw[hy,List.getD_eq_getElem?_getD]
     omega
   ·rw[if_neg hn]at hy;cases hy

theorem sortI_asc (xs:List Int):(sortI xs).Pairwise (·≤·):=by
 have:=List.pairwise_mergeSort (le:=fun x y:Int=>decide (x≤y)) (fun a b c h1 h2=>by simp at *;omega) (fun a b=>by simp;omega) xs
 exact this.imp (fun h=>by simpa using h)

theorem compI_asc (xs:List Int):(compI (sortI xs)).Pairwise (·<·):=by
 refine compTo_asc (fun i j hij hj=>?_) _ (Nat.le_refl _)
 rw[getD_ix hj,getD_ix (by omega)]
 by_cases e:i=j
 ·subst e;exact Int.le_refl _
 ·exact List.pairwise_iff_getElem.1 (sortI_asc xs) i j (by omega) hj (by omega)

def isT (v:Int) (x:InsR):Bool:=decide (x.op=25) && decide (x.d=v)

def anyT (bs:List BlkR) (v:Int):Bool:=bs.any fun b=>b.list.any (isT v)

def tgN (bs:List BlkR) (i:Nat):List Int:=((List.range i).filter fun (j:Nat)=>anyT bs (j:Int)).map fun (j:Nat)=>(j:Int)

def tgS (f:FnR):List Int:=if shapeB f=true then tgN f.blocks f.values.toNat else []

theorem tgN_succ (bs:List BlkR) (i:Nat):tgN bs (i+1)=tgN bs i++(if anyT bs i=true then [(i:Int)] else []):=by
 unfold tgN
 rw[List.range_succ,List.filter_append,List.map_append]
 congr 1
 rw[List.filter_cons]
 cases anyT bs i<;>rfl

theorem tgN_le (bs:List BlkR) (i:Nat):(tgN bs i).length≤i:=by
 unfold tgN
 rw[List.length_map]
 exact Nat.le_trans (List.length_filter_le _ _) (by simp)

theorem anyT_iff {bs:List BlkR} {v:Int}:anyT bs v=true↔v∈tgsB bs:=by
 unfold anyT tgsB tgsL
 rw[List.any_eq_true,List.mem_flatMap]
 constructor
 ·rintro⟨b,hb,h⟩
  obtain⟨x,hx,h⟩:=List.any_eq_true.1 h
  unfold isT at h
  simp only[Bool.and_eq_true,decide_eq_true_eq]at h
  exact⟨b,hb,List.mem_map.2 ⟨x,List.mem_filter.2 ⟨hx,decide_eq_true h.1⟩,h.2⟩⟩
 ·rintro⟨b,hb,h⟩
  obtain⟨x,hx,rfl⟩:=List.mem_map.1 h
  obtain⟨h1,h2⟩:=List.mem_filter.1 hx
  refine⟨b,hb,List.any_eq_true.2 ⟨x,h1,?_⟩⟩
  unfold isT
  rw[h2];simp

theorem tgS_eq (f:FnR):tgS f=targF f:=by
 unfold tgS targF
 cases hsh:shapeB f with
 | false=>simp
 | true =>
  simp only[if_true]
  refine asc_ext _ _ ?_ (compI_asc _) fun x=>?_
  ·unfold tgN
   rw[List.pairwise_map]
   exact (List.Pairwise.filter _ List.pairwise_lt_range).imp (fun h=>by omega)
  ·rw[compI_iff,show x∈sortI (tgsB f.blocks)↔x∈tgsB f.blocks from (List.mergeSort_perm _ _).mem_iff]
   unfold tgN
   rw[List.mem_map]
   constructor
   ·rintro⟨j,hj,rfl⟩
    rw[List.mem_filter]at hj
    exact anyT_iff.1 hj.2
   ·intro hx
    have h2:=anyT_iff.2 hx
    unfold tgsB tgsL at hx
    obtain⟨b,hb,h⟩:=List.mem_flatMap.1 hx
    obtain⟨y,hy,rfl⟩:=List.mem_map.1 h
    obtain⟨h3,h4⟩:=List.mem_filter.1 hy
    have hi:=shape_ins hsh hb h3
    have h25:y.op=25:=of_decide_eq_true h4
    unfold insB at hi
    rw[if_neg (by rw[h25];decide),if_neg (by omega),if_pos (.inr h25)]at hi
    simp only[Bool.and_eq_true]at hi
    obtain⟨k,hk,hk2⟩:=val_nat hi.1.1.1
    exact⟨k,by rw[List.mem_filter,List.mem_range];exact⟨hk2,by rw[← hk];exact h2⟩,hk.symm⟩

theorem tgS_le (f:FnR):(tgS f).length≤80:=by
 unfold tgS
 split
 ·rename_i h
  have h1:=tgN_le f.blocks f.values.toNat
  have h2:=(shape_len h).2.2.2
  omega
 ·simp


set_option maxRecDepth 100000 in
theorem specTargets {H:Hp} {v:CV} {f:FnR} (hv:Blocks H v f.blocks) (hb:f.blocks.length≤BIG) (k:IV×Hp→Prop) :
  CM 10 [.agg [v,.i f.values]] H k=k (.c (.sl H.length 0 0 (tgS f).length),H++[⟨(tgS f).map .i,0,true,1⟩]):=by
 refine det (cw10 ?_) k
 unfold vf10c
 obtain⟨X1,hX1⟩:∃ X1,H++[(⟨[v,.i f.values],0,true,2⟩:Ob)]=X1:=⟨_,rfl⟩
 have hp1:Pre H X1:=⟨_,hX1.symm⟩
 have l1:X1.length=H.length+1:=by rw[← hX1];simp
 have hB1:rdOb X1 H.length 0=some ⟨[v,.i f.values],0,true,2⟩:=by rw[← hX1];simp
 obtain⟨X2,hX2⟩:∃ X2,X1++[(⟨[],0,true,1⟩:Ob)]=X2:=⟨_,rfl⟩
 have hp2:Pre X1 X2:=⟨_,hX2.symm⟩
 have hO2:rdOb X2 X1.length 0=some ⟨[],0,true,1⟩:=by rw[← hX2];simp
 have hB2:=hp2.rdOb hB1
 have hv2:=hv.pre (hp1.trans hp2)
 cases hsh:shapeB f with
 | false =>
  have e:tgS f=[]:=by unfold tgS;rw[hsh];simp
  simp[hX1,hX2,rdN_ob hB2,specShape hv2 hb,hsh]
  rw[gcRet_row (hp1.trans hp2) (by omega) hO2 rfl (by simp),e]
  simp
 | true =>
  obtain⟨s1,s2,s3,s4⟩:=shape_len hsh
  obtain⟨N,hNv⟩:∃ N:Nat,f.values=N:=⟨f.values.toNat,by omega⟩
  have hNt:f.values.toNat=N:=by omega
  have hNb:N≤BIG:=by simp only[BIG];omega
  have e:tgS f=tgN f.blocks N:=by unfold tgS;rw[if_pos hsh,hNt]
  rw[e]
  have hvl:=hv.lenOf
  simp[hX1,hX2,rdN_ob hB2,specShape hv2 hb,hsh]
  obtain⟨o,ho⟩:∃ o,X1.length=o:=⟨_,rfl⟩
  obtain⟨I,hI⟩:∃ I:Nat→St→Prop,∀ q st,I q st↔(∃ g,Pre X1 st.h∧rdOb st.h o g=some ⟨(tgN f.blocks q).map .i,g,true,1⟩∧Env.get st.e 1=.c (.p H.length 0 0)∧Env.get st.e 3=.c (.sl o g 0 (tgN f.blocks q).length)∧Env.get st.e 4=.c (.i q)):=⟨_,fun _ _=>Iff.rfl⟩
  refine wp_for CM_mono N I ?_ ?_ ?_
  ·refine (hI _ _).2 ⟨0,hp2,by rw[← ho];exact hO2,?_⟩
   simp[tgN,ho]
  ·rintro q ⟨e',Y⟩ hq hIs
   obtain⟨g,hY,hM,e1,e3,e4⟩:=(hI _ _).1 hIs
   simp only at hY hM e1 e3 e4 ⊢
   have hBY:=hY.rdOb hB1
   have hle:=tgN_le f.blocks q
   have hsn:=tgN_succ f.blocks q
   obtain⟨A,hA⟩:∃ A,tgN f.blocks q=A:=⟨_,rfl⟩
   rw[hA]at hM e3 hle hsn
   unfold vf10b2
   simp[e1,e3,e4,rdC_ob hBY,hNv,hq]
   obtain⟨J,hJ⟩:∃ J:Nat→St→Prop,∀ b st,J b st↔(Pre Y st.h∧Env.get st.e 1=.c (.p H.length 0 0)∧Env.get st.e 3=.c (.sl o g 0 A.length)∧Env.get st.e 4=.c (.i q)∧Env.get st.e 5=.c (.b ((f.blocks.take b).any fun c=>c.list.any (isT q)))∧Env.get st.e 6=.c (.i b)):=⟨_,fun _ _=>Iff.rfl⟩
   refine wp_for CM_mono f.blocks.length J ?_ ?_ ?_
   ·refine (hJ _ _).2 ⟨Pre.refl _,?_⟩
    simp[e1,e3,e4]
   ·rintro b ⟨e'',Z⟩ hbl hJs
    obtain⟨hZ,e1,e3,e4,e5,e6⟩:=(hJ _ _).1 hJs
    simp only at hZ e1 e3 e4 e5 e6 ⊢
    have hBZ:=(hY.trans hZ).rdOb hB1
    have hbs:(f.blocks.take (b+1)).any (fun c=>c.list.any (isT q))=((f.blocks.take b).any (fun c=>c.list.any (isT q)) || f.blocks[b].list.any (isT q)):=by
     rw[List.take_succ_eq_append_getElem hbl,List.any_append];simp
    obtain⟨m0,hm0⟩:∃ m0,(f.blocks.take b).any (fun c=>c.list.any (isT q))=m0:=⟨_,rfl⟩
    rw[hm0]at e5 hbs
    have hmem:f.blocks[b]∈f.blocks:=List.getElem_mem hbl
    have hxb:=(shape_lens hsh hmem).2
    have hxB:f.blocks[b].list.length≤BIG:=by simp only[BIG];omega
    unfold vf10b1
    simp[e1,e3,e4,e5,e6,rdC_ob hBZ,hvl,hbl]
    obtain⟨K,hK⟩:∃ K:Nat→St→Prop,∀ j st,K j st↔(Pre Y st.h∧Env.get st.e 1=.c (.p H.length 0 0)∧Env.get st.e 3=.c (.sl o g 0 A.length)∧Env.get st.e 4=.c (.i q)∧Env.get st.e 5=.c (.b (m0 || (f.blocks[b].list.take j).any (isT q)))∧Env.get st.e 6=.c (.i b)∧Env.get st.e 7=.c (.i j)):=⟨_,fun _ _=>Iff.rfl⟩
    refine wp_for CM_mono f.blocks[b].list.length K ?_ ?_ ?_
    ·refine (hK _ _).2 ⟨hZ,?_⟩
     simp[e1,e3,e4,e5,e6]
    ·rintro j ⟨e3',V⟩ hj hKs
     obtain⟨hV,e1,e3,e4,e5,e6,e7⟩:=(hK _ _).1 hKs
     simp only at hV e1 e3 e4 e5 e6 e7 ⊢
     have hBV:=(hY.trans hV).rdOb hB1
     obtain⟨i0,g0,off0,wp,wl,q1,q2,_,qp,ql,_,qll,_,_⟩:=Blocks.get (hv.pre (hp1.trans (hY.trans hV))) hbl
     have hll:=ql.lenOf
     obtain⟨i2,g2,o2,r1,r2,_⟩:=List5.get ql hj
     have hls:(f.blocks[b].list.take (j+1)).any (isT q)=((f.blocks[b].list.take j).any (isT q) || isT q f.blocks[b].list[j]):=by
      rw[List.take_succ_eq_append_getElem hj,List.any_append];simp
     obtain⟨x,hx⟩:∃ x,f.blocks[b].list[j]=x:=⟨_,rfl⟩
     rw[hx]at r2 hls
     obtain⟨V1,hV1⟩:∃ V1,V++[(⟨[.i x.op,.i x.d,.i x.a,.i x.b,.i x.n],0,true,5⟩:Ob)]=V1:=⟨_,rfl⟩
     have hpV1:Pre V V1:=⟨_,hV1.symm⟩
     have n1:rdOb V1 V.length 0=some ⟨[.i x.op,.i x.d,.i x.a,.i x.b,.i x.n],0,true,5⟩:=by rw[← hV1];simp
     obtain⟨d0,hd0⟩:∃ d0,(m0 || (f.blocks[b].list.take j).any (isT q))=d0:=⟨_,rfl⟩
     rw[hd0]at e5
     have hnew:(m0 || (f.blocks[b].list.take (j+1)).any (isT q))=(d0 || isT q x):=by rw[hls,← Bool.or_assoc,hd0]
     unfold vf10b0
     cases d0 with
     | true =>
      simp[e1,e3,e4,e5,e6,e7,rdC_ob hBV,q1,q2.1,q2.2.1,hll,hj,r1,r2.2.2.2.2.2,putAt,hV1,up1 hj hxB]
      refine (hK _ _).2 ⟨hV.trans hpV1,?_⟩
      rw[hnew];simp[e1,e3,e4,e6]
     | false =>
      cases h25:decide (x.op=25) with
      | true =>
       cases hxd:decide (x.d=(q:Int)) with
       | true =>
        simp[e1,e3,e4,e5,e6,e7,rdC_ob hBV,q1,q2.1,q2.2.1,hll,hj,r1,r2.2.2.2.2.2,putAt,hV1,rdC_ob n1,h25,hxd,up1 hj hxB]
        refine (hK _ _).2 ⟨hV.trans hpV1,?_⟩
        rw[hnew];simp[e1,e3,e4,e6,isT,h25,hxd]
       | false =>
        simp[e1,e3,e4,e5,e6,e7,rdC_ob hBV,q1,q2.1,q2.2.1,hll,hj,r1,r2.2.2.2.2.2,putAt,hV1,rdC_ob n1,h25,hxd,up1 hj hxB]
        refine (hK _ _).2 ⟨hV.trans hpV1,?_⟩
        rw[hnew];simp[e1,e3,e4,e6,isT,h25,hxd]
      | false =>
       simp[e1,e3,e4,e5,e6,e7,rdC_ob hBV,q1,q2.1,q2.2.1,hll,hj,r1,r2.2.2.2.2.2,putAt,hV1,rdC_ob n1,h25,up1 hj hxB]
       refine (hK _ _).2 ⟨hV.trans hpV1,?_⟩
       rw[hnew];simp[e1,e3,e4,e6,isT,h25]
    ·rintro⟨e3',V⟩ hKs
     obtain⟨hV,e1,e3,e4,e5,e6,e7⟩:=(hK _ _).1 hKs
     simp only at hV e1 e3 e4 e5 e6 e7 ⊢
     rw[List.take_length,← hbs]at e5
     have hBV:=(hY.trans hV).rdOb hB1
     obtain⟨i0,g0,off0,wp,wl,q1,q2,_,qp,ql,_,qll,_,_⟩:=Blocks.get (hv.pre (hp1.trans (hY.trans hV))) hbl
     have hll:=ql.lenOf
     unfold vf10b0
     simp[e1,e3,e4,e5,e6,e7,rdC_ob hBV,q1,q2.1,q2.2.1,hll,up1 hbl hb]
     refine (hJ _ _).2 ⟨hV,?_⟩
     simp[e1,e3,e4,e5]
   ·rintro⟨e'',Z⟩ hJs
    obtain⟨hZ,e1,e3,e4,e5,e6⟩:=(hJ _ _).1 hJs
    simp only at hZ e1 e3 e4 e5 e6 ⊢
    have hBZ:=(hY.trans hZ).rdOb hB1
    have hMZ:=hZ.rdOb hM
    rw[List.take_length,show (f.blocks.any fun c=>c.list.any (isT q))=anyT f.blocks q from rfl]at e5
    unfold vf10b1
    cases hany:anyT f.blocks q with
    | true =>
     rw[hany]at e5 hsn
     rw[if_pos rfl]at hsn
     obtain⟨Z2,hZ2⟩:∃ Z2,Z++[(⟨[.i q],0,true,1⟩:Ob)]=Z2:=⟨_,rfl⟩
     have hpz2:Pre Z Z2:=⟨_,hZ2.symm⟩
     have m2:rdOb Z2 Z.length 0=some ⟨[.i q],0,true,1⟩:=by rw[← hZ2];simp
     obtain⟨Z3,happ,hZ3⟩:=int_push (hpz2.rdOb hMZ) (by omega) (q:Int)
     have hlt2:=rdOb_lt (hpz2.rdOb hMZ)
     simp[e1,e3,e4,e5,e6,rdC_ob hBZ,hvl,putAt,hZ2,srcOf,m2,happ,up1 hq hNb]
     refine (hI _ _).2 ⟨g+1,?_,?_,?_⟩
     ·rw[hZ3];exact ((hY.trans hZ).trans hpz2).set (by omega) _
     ·show rdOb Z3 _ _=_
      rw[hZ3,rdOb_set_self hlt2,hsn];simp
     ·rw[hsn];simp[e1]
    | false =>
     rw[hany]at e5 hsn
     rw[if_neg (by simp),List.append_nil]at hsn
     simp[e1,e3,e4,e5,e6,rdC_ob hBZ,hvl,up1 hq hNb]
     refine (hI _ _).2 ⟨g,hY.trans hZ,by rw[hsn];exact hMZ,?_⟩
     rw[hsn];simp[e1,e3]
  ·rintro⟨e',Y⟩ hIs
   obtain⟨g,hY,hM,e1,e3,e4⟩:=(hI _ _).1 hIs
   simp only at hY hM e1 e3 e4 ⊢
   have hBY:=hY.rdOb hB1
   unfold vf10b2
   simp[e1,e3,e4,rdC_ob hBY,hNv]
   rw[gcRet_row (hp1.trans hY) (by omega) hM rfl (by simp[flatC])]
def OwnT (Y:Hp) (lo:Nat) (w:CV) (xs:List Int):Prop:=(w=.ns∧xs=[])∨∃ id rest,w=.sl id 0 0 xs.length∧lo≤id∧rdOb Y id 0=some ⟨xs.map .i++rest,0,true,1⟩

theorem OwnT.isI {Y:Hp} {lo:Nat} {w:CV} {xs:List Int} (h:OwnT Y lo w xs):IsI Y w xs:=by
 rcases h with⟨rfl,rfl⟩ | ⟨id,rest,rfl,h1,h2⟩
 ·exact IsI.ns _
 ·exact IsI.mk h2 rfl (by simp) (by rw[List.drop_zero,List.take_left' (by simp)])

theorem OwnT.keep {Y Z:Hp} {lo:Nat} {w:CV} {xs:List Int} (h:OwnT Y lo w xs) (hk:∀ id g o,lo≤id→rdOb Y id g=some o→rdOb Z id g=some o):OwnT Z lo w xs:=by
 rcases h with h | ⟨id,rest,rfl,h1,h2⟩
 ·exact .inl h
 ·exact .inr ⟨id,rest,rfl,h1,hk _ _ _ h1 h2⟩

theorem TargRes.own {H:Hp} {f:FnR} {r:IV×Hp} (h:TargRes H f r):∃ w L,r=(.c w,H++L)∧OwnT (H++L) H.length w (targF f):=by
 rcases h with⟨rfl,e⟩ | ⟨rest,rfl⟩
 ·exact⟨.ns,[],by simp,.inl ⟨rfl,e⟩⟩
 ·exact⟨_,_,rfl,.inr ⟨H.length,rest.map .i,rfl,Nat.le_refl _,by simp⟩⟩

theorem markT {Y:Hp} {lo:Nat} {w:CV} {xs:List Int} (h:OwnT Y lo w xs) (hn:xs.length≤BIG) :
  ∃ Z,(∀ k:IV×Hp→Prop,CM 14 [.c w,.c (.i 1)] Y k=k (.c (.i (1+xs.length)),Z))∧Low lo Y Z∧OwnT Z lo w (ups 1 xs.length):=by
 rcases h with⟨rfl,rfl⟩ | ⟨id,rest,rfl,h1,h2⟩
 ·refine⟨Y,fun k=>det (cw14 ?_) k,fun _ _ _ _ h=>h,.inl ⟨rfl,rfl⟩⟩
  unfold vf14c
  simp
  refine wp_for CM_mono 0 (fun i s=>s.h=Y∧Env.get s.e 0=.c .ns∧Env.get s.e 1=.c (.i 1)∧Env.get s.e 5=.c (.i i)) (by simp) (fun i s h=>absurd h (by omega)) ?_
  rintro⟨e,X⟩ ⟨rfl,h0,h1,h5⟩
  simp only at h0 h1 h5 ⊢
  unfold vf14b0
  simp[h0,h1,h5]
 ·have hlt:=rdOb_lt h2
  obtain⟨cells,hcells⟩:∃ cells,xs.map CV.i++rest=cells:=⟨_,rfl⟩
  obtain⟨n,hn'⟩:∃ n,xs.length=n:=⟨_,rfl⟩
  have hcl:n≤cells.length:=by rw[← hcells];simp;omega
  have hdrop:cells.drop n=rest:=by rw[← hcells,List.drop_left' (by simp[hn'])]
  rw[hcells]at h2
  rw[hn']at hn ⊢
  refine⟨Y.set id ⟨(ups 1 n).map .i++rest,0,true,1⟩,fun k=>det (cw14 ?_) k,fun id' g o hl ho=>by rw[rdOb_set_ne (by omega)];exact ho,.inr ⟨id,rest,by simp,h1,by rw[rdOb_set_self hlt];simp⟩⟩
  unfold vf14c
  simp
  obtain⟨I,hI⟩:∃ I:Nat→St→Prop,∀ i s,I i s↔(s.h=Y.set id ⟨(ups 1 i).map .i++cells.drop i,0,true,1⟩∧Env.get s.e 0=.c (.sl id 0 0 n)∧Env.get s.e 1=.c (.i (1+i))∧Env.get s.e 5=.c (.i i)):=⟨_,fun _ _=>Iff.rfl⟩
  refine wp_for CM_mono n I ?_ ?_ ?_
  ·refine (hI _ _).2 ⟨?_,by simp⟩
   have:=(rdOb_some.1 h2).1
   simp[ups]
   rw[List.getElem?_eq_getElem hlt]at this
   injection this with this
   rw[← this];simp
  ·rintro i ⟨e,X⟩ hi hIs
   obtain⟨hX,h0,h1',h5⟩:=(hI _ _).1 hIs
   simp only at hX h0 h1' h5 ⊢
   have ho:rdOb X id 0=some ⟨(ups 1 i).map .i++cells.drop i,0,true,1⟩:=by rw[hX,rdOb_set_self hlt];simp
   have hp:putAt ((ups 1 i).map .i++cells.drop i) i [.i (1+(i:Int))]=(ups 1 (i+1)).map .i++cells.drop (i+1):=by
    have e1:cells.drop i=cells[i]'(by omega) :: cells.drop (i+1):=List.drop_eq_getElem_cons (by omega)
    have e2:(cells.drop i).set 0 (.i (1+(i:Int)))=.i (1+(i:Int)) :: cells.drop (i+1):=by rw[e1];rfl
    rw[putAt_get (by simp;omega),List.set_append]
    simp[ups,List.range_succ]at e2 ⊢
    exact e2
   have hw1:-9223372036854775808≤(1+(i:Int))+1∧(1+(i:Int))+1≤9223372036854775807:=by simp only[BIG]at hn;omega
   unfold vf14b0
   simp[h0,h1',h5,ho,hi,idxOf,hp,up1 hi hn,wrap64_id hw1,show i+1≤i+(cells.length - i) by omega]
   refine (hI _ _).2 ⟨?_,by simp;omega⟩
   rw[hX];simp
  ·rintro⟨e,X⟩ hIs
   obtain⟨hX,h0,h1',h5⟩:=(hI _ _).1 hIs
   simp only at hX h0 h1' h5 ⊢
   have hlen:X.length=Y.length:=by rw[hX];simp
   unfold vf14b0
   simp[h0,h1',h5,gc_nolen hlen (show flatV (.c (.i (1+(n:Int))))=true from rfl)]
   rw[hX,hdrop]

theorem targetsX_law {H:Hp} {cs:List CV} {f:FnR} (hf:fnP maxLen H cs f):CM 4 [.agg cs] H fun r=>r.1=.c (.b true):=by
 obtain⟨z,rfl,hz⟩:=id hf
 refine cw4 ?_
 unfold vf4c
 obtain⟨X1,hX1⟩:∃ X1,H++[(⟨[z,.i f.values],0,true,2⟩:Ob)]=X1:=⟨_,rfl⟩
 have hp1:Pre H X1:=⟨_,hX1.symm⟩
 have hb1:rdOb X1 H.length 0=some ⟨[z,.i f.values],0,true,2⟩:=by rw[← hX1];simp
 have hf1:=hf.pre hp1
 simp[hX1,rdN_ob hb1,szFn_call hf1]
 by_cases hs:szFnF f 1048576<0
 ·simp[hs]
 ·have hS:=sz_small (Int.not_lt.1 hs)
  have hle:(targF f).length≤BIG:=by rw[← tgS_eq];have:=tgS_le f;simp only[BIG];omega
  have hlt:¬ (1+((targF f).length:Int)<0):=by omega
  simp[hs,rdN_ob hb1]
  refine (toFn_call _ (hf1.small hS)).mono ?_
  rintro _ ⟨c1,L1,rfl,ho1⟩
  obtain⟨z1,rfl,h1,_⟩:=ho1.p hS
  obtain⟨X2,hX2⟩:∃ X2,X1++L1=X2:=⟨_,rfl⟩
  have hp2:Pre X1 X2:=⟨_,hX2.symm⟩
  rw[hX2]at h1 ⊢
  have hspec:=fun k=>specTargets h1 hS.1 k
  simp only[tgS_eq]at hspec
  obtain⟨X3,hX3⟩:∃ X3,X2++[(⟨(targF f).map .i,0,true,1⟩:Ob)]=X3:=⟨_,rfl⟩
  have hp3:Pre X2 X3:=⟨_,hX3.symm⟩
  obtain⟨w0,hw0⟩:∃ w0,CV.sl X2.length 0 0 (targF f).length=w0:=⟨_,rfl⟩
  have hw3:IsI X3 w0 (targF f):=by rw[← hw0,← hX3];exact IsI.mk (o:=⟨(targF f).map .i,0,true,1⟩) (by simp) rfl (by simp) (by rw[List.drop_zero,List.take_of_length_le (by simp)])
  simp only[hw0,hX3]at hspec
  have hb3:=(hp2.trans hp3).rdOb hb1
  simp[hspec,hX3,rdN_ob hb3]
  refine (toFn_call _ ((hf1.pre (hp2.trans hp3)).small hS)).mono ?_
  rintro _ ⟨c2,L2,rfl,ho2⟩
  have hm2:=ho2.m hS
  obtain⟨z2,rfl,h2,_⟩:=ho2.p hS
  obtain⟨X4,hX4⟩:∃ X4,X3++L2=X4:=⟨_,rfl⟩
  have hp4:Pre X3 X4:=⟨_,hX4.symm⟩
  rw[hX4]at h2 hm2 ⊢
  obtain⟨X5,hX5⟩:∃ X5,X4++[(⟨[z2,.i f.values],0,true,2⟩:Ob)]=X5:=⟨_,rfl⟩
  have hp5:Pre X4 X5:=⟨_,hX5.symm⟩
  have h5:rdOb X5 X4.length 0=some ⟨[z2,.i f.values],0,true,2⟩:=by rw[← hX5];simp
  have h2':=Blocks.pre hp5 h2
  simp[putAt,hX5,rdN_ob h5]
  refine (implTargets h2' hS.1).mono ?_
  intro r hr
  obtain⟨g0,Lg,rfl,hg6⟩:=hr.own
  obtain⟨X6,hX6⟩:∃ X6,X5++Lg=X6:=⟨_,rfl⟩
  have hp6:Pre X5 X6:=⟨_,hX6.symm⟩
  rw[hX6]at hg6 ⊢
  have hp36:=hp4.trans (hp5.trans hp6)
  have hb6:=hp36.rdOb hb3
  have h6:=hp6.rdOb h5
  simp[eqIntS_call hg6.isI (hw3.pre hp36) hle,rdN_ob h6,rdN_ob hb6]
  refine (toFn_call _ ((hf1.pre (hp2.trans (hp3.trans hp36))).small hS)).mono ?_
  rintro _ ⟨c3,L3,rfl,ho3⟩
  obtain⟨z3,rfl,h3,_⟩:=ho3.p hS
  obtain⟨X7,hX7⟩:∃ X7,X6++L3=X7:=⟨_,rfl⟩
  have hp7:Pre X6 X7:=⟨_,hX7.symm⟩
  rw[hX7]at h3 ⊢
  have h7:=hp7.rdOb h6
  have hb7:=hp7.rdOb hb6
  simp[eqFn_call _ (a:=f) (b:=f) ⟨_,rfl,Blocks.pre hp7 (Blocks.pre hp6 h2'),hS.1⟩ ⟨_,rfl,h3,hS.1⟩,h7,h6,rdN_ob h7]
  obtain⟨G7,hG7⟩:∃ G,X7=X4++G:=hp5.trans (hp6.trans hp7)
  have hm7:=hm2.app G7
  rw[← hG7]at hm7
  refine (markFn_weak hm7 (hp5.trans (hp6.trans hp7)).le hp4.le).mono ?_
  rintro _ ⟨k,Z,L4,rfl,hk,hZ⟩
  have hg7:=hg6.keep (Z:=X7) fun _ _ _ _ h=>hp7.rdOb h
  have hgZ:=hg7.keep (Z:=Z++L4) fun id g o hl ho=>rdOb_app _ (hZ.out id g o (.inr (Nat.le_trans hp5.le hl)) ho)
  have hp37:=hp36.trans hp7
  have hpZ:Pre X3 (Z++L4):=(hZ.low.pre hp37 (Nat.le_refl _)).app L4
  obtain⟨Y1,hY1⟩:∃ Y1,Z++L4=Y1:=⟨_,rfl⟩
  rw[hY1]at hgZ hpZ ⊢
  obtain⟨Y2,hmark,hlow,hg2⟩:=markT hgZ hle
  have hpY2:Pre X3 Y2:=hlow.pre hpZ (hp4.trans hp5).le
  have hbY:=hpY2.rdOb hb3
  simp[show ¬ k<0 by omega,eqIntS_call hgZ.isI (hw3.pre hpZ) hle,hmark,heldIntS_call hg2.isI hle,hlt,rdN_ob hbY]
  refine (toFn_call _ ((hf1.pre (hp2.trans (hp3.trans hpY2))).small hS)).mono ?_
  rintro _ ⟨c5,L5,rfl,ho5⟩
  obtain⟨z5,rfl,h5',_⟩:=ho5.p hS
  obtain⟨Y3,hY3⟩:∃ Y3,Y2++L5=Y3:=⟨_,rfl⟩
  have hpY3:Pre Y2 Y3:=⟨_,hY3.symm⟩
  rw[hY3]at h5' ⊢
  simp
  refine (implTargets h5' hS.1).mono ?_
  intro r hr
  obtain⟨h0,L6,rfl,hh0⟩:=hr.own
  obtain⟨Y4,hY4⟩:∃ Y4,Y3++L6=Y4:=⟨_,rfl⟩
  have hpY4:Pre Y3 Y4:=⟨_,hY4.symm⟩
  rw[hY4]at hh0 ⊢
  have hg4:=hg2.keep (Z:=Y4) fun _ _ _ _ h=>(hpY3.trans hpY4).rdOb h
  simp[eqIntS_call hh0.isI (hw3.pre (hpY2.trans (hpY3.trans hpY4))) hle,heldIntS_call hg4.isI hle,hlt]
end Go.Proofs.Ytiecgmmaihckeaa.Vm
