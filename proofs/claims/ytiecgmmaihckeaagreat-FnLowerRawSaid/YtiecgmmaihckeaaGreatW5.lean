/- A part of the proof: the machine and the walks. No conditions. -/
import Derived.Test.YtiecgmmaihckeaaGreatW4
namespace Go.Proofs.YtiecgmmaihckeaaGreat.Vm
open Go.RowKit (wrap64)
set_option linter.unusedSimpArgs false
set_option linter.unusedVariables false
set_option maxRecDepth 100000
theorem XK_sim {w0:World}:OrdSim Tryz.prog w0 XK:=sort_sim ⟨_,Tryz.func72,by kernel_rfl,by kernel_rfl⟩ (fun blk off cap zs w h1 h2 h3=>Go.Proofs.Tryz.slices_Sort_int blk off cap zs w h1 h2 h3) (fun p cap w=>Go.Proofs.Tryz.slices_Sort_int_none p cap w)
theorem det {f:Nat} {ar:List IV} {H:Hp} {r:IV×Hp} (h:CM f ar H fun x=>x=r) (k:IV×Hp→Prop):CM f ar H k=k r:=by
 apply propext
 constructor
 ·intro hk
  obtain⟨x,rfl,hx⟩:=callD_nm XK_nm _ _ _ _ (callD_cj XK_mono XK_cj _ _ _ _ _ h hk)
  exact hx
 ·intro hk
  exact CM_mono _ _ _ _ _ (fun x hx=>by subst hx;exact hk) h

theorem CM.mono {f:Nat} {ar:List IV} {H:Hp} {Q Q':IV×Hp→Prop} (h:CM f ar H Q) (hq:∀ r,Q r→Q' r):CM f ar H Q':=CM_mono _ _ _ _ _ hq h

theorem IsI.at_ {H:Hp} {v:CV} {xs:List Int} (h:IsI H v xs) {k:Nat} (hk:k<xs.length) :
  ∃ id g off,idxOf 1 v (k:Int)=some (.p id g off)∧rdC H id g off=some (.i xs[k]):=by
 obtain⟨id,g,off,o,h1,h2,h3⟩:=h.get hk
 exact⟨id,g,off,h1,by simp[rdC,h2,h3]⟩


@[simp] theorem rdC_r (H L:Hp) (k g off:Nat):rdC (H++L) (H.length+k) g off=rdC L k g off:=by simp[rdC]

@[simp] theorem rdC_r0 (H L:Hp) (g off:Nat):rdC (H++L) H.length g off=rdC L 0 g off:=by simp[rdC]

@[simp] theorem rdC_c0 (o:Ob) (L:Hp) (g off:Nat):rdC (o :: L) 0 g off=if o.g=g then o.cells[off]? else none:=by
 simp only[rdC,rdOb_c0];split<;>rfl

@[simp] theorem rdC_cs (o:Ob) (L:Hp) (k g off:Nat):rdC (o :: L) (k+1) g off=rdC L k g off:=by simp[rdC]

@[simp] theorem rdN_r (H L:Hp) (k g off n:Nat):rdN (H++L) (H.length+k) g off n=rdN L k g off n:=by simp[rdN]

@[simp] theorem rdN_r0 (H L:Hp) (g off n:Nat):rdN (H++L) H.length g off n=rdN L 0 g off n:=by simp[rdN]

@[simp] theorem rdN_c0 (o:Ob) (L:Hp) (g off n:Nat):rdN (o :: L) 0 g off n=if o.g=g then (if off+n≤o.cells.length then some ((o.cells.drop off).take n) else none) else none:=by
 simp only[rdN,rdOb_c0];split<;>rfl

@[simp] theorem rdN_cs (o:Ob) (L:Hp) (k g off n:Nat):rdN (o :: L) (k+1) g off n=rdN L k g off n:=by simp[rdN]

theorem rdC_ob {H:Hp} {id g off:Nat} {o:Ob} (h:rdOb H id g=some o):rdC H id g off=o.cells[off]?:=by simp[rdC,h]

theorem rdN_ob {H:Hp} {id g off n:Nat} {o:Ob} (h:rdOb H id g=some o):rdN H id g off n=if off+n≤o.cells.length then some ((o.cells.drop off).take n) else none:=by simp[rdN,h]

theorem rdOb_keep {H:Hp} (L:Hp) {id g:Nat} {o:Ob} (h:rdOb H id g=some o):rdOb (H++L) id g=rdOb H id g:=by rw[rdOb_app L h,h]


def Row {α:Type} (P:Hp→List CV→α→Prop) (sz:Nat) (H:Hp) (v:CV) (xs:List α):Prop:=
 ∃ css:List (List CV),Sl H sz v xs.length css.flatten∧css.length=xs.length∧∀ (k:Nat) cs x,css[k]? = some cs→xs[k]? = some x→cs.length=sz∧P H cs x

theorem Row.lenOf {α:Type} {P:Hp→List CV→α→Prop} {sz:Nat} {H:Hp} {v:CV} {xs:List α} (h:Row P sz H v xs):lenOf v=some xs.length:=by
 obtain⟨css,h,_⟩:=h;exact Sl.lenOf h

theorem Row.pre {α:Type} {P:Hp→List CV→α→Prop} {sz:Nat} {H X:Hp} (hP:∀ cs x,P H cs x→P X cs x) (hp:Pre H X) {v:CV} {xs:List α} (h:Row P sz H v xs):Row P sz X v xs:=by
 obtain⟨css,h1,h2,h3⟩:=h
 exact⟨css,Sl.pre hp h1,h2,fun k cs x a b=>⟨(h3 k cs x a b).1,hP _ _ (h3 k cs x a b).2⟩⟩

theorem Row.ns {α:Type} {P:Hp→List CV→α→Prop} {sz:Nat} {H:Hp}:Row P sz H .ns ([]:List α):=⟨[],.inl ⟨rfl,rfl,rfl⟩,rfl,fun k cs x h=>by simp at h⟩

theorem flat_drop {sz:Nat}:∀ {css:List (List CV)},(∀ cs∈css,cs.length=sz)→∀ {k:Nat} {cs:List CV},css[k]? = some cs→(css.flatten.drop (k * sz)).take sz=cs∧k * sz+sz≤css.flatten.length:=by
 intro css
 induction css with
 | nil=>intro _ k cs h;simp at h
 | cons c r ih =>
  intro hl k cs h
  have hc:=hl c (by simp)
  cases k with
  | zero =>
   simp at h;subst h
   simp[hc]
  | succ k =>
   simp at h
   obtain⟨h1,h2⟩:=ih (fun cs hcs=>hl cs (by simp[hcs])) h
   rw[List.flatten_cons]
   have e:(k+1) * sz=c.length+k * sz:=by rw[Nat.succ_mul,hc];omega
   rw[e,List.drop_append,List.drop_eq_nil_of_le (by omega),List.nil_append,Nat.add_sub_cancel_left,List.length_append]
   exact⟨h1,by omega⟩

structure At (H:Hp) (id g off:Nat) (cs:List CV):Prop where
 ob:∃ o,rdOb H id g=some o∧off+cs.length≤o.cells.length∧(o.cells.drop off).take cs.length=cs

theorem At.pre {H X:Hp} (hp:Pre H X) {id g off:Nat} {cs:List CV} (h:At H id g off cs):At X id g off cs:=by
 obtain⟨o,h1,h2⟩:=h.ob
 exact⟨o,hp.rdOb h1,h2⟩

theorem At.app {H:Hp} {id g off:Nat} {cs:List CV} (h:At H id g off cs) (L:Hp):At (H++L) id g off cs:=h.pre ⟨L,rfl⟩

theorem At.c {H:Hp} {id g off:Nat} {cs:List CV} (h:At H id g off cs) (j:Nat) (hj:j<cs.length):rdC H id g (off+j)=some cs[j]:=by
 obtain⟨o,h1,h2,h3⟩:=h.ob
 rw[rdC_ob h1]
 have:((o.cells.drop off).take cs.length)[j]? = cs[j]?:=by rw[h3]
 rw[List.getElem?_take,if_pos hj,List.getElem?_drop,List.getElem?_eq_getElem hj]at this
 exact this

theorem At.n {H:Hp} {id g off:Nat} {cs:List CV} (h:At H id g off cs) (j m:Nat) (hj:j+m≤cs.length):rdN H id g (off+j) m=some ((cs.drop j).take m):=by
 obtain⟨o,h1,h2,h3⟩:=h.ob
 rw[rdN_ob h1,if_pos (by omega)]
 congr 1
 rw[← h3,List.drop_take,List.take_take,List.drop_drop,Nat.min_eq_left (by omega)]

theorem At.keep {H:Hp} {id g off:Nat} {cs:List CV} (h:At H id g off cs) (L:Hp):rdOb (H++L) id g=rdOb H id g:=by
 obtain⟨o,h1,_⟩:=h.ob;exact rdOb_keep L h1

theorem At.lt {H:Hp} {id g off:Nat} {cs:List CV} (h:At H id g off cs):id<H.length:=by
 obtain⟨o,h1,_⟩:=h.ob;exact rdOb_lt h1

theorem Row.get {α:Type} {P:Hp→List CV→α→Prop} {sz:Nat} {H:Hp} {v:CV} {xs:List α} (h:Row P sz H v xs) {k:Nat} (hk:k<xs.length) :
  ∃ id g off cs,idxOf sz v (k:Int)=some (.p id g off)∧At H id g off cs∧cs.length=sz∧P H cs xs[k]:=by
 obtain⟨css,h1,h2,h3⟩:=h
 have hl:∀ cs∈css,cs.length=sz:=by
  intro cs hcs
  obtain⟨i,hi,rfl⟩:=List.getElem_of_mem hcs
  exact (h3 i _ xs[i] (List.getElem?_eq_getElem hi) (List.getElem?_eq_getElem (by omega))).1
 have hc:css[k]? = some css[k]:=List.getElem?_eq_getElem (by omega)
 obtain⟨f1,f2⟩:=flat_drop hl hc
 obtain⟨g1,g2⟩:=h3 k _ xs[k] hc (List.getElem?_eq_getElem hk)
 rcases h1 with⟨_,h1,_⟩ | ⟨id,g,off,o,rfl,q1,q2,q3,q4⟩
 ·omega
 ·refine⟨id,g,off+k * sz,css[k],by simp[hk],⟨o,q1,?_,?_⟩,g1,g2⟩
  ·have:(k+1) * sz≤xs.length * sz:=Nat.mul_le_mul_right _ hk
   rw[Nat.succ_mul]at this
   rw[g1];omega
  ·have e:((css.flatten.drop (k * sz)).take sz)=css[k]:=f1
   rw[← q4,List.drop_take,List.take_take,List.drop_drop,Nat.min_eq_left]at e
   ·rw[g1];exact e
   ·have:(k+1) * sz≤xs.length * sz:=Nat.mul_le_mul_right _ hk
    rw[Nat.succ_mul]at this
    omega

theorem Row.mk {α:Type} {P:Hp→List CV→α→Prop} {sz:Nat} {H:Hp} {id g:Nat} {o:Ob} {xs:List α} {css:List (List CV)} (h:rdOb H id g=some o) (hs:o.sz=sz) (hc:o.cells=css.flatten) (hl:css.length=xs.length)
  (hP:∀ (k:Nat) cs x,css[k]? = some cs→xs[k]? = some x→cs.length=sz∧P H cs x):Row P sz H (.sl id g 0 xs.length) xs:=by
 have hl2:∀ cs∈css,cs.length=sz:=by
  intro cs hcs
  obtain⟨i,hi,rfl⟩:=List.getElem_of_mem hcs
  exact (hP i _ xs[i] (List.getElem?_eq_getElem hi) (List.getElem?_eq_getElem (by omega))).1
 have hfl:css.flatten.length=xs.length * sz:=by
  rw[← hl]
  clear hP hl hc
  induction css with
  | nil=>simp
  | cons c r ih=>rw[List.flatten_cons,List.length_append,ih (fun cs h=>hl2 cs (by simp[h])),hl2 c (by simp),List.length_cons,Nat.succ_mul];omega
 refine⟨css,.inr ⟨id,g,0,o,rfl,h,hs,by rw[hc,hfl];omega,?_⟩,hl,hP⟩
 rw[hc,List.drop_zero,List.take_of_length_le (by omega)]


structure ArmR where
 fr:Int
 v:Int
 deriving DecidableEq

structure PhiR where
 d:Int
 arms:List ArmR
 deriving DecidableEq

structure InsR where
 op:Int
 d:Int
 a:Int
 b:Int
 n:Int
 deriving DecidableEq

structure TrmR where
 kind:Int
 a:Int
 to:Int
 els:Int
 deriving DecidableEq

structure BlkR where
 phis:List PhiR
 list:List InsR
 term:TrmR
 deriving DecidableEq

structure FnR where
 blocks:List BlkR
 values:Int
 deriving DecidableEq

def armC (a:ArmR):List CV:=[.i a.fr,.i a.v]

def insC (x:InsR):List CV:=[.i x.op,.i x.d,.i x.a,.i x.b,.i x.n]

def trmC (t:TrmR):List CV:=[.i t.kind,.i t.a,.i t.to,.i t.els]

def armP (_:Hp) (cs:List CV) (a:ArmR):Prop:=cs=armC a

def insP (_:Hp) (cs:List CV) (x:InsR):Prop:=cs=insC x

def phiP (B:Nat) (H:Hp) (cs:List CV) (p:PhiR):Prop:=∃ w,cs=[.i p.d,w]∧Row armP 2 H w p.arms∧p.arms.length≤B

def blkP (B:Nat) (H:Hp) (cs:List CV) (b:BlkR):Prop:=∃ w u,cs=w :: u :: trmC b.term∧Row (phiP B) 2 H w b.phis∧Row insP 5 H u b.list∧b.phis.length≤B∧b.list.length≤B

def fnP (B:Nat) (H:Hp) (cs:List CV) (f:FnR):Prop:=∃ v,cs=[v,.i f.values]∧Row (blkP B) 6 H v f.blocks∧f.blocks.length≤B

theorem armP.pre {H X:Hp} {cs:List CV} {a:ArmR} (h:armP H cs a):armP X cs a:=h

theorem insP.pre {H X:Hp} {cs:List CV} {a:InsR} (h:insP H cs a):insP X cs a:=h

def BIG:Nat:=1048576

theorem phiP.pre {B:Nat} {H X:Hp} (hp:Pre H X) {cs:List CV} {p:PhiR} (h:phiP B H cs p):phiP B X cs p:=by
 obtain⟨w,h1,h2,h3⟩:=h;exact⟨w,h1,h2.pre (fun _ _=>armP.pre) hp,h3⟩

theorem blkP.pre {B:Nat} {H X:Hp} (hp:Pre H X) {cs:List CV} {p:BlkR} (h:blkP B H cs p):blkP B X cs p:=by
 obtain⟨w,u,h1,h2,h3,h4⟩:=h;exact⟨w,u,h1,h2.pre (fun _ _=>phiP.pre hp) hp,h3.pre (fun _ _=>insP.pre) hp,h4⟩

theorem fnP.pre {B:Nat} {H X:Hp} (hp:Pre H X) {cs:List CV} {p:FnR} (h:fnP B H cs p):fnP B X cs p:=by
 obtain⟨v,h1,h2,h3⟩:=h;exact⟨v,h1,h2.pre (fun _ _=>blkP.pre hp) hp,h3⟩

abbrev Blocks (H:Hp) (v:CV) (bs:List BlkR):Prop:=Row (blkP BIG) 6 H v bs

abbrev Phis (H:Hp) (v:CV) (ps:List PhiR):Prop:=Row (phiP BIG) 2 H v ps

abbrev Arms (H:Hp) (v:CV) (ps:List ArmR):Prop:=Row armP 2 H v ps

abbrev List5 (H:Hp) (v:CV) (ps:List InsR):Prop:=Row insP 5 H v ps

theorem Blocks.pre {H X:Hp} (hp:Pre H X) {v:CV} {bs:List BlkR} (h:Blocks H v bs):Blocks X v bs:=Row.pre (fun _ _=>blkP.pre hp) hp h

theorem Blocks.app {H:Hp} {v:CV} {bs:List BlkR} (h:Blocks H v bs) (L:Hp):Blocks (H++L) v bs:=h.pre ⟨L,rfl⟩

theorem Phis.pre {H X:Hp} (hp:Pre H X) {v:CV} {bs:List PhiR} (h:Phis H v bs):Phis X v bs:=Row.pre (fun _ _=>phiP.pre hp) hp h

theorem Phis.app {H:Hp} {v:CV} {bs:List PhiR} (h:Phis H v bs) (L:Hp):Phis (H++L) v bs:=h.pre ⟨L,rfl⟩

theorem Arms.pre {H X:Hp} (hp:Pre H X) {v:CV} {bs:List ArmR} (h:Arms H v bs):Arms X v bs:=Row.pre (fun _ _=>armP.pre) hp h

theorem Arms.app {H:Hp} {v:CV} {bs:List ArmR} (h:Arms H v bs) (L:Hp):Arms (H++L) v bs:=h.pre ⟨L,rfl⟩

theorem List5.pre {H X:Hp} (hp:Pre H X) {v:CV} {bs:List InsR} (h:List5 H v bs):List5 X v bs:=Row.pre (fun _ _=>insP.pre) hp h

theorem List5.app {H:Hp} {v:CV} {bs:List InsR} (h:List5 H v bs) (L:Hp):List5 (H++L) v bs:=h.pre ⟨L,rfl⟩

abbrev ArmAt (H:Hp) (id g off:Nat) (a:ArmR):Prop:=rdC H id g off=some (.i a.fr)∧rdC H id g (off+1)=some (.i a.v)∧rdN H id g off 2=some [.i a.fr,.i a.v]

abbrev InsAt (H:Hp) (id g off:Nat) (x:InsR):Prop:=rdC H id g off=some (.i x.op)∧rdC H id g (off+1)=some (.i x.d)∧rdC H id g (off+2)=some (.i x.a)∧rdC H id g (off+3)=some (.i x.b)∧rdC H id g (off+4)=some (.i x.n) ∧
 rdN H id g off 5=some [.i x.op,.i x.d,.i x.a,.i x.b,.i x.n]

abbrev PhiAt (H:Hp) (id g off:Nat) (d:Int) (w:CV):Prop:=rdC H id g off=some (.i d)∧rdC H id g (off+1)=some w∧rdN H id g off 2=some [.i d,w]

abbrev BlkAt (H:Hp) (id g off:Nat) (w u:CV) (t:TrmR):Prop:=rdC H id g off=some w∧rdC H id g (off+1)=some u∧rdC H id g (off+2)=some (.i t.kind)∧rdC H id g (off+3)=some (.i t.a)∧rdC H id g (off+4)=some (.i t.to)∧rdC H id g (off+5)=some (.i t.els) ∧
 rdC H id g (off+2+1)=some (.i t.a)∧rdC H id g (off+2+2)=some (.i t.to)∧rdC H id g (off+2+3)=some (.i t.els) ∧
 rdN H id g (off+2) 4=some [.i t.kind,.i t.a,.i t.to,.i t.els]∧rdN H id g off 6=some [w,u,.i t.kind,.i t.a,.i t.to,.i t.els]

theorem At.arm {H:Hp} {id g off:Nat} {a:ArmR} (h:At H id g off (armC a)):ArmAt H id g off a:=⟨h.c 0 (by simp[armC]),h.c 1 (by simp[armC]),h.n 0 2 (by simp[armC])⟩

theorem At.ins {H:Hp} {id g off:Nat} {a:InsR} (h:At H id g off (insC a)):InsAt H id g off a:=
 ⟨h.c 0 (by simp[insC]),h.c 1 (by simp[insC]),h.c 2 (by simp[insC]),h.c 3 (by simp[insC]),h.c 4 (by simp[insC]),h.n 0 5 (by simp[insC])⟩

theorem At.phi {H:Hp} {id g off:Nat} {d:Int} {w:CV} (h:At H id g off [.i d,w]):PhiAt H id g off d w:=⟨h.c 0 (by simp),h.c 1 (by simp),h.n 0 2 (by simp)⟩

theorem At.blk {H:Hp} {id g off:Nat} {w u:CV} {t:TrmR} (h:At H id g off (w :: u :: trmC t)):BlkAt H id g off w u t:=
 ⟨h.c 0 (by simp[trmC]),h.c 1 (by simp[trmC]),h.c 2 (by simp[trmC]),h.c 3 (by simp[trmC]),h.c 4 (by simp[trmC]),h.c 5 (by simp[trmC]),h.c 3 (by simp[trmC]),h.c 4 (by simp[trmC]),h.c 5 (by simp[trmC]),
  h.n 2 4 (by simp[trmC]),h.n 0 6 (by simp[trmC])⟩

theorem Arms.get {H:Hp} {v:CV} {xs:List ArmR} (h:Arms H v xs) {k:Nat} (hk:k<xs.length) :
  ∃ id g off,idxOf 2 v (k:Int)=some (.p id g off)∧ArmAt H id g off xs[k]∧(∀ L,ArmAt (H++L) id g off xs[k])∧(∀ L,rdOb (H++L) id g=rdOb H id g)∧id<H.length:=by
 obtain⟨id,g,off,cs,h1,h2,h3,h4⟩:=Row.get h hk
 have h4:cs=armC xs[k]:=h4
 subst h4
 exact⟨id,g,off,h1,h2.arm,fun L=>(h2.app L).arm,h2.keep,h2.lt⟩

theorem List5.get {H:Hp} {v:CV} {xs:List InsR} (h:List5 H v xs) {k:Nat} (hk:k<xs.length) :
  ∃ id g off,idxOf 5 v (k:Int)=some (.p id g off)∧InsAt H id g off xs[k]∧(∀ L,InsAt (H++L) id g off xs[k])∧(∀ L,rdOb (H++L) id g=rdOb H id g)∧id<H.length:=by
 obtain⟨id,g,off,cs,h1,h2,h3,h4⟩:=Row.get h hk
 have h4:cs=insC xs[k]:=h4
 subst h4
 exact⟨id,g,off,h1,h2.ins,fun L=>(h2.app L).ins,h2.keep,h2.lt⟩

theorem Phis.get {H:Hp} {v:CV} {xs:List PhiR} (h:Phis H v xs) {k:Nat} (hk:k<xs.length) :
  ∃ id g off w,idxOf 2 v (k:Int)=some (.p id g off)∧PhiAt H id g off xs[k].d w∧(∀ L,PhiAt (H++L) id g off xs[k].d w)∧Arms H w xs[k].arms∧xs[k].arms.length≤BIG∧(∀ L,rdOb (H++L) id g=rdOb H id g)∧id<H.length:=by
 obtain⟨id,g,off,cs,h1,h2,h3,w,rfl,h5,h6⟩:=Row.get h hk
 exact⟨id,g,off,w,h1,h2.phi,fun L=>(h2.app L).phi,h5,h6,h2.keep,h2.lt⟩

theorem Blocks.get {H:Hp} {v:CV} {xs:List BlkR} (h:Blocks H v xs) {k:Nat} (hk:k<xs.length) :
  ∃ id g off w u,idxOf 6 v (k:Int)=some (.p id g off)∧BlkAt H id g off w u xs[k].term∧(∀ L,BlkAt (H++L) id g off w u xs[k].term)∧Phis H w xs[k].phis∧List5 H u xs[k].list∧xs[k].phis.length≤BIG∧xs[k].list.length≤BIG ∧
   (∀ L,rdOb (H++L) id g=rdOb H id g)∧id<H.length:=by
 obtain⟨id,g,off,cs,h1,h2,h3,w,u,rfl,h5,h6,h7,h8⟩:=Row.get h hk
 exact⟨id,g,off,w,u,h1,h2.blk,fun L=>(h2.app L).blk,h5,h6,h7,h8,h2.keep,h2.lt⟩

theorem up1 {i n:Nat} (hi:i<n) (hn:n≤BIG):wrap64 ((i:Int)+1)=(i:Int)+1:=wrap64_id (by simp only[BIG]at hn;omega)
def inB (x a b:Int):Bool:=decide (a≤x∧x≤b)

def valB (v n:Int):Bool:=decide (0≤v∧v<n)

def wordOk (op:Int):Bool:=inB op 1 10

theorem specIn (H:Hp) (x a b:Int) (k:IV×Hp→Prop):CM 96 [.c (.i x),.c (.i a),.c (.i b)] H k=k (.c (.b (inB x a b)),H):=by
 refine det (cw96 ?_) k
 unfold vf96c inB
 by_cases h:a≤x<;>simp[h]

theorem implIn (H:Hp) (x a b:Int) (k:IV×Hp→Prop):CM 86 [.c (.i x),.c (.i a),.c (.i b)] H k=k (.c (.b (inB x a b)),H):=by
 refine det (cw86 ?_) k
 unfold vf86c inB
 by_cases h:a≤x<;>simp[h]

theorem specVal (H:Hp) (x n:Int) (k:IV×Hp→Prop):CM 155 [.c (.i x),.c (.i n)] H k=k (.c (.b (valB x n)),H):=by
 refine det (cw155 ?_) k
 unfold vf155c valB
 by_cases h:0≤x<;>simp[h]

theorem specWordOk (H:Hp) (op:Int) (k:IV×Hp→Prop):CM 48 [.c (.i op)] H k=k (.c (.b (wordOk op)),H):=by
 refine det (cw48 ?_) k
 unfold vf48c
 simp[specIn,wordOk]

theorem implWordOk (H:Hp) (op:Int) (k:IV×Hp→Prop):CM 40 [.c (.i op)] H k=k (.c (.b (wordOk op)),H):=by
 refine det (cw40 ?_) k
 unfold vf40c
 simp[implIn,wordOk]

def termB (t:TrmR) (n m:Int):Bool:=
 if t.kind=1 then inB t.to 0 (n - 1) && decide (t.a=0) && decide (t.els=0)
 else if t.kind=2 then inB t.to 0 (n - 1) && inB t.els 0 (n - 1) && valB t.a m
 else if t.kind=3 then valB t.a m && decide (t.to=0) && decide (t.els=0)
 else false

def insB (x:InsR) (m:Int):Bool:=
 if wordOk x.op=true then valB x.d m && valB x.a m && valB x.b m && decide (x.n=0)
 else if x.op=20 then valB x.d m && decide (x.a=0) && decide (x.b=0)
 else if x.op=21∨x.op=25 then valB x.d m && valB x.a m && decide (x.b=0) && decide (x.n=0)
 else if x.op=22 then valB x.a m && valB x.b m && decide (x.d=0) && decide (x.n=0)
 else if x.op=23 then valB x.a m && decide (x.d=0) && decide (x.b=0) && decide (x.n=0)
 else if x.op=24 then valB x.d m && decide (x.a=0) && decide (x.b=0) && decide (x.n=0)
 else false

theorem specTerm (H:Hp) (t:TrmR) (n m:Int) (hn:-9223372036854775807≤n∧n≤9223372036854775807) (k:IV×Hp→Prop) :
  CM 108 [.agg (trmC t),.c (.i n),.c (.i m)] H k=k (.c (.b (termB t n m)),H):=by
 refine det (cw108 ?_) k
 unfold vf108c termB
 have hw:wrap64 (n - 1)=n - 1:=wrap64_id (by omega)
 obtain⟨kind,a,to,els⟩:=t
 by_cases h1:kind=1
 ·subst h1;simp[trmC,specIn,specVal,hw];repeat' first | (refine cnd_of (fun hc=>?_) (fun hc=>?_)<;>simp[hc,trmC]) | (refine grd_t (fun hc=>?_) (fun hc=>?_)<;>simp[hc,trmC]) | (refine grd_f (fun hc=>?_) (fun hc=>?_)<;>simp[hc,trmC])
 ·by_cases h2:kind=2
  ·subst h2;simp[trmC,specIn,specVal,hw];repeat' first | (refine cnd_of (fun hc=>?_) (fun hc=>?_)<;>simp[hc,trmC]) | (refine grd_t (fun hc=>?_) (fun hc=>?_)<;>simp[hc,trmC]) | (refine grd_f (fun hc=>?_) (fun hc=>?_)<;>simp[hc,trmC])
  ·by_cases h3:kind=3
   ·subst h3;simp[trmC,specIn,specVal,hw];repeat' first | (refine cnd_of (fun hc=>?_) (fun hc=>?_)<;>simp[hc,trmC]) | (refine grd_t (fun hc=>?_) (fun hc=>?_)<;>simp[hc,trmC]) | (refine grd_f (fun hc=>?_) (fun hc=>?_)<;>simp[hc,trmC])
   ·simp[trmC,specIn,specVal,hw,h1,h2,h3]

theorem specIns (H:Hp) (x:InsR) (m:Int) (k:IV×Hp→Prop) :
  CM 110 [.agg (insC x),.c (.i m)] H k=k (.c (.b (insB x m)),H):=by
 refine det (cw110 ?_) k
 unfold vf110c insB
 obtain⟨op,d,a,b,n⟩:=x
 cases h0:wordOk op with
 | true=>simp[insC,specVal,specWordOk,h0];repeat' first | (refine cnd_of (fun hc=>?_) (fun hc=>?_)<;>simp[hc,insC]) | (refine grd_t (fun hc=>?_) (fun hc=>?_)<;>simp[hc,insC]) | (refine grd_f (fun hc=>?_) (fun hc=>?_)<;>simp[hc,insC])
 | false =>
  by_cases h1:op=20
  ·subst h1;simp[insC,specVal,specWordOk,h0];repeat' first | (refine cnd_of (fun hc=>?_) (fun hc=>?_)<;>simp[hc,insC]) | (refine grd_t (fun hc=>?_) (fun hc=>?_)<;>simp[hc,insC]) | (refine grd_f (fun hc=>?_) (fun hc=>?_)<;>simp[hc,insC])
  ·by_cases h2:op=21
   ·subst h2;simp[insC,specVal,specWordOk,h0];repeat' first | (refine cnd_of (fun hc=>?_) (fun hc=>?_)<;>simp[hc,insC]) | (refine grd_t (fun hc=>?_) (fun hc=>?_)<;>simp[hc,insC]) | (refine grd_f (fun hc=>?_) (fun hc=>?_)<;>simp[hc,insC])
   ·by_cases h3:op=25
    ·subst h3;simp[insC,specVal,specWordOk,h0];repeat' first | (refine cnd_of (fun hc=>?_) (fun hc=>?_)<;>simp[hc,insC]) | (refine grd_t (fun hc=>?_) (fun hc=>?_)<;>simp[hc,insC]) | (refine grd_f (fun hc=>?_) (fun hc=>?_)<;>simp[hc,insC])
    ·by_cases h4:op=22
     ·subst h4;simp[insC,specVal,specWordOk,h0];repeat' first | (refine cnd_of (fun hc=>?_) (fun hc=>?_)<;>simp[hc,insC]) | (refine grd_t (fun hc=>?_) (fun hc=>?_)<;>simp[hc,insC]) | (refine grd_f (fun hc=>?_) (fun hc=>?_)<;>simp[hc,insC])
     ·by_cases h5:op=23
      ·subst h5;simp[insC,specVal,specWordOk,h0];repeat' first | (refine cnd_of (fun hc=>?_) (fun hc=>?_)<;>simp[hc,insC]) | (refine grd_t (fun hc=>?_) (fun hc=>?_)<;>simp[hc,insC]) | (refine grd_f (fun hc=>?_) (fun hc=>?_)<;>simp[hc,insC])
      ·by_cases h6:op=24
       ·subst h6;simp[insC,specVal,specWordOk,h0];repeat' first | (refine cnd_of (fun hc=>?_) (fun hc=>?_)<;>simp[hc,insC]) | (refine grd_t (fun hc=>?_) (fun hc=>?_)<;>simp[hc,insC]) | (refine grd_f (fun hc=>?_) (fun hc=>?_)<;>simp[hc,insC])
       ·simp[insC,specVal,specWordOk,h0,h1,h2,h3,h4,h5,h6]
def findI {α:Type} (p:α→Bool) (xs:List α):Int:=match xs.findIdx? p with
 | some i=>i
 | none=>-1

theorem findI_some {α:Type} {p:α→Bool} {xs:List α} {i:Nat} (hi:i<xs.length) (h:∀ j (hj:j<i),p (xs[j]'(by omega))=false) (hp:p xs[i]=true):findI p xs=i:=by
 unfold findI
 have:xs.findIdx? p=some i:=by
  rw[List.findIdx?_eq_some_iff_getElem]
  exact⟨hi,hp,fun j hj=>by rw[h j hj];simp⟩
 rw[this]

theorem findI_none {α:Type} {p:α→Bool} {xs:List α} (h:∀ j (hj:j<xs.length),p xs[j]=false):findI p xs=-1:=by
 unfold findI
 have:xs.findIdx? p=none:=by
  rw[List.findIdx?_eq_none_iff]
  intro x hx
  obtain⟨j,hj,rfl⟩:=List.getElem_of_mem hx
  exact h j hj
 rw[this]

theorem findI_nonneg {α:Type} {p:α→Bool} {xs:List α}:0≤findI p xs↔xs.any p=true:=by
 unfold findI
 cases h:xs.findIdx? p with
 | some i =>
  rw[List.findIdx?_eq_some_iff_getElem]at h
  obtain⟨hi,hp,_⟩:=h
  simp only[Int.natCast_nonneg,true_iff,List.any_eq_true]
  exact⟨_,List.getElem_mem hi,hp⟩
 | none =>
  rw[List.findIdx?_eq_none_iff]at h
  constructor
  ·intro h2;exact absurd h2 (by decide)
  ·intro h2
   rw[List.any_eq_true]at h2
   obtain⟨x,hx,hp⟩:=h2
   rw[h x hx]at hp;cases hp

theorem indexBlk {H:Hp} {v:CV} {xs:List BlkR} (hv:Blocks H v xs) (hb:xs.length≤BIG) {fid:Nat} {caps:List CV} (p:BlkR→Bool)
  (hp:∀ i (hi:i<xs.length) cs,blkP BIG H cs xs[i]→∀ k:IV×Hp→Prop,CM fid (.agg cs :: caps.map .c) H k=k (.c (.b (p xs[i])),H)) (k:IV×Hp→Prop) :
  CM 133 [.c v,.f fid caps] H k=k (.c (.i (findI p xs)),H):=by
 refine det (cw133 ?_) k
 unfold vf133c
 simp[hv.lenOf]
 refine wp_for CM_mono xs.length (fun i s=>(∀ j (hj:j<i) (hx:j<xs.length),p xs[j]=false)∧s.h=H∧Env.get s.e 0=.c v∧Env.get s.e 1=.f fid caps∧Env.get s.e 7=.c (.i xs.length)∧Env.get s.e 8=.c (.i i)) (by simp) ?_ ?_
 ·rintro i ⟨e,X⟩ hi ⟨ht,rfl,h0,h1,h7,h8⟩
  simp only at h0 h1 h7 h8 hv hp ⊢
  obtain⟨id,g,off,cs,q1,hA,hl,hP⟩:=Row.get hv hi
  have hq:rdN X id g off 6=some cs:=by have:=hA.n 0 6 (by omega);rw[Nat.add_zero,List.drop_zero,List.take_of_length_le (by omega)]at this;exact this
  have hwr:=up1 hi hb
  unfold vf133b0
  cases hpx:p xs[i] with
  | false =>
   simp[h0,h1,h7,h8,q1,hq,hi,hwr,hp i hi _ hP,hpx]
   intro j hj hx
   by_cases e:j=i
   ·subst e;exact hpx
   ·exact ht j (by omega) hx
  | true =>
   simp[h0,h1,h7,h8,q1,hq,hi,hwr,hp i hi _ hP,hpx,findI_some hi (fun j hj=>ht j hj (by omega)) hpx]
 ·rintro⟨e,X⟩ ⟨ht,rfl,h0,h1,h7,h8⟩
  simp only at h0 h1 h7 h8 ⊢
  unfold vf133b0
  simp[h0,h1,h7,h8,findI_none (fun j hj=>ht j hj hj)]

theorem containsBlk {H:Hp} {v:CV} {xs:List BlkR} (hv:Blocks H v xs) (hb:xs.length≤BIG) {fid:Nat} {caps:List CV} (p:BlkR→Bool)
  (hp:∀ i (hi:i<xs.length) cs,blkP BIG H cs xs[i]→∀ k:IV×Hp→Prop,CM fid (.agg cs :: caps.map .c) H k=k (.c (.b (p xs[i])),H)) (k:IV×Hp→Prop) :
  CM 74 [.c v,.f fid caps] H k=k (.c (.b (xs.any p)),H):=by
 refine det (cw74 ?_) k
 unfold vf74c
 have e:decide (0≤findI p xs)=xs.any p:=by
  cases h:xs.any p with
  | true=>exact decide_eq_true (findI_nonneg.2 h)
  | false=>exact decide_eq_false fun hc=>by rw[findI_nonneg.1 hc]at h;cases h
 simp[indexBlk hv hb p hp,e]

theorem indexPhi {H:Hp} {v:CV} {xs:List PhiR} (hv:Phis H v xs) (hb:xs.length≤BIG) {fid:Nat} {caps:List CV} (p:PhiR→Bool)
  (hp:∀ i (hi:i<xs.length) cs,phiP BIG H cs xs[i]→∀ k:IV×Hp→Prop,CM fid (.agg cs :: caps.map .c) H k=k (.c (.b (p xs[i])),H)) (k:IV×Hp→Prop) :
  CM 83 [.c v,.f fid caps] H k=k (.c (.i (findI p xs)),H):=by
 refine det (cw83 ?_) k
 unfold vf83c
 simp[hv.lenOf]
 refine wp_for CM_mono xs.length (fun i s=>(∀ j (hj:j<i) (hx:j<xs.length),p xs[j]=false)∧s.h=H∧Env.get s.e 0=.c v∧Env.get s.e 1=.f fid caps∧Env.get s.e 7=.c (.i xs.length)∧Env.get s.e 8=.c (.i i)) (by simp) ?_ ?_
 ·rintro i ⟨e,X⟩ hi ⟨ht,rfl,h0,h1,h7,h8⟩
  simp only at h0 h1 h7 h8 hv hp ⊢
  obtain⟨id,g,off,cs,q1,hA,hl,hP⟩:=Row.get hv hi
  have hq:rdN X id g off 2=some cs:=by have:=hA.n 0 2 (by omega);rw[Nat.add_zero,List.drop_zero,List.take_of_length_le (by omega)]at this;exact this
  have hwr:=up1 hi hb
  unfold vf83b0
  cases hpx:p xs[i] with
  | false =>
   simp[h0,h1,h7,h8,q1,hq,hi,hwr,hp i hi _ hP,hpx]
   intro j hj hx
   by_cases e:j=i
   ·subst e;exact hpx
   ·exact ht j (by omega) hx
  | true =>
   simp[h0,h1,h7,h8,q1,hq,hi,hwr,hp i hi _ hP,hpx,findI_some hi (fun j hj=>ht j hj (by omega)) hpx]
 ·rintro⟨e,X⟩ ⟨ht,rfl,h0,h1,h7,h8⟩
  simp only at h0 h1 h7 h8 ⊢
  unfold vf83b0
  simp[h0,h1,h7,h8,findI_none (fun j hj=>ht j hj hj)]

theorem containsPhi {H:Hp} {v:CV} {xs:List PhiR} (hv:Phis H v xs) (hb:xs.length≤BIG) {fid:Nat} {caps:List CV} (p:PhiR→Bool)
  (hp:∀ i (hi:i<xs.length) cs,phiP BIG H cs xs[i]→∀ k:IV×Hp→Prop,CM fid (.agg cs :: caps.map .c) H k=k (.c (.b (p xs[i])),H)) (k:IV×Hp→Prop) :
  CM 102 [.c v,.f fid caps] H k=k (.c (.b (xs.any p)),H):=by
 refine det (cw102 ?_) k
 unfold vf102c
 have e:decide (0≤findI p xs)=xs.any p:=by
  cases h:xs.any p with
  | true=>exact decide_eq_true (findI_nonneg.2 h)
  | false=>exact decide_eq_false fun hc=>by rw[findI_nonneg.1 hc]at h;cases h
 simp[indexPhi hv hb p hp,e]

theorem indexIns {H:Hp} {v:CV} {xs:List InsR} (hv:List5 H v xs) (hb:xs.length≤BIG) {fid:Nat} {caps:List CV} (p:InsR→Bool)
  (hp:∀ i (hi:i<xs.length) cs,insP H cs xs[i]→∀ k:IV×Hp→Prop,CM fid (.agg cs :: caps.map .c) H k=k (.c (.b (p xs[i])),H)) (k:IV×Hp→Prop) :
  CM 84 [.c v,.f fid caps] H k=k (.c (.i (findI p xs)),H):=by
 refine det (cw84 ?_) k
 unfold vf84c
 simp[hv.lenOf]
 refine wp_for CM_mono xs.length (fun i s=>(∀ j (hj:j<i) (hx:j<xs.length),p xs[j]=false)∧s.h=H∧Env.get s.e 0=.c v∧Env.get s.e 1=.f fid caps∧Env.get s.e 7=.c (.i xs.length)∧Env.get s.e 8=.c (.i i)) (by simp) ?_ ?_
 ·rintro i ⟨e,X⟩ hi ⟨ht,rfl,h0,h1,h7,h8⟩
  simp only at h0 h1 h7 h8 hv hp ⊢
  obtain⟨id,g,off,cs,q1,hA,hl,hP⟩:=Row.get hv hi
  have hq:rdN X id g off 5=some cs:=by have:=hA.n 0 5 (by omega);rw[Nat.add_zero,List.drop_zero,List.take_of_length_le (by omega)]at this;exact this
  have hwr:=up1 hi hb
  unfold vf84b0
  cases hpx:p xs[i] with
  | false =>
   simp[h0,h1,h7,h8,q1,hq,hi,hwr,hp i hi _ hP,hpx]
   intro j hj hx
   by_cases e:j=i
   ·subst e;exact hpx
   ·exact ht j (by omega) hx
  | true =>
   simp[h0,h1,h7,h8,q1,hq,hi,hwr,hp i hi _ hP,hpx,findI_some hi (fun j hj=>ht j hj (by omega)) hpx]
 ·rintro⟨e,X⟩ ⟨ht,rfl,h0,h1,h7,h8⟩
  simp only at h0 h1 h7 h8 ⊢
  unfold vf84b0
  simp[h0,h1,h7,h8,findI_none (fun j hj=>ht j hj hj)]

theorem containsIns {H:Hp} {v:CV} {xs:List InsR} (hv:List5 H v xs) (hb:xs.length≤BIG) {fid:Nat} {caps:List CV} (p:InsR→Bool)
  (hp:∀ i (hi:i<xs.length) cs,insP H cs xs[i]→∀ k:IV×Hp→Prop,CM fid (.agg cs :: caps.map .c) H k=k (.c (.b (p xs[i])),H)) (k:IV×Hp→Prop) :
  CM 105 [.c v,.f fid caps] H k=k (.c (.b (xs.any p)),H):=by
 refine det (cw105 ?_) k
 unfold vf105c
 have e:decide (0≤findI p xs)=xs.any p:=by
  cases h:xs.any p with
  | true=>exact decide_eq_true (findI_nonneg.2 h)
  | false=>exact decide_eq_false fun hc=>by rw[findI_nonneg.1 hc]at h;cases h
 simp[indexIns hv hb p hp,e]

theorem indexArm {H:Hp} {v:CV} {xs:List ArmR} (hv:Arms H v xs) (hb:xs.length≤BIG) {fid:Nat} {caps:List CV} (p:ArmR→Bool)
  (hp:∀ i (hi:i<xs.length) cs,armP H cs xs[i]→∀ k:IV×Hp→Prop,CM fid (.agg cs :: caps.map .c) H k=k (.c (.b (p xs[i])),H)) (k:IV×Hp→Prop) :
  CM 191 [.c v,.f fid caps] H k=k (.c (.i (findI p xs)),H):=by
 refine det (cw191 ?_) k
 unfold vf191c
 simp[hv.lenOf]
 refine wp_for CM_mono xs.length (fun i s=>(∀ j (hj:j<i) (hx:j<xs.length),p xs[j]=false)∧s.h=H∧Env.get s.e 0=.c v∧Env.get s.e 1=.f fid caps∧Env.get s.e 7=.c (.i xs.length)∧Env.get s.e 8=.c (.i i)) (by simp) ?_ ?_
 ·rintro i ⟨e,X⟩ hi ⟨ht,rfl,h0,h1,h7,h8⟩
  simp only at h0 h1 h7 h8 hv hp ⊢
  obtain⟨id,g,off,cs,q1,hA,hl,hP⟩:=Row.get hv hi
  have hq:rdN X id g off 2=some cs:=by have:=hA.n 0 2 (by omega);rw[Nat.add_zero,List.drop_zero,List.take_of_length_le (by omega)]at this;exact this
  have hwr:=up1 hi hb
  unfold vf191b0
  cases hpx:p xs[i] with
  | false =>
   simp[h0,h1,h7,h8,q1,hq,hi,hwr,hp i hi _ hP,hpx]
   intro j hj hx
   by_cases e:j=i
   ·subst e;exact hpx
   ·exact ht j (by omega) hx
  | true =>
   simp[h0,h1,h7,h8,q1,hq,hi,hwr,hp i hi _ hP,hpx,findI_some hi (fun j hj=>ht j hj (by omega)) hpx]
 ·rintro⟨e,X⟩ ⟨ht,rfl,h0,h1,h7,h8⟩
  simp only at h0 h1 h7 h8 ⊢
  unfold vf191b0
  simp[h0,h1,h7,h8,findI_none (fun j hj=>ht j hj hj)]

theorem containsArm {H:Hp} {v:CV} {xs:List ArmR} (hv:Arms H v xs) (hb:xs.length≤BIG) {fid:Nat} {caps:List CV} (p:ArmR→Bool)
  (hp:∀ i (hi:i<xs.length) cs,armP H cs xs[i]→∀ k:IV×Hp→Prop,CM fid (.agg cs :: caps.map .c) H k=k (.c (.b (p xs[i])),H)) (k:IV×Hp→Prop) :
  CM 153 [.c v,.f fid caps] H k=k (.c (.b (xs.any p)),H):=by
 refine det (cw153 ?_) k
 unfold vf153c
 have e:decide (0≤findI p xs)=xs.any p:=by
  cases h:xs.any p with
  | true=>exact decide_eq_true (findI_nonneg.2 h)
  | false=>exact decide_eq_false fun hc=>by rw[findI_nonneg.1 hc]at h;cases h
 simp[indexArm hv hb p hp,e]
theorem Row.slice {α:Type} {P:Hp→List CV→α→Prop} {sz:Nat} {H:Hp} {v:CV} {xs:List α} (h:Row P sz H v xs) {l m:Nat} (hl:l≤m) (hm:m≤xs.length) :
  ∃ w,doSlice H sz v (some (.c (.i l))) (some (.c (.i m)))=some (.c w)∧Row P sz H w ((xs.drop l).take (m - l))∧(l=0→doSlice H sz v none (some (.c (.i m)))=some (.c w))∧(m=xs.length→doSlice H sz v (some (.c (.i l))) none=some (.c w)):=by
 obtain⟨css,h1,h2,h3⟩:=h
 have hl2:∀ cs∈css,cs.length=sz:=by
  intro cs hcs
  obtain⟨i,hi,rfl⟩:=List.getElem_of_mem hcs
  exact (h3 i _ xs[i] (List.getElem?_eq_getElem hi) (List.getElem?_eq_getElem (by omega))).1
 rcases h1 with⟨rfl,h1,_⟩ | ⟨id,g,off,o,rfl,q1,q2,q3,q4⟩
 ·have e1:l=0:=by omega
  have e2:m=0:=by omega
  subst e1;subst e2
  refine⟨.ns,by simp[doSlice],by simpa using Row.ns,fun _=>by simp[doSlice],fun _=>by simp[doSlice]⟩
 ·have hmi:¬ ((m:Int)<l):=by omega
  refine⟨.sl id g (off+l * sz) (m - l),by simp[doSlice,hl,hm,q1,q2],?_,fun e=>by subst e;simp[doSlice,hm,q1,q2],fun e=>by subst e;simp[doSlice,hl,q1,q2]⟩
  have hmul:m * sz≤xs.length * sz:=Nat.mul_le_mul_right _ hm
  have hlm:l * sz+(m - l) * sz=m * sz:=by rw[← Nat.add_mul];congr 1;omega
  have hlen:((xs.drop l).take (m - l)).length=m - l:=by simp;omega
  refine⟨(css.drop l).take (m - l),?_,by simp;omega,fun k cs x a b=>?_⟩
  ·rw[hlen]
   refine .inr ⟨id,g,off+l * sz,o,rfl,q1,q2,by omega,?_⟩
   have key:∀ (css:List (List CV)),(∀ cs∈css,cs.length=sz)→∀ l n,l+n≤css.length→((css.drop l).take n).flatten=(css.flatten.drop (l * sz)).take (n * sz):=by
    intro css
    induction css with
    | nil=>intro _ l n h;simp at h;simp[h.1,h.2]
    | cons c r ih =>
     intro hc l n h
     have hcl:=hc c (by simp)
     cases l with
     | zero =>
      cases n with
      | zero=>simp
      | succ n =>
       have:=ih (fun cs h=>hc cs (by simp[h])) 0 n (by simpa using h)
       simp at this
       have hm:(n+1) * sz=c.length+n * sz:=by rw[Nat.succ_mul,hcl];omega
       simp[hm,List.take_append,this]
       rw[List.take_of_length_le (by omega)]
     | succ l =>
      have:=ih (fun cs h=>hc cs (by simp[h])) l n (by simp at h;omega)
      have hm:(l+1) * sz=c.length+l * sz:=by rw[Nat.succ_mul,hcl];omega
      have hd:List.drop (c.length+l * sz) c=[]:=List.drop_eq_nil_of_le (by omega)
      simp[hm,List.drop_append,this,hd]
   rw[key css hl2 l (m - l) (by omega),← q4,List.drop_take,List.take_take,List.drop_drop]
   congr 1
   omega
  ·rw[List.getElem?_take]at a b
   split at a
   ·rename_i hk
    rw[if_pos hk]at b
    rw[List.getElem?_drop]at a b
    exact h3 _ cs x a b
   ·cases a


def IsB (H:Hp) (v:CV) (xs:List Int):Prop:=Sl H 1 v xs.length (xs.map .y)

theorem IsB.lenOf {H:Hp} {v:CV} {xs:List Int} (h:IsB H v xs):lenOf v=some xs.length:=Sl.lenOf h

theorem IsB.at_ {H:Hp} {v:CV} {xs:List Int} (h:IsB H v xs) {k:Nat} (hk:k<xs.length) :
  ∃ id g off,idxOf 1 v (k:Int)=some (.p id g off)∧rdC H id g off=some (.y xs[k]):=by
 obtain⟨id,g,off,o,h1,h2,_,h3⟩:=Sl.get h hk
 refine⟨id,g,off,h1,?_⟩
 have:=h3 0 (by omega)
 simp[hk]at this
 simp[rdC,h2,this]

theorem IsB.mk {H:Hp} {id g off:Nat} {o:Ob} {xs:List Int} (h:rdOb H id g=some o) (hs:o.sz=1) (hl:off+xs.length≤o.cells.length) (hc:(o.cells.drop off).take xs.length=xs.map .y):IsB H (.sl id g off xs.length) xs:=
 .inr ⟨id,g,off,o,rfl,h,hs,by omega,by rw[Nat.mul_one];exact hc⟩

theorem indexByte {H:Hp} {v:CV} {xs:List Int} {x:Int} (hv:IsB H v xs) (hb:xs.length≤BIG) (k:IV×Hp→Prop) :
  CM 188 [.c v,.c (.y x)] H k=k (.c (.i (findI (fun y=>decide (x=y)) xs)),H):=by
 refine det (cw188 ?_) k
 unfold vf188c
 simp[hv.lenOf]
 refine wp_for CM_mono xs.length (fun i s=>(∀ j (hj:j<i) (hx:j<xs.length),decide (x=xs[j])=false)∧s.h=H∧Env.get s.e 0=.c v∧Env.get s.e 1=.c (.y x)∧Env.get s.e 7=.c (.i xs.length)∧Env.get s.e 8=.c (.i i)) (by simp) ?_ ?_
 ·rintro i ⟨e,X⟩ hi ⟨ht,rfl,h0,h1,h7,h8⟩
  simp only at h0 h1 h7 h8 hv ⊢
  obtain⟨id,g,off,q1,q2⟩:=hv.at_ hi
  have hwr:=up1 hi hb
  unfold vf188b0
  cases hpx:decide (x=xs[i]) with
  | false =>
   simp[h0,h1,h7,h8,q1,q2,hi,hwr,hpx]
   intro j hj hx
   by_cases e:j=i
   ·subst e;exact of_decide_eq_false hpx
   ·exact of_decide_eq_false (ht j (by omega) hx)
  | true =>
   simp[h0,h1,h7,h8,q1,q2,hi,hwr,hpx,findI_some hi (p:=fun y=>decide (x=y)) (fun j hj=>ht j hj (by omega)) hpx]
 ·rintro⟨e,X⟩ ⟨ht,rfl,h0,h1,h7,h8⟩
  simp only at h0 h1 h7 h8 ⊢
  unfold vf188b0
  simp[h0,h1,h7,h8,findI_none (p:=fun y=>decide (x=y)) (fun j hj=>ht j hj hj)]

theorem containsByte {H:Hp} {v:CV} {xs:List Int} {x:Int} (hv:IsB H v xs) (hb:xs.length≤BIG) (k:IV×Hp→Prop) :
  CM 145 [.c v,.c (.y x)] H k=k (.c (.b (xs.any fun y=>decide (x=y))),H):=by
 refine det (cw145 ?_) k
 unfold vf145c
 have e:decide (0≤findI (fun y=>decide (x=y)) xs)=xs.any (fun y=>decide (x=y)):=by
  cases h:xs.any (fun y=>decide (x=y)) with
  | true=>exact decide_eq_true (findI_nonneg.2 h)
  | false=>exact decide_eq_false fun hc=>by rw[findI_nonneg.1 hc]at h;cases h
 simp[indexByte hv hb,e]

def formF (op:Int):ByteArray×Bool:=
 if op=20 then (⟨#[68,78]⟩,true) else if op=21∨op=25 then (⟨#[68,65]⟩,true) else if op=22 then (⟨#[65,66]⟩,true) else if op=23 then (⟨#[65]⟩,true) else if op=24 then (⟨#[68]⟩,true) else (⟨#[68,65,66]⟩,wordOk op)

theorem gc_tup (H:Hp) (s:ByteArray) (b:Bool):gcRet H (.tup [(false,[.s s]),(false,[.b b])]) H=(.tup [(false,[.s s]),(false,[.b b])],H):=gc_same H rfl

theorem formOf_call (H:Hp) (op:Int) (k:IV×Hp→Prop):CM 144 [.c (.i op)] H k=k (.tup [(false,[.s (formF op).1]),(false,[.b (formF op).2])],H):=by
 refine det (cw144 ?_) k
 unfold vf144c formF
 by_cases h0:op=20
 ·simp[h0,gc_tup]
 ·by_cases h1:op=21
  ·simp[h1,gc_tup]
  ·by_cases h5:op=25
   ·simp[h5,gc_tup]
   ·by_cases h2:op=22
    ·simp[h2,gc_tup]
    ·by_cases h3:op=23
     ·simp[h3,gc_tup]
     ·by_cases h4:op=24
      ·simp[h4,gc_tup]
      ·simp[h0,h1,h2,h3,h4,h5,gc_tup,implWordOk]

def bytesI (s:ByteArray):List Int:=s.data.toList.map fun b=>(b.toNat:Int)

def hasF (op x:Int):Bool:=(formF op).2 && (bytesI (formF op).1).any fun y=>decide (x=y)

theorem has_call (H:Hp) (op x:Int) (k:IV×Hp→Prop):CM 85 [.c (.i op),.c (.y x)] H k=k (.c (.b (hasF op x)),H):=by
 refine det (cw85 ?_) k
 unfold vf85c
 have hsz:(formF op).1.size≤3:=by
  unfold formF
  repeat' split
  all_goals first
   | decide
   | exact (by decide:ByteArray.size ⟨#[68,65,66]⟩≤3)
 generalize hf:formF op=f at hsz
 obtain⟨s,ok⟩:=f
 simp only at hsz
 unfold hasF
 rw[hf]
 have hlen:(bytesI s).length=s.size:=by simp[bytesI]
 have hc:=containsByte (H:=H++[⟨s.data.toList.map fun b=>.y b.toNat,0,false,1⟩]) (v:=.sl H.length 0 0 s.size) (xs:=bytesI s) (x:=x)
  (by rw[← hlen];exact IsB.mk (o:=⟨s.data.toList.map fun b=>.y b.toNat,0,false,1⟩) (by simp) rfl (by simp[hlen]) (by rw[hlen,List.drop_zero,List.take_of_length_le (by simp)];simp[bytesI])) (by rw[hlen];simp only[BIG];omega)
 have hl:s.size≤LIM:=by unfold LIM;omega
 cases ok with
 | true=>simp[formOf_call,hf,hc,hl]
 | false=>simp[formOf_call,hf,hc,hl]

theorem partOk_call (H:Hp) (n m:Int) (had:Bool) (k:IV×Hp→Prop):CM 152 [.c (.i n),.c (.b had),.c (.i m)] H k=k (.c (.b (if had=true then valB n m else decide (n=0))),H):=by
 refine det (cw152 ?_) k
 unfold vf152c valB
 cases had with
 | true=>by_cases h:0≤n<;>simp[h]
 | false=>simp

theorem implTerm (H:Hp) (t:TrmR) (n m:Int) (hn:-9223372036854775807≤n∧n≤9223372036854775807) (k:IV×Hp→Prop) :
  CM 101 [.agg (trmC t),.c (.i n),.c (.i m)] H k=k (.c (.b (termB t n m)),H):=by
 refine det (cw101 ?_) k
 unfold vf101c termB
 have hw:wrap64 (n - 1)=n - 1:=wrap64_id (by omega)
 obtain⟨kind,a,to,els⟩:=t
 by_cases h1:kind=1
 ·subst h1;simp[trmC,implIn,partOk_call,hw];repeat' first | (refine cnd_of (fun hc=>?_) (fun hc=>?_)<;>simp[hc,implIn,partOk_call,hw]) | (refine grd_t (fun hc=>?_) (fun hc=>?_)<;>simp[hc,implIn,partOk_call,hw]) | (refine grd_f (fun hc=>?_) (fun hc=>?_)<;>simp[hc,implIn,partOk_call,hw])
 ·by_cases h2:kind=2
  ·subst h2;simp[trmC,implIn,partOk_call,hw];repeat' first | (refine cnd_of (fun hc=>?_) (fun hc=>?_)<;>simp[hc,implIn,partOk_call,hw]) | (refine grd_t (fun hc=>?_) (fun hc=>?_)<;>simp[hc,implIn,partOk_call,hw]) | (refine grd_f (fun hc=>?_) (fun hc=>?_)<;>simp[hc,implIn,partOk_call,hw])
  ·by_cases h3:kind=3
   ·subst h3;simp[trmC,implIn,partOk_call,hw];repeat' first | (refine cnd_of (fun hc=>?_) (fun hc=>?_)<;>simp[hc,implIn,partOk_call,hw]) | (refine grd_t (fun hc=>?_) (fun hc=>?_)<;>simp[hc,implIn,partOk_call,hw]) | (refine grd_f (fun hc=>?_) (fun hc=>?_)<;>simp[hc,implIn,partOk_call,hw])
   ·simp[trmC,implIn,partOk_call,hw,h1,h2,h3]

theorem has_tab (op:Int):(wordOk op=true∧hasF op 68=true∧hasF op 65=true∧hasF op 66=true∧hasF op 78=false∧(formF op).2=true) ∨
  (op=20∧hasF op 68=true∧hasF op 65=false∧hasF op 66=false∧hasF op 78=true∧(formF op).2=true) ∨
  ((op=21∨op=25)∧hasF op 68=true∧hasF op 65=true∧hasF op 66=false∧hasF op 78=false∧(formF op).2=true) ∨
  (op=22∧hasF op 68=false∧hasF op 65=true∧hasF op 66=true∧hasF op 78=false∧(formF op).2=true) ∨
  (op=23∧hasF op 68=false∧hasF op 65=true∧hasF op 66=false∧hasF op 78=false∧(formF op).2=true) ∨
  (op=24∧hasF op 68=true∧hasF op 65=false∧hasF op 66=false∧hasF op 78=false∧(formF op).2=true) ∨
  (wordOk op=false∧op≠20∧op≠21∧op≠25∧op≠22∧op≠23∧op≠24∧hasF op 68=false∧hasF op 65=false∧hasF op 66=false∧hasF op 78=false∧(formF op).2=false):=by
 by_cases h0:op=20
 ·subst h0;exact .inr (.inl (by decide))
 ·by_cases h1:op=21
  ·subst h1;exact .inr (.inr (.inl (by decide)))
  ·by_cases h5:op=25
   ·subst h5;exact .inr (.inr (.inl (by decide)))
   ·by_cases h2:op=22
    ·subst h2;exact .inr (.inr (.inr (.inl (by decide))))
    ·by_cases h3:op=23
     ·subst h3;exact .inr (.inr (.inr (.inr (.inl (by decide)))))
     ·by_cases h4:op=24
      ·subst h4;exact .inr (.inr (.inr (.inr (.inr (.inl (by decide))))))
      ·have hf:formF op=(⟨#[68,65,66]⟩,wordOk op):=by simp[formF,h0,h1,h2,h3,h4,h5]
       have hb:bytesI ⟨#[68,65,66]⟩=[68,65,66]:=by decide
       cases hw:wordOk op with
       | true=>left;simp[hasF,hf,hw,hb]
       | false=>right;right;right;right;right;right;simp[hasF,hf,hw,h0,h1,h2,h3,h4,h5]

set_option maxRecDepth 4000 in
theorem implIns (H:Hp) (x:InsR) (m:Int) (k:IV×Hp→Prop) :
  CM 107 [.agg (insC x),.c (.i m)] H k=k (.c (.b (insB x m)),H):=by
 refine det (cw107 ?_) k
 unfold vf107c insB
 obtain⟨op,d,a,b,n⟩:=x
 simp only
 rcases has_tab op with h | h | h | h | h | h | h
 ·obtain⟨h0,h1,h2,h3,h4,h5⟩:=h
  simp[insC,formOf_call,has_call,partOk_call,h0,h1,h2,h3,h4,h5]
  repeat' first | (refine cnd_of (fun hc=>?_) (fun hc=>?_)<;>simp[hc,has_call,partOk_call,h0,h1,h2,h3,h4,h5]) | (refine grd_t (fun hc=>?_) (fun hc=>?_)<;>simp[hc,has_call,partOk_call,h0,h1,h2,h3,h4,h5]) | (refine grd_f (fun hc=>?_) (fun hc=>?_)<;>simp[hc,has_call,partOk_call,h0,h1,h2,h3,h4,h5])
 ·obtain⟨rfl,h1,h2,h3,h4,h5⟩:=h
  have h0:wordOk 20=false:=by decide
  simp[insC,formOf_call,has_call,partOk_call,h0,h1,h2,h3,h4,h5]
  repeat' first | (refine cnd_of (fun hc=>?_) (fun hc=>?_)<;>simp[hc,has_call,partOk_call,h0,h1,h2,h3,h4,h5]) | (refine grd_t (fun hc=>?_) (fun hc=>?_)<;>simp[hc,has_call,partOk_call,h0,h1,h2,h3,h4,h5]) | (refine grd_f (fun hc=>?_) (fun hc=>?_)<;>simp[hc,has_call,partOk_call,h0,h1,h2,h3,h4,h5])
 ·obtain⟨rfl | rfl,h1,h2,h3,h4,h5⟩:=h
  ·have h0:wordOk 21=false:=by decide
   simp[insC,formOf_call,has_call,partOk_call,h0,h1,h2,h3,h4,h5]
   repeat' first | (refine cnd_of (fun hc=>?_) (fun hc=>?_)<;>simp[hc,has_call,partOk_call,h0,h1,h2,h3,h4,h5]) | (refine grd_t (fun hc=>?_) (fun hc=>?_)<;>simp[hc,has_call,partOk_call,h0,h1,h2,h3,h4,h5]) | (refine grd_f (fun hc=>?_) (fun hc=>?_)<;>simp[hc,has_call,partOk_call,h0,h1,h2,h3,h4,h5])
  ·have h0:wordOk 25=false:=by decide
   simp[insC,formOf_call,has_call,partOk_call,h0,h1,h2,h3,h4,h5]
   repeat' first | (refine cnd_of (fun hc=>?_) (fun hc=>?_)<;>simp[hc,has_call,partOk_call,h0,h1,h2,h3,h4,h5]) | (refine grd_t (fun hc=>?_) (fun hc=>?_)<;>simp[hc,has_call,partOk_call,h0,h1,h2,h3,h4,h5]) | (refine grd_f (fun hc=>?_) (fun hc=>?_)<;>simp[hc,has_call,partOk_call,h0,h1,h2,h3,h4,h5])
 ·obtain⟨rfl,h1,h2,h3,h4,h5⟩:=h
  have h0:wordOk 22=false:=by decide
  simp[insC,formOf_call,has_call,partOk_call,h0,h1,h2,h3,h4,h5]
  repeat' first | (refine cnd_of (fun hc=>?_) (fun hc=>?_)<;>simp[hc,has_call,partOk_call,h0,h1,h2,h3,h4,h5]) | (refine grd_t (fun hc=>?_) (fun hc=>?_)<;>simp[hc,has_call,partOk_call,h0,h1,h2,h3,h4,h5]) | (refine grd_f (fun hc=>?_) (fun hc=>?_)<;>simp[hc,has_call,partOk_call,h0,h1,h2,h3,h4,h5])
 ·obtain⟨rfl,h1,h2,h3,h4,h5⟩:=h
  have h0:wordOk 23=false:=by decide
  simp[insC,formOf_call,has_call,partOk_call,h0,h1,h2,h3,h4,h5]
  repeat' first | (refine cnd_of (fun hc=>?_) (fun hc=>?_)<;>simp[hc,has_call,partOk_call,h0,h1,h2,h3,h4,h5]) | (refine grd_t (fun hc=>?_) (fun hc=>?_)<;>simp[hc,has_call,partOk_call,h0,h1,h2,h3,h4,h5]) | (refine grd_f (fun hc=>?_) (fun hc=>?_)<;>simp[hc,has_call,partOk_call,h0,h1,h2,h3,h4,h5])
 ·obtain⟨rfl,h1,h2,h3,h4,h5⟩:=h
  have h0:wordOk 24=false:=by decide
  simp[insC,formOf_call,has_call,partOk_call,h0,h1,h2,h3,h4,h5]
  repeat' first | (refine cnd_of (fun hc=>?_) (fun hc=>?_)<;>simp[hc,has_call,partOk_call,h0,h1,h2,h3,h4,h5]) | (refine grd_t (fun hc=>?_) (fun hc=>?_)<;>simp[hc,has_call,partOk_call,h0,h1,h2,h3,h4,h5]) | (refine grd_f (fun hc=>?_) (fun hc=>?_)<;>simp[hc,has_call,partOk_call,h0,h1,h2,h3,h4,h5])
 ·obtain⟨h0,e1,e2,e3,e4,e5,e6,h1,h2,h3,h4,h5⟩:=h
  simp[insC,formOf_call,has_call,partOk_call,h0,h1,h2,h3,h4,h5,e1,e2,e3,e4,e5,e6]
theorem all_of {α:Type} {p:α→Bool} {xs:List α} (h:∀ j (hj:j<xs.length),p xs[j]=true):xs.all p=true:=by
 rw[List.all_eq_true]
 intro x hx
 obtain⟨j,hj,rfl⟩:=List.getElem_of_mem hx
 exact h j hj

theorem all_not {α:Type} {p:α→Bool} {xs:List α} {i:Nat} (hi:i<xs.length) (h:p xs[i]=false):xs.all p=false:=by
 cases hc:xs.all p with
 | false=>rfl
 | true=>rw[List.all_eq_true]at hc;rw[hc _ (List.getElem_mem hi)]at h;cases h

def armB (n m:Int) (arms:List ArmR) (i:Nat):Bool:=match arms[i]? with
 | some a=>inB a.fr 0 (n - 1) && valB a.v m && !(arms.take i).any fun x=>decide (x.fr=a.fr)
 | none=>true

def armsB (n m:Int) (arms:List ArmR):Bool:=(List.range arms.length).all (armB n m arms)

def phiB (n m:Int) (p:PhiR):Bool:=valB p.d m && decide (p.arms.length≤16) && armsB n m p.arms

def blkB (n m:Int) (b:BlkR):Bool:=decide (b.phis.length≤24) && decide (b.list.length≤24) && termB b.term n m && b.phis.all (phiB n m) && b.list.all fun x=>insB x m

def shapeB (f:FnR):Bool:=inB f.blocks.length 1 16 && inB f.values 0 80 && f.blocks.all (blkB f.blocks.length f.values)

theorem armB_at {n m:Int} {arms:List ArmR} {i:Nat} (hi:i<arms.length):armB n m arms i=(inB arms[i].fr 0 (n - 1) && valB arms[i].v m && !(arms.take i).any fun x=>decide (x.fr=arms[i].fr)):=by
 unfold armB;rw[List.getElem?_eq_getElem hi]

theorem armsB_true {n m:Int} {arms:List ArmR} (h:∀ j,j<arms.length→armB n m arms j=true):armsB n m arms=true:=by
 unfold armsB;rw[List.all_eq_true];intro j hj;exact h j (List.mem_range.1 hj)

theorem armsB_false {n m:Int} {arms:List ArmR} {i:Nat} (hi:i<arms.length) (h:armB n m arms i=false):armsB n m arms=false:=by
 cases hc:armsB n m arms with
 | false=>rfl
 | true =>
  unfold armsB at hc
  rw[List.all_eq_true]at hc
  rw[hc i (List.mem_range.2 hi)]at h;cases h

theorem natLe {m:Nat}:((m:Int)≤16)=(m≤16):=by simp only[eq_iff_iff];omega

theorem wn1 {n:Int} (hn:-9223372036854775807≤n∧n≤9223372036854775807):wrap64 (n - 1)=n - 1:=wrap64_id (by omega)

theorem specPhi {H:Hp} {d:Int} {w:CV} {arms:List ArmR} (hw:Arms H w arms) (hb:arms.length≤BIG) (n m:Int) (hn:-9223372036854775807≤n∧n≤9223372036854775807) (k:IV×Hp→Prop) :
  CM 109 [.agg [.i d,w],.c (.i n),.c (.i m)] H k=k (.c (.b (phiB n m ⟨d,arms⟩)),H):=by
 refine det (cw109 ?_) k
 unfold vf109c phiB
 simp only
 cases e1:valB d m with
 | false=>simp[specVal,e1]
 | true =>
  by_cases e2:arms.length≤16
  ·have e2':¬ (16:Int)<arms.length:=by omega
   simp[specVal,e1,hw.lenOf,e2,e2']
   refine wp_for CM_mono arms.length (fun i s=>(∀ j,j<i→armB n m arms j=true)∧s.h=H++[⟨[.i d,w],0,true,2⟩]∧Env.get s.e 1=.c (.i n)∧Env.get s.e 2=.c (.i m)∧Env.get s.e 3=.c (.p H.length 0 0)∧Env.get s.e 7=.c (.i i)) (by simp) ?_ ?_
   ·rintro i ⟨e,X⟩ hi ⟨ht,rfl,h1,h2,h3,h7⟩
    simp only at h1 h2 h3 h7 ⊢
    obtain⟨id,g,off,q1,q2,q3,q4,q5⟩:=hw.get hi
    have hA:=armB_at (n:=n) (m:=m) hi
    unfold vf109b1
    cases f1:inB arms[i].fr 0 (n - 1) with
    | false=>simp[h1,h2,h3,h7,hw.lenOf,hi,q1,q3,specIn,wn1 hn,f1,armsB_false hi (by rw[hA,f1];rfl)]
    | true =>
     cases f2:valB arms[i].v m with
     | false=>simp[h1,h2,h3,h7,hw.lenOf,hi,q1,q3,specIn,specVal,wn1 hn,f1,f2,armsB_false hi (by rw[hA,f1,f2];rfl)]
     | true =>
      simp[h1,h2,h3,h7,hw.lenOf,hi,q1,q3,specIn,specVal,wn1 hn,f1,f2]
      refine wp_for CM_mono i (fun j s=>(∀ l (hl:l<j) (hx:l<arms.length),¬ arms[l].fr=arms[i].fr)∧s.h=H++[⟨[.i d,w],0,true,2⟩]∧Env.get s.e 1=.c (.i n)∧Env.get s.e 2=.c (.i m)∧Env.get s.e 3=.c (.p H.length 0 0)∧Env.get s.e 7=.c (.i i)∧Env.get s.e 8=.c (.i j)) (by simp[h1,h2,h3,h7]) ?_ ?_
      ·rintro j ⟨e',X'⟩ hj ⟨ht',rfl,h1,h2,h3,h7,h8⟩
       simp only at h1 h2 h3 h7 h8 ⊢
       obtain⟨id',g',off',r1,r2,r3,r4,r5⟩:=hw.get (k:=j) (by omega)
       unfold vf109b0
       by_cases f3:arms[j].fr=arms[i].fr
       ·have hany:((arms.take i).any fun x=>decide (x.fr=arms[i].fr))=true:=by
         rw[List.any_eq_true]
         exact⟨arms[j],List.mem_take_iff_getElem.2 ⟨j,by omega,rfl⟩,by simp[f3]⟩
        simp[h1,h2,h3,h7,h8,hj,q1,q3,r1,r3,f3,armsB_false hi (by rw[hA,hany];simp)]
       ·simp[h1,h2,h3,h7,h8,hj,q1,q3,r1,r3,f3,up1 hj (Nat.le_of_lt (Nat.lt_of_lt_of_le hi hb))]
        intro l hl hx
        by_cases el:l=j
        ·subst el;exact f3
        ·exact ht' l (by omega) hx
      ·rintro⟨e',X'⟩ ⟨ht',rfl,h1,h2,h3,h7,h8⟩
       simp only at h1 h2 h3 h7 h8 ⊢
       unfold vf109b0
       have hany:((arms.take i).any fun x=>decide (x.fr=arms[i].fr))=false:=by
        rw[List.any_eq_false]
        intro x hx
        obtain⟨l,hl,rfl⟩:=List.mem_take_iff_getElem.1 hx
        simpa using ht' l (by omega) (by omega)
       have hAt:armB n m arms i=true:=by rw[hA,f1,f2,hany];rfl
       simp[h1,h2,h3,h7,h8,up1 hi hb]
       intro l hl
       by_cases el:l=i
       ·subst el;exact hAt
       ·exact ht l (by omega)
   ·rintro⟨e,X⟩ ⟨ht,rfl,h1,h2,h3,h7⟩
    simp only at h1 h2 h3 h7 ⊢
    unfold vf109b1
    simp[h1,h2,h3,h7,hw.lenOf,armsB_true ht]
  ·have e2':(16:Int)<arms.length:=by omega
   simp[specVal,e1,hw.lenOf,e2,e2']

theorem phiTest {H:Hp} {id g:Nat} {fr:Int} (h:rdC H id g 0=some (.i fr)) (a:ArmR) (k:IV×Hp→Prop) :
  CM 154 [.agg (armC a),.c (.p id g 0)] H k=k (.c (.b (decide (a.fr=fr))),H):=by
 refine det (cw154 ?_) k
 unfold vf154c
 have hk:∀ L,rdC (H++L) id g 0=some (.i fr):=by
  intro L
  unfold rdC at h ⊢
  cases ho:rdOb H id g with
  | none=>rw[ho]at h;cases h
  | some o=>rw[ho]at h;rw[rdOb_app L ho];exact h
 simp[armC,hk]

theorem implPhi {H:Hp} {d:Int} {w:CV} {arms:List ArmR} (hw:Arms H w arms) (hb:arms.length≤BIG) (n m:Int) (hn:-9223372036854775807≤n∧n≤9223372036854775807) (k:IV×Hp→Prop) :
  CM 104 [.agg [.i d,w],.c (.i n),.c (.i m)] H k=k (.c (.b (phiB n m ⟨d,arms⟩)),H):=by
 refine det (cw104 ?_) k
 unfold vf104c phiB
 simp[hw.lenOf]
 refine wp_for CM_mono arms.length (fun i s=>(∀ j,j<i→armB n m arms j=true)∧Pre (H++[⟨[.i d,w],0,true,2⟩]) s.h∧Env.get s.e 1=.c (.i n)∧Env.get s.e 2=.c (.i m)∧Env.get s.e 3=.c (.p H.length 0 0)∧Env.get s.e 10=.c w∧Env.get s.e 11=.c (.i arms.length)∧Env.get s.e 12=.c (.i i)) ⟨by simp,Pre.refl _,by simp⟩ ?_ ?_
 ·rintro i ⟨e,X⟩ hi ⟨ht,⟨L,hX⟩,h1,h2,h3,h10,h11,h12⟩
  simp only at h1 h2 h3 h10 h11 h12 hX ⊢
  simp only[List.append_assoc,List.cons_append,List.nil_append]at hX
  subst hX
  obtain⟨id,g,off,q1,q2,q3,q4,q5⟩:=hw.get hi
  have hA:=armB_at (n:=n) (m:=m) hi
  unfold vf104b0
  cases f1:inB arms[i].fr 0 (n - 1) with
  | false=>simp[h1,h2,h3,h10,h11,h12,hi,q1,q3,implIn,wn1 hn,f1,armsB_false hi (by rw[hA,f1];rfl),putAt]
  | true =>
   cases f2:valB arms[i].v m with
   | false=>simp[h1,h2,h3,h10,h11,h12,hi,q1,q3,implIn,partOk_call,wn1 hn,f1,f2,armsB_false hi (by rw[hA,f1,f2];rfl),putAt]
   | true =>
    obtain⟨w',s1,s2,s3,_⟩:=Row.slice (Arms.app hw (⟨[.i d,w],0,true,2⟩ :: (L++[⟨[.i arms[i].fr,.i arms[i].v],0,true,2⟩]))) (l:=0) (m:=i) (by omega) (by omega)
    have s3:=s3 rfl
    rw[List.drop_zero,Nat.sub_zero]at s2
    simp[h1,h2,h3,h10,h11,h12,hi,q1,q3,implIn,partOk_call,wn1 hn,f1,f2,putAt,s3]
    rw[containsArm s2 (by simp;omega) (fun a=>decide (a.fr=arms[i].fr)) (fun l hl cs hcs k=>by
     have hcs:cs=armC _:=hcs
     subst hcs
     exact phiTest (by simp) _ k)]
    cases f4:(arms.take i).any fun a=>decide (a.fr=arms[i].fr) with
    | true=>simp[h1,h2,h3,h10,h11,h12,armsB_false hi (by rw[hA,f4];simp)]
    | false =>
     have hAt:armB n m arms i=true:=by rw[hA,f1,f2,f4];rfl
     simp[h1,h2,h3,h10,h11,h12,up1 hi hb]
     refine⟨fun l hl=>?_,?_⟩
     ·by_cases el:l=i
      ·subst el;exact hAt
      ·exact ht l (by omega)
     ·exact⟨L++[⟨[.i arms[i].fr,.i arms[i].v],0,true,2⟩],by simp⟩
 ·rintro⟨e,X⟩ ⟨ht,⟨L,hX⟩,h1,h2,h3,h10,h11,h12⟩
  simp only at h1 h2 h3 h10 h11 h12 hX ⊢
  simp only[List.append_assoc,List.cons_append,List.nil_append]at hX
  subst hX
  unfold vf104b0
  cases e1:valB d m with
  | false=>simp[h1,h2,h3,h10,h11,h12,partOk_call,e1]
  | true=>simp[h1,h2,h3,h10,h11,h12,partOk_call,e1,armsB_true ht,hw.lenOf,natLe]
theorem specTerm' (H:Hp) (t:TrmR) (n m:Int) (hn:-9223372036854775807≤n∧n≤9223372036854775807) (k:IV×Hp→Prop) :
  CM 108 [.agg [.i t.kind,.i t.a,.i t.to,.i t.els],.c (.i n),.c (.i m)] H k=k (.c (.b (termB t n m)),H):=specTerm H t n m hn k

theorem implTerm' (H:Hp) (t:TrmR) (n m:Int) (hn:-9223372036854775807≤n∧n≤9223372036854775807) (k:IV×Hp→Prop) :
  CM 101 [.agg [.i t.kind,.i t.a,.i t.to,.i t.els],.c (.i n),.c (.i m)] H k=k (.c (.b (termB t n m)),H):=implTerm H t n m hn k

theorem specIns' (H:Hp) (x:InsR) (m:Int) (k:IV×Hp→Prop) :
  CM 110 [.agg [.i x.op,.i x.d,.i x.a,.i x.b,.i x.n],.c (.i m)] H k=k (.c (.b (insB x m)),H):=specIns H x m k

theorem implIns' (H:Hp) (x:InsR) (m:Int) (k:IV×Hp→Prop) :
  CM 107 [.agg [.i x.op,.i x.d,.i x.a,.i x.b,.i x.n],.c (.i m)] H k=k (.c (.b (insB x m)),H):=implIns H x m k

theorem bigI {n:Nat} (hb:n≤BIG):-9223372036854775807≤(n:Int)∧(n:Int)≤9223372036854775807:=by simp only[BIG]at hb;omega

theorem not_all {α:Type} {p:α→Bool} {xs:List α} {i:Nat} (hi:i<xs.length) (h:p xs[i]=false):∃ x,x∈xs∧p x=false:=⟨_,List.getElem_mem hi,h⟩

theorem all_mem {α:Type} {p:α→Bool} {xs:List α} (h:∀ j (hj:j<xs.length),p xs[j]=true):∀ x∈xs,p x=true:=List.all_eq_true.1 (all_of h)

theorem specShape {H:Hp} {v:CV} {f:FnR} (hv:Blocks H v f.blocks) (hb:f.blocks.length≤BIG) (k:IV×Hp→Prop) :
  CM 52 [.agg [v,.i f.values]] H k=k (.c (.b (shapeB f)),H):=by
 refine det (cw52 ?_) k
 obtain⟨bs,m⟩:=f
 simp only at hv hb ⊢
 unfold vf52c shapeB
 simp only
 cases e1:inB bs.length 1 16 with
 | false=>simp[hv.lenOf,(hv.app _).lenOf,specIn,e1]
 | true =>
  cases e2:inB m 0 80 with
  | false=>simp[hv.lenOf,(hv.app _).lenOf,specIn,e1,e2]
  | true =>
   simp[hv.lenOf,(hv.app _).lenOf,specIn,e1,e2]
   refine wp_for CM_mono bs.length (fun i s=>(∀ j (hj:j<i) (hx:j<bs.length),blkB bs.length m bs[j]=true)∧Pre (H++[⟨[v,.i m],0,true,2⟩]) s.h∧Env.get s.e 1=.c (.p H.length 0 0)∧Env.get s.e 3=.c (.i bs.length)∧Env.get s.e 4=.c (.i i)) ⟨by simp,Pre.refl _,by simp⟩ ?_ ?_
   ·rintro i ⟨e,X⟩ hi ⟨ht,⟨L,hX⟩,h1,h3,h4⟩
    simp only at h1 h3 h4 hX ⊢
    simp only[List.append_assoc,List.cons_append,List.nil_append]at hX
    subst hX
    obtain⟨id,g,off,w,u,q1,q2,q3,hw,hu,hb1,hb2,q4,q5⟩:=hv.get hi
    unfold vf52b2
    by_cases f1:bs[i].phis.length≤24
    ·have f1':¬ (24:Int)<bs[i].phis.length:=by omega
     by_cases f2:bs[i].list.length≤24
     ·have f2':¬ (24:Int)<bs[i].list.length:=by omega
      cases f3:termB bs[i].term bs.length m with
      | false =>
       simp[h1,h3,h4,hi,q1,q3,putAt,hw.lenOf,hu.lenOf,f1',f2',specTerm' _ _ _ _ (bigI hb),f3]
       exact not_all hi (by simp[blkB,f3])
      | true =>
       simp[h1,h3,h4,hi,q1,q3,putAt,hw.lenOf,hu.lenOf,f1',f2',specTerm' _ _ _ _ (bigI hb),f3]
       generalize hBX:(L++[(⟨[w,u,.i bs[i].term.kind,.i bs[i].term.a,.i bs[i].term.to,.i bs[i].term.els],0,true,6⟩:Ob)])=L1
       refine wp_for CM_mono bs[i].phis.length (fun j s=>(∀ l (hl:l<j) (hx:l<bs[i].phis.length),phiB bs.length m bs[i].phis[l]=true)∧s.h=H++(⟨[v,.i m],0,true,2⟩ :: L1)∧Env.get s.e 1=.c (.p H.length 0 0)∧Env.get s.e 3=.c (.i bs.length)∧Env.get s.e 4=.c (.i i) ∧
        Env.get s.e 5=.c (.p (H.length+(L.length+1)) 0 0)∧Env.get s.e 6=.c (.i j)) ⟨by simp,by simp,by simp[h1,h3,h4]⟩ ?_ ?_
       ·rintro j ⟨e',X'⟩ hj ⟨ht',rfl,h1,h3,h4,h5,h6⟩
        simp only at h1 h3 h4 h5 h6 ⊢
        obtain⟨id',g',off',z,r1,r2,r3,hz,hbz,r4,r5⟩:=hw.get hj
        unfold vf52b0
        subst hBX
        cases f4:phiB bs.length m bs[i].phis[j] with
        | false =>
         simp[h1,h3,h4,h5,h6,hw.lenOf,hj,r1,r3,specPhi (hz.app _) hbz bs.length m (bigI hb),f4]
         exact not_all hi (by simp only[blkB,all_not hj f4];simp)
        | true =>
         simp[h1,h3,h4,h5,h6,hw.lenOf,hj,r1,r3,specPhi (hz.app _) hbz bs.length m (bigI hb),f4,up1 hj hb1]
         intro l hl hx
         by_cases el:l=j
         ·subst el;exact f4
         ·exact ht' l (by omega) hx
       ·rintro⟨e',X'⟩ ⟨ht',rfl,h1,h3,h4,h5,h6⟩
        simp only at h1 h3 h4 h5 h6 ⊢
        have hph:=all_of (fun j hj=>ht' j hj hj)
        unfold vf52b0
        subst hBX
        simp[h1,h3,h4,h5,h6,hw.lenOf]
        generalize hBX:(L++[(⟨[w,u,.i bs[i].term.kind,.i bs[i].term.a,.i bs[i].term.to,.i bs[i].term.els],0,true,6⟩:Ob)])=L1
        refine wp_for CM_mono bs[i].list.length (fun j s=>(∀ l (hl:l<j) (hx:l<bs[i].list.length),insB bs[i].list[l] m=true)∧s.h=H++(⟨[v,.i m],0,true,2⟩ :: L1)∧Env.get s.e 1=.c (.p H.length 0 0)∧Env.get s.e 3=.c (.i bs.length)∧Env.get s.e 4=.c (.i i) ∧
         Env.get s.e 5=.c (.p (H.length+(L.length+1)) 0 0)∧Env.get s.e 7=.c (.i j)) ⟨by simp,by simp,by simp[h1,h3,h4,h5]⟩ ?_ ?_
        ·rintro j ⟨e',X'⟩ hj ⟨ht',rfl,h1,h3,h4,h5,h7⟩
         simp only at h1 h3 h4 h5 h7 ⊢
         obtain⟨id',g',off',r1,r2,r3,r4,r5⟩:=hu.get hj
         unfold vf52b1
         subst hBX
         cases f4:insB bs[i].list[j] m with
         | false =>
          simp[h1,h3,h4,h5,h7,hu.lenOf,hj,r1,r3,specIns',f4]
          exact not_all hi (by simp only[blkB,all_not (p:=fun x=>insB x m) hj f4];simp)
         | true =>
          simp[h1,h3,h4,h5,h7,hu.lenOf,hj,r1,r3,specIns',f4,up1 hj hb2]
          intro l hl hx
          by_cases el:l=j
          ·subst el;exact f4
          ·exact ht' l (by omega) hx
        ·rintro⟨e',X'⟩ ⟨ht',rfl,h1,h3,h4,h5,h7⟩
         simp only at h1 h3 h4 h5 h7 ⊢
         have hin:=all_of (p:=fun x=>insB x m) (fun j hj=>ht' j hj hj)
         unfold vf52b1
         subst hBX
         have hAt:blkB bs.length m bs[i]=true:=by simp only[blkB,f1,f2,f3,hph,hin];simp
         simp[h1,h3,h4,h5,h7,hu.lenOf,up1 hi hb]
         refine⟨fun l hl hx=>?_,⟨_,by simp;rfl⟩⟩
         by_cases el:l=i
         ·subst el;exact hAt
         ·exact ht l (by omega) hx
     ·have f2':(24:Int)<bs[i].list.length:=by omega
      simp[h1,h3,h4,hi,q1,q3,putAt,hw.lenOf,hu.lenOf,f1',f2']
      exact not_all hi (by simp[blkB,f2])
    ·have f1':(24:Int)<bs[i].phis.length:=by omega
     simp[h1,h3,h4,hi,q1,q3,putAt,hw.lenOf,hu.lenOf,f1']
     exact not_all hi (by simp[blkB,f1])
   ·rintro⟨e,X⟩ ⟨ht,⟨L,hX⟩,h1,h3,h4⟩
    simp only at h1 h3 h4 hX ⊢
    simp only[List.append_assoc,List.cons_append,List.nil_append]at hX
    subst hX
    unfold vf52b2
    simp[h1,h3,h4]
    exact all_mem (fun j hj=>ht j hj hj)
theorem rdC_app {H:Hp} {id g off:Nat} {c:CV} (h:rdC H id g off=some c) (L:Hp):rdC (H++L) id g off=some c:=by
 unfold rdC at h ⊢
 cases ho:rdOb H id g with
 | none=>rw[ho]at h;cases h
 | some o=>rw[ho]at h;rw[rdOb_app L ho];exact h

theorem shape11 {H:Hp} {idn gn idf gf:Nat} {n m d:Int} {w:CV} {arms:List ArmR} (hn:rdC H idn gn 0=some (.i n)) (hf:rdC H idf gf 1=some (.i m)) (hw:Arms H w arms) (hb:arms.length≤BIG) (hr:-9223372036854775807≤n∧n≤9223372036854775807) (k:IV×Hp→Prop) :
  CM 103 [.agg [.i d,w],.c (.p idn gn 0),.c (.p idf gf 0)] H k=k (.c (.b (!phiB n m ⟨d,arms⟩)),H):=by
 refine det (cw103 ?_) k
 unfold vf103c
 simp[rdC_app hn,rdC_app hf,implPhi (hw.app _) hb n m hr]

theorem shape12 {H:Hp} {idf gf:Nat} {m:Int} (x:InsR) (hf:rdC H idf gf 1=some (.i m)) (k:IV×Hp→Prop) :
  CM 106 [.agg [.i x.op,.i x.d,.i x.a,.i x.b,.i x.n],.c (.p idf gf 0)] H k=k (.c (.b (!insB x m)),H):=by
 refine det (cw106 ?_) k
 unfold vf106c
 simp[rdC_app hf,implIns']

theorem shape1 {H:Hp} {idn gn idf gf:Nat} {n m:Int} {w u:CV} {b:BlkR} (hn:rdC H idn gn 0=some (.i n)) (hf:rdC H idf gf 1=some (.i m)) (hw:Phis H w b.phis) (hu:List5 H u b.list) (hb1:b.phis.length≤BIG) (hb2:b.list.length≤BIG)
  (hr:-9223372036854775807≤n∧n≤9223372036854775807) (k:IV×Hp→Prop) :
  CM 100 [.agg [w,u,.i b.term.kind,.i b.term.a,.i b.term.to,.i b.term.els],.c (.p idn gn 0),.c (.p idf gf 0)] H k=k (.c (.b (!blkB n m b)),H):=by
 refine det (cw100 ?_) k
 unfold vf100c blkB
 by_cases f1:b.phis.length≤24
 ·have f1':¬ (24:Int)<b.phis.length:=by omega
  by_cases f2:b.list.length≤24
  ·have f2':¬ (24:Int)<b.list.length:=by omega
   cases f3:termB b.term n m with
   | false=>simp[hw.lenOf,hu.lenOf,f1,f1',f2,f2',rdC_app hn,rdC_app hf,implTerm' _ _ _ _ hr,f3]
   | true =>
    simp[hw.lenOf,hu.lenOf,f1,f1',f2,f2',rdC_app hn,rdC_app hf,implTerm' _ _ _ _ hr,f3]
    rw[containsPhi (hw.app _) hb1 (fun p=>!phiB n m p) (fun i hi cs hP k=>by
     obtain⟨z,rfl,hz,hbz⟩:=hP
     exact shape11 (rdC_app hn _) (rdC_app hf _) hz hbz hr k)]
    cases f4:b.phis.any (fun p=>!phiB n m p) with
    | true =>
     simp
     have:b.phis.all (phiB n m)=false:=by
      obtain⟨x,hx,hq⟩:=List.any_eq_true.1 f4
      rw[List.all_eq_false]
      exact⟨x,hx,by simpa using hq⟩
     left
     simpa using this
    | false =>
     have h4:∀ x∈b.phis,phiB n m x=true:=by
      intro x hx
      have:=List.any_eq_false.1 f4 x hx
      simpa using this
     simp[rdC_app hf]
     rw[containsIns (hu.app _) hb2 (fun x=>!insB x m) (fun i hi cs hP k=>by
      have hP:cs=insC _:=hP
      subst hP
      exact shape12 _ (rdC_app hf _) k)]
     simp
     cases f5:b.list.any (fun x=>!insB x m) with
     | true =>
      have:b.list.all (fun x=>insB x m)=false:=by
       obtain⟨x,hx,hq⟩:=List.any_eq_true.1 f5
       rw[List.all_eq_false]
       exact⟨x,hx,by simpa using hq⟩
      rw[this];simp
     | false =>
      have h5:b.list.all (fun x=>insB x m)=true:=by
       rw[List.all_eq_true]
       intro x hx
       have:=List.any_eq_false.1 f5 x hx
       simpa using this
      have h6:b.phis.all (phiB n m)=true:=List.all_eq_true.2 h4
      rw[h5,h6];simp
  ·have f2':(24:Int)<b.list.length:=by omega
   simp[hw.lenOf,hu.lenOf,f1,f1',f2,f2']
 ·have f1':(24:Int)<b.phis.length:=by omega
  simp[hw.lenOf,hu.lenOf,f1,f1']

theorem implShape {H:Hp} {v:CV} {f:FnR} (hv:Blocks H v f.blocks) (hb:f.blocks.length≤BIG) (k:IV×Hp→Prop) :
  CM 51 [.agg [v,.i f.values]] H k=k (.c (.b (shapeB f)),H):=by
 refine det (cw51 ?_) k
 obtain⟨bs,m⟩:=f
 simp only at hv hb ⊢
 unfold vf51c shapeB
 simp only
 cases e1:inB bs.length 1 16 with
 | false=>simp[hv.lenOf,(hv.app _).lenOf,implIn,e1,putAt]
 | true =>
  cases e2:inB m 0 80 with
  | false=>simp[hv.lenOf,(hv.app _).lenOf,implIn,e1,e2,putAt]
  | true =>
   simp[hv.lenOf,(hv.app _).lenOf,implIn,e1,e2,putAt]
   rw[containsBlk (hv.app _) hb (fun b=>!blkB bs.length m b) (fun i hi cs hP k=>by
    obtain⟨w,u,rfl,hw,hu,hb1,hb2⟩:=hP
    exact shape1 (by simp) (by simp) hw hu hb1 hb2 (bigI hb) k)]
   simp
   rw[Bool.eq_iff_iff]
   simp
theorem take_snoc_eq {α:Type} {xs ys:List α} {i:Nat} (hi:i<xs.length) (hj:i<ys.length) (ht:xs.take i=ys.take i) (he:xs[i]=ys[i]):xs.take (i+1)=ys.take (i+1):=by
 rw[List.take_succ_eq_append_getElem hi,List.take_succ_eq_append_getElem hj,ht,he]

theorem At.all {H:Hp} {id g off:Nat} {cs:List CV} (h:At H id g off cs) {n:Nat} (hn:cs.length=n):rdN H id g off n=some cs:=by
 have:=h.n 0 n (by omega)
 rwa [Nat.add_zero,List.drop_zero,List.take_of_length_le (by omega)]at this
def Keep (lo:Nat) (X X':Hp):Prop:=∀ id g o,lo≤id→rdOb X id g=some o→rdOb X' id g=some o

theorem Keep.refl (lo:Nat) (X:Hp):Keep lo X X:=fun _ _ _ _ h=>h

theorem Keep.trans {lo:Nat} {X Y Z:Hp} (h:Keep lo X Y) (k:Keep lo Y Z):Keep lo X Z:=fun id g o hl ho=>k id g o hl (h id g o hl ho)

theorem Keep.app (lo:Nat) (X L:Hp):Keep lo X (X++L):=fun _ _ _ _ h=>rdOb_app L h

theorem Keep.mono {lo lo':Nat} {X Y:Hp} (h:Keep lo X Y) (hl:lo≤lo'):Keep lo' X Y:=fun id g o h1 h2=>h id g o (Nat.le_trans hl h1) h2

theorem Keep.mid (H:Hp) (a b:Ob) (L L':Hp):Keep (H.length+1) (H++a :: L) (H++b :: (L++L')):=by
 intro id g o hl ho
 obtain⟨j,rfl⟩:∃ j,id=H.length+(j+1):=⟨id - H.length - 1,by omega⟩
 rw[rdOb_r,rdOb_cs]at ho ⊢
 exact rdOb_app L' ho

def ORow {α:Type} (P:Nat→Hp→List CV→α→Prop) (sz:Nat) (lo:Nat) (X:Hp) (w:CV) (xs:List α):Prop:=
 ∃ (id:Nat) (css:List (List CV)),w=.sl id 0 0 xs.length∧lo≤id∧rdOb X id 0=some ⟨css.flatten,0,true,sz⟩∧css.length=xs.length∧∀ (k:Nat) cs x,css[k]? = some cs→xs[k]? = some x→cs.length=sz∧P lo X cs x

theorem ORow.row {α:Type} {P:Nat→Hp→List CV→α→Prop} {P':Hp→List CV→α→Prop} {sz lo:Nat} {X:Hp} {w:CV} {xs:List α} (h:ORow P sz lo X w xs) (hP:∀ cs x,x∈xs→P lo X cs x→P' X cs x):Row P' sz X w xs:=by
 obtain⟨id,css,rfl,h2,h3,h4,h5⟩:=h
 exact Row.mk h3 rfl rfl h4 fun k cs x a b=>⟨(h5 k cs x a b).1,hP _ _ (List.mem_of_getElem? b) (h5 k cs x a b).2⟩

theorem ORow.keep {α:Type} {P:Nat→Hp→List CV→α→Prop} {sz lo:Nat} {X X':Hp} (hk:Keep lo X X') (hP:∀ cs x,P lo X cs x→P lo X' cs x) {w:CV} {xs:List α} (h:ORow P sz lo X w xs):ORow P sz lo X' w xs:=by
 obtain⟨id,css,h1,h2,h3,h4,h5⟩:=h
 exact⟨id,css,h1,h2,hk _ _ _ h2 h3,h4,fun k cs x a b=>⟨(h5 k cs x a b).1,hP _ _ (h5 k cs x a b).2⟩⟩

theorem ORow.lo {α:Type} {P:Nat→Hp→List CV→α→Prop} {sz lo lo':Nat} {X:Hp} (hl:lo'≤lo) (hP:∀ cs x,P lo X cs x→P lo' X cs x) {w:CV} {xs:List α} (h:ORow P sz lo X w xs):ORow P sz lo' X w xs:=by
 obtain⟨id,css,h1,h2,h3,h4,h5⟩:=h
 exact⟨id,css,h1,Nat.le_trans hl h2,h3,h4,fun k cs x a b=>⟨(h5 k cs x a b).1,hP _ _ (h5 k cs x a b).2⟩⟩

theorem ORow.sl {α:Type} {P:Nat→Hp→List CV→α→Prop} {sz lo:Nat} {X:Hp} {w:CV} {xs:List α} (h:ORow P sz lo X w xs):∃ id,w=.sl id 0 0 xs.length:=by
 obtain⟨id,css,rfl,_⟩:=h;exact⟨_,rfl⟩

theorem ORow.lenOf {α:Type} {P:Nat→Hp→List CV→α→Prop} {sz lo:Nat} {X:Hp} {w:CV} {xs:List α} (h:ORow P sz lo X w xs):lenOf w=some xs.length:=by
 obtain⟨id,css,rfl,_⟩:=h;rfl

def armO (_:Nat) (_:Hp) (cs:List CV) (a:ArmR):Prop:=cs=armC a

def insO (_:Nat) (_:Hp) (cs:List CV) (x:InsR):Prop:=cs=insC x

def phiO (lo:Nat) (X:Hp) (cs:List CV) (p:PhiR):Prop:=∃ z,cs=[.i p.d,z]∧ORow armO 2 lo X z p.arms

def blkO (lo:Nat) (X:Hp) (cs:List CV) (b:BlkR):Prop:=∃ z u,cs=z :: u :: trmC b.term∧ORow phiO 2 lo X z b.phis∧ORow insO 5 lo X u b.list

def fnO (lo:Nat) (X:Hp) (cs:List CV) (f:FnR):Prop:=∃ z,cs=[z,.i f.values]∧ORow blkO 6 lo X z f.blocks

theorem armO.keep {lo lo':Nat} {X X':Hp} {cs:List CV} {a:ArmR} (h:armO lo X cs a):armO lo' X' cs a:=h

theorem insO.keep {lo lo':Nat} {X X':Hp} {cs:List CV} {a:InsR} (h:insO lo X cs a):insO lo' X' cs a:=h

theorem phiO.keep {lo:Nat} {X X':Hp} (hk:Keep lo X X') {cs:List CV} {p:PhiR} (h:phiO lo X cs p):phiO lo X' cs p:=by
 obtain⟨z,h1,h2⟩:=h;exact⟨z,h1,h2.keep hk fun _ _ h=>h⟩

theorem blkO.keep {lo:Nat} {X X':Hp} (hk:Keep lo X X') {cs:List CV} {p:BlkR} (h:blkO lo X cs p):blkO lo X' cs p:=by
 obtain⟨z,u,h1,h2,h3⟩:=h;exact⟨z,u,h1,h2.keep hk fun _ _=>phiO.keep hk,h3.keep hk fun _ _ h=>h⟩

theorem fnO.keep {lo:Nat} {X X':Hp} (hk:Keep lo X X') {cs:List CV} {p:FnR} (h:fnO lo X cs p):fnO lo X' cs p:=by
 obtain⟨z,h1,h2⟩:=h;exact⟨z,h1,h2.keep hk fun _ _=>blkO.keep hk⟩

theorem phiO.lo {lo lo':Nat} {X:Hp} (hl:lo'≤lo) {cs:List CV} {p:PhiR} (h:phiO lo X cs p):phiO lo' X cs p:=by
 obtain⟨z,h1,h2⟩:=h;exact⟨z,h1,h2.lo hl fun _ _ h=>h⟩

theorem blkO.lo {lo lo':Nat} {X:Hp} (hl:lo'≤lo) {cs:List CV} {p:BlkR} (h:blkO lo X cs p):blkO lo' X cs p:=by
 obtain⟨z,u,h1,h2,h3⟩:=h;exact⟨z,u,h1,h2.lo hl fun _ _=>phiO.lo hl,h3.lo hl fun _ _ h=>h⟩

theorem fnO.lo {lo lo':Nat} {X:Hp} (hl:lo'≤lo) {cs:List CV} {p:FnR} (h:fnO lo X cs p):fnO lo' X cs p:=by
 obtain⟨z,h1,h2⟩:=h;exact⟨z,h1,h2.lo hl fun _ _=>blkO.lo hl⟩

def Small (f:FnR):Prop:=f.blocks.length≤BIG∧∀ b∈f.blocks,b.phis.length≤BIG∧b.list.length≤BIG∧∀ p∈b.phis,p.arms.length≤BIG

theorem phiO.p {lo:Nat} {X:Hp} {cs:List CV} {p:PhiR} (hs:p.arms.length≤BIG) (h:phiO lo X cs p):phiP BIG X cs p:=by
 obtain⟨z,h1,h2⟩:=h;exact⟨z,h1,h2.row fun _ _ _ h=>h,hs⟩

theorem blkO.p {lo:Nat} {X:Hp} {cs:List CV} {b:BlkR} (hs:b.phis.length≤BIG∧b.list.length≤BIG∧∀ p∈b.phis,p.arms.length≤BIG) (h:blkO lo X cs b):blkP BIG X cs b:=by
 obtain⟨z,u,h1,h2,h3⟩:=h;exact⟨z,u,h1,h2.row fun _ _ hx=>phiO.p (hs.2.2 _ hx),h3.row fun _ _ _ h=>h,hs.1,hs.2.1⟩

theorem fnO.p {lo:Nat} {X:Hp} {cs:List CV} {f:FnR} (hs:Small f) (h:fnO lo X cs f):fnP BIG X cs f:=by
 obtain⟨z,h1,h2⟩:=h;exact⟨z,h1,h2.row fun _ _ hx=>blkO.p (hs.2 _ hx),hs.1⟩

theorem gc_own {H L:Hp} {n:Nat} {ob:Ob} (hrw:ob.rw=true) (hg:ob.g=0) :
  ∃ L',gcRet H (.c (.sl H.length 0 0 n)) (H++ob :: L)=(.c (.sl H.length 0 0 n),H++ob :: L')∧(L'=L∨(L'=[]∧ob.cells.all flatC=true)):=by
 unfold gcRet
 rw[if_pos (by simp),if_neg (by simp[flatV,flatC])]
 simp only[Nat.le_refl,if_true,List.getElem?_append_right (Nat.le_refl _),Nat.sub_self,List.getElem?_cons_zero,hg,hrw,true_and]
 by_cases hf:ob.cells.all flatC=true
 ·rw[if_pos hf]
  refine⟨[],?_,.inr ⟨rfl,hf⟩⟩
  obtain⟨cs,g,rw_,sz⟩:=ob
  simp only at hg hrw
  subst hg;subst hrw
  rfl
 ·rw[if_neg hf]
  exact⟨L,rfl,.inl rfl⟩

theorem gc_agg {H H':Hp} {cs:List CV} (h:cs.all flatC=false):gcRet H (.agg cs) H'=(.agg cs,H'):=by
 unfold gcRet
 split
 ·rw[if_neg (by simp only[flatV,h];simp)]
 ·rfl

theorem put_mid {A zs R cs:List CV} {n:Nat} (hn:A.length=n) (h:cs.length=zs.length):putAt (A++(zs++R)) n cs=A++(cs++R):=by
 subst hn
 unfold putAt
 rw[List.take_append_of_le_length (Nat.le_refl _),List.take_length,List.drop_append,List.drop_eq_nil_of_le (by omega),List.nil_append,Nat.add_sub_cancel_left,h,List.drop_append,List.drop_eq_nil_of_le (by omega)]
 simp

theorem flat_len {css:List (List CV)} {sz:Nat} (h:∀ cs∈css,cs.length=sz):css.flatten.length=css.length * sz:=by
 induction css with
 | nil=>simp
 | cons c r ih=>rw[List.flatten_cons,List.length_append,ih (fun cs hc=>h cs (by simp[hc])),h c (by simp),List.length_cons,Nat.succ_mul];omega

def ToInv {α:Type} (O:Nat→Hp→List CV→α→Prop) (sz:Nat) (zs:List CV) (H:Hp) (v:CV) (xs:List α) (i:Nat) (s:St):Prop:=
 ∃ (css:List (List CV)) (L:Hp),s.h=H++⟨css.flatten++(List.replicate (xs.length - i) zs).flatten,0,true,sz⟩ :: L∧css.length=i ∧
  (∀ (k:Nat) cs x,css[k]? = some cs→xs[k]? = some x→cs.length=sz∧O (H.length+1) s.h cs x)∧Env.get s.e 0=.c v∧Env.get s.e 3=.c (.sl H.length 0 0 xs.length)∧Env.get s.e 4=.c (.i i)

section

variable {α:Type} {O:Nat→Hp→List CV→α→Prop} {sz:Nat} {zs:List CV} {H:Hp} {v:CV} {xs:List α} {i:Nat}

theorem ToInv.start {e:Env} (h0:Env.get e 0=.c v) (h3:Env.get e 3=.c (.sl H.length 0 0 xs.length)) (h4:Env.get e 4=.c (.i 0)):ToInv O sz zs H v xs 0 ⟨e,H++[⟨(List.replicate xs.length zs).flatten,0,true,sz⟩]⟩:=
 ⟨[],[],by simp,rfl,fun k cs x h=>by simp at h,h0,h3,h4⟩

theorem ToInv.next (hk:∀ X X',Keep (H.length+1) X X'→∀ cs x,O (H.length+1) X cs x→O (H.length+1) X' cs x) (hlo:∀ lo,H.length+1≤lo→∀ X cs x,O lo X cs x→O (H.length+1) X cs x) (hzs:zs.length=sz)
  (hi:i<xs.length) {css:List (List CV)} {L L':Hp} {cs':List CV} (hc:css.length=i) (hP:∀ (k:Nat) cs x,css[k]? = some cs→xs[k]? = some x→cs.length=sz∧O (H.length+1) (H++⟨css.flatten++(List.replicate (xs.length - i) zs).flatten,0,true,sz⟩ :: L) cs x)
  (hl:cs'.length=sz) (ho:O (H++⟨css.flatten++(List.replicate (xs.length - i) zs).flatten,0,true,sz⟩ :: L).length (H++⟨css.flatten++(List.replicate (xs.length - i) zs).flatten,0,true,sz⟩ :: L++L') cs' xs[i]) {e:Env} {X':Hp}
  (hX:X'=H++⟨putAt (css.flatten++(List.replicate (xs.length - i) zs).flatten) (i * sz) cs',0,true,sz⟩ :: (L++L')) (h0:Env.get e 0=.c v) (h3:Env.get e 3=.c (.sl H.length 0 0 xs.length)) (h4:Env.get e 4=.c (.i (i+1))):ToInv O sz zs H v xs (i+1) ⟨e,X'⟩:=by
 have hl2:∀ cs∈css,cs.length=sz:=by
  intro cs hcs
  obtain⟨j,hj,rfl⟩:=List.getElem_of_mem hcs
  exact (hP j _ xs[j] (List.getElem?_eq_getElem hj) (List.getElem?_eq_getElem (by omega))).1
 have hfl:css.flatten.length=i * sz:=by rw[flat_len hl2,hc]
 have hrep:(List.replicate (xs.length - i) zs).flatten=zs++(List.replicate (xs.length - (i+1)) zs).flatten:=by
  rw[show xs.length - i=(xs.length - (i+1))+1 by omega,List.replicate_succ,List.flatten_cons]
 have hput:=put_mid (A:=css.flatten) (zs:=zs) (R:=(List.replicate (xs.length - (i+1)) zs).flatten) hfl (hl.trans hzs.symm)
 rw[← hrep]at hput
 rw[hput]at hX
 subst hX
 refine⟨css++[cs'],L++L',by simp,by simp[hc],fun k cs x a b=>?_,h0,h3,by simpa using h4⟩
 by_cases hkl:k<css.length
 ·rw[List.getElem?_append_left hkl]at a
  obtain⟨g1,g2⟩:=hP k cs x a b
  exact⟨g1,hk _ _ (Keep.mid _ _ _ _ _) _ _ g2⟩
 ·have hk2:k=css.length:=by
   have:=(List.getElem?_eq_some_iff.1 a).1
   simp at this;omega
  subst hk2
  rw[List.getElem?_append_right (Nat.le_refl _),Nat.sub_self]at a
  simp at a
  subst a
  have hx:x=xs[i]:=by simp only[hc]at b;rw[List.getElem?_eq_getElem hi]at b;injection b with b;exact b.symm
  subst hx
  refine⟨hl,hk _ _ ?_ _ _ (hlo _ (by simp) _ _ _ ho)⟩
  intro id g o hid hob
  obtain⟨j,rfl⟩:∃ j,id=H.length+(j+1):=⟨id - H.length - 1,by omega⟩
  rw[List.append_assoc,rdOb_r,List.cons_append,rdOb_cs]at hob
  rw[rdOb_r,rdOb_cs]
  exact hob

theorem ToInv.done (hlo:∀ X cs x,O (H.length+1) X cs x→O H.length X cs x) (hfl:∀ X X' cs x,cs.all flatC=true→O H.length X cs x→O H.length X' cs x) {css:List (List CV)} {L:Hp} (hc:css.length=xs.length)
  (hP:∀ (k:Nat) cs x,css[k]? = some cs→xs[k]? = some x→cs.length=sz∧O (H.length+1) (H++⟨css.flatten++(List.replicate (xs.length - xs.length) zs).flatten,0,true,sz⟩ :: L) cs x) :
  ∃ w L',gcRet H (.c (.sl H.length 0 0 xs.length)) (H++⟨css.flatten++(List.replicate (xs.length - xs.length) zs).flatten,0,true,sz⟩ :: L)=(.c w,H++L')∧ORow O sz H.length (H++L') w xs:=by
 simp only[Nat.sub_self,List.replicate_zero,List.flatten_nil,List.append_nil]at hP ⊢
 obtain⟨L',hg,hL⟩:=gc_own (H:=H) (L:=L) (n:=xs.length) (ob:=⟨css.flatten,0,true,sz⟩) rfl rfl
 refine⟨_,_,hg,H.length,css,rfl,Nat.le_refl _,by simp,hc,fun k cs x a b=>?_⟩
 obtain⟨g1,g2⟩:=hP k cs x a b
 refine⟨g1,?_⟩
 rcases hL with rfl | ⟨rfl,hf⟩
 ·exact hlo _ _ _ g2
 ·refine hfl _ _ _ _ ?_ (hlo _ _ _ g2)
  rw[List.all_eq_true]at hf ⊢
  intro c hcc
  exact hf c (List.mem_flatten.2 ⟨cs,List.mem_of_getElem? a,hcc⟩)

end
def intP (_:Hp) (cs:List CV) (x:Int):Prop:=cs=[.i x]

theorem IsI.row {H:Hp} {v:CV} {xs:List Int} (h:IsI H v xs):Row intP 1 H v xs:=by
 refine⟨xs.map fun x=>[.i x],?_,by simp,fun k cs x a b=>?_⟩
 ·have e:∀ xs:List Int,(xs.map fun x=>[CV.i x]).flatten=xs.map .i:=by
   intro xs
   induction xs with
   | nil=>rfl
   | cons a r ih=>simp[ih]
  rw[e];exact h
 ·rw[List.getElem?_map,b]at a
  simp at a;subst a
  exact⟨rfl,rfl⟩

theorem indexInt {H:Hp} {v:CV} {xs:List Int} {x:Int} (hv:IsI H v xs) (hb:xs.length≤BIG) (k:IV×Hp→Prop) :
  CM 157 [.c v,.c (.i x)] H k=k (.c (.i (findI (fun y=>decide (x=y)) xs)),H):=by
 refine det (cw157 ?_) k
 unfold vf157c
 simp[hv.lenOf]
 refine wp_for CM_mono xs.length (fun i s=>(∀ j (hj:j<i) (hx:j<xs.length),decide (x=xs[j])=false)∧s.h=H∧Env.get s.e 0=.c v∧Env.get s.e 1=.c (.i x)∧Env.get s.e 7=.c (.i xs.length)∧Env.get s.e 8=.c (.i i)) (by simp) ?_ ?_
 ·rintro i ⟨e,X⟩ hi ⟨ht,rfl,h0,h1,h7,h8⟩
  simp only at h0 h1 h7 h8 hv ⊢
  obtain⟨id,g,off,q1,q2⟩:=hv.at_ hi
  unfold vf157b0
  cases hpx:decide (x=xs[i]) with
  | false =>
   simp[h0,h1,h7,h8,q1,q2,hi,up1 hi hb,hpx]
   intro j hj hx
   by_cases e:j=i
   ·subst e;exact of_decide_eq_false hpx
   ·exact of_decide_eq_false (ht j (by omega) hx)
  | true =>
   simp[h0,h1,h7,h8,q1,q2,hi,up1 hi hb,hpx,findI_some hi (p:=fun y=>decide (x=y)) (fun j hj=>ht j hj (by omega)) hpx]
 ·rintro⟨e,X⟩ ⟨ht,rfl,h0,h1,h7,h8⟩
  simp only at h0 h1 h7 h8 ⊢
  unfold vf157b0
  simp[h0,h1,h7,h8,findI_none (p:=fun y=>decide (x=y)) (fun j hj=>ht j hj hj)]

def hasI (xs:List Int) (x:Int):Bool:=xs.any fun y=>decide (x=y)

theorem hasI_iff {xs:List Int} {x:Int}:hasI xs x=true↔x∈xs:=by simp[hasI]

theorem containsInt {H:Hp} {v:CV} {xs:List Int} {x:Int} (hv:IsI H v xs) (hb:xs.length≤BIG) (k:IV×Hp→Prop) :
  CM 118 [.c v,.c (.i x)] H k=k (.c (.b (hasI xs x)),H):=by
 refine det (cw118 ?_) k
 unfold vf118c
 have e:decide (0≤findI (fun y=>decide (x=y)) xs)=hasI xs x:=by
  unfold hasI
  cases h:xs.any (fun y=>decide (x=y)) with
  | true=>exact decide_eq_true (findI_nonneg.2 h)
  | false=>exact decide_eq_false fun hc=>by rw[findI_nonneg.1 hc]at h;cases h
 simp[indexInt hv hb,e]

theorem l3Has_call {H:Hp} {v:CV} {xs:List Int} {x:Int} (hv:IsI H v xs) (hb:xs.length≤BIG) (k:IV×Hp→Prop) :
  CM 146 [.c v,.c (.i x)] H k=k (.c (.b (hasI xs x)),H):=by
 refine det (cw146 ?_) k
 unfold vf146c
 simp
 refine wp_for CM_mono xs.length (fun i s=>(∀ j (hj:j<i) (hx:j<xs.length),¬ x=xs[j])∧s.h=H∧Env.get s.e 0=.c v∧Env.get s.e 1=.c (.i x)∧Env.get s.e 5=.c (.i i)) (by simp) ?_ ?_
 ·rintro i ⟨e,X⟩ hi ⟨ht,rfl,h0,h1,h5⟩
  simp only at h0 h1 h5 hv ⊢
  obtain⟨id,g,off,q1,q2⟩:=hv.at_ hi
  unfold vf146b0
  by_cases hpx:x=xs[i]
  ·have:hasI xs x=true:=hasI_iff.2 (by rw[hpx];exact List.getElem_mem hi)
   simp[h0,h1,h5,q1,q2,hi,hv.lenOf,hpx.symm,this]
  ·have hpx':¬ xs[i]=x:=fun h=>hpx h.symm
   simp[h0,h1,h5,q1,q2,hi,hv.lenOf,up1 hi hb,hpx']
   intro j hj hx
   by_cases e:j=i
   ·subst e;exact hpx
   ·exact ht j (by omega) hx
 ·rintro⟨e,X⟩ ⟨ht,rfl,h0,h1,h5⟩
  simp only at h0 h1 h5 hv ⊢
  unfold vf146b0
  have:hasI xs x=false:=by
   cases hc:hasI xs x with
   | false=>rfl
   | true =>
    obtain⟨j,hj,he⟩:=List.getElem_of_mem (hasI_iff.1 hc)
    exact (ht j hj hj he.symm).elim
  simp[h0,h1,h5,hv.lenOf,this]


def RowRes (H:Hp) (w:CV) (L:Hp) (xs:List Int):Prop:=(w=.ns∧L=[]∧xs=[])∨(w=.sl H.length 0 0 xs.length∧L=[⟨xs.map .i,0,true,1⟩])

theorem RowRes.isI {H:Hp} {w:CV} {L:Hp} {xs:List Int} (h:RowRes H w L xs):IsI (H++L) w xs:=by
 rcases h with⟨rfl,rfl,rfl⟩ | ⟨rfl,rfl⟩
 ·exact IsI.ns _
 ·exact IsI.mk (o:=⟨xs.map .i,0,true,1⟩) (by simp) rfl (by simp) (by rw[List.drop_zero,List.take_of_length_le (by simp)])

theorem app_own {X:Hp} {o g n sz m:Nat} {cs xs:List CV} (h:rdOb X o g=some ⟨cs,g,true,sz⟩) (hn:n * sz=cs.length) (hx:0<xs.length) (hl:cs.length+xs.length≤LIM) :
  doApp X sz (.sl o g 0 n) m xs=some (.c (.sl o (g+1) 0 (n+m)),X.set o ⟨cs++xs,g+1,true,sz⟩):=by
 have h1:¬ (cs.length+xs.length≤cs.length):=by omega
 simp[doApp,h,hn,h1,hl]


def succsF (t:TrmR):List Int:=if t.kind=1∨(t.kind=2∧t.to=t.els) then [t.to] else if t.kind=2 then [t.to,t.els] else []

theorem succsF_le (t:TrmR):(succsF t).length≤2:=by unfold succsF;(repeat' split)<;>simp

theorem implSuccs {H:Hp} {v:CV} {bs:List BlkR} {m:Int} (hv:Blocks H v bs) {b:Nat} (hb:b<bs.length) :
  ∃ w L,RowRes H w L (succsF bs[b].term)∧∀ k:IV×Hp→Prop,CM 65 [.agg [v,.i m],.c (.i b)] H k=k (.c w,H++L):=by
 obtain⟨id,g,off,w,u,q1,q2,q3,hw,hu,hb1,hb2,q4,q5⟩:=hv.get hb
 generalize bs[b].term=t at q2 q3 ⊢
 obtain⟨kind,a,to,els⟩:=t
 have hg:∀ (A:Hp) (cs:List CV),cs.all flatC=true→∀ n,gcRet H (.c (.sl (H.length+A.length) 0 0 n)) (H++(A++[⟨cs,0,true,1⟩]))=(.c (.sl H.length 0 0 n),H++[⟨cs,0,true,1⟩]):=
  fun A cs h n=>gc_row H (A++[⟨cs,0,true,1⟩]) (k:=A.length) (o:=⟨cs,0,true,1⟩) (by have:=rdOb_r0 A [⟨cs,0,true,1⟩] 0;rw[this];simp) rfl h
 have hg2:=fun (a b:Ob) (cs:List CV) (h:cs.all flatC=true) n=>hg [a,b] cs h n
 simp only[List.length_cons,List.length_nil,Nat.zero_add,Nat.reduceAdd,List.cons_append,List.nil_append]at hg2
 by_cases h1:kind=1
 ·subst h1
  refine⟨.sl H.length 0 0 1,[⟨[.i to],0,true,1⟩],.inr (by simp[succsF]),fun k=>det (cw65 ?_) k⟩
  unfold vf65c
  simp[q1,q3,putAt]
  exact hg2 _ _ _ (by simp[flatC]) _
 ·by_cases h2:kind=2
  ·subst h2
   by_cases h3:to=els
   ·subst h3
    refine⟨.sl H.length 0 0 1,[⟨[.i to],0,true,1⟩],.inr (by simp[succsF]),fun k=>det (cw65 ?_) k⟩
    unfold vf65c
    simp[q1,q3,putAt]
    exact hg2 _ _ _ (by simp[flatC]) _
   ·refine⟨.sl H.length 0 0 2,[⟨[.i to,.i els],0,true,1⟩],.inr (by simp[succsF,h3]),fun k=>det (cw65 ?_) k⟩
    unfold vf65c
    simp[q1,q3,putAt,h3]
    exact hg2 _ _ _ (by simp[flatC]) _
  ·refine⟨.ns,[],.inl (by simp[succsF,h1,h2]),fun k=>det (cw65 ?_) k⟩
   unfold vf65c
   simp[q1,q3,putAt,h1,h2]

theorem specSuccs {H:Hp} {v:CV} {bs:List BlkR} {m:Int} (hv:Blocks H v bs) {b:Nat} (hb:b<bs.length) :
  ∃ w L,RowRes H w L (succsF bs[b].term)∧∀ k:IV×Hp→Prop,CM 69 [.agg [v,.i m],.c (.i b)] H k=k (.c w,H++L):=by
 obtain⟨id,g,off,w,u,q1,q2,q3,hw,hu,hb1,hb2,q4,q5⟩:=hv.get hb
 generalize bs[b].term=t at q2 q3 ⊢
 obtain⟨kind,a,to,els⟩:=t
 have hg:∀ (A:Hp) (cs:List CV),cs.all flatC=true→∀ n,gcRet H (.c (.sl (H.length+A.length) 0 0 n)) (H++(A++[⟨cs,0,true,1⟩]))=(.c (.sl H.length 0 0 n),H++[⟨cs,0,true,1⟩]):=
  fun A cs h n=>gc_row H (A++[⟨cs,0,true,1⟩]) (k:=A.length) (o:=⟨cs,0,true,1⟩) (by have:=rdOb_r0 A [⟨cs,0,true,1⟩] 0;rw[this];simp) rfl h
 have hg2:=fun (a b:Ob) (cs:List CV) (h:cs.all flatC=true) n=>hg [a,b] cs h n
 simp only[List.length_cons,List.length_nil,Nat.zero_add,Nat.reduceAdd,List.cons_append,List.nil_append]at hg2
 by_cases h1:kind=1
 ·subst h1
  refine⟨.sl H.length 0 0 1,[⟨[.i to],0,true,1⟩],.inr (by simp[succsF]),fun k=>det (cw69 ?_) k⟩
  unfold vf69c
  simp[q1,q3,putAt]
  exact hg2 _ _ _ (by simp[flatC]) _
 ·by_cases h2:kind=2
  ·subst h2
   by_cases h3:to=els
   ·subst h3
    refine⟨.sl H.length 0 0 1,[⟨[.i to],0,true,1⟩],.inr (by simp[succsF]),fun k=>det (cw69 ?_) k⟩
    unfold vf69c
    simp[q1,q3,putAt]
    exact hg2 _ _ _ (by simp[flatC]) _
   ·refine⟨.sl H.length 0 0 2,[⟨[.i to,.i els],0,true,1⟩],.inr (by simp[succsF,h3]),fun k=>det (cw69 ?_) k⟩
    unfold vf69c
    simp[q1,q3,putAt,h3]
    exact hg2 _ _ _ (by simp[flatC]) _
  ·refine⟨.sl H.length 0 0 0,[⟨[],0,true,1⟩],.inr (by simp[succsF,h1,h2]),fun k=>det (cw69 ?_) k⟩
   unfold vf69c
   simp[q1,q3,putAt,h1,h2]
   exact hg2 _ _ [] (by simp) 0

def succsAt (bs:List BlkR) (j:Nat):List Int:=match bs[j]? with
 | some b=>succsF b.term
 | none=>[]

theorem succsAt_eq {bs:List BlkR} {j:Nat} (hj:j<bs.length):succsAt bs j=succsF bs[j].term:=by unfold succsAt;rw[List.getElem?_eq_getElem hj]

def predsTo (bs:List BlkR) (b:Int) (n:Nat):List Int:=((List.range n).filter fun j=>hasI (succsAt bs j) b).map fun (j:Nat)=>(j:Int)

def predsF (bs:List BlkR) (b:Int):List Int:=predsTo bs b bs.length

theorem predsTo_le (bs:List BlkR) (b:Int) (n:Nat):(predsTo bs b n).length≤n:=by
 unfold predsTo
 rw[List.length_map]
 exact Nat.le_trans (List.length_filter_le _ _) (by simp)

theorem predsTo_succ (bs:List BlkR) (b:Int) (n:Nat):predsTo bs b (n+1)=if hasI (succsAt bs n) b=true then predsTo bs b n++[(n:Int)] else predsTo bs b n:=by
 unfold predsTo
 rw[List.range_succ,List.filter_append,List.map_append]
 by_cases h:hasI (succsAt bs n) b=true<;>simp[h]

theorem box_get {H X:Hp} {cs:List CV} {sz:Nat} (hp:Pre (H++[⟨cs,0,true,sz⟩]) X):rdOb X H.length 0=some ⟨cs,0,true,sz⟩:=by
 obtain⟨L,rfl⟩:=hp
 simp

theorem implPreds {H:Hp} {v:CV} {bs:List BlkR} {m b:Int} (hv:Blocks H v bs) (hb:bs.length≤BIG) :
  ∃ w L,RowRes H w L (predsF bs b)∧∀ k:IV×Hp→Prop,CM 57 [.agg [v,.i m],.c (.i b)] H k=k (.c w,H++L):=by
 refine⟨.sl H.length 0 0 (predsF bs b).length,[⟨(predsF bs b).map .i,0,true,1⟩],.inr ⟨rfl,rfl⟩,fun k=>det (cw57 ?_) k⟩
 unfold vf57c
 simp[hv.lenOf,(hv.app _).lenOf]
 obtain⟨I,hI⟩:∃ I:Nat→St→Prop,∀ i s,I i s↔(∃ g,Pre (H++[⟨[v,.i m],0,true,2⟩]) s.h∧rdOb s.h (H.length+1) g=some ⟨(predsTo bs b i).map .i,g,true,1⟩∧Env.get s.e 1=.c (.i b)∧Env.get s.e 2=.c (.p H.length 0 0) ∧
  Env.get s.e 5=.c (.sl (H.length+1) g 0 (predsTo bs b i).length)∧Env.get s.e 10=.c (.i bs.length)∧Env.get s.e 11=.c (.i i)):=⟨_,fun _ _=>Iff.rfl⟩
 refine wp_for CM_mono bs.length I ((hI _ _).2 ⟨0,⟨[⟨[],0,true,1⟩],by simp⟩,by simp[predsTo]⟩) ?_ ?_
 ·rintro i ⟨e,X⟩ hi hIs
  obtain⟨g,hp,ho,h1,h2,h5,h10,h11⟩:=(hI _ _).1 hIs
  simp only at hp ho h1 h2 h5 h10 h11 ⊢
  have hbox:=box_get hp
  have hvX:Blocks X v bs:=hv.pre (Pre.trans ⟨_,rfl⟩ hp)
  obtain⟨w,L,hw,hcall⟩:=implSuccs (m:=m) hvX hi
  have hsm:=succsF_le bs[i].term
  have hle:=predsTo_le bs b i
  have hsu:=predsTo_succ bs b i
  rw[succsAt_eq hi]at hsu
  unfold vf57b0
  cases hc:hasI (succsF bs[i].term) b with
  | false =>
   rw[hc]at hsu
   simp[h1,h2,h5,h10,h11,hi,rdN_ob hbox,rdC_ob hbox,hvX.lenOf,hcall,containsInt hw.isI (by simp only[BIG];omega),hc,up1 hi hb]
   exact (hI _ _).2 ⟨g,hp.app _,by simpa [hsu] using rdOb_app L ho,by simp[hsu]⟩
  | true =>
   rw[hc]at hsu
   simp[h1,h2,h5,h10,h11,hi,rdN_ob hbox,rdC_ob hbox,hvX.lenOf,hcall,containsInt hw.isI (by simp only[BIG];omega),hc,up1 hi hb,srcOf,putAt]
   rw[app_own (cs:=(predsTo bs b i).map .i) (rdOb_app _ ho) (by simp) (by simp) (by simp;simp only[BIG]at hb;simp only[LIM];omega)]
   simp[h1,h2,h5,h10,h11,hi,up1 hi hb]
   have hlt:=rdOb_lt ho
   refine (hI _ _).2 ⟨g+1,(hp.app _).set (by simp) _,?_,by simp[hsu]⟩
   rw[rdOb_set_self (by simp;omega)]
   simp[hsu]
 ·rintro⟨e,X⟩ hIs
  obtain⟨g,hp,ho,h1,h2,h5,h10,h11⟩:=(hI _ _).1 hIs
  simp only at hp ho h1 h2 h5 h10 h11 ⊢
  have hbox:=box_get hp
  have hvX:Blocks X v bs:=hv.pre (Pre.trans ⟨_,rfl⟩ hp)
  unfold vf57b0
  simp[h1,h2,h5,h10,h11,rdN_ob hbox,rdC_ob hbox,hvX.lenOf]
  rw[gcRet_row (Pre.trans ⟨_,rfl⟩ hp) (by omega) ho rfl (by simp[flatC])]
  simp[predsF]

theorem specPreds {H:Hp} {v:CV} {bs:List BlkR} {m b:Int} (hv:Blocks H v bs) (hb:bs.length≤BIG) :
  ∃ w L,RowRes H w L (predsF bs b)∧∀ k:IV×Hp→Prop,CM 89 [.agg [v,.i m],.c (.i b)] H k=k (.c w,H++L):=by
 refine⟨.sl H.length 0 0 (predsF bs b).length,[⟨(predsF bs b).map .i,0,true,1⟩],.inr ⟨rfl,rfl⟩,fun k=>det (cw89 ?_) k⟩
 unfold vf89c
 simp[hv.lenOf,(hv.app _).lenOf]
 obtain⟨I,hI⟩:∃ I:Nat→St→Prop,∀ i s,I i s↔(∃ g,Pre (H++[⟨[v,.i m],0,true,2⟩]) s.h∧rdOb s.h (H.length+1) g=some ⟨(predsTo bs b i).map .i,g,true,1⟩∧Env.get s.e 1=.c (.i b)∧Env.get s.e 2=.c (.p H.length 0 0) ∧
  Env.get s.e 5=.c (.sl (H.length+1) g 0 (predsTo bs b i).length)∧Env.get s.e 6=.c (.i i)):=⟨_,fun _ _=>Iff.rfl⟩
 refine wp_for CM_mono bs.length I ((hI _ _).2 ⟨0,⟨[⟨[],0,true,1⟩],by simp⟩,by simp[predsTo]⟩) ?_ ?_
 ·rintro i ⟨e,X⟩ hi hIs
  obtain⟨g,hp,ho,h1,h2,h5,h6⟩:=(hI _ _).1 hIs
  simp only at hp ho h1 h2 h5 h6 ⊢
  have hbox:=box_get hp
  have hvX:Blocks X v bs:=hv.pre (Pre.trans ⟨_,rfl⟩ hp)
  obtain⟨w,L,hw,hcall⟩:=specSuccs (m:=m) hvX hi
  have hsm:=succsF_le bs[i].term
  have hle:=predsTo_le bs b i
  have hsu:=predsTo_succ bs b i
  rw[succsAt_eq hi]at hsu
  unfold vf89b0
  cases hc:hasI (succsF bs[i].term) b with
  | false =>
   rw[hc]at hsu
   simp[h1,h2,h5,h6,hi,rdN_ob hbox,rdC_ob hbox,hvX.lenOf,hcall,l3Has_call hw.isI (by simp only[BIG];omega),hc,up1 hi hb]
   exact (hI _ _).2 ⟨g,hp.app _,by simpa [hsu] using rdOb_app L ho,by simp[hsu]⟩
  | true =>
   rw[hc]at hsu
   simp[h1,h2,h5,h6,hi,rdN_ob hbox,rdC_ob hbox,hvX.lenOf,hcall,l3Has_call hw.isI (by simp only[BIG];omega),hc,up1 hi hb,srcOf,putAt]
   rw[app_own (cs:=(predsTo bs b i).map .i) (rdOb_app _ ho) (by simp) (by simp) (by simp;simp only[BIG]at hb;simp only[LIM];omega)]
   simp[h1,h2,h5,h6,hi,up1 hi hb]
   have hlt:=rdOb_lt ho
   refine (hI _ _).2 ⟨g+1,(hp.app _).set (by simp) _,?_,by simp[hsu]⟩
   rw[rdOb_set_self (by simp;omega)]
   simp[hsu]
 ·rintro⟨e,X⟩ hIs
  obtain⟨g,hp,ho,h1,h2,h5,h6⟩:=(hI _ _).1 hIs
  simp only at hp ho h1 h2 h5 h6 ⊢
  have hbox:=box_get hp
  have hvX:Blocks X v bs:=hv.pre (Pre.trans ⟨_,rfl⟩ hp)
  unfold vf89b0
  simp[h1,h2,h5,h6,rdN_ob hbox,rdC_ob hbox,hvX.lenOf]
  rw[gcRet_row (Pre.trans ⟨_,rfl⟩ hp) (by omega) ho rfl (by simp[flatC])]
  simp[predsF]
def plainF (f:FnR):Bool:=shapeB f && f.blocks.all fun b=>decide (b.phis=[])

theorem plainTest {H:Hp} {cs:List CV} {b:BlkR} (hP:blkP BIG H cs b) (k:IV×Hp→Prop):CM 75 [.agg cs] H k=k (.c (.b (!decide (b.phis=[]))),H):=by
 obtain⟨w,u,rfl,hw,hu,hb1,hb2⟩:=hP
 refine det (cw75 ?_) k
 unfold vf75c
 cases hc:b.phis with
 | nil=>rw[hc]at hw;simp[trmC,hw.lenOf]
 | cons p r =>
  rw[hc]at hw
  simp[trmC,hw.lenOf]

theorem implPlain {H:Hp} {v:CV} {f:FnR} (hv:Blocks H v f.blocks) (hb:f.blocks.length≤BIG) (k:IV×Hp→Prop):CM 29 [.agg [v,.i f.values]] H k=k (.c (.b (plainF f)),H):=by
 refine det (cw29 ?_) k
 unfold vf29c plainF
 cases hsh:shapeB f with
 | false=>simp[implShape (hv.app _) hb,hsh]
 | true =>
  simp[implShape (hv.app _) hb,hsh]
  have hcon:=fun k=>containsBlk (fid:=75) (caps:=[]) (hv.app [⟨[v,.i f.values],0,true,2⟩]) hb (fun b=>!decide (b.phis=[])) (fun i hi cs hP k=>plainTest hP k) k
  rw[hcon]
  simp
  rw[Bool.eq_iff_iff]
  simp


def makesF (op:Int):Bool:=wordOk op || decide (op=20) || decide (op=21) || decide (op=24) || decide (op=25)

theorem hasD (op:Int):hasF op 68=makesF op:=by
 unfold makesF
 rcases has_tab op with h | h | h | h | h | h | h
 ·rw[h.1,h.2.1];rfl
 ·obtain⟨rfl,h⟩:=h;rw[h.1];decide
 ·obtain⟨rfl | rfl,h⟩:=h<;>(rw[h.1];decide)
 ·obtain⟨rfl,h⟩:=h;rw[h.1];decide
 ·obtain⟨rfl,h⟩:=h;rw[h.1];decide
 ·obtain⟨rfl,h⟩:=h;rw[h.1];decide
 ·obtain⟨h0,e1,e2,e3,e4,e5,e6,h1,_⟩:=h;simp[h0,e1,e2,e3,e6,h1]

def insDefF (x:InsR):Int:=if makesF x.op=true then x.d else -1

theorem l2Makes_call (H:Hp) (op:Int) (k:IV×Hp→Prop):CM 94 [.c (.i op)] H k=k (.c (.b (makesF op)),H):=by
 refine det (cw94 ?_) k
 unfold vf94c makesF
 cases hw:wordOk op with
 | true=>simp[specWordOk,hw]
 | false=>simp[specWordOk,hw];repeat' first | (refine cnd_of (fun hc=>?_) (fun hc=>?_)<;>simp[hc,hw]) | (refine grd_t (fun hc=>?_) (fun hc=>?_)<;>simp[hc,hw]) | (refine grd_f (fun hc=>?_) (fun hc=>?_)<;>simp[hc,hw])

theorem implInsDef (H:Hp) (x:InsR) (k:IV×Hp→Prop):CM 38 [.agg [.i x.op,.i x.d,.i x.a,.i x.b,.i x.n]] H k=k (.c (.i (insDefF x)),H):=by
 refine det (cw38 ?_) k
 unfold vf38c insDefF
 cases h:makesF x.op<;>simp[has_call,hasD,h]

theorem specInsDef (H:Hp) (x:InsR) (k:IV×Hp→Prop):CM 46 [.agg [.i x.op,.i x.d,.i x.a,.i x.b,.i x.n]] H k=k (.c (.i (insDefF x)),H):=by
 refine det (cw46 ?_) k
 unfold vf46c insDefF
 cases h:makesF x.op<;>simp[l2Makes_call,h]

def madeAt (v:Int) (x:InsR):Bool:=makesF x.op && decide (x.d=v)

def defBlk (b:BlkR) (v:Int):Option Int:=if b.phis.any (fun p=>decide (p.d=v))=true then some (-1) else if 0≤findI (madeAt v) b.list then some (findI (madeAt v) b.list) else none

def defGo (v:Int):List BlkR→Nat→Int×Int
 | [],_=>(-1,-2)
 | b :: r,j=>match defBlk b v with
  | some p=>(j,p)
  | none=>defGo v r (j+1)

def defAtF (f:FnR) (v:Int):Int×Int:=if shapeB f=true then defGo v f.blocks 0 else (-1,-2)

theorem def1 {H:Hp} {id g:Nat} {v:Int} (h:rdC H id g 0=some (.i v)) (d:Int) (w:CV) (k:IV×Hp→Prop):CM 192 [.agg [.i d,w],.c (.p id g 0)] H k=k (.c (.b (decide (d=v))),H):=by
 refine det (cw192 ?_) k
 unfold vf192c
 simp[rdC_app h]

theorem def2 {H:Hp} {id g:Nat} {v:Int} (h:rdC H id g 0=some (.i v)) (x:InsR) (k:IV×Hp→Prop):CM 193 [.agg [.i x.op,.i x.d,.i x.a,.i x.b,.i x.n],.c (.p id g 0)] H k=k (.c (.b (madeAt v x)),H):=by
 refine det (cw193 ?_) k
 unfold vf193c madeAt
 cases hm:makesF x.op<;>simp[rdC_app h,has_call,hasD,hm]

theorem gc_ints (H L:Hp) (a b:Int):gcRet H (.tup [(false,[.i a]),(false,[.i b])]) (H++L)=(.tup [(false,[.i a]),(false,[.i b])],H):=gc_flat H L rfl

theorem implDefAt {H:Hp} {w:CV} {f:FnR} {v:Int} (hv:Blocks H w f.blocks) (hb:f.blocks.length≤BIG) (k:IV×Hp→Prop) :
  CM 159 [.agg [w,.i f.values],.c (.i v)] H k=k (.tup [(false,[.i (defAtF f v).1]),(false,[.i (defAtF f v).2])],H):=by
 refine det (cw159 ?_) k
 unfold vf159c defAtF
 cases hsh:shapeB f with
 | false=>simp[implShape (hv.app _) hb,hsh,gc_ints]
 | true =>
  obtain⟨bs,m⟩:=f
  simp only at hv hb ⊢
  simp[implShape (f:=⟨bs,m⟩) (hv.app _) hb,hsh,hv.lenOf]
  obtain⟨I,hI⟩:∃ I:Nat→St→Prop,∀ i s,I i s↔(Pre (H++[⟨[w,.i m],0,true,2⟩,⟨[.i v],0,true,1⟩]) s.h∧defGo v bs 0=defGo v (bs.drop i) i∧Env.get s.e 3=.c (.p (H.length+1) 0 0)∧Env.get s.e 13=.c w∧Env.get s.e 14=.c (.i bs.length)∧Env.get s.e 15=.c (.i i)):=⟨_,fun _ _=>Iff.rfl⟩
  refine wp_for CM_mono bs.length I ((hI _ _).2 ⟨Pre.refl _,by simp⟩) ?_ ?_
  ·rintro i ⟨e,X⟩ hi hIs
   obtain⟨⟨L,hX⟩,hd,h3,h13,h14,h15⟩:=(hI _ _).1 hIs
   simp only at hX h3 h13 h14 h15 ⊢
   simp only[List.append_assoc,List.cons_append,List.nil_append]at hX
   subst hX
   obtain⟨id,g,off,z,u,q1,q2,q3,hw,hu,hb1,hb2,q4,q5⟩:=hv.get hi
   rw[List.drop_eq_getElem_cons hi]at hd
   simp only[defGo]at hd
   unfold vf159b0
   simp[h3,h13,h14,h15,hi,q1,q3,putAt]
   rw[containsPhi (hw.app _) hb1 (fun p=>decide (p.d=v)) (fun i hi cs hP k=>by
    obtain⟨z,rfl,_,_⟩:=hP
    exact def1 (by simp) _ _ k)]
   cases hph:bs[i].phis.any (fun p=>decide (p.d=v)) with
   | true =>
    have:defBlk bs[i] v=some (-1):=by unfold defBlk;rw[if_pos hph]
    rw[this]at hd
    simp[hd,gc_ints]
   | false =>
    simp[h3,h13,h14,h15]
    rw[indexIns (hu.app _) hb2 (madeAt v) (fun i hi cs hP k=>by
     have hP:cs=insC _:=hP
     subst hP
     exact def2 (by simp) _ k)]
    by_cases hf:0≤findI (madeAt v) bs[i].list
    ·have:defBlk bs[i] v=some (findI (madeAt v) bs[i].list):=by unfold defBlk;rw[hph,if_neg (by simp),if_pos hf]
     rw[this]at hd
     simp[hd,hf,gc_ints]
    ·have:defBlk bs[i] v=none:=by unfold defBlk;rw[hph,if_neg (by simp),if_neg hf]
     rw[this]at hd
     simp[h3,h13,h14,h15,hf,up1 hi hb]
     exact (hI _ _).2 ⟨⟨L++[⟨[z,u,.i bs[i].term.kind,.i bs[i].term.a,.i bs[i].term.to,.i bs[i].term.els],0,true,6⟩],by simp⟩,hd,by simp⟩
  ·rintro⟨e,X⟩ hIs
   obtain⟨⟨L,hX⟩,hd,h3,h13,h14,h15⟩:=(hI _ _).1 hIs
   simp only at hX h3 h13 h14 h15 ⊢
   simp only[List.append_assoc,List.cons_append,List.nil_append]at hX
   subst hX
   rw[List.drop_length]at hd
   simp only[defGo]at hd
   unfold vf159b0
   simp[h3,h13,h14,h15,hd,gc_ints]
theorem shape_ins {f:FnR} (h:shapeB f=true) {b:BlkR} (hb:b∈f.blocks) {x:InsR} (hx:x∈b.list):insB x f.values=true:=by
 unfold shapeB at h
 simp only[Bool.and_eq_true,List.all_eq_true]at h
 have:=h.2 b hb
 unfold blkB at this
 simp only[Bool.and_eq_true,List.all_eq_true]at this
 exact this.2 x hx

theorem shape_phi {f:FnR} (h:shapeB f=true) {b:BlkR} (hb:b∈f.blocks) {p:PhiR} (hp:p∈b.phis):phiB f.blocks.length f.values p=true:=by
 unfold shapeB at h
 simp only[Bool.and_eq_true,List.all_eq_true]at h
 have:=h.2 b hb
 unfold blkB at this
 simp only[Bool.and_eq_true,List.all_eq_true]at this
 exact this.1.2 p hp

theorem shape_term {f:FnR} (h:shapeB f=true) {b:BlkR} (hb:b∈f.blocks):termB b.term f.blocks.length f.values=true:=by
 unfold shapeB at h
 simp only[Bool.and_eq_true,List.all_eq_true]at h
 have:=h.2 b hb
 unfold blkB at this
 simp only[Bool.and_eq_true,List.all_eq_true]at this
 exact this.1.1.2

theorem shape_len {f:FnR} (h:shapeB f=true):1≤f.blocks.length∧f.blocks.length≤16∧0≤f.values∧f.values≤80:=by
 unfold shapeB inB at h
 simp only[Bool.and_eq_true,decide_eq_true_eq]at h
 omega

theorem shape_lens {f:FnR} (h:shapeB f=true) {b:BlkR} (hb:b∈f.blocks):b.phis.length≤24∧b.list.length≤24:=by
 unfold shapeB at h
 simp only[Bool.and_eq_true,List.all_eq_true]at h
 have:=h.2 b hb
 unfold blkB at this
 simp only[Bool.and_eq_true,decide_eq_true_eq]at this
 exact⟨this.1.1.1.1,this.1.1.1.2⟩

theorem insB_d {x:InsR} {m:Int} (h:insB x m=true) (hm:makesF x.op=true):0≤x.d∧x.d<m:=by
 unfold insB at h
 unfold makesF at hm
 have hv:∀ {v:Int},valB v m=true→0≤v∧v<m:=fun h=>of_decide_eq_true h
 split at h
 ·simp only[Bool.and_eq_true]at h;exact hv h.1.1.1
 ·split at h
  ·simp only[Bool.and_eq_true]at h;exact hv h.1.1
  ·split at h
   ·simp only[Bool.and_eq_true]at h;exact hv h.1.1.1
   ·split at h
    ·rename_i h1 h2 h3 h4
     rw[h4]at hm h1
     simp at hm
     exact (h1 hm).elim
    ·split at h
     ·rename_i h1 h2 h3 h4 h5
      rw[h5]at hm h1
      simp at hm
      exact (h1 hm).elim
     ·split at h
      ·simp only[Bool.and_eq_true]at h;exact hv h.1.1.1
      ·cases h

def specMade (v:Int) (x:InsR):Bool:=decide (0≤v) && decide (insDefF x=v)

theorem specMade_eq {v:Int} {x:InsR} (h:makesF x.op=true→0≤x.d):specMade v x=madeAt v x:=by
 unfold specMade madeAt insDefF
 cases hm:makesF x.op with
 | true =>
  have:=h hm
  by_cases hv:x.d=v
  ·have:0≤v:=by omega
   simp[hv,this]
  ·simp[hv]
 | false =>
  simp
  omega

theorem specDefAt {H:Hp} {w:CV} {bs:List BlkR} {m v:Int} (hv:Blocks H w bs) (hb:bs.length≤BIG) (hd:∀ b∈bs,∀ x∈b.list,makesF x.op=true→0≤x.d) (k:IV×Hp→Prop) :
  CM 190 [.agg [w,.i m],.c (.i v)] H k=k (.tup [(false,[.i (defGo v bs 0).1]),(false,[.i (defGo v bs 0).2])],H):=by
 refine det (cw190 ?_) k
 unfold vf190c
 simp
 refine wp_for CM_mono bs.length (fun i s=>s.h=H++[⟨[w,.i m],0,true,2⟩]∧defGo v bs 0=defGo v (bs.drop i) i∧Env.get s.e 1=.c (.i v)∧Env.get s.e 2=.c (.p H.length 0 0)∧Env.get s.e 6=.c (.i i)) (by simp) ?_ ?_
 ·rintro i ⟨e,X⟩ hi ⟨rfl,hg,h1,h2,h6⟩
  simp only at h1 h2 h6 ⊢
  obtain⟨id,g,off,z,u,q1,q2,q3,hw,hu,hb1,hb2,q4,q5⟩:=hv.get hi
  rw[List.drop_eq_getElem_cons hi]at hg
  simp only[defGo]at hg
  unfold vf190b2
  simp[h1,h2,h6,hv.lenOf,hi]
  refine wp_for CM_mono bs[i].phis.length (fun j s=>s.h=H++[⟨[w,.i m],0,true,2⟩]∧(∀ l (hl:l<j) (hx:l<bs[i].phis.length),¬ bs[i].phis[l].d=v)∧Env.get s.e 1=.c (.i v)∧Env.get s.e 2=.c (.p H.length 0 0)∧Env.get s.e 6=.c (.i i)∧Env.get s.e 7=.c (.i j)) (by simp) ?_ ?_
  ·rintro j ⟨e',X'⟩ hj ⟨rfl,ht,h1,h2,h6,h7⟩
   simp only at h1 h2 h6 h7 ⊢
   obtain⟨id',g',off',z',r1,r2,r3,hz,hbz,r4,r5⟩:=hw.get hj
   unfold vf190b0
   by_cases hp:bs[i].phis[j].d=v
   ·have:defBlk bs[i] v=some (-1):=by
     unfold defBlk
     rw[if_pos (List.any_eq_true.2 ⟨_,List.getElem_mem hj,decide_eq_true hp⟩)]
    rw[this]at hg
    simp[h1,h2,h6,h7,q1,q3,hw.lenOf,hj,r1,r3,hp,hg,gc_ints]
   ·simp[h1,h2,h6,h7,q1,q3,hw.lenOf,hj,r1,r3,hp,up1 hj hb1]
    intro l hl hx
    by_cases el:l=j
    ·subst el;exact hp
    ·exact ht l (by omega) hx
  ·rintro⟨e',X'⟩ ⟨rfl,ht,h1,h2,h6,h7⟩
   simp only at h1 h2 h6 h7 ⊢
   have hph:bs[i].phis.any (fun p=>decide (p.d=v))=false:=by
    rw[List.any_eq_false]
    intro p hp
    obtain⟨l,hl,rfl⟩:=List.getElem_of_mem hp
    simpa using ht l hl hl
   unfold vf190b0
   simp[h1,h2,h6,h7,q1,q3,hw.lenOf]
   refine wp_for CM_mono bs[i].list.length (fun j s=>s.h=H++[⟨[w,.i m],0,true,2⟩]∧(∀ l (hl:l<j) (hx:l<bs[i].list.length),madeAt v bs[i].list[l]=false)∧Env.get s.e 1=.c (.i v)∧Env.get s.e 2=.c (.p H.length 0 0)∧Env.get s.e 6=.c (.i i)∧Env.get s.e 8=.c (.i j)) (by simp[h1,h2,h6]) ?_ ?_
   ·rintro j ⟨e',X'⟩ hj ⟨rfl,ht2,h1,h2,h6,h8⟩
    simp only at h1 h2 h6 h8 ⊢
    obtain⟨id',g',off',r1,r2,r3,r4,r5⟩:=hu.get hj
    have hm:=specMade_eq (v:=v) (hd _ (List.getElem_mem hi) _ (List.getElem_mem hj))
    unfold specMade at hm
    unfold vf190b1
    cases hmade:madeAt v bs[i].list[j] with
    | true =>
     rw[hmade]at hm
     simp only[Bool.and_eq_true,decide_eq_true_eq]at hm
     have hf:=findI_some hj (p:=madeAt v) (fun l hl=>ht2 l hl (by omega)) hmade
     have:defBlk bs[i] v=some (j:Int):=by
      unfold defBlk
      rw[hph,if_neg (by simp),hf,if_pos (by omega)]
     rw[this]at hg
     simp[h1,h2,h6,h8,q1,q3,hu.lenOf,hj,r1,r3,hm.1,hm.2,specInsDef,hg,gc_ints]
    | false =>
     rw[hmade]at hm
     have step:∀ l (hl:l<j+1) (hx:l<bs[i].list.length),madeAt v bs[i].list[l]=false:=by
      intro l hl hx
      by_cases el:l=j
      ·subst el;exact hmade
      ·exact ht2 l (by omega) hx
     by_cases hv0:0≤v
     ·have hne:¬ insDefF bs[i].list[j]=v:=by simpa [hv0] using hm
      simp[h1,h2,h6,h8,q1,q3,hu.lenOf,hj,r1,r3,hv0,hne,specInsDef,up1 hj hb2]
      exact step
     ·simp[h1,h2,h6,h8,q1,q3,hu.lenOf,hj,r1,r3,hv0,specInsDef,up1 hj hb2]
      exact step
   ·rintro⟨e',X'⟩ ⟨rfl,ht2,h1,h2,h6,h8⟩
    simp only at h1 h2 h6 h8 ⊢
    have hf:=findI_none (p:=madeAt v) (fun l hl=>ht2 l hl hl)
    have:defBlk bs[i] v=none:=by
     unfold defBlk
     rw[hph,if_neg (by simp),hf,if_neg (by decide)]
    rw[this]at hg
    unfold vf190b1
    simp[h1,h2,h6,h8,q1,q3,hu.lenOf,up1 hi hb,hg]
 ·rintro⟨e,X⟩ ⟨rfl,hg,h1,h2,h6⟩
  simp only at h1 h2 h6 ⊢
  rw[List.drop_length]at hg
  simp only[defGo]at hg
  unfold vf190b2
  simp[h1,h2,h6,hv.lenOf,hg,gc_ints]
def SimC (a b:CV):Prop:=a=b∨((∃ x,a=.i x)∧∃ y,b=.i y)

theorem SimC.refl (a:CV):SimC a a:=.inl rfl

theorem SimC.trans {a b c:CV} (h:SimC a b) (k:SimC b c):SimC a c:=by
 rcases h with rfl | ⟨h1,h2⟩
 ·exact k
 ·rcases k with rfl | ⟨_,k2⟩
  ·exact .inr ⟨h1,h2⟩
  ·exact .inr ⟨h1,k2⟩

theorem SimC.int {x:Int} {b:CV} (h:SimC (.i x) b):∃ y,b=.i y:=by
 rcases h with rfl | ⟨_,h⟩
 ·exact⟨x,rfl⟩
 ·exact h

theorem SimC.sl {id g o n:Nat} {b:CV} (h:SimC (.sl id g o n) b):b=.sl id g o n:=by
 rcases h with rfl | ⟨⟨x,h⟩,_⟩
 ·rfl
 ·cases h

def SimsC (us bs:List CV):Prop:=us.length=bs.length∧∀ (j:Nat) (a b:CV),us[j]? = some a→bs[j]? = some b→SimC a b

theorem SimsC.refl (us:List CV):SimsC us us:=⟨rfl,fun j a b h k=>by rw[h]at k;cases k;exact SimC.refl _⟩

theorem SimsC.trans {us bs cs:List CV} (h:SimsC us bs) (k:SimsC bs cs):SimsC us cs:=by
 refine⟨h.1.trans k.1,fun j a c ha hc=>?_⟩
 have hj:j<bs.length:=by rw[k.1];exact (List.getElem?_eq_some_iff.1 hc).1
 exact (h.2 j a _ ha (List.getElem?_eq_getElem hj)).trans (k.2 j _ c (List.getElem?_eq_getElem hj) hc)

theorem SimsC.part {us bs:List CV} (h:SimsC us bs) (o n:Nat):SimsC ((us.drop o).take n) ((bs.drop o).take n):=by
 refine⟨by simp[h.1],fun j a b ha hb=>?_⟩
 rw[List.getElem?_take]at ha hb
 by_cases hj:j<n
 ·rw[if_pos hj,List.getElem?_drop]at ha hb
  exact h.2 _ _ _ ha hb
 ·rw[if_neg hj]at ha;cases ha

theorem putAt_get {cs:List CV} {o:Nat} {x:CV} (h:o<cs.length):putAt cs o [x]=cs.set o x:=by
 simp[putAt,List.set_eq_take_append_cons_drop,h]

theorem SimsC.put {cs:List CV} {o:Nat} {y:Int} (h:cs[o]? = some (.i y)) (x:Int):SimsC cs (putAt cs o [.i x]):=by
 have ho:o<cs.length:=(List.getElem?_eq_some_iff.1 h).1
 rw[putAt_get ho]
 refine⟨by simp,fun j a b ha hb=>?_⟩
 rw[List.getElem?_set]at hb
 split at hb
 ·rename_i e
  subst e
  rw[h]at ha
  cases ha
  cases hb
  exact .inr ⟨⟨_,rfl⟩,_,rfl⟩
 ·rw[ha]at hb;cases hb;exact SimC.refl _

structure IntCh (lo hi:Nat) (Y Z:Hp):Prop where
 len:Z.length=Y.length
 ob:∀ id g o,rdOb Y id g=some o→∃ cs,rdOb Z id g=some ⟨cs,o.g,o.rw,o.sz⟩∧SimsC o.cells cs
 out:∀ id g o,(id<lo∨hi≤id)→rdOb Y id g=some o→rdOb Z id g=some o

theorem IntCh.refl (lo hi:Nat) (Y:Hp):IntCh lo hi Y Y:=⟨rfl,fun _ _ o h=>⟨o.cells,h,SimsC.refl _⟩,fun _ _ _ _ h=>h⟩

theorem IntCh.trans {lo hi:Nat} {X Y Z:Hp} (h:IntCh lo hi X Y) (k:IntCh lo hi Y Z):IntCh lo hi X Z:=by
 refine⟨k.len.trans h.len,fun id g o ho=>?_,fun id g o hl ho=>k.out id g o hl (h.out id g o hl ho)⟩
 obtain⟨cs,h1,h2⟩:=h.ob id g o ho
 obtain⟨ds,h3,h4⟩:=k.ob id g _ h1
 exact⟨ds,h3,h2.trans h4⟩

theorem IntCh.put {lo hi:Nat} {Y:Hp} {id g:Nat} {cs:List CV} {rw:Bool} {sz:Nat} {off:Nat} {y:Int} (h:rdOb Y id g=some ⟨cs,g,rw,sz⟩) (hc:cs[off]? = some (.i y)) (hl:lo≤id) (hh:id<hi) (x:Int):IntCh lo hi Y (Y.set id ⟨putAt cs off [.i x],g,rw,sz⟩):=by
 have hlt:=rdOb_lt h
 refine⟨by simp,fun id' g' o ho=>?_,fun id' g' o hl' ho=>?_⟩
 ·by_cases e:id'=id
  ·subst e
   have e1:=(rdOb_some.1 h).1
   have e2:=(rdOb_some.1 ho).1
   rw[e1]at e2
   injection e2 with e2
   subst e2
   have e3:=(rdOb_some.1 ho).2
   simp only at e3
   subst e3
   exact⟨putAt cs off [.i x],by rw[rdOb_set_self hlt];simp,SimsC.put hc x⟩
  ·exact⟨o.cells,by rw[rdOb_set_ne e];exact ho,SimsC.refl _⟩
 ·rw[rdOb_set_ne (by omega)];exact ho

def MRow (P:Hp→List CV→Prop) (sz lo hi:Nat) (Y:Hp) (v:CV) (n:Nat):Prop:=
 ∃ (id:Nat) (cells:List CV),v=.sl id 0 0 n∧lo≤id∧id<hi∧rdOb Y id 0=some ⟨cells,0,true,sz⟩∧cells.length=n * sz∧∀ k,k<n→P Y ((cells.drop (k * sz)).take sz)

theorem MRow.ch {P:Hp→List CV→Prop} {sz lo hi:Nat} {Y Z:Hp} {v:CV} {n:Nat} (hP:∀ us bs,SimsC us bs→P Y us→P Z bs) (hc:IntCh lo hi Y Z) (h:MRow P sz lo hi Y v n):MRow P sz lo hi Z v n:=by
 obtain⟨id,cells,h1,h2,h3,h4,h5,h6⟩:=h
 obtain⟨cs,k1,k2⟩:=hc.ob _ _ _ h4
 exact⟨id,cs,h1,h2,h3,k1,by rw[← k2.1];exact h5,fun k hk=>hP _ _ (k2.part _ _) (h6 k hk)⟩

theorem MRow.lenOf {P:Hp→List CV→Prop} {sz lo hi:Nat} {Y:Hp} {v:CV} {n:Nat} (h:MRow P sz lo hi Y v n):lenOf v=some n:=by
 obtain⟨id,_,rfl,_⟩:=h;rfl

theorem MRow.cell {P:Hp→List CV→Prop} {sz lo hi:Nat} {Y:Hp} {v:CV} {n:Nat} (h:MRow P sz lo hi Y v n) {k:Nat} (hk:k<n) (j:Nat) (hj:j<sz) (hP:∀ cs,P Y cs→∃ y,cs[j]? = some (.i y)) (x:Int) :
  ∃ (id:Nat) (cells:List CV) (Z:Hp),idxOf sz v (k:Int)=some (.p id 0 (k * sz))∧rdOb Y id 0=some ⟨cells,0,true,sz⟩∧k * sz+j+1≤cells.length∧Y.set id ⟨putAt cells (k * sz+j) [.i x],0,true,sz⟩=Z∧IntCh lo hi Y Z:=by
 obtain⟨id,cells,rfl,h2,h3,h4,h5,h6⟩:=h
 obtain⟨y,hy⟩:=hP _ (h6 k hk)
 rw[List.getElem?_take,if_pos hj,List.getElem?_drop]at hy
 refine⟨id,cells,_,by simp[idxOf,hk],h4,(List.getElem?_eq_some_iff.1 hy).1,rfl,IntCh.put h4 hy h2 h3 x⟩

theorem MRow.field {P:Hp→List CV→Prop} {sz lo hi:Nat} {Y:Hp} {v:CV} {n:Nat} (h:MRow P sz lo hi Y v n) {k:Nat} (hk:k<n) :
  ∃ (id:Nat) (cs:List CV),idxOf sz v (k:Int)=some (.p id 0 (k * sz))∧P Y cs∧∀ j c,j<sz→cs[j]? = some c→rdC Y id 0 (k * sz+j)=some c:=by
 obtain⟨id,cells,rfl,h2,h3,h4,h5,h6⟩:=h
 refine⟨id,_,by simp[idxOf,hk],h6 k hk,fun j c hj hc=>?_⟩
 rw[List.getElem?_take,if_pos hj,List.getElem?_drop]at hc
 rw[rdC_ob h4];exact hc

theorem gc_nolen {Y X:Hp} {r:IV} (hl:X.length=Y.length) (hf:flatV r=true):gcRet Y r X=(r,X):=by
 unfold gcRet
 rw[List.take_of_length_le (by omega)]
 split
 ·rename_i h;rw[h]
 ·rfl

def armM (_:Hp) (cs:List CV):Prop:=∃ a b:Int,cs=[.i a,.i b]

def insM (_:Hp) (cs:List CV):Prop:=∃ a b c d e:Int,cs=[.i a,.i b,.i c,.i d,.i e]

def phiM (lo hi:Nat) (Y:Hp) (cs:List CV):Prop:=∃ (a:Int) (z:CV) (n:Nat),cs=[.i a,z]∧MRow armM 2 lo hi Y z n∧n≤BIG

def blkM (lo hi:Nat) (Y:Hp) (cs:List CV):Prop:=∃ (z u:CV) (n m:Nat) (a b c d:Int),cs=[z,u,.i a,.i b,.i c,.i d]∧MRow (phiM lo hi) 2 lo hi Y z n∧n≤BIG∧MRow insM 5 lo hi Y u m∧m≤BIG

theorem MRow.sim {P:Hp→List CV→Prop} {sz lo hi:Nat} {Y:Hp} {v w:CV} {n:Nat} (h:MRow P sz lo hi Y v n) (hs:SimC v w):w=v:=by
 obtain⟨id,cells,rfl,_⟩:=h
 exact hs.sl

theorem armM.ch {Y Z:Hp} {us bs:List CV} (hs:SimsC us bs) (h:armM Y us):armM Z bs:=by
 obtain⟨a,b,rfl⟩:=h
 obtain⟨hl,hs⟩:=hs
 match bs,hl with
 | [x,y],_ =>
  obtain⟨x',rfl⟩:=(hs 0 _ _ rfl rfl).int
  obtain⟨y',rfl⟩:=(hs 1 _ _ rfl rfl).int
  exact⟨_,_,rfl⟩

theorem insM.ch {Y Z:Hp} {us bs:List CV} (hs:SimsC us bs) (h:insM Y us):insM Z bs:=by
 obtain⟨a,b,c,d,e,rfl⟩:=h
 obtain⟨hl,hs⟩:=hs
 match bs,hl with
 | [x,y,z,u,w],_ =>
  obtain⟨x',rfl⟩:=(hs 0 _ _ rfl rfl).int
  obtain⟨y',rfl⟩:=(hs 1 _ _ rfl rfl).int
  obtain⟨z',rfl⟩:=(hs 2 _ _ rfl rfl).int
  obtain⟨u',rfl⟩:=(hs 3 _ _ rfl rfl).int
  obtain⟨w',rfl⟩:=(hs 4 _ _ rfl rfl).int
  exact⟨_,_,_,_,_,rfl⟩

theorem phiM.ch {lo hi:Nat} {Y Z:Hp} (hc:IntCh lo hi Y Z) {us bs:List CV} (hs:SimsC us bs) (h:phiM lo hi Y us):phiM lo hi Z bs:=by
 obtain⟨a,z,n,rfl,h1,h2⟩:=h
 obtain⟨hl,hs⟩:=hs
 match bs,hl with
 | [x,y],_ =>
  obtain⟨x',rfl⟩:=(hs 0 _ _ rfl rfl).int
  obtain rfl:=h1.sim (hs 1 _ _ rfl rfl)
  exact⟨_,_,n,rfl,h1.ch (fun _ _=>armM.ch) hc,h2⟩

theorem blkM.ch {lo hi:Nat} {Y Z:Hp} (hc:IntCh lo hi Y Z) {us bs:List CV} (hs:SimsC us bs) (h:blkM lo hi Y us):blkM lo hi Z bs:=by
 obtain⟨z,u,n,m,a,b,c,d,rfl,h1,h2,h3,h4⟩:=h
 obtain⟨hl,hs⟩:=hs
 match bs,hl with
 | [z',u',x,y,p,q],_ =>
  obtain rfl:=h1.sim (hs 0 _ _ rfl rfl)
  obtain rfl:=h3.sim (hs 1 _ _ rfl rfl)
  obtain⟨x',rfl⟩:=(hs 2 _ _ rfl rfl).int
  obtain⟨y',rfl⟩:=(hs 3 _ _ rfl rfl).int
  obtain⟨p',rfl⟩:=(hs 4 _ _ rfl rfl).int
  obtain⟨q',rfl⟩:=(hs 5 _ _ rfl rfl).int
  exact⟨_,_,n,m,_,_,_,_,rfl,h1.ch (fun _ _=>phiM.ch hc) hc,h2,h3.ch (fun _ _=>insM.ch) hc,h4⟩
theorem chunk {css:List (List CV)} {sz:Nat} (h:∀ cs∈css,cs.length=sz) {k:Nat} (hk:k<css.length):(css.flatten.drop (k * sz)).take sz=css[k]:=by
 induction css generalizing k with
 | nil=>simp at hk
 | cons c r ih =>
  have hc:=h c (by simp)
  cases k with
  | zero=>rw[List.flatten_cons];simp[← hc]
  | succ k =>
   rw[List.flatten_cons,Nat.succ_mul,List.drop_append,List.drop_eq_nil_of_le (by rw[hc];omega),List.nil_append,hc,Nat.add_sub_cancel]
   simpa using ih (fun cs hcs=>h cs (by simp[hcs])) (k:=k) (by simpa using hk)

theorem ORow.m {α:Type} {P:Nat→Hp→List CV→α→Prop} {P':Hp→List CV→Prop} {sz lo:Nat} {X:Hp} {w:CV} {xs:List α} (h:ORow P sz lo X w xs) (hP:∀ cs x,x∈xs→P lo X cs x→P' X cs):MRow P' sz lo X.length X w xs.length:=by
 obtain⟨id,css,rfl,h2,h3,h4,h5⟩:=h
 have hl:∀ cs∈css,cs.length=sz:=by
  intro cs hcs
  obtain⟨j,hj,rfl⟩:=List.getElem_of_mem hcs
  exact (h5 j _ _ (List.getElem?_eq_getElem hj) (List.getElem?_eq_getElem (by omega))).1
 refine⟨id,css.flatten,rfl,h2,rdOb_lt h3,h3,by rw[flat_len hl,h4],fun k hk=>?_⟩
 rw[chunk hl (by omega)]
 exact hP _ _ (List.getElem_mem hk) (h5 k _ _ (List.getElem?_eq_getElem (by omega)) (List.getElem?_eq_getElem hk)).2

theorem phiO.m {lo:Nat} {X:Hp} {cs:List CV} {p:PhiR} (hs:p.arms.length≤BIG) (h:phiO lo X cs p):phiM lo X.length X cs:=by
 obtain⟨z,h1,h2⟩:=h
 exact⟨p.d,z,p.arms.length,h1,h2.m fun cs x _ h=>⟨_,_,h⟩,hs⟩

theorem blkO.m {lo:Nat} {X:Hp} {cs:List CV} {b:BlkR} (hs:b.phis.length≤BIG∧b.list.length≤BIG∧∀ p∈b.phis,p.arms.length≤BIG) (h:blkO lo X cs b):blkM lo X.length X cs:=by
 obtain⟨z,u,h1,h2,h3⟩:=h
 exact⟨z,u,_,_,_,_,_,_,h1,h2.m fun cs x hx h=>phiO.m (hs.2.2 _ hx) h,hs.1,h3.m fun cs x _ h=>⟨_,_,_,_,_,h⟩,hs.2.1⟩

theorem MRow.app {P:Hp→List CV→Prop} {sz lo hi:Nat} {Y:Hp} (L:Hp) {v:CV} {n:Nat} (hP:∀ cs,P Y cs→P (Y++L) cs) (h:MRow P sz lo hi Y v n):MRow P sz lo hi (Y++L) v n:=by
 obtain⟨id,cells,h1,h2,h3,h4,h5,h6⟩:=h
 exact⟨id,cells,h1,h2,h3,rdOb_app L h4,h5,fun k hk=>hP _ (h6 k hk)⟩

theorem phiM.app {lo hi:Nat} {Y:Hp} (L:Hp) {cs:List CV} (h:phiM lo hi Y cs):phiM lo hi (Y++L) cs:=by
 obtain⟨a,z,n,h1,h2,h3⟩:=h
 exact⟨a,z,n,h1,h2.app L fun _ h=>h,h3⟩

theorem blkM.app {lo hi:Nat} {Y:Hp} (L:Hp) {cs:List CV} (h:blkM lo hi Y cs):blkM lo hi (Y++L) cs:=by
 obtain⟨z,u,n,m,a,b,c,d,h1,h2,h3,h4,h5⟩:=h
 exact⟨z,u,n,m,a,b,c,d,h1,h2.app L fun _ h=>phiM.app L h,h3,h4.app L fun _ h=>h,h5⟩

def fnM (lo hi:Nat) (Y:Hp) (cs:List CV):Prop:=∃ (z:CV) (m:Int) (n:Nat),cs=[z,.i m]∧MRow (blkM lo hi) 6 lo hi Y z n∧n≤BIG

theorem fnO.m {lo:Nat} {X:Hp} {cs:List CV} {f:FnR} (hs:Small f) (h:fnO lo X cs f):fnM lo X.length X cs:=by
 obtain⟨z,h1,h2⟩:=h
 exact⟨z,_,_,h1,h2.m fun cs x hx h=>blkO.m (hs.2 _ hx) h,hs.1⟩

theorem fnM.app {lo hi:Nat} {Y:Hp} (L:Hp) {cs:List CV} (h:fnM lo hi Y cs):fnM lo hi (Y++L) cs:=by
 obtain⟨z,m,n,h1,h2,h3⟩:=h
 exact⟨z,m,n,h1,h2.app L fun _ h=>blkM.app L h,h3⟩

theorem IntCh.cut {lo hi:Nat} {Y Z L:Hp} (hl:lo≤hi) (hh:hi≤Y.length) (h:IntCh lo hi (Y++L) Z):∃ Z',Z=Z'++L∧IntCh lo hi Y Z':=by
 refine⟨Z.take Y.length,?_,?_⟩
 ·have hlen:=h.len
  rw[List.length_append]at hlen
  apply List.ext_getElem?
  intro i
  by_cases hi':i<Y.length
  ·rw[List.getElem?_append_left (by rw[List.length_take];omega),List.getElem?_take,if_pos hi']
  ·rw[List.getElem?_append_right (by rw[List.length_take];omega),List.length_take,Nat.min_eq_left (by omega)]
   by_cases hz:i<Z.length
   ·have e:(Y++L)[i]? = L[i - Y.length]?:=List.getElem?_append_right (by omega)
    have h1:i - Y.length<L.length:=by omega
    rw[List.getElem?_eq_getElem h1]at e
    have:=h.out i _ _ (.inr (by omega)) (rdOb_some.2 ⟨e,rfl⟩)
    rw[(rdOb_some.1 this).1,List.getElem?_eq_getElem h1]
   ·rw[List.getElem?_eq_none (by omega),List.getElem?_eq_none (by omega)]
 ·have hlen:=h.len
  rw[List.length_append]at hlen
  have key:∀ id g o,id<Y.length→(rdOb Z id g=some o↔rdOb (Z.take Y.length) id g=some o):=by
   intro id g o hid
   rw[rdOb_some,rdOb_some,List.getElem?_take,if_pos hid]
  refine⟨by rw[List.length_take];omega,fun id g o ho=>?_,fun id g o hl' ho=>?_⟩
  ·obtain⟨cs,h1,h2⟩:=h.ob id g o (rdOb_app L ho)
   exact⟨cs,(key _ _ _ (rdOb_lt ho)).1 h1,h2⟩
  ·exact (key _ _ _ (rdOb_lt ho)).1 (h.out id g o hl' (rdOb_app L ho))


def ups (k:Int) (n:Nat):List Int:=(List.range n).map fun (j:Nat)=>k+(j:Int)

@[simp] theorem ups_len (k:Int) (n:Nat):(ups k n).length=n:=by simp[ups]

def Own (Y:Hp) (lo sz:Nat) (w:CV) (n:Nat) (cells:List CV):Prop:=(w=.ns∧n=0∧cells=[])∨∃ id,w=.sl id 0 0 n∧lo≤id∧rdOb Y id 0=some ⟨cells,0,true,sz⟩∧cells.length=n * sz

theorem Own.isI {Y:Hp} {lo:Nat} {w:CV} {n:Nat} {xs:List Int} (h:Own Y lo 1 w n (xs.map .i)):IsI Y w xs:=by
 rcases h with⟨rfl,rfl,h⟩ | ⟨id,rfl,h1,h2,h3⟩
 ·simp at h;subst h;exact IsI.ns _
 ·simp at h3;subst h3
  exact IsI.mk h2 rfl (by simp) (by rw[List.drop_zero,List.take_of_length_le (by simp)])

theorem RowRes.own {H L:Hp} {w:CV} {xs:List Int} (h:RowRes H w L xs):Own (H++L) H.length 1 w xs.length (xs.map .i):=by
 rcases h with⟨rfl,rfl,rfl⟩ | ⟨rfl,rfl⟩
 ·exact .inl ⟨rfl,rfl,rfl⟩
 ·exact .inr ⟨_,rfl,Nat.le_refl _,by simp,by simp⟩

theorem Own.keep {Y Z:Hp} {lo sz:Nat} {w:CV} {n:Nat} {cells:List CV} (h:Own Y lo sz w n cells) (hk:∀ id g o,lo≤id→rdOb Y id g=some o→rdOb Z id g=some o):Own Z lo sz w n cells:=by
 rcases h with h | ⟨id,rfl,h1,h2,h3⟩
 ·exact .inl h
 ·exact .inr ⟨id,rfl,h1,hk _ _ _ h1 h2,h3⟩

def Low (lo:Nat) (Y Z:Hp):Prop:=∀ id g o,id<lo→rdOb Y id g=some o→rdOb Z id g=some o

theorem Low.trans {lo:Nat} {X Y Z:Hp} (h:Low lo X Y) (k:Low lo Y Z):Low lo X Z:=fun id g o hl ho=>k id g o hl (h id g o hl ho)

theorem Low.app (lo:Nat) (Y L:Hp):Low lo Y (Y++L):=fun _ _ _ _ h=>rdOb_app L h

theorem Low.mono {lo lo':Nat} {Y Z:Hp} (h:Low lo Y Z) (hl:lo'≤lo):Low lo' Y Z:=fun id g o h1 h2=>h id g o (by omega) h2

theorem Low.pre {H Y Z:Hp} {lo:Nat} (h:Low lo Y Z) (hp:Pre H Y) (hl:H.length≤lo):Pre H Z:=by
 obtain⟨G,rfl⟩:=hp
 refine⟨Z.drop H.length,?_⟩
 have key:∀ i (hi:i<H.length),Z[i]? = some H[i]:=by
  intro i hi
  have:=h i H[i].g H[i] (by omega) (rdOb_some.2 ⟨by rw[List.getElem?_append_left hi,List.getElem?_eq_getElem hi],rfl⟩)
  exact (rdOb_some.1 this).1
 apply List.ext_getElem?
 intro i
 by_cases hi:i<H.length
 ·rw[List.getElem?_append_left hi,List.getElem?_eq_getElem hi,key i hi]
 ·rw[List.getElem?_append_right (by omega),List.getElem?_drop]
  congr 1;omega

theorem IntCh.low {lo hi:Nat} {Y Z:Hp} (h:IntCh lo hi Y Z):Low lo Y Z:=fun id g o hl ho=>h.out id g o (.inl hl) ho
@[simp] theorem gcRet_fst (H:Hp) (x:Bool) (X:Hp):(gcRet H (.c (.b x)) X).1=.c (.b x):=by
 unfold gcRet
 split
 ·rw[if_pos (show flatV (.c (.b x))=true from rfl)]
 ·rfl

theorem choose_list {α:Type} {Q:List CV→α→Prop}:∀ {css:List (List CV)},(∀ cs∈css,∃ x,Q cs x)→∃ xs:List α,xs.length=css.length∧∀ (k:Nat) cs x,css[k]? = some cs→xs[k]? = some x→Q cs x:=by
 intro css
 induction css with
 | nil=>intro _;exact⟨[],rfl,fun k cs x h=>by simp at h⟩
 | cons c r ih =>
  intro h
  obtain⟨x,hx⟩:=h c (by simp)
  obtain⟨xs,h1,h2⟩:=ih fun cs hc=>h cs (by simp[hc])
  refine⟨x :: xs,by simp[h1],fun k cs y a b=>?_⟩
  cases k with
  | zero=>simp at a b;subst a;subst b;exact hx
  | succ k=>exact h2 k cs y (by simpa using a) (by simpa using b)

section

variable {P:Program} {H:Hp}

theorem leaf_row {α:Type} {R:Hp→List CV→α→Prop} {t e:TypeId} {c:CV} {ls:List TypeId} {sz m:Nat} (hu:P.underlying t=some (.slice e)) (hls:leafTs P m e=some ls) (hsz:P.cellsOf e=sz)
  (hR:∀ cs:List CV,cs.length=ls.length→(∀ (j:Nat) (t':TypeId) (c:CV),ls[j]? = some t'→cs[j]? = some c→Leaf P H t' c)→∃ x,R H cs x) (h:Leaf P H t c):∃ xs:List α,Row R sz H c xs∧xs.length≤maxLen:=by
 obtain⟨n,css,hn,hm,hS,hcs⟩:=Leaf.row hu hls h
 obtain⟨xs,h1,h2⟩:=choose_list (Q:=fun cs x=>cs.length=sz∧R H cs x) (css:=css) fun cs hc=>by
  obtain⟨a,b,d⟩:=hcs cs hc
  obtain⟨x,hx⟩:=hR cs a d
  exact⟨x,by omega,hx⟩
 subst hn
 exact⟨xs,⟨css,by rw[h1,← hsz];exact hS,h1.symm,h2⟩,by omega⟩

end

theorem Row.imp {α:Type} {P P':Hp→List CV→α→Prop} {sz:Nat} {H:Hp} {v:CV} {xs:List α} (h:Row P sz H v xs) (hP:∀ cs x,x∈xs→P H cs x→P' H cs x):Row P' sz H v xs:=by
 obtain⟨css,h1,h2,h3⟩:=h
 exact⟨css,h1,h2,fun k cs x a b=>⟨(h3 k cs x a b).1,hP _ _ (List.mem_of_getElem? b) (h3 k cs x a b).2⟩⟩
theorem indexMove {H:Hp} {v:CV} {xs:List ArmR} (hv:Arms H v xs) (hb:xs.length≤BIG) {fid:Nat} {caps:List CV} (p:ArmR→Bool)
  (hp:∀ i (hi:i<xs.length) cs,armP H cs xs[i]→∀ k:IV×Hp→Prop,CM fid (.agg cs :: caps.map .c) H k=k (.c (.b (p xs[i])),H)) (k:IV×Hp→Prop) :
  CM 169 [.c v,.f fid caps] H k=k (.c (.i (findI p xs)),H):=by
 refine det (cw169 ?_) k
 unfold vf169c
 simp[hv.lenOf]
 refine wp_for CM_mono xs.length (fun i s=>(∀ j (hj:j<i) (hx:j<xs.length),p xs[j]=false)∧s.h=H∧Env.get s.e 0=.c v∧Env.get s.e 1=.f fid caps∧Env.get s.e 7=.c (.i xs.length)∧Env.get s.e 8=.c (.i i)) (by simp) ?_ ?_
 ·rintro i ⟨e,X⟩ hi ⟨ht,rfl,h0,h1,h7,h8⟩
  simp only at h0 h1 h7 h8 hv hp ⊢
  obtain⟨id,g,off,cs,q1,hA,hl,hP⟩:=Row.get hv hi
  have hq:rdN X id g off 2=some cs:=by have:=hA.n 0 2 (by omega);rw[Nat.add_zero,List.drop_zero,List.take_of_length_le (by omega)]at this;exact this
  have hwr:=up1 hi hb
  unfold vf169b0
  cases hpx:p xs[i] with
  | false =>
   simp[h0,h1,h7,h8,q1,hq,hi,hwr,hp i hi _ hP,hpx]
   intro j hj hx
   by_cases e:j=i
   ·subst e;exact hpx
   ·exact ht j (by omega) hx
  | true =>
   simp[h0,h1,h7,h8,q1,hq,hi,hwr,hp i hi _ hP,hpx,findI_some hi (fun j hj=>ht j hj (by omega)) hpx]
 ·rintro⟨e,X⟩ ⟨ht,rfl,h0,h1,h7,h8⟩
  simp only at h0 h1 h7 h8 ⊢
  unfold vf169b0
  simp[h0,h1,h7,h8,findI_none (fun j hj=>ht j hj hj)]

theorem containsMove {H:Hp} {v:CV} {xs:List ArmR} (hv:Arms H v xs) (hb:xs.length≤BIG) {fid:Nat} {caps:List CV} (p:ArmR→Bool)
  (hp:∀ i (hi:i<xs.length) cs,armP H cs xs[i]→∀ k:IV×Hp→Prop,CM fid (.agg cs :: caps.map .c) H k=k (.c (.b (p xs[i])),H)) (k:IV×Hp→Prop) :
  CM 167 [.c v,.f fid caps] H k=k (.c (.b (xs.any p)),H):=by
 refine det (cw167 ?_) k
 unfold vf167c
 have e:decide (0≤findI p xs)=xs.any p:=by
  cases h:xs.any p with
  | true=>exact decide_eq_true (findI_nonneg.2 h)
  | false=>exact decide_eq_false fun hc=>by rw[findI_nonneg.1 hc]at h;cases h
 simp[indexMove hv hb p hp,e]

def mvB (n:Int) (xs:List ArmR) (i:Nat):Bool:=match xs[i]? with
 | some a=>decide (0≤a.fr) && decide (a.fr<n) && decide (0≤a.v) && decide (a.v<n) && !(xs.take i).any fun x=>decide (x.fr=a.fr)
 | none=>true

def mvsB (n:Int) (xs:List ArmR):Bool:=(List.range xs.length).all (mvB n xs)

def movesB (n:Int) (xs:List ArmR):Bool:=mvsB n xs && decide (xs.length≤24)

theorem mvB_at {n:Int} {xs:List ArmR} {i:Nat} (hi:i<xs.length):mvB n xs i=(decide (0≤xs[i].fr) && decide (xs[i].fr<n) && decide (0≤xs[i].v) && decide (xs[i].v<n) && !(xs.take i).any fun x=>decide (x.fr=xs[i].fr)):=by
 unfold mvB;rw[List.getElem?_eq_getElem hi]

theorem mvsB_true {n:Int} {xs:List ArmR} (h:∀ j,j<xs.length→mvB n xs j=true):mvsB n xs=true:=by
 unfold mvsB;rw[List.all_eq_true];intro j hj;exact h j (List.mem_range.1 hj)

theorem mvsB_false {n:Int} {xs:List ArmR} {i:Nat} (hi:i<xs.length) (h:mvB n xs i=false):mvsB n xs=false:=by
 unfold mvsB
 rw[List.all_eq_false]
 exact⟨i,List.mem_range.2 hi,by simp[h]⟩

theorem natLe24 {m:Nat}:((m:Int)≤24)=(m≤24):=by simp only[eq_iff_iff];omega

theorem moveTest {H:Hp} {id g:Nat} {fr:Int} (h:rdC H id g 0=some (.i fr)) (a:ArmR) (k:IV×Hp→Prop) :
  CM 168 [.agg (armC a),.c (.p id g 0)] H k=k (.c (.b (decide (a.fr=fr))),H):=by
 refine det (cw168 ?_) k
 unfold vf168c
 have hk:∀ L,rdC (H++L) id g 0=some (.i fr):=by
  intro L
  unfold rdC at h ⊢
  cases ho:rdOb H id g with
  | none=>rw[ho]at h;cases h
  | some o=>rw[ho]at h;rw[rdOb_app L ho];exact h
 simp[armC,hk]

theorem implMoves {H:Hp} {w:CV} {xs:List ArmR} {n:Int} (hw:Arms H w xs) (hb:xs.length≤BIG) (k:IV×Hp→Prop):CM 124 [.c w,.c (.i n)] H k=k (.c (.b (movesB n xs)),H):=by
 refine det (cw124 ?_) k
 unfold vf124c movesB
 simp[hw.lenOf]
 refine wp_for CM_mono xs.length (fun i s=>(∀ j,j<i→mvB n xs j=true)∧Pre H s.h∧Env.get s.e 0=.c w∧Env.get s.e 1=.c (.i n)∧Env.get s.e 7=.c w∧Env.get s.e 8=.c (.i xs.length)∧Env.get s.e 9=.c (.i i)) ⟨by simp,Pre.refl _,by simp⟩ ?_ ?_
 ·rintro i ⟨e,X⟩ hi ⟨ht,⟨L,hX⟩,h0,h1,h7,h8,h9⟩
  simp only at h0 h1 h7 h8 h9 hX ⊢
  subst hX
  obtain⟨id,g,off,q1,q2,q3,q4,q5⟩:=hw.get hi
  have hA:=mvB_at (n:=n) hi
  unfold vf124b0
  by_cases f1:xs[i].fr<0
  ·simp[h0,h1,h7,h8,h9,hi,q1,q3,f1,putAt,mvsB_false hi (by rw[hA,decide_eq_false (by omega:¬ 0≤xs[i].fr)];rfl)]
  ·by_cases f2:n≤xs[i].fr
   ·simp[h0,h1,h7,h8,h9,hi,q1,q3,f1,f2,putAt,mvsB_false hi (by rw[hA,decide_eq_false (by omega:¬ xs[i].fr<n)];simp)]
   ·by_cases f3:xs[i].v<0
    ·simp[h0,h1,h7,h8,h9,hi,q1,q3,f1,f2,f3,putAt,mvsB_false hi (by rw[hA,decide_eq_false (by omega:¬ 0≤xs[i].v)];simp)]
    ·by_cases f4:n≤xs[i].v
     ·simp[h0,h1,h7,h8,h9,hi,q1,q3,f1,f2,f3,f4,putAt,mvsB_false hi (by rw[hA,decide_eq_false (by omega:¬ xs[i].v<n)];simp)]
     ·obtain⟨w',s1,s2,s3,_⟩:=Row.slice (Arms.app hw (L++[⟨[.i xs[i].fr,.i xs[i].v],0,true,2⟩])) (l:=0) (m:=i) (by omega) (by omega)
      have s3:=s3 rfl
      rw[List.drop_zero,Nat.sub_zero]at s2
      simp[h0,h1,h7,h8,h9,hi,q1,q3,f1,f2,f3,f4,putAt,s3]
      rw[containsMove s2 (by simp;omega) (fun a=>decide (a.fr=xs[i].fr)) (fun l hl cs hcs k=>by
       have hcs:cs=armC _:=hcs
       subst hcs
       exact moveTest (by simp) _ k)]
      cases f5:(xs.take i).any fun a=>decide (a.fr=xs[i].fr) with
      | true=>simp[h0,h1,h7,h8,h9,mvsB_false hi (by rw[hA,f5];simp)]
      | false =>
       have hAt:mvB n xs i=true:=by rw[hA,f5];simp;omega
       simp[h0,h1,h7,h8,h9,up1 hi hb]
       refine⟨fun l hl=>?_,?_⟩
       ·by_cases el:l=i
        ·subst el;exact hAt
        ·exact ht l (by omega)
       ·exact⟨L++[⟨[.i xs[i].fr,.i xs[i].v],0,true,2⟩],by simp⟩
 ·rintro⟨e,X⟩ ⟨ht,⟨L,hX⟩,h0,h1,h7,h8,h9⟩
  simp only at h0 h1 h7 h8 h9 hX ⊢
  subst hX
  unfold vf124b0
  simp[h0,h1,h7,h8,h9,hw.lenOf,(hw.app L).lenOf,mvsB_true ht,natLe24]
@[congr] theorem RunAllD_one {K:OrD} {ops:List VO} {Q:St→Prop} {n:Nat} {l:List Bool} {st st':St} (h:st=st'):RunAllD K ops Q n l st=RunAllD K ops Q n l st':=by rw[h]

def Clo (ops:List VO) (listed:List Bool):Prop:=∀ i o,ops[i]? = some o→listed.getD i false=true→∀ j∈o.dp,listed.getD j false=true

theorem count_set {l:List Bool} {i:Nat} (h:l.getD i true=false):(l.set i true).count false+1=l.count false:=by
 induction l generalizing i with
 | nil=>simp at h
 | cons a r ih =>
  cases i with
  | zero=>simp at h;subst h;simp
  | succ i =>
   simp at h
   have:=ih (i:=i) (by simpa using h)
   cases a<;>simp at this ⊢<;>omega

theorem ready_of {ops:List VO} {listed:List Bool} {i:Nat} {o:VO} (ho:ops[i]? = some o) (h:listed.getD i true=false) (hd:∀ j∈o.dp,listed.getD j false=true):i∈readyV ops listed:=by
 unfold readyV
 rw[List.mem_filter,List.mem_range]
 refine⟨(List.getElem?_eq_some_iff.1 ho).1,?_⟩
 rw[h,ho]
 simp
 intro j hj
 have:=hd j hj
 simpa using this

theorem getD_tf {l:List Bool} {i:Nat} (hi:i<l.length) (d d':Bool):l.getD i d=l.getD i d':=by
 simp[List.getD_eq_getElem?_getD,hi]

theorem all_inv {K:OrD} (hm:MonoK K) {ops:List VO} {Q:St→Prop} (hd:(ops.zipIdx.all fun p=>p.1.dp.all fun j=>decide (j<p.2))=true) (Inv:List Bool→St→Prop) {st:St}
  (h0:Inv (List.replicate ops.length false) st)
  (step:∀ listed st i o,listed.length=ops.length→Clo ops listed→Inv listed st→ops[i]? = some o→listed.getD i true=false→(∀ j∈o.dp,listed.getD j false=true)→runOpD K o st fun s=>Inv (listed.set i true) s)
  (done:∀ st,Inv (List.replicate ops.length true) st→Q st):RunAllD K ops Q ops.length (List.replicate ops.length false) st:=by
 have hdp:∀ (i:Nat) (o:VO),ops[i]? = some o→∀ j∈o.dp,j<i:=by
  intro i o ho j hj
  have:=List.all_eq_true.1 hd (o,i) (by rw[List.mem_zipIdx_iff_getElem?];exact ho)
  have:=List.all_eq_true.1 this j hj
  simpa using this
 have key:∀ n listed st,listed.length=ops.length→listed.count false=n→Clo ops listed→Inv listed st→RunAllD K ops Q n listed st:=by
  intro n
  induction n with
  | zero =>
   intro listed st hl hc hcl hI
   have e:listed=List.replicate ops.length true:=by
    rw[List.eq_replicate_iff]
    refine⟨hl,fun b hb=>?_⟩
    rw[List.count_eq_zero]at hc
    cases b with
    | true=>rfl
    | false=>exact absurd hb hc
   refine⟨?_,done st (e▸hI)⟩
   rw[List.eq_nil_iff_forall_not_mem]
   intro i hi
   obtain⟨o,h1,h2,_⟩:=mem_ready hi
   rw[e]at h2
   have:=(List.getElem?_eq_some_iff.1 h1).1
   simp[List.getD_eq_getElem?_getD,this]at h2
  | succ n ih =>
   intro listed st hl hc hcl hI
   refine⟨fun hr=>?_,fun i hi=>?_⟩
   ·exfalso
    have hex:∃ i,i<ops.length∧listed.getD i true=false:=by
     have:false∈listed:=by rw[← List.count_pos_iff];omega
     obtain⟨i,hi,he⟩:=List.getElem_of_mem this
     exact⟨i,by omega,by simp[List.getD_eq_getElem?_getD,hi,he]⟩
    obtain⟨i,hi,hf⟩:=hex
    have least:∀ n i,i≤n→i<ops.length→listed.getD i true=false→False:=by
     intro n
     induction n with
     | zero =>
      intro i hi hlt hf
      have ho:ops[i]? = some ops[i]:=List.getElem?_eq_getElem hlt
      have:=ready_of ho hf (fun j hj=>by have:=hdp i _ ho j hj;omega)
      rw[hr]at this
      cases this
     | succ n ihn =>
      intro i hi hlt hf
      have ho:ops[i]? = some ops[i]:=List.getElem?_eq_getElem hlt
      have:=ready_of ho hf (fun j hj=>by
       have hji:=hdp i _ ho j hj
       cases h:listed.getD j false with
       | true=>rfl
       | false=>exact (ihn j (by omega) (by omega) (by rw[getD_tf (by omega) true false];exact h)).elim)
      rw[hr]at this
      cases this
    exact least i i (Nat.le_refl _) hi hf
   ·obtain⟨o,h1,h2,h3⟩:=mem_ready hi
    have hilt:i<listed.length:=by rw[hl];exact (List.getElem?_eq_some_iff.1 h1).1
    refine⟨o,h1,runOpD_le hm.le (fun s hs=>ih (listed.set i true) s (by simpa using hl) ?_ ?_ hs) (step listed st i o hl hcl hI h1 h2 h3)⟩
    ·have:=count_set h2;omega
    ·intro i' o' ho' hl' j hj
     rw[getD_setF hilt]at hl' ⊢
     split
     ·rfl
     ·split at hl'
      ·rename_i e;subst e;rw[h1]at ho';injection ho' with ho';subst ho';exact h3 j hj
      ·exact hcl i' o' ho' hl' j hj
 exact key ops.length _ st (by simp) (by simp) (fun i o ho h=>by
  simp[List.getD_eq_getElem?_getD]at h
  by_cases hi:i<ops.length<;>simp[hi]at h) h0
theorem and255 (n:Int):Go.bits .and .i64 n 255=n % 256:=by
 have h63:(BitVec.ofInt 64 255).toNat=2 ^ 8 - 1:=by decide
 have key:(BitVec.ofInt 64 n &&& BitVec.ofInt 64 255).toNat=(n % ((2 ^ 64:Nat):Int)).toNat % 2 ^ 8:=by
  rw[BitVec.toNat_and,BitVec.toNat_ofInt,h63,Nat.and_two_pow_sub_one_eq_mod]
 show IntKind.i64.wrap ((BitVec.ofInt 64 n &&& BitVec.ofInt 64 255).toNat:Nat)=n % 256
 rw[key,IntKind.wrap_i64]
 omega

def InR (x:Int):Prop:=-9223372036854775808≤x∧x≤9223372036854775807

theorem wrap_in (x:Int):InR (wrap64 x):=by unfold InR wrap64;omega

def Cur (X:Hp) (c:Nat):Prop:=∃ bs i h xs,rdOb X c 0=some ⟨[bs,.i i,.i h],0,true,3⟩∧IsB X bs xs∧xs.length≤BIG∧0≤i∧∀ id g off m,bs=.sl id g off m→id<c

def CurTo (X Y:Hp) (c:Nat):Prop:=∃ ob,Y=X.set c ob∧Cur Y c

theorem Cur.lt {X:Hp} {c:Nat} (h:Cur X c):c<X.length:=by obtain⟨bs,i,h,xs,h1,_⟩:=h;exact rdOb_lt h1

theorem CurTo.cur {X Y:Hp} {c:Nat} (h:CurTo X Y c):Cur Y c:=by obtain⟨_,_,h⟩:=h;exact h

theorem CurTo.trans {X Y Z:Hp} {c:Nat} (h:CurTo X Y c) (k:CurTo Y Z c):CurTo X Z c:=by
 obtain⟨a,rfl,_⟩:=h
 obtain⟨b,rfl,k⟩:=k
 exact⟨b,by simp,by simpa using k⟩

theorem CurTo.refl {X:Hp} {c:Nat} (h:Cur X c):CurTo X X c:=by
 have hlt:=h.lt
 exact⟨X[c],by simp,h⟩

theorem CurTo.len {X Y:Hp} {c:Nat} (h:CurTo X Y c):Y.length=X.length:=by obtain⟨a,rfl,_⟩:=h;simp

theorem CurTo.rdOb {X Y:Hp} {c id g:Nat} (h:CurTo X Y c) (hne:id≠c):rdOb Y id g=Vm.rdOb X id g:=by obtain⟨a,rfl,_⟩:=h;exact rdOb_set_ne hne

theorem CurTo.low {X Y:Hp} {c lo:Nat} (h:CurTo X Y c) (hl:lo≤c):Low lo X Y:=fun id g o hi ho=>by rw[h.rdOb (by omega)];exact ho

theorem Cur.app {X:Hp} {c:Nat} (h:Cur X c) (L:Hp):Cur (X++L) c:=by
 obtain⟨bs,i,h,xs,h1,h2,h3,h4⟩:=h
 exact⟨bs,i,h,xs,rdOb_app L h1,Sl.app L h2,h3,h4⟩

theorem IsB.set3 {X:Hp} {c:Nat} {bs:CV} {xs:List Int} {cs:List CV} {ob:Ob} (h:IsB X bs xs) (hc:rdOb X c 0=some ⟨cs,0,true,3⟩):IsB (X.set c ob) bs xs:=by
 rcases h with⟨h1,h2,h3⟩ | ⟨id,g,off,o,h1,h2,h3,h4⟩
 ·exact .inl ⟨h1,h2,h3⟩
 ·refine .inr ⟨id,g,off,o,h1,?_,h3,h4⟩
  rw[rdOb_set_ne];exact h2
  rintro rfl
  have a:=(rdOb_some.1 h2).1
  rw[(rdOb_some.1 hc).1]at a
  injection a with a
  rw[← a]at h3
  cases h3

theorem gc_set {X:Hp} {c:Nat} {ob:Ob} {r:IV} (hf:flatV r=true):gcRet X r (X.set c ob)=(r,X.set c ob):=gc_len (by simp) hf

set_option maxRecDepth 100000 in
theorem byte_call {X:Hp} {c:Nat} (h:Cur X c):∃ r Y,0≤r∧r≤255∧CurTo X Y c∧∀ k:IV×Hp→Prop,CM 139 [.c (.p c 0 0)] X k=k (.c (.i r),Y):=by
 obtain⟨bs,i,hh,xs,h1,h2,h3,h4,h5⟩:=h
 obtain⟨h',hh'⟩:∃ h',wrap64 (wrap64 (hh * 6364136223846793005)+1442695040888963407)=h':=⟨_,rfl⟩
 obtain⟨x,hx⟩:∃ x,bits .and .i64 (bits .xor .i64 (h' / 8589934592) (h' / 35184372088832)) 255=x:=⟨_,rfl⟩
 have hlt:=rdOb_lt h1
 have g1:rdOb (X.set c ⟨[bs,.i i,.i h'],0,true,3⟩) c 0=some ⟨[bs,.i i,.i h'],0,true,3⟩:=by rw[rdOb_set_self hlt];simp
 have g2:IsB (X.set c ⟨[bs,.i i,.i h'],0,true,3⟩) bs xs:=h2.set3 h1
 by_cases hlt2:i<(xs.length:Int)
 ·obtain⟨n,rfl⟩:∃ n:Nat,i=n:=⟨i.toNat,by omega⟩
  have hn:n<xs.length:=by omega
  obtain⟨id,g,off,q1,q2⟩:=g2.at_ hn
  refine⟨bits .and .i64 (wrap64 (x+wrap64 xs[n])) 255,X.set c ⟨[bs,.i (n+1),.i h'],0,true,3⟩,by rw[and255];omega,by rw[and255];omega,⟨_,rfl,⟨bs,n+1,h',xs,by rw[rdOb_set_self hlt];simp,h2.set3 h1,h3,by omega,h5⟩⟩,fun k=>det (cw139 ?_) k⟩
  unfold vf139c
  simp[rdC_ob h1,h1,putAt,hh',rdC_ob g1,g1,hx,g2.lenOf,hlt2,q1,q2,up1 hn h3,hlt]
  exact gc_set rfl
 ·refine⟨x,X.set c ⟨[bs,.i i,.i h'],0,true,3⟩,by rw[← hx,and255];omega,by rw[← hx,and255];omega,⟨_,rfl,⟨bs,i,h',xs,g1,g2,h3,h4,h5⟩⟩,fun k=>det (cw139 ?_) k⟩
  unfold vf139c
  simp[rdC_ob h1,h1,putAt,hh',rdC_ob g1,g1,hx,g2.lenOf,hlt2]
  exact gc_set rfl

theorem tmod_in {r n:Int} (h0:0≤r) (hn:0<n):0≤r.tmod n∧r.tmod n<n:=by
 rw[Int.tmod_eq_emod_of_nonneg h0]
 exact⟨Int.emod_nonneg _ (by omega),Int.emod_lt_of_pos _ hn⟩

theorem gc_cur {X Y:Hp} {c:Nat} {r:IV} (h:CurTo X Y c) (hf:flatV r=true):gcRet X r Y=(r,Y):=gc_len h.len hf

theorem below_call {X:Hp} {c:Nat} (h:Cur X c) (n:Int):∃ r Y,0≤r∧(0<n→r<n)∧(n≤0→r=0)∧CurTo X Y c∧∀ k:IV×Hp→Prop,CM 77 [.c (.p c 0 0),.c (.i n)] X k=k (.c (.i r),Y):=by
 by_cases h0:n≤0
 ·refine⟨0,X,by omega,by omega,fun _=>rfl,.refl h,fun k=>det (cw77 ?_) k⟩
  unfold vf77c
  simp[h0]
 ·by_cases h1:n≤256
  ·obtain⟨r,Y,a,b,d,e⟩:=byte_call h
   obtain⟨m1,m2⟩:=tmod_in a (show 0<n by omega)
   refine⟨r.tmod n,Y,m1,fun _=>m2,fun h=>by omega,d,fun k=>det (cw77 ?_) k⟩
   unfold vf77c
   have hne:¬ n=0:=by omega
   simp[h0,h1,e,hne]
   exact gc_cur d rfl
  ·obtain⟨r1,Y1,a1,b1,d1,e1⟩:=byte_call h
   obtain⟨r2,Y2,a2,b2,d2,e2⟩:=byte_call d1.cur
   obtain⟨r3,Y3,a3,b3,d3,e3⟩:=byte_call d2.cur
   obtain⟨r4,Y4,a4,b4,d4,e4⟩:=byte_call d3.cur
   have w1:wrap64 (r1 * 16777216)=r1 * 16777216:=wrap64_id (by omega)
   have w2:wrap64 (r2 * 65536)=r2 * 65536:=wrap64_id (by omega)
   have w3:wrap64 (r1 * 16777216+r2 * 65536)=r1 * 16777216+r2 * 65536:=wrap64_id (by omega)
   have w4:wrap64 (r3 * 256)=r3 * 256:=wrap64_id (by omega)
   have w5:wrap64 (r1 * 16777216+r2 * 65536+r3 * 256)=r1 * 16777216+r2 * 65536+r3 * 256:=wrap64_id (by omega)
   have w6:wrap64 (r1 * 16777216+r2 * 65536+r3 * 256+r4)=r1 * 16777216+r2 * 65536+r3 * 256+r4:=wrap64_id (by omega)
   have hpos:0≤r1 * 16777216+r2 * 65536+r3 * 256+r4:=by clear w1 w2 w3 w4 w5 w6;omega
   have hne:¬ n=0:=by clear w1 w2 w3 w4 w5 w6;omega
   have hp:0<n:=by clear w1 w2 w3 w4 w5 w6;omega
   obtain⟨m1,m2⟩:=tmod_in hpos hp
   have d:=d1.trans (d2.trans (d3.trans d4))
   refine⟨(r1 * 16777216+r2 * 65536+r3 * 256+r4).tmod n,Y4,m1,fun _=>m2,fun h=>by exact absurd h h0,d,fun k=>det (cw77 ?_) k⟩
   unfold vf77c
   simp[h0,h1,e1,e2,e3,e4,w1,w2,w3,w4,w5,w6,hne]
   exact gc_cur d rfl

theorem once_call {X:Hp} {c:Nat} (h:Cur X c) (n:Int):∃ r Y,CurTo X Y c∧∀ k:IV×Hp→Prop,CM 66 [.c (.p c 0 0),.c (.i n)] X k=k (.c (.b r),Y):=by
 obtain⟨r,Y,_,_,_,d,e⟩:=below_call h n
 refine⟨decide (r=0),Y,d,fun k=>det (cw66 ?_) k⟩
 unfold vf66c
 simp[e]
 exact gc_cur d rfl

theorem IsI.cur {X Y:Hp} {c:Nat} {v:CV} {xs:List Int} (hv:IsI X v xs) (hc:Cur X c) (h:CurTo X Y c):IsI Y v xs:=by
 obtain⟨ob,rfl,_⟩:=h
 obtain⟨bs,i,hh,ys,h1,_⟩:=hc
 rcases hv with⟨h1,h2,h3⟩ | ⟨id,g,off,o,e1,h2,h3,h4⟩
 ·exact .inl ⟨h1,h2,h3⟩
 ·refine .inr ⟨id,g,off,o,e1,?_,h3,h4⟩
  rw[rdOb_set_ne];exact h2
  rintro rfl
  have a:=(rdOb_some.1 h2).1
  rw[(rdOb_some.1 h1).1]at a
  injection a with a
  rw[← a]at h3
  cases h3

theorem pick_call {X:Hp} {c:Nat} (h:Cur X c) {v:CV} {xs:List Int} (hv:IsI X v xs) (h0:0<xs.length):∃ r Y,r∈xs∧CurTo X Y c∧∀ k:IV×Hp→Prop,CM 78 [.c (.p c 0 0),.c v] X k=k (.c (.i r),Y):=by
 obtain⟨r,Y,a,b,_,d,e⟩:=below_call h xs.length
 have b:=b (by omega)
 obtain⟨n,rfl⟩:∃ n:Nat,r=n:=⟨r.toNat,by omega⟩
 have hn:n<xs.length:=by omega
 obtain⟨id,g,off,q1,q2⟩:=(hv.cur h d).at_ hn
 refine⟨xs[n],Y,List.getElem_mem hn,d,fun k=>det (cw78 ?_) k⟩
 unfold vf78c
 simp[hv.lenOf,e,q1,q2]
 exact gc_cur d rfl

structure CurL (c:Nat) (X Z:Hp):Prop where
 cur:Cur Z c
 le:X.length≤Z.length
 keep:∀ id g o,id≠c→rdOb X id g=some o→rdOb Z id g=some o

theorem CurTo.l {X Y:Hp} {c:Nat} (h:CurTo X Y c):CurL c X Y:=⟨h.cur,Nat.le_of_eq h.len.symm,fun id g o hne ho=>by rw[h.rdOb hne];exact ho⟩

theorem CurL.refl {X:Hp} {c:Nat} (h:Cur X c):CurL c X X:=⟨h,Nat.le_refl _,fun _ _ _ _ h=>h⟩

theorem CurL.trans {X Y Z:Hp} {c:Nat} (h:CurL c X Y) (k:CurL c Y Z):CurL c X Z:=⟨k.cur,Nat.le_trans h.le k.le,fun id g o hne ho=>k.keep id g o hne (h.keep id g o hne ho)⟩

theorem CurL.app {X Z:Hp} {c:Nat} (h:CurL c X Z) (L:Hp):CurL c X (Z++L):=⟨h.cur.app L,by simp;have:=h.le;omega,fun id g o hne ho=>rdOb_app L (h.keep id g o hne ho)⟩

theorem CurL.mk' {X Z:Hp} {c:Nat} (h:Cur X c) (L:Hp):CurL c X (X++L):=(CurL.refl h).app L

theorem CurL.pre {H X Z:Hp} {c:Nat} (h:CurL c X Z) (hp:Pre H X) (hc:H.length≤c):Pre H Z:=Low.pre (lo:=c) (fun id g o hl ho=>h.keep id g o (by omega) ho) hp hc

theorem gc_flat2 {X Z:Hp} {r:IV} (hf:flatV r=true):gcRet X r Z=(r,X)∨gcRet X r Z=(r,Z):=by
 unfold gcRet;split<;>simp[hf]

theorem CurL.gc {X Z:Hp} {c:Nat} (h:CurL c X Z) (hx:Cur X c) {r:IV} (hf:flatV r=true):∃ Z',gcRet X r Z=(r,Z')∧CurL c X Z':=by
 rcases gc_flat2 (X:=X) (Z:=Z) hf with e | e
 ·exact⟨_,e,.refl hx⟩
 ·exact⟨_,e,h⟩

theorem num_call {X:Hp} {c:Nat} (h:Cur X c):∃ x Z,InR x∧CurL c X Z∧∀ k:IV×Hp→Prop,CM 156 [.c (.p c 0 0)] X k=k (.c (.i x),Z):=by
 obtain⟨r,Y,d,e⟩:=once_call h 8
 cases r with
 | false =>
  obtain⟨r2,Y2,a2,b2,_,d2,e2⟩:=below_call d.cur 20
  refine⟨wrap64 (r2 - 6),Y2,wrap_in _,(d.trans d2).l,fun k=>det (cw156 ?_) k⟩
  unfold vf156c
  simp[e,e2]
  exact gc_cur (d.trans d2) rfl
 | true =>
  obtain⟨cs,hcs⟩:∃ cs:List CV,[CV.i 9223372036854775807,.i (-9223372036854775808),.i 4294967296,.i (-1),.i 63,.i 64,.i 1000000007]=cs:=⟨_,rfl⟩
  obtain⟨Y1,hY1⟩:∃ Y1,Y++[(⟨cs,0,true,1⟩:Ob)]=Y1:=⟨_,rfl⟩
  have hc1:CurL c X Y1:=by rw[← hY1];exact d.l.app _
  have hv:IsI Y1 (.sl Y.length 0 0 7) [9223372036854775807,-9223372036854775808,4294967296,-1,63,64,1000000007]:=by
   rw[← hY1];exact IsI.mk (off:=0) (xs:=[9223372036854775807,-9223372036854775808,4294967296,-1,63,64,1000000007]) (o:=⟨cs,0,true,1⟩) (by simp) rfl (by rw[← hcs];simp) (by rw[← hcs];simp)
  obtain⟨r2,Y2,a2,d2,e2⟩:=pick_call hc1.cur hv (by simp)
  obtain⟨Z,z1,z2⟩:=(hc1.trans d2.l).gc h (r:=.c (.i r2)) rfl
  refine⟨r2,Z,by simp at a2;unfold InR;omega,z2,fun k=>det (cw156 ?_) k⟩
  unfold vf156c
  simp[e,putAt,hcs,hY1,e2,z1]

theorem IsB.form {H:Hp} {v:CV} {xs:List Int} (h:IsB H v xs):v=.ns∨∃ id g off n,v=.sl id g off n:=by
 rcases h with⟨h,_⟩ | ⟨id,g,off,o,h,_⟩
 ·exact .inl h
 ·exact .inr ⟨_,_,_,_,h⟩

def NewRes (H:Hp) (v:CV) (r:IV×Hp):Prop:=∃ h,r=(.c (.p H.length 0 0),H++[⟨[v,.i 0,.i h],0,true,3⟩])

theorem new_call {H:Hp} {v:CV} {xs:List Int} (hv:IsB H v xs) (hb:xs.length≤BIG):CM 31 [.c v] H (NewRes H v):=by
 refine cw31 ?_
 unfold vf31c
 simp[hv.lenOf]
 have fin:∀ h:Int,gcRet H (.c (.p H.length 0 0)) (H++[⟨[v,.i 0,.i h],0,true,3⟩])=(.c (.p H.length 0 0),H++[⟨[v,.i 0,.i h],0,true,3⟩]):=fun h=>by
  unfold gcRet
  rw[if_pos (by simp),if_neg (by simp[flatV,flatC])]
 refine wp_for CM_mono xs.length (fun i s=>s.h=H∧Env.get s.e 0=.c v∧(∃ h,Env.get s.e 3=.c (.i h))∧Env.get s.e 4=.c (.i i)) (by simp) ?_ ?_
 ·rintro i ⟨e,X⟩ hi ⟨rfl,h0,⟨h,h3⟩,h4⟩
  simp only at h0 h3 h4 hv fin ⊢
  obtain⟨id,g,off,q1,q2⟩:=hv.at_ hi
  unfold vf31b0
  by_cases hlt:i<4000
  ·have hlt':(i:Int)<4000:=by omega
   simp[h0,h3,h4,hv.lenOf,hi,q1,q2,hlt,hlt',up1 hi hb]
  ·have hlt':¬ (i:Int)<4000:=by omega
   simp[h0,h3,h4,hv.lenOf,hi,hlt,hlt',putAt]
   have fin:=fin h
   rcases hv.form with rfl | ⟨_,_,_,_,rfl⟩<;>simp[fin,putAt]<;>exact⟨h,rfl⟩
 ·rintro⟨e,X⟩ ⟨rfl,h0,⟨h,h3⟩,h4⟩
  simp only at h0 h3 h4 hv fin ⊢
  unfold vf31b0
  simp[h0,h3,h4,hv.lenOf,putAt]
  have fin:=fin h
  rcases hv.form with rfl | ⟨_,_,_,_,rfl⟩<;>simp[fin,putAt]<;>exact⟨h,rfl⟩

theorem new_cur {H:Hp} {v:CV} {xs:List Int} (hv:IsB H v xs) (hb:xs.length≤BIG) (h:Int):Cur (H++[⟨[v,.i 0,.i h],0,true,3⟩]) H.length:=
 ⟨v,0,h,xs,by simp,Sl.app _ hv,hb,by omega,fun id g off m e=>by
  rcases hv with⟨rfl,_⟩ | ⟨id',g',off',o,rfl,h1,_⟩
  ·cases e
  ·cases e;exact rdOb_lt h1⟩

theorem big_call {H:Hp} {v:CV} {n:Nat} (hv:lenOf v=some n) (k:IV×Hp→Prop):CM 8 [.c v] H k=k (.c (.b (decide (1048576<n))),H):=by
 refine det (cw8 ?_) k
 unfold vf8c
 have e:((1048576:Int)<(n:Int))=(1048576<n):=by simp only[eq_iff_iff];omega
 simp[hv,e]
theorem Row.flat {α:Type} {f:α→CV} {H:Hp} {v:CV} {xs:List α} (h:Row (fun _ cs x=>cs=[f x]) 1 H v xs):Sl H 1 v xs.length (xs.map f):=by
 obtain⟨css,h1,h2,h3⟩:=h
 have e:css=xs.map fun x=>[f x]:=by
  apply List.ext_getElem?
  intro k
  by_cases hk:k<xs.length
  ·have a:=List.getElem?_eq_getElem (show k<css.length by omega)
   have b:=List.getElem?_eq_getElem hk
   rw[a,List.getElem?_map,b,(h3 k _ _ a b).2];rfl
  ·rw[List.getElem?_eq_none (by omega),List.getElem?_eq_none (by simp;omega)]
 rw[e]at h1
 have e2:∀ l:List α,(l.map fun x=>[f x]).flatten=l.map f:=by
  intro l
  induction l with
  | nil=>rfl
  | cons a r ih=>simp[ih]
 rw[e2]at h1
 exact h1

section

variable {P:Program} {H:Hp}

theorem arg_bytes {t e:TypeId} {n:Nat} {iv:IV} (hu:P.underlying t=some (.slice e)) (he:P.underlying e=some (.int .u8)) (hls:leafTs P 8 e=some [e]) (hsz:P.cellsOf e=1) (hp:plainT P n t=true) (ha:aggOf P t=some false)
  (h:ArgTy P H n t iv):∃ v xs,iv=.c v∧IsB H v xs∧xs.length≤maxLen:=by
 obtain⟨c,rfl,hl⟩:=h.one hp ha
 obtain⟨xs,h1,h2⟩:=leaf_row (R:=fun _ cs (x:Int)=>cs=[.y x]) hu hls hsz (fun cs hl hc=>by
  match cs,hl with
  | [a],_ =>
   obtain⟨m,rfl,_⟩:=Leaf.byte he (hc 0 _ a rfl rfl)
   exact⟨m,rfl⟩) hl
 exact⟨c,xs,rfl,h1.flat,h2⟩

end

def Tru (r:IV×Hp):Prop:=r.1=.c (.b true)

@[simp] theorem tru_c (X:Hp):Tru (.c (.b true),X)=True:=by simp[Tru]

@[simp] theorem tru_gc (H X:Hp):Tru (gcRet H (.c (.b true)) X)=True:=by simp[Tru]
def usesF (x:InsR):List Int:=if wordOk x.op=true∨x.op=22 then [x.a,x.b] else if x.op=21∨x.op=23∨x.op=25 then [x.a] else []

theorem usesF_le (x:InsR):(usesF x).length≤2:=by unfold usesF;(repeat' split)<;>simp

def RowEq (f:Nat) (ar:List IV) (H:Hp) (xs:List Int):Prop:=∃ w L,RowRes H w L xs∧∀ k:IV×Hp→Prop,CM f ar H k=k (.c w,H++L)

theorem RowRes.mk (H:Hp) (xs:List Int):RowRes H (.sl H.length 0 0 xs.length) [⟨xs.map .i,0,true,1⟩] xs:=.inr ⟨rfl,rfl⟩

theorem specUses (H:Hp) (x:InsR):RowEq 148 [.agg [.i x.op,.i x.d,.i x.a,.i x.b,.i x.n]] H (usesF x):=by
 refine⟨_,_,RowRes.mk H (usesF x),fun k=>det (cw148 ?_) k⟩
 unfold vf148c usesF
 have fin:∀ xs:List Int,gcRet H (.c (.sl (H.length+1) 0 0 xs.length)) (H++[⟨[.i x.op,.i x.d,.i x.a,.i x.b,.i x.n],0,true,5⟩,⟨xs.map .i,0,true,1⟩])=(.c (.sl H.length 0 0 xs.length),H++[⟨xs.map .i,0,true,1⟩]):=fun xs=>by
  rw[gcRet_row ⟨_,rfl⟩ (by omega) (by simp;rfl) rfl (by simp[flatC])]
 have fin2:=fin [x.a,x.b]
 have fin1:=fin [x.a]
 have fin0:=fin []
 simp at fin2 fin1 fin0
 obtain⟨op,d,a,b,n⟩:=x
 simp only at fin2 fin1 fin0 ⊢
 cases hw:wordOk op with
 | true=>simp[specWordOk,hw,putAt,fin2]
 | false =>
  by_cases h22:op=22
  ·subst h22;simp[specWordOk,hw,putAt,fin2]
  ·by_cases h21:op=21
   ·subst h21;simp[specWordOk,hw,putAt,fin1]
   ·by_cases h23:op=23
    ·subst h23;simp[specWordOk,hw,putAt,fin1]
    ·by_cases h25:op=25
     ·subst h25;simp[specWordOk,hw,putAt,fin1]
     ·simp[specWordOk,hw,h21,h22,h23,h25,putAt,fin0]

theorem app_new {X:Hp} {id g n:Nat} {cs:List CV} (h:rdOb X id g=some ⟨cs,g,true,1⟩) (hn:cs.length=n) (hb:n≤BIG) (m:Int) :
  doApp (X++[(⟨[.i m],0,true,1⟩:Ob)]) 1 (.sl id g 0 n) 1 [.i m]=some (.c (.sl id (g+1) 0 (n+1)),(X++[(⟨[.i m],0,true,1⟩:Ob)]).set id ⟨cs++[.i m],g+1,true,1⟩):=
 app_own (rdOb_app _ h) (by omega) (by simp) (by simp only[BIG]at hb;simp only[LIM,List.length_cons,List.length_nil];omega)

theorem implUses (H:Hp) (x:InsR):RowEq 143 [.agg [.i x.op,.i x.d,.i x.a,.i x.b,.i x.n]] H (usesF x):=by
 refine⟨_,_,RowRes.mk H (usesF x),fun k=>det (cw143 ?_) k⟩
 unfold vf143c usesF
 obtain⟨op,d,a,b,n⟩:=x
 simp only
 obtain⟨X1,hX1⟩:∃ X1,H++[(⟨[.i op,.i d,.i a,.i b,.i n],0,true,5⟩:Ob)]=X1:=⟨_,rfl⟩
 have hp1:Pre H X1:=⟨_,hX1.symm⟩
 have hle:H.length≤X1.length:=hp1.le
 obtain⟨X2,hX2⟩:∃ X2,X1++[(⟨[],0,true,1⟩:Ob)]=X2:=⟨_,rfl⟩
 have hp2:Pre X1 X2:=⟨_,hX2.symm⟩
 have hx:rdOb X1 H.length 0=some ⟨[.i op,.i d,.i a,.i b,.i n],0,true,5⟩:=by rw[← hX1];simp
 have hx2:=hp2.rdOb hx
 have ho2:rdOb X2 X1.length 0=some ⟨[],0,true,1⟩:=by rw[← hX2];simp
 have e1:=app_new (n:=0) ho2 rfl (Nat.zero_le _) a
 simp only[Nat.zero_add,List.nil_append]at e1
 obtain⟨X3,hX3⟩:∃ X3,(X2++[(⟨[.i a],0,true,1⟩:Ob)]).set X1.length ⟨[.i a],1,true,1⟩=X3:=⟨_,rfl⟩
 rw[hX3]at e1
 have hp3:Pre X1 X3:=by rw[← hX3];exact (hp2.app _).set (Nat.le_refl _) _
 have ho3:rdOb X3 X1.length 1=some ⟨[.i a],1,true,1⟩:=by rw[← hX3,rdOb_set_self (by have:=rdOb_lt ho2;simp;omega)];simp
 have hx3:=hp3.rdOb hx
 have e2:=app_new (n:=1) ho3 rfl (by simp only[BIG];omega) b
 simp only[List.length_cons,List.length_nil,Nat.zero_add,List.cons_append,List.nil_append,Nat.reduceAdd]at e2
 obtain⟨X4,hX4⟩:∃ X4,(X3++[(⟨[.i b],0,true,1⟩:Ob)]).set X1.length ⟨[.i a,.i b],2,true,1⟩=X4:=⟨_,rfl⟩
 rw[hX4]at e2
 have hp4:Pre X1 X4:=by rw[← hX4];exact (hp3.app _).set (Nat.le_refl _) _
 have ho4:rdOb X4 X1.length 2=some ⟨[.i a,.i b],2,true,1⟩:=by rw[← hX4,rdOb_set_self (by have:=rdOb_lt ho3;simp;omega)];simp
 have f0:=gcRet_row (len:=0) (hp1.trans hp2) hle ho2 rfl (by simp)
 have f1:=gcRet_row (len:=1) (hp1.trans hp3) hle ho3 rfl (by simp[flatC])
 have f2:=gcRet_row (len:=2) (hp1.trans hp4) hle ho4 rfl (by simp[flatC])
 simp only at f0 f1 f2
 have w20:wordOk 20=false:=by decide
 have w21:wordOk 21=false:=by decide
 have w22:wordOk 22=false:=by decide
 have w23:wordOk 23=false:=by decide
 have w24:wordOk 24=false:=by decide
 have w25:wordOk 25=false:=by decide
 rcases has_tab op with h | h | h | h | h | h | h
 ·obtain⟨h1,h2,h3,h4,_⟩:=h
  simp[h1,h3,h4,has_call,hX1,hX2,rdC_ob hx2,rdC_ob hx3,putAt,srcOf,e1,e2,f2]
 ·obtain⟨rfl,h2,h3,h4,_⟩:=h
  simp[w20,h3,h4,has_call,hX1,hX2,rdC_ob hx2,putAt,f0]
 ·obtain⟨rfl | rfl,h2,h3,h4,_⟩:=h
  ·simp[w21,h3,h4,has_call,hX1,hX2,rdC_ob hx2,rdC_ob hx3,putAt,srcOf,e1,f1]
  ·simp[w25,h3,h4,has_call,hX1,hX2,rdC_ob hx2,rdC_ob hx3,putAt,srcOf,e1,f1]
 ·obtain⟨rfl,h2,h3,h4,_⟩:=h
  simp[w22,h3,h4,has_call,hX1,hX2,rdC_ob hx2,rdC_ob hx3,putAt,srcOf,e1,e2,f2]
 ·obtain⟨rfl,h2,h3,h4,_⟩:=h
  simp[w23,h3,h4,has_call,hX1,hX2,rdC_ob hx2,rdC_ob hx3,putAt,srcOf,e1,f1]
 ·obtain⟨rfl,h2,h3,h4,_⟩:=h
  simp[w24,h3,h4,has_call,hX1,hX2,rdC_ob hx2,putAt,f0]
 ·obtain⟨h0,g1,g2,g3,g4,g5,g6,h2,h3,h4,_⟩:=h
  simp[h0,g2,g3,g4,g5,h3,h4,has_call,hX1,hX2,rdC_ob hx2,putAt,f0]

def tusesF (t:TrmR):List Int:=if t.kind=2∨t.kind=3 then [t.a] else []

theorem tusesF_le (t:TrmR):(tusesF t).length≤1:=by unfold tusesF;split<;>simp

theorem specTUses (H:Hp) (t:TrmR):RowEq 150 [.agg [.i t.kind,.i t.a,.i t.to,.i t.els]] H (tusesF t):=by
 refine⟨_,_,RowRes.mk H (tusesF t),fun k=>det (cw150 ?_) k⟩
 unfold vf150c tusesF
 obtain⟨kind,a,to,els⟩:=t
 simp only
 have fin:∀ xs:List Int,gcRet H (.c (.sl (H.length+1) 0 0 xs.length)) (H++[⟨[.i kind,.i a,.i to,.i els],0,true,4⟩,⟨xs.map .i,0,true,1⟩])=(.c (.sl H.length 0 0 xs.length),H++[⟨xs.map .i,0,true,1⟩]):=fun xs=>by
  rw[gcRet_row ⟨_,rfl⟩ (by omega) (by simp;rfl) rfl (by simp[flatC])]
 have fin1:=fin [a]
 have fin0:=fin []
 simp at fin1 fin0
 by_cases h2:kind=2
 ·subst h2;simp[putAt,fin1]
 ·by_cases h3:kind=3
  ·subst h3;simp[putAt,fin1]
  ·simp[h2,h3,putAt,fin0]

theorem implTUses (H:Hp) (t:TrmR):RowEq 141 [.agg [.i t.kind,.i t.a,.i t.to,.i t.els]] H (tusesF t):=by
 unfold RowEq tusesF
 obtain⟨kind,a,to,els⟩:=t
 simp only
 have fin:∀ xs:List Int,gcRet H (.c (.sl (H.length+1) 0 0 xs.length)) (H++[⟨[.i kind,.i a,.i to,.i els],0,true,4⟩,⟨xs.map .i,0,true,1⟩])=(.c (.sl H.length 0 0 xs.length),H++[⟨xs.map .i,0,true,1⟩]):=fun xs=>by
  rw[gcRet_row ⟨_,rfl⟩ (by omega) (by simp;rfl) rfl (by simp[flatC])]
 have fin1:=fin [a]
 simp at fin1
 by_cases h2:kind=2
 ·subst h2
  refine⟨_,_,RowRes.mk H [a],fun k=>det (cw141 ?_) k⟩
  unfold vf141c
  simp[putAt,fin1]
 ·by_cases h3:kind=3
  ·subst h3
   refine⟨_,_,RowRes.mk H [a],fun k=>det (cw141 ?_) k⟩
   unfold vf141c
   simp[putAt,fin1]
  ·rw[if_neg (by omega)]
   refine⟨.ns,[],.inl ⟨rfl,rfl,rfl⟩,fun k=>det (cw141 ?_) k⟩
   unfold vf141c
   simp[h2,h3,putAt]
theorem RowRes.gc {H B L:Hp} {w:CV} {xs:List Int} (h:RowRes (H++B) w L xs):∃ w' L',gcRet H (.c w) (H++B++L)=(.c w',H++L')∧RowRes H w' L' xs:=by
 rcases h with⟨rfl,rfl,rfl⟩ | ⟨rfl,rfl⟩
 ·exact⟨.ns,[],by rw[List.append_nil,List.append_nil];exact gcRet_flat ⟨B,rfl⟩ rfl,.inl ⟨rfl,rfl,rfl⟩⟩
 ·refine⟨.sl H.length 0 0 xs.length,[⟨xs.map .i,0,true,1⟩],?_,.inr ⟨rfl,rfl⟩⟩
  rw[gcRet_row ⟨B++[⟨xs.map .i,0,true,1⟩],by rw[List.append_assoc]⟩ (by simp) (o:=⟨xs.map .i,0,true,1⟩) (by simp) rfl (by simp[flatC])]
theorem bool_put {xs:List Bool} {i:Nat} (h:i<xs.length) (x:Bool):putAt (xs.map CV.b) i [.b x]=(xs.set i x).map .b:=by
 simp[putAt,List.set_eq_take_append_cons_drop,h,List.map_take,List.map_drop]

def cf (l:List Bool):Nat:=l.count false

theorem cf_set {l:List Bool} {b:Nat} (h:l.getD b true=false):cf (l.set b true)+1=cf l:=by
 induction l generalizing b with
 | nil=>simp at h
 | cons a r ih =>
  cases b with
  | zero=>simp at h;subst h;simp[cf]
  | succ b =>
   simp only[List.getD_cons_succ]at h
   have:=ih h
   simp only[List.set_cons_succ]
   cases a<;>simp[cf]at this ⊢<;>omega

theorem cf_set_le (l:List Bool) (b:Nat):cf (l.set b true)≤cf l:=by
 induction l generalizing b with
 | nil=>simp
 | cons a r ih =>
  cases b with
  | zero=>cases a<;>simp[cf]
  | succ b =>
   have:=ih b
   simp only[List.set_cons_succ]
   cases a<;>simp[cf]at this ⊢<;>omega

theorem unseen_lt {l:List Bool} {b:Nat} (h:l.getD b true=false):b<l.length:=by
 by_cases hb:b<l.length
 ·exact hb
 ·rw[List.getD_eq_getElem?_getD,List.getElem?_eq_none (by omega)]at h;cases h

theorem getD_at {l:List Bool} {b:Nat} (h:b<l.length) (d:Bool):l.getD b d=l[b]:=by rw[List.getD_eq_getElem?_getD,List.getElem?_eq_getElem h];rfl


abbrev WSt:=List Bool×List Int

def wstepWith (f:Nat→WSt→WSt) (q:WSt) (k:Int):WSt:=if q.1.getD k.toNat true=true then q else f k.toNat q

def walkF (bs:List BlkR):Nat→Nat→WSt→WSt
 | 0,_,p=>p
 | n+1,b,p =>
  let r:=(succsAt bs b).foldl (wstepWith (walkF bs n)) (p.1.set b true,p.2)
  (r.1,r.2++[(b:Int)])

def walkTo (bs:List BlkR) (n:Nat) (xs:List Int) (q:WSt) (i:Nat):WSt:=(xs.take i).foldl (wstepWith (walkF bs n)) q

theorem walkTo_succ {bs:List BlkR} {n:Nat} {xs:List Int} {q:WSt} {i:Nat} (hi:i<xs.length):walkTo bs n xs q (i+1)=wstepWith (walkF bs n) (walkTo bs n xs q i) xs[i]:=by
 unfold walkTo
 rw[List.take_succ_eq_append_getElem hi,List.foldl_append];rfl

theorem walkTo_all (bs:List BlkR) (n:Nat) (xs:List Int) (q:WSt):walkTo bs n xs q xs.length=xs.foldl (wstepWith (walkF bs n)) q:=by
 unfold walkTo;rw[List.take_length]

structure WOk (p r:WSt):Prop where
 len:r.1.length=p.1.length
 mono:∀ j,p.1.getD j true=true→r.1.getD j true=true
 le:cf r.1≤cf p.1

theorem WOk.refl (p:WSt):WOk p p:=⟨rfl,fun _ h=>h,Nat.le_refl _⟩

theorem WOk.trans {p q r:WSt} (h:WOk p q) (k:WOk q r):WOk p r:=⟨k.len.trans h.len,fun j hj=>k.mono j (h.mono j hj),Nat.le_trans k.le h.le⟩

theorem fold_ok {f:Nat→WSt→WSt} (ih:∀ b p,WOk p (f b p)∧(p.1.getD b true=false→(f b p).2.length+cf (f b p).1=p.2.length+cf p.1)) :
  ∀ (ks:List Int) (q:WSt),WOk q (ks.foldl (wstepWith f) q)∧(ks.foldl (wstepWith f) q).2.length+cf (ks.foldl (wstepWith f) q).1=q.2.length+cf q.1:=by
 intro ks
 induction ks with
 | nil=>intro q;exact⟨WOk.refl _,rfl⟩
 | cons k r ihk =>
  intro q
  simp only[List.foldl_cons]
  have h1:WOk q (wstepWith f q k)∧(wstepWith f q k).2.length+cf (wstepWith f q k).1=q.2.length+cf q.1:=by
   unfold wstepWith
   split
   ·exact⟨WOk.refl _,rfl⟩
   ·rename_i hn
    obtain⟨a,b⟩:=ih k.toNat q
    exact⟨a,b (by simpa using hn)⟩
  obtain⟨a,b⟩:=ihk (wstepWith f q k)
  exact⟨h1.1.trans a,b.trans h1.2⟩

theorem getD_setT {l:List Bool} {i j:Nat} (h:l.getD j true=true):(l.set i true).getD j true=true:=by
 rw[Vm.getD_set];split
 ·rfl
 ·exact h

theorem walkF_ok (bs:List BlkR):∀ n b p,WOk p (walkF bs n b p)∧(p.1.getD b true=false→(walkF bs n b p).2.length+cf (walkF bs n b p).1≤p.2.length+cf p.1)∧(p.1.getD b true=false→(walkF bs n b p).2.length+cf (walkF bs n b p).1=p.2.length+cf p.1):=by
 intro n
 induction n with
 | zero=>intro b p;exact⟨WOk.refl _,fun _=>Nat.le_refl _,fun _=>rfl⟩
 | succ n ih =>
  intro b p
  obtain⟨h1,h2⟩:=fold_ok (f:=walkF bs n) (fun b p=>⟨(ih b p).1,(ih b p).2.2⟩) (succsAt bs b) (p.1.set b true,p.2)
  have h0:WOk p (p.1.set b true,p.2):=⟨by simp,fun j hj=>getD_setT hj,cf_set_le _ _⟩
  have h3:p.1.getD b true=false→(walkF bs (n+1) b p).2.length+cf (walkF bs (n+1) b p).1=p.2.length+cf p.1:=by
   intro hb
   have:=cf_set hb
   simp only[walkF,List.length_append,List.length_cons,List.length_nil]
   simp only at h2
   omega
  refine⟨⟨?_,?_,?_⟩,fun h=>Nat.le_of_eq (h3 h),h3⟩
  ·exact (h0.trans h1).len
  ·exact (h0.trans h1).mono
  ·exact (h0.trans h1).le

theorem wfold_ok (bs:List BlkR) (n:Nat) (ks:List Int) (q:WSt):WOk q (ks.foldl (wstepWith (walkF bs n)) q)∧(ks.foldl (wstepWith (walkF bs n)) q).2.length+cf (ks.foldl (wstepWith (walkF bs n)) q).1=q.2.length+cf q.1:=
 fold_ok (fun b p=>⟨(walkF_ok bs n b p).1,(walkF_ok bs n b p).2.2⟩) ks q


def OutR (X:Hp) (w:CV) (out:List Int):Prop:=(w=.ns∧out=[])∨∃ o g,w=.sl o g 0 out.length∧rdOb X o g=some ⟨out.map .i,g,true,1⟩

def IsOut (w:CV) (id:Nat):Prop:=∃ g n,w=.sl id g 0 n

theorem OutR.lt {X:Hp} {w:CV} {out:List Int} (h:OutR X w out) {id:Nat} (hi:IsOut w id):id<X.length:=by
 obtain⟨g,n,rfl⟩:=hi
 rcases h with⟨h,_⟩ | ⟨o,g',h,ho⟩
 ·cases h
 ·cases h;exact rdOb_lt ho

theorem OutR.keep {X Y:Hp} {w:CV} {out:List Int} (h:OutR X w out) (hk:∀ id g ob,IsOut w id→rdOb X id g=some ob→rdOb Y id g=some ob):OutR Y w out:=by
 rcases h with⟨rfl,rfl⟩ | ⟨o,g,rfl,ho⟩
 ·exact .inl ⟨rfl,rfl⟩
 ·exact .inr ⟨o,g,rfl,hk _ _ _ ⟨g,_,rfl⟩ ho⟩

theorem OutR.push {X:Hp} {w:CV} {out:List Int} (h:OutR X w out) (b:Int) (hl:out.length+1≤LIM) :
  ∃ w' X',doApp X 1 w 1 [.i b]=some (.c w',X')∧OutR X' w' (out++[b])∧X.length≤X'.length∧(∀ id g ob,¬ IsOut w id→rdOb X id g=some ob→rdOb X' id g=some ob)∧(∀ id,IsOut w' id→IsOut w id∨X.length≤id) ∧
   (∀ H0,Pre H0 X→(∀ id,IsOut w id→H0.length≤id)→Pre H0 X'):=by
 rcases h with⟨rfl,rfl⟩ | ⟨o,g,rfl,ho⟩
 ·refine⟨.sl X.length 0 0 1,X++[⟨[.i b],0,true,1⟩],by simp[doApp,LIM],.inr ⟨X.length,0,rfl,by simp⟩,by simp,fun id g ob _ h=>rdOb_app _ h,fun id hi=>?_,fun H0 hp _=>hp.app _⟩
  obtain⟨g,n,h⟩:=hi
  cases h;exact .inr (Nat.le_refl _)
 ·have hlt:=rdOb_lt ho
  refine⟨.sl o (g+1) 0 (out.length+1),X.set o ⟨out.map .i++[.i b],g+1,true,1⟩,app_own ho (by simp) (by simp) (by simpa using hl),.inr ⟨o,g+1,by simp,?_⟩,by simp,fun id g' ob hn h=>?_,fun id hi=>?_,fun H0 hp hh=>hp.set (hh o ⟨_,_,rfl⟩) _⟩
  ·rw[rdOb_set_self hlt];simp
  ·rw[rdOb_set_ne (fun e=>hn ⟨g,_,by rw[e]⟩)];exact h
  ·obtain⟨g',n,h⟩:=hi
   cases h;exact .inl ⟨_,_,rfl⟩

theorem gc_ne {H H':Hp} {r:IV} {id g:Nat} {o o':Ob} (h:rdOb H id g=some o) (h':rdOb H' id g=some o') (hne:o≠o'):gcRet H r H'=(r,H'):=by
 unfold gcRet
 rw[if_neg]
 intro he
 have hlt:=rdOb_lt h
 obtain⟨a,b⟩:=rdOb_some.1 h
 obtain⟨c,d⟩:=rdOb_some.1 h'
 rw[← he,List.getElem?_take,if_pos hlt,c]at a
 injection a with a
 exact hne a.symm

def InRange (bs:List BlkR):Prop:=∀ j,∀ k∈succsAt bs j,0≤k∧k<bs.length

theorem succs_range {n m:Int} {t:TrmR} (h:termB t n m=true):∀ k∈succsF t,0≤k∧k<n:=by
 intro k hk
 unfold termB at h
 unfold succsF at hk
 have hin:∀ {x:Int},inB x 0 (n - 1)=true→0≤x∧x<n:=fun h=>by have:=of_decide_eq_true h;omega
 by_cases h1:t.kind=1
 ·rw[if_pos h1]at h
  rw[if_pos (.inl h1)]at hk
  simp only[Bool.and_eq_true]at h
  simp at hk
  rw[hk];exact hin h.1.1
 ·rw[if_neg h1]at h
  by_cases h2:t.kind=2
  ·rw[if_pos h2]at h
   simp only[Bool.and_eq_true]at h
   by_cases h3:t.to=t.els
   ·rw[if_pos (.inr ⟨h2,h3⟩)]at hk
    simp at hk
    rw[hk];exact hin h.1.1
   ·rw[if_neg (by rintro (h | h);exact h1 h;exact h3 h.2),if_pos h2]at hk
    simp at hk
    rcases hk with rfl | rfl
    ·exact hin h.1.1
    ·exact hin h.1.2
  ·rw[if_neg (by rintro (h | h);exact h1 h;exact h2 h.1),if_neg h2]at hk
   cases hk

theorem shape_range {f:FnR} (h:shapeB f=true):InRange f.blocks:=by
 intro j k hk
 unfold succsAt at hk
 cases hj:f.blocks[j]? with
 | none=>rw[hj]at hk;cases hk
 | some b=>rw[hj]at hk;exact succs_range (shape_term h (List.mem_of_getElem? hj)) k hk

theorem RowRes.len {X2:Hp} {sv:CV} {L:Hp} {xs:List Int} (h:RowRes X2 sv L xs):lenOf sv=some xs.length:=by
 rcases h with⟨rfl,rfl,rfl⟩ | ⟨rfl,rfl⟩<;>rfl

theorem succsAt_le (bs:List BlkR) (b:Nat):(succsAt bs b).length≤BIG:=by
 unfold succsAt
 split
 ·have:=succsF_le (by assumption:BlkR).term
  simp only[BIG];omega
 ·simp[BIG]

theorem RowRes.isI' {X2 Y:Hp} {sv:CV} {L:Hp} {xs:List Int} (h:RowRes X2 sv L xs) (hk:∀ g ob,rdOb (X2++L) X2.length g=some ob→rdOb Y X2.length g=some ob):IsI Y sv xs:=by
 rcases h with⟨rfl,rfl,rfl⟩ | ⟨rfl,rfl⟩
 ·exact IsI.ns _
 ·exact IsI.mk (hk 0 ⟨xs.map .i,0,true,1⟩ (by simp)) rfl (by simp) (by rw[List.drop_zero,List.take_of_length_le (by simp)])

structure WInv (H0 X3:Hp) (s gs:Nat) (w0:CV) (p:WSt) (w:CV) (Y:Hp):Prop where
 pre:Pre H0 Y
 len:X3.length≤Y.length
 seen:rdOb Y s gs=some ⟨p.1.map .b,gs,true,1⟩
 out:OutR Y w p.2
 keep:∀ id g ob,id≠s→¬ IsOut w0 id→rdOb X3 id g=some ob→rdOb Y id g=some ob
 own:∀ id,IsOut w id→IsOut w0 id∨X3.length≤id

def WRes (H0 X:Hp) (s gs:Nat) (w:CV) (p:WSt) (r:IV×Hp):Prop:=∃ w' X',r=(.c w',X')∧WInv H0 X s gs w p w' X'

theorem WInv.app {H0 X3 Y:Hp} {s gs:Nat} {w0 w:CV} {p:WSt} (h:WInv H0 X3 s gs w0 p w Y) (B:Hp):WInv H0 X3 s gs w0 p w (Y++B):=
 ⟨h.pre.app _,by have:=h.len;simp only[List.length_append];omega,rdOb_app _ h.seen,h.out.keep fun _ _ _ _ k=>rdOb_app _ k,fun id g ob a b c=>rdOb_app _ (h.keep id g ob a b c),h.own⟩

theorem WInv.trans {H0 X3 Y Y':Hp} {s gs:Nat} {w0 w w':CV} {p p':WSt} (hs:s<X3.length) (h:WInv H0 X3 s gs w0 p w Y) (k:WInv H0 Y s gs w p' w' Y'):WInv H0 X3 s gs w0 p' w' Y':=by
 refine⟨k.pre,Nat.le_trans h.len k.len,k.seen,k.out,fun id g ob h1 h2 h3=>k.keep id g ob h1 (fun hi=>?_) (h.keep id g ob h1 h2 h3),fun id hi=>?_⟩
 ·have:=rdOb_lt h3
  rcases h.own id hi with h | h
  ·exact h2 h
  ·omega
 ·rcases k.own id hi with h1 | h1
  ·exact h.own id h1
  ·have:=h.len
   exact .inr (by omega)

theorem WInv.res {H0 X X2 L Y:Hp} {s gs:Nat} {w0 w:CV} {b:Nat} {n:Nat} {bs:List BlkR} {seen:List Bool} {out:List Int}
  (hf2:∀ id g ob,id≠s→rdOb X id g=some ob→rdOb X2 id g=some ob) (hX2l:X2.length=X.length+1) (hs:H0.length≤s) (hw:∀ id,IsOut w0 id→H0.length≤id∧id≠s) (hX:Pre H0 X)
  (hseen:rdOb X s gs=some ⟨seen.map .b,gs,true,1⟩) (hbs:seen.getD b true=false) (h:WInv H0 (X2++L) s gs w0 (walkTo bs n (succsAt bs b) (seen.set b true,out) (succsAt bs b).length) w Y)
  (hlim:out.length+cf seen≤BIG) :
  ∃ w' Y',doApp Y 1 w 1 [.i b]=some (.c w',Y')∧gcRet X (.c w') Y'=(.c w',Y')∧WInv H0 X s gs w0 (walkF bs (n+1) b (seen,out)) w' Y':=by
 have hq:walkF bs (n+1) b (seen,out)=((walkTo bs n (succsAt bs b) (seen.set b true,out) (succsAt bs b).length).1,(walkTo bs n (succsAt bs b) (seen.set b true,out) (succsAt bs b).length).2++[(b:Int)]):=by
  rw[walkTo_all];rfl
 obtain⟨hok,hsum⟩:=wfold_ok bs n (succsAt bs b) (seen.set b true,out)
 rw[← walkTo_all]at hok hsum
 have hcs:=cf_set hbs
 have hbl:=unseen_lt hbs
 simp only at hsum
 generalize walkTo bs n (succsAt bs b) (seen.set b true,out) (succsAt bs b).length=R at *
 have hsl:=rdOb_lt hseen
 have hnew:R.1.getD b true=true:=hok.mono b (by rw[Vm.getD_set];simp[hbl])
 have hlen:=h.len
 have hsy:¬ IsOut w s:=by
  intro hi
  rcases h.own s hi with h1 | h1
  ·exact (hw s h1).2 rfl
  ·simp only[List.length_append]at h1;omega
 obtain⟨w',Y',h1,h2,h3,h4,h5,h6⟩:=h.out.push (b:Int) (by simp only[BIG]at hlim;simp only[LIM];omega)
 have hp0:=hX.le
 have hown:∀ id,IsOut w' id→IsOut w0 id∨X.length≤id:=by
  intro id hi
  rcases h5 id hi with h7 | h7
  ·rcases h.own id h7 with h8 | h8
   ·exact .inl h8
   ·simp only[List.length_append]at h8;exact .inr (by omega)
  ·simp only[List.length_append]at hlen;exact .inr (by omega)
 refine⟨w',Y',h1,gc_ne hseen (h4 _ _ _ hsy h.seen) ?_,?_⟩
 ·intro e
  have e1:seen.map CV.b=R.1.map CV.b:=congrArg Ob.cells e
  have e2:seen=R.1:=by
   have:=congrArg (List.map fun | CV.b x=>x | _=>true) e1
   simpa [List.map_map,Function.comp_def] using this
  rw[← e2,hbs]at hnew;cases hnew
 ·rw[hq]
  refine⟨h6 H0 h.pre fun id hi=>?_,?_,h4 _ _ _ hsy h.seen,h2,fun id g ob e1 e2 e3=>h4 _ _ _ (fun hi=>?_) (h.keep id g ob e1 e2 (rdOb_app _ (hf2 id g ob e1 e3))),hown⟩
  ·rcases h.own id hi with h8 | h8
   ·exact (hw id h8).1
   ·simp only[List.length_append]at h8;omega
  ·simp only[List.length_append]at hlen;omega
  ·have:=rdOb_lt e3
   rcases h.own id hi with h8 | h8
   ·exact e2 h8
   ·simp only[List.length_append]at h8;omega

theorem implWalk {H0:Hp} {v:CV} {bs:List BlkR} {m:Int} (hv:Blocks H0 v bs) (hin:InRange bs) (hb:bs.length≤BIG):∀ (n:Nat) {X:Hp} {s gs b:Nat} {w:CV} {seen:List Bool} {out:List Int},Pre H0 X→H0.length≤s→(∀ id,IsOut w id→H0.length≤id∧id≠s) →
  rdOb X s gs=some ⟨seen.map .b,gs,true,1⟩→seen.length=bs.length→OutR X w out→b<bs.length→seen.getD b true=false→cf seen≤n→out.length+cf seen≤BIG →
  CM 115 [.agg [v,.i m],.c (.i b),.c (.sl s gs 0 bs.length),.c w] X (WRes H0 X s gs w (walkF bs n b (seen,out))):=by
 intro n
 induction n with
 | zero =>
  intro X s gs b w seen out _ _ _ _ _ _ _ hbs hc _
  have:=cf_set hbs
  omega
 | succ n ih =>
  intro X s gs b w seen out hp hs hw hseen hslen hout hbl hbs hc hlim
  have hsl:=rdOb_lt hseen
  have hcs:=cf_set hbs
  have hX1:rdOb (X++[⟨[v,.i m],0,true,2⟩]) s gs=some ⟨seen.map .b,gs,true,1⟩:=rdOb_app _ hseen
  obtain⟨X2,hX2⟩:∃ X2,X.set s ⟨(seen.set b true).map .b,gs,true,1⟩++[(⟨[v,.i m],0,true,2⟩:Ob)]=X2:=⟨_,rfl⟩
  have hX2l:X2.length=X.length+1:=by rw[← hX2];simp
  have hp2:Pre H0 X2:=by rw[← hX2];exact (hp.set hs _).app _
  have hf2:∀ id g ob,id≠s→rdOb X id g=some ob→rdOb X2 id g=some ob:=by
   intro id g ob hne ho
   rw[← hX2];exact rdOb_app _ (by rw[rdOb_set_ne hne];exact ho)
  have hs2:rdOb X2 s gs=some ⟨(seen.set b true).map .b,gs,true,1⟩:=by
   rw[← hX2];exact rdOb_app _ (by rw[rdOb_set_self hsl];simp)
  have hbox2:rdOb X2 X.length 0=some ⟨[v,.i m],0,true,2⟩:=by
   rw[← hX2];have:=rdOb_r (X.set s ⟨(seen.set b true).map .b,gs,true,1⟩) [⟨[v,.i m],0,true,2⟩] 0 0;simpa using this
  obtain⟨sv,L,hrow,hcall⟩:=implSuccs (m:=m) (hv.pre hp2) hbl
  rw[← succsAt_eq hbl]at hrow
  have hin0:=hin b
  have hl0:=hrow.len
  generalize hxs:succsAt bs b=xs at hrow hin0 hl0
  have hX3:WInv H0 (X2++L) s gs w (walkTo bs n xs (seen.set b true,out) 0) w (X2++L):=by
   refine⟨hp2.app _,Nat.le_refl _,rdOb_app _ hs2,?_,fun _ _ _ _ _ h=>h,fun _ h=>.inl h⟩
   exact hout.keep fun id g ob hi h=>rdOb_app _ (hf2 id g ob (hw id hi).2 h)
  refine cw115 ?_
  unfold vf115c
  simp[hX1,hbl,hslen,bool_put (show b<seen.length by omega),List.set_append,hsl,show b+1≤bs.length from hbl,← List.map_set,hX2,rdN_ob hbox2,hcall,hl0]
  obtain⟨I,hI⟩:∃ I:Nat→St→Prop,∀ i st,I i st↔(∃ w',WInv H0 (X2++L) s gs w (walkTo bs n xs (seen.set b true,out) i) w' st.h∧Env.get st.e 1=.c (.i b)∧Env.get st.e 2=.c (.sl s gs 0 bs.length)∧Env.get st.e 3=.c w'∧Env.get st.e 4=.c (.p X.length 0 0) ∧
   Env.get st.e 16=.c sv∧Env.get st.e 17=.c (.i xs.length)∧Env.get st.e 18=.c (.i i)):=⟨_,fun _ _=>Iff.rfl⟩
  have hsz:=succsAt_le bs b
  rw[hxs]at hsz
  refine wp_for CM_mono xs.length I ((hI _ _).2 ⟨w,hX3,by simp⟩) ?_ ?_
  ·rintro i ⟨e,Y⟩ hi hIs
   obtain⟨w',hW,h1,h2,h3,h4,h16,h17,h18⟩:=(hI _ _).1 hIs
   simp only at hW h1 h2 h3 h4 h16 h17 h18 ⊢
   have hsv:IsI Y sv xs:=hrow.isI' fun g ob h=>hW.keep _ g ob (by omega) (fun hi=>by have:=hout.lt hi;omega) h
   have hbox:rdOb Y X.length 0=some ⟨[v,.i m],0,true,2⟩:=hW.keep _ _ _ (by omega) (fun hi=>by have:=hout.lt hi;omega) (rdOb_app _ hbox2)
   obtain⟨id,g,off,q1,q2⟩:=hsv.at_ hi
   obtain⟨hk0,hk1⟩:=hin0 xs[i] (List.getElem_mem hi)
   obtain⟨hok,hsum⟩:=wfold_ok bs n (xs.take i) (seen.set b true,out)
   have hsu:=walkTo_succ (bs:=bs) (n:=n) (q:=(seen.set b true,out)) hi
   change WOk _ (walkTo bs n xs (seen.set b true,out) i) at hok
   change (walkTo bs n xs (seen.set b true,out) i).2.length+cf (walkTo bs n xs (seen.set b true,out) i).1=_ at hsum
   have hok1:=hok.len
   have hok2:=hok.le
   obtain⟨kk,hkk⟩:∃ kk:Nat,xs[i]=(kk:Int):=⟨xs[i].toNat,by omega⟩
   rw[hkk]at hk0 hk1 hsu
   have hkl:kk<bs.length:=by omega
   generalize walkTo bs n xs (seen.set b true,out) i=R at *
   obtain⟨sn,ou⟩:=R
   simp only[List.length_set]at hok1 hok2 hsum
   have hlt:kk<sn.length:=by omega
   have hseenY:=hW.seen
   simp only at hseenY
   have hgd:sn.getD kk true=sn[kk]:=getD_at hlt true
   unfold wstepWith at hsu
   simp only[Int.toNat_natCast,hgd]at hsu
   unfold vf115b0
   cases hc1:sn[kk] with
   | true =>
    rw[hc1,if_pos rfl]at hsu
    simp[h1,h2,h3,h4,h16,h17,h18,q1,q2,hi,hkk,hkl,rdC_ob hseenY,hlt,hc1,up1 hi hsz]
    exact (hI _ _).2 ⟨w',by rw[hsu];exact hW,by simp[h1,h2,h3,h4,h16,h17,h18]⟩
   | false =>
    rw[hc1,if_neg (by simp)]at hsu
    simp[h1,h2,h3,h4,h16,h17,h18,q1,q2,hi,hkk,hkl,rdC_ob hseenY,hlt,hc1,up1 hi hsz,rdN_ob hbox]
    have hsX:s<(X2++L).length:=by simp only[List.length_append];omega
    refine (ih hW.pre hs (fun id hi'=>?_) hseenY (by omega) hW.out hkl (by rw[hgd];exact hc1) (by omega) (show ou.length+cf sn≤BIG by omega)).mono ?_
    ·rcases hW.own id hi' with h | h
     ·exact hw id h
     ·have:=hp2.le
      simp only[List.length_append]at h
      exact⟨by omega,by omega⟩
    ·rintro _ ⟨w2,Y2,rfl,hW2⟩
     simp[h1,h2,h3,h4,h16,h17,h18,up1 hi hsz]
     exact (hI _ _).2 ⟨w2,by rw[hsu];exact hW.trans hsX hW2,by simp⟩
  ·rintro⟨e,Y⟩ hIs
   obtain⟨w',hW,h1,h2,h3,h4,h16,h17,h18⟩:=(hI _ _).1 hIs
   simp only at hW h1 h2 h3 h4 h16 h17 h18 ⊢
   rw[← hxs]at hW
   obtain⟨w2,Y2,r1,r2,r3⟩:=(hW.app [⟨[.i b],0,true,1⟩]).res hf2 hX2l hs hw hp hseen hbs hlim
   unfold vf115b0
   simp[h1,h2,h3,h4,h16,h17,h18,srcOf,putAt,r1,r2]
   exact⟨w2,Y2,rfl,r3⟩

theorem specWalk {H0:Hp} {v:CV} {bs:List BlkR} {m:Int} (hv:Blocks H0 v bs) (hin:InRange bs) (hb:bs.length≤BIG):∀ (n:Nat) {X:Hp} {s gs b:Nat} {w:CV} {seen:List Bool} {out:List Int},Pre H0 X→H0.length≤s→(∀ id,IsOut w id→H0.length≤id∧id≠s) →
  rdOb X s gs=some ⟨seen.map .b,gs,true,1⟩→seen.length=bs.length→OutR X w out→b<bs.length→seen.getD b true=false→cf seen≤n→out.length+cf seen≤BIG →
  CM 95 [.agg [v,.i m],.c (.i b),.c (.sl s gs 0 bs.length),.c w] X (WRes H0 X s gs w (walkF bs n b (seen,out))):=by
 intro n
 induction n with
 | zero =>
  intro X s gs b w seen out _ _ _ _ _ _ _ hbs hc _
  have:=cf_set hbs
  omega
 | succ n ih =>
  intro X s gs b w seen out hp hs hw hseen hslen hout hbl hbs hc hlim
  have hsl:=rdOb_lt hseen
  have hcs:=cf_set hbs
  have hX1:rdOb (X++[⟨[v,.i m],0,true,2⟩]) s gs=some ⟨seen.map .b,gs,true,1⟩:=rdOb_app _ hseen
  obtain⟨X2,hX2⟩:∃ X2,X.set s ⟨(seen.set b true).map .b,gs,true,1⟩++[(⟨[v,.i m],0,true,2⟩:Ob)]=X2:=⟨_,rfl⟩
  have hX2l:X2.length=X.length+1:=by rw[← hX2];simp
  have hp2:Pre H0 X2:=by rw[← hX2];exact (hp.set hs _).app _
  have hf2:∀ id g ob,id≠s→rdOb X id g=some ob→rdOb X2 id g=some ob:=by
   intro id g ob hne ho
   rw[← hX2];exact rdOb_app _ (by rw[rdOb_set_ne hne];exact ho)
  have hs2:rdOb X2 s gs=some ⟨(seen.set b true).map .b,gs,true,1⟩:=by
   rw[← hX2];exact rdOb_app _ (by rw[rdOb_set_self hsl];simp)
  have hbox2:rdOb X2 X.length 0=some ⟨[v,.i m],0,true,2⟩:=by
   rw[← hX2];have:=rdOb_r (X.set s ⟨(seen.set b true).map .b,gs,true,1⟩) [⟨[v,.i m],0,true,2⟩] 0 0;simpa using this
  obtain⟨sv,L,hrow,hcall⟩:=specSuccs (m:=m) (hv.pre hp2) hbl
  rw[← succsAt_eq hbl]at hrow
  have hin0:=hin b
  have hl0:=hrow.len
  generalize hxs:succsAt bs b=xs at hrow hin0 hl0
  have hX3:WInv H0 (X2++L) s gs w (walkTo bs n xs (seen.set b true,out) 0) w (X2++L):=by
   refine⟨hp2.app _,Nat.le_refl _,rdOb_app _ hs2,?_,fun _ _ _ _ _ h=>h,fun _ h=>.inl h⟩
   exact hout.keep fun id g ob hi h=>rdOb_app _ (hf2 id g ob (hw id hi).2 h)
  refine cw95 ?_
  unfold vf95c
  simp[hX1,hbl,hslen,bool_put (show b<seen.length by omega),List.set_append,hsl,show b+1≤bs.length from hbl,← List.map_set,hX2,rdN_ob hbox2,hcall,hl0]
  obtain⟨I,hI⟩:∃ I:Nat→St→Prop,∀ i st,I i st↔(∃ w',WInv H0 (X2++L) s gs w (walkTo bs n xs (seen.set b true,out) i) w' st.h∧Env.get st.e 1=.c (.i b)∧Env.get st.e 2=.c (.sl s gs 0 bs.length)∧Env.get st.e 3=.c w'∧Env.get st.e 4=.c (.p X.length 0 0) ∧
   Env.get st.e 9=.c sv∧Env.get st.e 10=.c (.i i)):=⟨_,fun _ _=>Iff.rfl⟩
  have hsz:=succsAt_le bs b
  rw[hxs]at hsz
  refine wp_for CM_mono xs.length I ((hI _ _).2 ⟨w,hX3,by simp⟩) ?_ ?_
  ·rintro i ⟨e,Y⟩ hi hIs
   obtain⟨w',hW,h1,h2,h3,h4,h9,h10⟩:=(hI _ _).1 hIs
   simp only at hW h1 h2 h3 h4 h9 h10 ⊢
   have hsv:IsI Y sv xs:=hrow.isI' fun g ob h=>hW.keep _ g ob (by omega) (fun hi=>by have:=hout.lt hi;omega) h
   have hbox:rdOb Y X.length 0=some ⟨[v,.i m],0,true,2⟩:=hW.keep _ _ _ (by omega) (fun hi=>by have:=hout.lt hi;omega) (rdOb_app _ hbox2)
   obtain⟨id,g,off,q1,q2⟩:=hsv.at_ hi
   obtain⟨hk0,hk1⟩:=hin0 xs[i] (List.getElem_mem hi)
   obtain⟨hok,hsum⟩:=wfold_ok bs n (xs.take i) (seen.set b true,out)
   have hsu:=walkTo_succ (bs:=bs) (n:=n) (q:=(seen.set b true,out)) hi
   change WOk _ (walkTo bs n xs (seen.set b true,out) i) at hok
   change (walkTo bs n xs (seen.set b true,out) i).2.length+cf (walkTo bs n xs (seen.set b true,out) i).1=_ at hsum
   have hok1:=hok.len
   have hok2:=hok.le
   obtain⟨kk,hkk⟩:∃ kk:Nat,xs[i]=(kk:Int):=⟨xs[i].toNat,by omega⟩
   rw[hkk]at hk0 hk1 hsu
   have hkl:kk<bs.length:=by omega
   generalize walkTo bs n xs (seen.set b true,out) i=R at *
   obtain⟨sn,ou⟩:=R
   simp only[List.length_set]at hok1 hok2 hsum
   have hlt:kk<sn.length:=by omega
   have hseenY:=hW.seen
   simp only at hseenY
   have hgd:sn.getD kk true=sn[kk]:=getD_at hlt true
   unfold wstepWith at hsu
   simp only[Int.toNat_natCast,hgd]at hsu
   unfold vf95b0
   cases hc1:sn[kk] with
   | true =>
    rw[hc1,if_pos rfl]at hsu
    simp[h1,h2,h3,h4,h9,h10,q1,q2,hi,hsv.lenOf,hkk,hkl,rdC_ob hseenY,hlt,hc1,up1 hi hsz]
    exact (hI _ _).2 ⟨w',by rw[hsu];exact hW,by simp[h1,h2,h3,h4,h9,h10]⟩
   | false =>
    rw[hc1,if_neg (by simp)]at hsu
    simp[h1,h2,h3,h4,h9,h10,q1,q2,hi,hsv.lenOf,hkk,hkl,rdC_ob hseenY,hlt,hc1,up1 hi hsz,rdN_ob hbox]
    have hsX:s<(X2++L).length:=by simp only[List.length_append];omega
    refine (ih hW.pre hs (fun id hi'=>?_) hseenY (by omega) hW.out hkl (by rw[hgd];exact hc1) (by omega) (show ou.length+cf sn≤BIG by omega)).mono ?_
    ·rcases hW.own id hi' with h | h
     ·exact hw id h
     ·have:=hp2.le
      simp only[List.length_append]at h
      exact⟨by omega,by omega⟩
    ·rintro _ ⟨w2,Y2,rfl,hW2⟩
     simp[h1,h2,h3,h4,h9,h10,up1 hi hsz]
     exact (hI _ _).2 ⟨w2,by rw[hsu];exact hW.trans hsX hW2,by simp⟩
  ·rintro⟨e,Y⟩ hIs
   obtain⟨w',hW,h1,h2,h3,h4,h9,h10⟩:=(hI _ _).1 hIs
   simp only at hW h1 h2 h3 h4 h9 h10 ⊢
   rw[← hxs]at hW
   have hsv:IsI Y sv xs:=hrow.isI' fun g ob h=>hW.keep _ g ob (by omega) (fun hi=>by have:=hout.lt hi;omega) h
   rw[hxs]at hW
   have hlen:=hsv.lenOf
   rw[← hxs]at hW
   obtain⟨w2,Y2,r1,r2,r3⟩:=(hW.app [⟨[.i b],0,true,1⟩]).res hf2 hX2l hs hw hp hseen hbs hlim
   unfold vf95b0
   simp[h1,h2,h3,h4,h9,h10,hlen,srcOf,putAt,r1,r2]
   exact⟨w2,Y2,rfl,r3⟩
def revTo (xs:List Int) (i:Nat):List Int:=(List.range xs.length).map fun k=>if k<i∨xs.length≤k+i then xs.getD (xs.length - 1 - k) 0 else xs.getD k 0

@[simp] theorem revTo_len (xs:List Int) (i:Nat):(revTo xs i).length=xs.length:=by simp[revTo]

theorem revTo_get {xs:List Int} {i k:Nat} (h:k<(revTo xs i).length):(revTo xs i)[k]=if k<i∨xs.length≤k+i then xs.getD (xs.length - 1 - k) 0 else xs.getD k 0:=by simp[revTo]

theorem revTo_zero (xs:List Int):revTo xs 0=xs:=by
 apply List.ext_getElem (by simp)
 intro k h1 h2
 rw[revTo_get,if_neg (by omega),List.getD_eq_getElem?_getD,List.getElem?_eq_getElem h2];rfl

theorem revTo_all (xs:List Int):revTo xs (xs.length / 2)=xs.reverse:=by
 apply List.ext_getElem (by simp)
 intro k h1 h2
 have hk:k<xs.length:=by simpa using h2
 rw[revTo_get,List.getElem_reverse]
 by_cases h:k<xs.length / 2∨xs.length≤k+xs.length / 2
 ·rw[if_pos h,List.getD_eq_getElem?_getD,List.getElem?_eq_getElem (by omega)];rfl
 ·rw[if_neg h,List.getD_eq_getElem?_getD,List.getElem?_eq_getElem hk]
  have e:xs.length - 1 - k=k:=by omega
  simp[e]

theorem revTo_succ {xs:List Int} {i:Nat} (hi:i<xs.length / 2) :
  ((revTo xs i).set i ((revTo xs i).getD (xs.length - 1 - i) 0)).set (xs.length - 1 - i) ((revTo xs i).getD i 0)=revTo xs (i+1):=by
 apply List.ext_getElem (by simp)
 intro k h1 h2
 have hk:k<xs.length:=by simpa using h2
 have e1:(revTo xs i).getD i 0=xs.getD i 0:=by
  rw[List.getD_eq_getElem?_getD,List.getElem?_eq_getElem (by simp;omega),Option.getD_some,revTo_get,if_neg (by omega)]
 have e2:(revTo xs i).getD (xs.length - 1 - i) 0=xs.getD (xs.length - 1 - i) 0:=by
  rw[List.getD_eq_getElem?_getD,List.getElem?_eq_getElem (by simp;omega),Option.getD_some,revTo_get,if_neg (by omega)]
 simp only[e1,e2]
 rw[List.getElem_set,List.getElem_set,revTo_get,revTo_get]
 by_cases h3:xs.length - 1 - i=k
 ·rw[if_pos h3,if_pos (by omega)]
  congr 1;omega
 ·rw[if_neg h3]
  by_cases h4:i=k
  ·rw[if_pos h4,if_pos (by omega),h4]
  ·rw[if_neg h4]
   by_cases h5:k<i∨xs.length≤k+i
   ·rw[if_pos h5,if_pos (by omega)]
   ·rw[if_neg h5,if_neg (by omega)]

theorem revTo_succ' {xs:List Int} {i j:Nat} (hi:i<xs.length / 2) (hj:j=xs.length - 1 - i) (h1:i<(revTo xs i).length) (h2:j<(revTo xs i).length) :
  ((revTo xs i).set i (revTo xs i)[j]).set j (revTo xs i)[i]=revTo xs (i+1):=by
 subst hj
 rw[← revTo_succ hi]
 congr 1
 ·congr 1
  rw[List.getD_eq_getElem?_getD,List.getElem?_eq_getElem h2];rfl
 ·rw[List.getD_eq_getElem?_getD,List.getElem?_eq_getElem h1];rfl

theorem reverse_call {X:Hp} {id g:Nat} {xs:List Int} (h:rdOb X id g=some ⟨xs.map .i,g,true,1⟩) (hb:xs.length≤BIG) (k:IV×Hp→Prop) :
  CM 116 [.c (.sl id g 0 xs.length)] X k=k (.tup [],X.set id ⟨xs.reverse.map .i,g,true,1⟩):=by
 refine det (cw116 ?_) k
 unfold vf116c
 have hlt:=rdOb_lt h
 have hw:-9223372036854775807≤(xs.length:Int)∧(xs.length:Int)≤9223372036854775807:=bigI hb
 simp[wn1 hw]
 obtain⟨I,hI⟩:∃ I:Nat→St→Prop,∀ i s,I i s↔(s.h=X.set id ⟨(revTo xs i).map .i,g,true,1⟩∧Env.get s.e 0=.c (.sl id g 0 xs.length)∧Env.get s.e 2=.c (.i i)∧Env.get s.e 3=.c (.i ((xs.length:Int) - 1 - i))):=⟨_,fun _ _=>Iff.rfl⟩
 refine wp_for CM_mono (xs.length / 2) I ((hI _ _).2 ⟨?_,by simp⟩) ?_ ?_
 ·have:=(rdOb_some.1 h).1
  rw[List.getElem?_eq_getElem hlt]at this
  injection this with this
  rw[revTo_zero,← this];simp
 ·rintro i ⟨e,Y⟩ hi hIs
  obtain⟨hY,h0,h2,h3⟩:=(hI _ _).1 hIs
  simp only at hY h0 h2 h3 ⊢
  have ho:rdOb Y id g=some ⟨(revTo xs i).map .i,g,true,1⟩:=by rw[hY,rdOb_set_self hlt];simp
  have hlY:id<Y.length:=rdOb_lt ho
  obtain⟨j,hj,hj2⟩:∃ j:Nat,(xs.length:Int) - 1 - i=j∧j=xs.length - 1 - i:=⟨xs.length - 1 - i,by omega,rfl⟩
  rw[hj]at h3
  have hij:i<j:=by omega
  have hjn:j<xs.length:=by omega
  have hin:i<xs.length:=by omega
  have hwj:-9223372036854775807≤(j:Int)∧(j:Int)≤9223372036854775807:=by simp only[BIG]at hb;omega
  unfold vf116b0
  have hs:=revTo_succ' hi hj2 (by simpa using hin) (by simpa using hjn)
  simp[h0,h2,h3,hij,idxOf,hin,hjn,rdC_ob ho,ho,up1 hin hb,wn1 hwj,putAt_get,hlY,show i+1≤xs.length from hin,show j+1≤xs.length from hjn,rdOb_set_self hlY]
  refine (hI _ _).2 ⟨?_,by simp[h0];omega⟩
  have hs2:=congrArg (List.map CV.i) hs
  simp at hs2
  simp[hs2,hY]
 ·rintro⟨e,Y⟩ hIs
  obtain⟨hY,h0,h2,h3⟩:=(hI _ _).1 hIs
  simp only at hY h0 h2 h3 ⊢
  unfold vf116b0
  simp[h0,h2,h3,show ¬ ((xs.length:Int) / 2<(xs.length:Int) - 1 - (xs.length:Int) / 2) by omega]
  rw[gc_nolen (by rw[hY];simp) rfl,hY,revTo_all,List.map_reverse]


def walk0 (bs:List BlkR):WSt:=walkF bs bs.length 0 (List.replicate bs.length false,[])

def ordF (bs:List BlkR):List Int:=(walk0 bs).2.reverse

def seenF (bs:List BlkR):List Bool:=(walk0 bs).1

theorem falses_flat (n:Nat):(List.replicate n [CV.b false]).flatten=(List.replicate n false).map .b:=by
 induction n with
 | zero=>rfl
 | succ n ih=>simp[List.replicate_succ,ih]

theorem cf_falses (n:Nat):cf (List.replicate n false)=n:=by simp[cf]

theorem getD_falses {n:Nat} (h:0<n):(List.replicate n false).getD 0 true=false:=by
 rw[List.getD_eq_getElem?_getD,List.getElem?_eq_getElem (by simpa using h)];simp

theorem walk0_ok {bs:List BlkR} (h:0<bs.length):(walk0 bs).1.length=bs.length∧(walk0 bs).2.length+cf (walk0 bs).1=bs.length∧0<(walk0 bs).2.length:=by
 obtain⟨h1,_,h2⟩:=walkF_ok bs bs.length 0 (List.replicate bs.length false,[])
 have h3:=h2 (getD_falses h)
 simp only[cf_falses,List.length_nil,Nat.zero_add]at h3
 refine⟨by rw[walk0,h1.len];simp,h3,?_⟩
 unfold walk0
 obtain⟨n,hn⟩:∃ n,bs.length=n+1:=⟨bs.length - 1,by omega⟩
 rw[hn];simp[walkF]

theorem shape_pos {f:FnR} (h:shapeB f=true):0<f.blocks.length:=by
 unfold shapeB inB at h
 simp only[Bool.and_eq_true,decide_eq_true_eq]at h
 omega

def OrdRes (H:Hp) (bs:List BlkR) (r:IV×Hp):Prop:=∃ o g s gs X',r=(.tup [(false,[.sl o g 0 (ordF bs).length]),(false,[.sl s gs 0 bs.length])],X')∧Pre H X'∧H.length≤o∧H.length≤s ∧
 rdOb X' o g=some ⟨(ordF bs).map .i,g,true,1⟩∧rdOb X' s gs=some ⟨(seenF bs).map .b,gs,true,1⟩

theorem implOrder {H:Hp} {v:CV} {bs:List BlkR} {m:Int} (hv:Blocks H v bs) (hin:InRange bs) (hb:bs.length≤BIG) (h0:0<bs.length):CM 55 [.agg [v,.i m]] H (OrdRes H bs):=by
 refine cw55 ?_
 unfold vf55c
 obtain⟨X1,hX1⟩:∃ X1,H++[(⟨[v,.i m],0,true,2⟩:Ob),⟨List.replicate bs.length (.b false),0,true,1⟩]=X1:=⟨_,rfl⟩
 have hl1:X1.length=H.length+2:=by rw[← hX1];simp
 have hp1:Pre H X1:=⟨_,hX1.symm⟩
 have hb1:rdOb X1 H.length 0=some ⟨[v,.i m],0,true,2⟩:=by rw[← hX1];simp
 have hs1:rdOb X1 (H.length+1) 0=some ⟨(List.replicate bs.length false).map .b,0,true,1⟩:=by rw[← hX1];simp
 have hlim:bs.length≤LIM:=by simp only[BIG]at hb;simp only[LIM];omega
 simp[(hv.app _).lenOf,hv.lenOf,hlim,falses_flat,hX1,rdN_ob hb1]
 have hw:∀ id,IsOut CV.ns id→H.length≤id∧id≠H.length+1:=fun id ⟨_,_,h⟩=>by cases h
 have hwalk:=implWalk (m:=m) hv hin hb bs.length (X:=X1) (s:=H.length+1) (gs:=0) (b:=0) (w:=.ns) (seen:=List.replicate bs.length false) (out:=[]) hp1 (by omega) hw hs1 (by simp) (.inl ⟨rfl,rfl⟩) h0 (getD_falses h0) (by rw[cf_falses];exact Nat.le_refl _) (by rw[cf_falses];simpa using hb)
 refine CM.mono hwalk ?_
 rintro _ ⟨w',X2,rfl,hW⟩
 obtain⟨k1,k2,k3⟩:=walk0_ok h0
 have hseen:=hW.seen
 have hout:=hW.out
 have hown:=hW.own
 change rdOb X2 (H.length+1) 0=some ⟨(seenF bs).map .b,0,true,1⟩ at hseen
 change OutR X2 w' (walk0 bs).2 at hout
 rcases hout with⟨_,h⟩ | ⟨o,g,rfl,ho⟩
 ·rw[h]at k3;exact absurd k3 (by simp)
 ·have hoo:X1.length≤o:=by
   rcases hown o ⟨g,_,rfl⟩ with⟨_,_,h⟩ | h
   ·cases h
   ·exact h
  have hol:(walk0 bs).2.length=(ordF bs).length:=by unfold ordF;rw[List.length_reverse]
  have hrev:=fun k=>reverse_call ho (by omega) k
  simp only[hol]at hrev
  simp[hrev,hol]
  have hlt:=rdOb_lt ho
  refine⟨o,g,H.length+1,0,X2.set o ⟨(ordF bs).map .i,g,true,1⟩,?_,hW.pre.set (by omega) _,by omega,by omega,by rw[rdOb_set_self hlt];simp,by rw[rdOb_set_ne (by omega)];exact hseen⟩
  unfold gcRet
  split
  ·rw[if_neg (by simp[flatV,flatC])]
   simp[ordF]
  ·simp[ordF]
theorem specOrderL {H:Hp} {v:CV} {bs:List BlkR} {m:Int} (hv:Blocks H v bs) (hin:InRange bs) (hb:bs.length≤BIG) (h0:0<bs.length) (k:IV×Hp→Prop) :
  CM 47 [.agg [v,.i m]] H k=k (.c (.sl H.length 0 0 (ordF bs).length),H++[⟨(ordF bs).map .i,0,true,1⟩]):=by
 refine det (cw47 ?_) k
 unfold vf47c
 have hlim:bs.length≤LIM:=by simp only[BIG]at hb;simp only[LIM];omega
 simp[(hv.app _).lenOf,hv.lenOf,hlim,falses_flat]
 unfold vf47t0
 have hb1:∀ L,rdOb (H++⟨[v,.i m],0,true,2⟩ :: L) H.length 0=some ⟨[v,.i m],0,true,2⟩:=by intro L;simp
 simp[(hv.app _).lenOf,hv.lenOf,hlim,falses_flat]
 obtain⟨k1,k2,k3⟩:=walk0_ok h0
 refine⟨?_,?_⟩
 ·obtain⟨X1,hX1⟩:∃ X1,H++[(⟨[v,.i m],0,true,2⟩:Ob),⟨List.replicate bs.length (.b false),0,true,1⟩,⟨[],0,true,1⟩]=X1:=⟨_,rfl⟩
  have hl1:X1.length=H.length+3:=by rw[← hX1];simp
  have hp1:Pre H X1:=⟨_,hX1.symm⟩
  have hs1:rdOb X1 (H.length+1) 0=some ⟨(List.replicate bs.length false).map .b,0,true,1⟩:=by rw[← hX1];simp
  have ho1:rdOb X1 (H.length+2) 0=some ⟨[],0,true,1⟩:=by rw[← hX1];simp
  rw[hX1]
  have hw:∀ id,IsOut (.sl (H.length+2) 0 0 0) id→H.length≤id∧id≠H.length+1:=fun id ⟨_,_,h⟩=>by cases h;omega
  have hwalk:=specWalk (m:=m) hv hin hb bs.length (X:=X1) (s:=H.length+1) (gs:=0) (b:=0) (w:=.sl (H.length+2) 0 0 0) (seen:=List.replicate bs.length false) (out:=[]) hp1 (by omega) hw hs1 (by simp) (.inr ⟨_,_,rfl,ho1⟩) h0 (getD_falses h0) (by rw[cf_falses];exact Nat.le_refl _) (by rw[cf_falses];simpa using hb)
  refine CM.mono hwalk ?_
  rintro _ ⟨w',X2,rfl,hW⟩
  have hout:=hW.out
  have hown:=hW.own
  have hpre:=hW.pre
  change OutR X2 w' (walk0 bs).2 at hout
  rcases hout with⟨_,h⟩ | ⟨o,g,rfl,ho⟩
  ·rw[h]at k3;exact absurd k3 (by simp)
  ·have hoo:H.length≤o:=by
    rcases hown o ⟨g,_,rfl⟩ with⟨_,_,h⟩ | h
    ·cases h;omega
    ·omega
   have hlt:=rdOb_lt ho
   have hlen2:(walk0 bs).2.length≤BIG:=by omega
   have hw2:-9223372036854775807≤((walk0 bs).2.length:Int)∧((walk0 bs).2.length:Int)≤9223372036854775807:=bigI hlen2
   generalize hxs:(walk0 bs).2=xs at *
   have hrev:ordF bs=xs.reverse:=by unfold ordF;rw[hxs]
   simp[wn1 hw2]
   obtain⟨I,hI⟩:∃ I:Nat→St→Prop,∀ i st,I i st↔(∃ g4,Pre X2 st.h∧rdOb st.h X2.length g4=some ⟨(xs.reverse.take i).map .i,g4,true,1⟩∧Env.get st.e 3=.c (.sl o g 0 xs.length)∧Env.get st.e 4=.c (.sl X2.length g4 0 i)∧Env.get st.e 5=.c (.i ((xs.length:Int) - 1 - i))):=⟨_,fun _ _=>Iff.rfl⟩
   refine wp_for CM_mono xs.length I ((hI _ _).2 ⟨0,⟨_,rfl⟩,by simp,by simp⟩) ?_ ?_
   ·rintro i ⟨e,Y⟩ hi hIs
    obtain⟨g4,hp,h4,e3,e4,e5⟩:=(hI _ _).1 hIs
    simp only at hp h4 e3 e4 e5 ⊢
    obtain⟨j,hj,hj2⟩:∃ j:Nat,(xs.length:Int) - 1 - i=j∧j=xs.length - 1 - i:=⟨xs.length - 1 - i,by omega,rfl⟩
    rw[hj]at e5
    have hjn:j<xs.length:=by omega
    have hwj:-9223372036854775807≤(j:Int)∧(j:Int)≤9223372036854775807:=by simp only[BIG]at hlen2;omega
    have hoY:=hp.rdOb ho
    have hYl:=rdOb_lt h4
    have htk:xs.reverse.take (i+1)=xs.reverse.take i++[xs[j]]:=by
     rw[List.take_succ_eq_append_getElem (by simpa using hi),List.getElem_reverse]
     congr 2
     subst hj2;rfl
    unfold vf47b0
    simp[e3,e4,e5,idxOf,hjn,rdC_ob hoY,srcOf,putAt]
    rw[app_own (cs:=(xs.reverse.take i).map .i) (rdOb_app _ h4) (by simp;omega) (by simp) (by simp;simp only[BIG]at hlen2;simp only[LIM];omega)]
    simp[e3,e4,e5,wn1 hwj]
    refine (hI _ _).2 ⟨g4+1,(hp.app _).set (Nat.le_refl _) _,?_,by simp;omega⟩
    rw[rdOb_set_self (by simp;omega),htk]
    simp
   ·rintro⟨e,Y⟩ hIs
    obtain⟨g4,hp,h4,e3,e4,e5⟩:=(hI _ _).1 hIs
    simp only at hp h4 e3 e4 e5 ⊢
    rw[List.take_of_length_le (by simp)]at h4
    unfold vf47b0
    simp[e3,e4,e5,show ¬ ((xs.length:Int)≤(xs.length:Int) - 1) by omega]
    rw[gcRet_row (hpre.trans hp) hpre.le h4 rfl (by simp[flatC])]
    simp[hrev]
 ·obtain⟨X1,hX1⟩:∃ X1,H++[(⟨[v,.i m],0,true,2⟩:Ob),⟨[],0,true,1⟩,⟨List.replicate bs.length (.b false),0,true,1⟩]=X1:=⟨_,rfl⟩
  have hl1:X1.length=H.length+3:=by rw[← hX1];simp
  have hp1:Pre H X1:=⟨_,hX1.symm⟩
  have hs1:rdOb X1 (H.length+2) 0=some ⟨(List.replicate bs.length false).map .b,0,true,1⟩:=by rw[← hX1];simp
  have ho1:rdOb X1 (H.length+1) 0=some ⟨[],0,true,1⟩:=by rw[← hX1];simp
  rw[hX1]
  have hw:∀ id,IsOut (.sl (H.length+1) 0 0 0) id→H.length≤id∧id≠H.length+2:=fun id ⟨_,_,h⟩=>by cases h;omega
  have hwalk:=specWalk (m:=m) hv hin hb bs.length (X:=X1) (s:=H.length+2) (gs:=0) (b:=0) (w:=.sl (H.length+1) 0 0 0) (seen:=List.replicate bs.length false) (out:=[]) hp1 (by omega) hw hs1 (by simp) (.inr ⟨_,_,rfl,ho1⟩) h0 (getD_falses h0) (by rw[cf_falses];exact Nat.le_refl _) (by rw[cf_falses];simpa using hb)
  refine CM.mono hwalk ?_
  rintro _ ⟨w',X2,rfl,hW⟩
  have hout:=hW.out
  have hown:=hW.own
  have hpre:=hW.pre
  change OutR X2 w' (walk0 bs).2 at hout
  rcases hout with⟨_,h⟩ | ⟨o,g,rfl,ho⟩
  ·rw[h]at k3;exact absurd k3 (by simp)
  ·have hoo:H.length≤o:=by
    rcases hown o ⟨g,_,rfl⟩ with⟨_,_,h⟩ | h
    ·cases h;omega
    ·omega
   have hlt:=rdOb_lt ho
   have hlen2:(walk0 bs).2.length≤BIG:=by omega
   have hw2:-9223372036854775807≤((walk0 bs).2.length:Int)∧((walk0 bs).2.length:Int)≤9223372036854775807:=bigI hlen2
   generalize hxs:(walk0 bs).2=xs at *
   have hrev:ordF bs=xs.reverse:=by unfold ordF;rw[hxs]
   simp[wn1 hw2]
   obtain⟨I,hI⟩:∃ I:Nat→St→Prop,∀ i st,I i st↔(∃ g4,Pre X2 st.h∧rdOb st.h X2.length g4=some ⟨(xs.reverse.take i).map .i,g4,true,1⟩∧Env.get st.e 3=.c (.sl o g 0 xs.length)∧Env.get st.e 4=.c (.sl X2.length g4 0 i)∧Env.get st.e 5=.c (.i ((xs.length:Int) - 1 - i))):=⟨_,fun _ _=>Iff.rfl⟩
   refine wp_for CM_mono xs.length I ((hI _ _).2 ⟨0,⟨_,rfl⟩,by simp,by simp⟩) ?_ ?_
   ·rintro i ⟨e,Y⟩ hi hIs
    obtain⟨g4,hp,h4,e3,e4,e5⟩:=(hI _ _).1 hIs
    simp only at hp h4 e3 e4 e5 ⊢
    obtain⟨j,hj,hj2⟩:∃ j:Nat,(xs.length:Int) - 1 - i=j∧j=xs.length - 1 - i:=⟨xs.length - 1 - i,by omega,rfl⟩
    rw[hj]at e5
    have hjn:j<xs.length:=by omega
    have hwj:-9223372036854775807≤(j:Int)∧(j:Int)≤9223372036854775807:=by simp only[BIG]at hlen2;omega
    have hoY:=hp.rdOb ho
    have hYl:=rdOb_lt h4
    have htk:xs.reverse.take (i+1)=xs.reverse.take i++[xs[j]]:=by
     rw[List.take_succ_eq_append_getElem (by simpa using hi),List.getElem_reverse]
     congr 2
     subst hj2;rfl
    unfold vf47b0
    simp[e3,e4,e5,idxOf,hjn,rdC_ob hoY,srcOf,putAt]
    rw[app_own (cs:=(xs.reverse.take i).map .i) (rdOb_app _ h4) (by simp;omega) (by simp) (by simp;simp only[BIG]at hlen2;simp only[LIM];omega)]
    simp[e3,e4,e5,wn1 hwj]
    refine (hI _ _).2 ⟨g4+1,(hp.app _).set (Nat.le_refl _) _,?_,by simp;omega⟩
    rw[rdOb_set_self (by simp;omega),htk]
    simp
   ·rintro⟨e,Y⟩ hIs
    obtain⟨g4,hp,h4,e3,e4,e5⟩:=(hI _ _).1 hIs
    simp only at hp h4 e3 e4 e5 ⊢
    rw[List.take_of_length_le (by simp)]at h4
    unfold vf47b0
    simp[e3,e4,e5,show ¬ ((xs.length:Int)≤(xs.length:Int) - 1) by omega]
    rw[gcRet_row (hpre.trans hp) hpre.le h4 rfl (by simp[flatC])]
    simp[hrev]
def IsL (H:Hp) (v:CV) (xs:List Bool):Prop:=Sl H 1 v xs.length (xs.map .b)

theorem IsL.lenOf {H:Hp} {v:CV} {xs:List Bool} (h:IsL H v xs):lenOf v=some xs.length:=Sl.lenOf h

theorem IsL.at_ {H:Hp} {v:CV} {xs:List Bool} (h:IsL H v xs) {k:Nat} (hk:k<xs.length) :
  ∃ id g off,idxOf 1 v (k:Int)=some (.p id g off)∧rdC H id g off=some (.b xs[k]):=by
 obtain⟨id,g,off,o,h1,h2,_,h3⟩:=Sl.get h hk
 refine⟨id,g,off,h1,?_⟩
 have:=h3 0 (by omega)
 simp[hk]at this
 simp[rdC,h2,this]

theorem IsL.pre {H X:Hp} (hp:Pre H X) {v:CV} {xs:List Bool} (h:IsL H v xs):IsL X v xs:=Sl.pre hp h

theorem IsL.ns (H:Hp):IsL H .ns []:=.inl ⟨rfl,rfl,rfl⟩

theorem IsL.mk {H:Hp} {id g off:Nat} {o:Ob} {xs:List Bool} (h:rdOb H id g=some o) (hs:o.sz=1) (hl:off+xs.length≤o.cells.length) (hc:(o.cells.drop off).take xs.length=xs.map .b):IsL H (.sl id g off xs.length) xs:=
 .inr ⟨id,g,off,o,rfl,h,hs,by omega,by rw[Nat.mul_one];exact hc⟩

def third (x:Int):Bool:=decide (x.tmod 3=0)

def flags (n:Nat):List Bool:=(List.range n).map fun (j:Nat)=>third (1+(j:Int))

@[simp] theorem flags_len (n:Nat):(flags n).length=n:=by simp[flags]

def RowB (H:Hp) (w:CV) (L:Hp) (xs:List Bool):Prop:=(w=.ns∧L=[]∧xs=[])∨(w=.sl H.length 0 0 xs.length∧L=[⟨xs.map .b,0,true,1⟩])

theorem RowB.own {H L:Hp} {w:CV} {xs:List Bool} (h:RowB H w L xs):Own (H++L) H.length 1 w xs.length (xs.map .b):=by
 rcases h with⟨rfl,rfl,rfl⟩ | ⟨rfl,rfl⟩
 ·exact .inl ⟨rfl,rfl,rfl⟩
 ·exact .inr ⟨_,rfl,Nat.le_refl _,by simp,by simp⟩


structure Seen (p r:WSt):Prop where
 new:∃ ns:List Int,r.2=p.2++ns∧(∀ x∈ns,∃ k:Nat,x=k∧k<p.1.length)∧∀ j:Nat,r.1.getD j false=true↔p.1.getD j false=true∨(j:Int)∈ns

theorem Seen.refl (p:WSt):Seen p p:=⟨[],by simp,by simp,by simp⟩

theorem Seen.trans {p q r:WSt} (hl:q.1.length=p.1.length) (h:Seen p q) (k:Seen q r):Seen p r:=by
 obtain⟨n1,a1,b1,c1⟩:=h.new
 obtain⟨n2,a2,b2,c2⟩:=k.new
 refine⟨n1++n2,by rw[a2,a1,List.append_assoc],fun x hx=>?_,fun j=>?_⟩
 ·rcases List.mem_append.1 hx with h | h
  ·exact b1 x h
  ·obtain⟨k,hk,hk2⟩:=b2 x h;exact⟨k,hk,by omega⟩
 ·rw[c2,c1,List.mem_append,or_assoc]
theorem flat_set (l:List Bool) (b:Nat) (x:Bool):((l.map CV.b).set b (.b x)).all flatC=true:=by
 rw[← List.map_set];simp only[List.all_map,List.all_eq_true];intro y _;rfl

def falses (n:Nat):List Bool:=List.replicate n false

def walkB (bs:List BlkR) (b:Nat):WSt:=walkF bs bs.length 0 ((falses bs.length).set b true,[])

def withoutF (bs:List BlkR) (b:Nat):List Bool:=if b=0 then falses bs.length else (walkB bs b).1.set b false

theorem cf_le_len (l:List Bool):cf l≤l.length:=List.count_le_length

theorem withoutF_len (bs:List BlkR) (b:Nat):(withoutF bs b).length=bs.length:=by
 unfold withoutF
 split
 ·simp[falses]
 ·rw[List.length_set]
  unfold walkB
  rw[(walkF_ok bs bs.length 0 _).1.len];simp[falses]

theorem getD_falses' {n b:Nat} (h:0<n) (hb:b≠0):((falses n).set b true).getD 0 true=false:=by
 rw[List.getD_eq_getElem?_getD,List.getElem?_set]
 rw[if_neg hb,List.getElem?_eq_getElem (by simpa [falses] using h)];simp[falses]

theorem implWithout {H:Hp} {v:CV} {bs:List BlkR} {m:Int} {b:Nat} (hv:Blocks H v bs) (hin:InRange bs) (hb:bs.length≤BIG) (hbl:b<bs.length) (k:IV×Hp→Prop) :
  CM 158 [.agg [v,.i m],.c (.i b)] H k=k (.c (.sl H.length 0 0 bs.length),H++[⟨(withoutF bs b).map .b,0,true,1⟩]):=by
 refine det (cw158 ?_) k
 unfold vf158c
 have hlim:bs.length≤LIM:=by simp only[BIG]at hb;simp only[LIM];omega
 have h0:0<bs.length:=by omega
 by_cases hb0:b=0
 ·subst hb0
  simp[(hv.app _).lenOf,hv.lenOf,hlim,falses_flat]
  rw[gcRet_row ⟨_,rfl⟩ (by omega) (o:=⟨List.replicate bs.length (.b false),0,true,1⟩) (by simp) rfl (by simp[flatC])]
  simp[withoutF,falses]
 ·obtain⟨X1,hX1⟩:∃ X1,H++[(⟨[v,.i m],0,true,2⟩:Ob),⟨((falses bs.length).set b true).map .b,0,true,1⟩]=X1:=⟨_,rfl⟩
  have hl1:X1.length=H.length+2:=by rw[← hX1];simp
  have hp1:Pre H X1:=⟨_,hX1.symm⟩
  have hb1:rdOb X1 H.length 0=some ⟨[v,.i m],0,true,2⟩:=by rw[← hX1];simp
  have hs1:rdOb X1 (H.length+1) 0=some ⟨((falses bs.length).set b true).map .b,0,true,1⟩:=by rw[← hX1];simp
  have hX1':H++[(⟨[v,.i m],0,true,2⟩:Ob),⟨(List.replicate bs.length (CV.b false)).set b (.b true),0,true,1⟩]=X1:=by rw[← hX1];simp[falses]
  have hbi:¬ ((b:Int)=0):=by omega
  simp[(hv.app _).lenOf,hv.lenOf,hlim,falses_flat,hb0,idxOf,hbl,putAt_get,show b+1≤bs.length from hbl,hX1',rdN_ob hb1]
  have hw:∀ id,IsOut CV.ns id→H.length≤id∧id≠H.length+1:=fun id ⟨_,_,h⟩=>by cases h
  have hwalk:=implWalk (m:=m) hv hin hb bs.length (X:=X1) (s:=H.length+1) (gs:=0) (b:=0) (w:=.ns) (seen:=(falses bs.length).set b true) (out:=[]) hp1 (by omega) hw hs1 (by simp[falses]) (.inl ⟨rfl,rfl⟩) h0 (getD_falses' h0 hb0) (Nat.le_trans (cf_le_len _) (by simp[falses])) (by have:=cf_le_len ((falses bs.length).set b true);simp[falses]at this ⊢;omega)
  refine CM.mono hwalk ?_
  rintro _ ⟨w',X2,rfl,hW⟩
  have hseen:=hW.seen
  change rdOb X2 (H.length+1) 0=some ⟨(walkB bs b).1.map .b,0,true,1⟩ at hseen
  have hpre:=hW.pre
  have hlt:=rdOb_lt hseen
  have hwl:(walkB bs b).1.length=bs.length:=by unfold walkB;rw[(walkF_ok bs bs.length 0 _).1.len];simp[falses]
  simp[idxOf,hbl,hseen,hwl,putAt_get,show b+1≤bs.length from hbl]
  rw[gcRet_row (hpre.set (by omega) _) (by omega) (o:=⟨((walkB bs b).1.map .b).set b (.b false),0,true,1⟩) (by rw[rdOb_set_self hlt];simp) rfl (flat_set _ _ _)]
  simp[withoutF,hb0]

theorem specWithout {H:Hp} {v:CV} {bs:List BlkR} {m:Int} {b:Nat} (hv:Blocks H v bs) (hin:InRange bs) (hb:bs.length≤BIG) (hbl:b<bs.length) (k:IV×Hp→Prop) :
  CM 189 [.agg [v,.i m],.c (.i b)] H k=k (.c (.sl H.length 0 0 bs.length),H++[⟨(withoutF bs b).map .b,0,true,1⟩]):=by
 refine det (cw189 ?_) k
 unfold vf189c
 have hlim:bs.length≤LIM:=by simp only[BIG]at hb;simp only[LIM];omega
 have h0:0<bs.length:=by omega
 by_cases hb0:b=0
 ·subst hb0
  simp[(hv.app _).lenOf,hv.lenOf,hlim,falses_flat]
  rw[gcRet_row ⟨_,rfl⟩ (by omega) (o:=⟨List.replicate bs.length (.b false),0,true,1⟩) (by simp) rfl (by simp[flatC])]
  simp[withoutF,falses]
 ·obtain⟨X1,hX1⟩:∃ X1,H++[(⟨[v,.i m],0,true,2⟩:Ob),⟨((falses bs.length).set b true).map .b,0,true,1⟩]=X1:=⟨_,rfl⟩
  have hl1:X1.length=H.length+2:=by rw[← hX1];simp
  have hp1:Pre H X1:=⟨_,hX1.symm⟩
  have hb1:rdOb X1 H.length 0=some ⟨[v,.i m],0,true,2⟩:=by rw[← hX1];simp
  have hs1:rdOb X1 (H.length+1) 0=some ⟨((falses bs.length).set b true).map .b,0,true,1⟩:=by rw[← hX1];simp
  have hX1':H++[(⟨[v,.i m],0,true,2⟩:Ob),⟨(List.replicate bs.length (CV.b false)).set b (.b true),0,true,1⟩]=X1:=by rw[← hX1];simp[falses]
  have hbi:¬ ((b:Int)=0):=by omega
  simp[(hv.app _).lenOf,hv.lenOf,hlim,falses_flat,hb0,idxOf,hbl,putAt_get,show b+1≤bs.length from hbl,hX1',rdN_ob hb1]
  obtain⟨X3,hX3⟩:∃ X3,X1++[(⟨[],0,true,1⟩:Ob)]=X3:=⟨_,rfl⟩
  have hp3:Pre H X3:=hp1.trans ⟨_,hX3.symm⟩
  have ho3:rdOb X3 X1.length 0=some ⟨[],0,true,1⟩:=by rw[← hX3];simp
  have hs3:rdOb X3 (H.length+1) 0=some ⟨((falses bs.length).set b true).map .b,0,true,1⟩:=by rw[← hX3];exact rdOb_app _ hs1
  simp[hX3]
  have hw:∀ id,IsOut (.sl X1.length 0 0 0) id→H.length≤id∧id≠H.length+1:=fun id ⟨_,_,h⟩=>by cases h;omega
  have hwalk:=specWalk (m:=m) hv hin hb bs.length (X:=X3) (s:=H.length+1) (gs:=0) (b:=0) (w:=.sl X1.length 0 0 0) (seen:=(falses bs.length).set b true) (out:=[]) hp3 (by omega) hw hs3 (by simp[falses]) (.inr ⟨_,_,rfl,ho3⟩) h0 (getD_falses' h0 hb0) (Nat.le_trans (cf_le_len _) (by simp[falses])) (by have:=cf_le_len ((falses bs.length).set b true);simp[falses]at this ⊢;omega)
  refine CM.mono hwalk ?_
  rintro _ ⟨w',X2,rfl,hW⟩
  have hseen:=hW.seen
  change rdOb X2 (H.length+1) 0=some ⟨(walkB bs b).1.map .b,0,true,1⟩ at hseen
  have hpre:=hW.pre
  have hlt:=rdOb_lt hseen
  have hwl:(walkB bs b).1.length=bs.length:=by unfold walkB;rw[(walkF_ok bs bs.length 0 _).1.len];simp[falses]
  simp[idxOf,hbl,hseen,hwl,putAt_get,show b+1≤bs.length from hbl]
  rw[gcRet_row (hpre.set (by omega) _) (by omega) (o:=⟨((walkB bs b).1.map .b).set b (.b false),0,true,1⟩) (by rw[rdOb_set_self hlt];simp) rfl (flat_set _ _ _)]
  simp[withoutF,hb0]
def domB (bs:List BlkR) (b a:Nat):Bool:=(seenF bs).getD a false && (seenF bs).getD b false && !(withoutF bs a).getD b false

def domTo (bs:List BlkR) (n b:Nat):List Int:=((List.range n).filter (domB bs b)).map fun (a:Nat)=>(a:Int)

def domF (bs:List BlkR) (b:Nat):List Int:=domTo bs bs.length b

theorem domTo_succ (bs:List BlkR) (n b:Nat):domTo bs (n+1) b=domTo bs n b++(if domB bs b n=true then [(n:Int)] else []):=by
 unfold domTo
 rw[List.range_succ,List.filter_append,List.map_append]
 congr 1
 cases h:domB bs b n<;>simp[h]

theorem domTo_le (bs:List BlkR) (n b:Nat):(domTo bs n b).length≤n:=by
 unfold domTo
 rw[List.length_map]
 exact Nat.le_trans (List.length_filter_le _ _) (by simp)

structure DInv (K:Nat→Prop) (d n:Nat) (f:Nat→List Int) (Y:Hp):Prop where
 kd:∀ id,K id→id≠d∧id<Y.length
 row:∃ cells,rdOb Y d 0=some ⟨cells,0,true,1⟩∧cells.length=n∧∀ b,b<n→∃ c,cells[b]? = some c∧OutR Y c (f b)∧(∀ id,IsOut c id→¬ K id∧id≠d)∧∀ b' c',b'<n→b'≠b→cells[b']? = some c'→∀ id,IsOut c id→¬ IsOut c' id

theorem DInv.app {K:Nat→Prop} {d n:Nat} {f:Nat→List Int} {Y:Hp} (h:DInv K d n f Y) (L:Hp):DInv K d n f (Y++L):=by
 obtain⟨h1,cells,h2,h3,h4⟩:=h
 refine⟨fun id hi=>⟨(h1 id hi).1,by have:=(h1 id hi).2;simp only[List.length_append];omega⟩,cells,rdOb_app L h2,h3,fun b hb=>?_⟩
 obtain⟨c,a1,a2,a3,a4⟩:=h4 b hb
 exact⟨c,a1,a2.keep fun _ _ _ _ h=>rdOb_app L h,a3,a4⟩

theorem DInv.also {K:Nat→Prop} {d n:Nat} {f:Nat→List Int} {Y L:Hp} (h:DInv K d n f Y) (hL:0<L.length):DInv (fun id=>K id∨id=Y.length) d n f (Y++L):=by
 obtain⟨h1,cells,h2,h3,h4⟩:=h
 have hd:=rdOb_lt h2
 refine⟨fun id hi=>?_,cells,rdOb_app L h2,h3,fun b hb=>?_⟩
 ·simp only[List.length_append]
  rcases hi with hi | rfl
  ·exact⟨(h1 id hi).1,by have:=(h1 id hi).2;omega⟩
  ·exact⟨by omega,by omega⟩
 ·obtain⟨c,a1,a2,a3,a4⟩:=h4 b hb
  refine⟨c,a1,a2.keep fun _ _ _ _ h=>rdOb_app L h,fun id hi=>⟨?_,(a3 id hi).2⟩,a4⟩
  rintro (hk | rfl)
  ·exact (a3 id hi).1 hk
  ·exact absurd (a2.lt hi) (by omega)

theorem DInv.weak {K K':Nat→Prop} {d n:Nat} {f:Nat→List Int} {Y:Hp} (h:DInv K d n f Y) (hk:∀ id,K' id→K id):DInv K' d n f Y:=by
 obtain⟨h1,cells,h2,h3,h4⟩:=h
 refine⟨fun id hi=>h1 id (hk id hi),cells,h2,h3,fun b hb=>?_⟩
 obtain⟨c,a1,a2,a3,a4⟩:=h4 b hb
 exact⟨c,a1,a2,fun id hi=>⟨fun k=>(a3 id hi).1 (hk id k),(a3 id hi).2⟩,a4⟩

theorem DInv.push {K:Nat→Prop} {d n:Nat} {f:Nat→List Int} {Y:Hp} (h:DInv K d n f Y) {b:Nat} (hb:b<n) (x:Int) (hl:(f b).length+1≤LIM) (B:Hp) :
  ∃ c c' Z cells,(∃ o g n,c'=.sl o g 0 n)∧rdC Y d 0 b=some c∧doApp (Y++B) 1 c 1 [.i x]=some (.c c',Z)∧rdOb Z d 0=some ⟨cells,0,true,1⟩∧b+1≤cells.length ∧
   DInv K d n (fun j=>if j=b then f b++[x] else f j) (Z.set d ⟨putAt cells b [c'],0,true,1⟩)∧∀ id g ob,K id→rdOb Y id g=some ob→rdOb (Z.set d ⟨putAt cells b [c'],0,true,1⟩) id g=some ob:=by
 obtain⟨h1,cells,h2,h3,h4⟩:=h.app B
 have h1':=h.kd
 obtain⟨_,cells0,h20,_,_⟩:=h
 have e0:cells0=cells:=by
  have:=rdOb_app B h20
  rw[h2]at this
  injection this with this;injection this with this;exact this.symm
 subst e0
 obtain⟨c,a1,a2,a3,a4⟩:=h4 b hb
 obtain⟨c',Z,p1,p2,p3,p4,p5,_⟩:=a2.push x hl
 have hdc:¬ IsOut c d:=fun hi=>(a3 d hi).2 rfl
 have hdZ:=p4 d 0 _ hdc h2
 have hdl:=rdOb_lt hdZ
 have hbl:b<cells0.length:=by omega
 have hc's:∃ o g n,c'=.sl o g 0 n:=by
  rcases p2 with⟨_,h⟩ | ⟨o,g,h,_⟩
  ·simp at h
  ·exact⟨o,g,_,h⟩
 refine⟨c,c',Z,cells0,hc's,by rw[rdC_ob h20];exact a1,p1,hdZ,by omega,⟨fun id hi=>⟨(h1 id hi).1,by have:=(h1 id hi).2;rw[List.length_set];omega⟩,cells0.set b c',?_,by simp[h3],fun j hj=>?_⟩,fun id g ob hk ho=>?_⟩
 ·rw[rdOb_set_self hdl,putAt_get hbl];simp
 ·have hc'd:∀ id,IsOut c' id→¬ K id∧id≠d:=by
   intro id hi
   rcases p5 id hi with h7 | h7
   ·exact a3 id h7
   ·exact⟨fun hk=>by have:=(h1 id hk).2;omega,by have:=rdOb_lt h2;omega⟩
  by_cases e:j=b
  ·subst e
   refine⟨c',by rw[List.getElem?_set];simp[hbl],?_,hc'd,fun b' c2 hb' hne hc2 id hi=>?_⟩
   ·simp only[if_true]
    exact p2.keep fun id g ob hi ho=>by rw[rdOb_set_ne (hc'd id hi).2];exact ho
   ·rw[List.getElem?_set,if_neg (by omega)]at hc2
    obtain⟨c3,q1,q2,_,_⟩:=h4 b' hb'
    rw[hc2]at q1;injection q1 with q1;subst q1
    rcases p5 id hi with h7 | h7
    ·exact a4 b' c2 hb' hne hc2 id h7
    ·intro hi2
     have:=q2.lt hi2
     omega
  ·obtain⟨cj,q1,q2,q3,q4⟩:=h4 j hj
   refine⟨cj,by rw[List.getElem?_set,if_neg (by omega)];exact q1,?_,q3,fun b' c2 hb' hne hc2 id hi=>?_⟩
   ·rw[if_neg e]
    exact q2.keep fun id g ob hi ho=>by
     rw[rdOb_set_ne (q3 id hi).2]
     exact p4 id g ob (a4 j cj hj e q1 id |> fun h hc=>(q4 b c hb (fun e'=>e e'.symm) a1 id hi) hc) ho
   ·rw[List.getElem?_set]at hc2
    split at hc2
    ·rename_i e2
     subst e2
     injection hc2 with hc2
     subst hc2
     intro hi2
     rcases p5 id hi2 with h7 | h7
     ·exact q4 b c hb hne a1 id hi h7
     ·have:=q2.lt hi
      omega
    ·exact q4 b' c2 hb' hne hc2 id hi
 ·rw[rdOb_set_ne (h1' id hk).1]
  exact p4 id g ob (fun hi=>(a3 id hi).1 hk) (rdOb_app B ho)

def DomsRes (H:Hp) (bs:List BlkR) (r:IV×Hp):Prop:=∃ d X' cells,r=(.c (.sl d 0 0 bs.length),X')∧Pre H X'∧rdOb X' d 0=some ⟨cells,0,true,1⟩∧cells.length=bs.length∧∀ b,b<bs.length→∃ c,cells[b]? = some c∧IsI X' c (domF bs b)

theorem OutR.isI {X:Hp} {w:CV} {out:List Int} (h:OutR X w out):IsI X w out:=by
 rcases h with⟨rfl,rfl⟩ | ⟨o,g,rfl,ho⟩
 ·exact IsI.ns _
 ·exact IsI.mk ho rfl (by simp) (by rw[List.drop_zero,List.take_of_length_le (by simp)])

theorem DInv.res {K:Nat→Prop} {H Y:Hp} {d:Nat} {bs:List BlkR} (h:DInv K d bs.length (domF bs) Y) (hp:Pre H Y) (hd:H.length≤d):DomsRes H bs (gcRet H (.c (.sl d 0 0 bs.length)) Y):=by
 obtain⟨_,cells,h2,h3,h4⟩:=h
 by_cases hf:cells.all flatC=true
 ·rw[gcRet_row hp hd h2 rfl hf]
  refine⟨H.length,_,cells,rfl,⟨_,rfl⟩,by simp,h3,fun b hb=>?_⟩
  obtain⟨c,a1,a2,_,_⟩:=h4 b hb
  refine⟨c,a1,?_⟩
  rcases a2 with⟨rfl,e⟩ | ⟨o,g,rfl,_⟩
  ·rw[e];exact IsI.ns _
  ·have:=List.all_eq_true.1 hf _ (List.mem_of_getElem? a1)
   cases this
 ·have e:gcRet H (.c (.sl d 0 0 bs.length)) Y=(.c (.sl d 0 0 bs.length),Y):=by
   unfold gcRet
   rw[if_pos hp.take,if_neg (by simp[flatV,flatC])]
   simp only[hd,if_true,(rdOb_some.1 h2).1]
   rw[if_neg (by simp[hf])]
  rw[e]
  refine⟨d,Y,cells,rfl,hp,h2,h3,fun b hb=>?_⟩
  obtain⟨c,a1,a2,_,_⟩:=h4 b hb
  exact⟨c,a1,a2.isI⟩

theorem DInv.congr {K:Nat→Prop} {d n:Nat} {f f':Nat→List Int} {Y:Hp} (h:DInv K d n f Y) (hf:∀ b,b<n→f b=f' b):DInv K d n f' Y:=by
 obtain⟨h1,cells,h2,h3,h4⟩:=h
 refine⟨h1,cells,h2,h3,fun b hb=>?_⟩
 obtain⟨c,a1,a2,a3,a4⟩:=h4 b hb
 exact⟨c,a1,by rw[← hf b hb];exact a2,a3,a4⟩

theorem putAt_one (x y:CV):putAt [x] 0 [y]=[y]:=rfl

theorem ns_flat (n:Nat):(List.replicate n [CV.ns]).flatten=List.replicate n .ns:=by
 induction n with
 | zero=>rfl
 | succ n ih=>simp[List.replicate_succ,ih]

theorem DInv.start {Y:Hp} {n:Nat}:DInv (fun id=>id<Y.length) Y.length n (fun _=>[]) (Y++[⟨List.replicate n .ns,0,true,1⟩]):=by
 refine⟨fun id hi=>⟨by omega,by simp;omega⟩,List.replicate n .ns,by simp,by simp,fun b hb=>⟨.ns,by simp[hb],.inl ⟨rfl,rfl⟩,(fun id ⟨_,_,h⟩=>by cases h),fun b' c' _ _ _ id ⟨_,_,h⟩=>by cases h⟩⟩

theorem implDoms {H:Hp} {v:CV} {bs:List BlkR} {m:Int} (hv:Blocks H v bs) (hb:bs.length≤BIG) (hsh:shapeB ⟨bs,m⟩=true):CM 121 [.agg [v,.i m]] H (DomsRes H bs):=by
 refine cw121 ?_
 unfold vf121c
 have hin:InRange bs:=shape_range hsh
 have h0:0<bs.length:=shape_pos hsh
 have hlim:bs.length≤LIM:=by simp only[BIG]at hb;simp only[LIM];omega
 simp[implShape (f:=⟨bs,m⟩) (hv.app _) hb,hsh]
 refine (implOrder (hv.app _) hin hb h0).mono ?_
 rintro _ ⟨o,g,s,gs,X1,rfl,hp1,ho1,hs1,h3,hseen⟩
 have hpH:Pre H X1:=Pre.trans ⟨_,rfl⟩ hp1
 have hbox:rdOb X1 H.length 0=some ⟨[v,.i m],0,true,2⟩:=box_get hp1
 have hv1:Blocks X1 v bs:=hv.pre hpH
 have hsl:(seenF bs).length=bs.length:=(walk0_ok h0).1
 have hsx:=rdOb_lt hseen
 have hbx:=rdOb_lt hbox
 simp[rdC_ob hbox,hv1.lenOf,(hv1.app _).lenOf,hlim,ns_flat,rdC_ob (rdOb_app _ hbox)]
 obtain⟨d,hd⟩:∃ d,d=X1.length:=⟨_,rfl⟩
 have hst:=DInv.start (Y:=X1) (n:=bs.length)
 rw[← hd]at hst
 have hlow0:Low d X1 (X1++[⟨List.replicate bs.length .ns,0,true,1⟩]):=Low.app _ _ _
 obtain⟨I,hI⟩:∃ I:Nat→St→Prop,∀ i st,I i st↔(DInv (fun id=>id<d) d bs.length (domTo bs i) st.h∧Low d X1 st.h∧Env.get st.e 1=.c (.p H.length 0 0)∧Env.get st.e 4=.c (.sl s gs 0 bs.length)∧Env.get st.e 5=.c (.sl d 0 0 bs.length)∧Env.get st.e 24=.c (.i bs.length)∧Env.get st.e 25=.c (.i i)):=⟨_,fun _ _=>Iff.rfl⟩
 rw[← hd]
 refine wp_for CM_mono bs.length I ((hI _ _).2 ⟨hst.congr fun b _=>by simp[domTo],hlow0,by simp⟩) ?_ ?_
 ·rintro i ⟨e,Y⟩ hi hIs
  obtain⟨hD,hL,h1,h4,h5,h24,h25⟩:=(hI _ _).1 hIs
  simp only at hD hL h1 h4 h5 h24 h25 ⊢
  have hboxY:=hL _ _ _ (by omega) hbox
  have hvY:Blocks Y v bs:=hv1.pre (hL.pre (Pre.refl _) (by omega))
  obtain⟨Y1,hY1⟩:∃ Y1,Y++[(⟨(withoutF bs i).map .b,0,true,1⟩:Ob)]=Y1:=⟨_,rfl⟩
  have hD1:=hD.also (L:=[(⟨(withoutF bs i).map .b,0,true,1⟩:Ob)]) (by simp)
  have hw1:rdOb Y1 Y.length 0=some ⟨(withoutF bs i).map .b,0,true,1⟩:=by rw[← hY1];simp
  have hL1:Low d X1 Y1:=by rw[← hY1];exact hL.trans (Low.app _ _ _)
  rw[hY1]at hD1
  have hwl:=withoutF_len bs i
  unfold vf121b1
  simp[h1,h4,h5,h24,h25,hi,rdN_ob hboxY,implWithout (m:=m) hvY hin hb hi,hY1]
  obtain⟨J,hJ⟩:∃ J:Nat→St→Prop,∀ j st,J j st↔(DInv (fun id=>id<d∨id=Y.length) d bs.length (fun b=>if b<j then domTo bs (i+1) b else domTo bs i b) st.h∧Low d X1 st.h∧rdOb st.h Y.length 0=some ⟨(withoutF bs i).map .b,0,true,1⟩ ∧
   Env.get st.e 1=.c (.p H.length 0 0)∧Env.get st.e 4=.c (.sl s gs 0 bs.length)∧Env.get st.e 5=.c (.sl d 0 0 bs.length)∧Env.get st.e 6=.c (.i i)∧Env.get st.e 7=.c (.sl Y.length 0 0 bs.length)∧Env.get st.e 24=.c (.i bs.length)∧Env.get st.e 25=.c (.i i) ∧
   Env.get st.e 31=.c (.sl s gs 0 bs.length)∧Env.get st.e 32=.c (.i bs.length)∧Env.get st.e 33=.c (.i j)):=⟨_,fun _ _=>Iff.rfl⟩
  refine wp_for CM_mono bs.length J ((hJ _ _).2 ⟨hD1.congr fun b _=>by simp,hL1,hw1,by simp[h1,h4,h5,h24,h25]⟩) ?_ ?_
  ·rintro j ⟨e',Z⟩ hj hJs
   obtain⟨hE,hM,hw,h1,h4,h5,h6,h7,h24,h25,h31,h32,h33⟩:=(hJ _ _).1 hJs
   simp only at hE hM hw h1 h4 h5 h6 h7 h24 h25 h31 h32 h33 ⊢
   have hsZ:=hM _ _ _ (by omega) hseen
   have gs1:(seenF bs).getD i false=(seenF bs)[i]'(by omega):=getD_at (by omega) false
   have gs2:(seenF bs).getD j false=(seenF bs)[j]'(by omega):=getD_at (by omega) false
   have gs3:(withoutF bs i).getD j false=(withoutF bs i)[j]'(by omega):=getD_at (by omega) false
   have hdom:domB bs j i=((seenF bs)[i]'(by omega) && (seenF bs)[j]'(by omega) && !(withoutF bs i)[j]'(by omega)):=by unfold domB;rw[gs1,gs2,gs3]
   have hsucc:=domTo_succ bs i j
   have hfl:domB bs j i=false→DInv (fun id=>id<d∨id=Y.length) d bs.length (fun b=>if b<j+1 then domTo bs (i+1) b else domTo bs i b) Z:=fun hf=>hE.congr fun b _=>by
    rw[hf]at hsucc
    by_cases e1:b<j
    ·rw[if_pos e1,if_pos (by omega)]
    ·by_cases e2:b=j
     ·subst e2;rw[if_neg e1,if_pos (by omega),hsucc];simp
     ·rw[if_neg e1,if_neg (by omega)]
   have hsj:j<(seenF bs).length:=by omega
   have hsi:i<(seenF bs).length:=by omega
   have hwj:j<(withoutF bs i).length:=by omega
   unfold vf121b0
   have hju:=up1 hj hb
   clear hju
   by_cases ha:(seenF bs)[j]=true
   ·by_cases hb':(withoutF bs i)[j]=true
    ·have hf:domB bs j i=false:=by rw[hdom,hb'];simp
     simp[h1,h4,h5,h6,h7,h24,h25,h31,h32,h33,hj,hi,idxOf,rdC_ob hsZ,rdC_ob hw,hsj,hsi,hwj,ha,hb',up1 hj hb]
     exact (hJ _ _).2 ⟨hfl hf,hM,hw,by simp[h1,h4,h5,h6,h7,h24,h25,h31,h32]⟩
    ·have hb2:(withoutF bs i)[j]=false:=by simpa using hb'
     by_cases hc:(seenF bs)[i]=true
     ·have ht:domB bs j i=true:=by rw[hdom,hb2,hc,ha];rfl
      obtain⟨c,c',Z2,cells,⟨oo,og,on,rfl⟩,p1,p2,p3,p4,p5,p6⟩:=hE.push hj (i:Int) (by rw[if_neg (Nat.lt_irrefl _)];have:=domTo_le bs i j;simp only[LIM];simp only[BIG]at hb;omega) [⟨[.i (i:Int)],0,true,1⟩]
      simp[h1,h4,h5,h6,h7,h24,h25,h31,h32,h33,hj,hi,idxOf,rdC_ob hsZ,rdC_ob hw,hsj,hsi,hwj,ha,hb2,hc,up1 hj hb,p1,srcOf,putAt_one,p2,p3,p4]
      rw[ht]at hsucc
      refine (hJ _ _).2 ⟨p5.congr fun b _=>?_,fun id g ob hid ho=>p6 id g ob (.inl hid) (hM id g ob hid ho),p6 _ _ _ (.inr rfl) hw,by simp[h1,h4,h5,h6,h7,h24,h25,h31,h32]⟩
      by_cases e2:b=j
      ·subst e2;rw[if_pos rfl,if_neg (Nat.lt_irrefl _),if_pos (by omega),hsucc];simp
      ·rw[if_neg e2]
       by_cases e1:b<j
       ·rw[if_pos e1,if_pos (by omega)]
       ·rw[if_neg e1,if_neg (by omega)]
     ·have hc2:(seenF bs)[i]=false:=by simpa using hc
      have hf:domB bs j i=false:=by rw[hdom,hc2];simp
      simp[h1,h4,h5,h6,h7,h24,h25,h31,h32,h33,hj,hi,idxOf,rdC_ob hsZ,rdC_ob hw,hsj,hsi,hwj,ha,hb2,hc2,up1 hj hb]
      exact (hJ _ _).2 ⟨hfl hf,hM,hw,by simp[h1,h4,h5,h6,h7,h24,h25,h31,h32]⟩
   ·have ha2:(seenF bs)[j]=false:=by simpa using ha
    have hf:domB bs j i=false:=by rw[hdom,ha2];simp
    simp[h1,h4,h5,h6,h7,h24,h25,h31,h32,h33,hj,hi,idxOf,rdC_ob hsZ,rdC_ob hw,hsj,hsi,hwj,ha2,up1 hj hb]
    exact (hJ _ _).2 ⟨hfl hf,hM,hw,by simp[h1,h4,h5,h6,h7,h24,h25,h31,h32]⟩
  ·rintro⟨e',Z⟩ hJs
   obtain⟨hE,hM,hw,h1,h4,h5,h6,h7,h24,h25,h31,h32,h33⟩:=(hJ _ _).1 hJs
   simp only at hE hM hw h1 h4 h5 h6 h7 h24 h25 h31 h32 h33 ⊢
   unfold vf121b0
   simp[h1,h4,h5,h6,h7,h24,h25,h31,h32,h33,up1 hi hb]
   exact (hI _ _).2 ⟨(hE.weak fun id h=>.inl h).congr fun b hb=>by rw[if_pos hb],hM,by simp[h1,h4,h5,h24]⟩
 ·rintro⟨e,Y⟩ hIs
  obtain⟨hD,hL,h1,h4,h5,h24,h25⟩:=(hI _ _).1 hIs
  simp only at hD hL h1 h4 h5 h24 h25 ⊢
  unfold vf121b1
  simp[h1,h4,h5,h24,h25]
  exact DInv.res hD (hL.pre hpH (by omega)) (by omega)
def KeepK (d s:Nat) (X Z:Hp):Prop:=∀ id g ob,(id<d∨id=s)→rdOb X id g=some ob→rdOb Z id g=some ob

theorem KeepK.pre {H X Z:Hp} {d s:Nat} (h:KeepK d s X Z) (hp:Pre H X) (hl:H.length≤d):Pre H Z:=Low.pre (lo:=d) (fun id g o hl ho=>h id g o (.inl hl) ho) hp hl

theorem specDoms {H:Hp} {v:CV} {bs:List BlkR} {m:Int} (hv:Blocks H v bs) (hin:InRange bs) (hb:bs.length≤BIG) (h0:0<bs.length):CM 147 [.agg [v,.i m]] H (DomsRes H bs):=by
 refine cw147 ?_
 unfold vf147c
 have hlim:bs.length≤LIM:=by simp only[BIG]at hb;simp only[LIM];omega
 obtain⟨X0,hX0⟩:∃ X0,H++[(⟨[v,.i m],0,true,2⟩:Ob),⟨List.replicate bs.length .ns,0,true,1⟩,⟨List.replicate bs.length (.b false),0,true,1⟩,⟨[],0,true,1⟩]=X0:=⟨_,rfl⟩
 have hl0:X0.length=H.length+4:=by rw[← hX0];simp
 have hp0:Pre H X0:=⟨_,hX0.symm⟩
 have hbox0:rdOb X0 H.length 0=some ⟨[v,.i m],0,true,2⟩:=by rw[← hX0];simp
 have hd0:rdOb X0 (H.length+1) 0=some ⟨List.replicate bs.length .ns,0,true,1⟩:=by rw[← hX0];simp
 have hs0:rdOb X0 (H.length+2) 0=some ⟨(List.replicate bs.length false).map .b,0,true,1⟩:=by rw[← hX0];simp
 have ho0:rdOb X0 (H.length+3) 0=some ⟨[],0,true,1⟩:=by rw[← hX0];simp
 simp[(hv.app _).lenOf,hv.lenOf,hlim,ns_flat,falses_flat,hX0]
 have hw:∀ id,IsOut (.sl (H.length+3) 0 0 0) id→H.length≤id∧id≠H.length+2:=fun id ⟨_,_,h⟩=>by cases h;omega
 have hwalk:=specWalk (m:=m) hv hin hb bs.length (X:=X0) (s:=H.length+2) (gs:=0) (b:=0) (w:=.sl (H.length+3) 0 0 0) (seen:=List.replicate bs.length false) (out:=[]) hp0 (by omega) hw hs0 (by simp) (.inr ⟨_,_,rfl,ho0⟩) h0 (getD_falses h0) (by rw[cf_falses];exact Nat.le_refl _) (by rw[cf_falses];simpa using hb)
 refine CM.mono hwalk ?_
 rintro _ ⟨w',X1,rfl,hW⟩
 have hseen:=hW.seen
 change rdOb X1 (H.length+2) 0=some ⟨(seenF bs).map .b,0,true,1⟩ at hseen
 have hpH:Pre H X1:=hW.pre
 have hno:∀ id,id≠H.length+3→¬ IsOut (.sl (H.length+3) 0 0 0) id:=fun id hne ⟨_,_,h⟩=>by cases h;exact hne rfl
 have hbox:rdOb X1 H.length 0=some ⟨[v,.i m],0,true,2⟩:=hW.keep _ _ _ (by omega) (hno _ (by omega)) hbox0
 have hdX:rdOb X1 (H.length+1) 0=some ⟨List.replicate bs.length .ns,0,true,1⟩:=hW.keep _ _ _ (by omega) (hno _ (by omega)) hd0
 have hlX:=hW.len
 have hv1:Blocks X1 v bs:=hv.pre hpH
 have hsl:(seenF bs).length=bs.length:=(walk0_ok h0).1
 obtain⟨d,hd⟩:∃ d,d=H.length+1:=⟨_,rfl⟩
 obtain⟨s,hs⟩:∃ s,s=H.length+2:=⟨_,rfl⟩
 rw[← hs]at hseen
 rw[← hd]at hdX
 have hst:DInv (fun id=>id<d∨id=s) d bs.length (fun _=>[]) X1:=by
  refine⟨fun id hi=>⟨by omega,by omega⟩,List.replicate bs.length .ns,hdX,by simp,fun b hb=>⟨.ns,by simp[hb],.inl ⟨rfl,rfl⟩,(fun id ⟨_,_,h⟩=>by cases h),fun b' c' _ _ _ id ⟨_,_,h⟩=>by cases h⟩⟩
 obtain⟨I,hI⟩:∃ I:Nat→St→Prop,∀ i st,I i st↔(DInv (fun id=>id<d∨id=s) d bs.length (domTo bs i) st.h∧KeepK d s X1 st.h∧Env.get st.e 1=.c (.p H.length 0 0)∧Env.get st.e 3=.c (.sl d 0 0 bs.length)∧Env.get st.e 4=.c (.sl s 0 0 bs.length)∧Env.get st.e 5=.c (.i i)):=⟨_,fun _ _=>Iff.rfl⟩
 simp[← hd,← hs]
 refine wp_for CM_mono bs.length I ((hI _ _).2 ⟨hst.congr fun b _=>by simp[domTo],fun _ _ _ _ h=>h,by simp⟩) ?_ ?_
 ·rintro i ⟨e,Y⟩ hi hIs
  obtain⟨hD,hL,h1,h3,h4,h5⟩:=(hI _ _).1 hIs
  simp only at hD hL h1 h3 h4 h5 ⊢
  have hboxY:=hL _ _ _ (.inl (by omega)) hbox
  have hvY:Blocks Y v bs:=hv.pre (hL.pre hpH (by omega))
  obtain⟨Y1,hY1⟩:∃ Y1,Y++[(⟨(withoutF bs i).map .b,0,true,1⟩:Ob)]=Y1:=⟨_,rfl⟩
  have hD1:=hD.also (L:=[(⟨(withoutF bs i).map .b,0,true,1⟩:Ob)]) (by simp)
  have hw1:rdOb Y1 Y.length 0=some ⟨(withoutF bs i).map .b,0,true,1⟩:=by rw[← hY1];simp
  have hL1:KeepK d s X1 Y1:=by rw[← hY1];exact fun id g ob a b=>rdOb_app _ (hL id g ob a b)
  rw[hY1]at hD1
  have hwl:=withoutF_len bs i
  unfold vf147b1
  simp[h1,h3,h4,h5,hi,rdN_ob hboxY,rdC_ob hboxY,hvY.lenOf,specWithout (m:=m) hvY hin hb hi,hY1]
  obtain⟨J,hJ⟩:∃ J:Nat→St→Prop,∀ j st,J j st↔(DInv (fun id=>(id<d∨id=s)∨id=Y.length) d bs.length (fun b=>if b<j then domTo bs (i+1) b else domTo bs i b) st.h∧KeepK d s X1 st.h∧rdOb st.h Y.length 0=some ⟨(withoutF bs i).map .b,0,true,1⟩ ∧
   Env.get st.e 1=.c (.p H.length 0 0)∧Env.get st.e 3=.c (.sl d 0 0 bs.length)∧Env.get st.e 4=.c (.sl s 0 0 bs.length)∧Env.get st.e 5=.c (.i i)∧Env.get st.e 6=.c (.sl Y.length 0 0 bs.length)∧Env.get st.e 7=.c (.i j)):=⟨_,fun _ _=>Iff.rfl⟩
  refine wp_for CM_mono bs.length J ((hJ _ _).2 ⟨hD1.congr fun b _=>by simp,hL1,hw1,by simp[h1,h3,h4,h5]⟩) ?_ ?_
  ·rintro j ⟨e',Z⟩ hj hJs
   obtain⟨hE,hM,hw,h1,h3,h4,h5,h6,h7⟩:=(hJ _ _).1 hJs
   simp only at hE hM hw h1 h3 h4 h5 h6 h7 ⊢
   have hboxZ:=hM _ _ _ (.inl (by omega)) hbox
   have hvZ:Blocks Z v bs:=hv.pre (hM.pre hpH (by omega))
   have hsZ:=hM _ _ _ (.inr rfl) hseen
   have gs1:(seenF bs).getD i false=(seenF bs)[i]'(by omega):=getD_at (by omega) false
   have gs2:(seenF bs).getD j false=(seenF bs)[j]'(by omega):=getD_at (by omega) false
   have gs3:(withoutF bs i).getD j false=(withoutF bs i)[j]'(by omega):=getD_at (by omega) false
   have hdom:domB bs j i=((seenF bs)[i]'(by omega) && (seenF bs)[j]'(by omega) && !(withoutF bs i)[j]'(by omega)):=by unfold domB;rw[gs1,gs2,gs3]
   have hsucc:=domTo_succ bs i j
   have hfl:domB bs j i=false→DInv (fun id=>(id<d∨id=s)∨id=Y.length) d bs.length (fun b=>if b<j+1 then domTo bs (i+1) b else domTo bs i b) Z:=fun hf=>hE.congr fun b _=>by
    rw[hf]at hsucc
    by_cases e1:b<j
    ·rw[if_pos e1,if_pos (by omega)]
    ·by_cases e2:b=j
     ·subst e2;rw[if_neg e1,if_pos (by omega),hsucc];simp
     ·rw[if_neg e1,if_neg (by omega)]
   have hsj:j<(seenF bs).length:=by omega
   have hsi:i<(seenF bs).length:=by omega
   have hwj:j<(withoutF bs i).length:=by omega
   unfold vf147b0
   by_cases hc:(seenF bs)[i]=true
   ·by_cases ha:(seenF bs)[j]=true
    ·by_cases hb':(withoutF bs i)[j]=true
     ·have hf:domB bs j i=false:=by rw[hdom,hb'];simp
      simp[h1,h3,h4,h5,h6,h7,rdC_ob hboxZ,hvZ.lenOf,hj,hi,idxOf,rdC_ob hsZ,rdC_ob hw,hsj,hsi,hwj,ha,hb',hc,up1 hj hb]
      exact (hJ _ _).2 ⟨hfl hf,hM,hw,by simp[h1,h3,h4,h5,h6]⟩
     ·have hb2:(withoutF bs i)[j]=false:=by simpa using hb'
      have ht:domB bs j i=true:=by rw[hdom,hb2,hc,ha];rfl
      obtain⟨c,c',Z2,cells,⟨oo,og,on,rfl⟩,p1,p2,p3,p4,p5,p6⟩:=hE.push hj (i:Int) (by rw[if_neg (Nat.lt_irrefl _)];have:=domTo_le bs i j;simp only[LIM];simp only[BIG]at hb;omega) [⟨[.i (i:Int)],0,true,1⟩]
      simp[h1,h3,h4,h5,h6,h7,rdC_ob hboxZ,hvZ.lenOf,hj,hi,idxOf,rdC_ob hsZ,rdC_ob hw,hsj,hsi,hwj,ha,hb2,hc,up1 hj hb,p1,srcOf,putAt_one,p2,p3,p4]
      rw[ht]at hsucc
      refine (hJ _ _).2 ⟨p5.congr fun b _=>?_,fun id g ob hid ho=>p6 id g ob (.inl hid) (hM id g ob hid ho),p6 _ _ _ (.inr rfl) hw,by simp[h1,h3,h4,h5,h6]⟩
      by_cases e2:b=j
      ·subst e2;rw[if_pos rfl,if_neg (Nat.lt_irrefl _),if_pos (by omega),hsucc];simp
      ·rw[if_neg e2]
       by_cases e1:b<j
       ·rw[if_pos e1,if_pos (by omega)]
       ·rw[if_neg e1,if_neg (by omega)]
    ·have ha2:(seenF bs)[j]=false:=by simpa using ha
     have hf:domB bs j i=false:=by rw[hdom,ha2];simp
     simp[h1,h3,h4,h5,h6,h7,rdC_ob hboxZ,hvZ.lenOf,hj,hi,idxOf,rdC_ob hsZ,rdC_ob hw,hsj,hsi,hwj,ha2,hc,up1 hj hb]
     exact (hJ _ _).2 ⟨hfl hf,hM,hw,by simp[h1,h3,h4,h5,h6]⟩
   ·have hc2:(seenF bs)[i]=false:=by simpa using hc
    have hf:domB bs j i=false:=by rw[hdom,hc2];simp
    simp[h1,h3,h4,h5,h6,h7,rdC_ob hboxZ,hvZ.lenOf,hj,hi,idxOf,rdC_ob hsZ,rdC_ob hw,hsj,hsi,hwj,hc2,up1 hj hb]
    exact (hJ _ _).2 ⟨hfl hf,hM,hw,by simp[h1,h3,h4,h5,h6]⟩
  ·rintro⟨e',Z⟩ hJs
   obtain⟨hE,hM,hw,h1,h3,h4,h5,h6,h7⟩:=(hJ _ _).1 hJs
   simp only at hE hM hw h1 h3 h4 h5 h6 h7 ⊢
   have hboxZ:=hM _ _ _ (.inl (by omega)) hbox
   have hvZ:Blocks Z v bs:=hv.pre (hM.pre hpH (by omega))
   unfold vf147b0
   simp[h1,h3,h4,h5,h6,h7,rdC_ob hboxZ,hvZ.lenOf,up1 hi hb]
   exact (hI _ _).2 ⟨(hE.weak fun id h=>.inl h).congr fun b hb=>by rw[if_pos hb],hM,by simp[h1,h3,h4]⟩
 ·rintro⟨e,Y⟩ hIs
  obtain⟨hD,hL,h1,h3,h4,h5⟩:=(hI _ _).1 hIs
  simp only at hD hL h1 h3 h4 h5 ⊢
  have hboxY:=hL _ _ _ (.inl (by omega)) hbox
  have hvY:Blocks Y v bs:=hv.pre (hL.pre hpH (by omega))
  unfold vf147b1
  simp[h1,h3,h4,h5,rdC_ob hboxY,hvY.lenOf]
  exact DInv.res hD (hL.pre hpH (by omega)) (by omega)

theorem domF_le {bs:List BlkR} (hb:bs.length≤BIG) (b:Nat):(domF bs b).length≤BIG:=Nat.le_trans (domTo_le bs bs.length b) hb

theorem among_call {X:Hp} {d:Nat} {cells:List CV} {bs:List BlkR} (h1:rdOb X d 0=some ⟨cells,0,true,1⟩) (h2:cells.length=bs.length) (h3:∀ b,b<bs.length→∃ c,cells[b]? = some c∧IsI X c (domF bs b)) (hb:bs.length≤BIG) (a b:Int) (k:IV×Hp→Prop) :
  CM 160 [.c (.sl d 0 0 bs.length),.c (.i a),.c (.i b)] X k=k (.c (.b (inB b 0 ((bs.length:Int) - 1) && hasI (domF bs b.toNat) a)),X):=by
 refine det (cw160 ?_) k
 unfold vf160c
 have hw:-9223372036854775807≤(bs.length:Int)∧(bs.length:Int)≤9223372036854775807:=bigI hb
 cases hi:inB b 0 ((bs.length:Int) - 1) with
 | false=>simp[implIn,wn1 hw,hi]
 | true =>
  obtain⟨n,rfl,hn⟩:∃ n:Nat,b=n∧n<bs.length:=by
   have:=of_decide_eq_true hi
   exact⟨b.toNat,by omega,by omega⟩
  obtain⟨c,q1,q2⟩:=h3 n hn
  simp[implIn,wn1 hw,hi,idxOf,hn,rdC_ob h1,q1,containsInt q2 (domF_le hb n)]
inductive Rch (bs:List BlkR) (bar:Nat→Prop) (s:Nat):Nat→Prop
 | start:¬ bar s→Rch bs bar s s
 | step {j k:Nat}:Rch bs bar s j→(k:Int)∈succsAt bs j→¬ bar k→Rch bs bar s k

theorem Rch.free {bs:List BlkR} {bar:Nat→Prop} {s j:Nat} (h:Rch bs bar s j):¬ bar j:=by
 cases h<;>assumption

theorem Rch.mono {bs:List BlkR} {bar bar':Nat→Prop} {s j:Nat} (h:Rch bs bar s j) (hb:∀ k,bar' k→bar k):Rch bs bar' s j:=by
 induction h with
 | start h=>exact .start fun h'=>h (hb _ h')
 | step _ hs hk ih=>exact .step ih hs fun h'=>hk (hb _ h')

def On (l:List Bool) (j:Nat):Prop:=l.getD j true=true

structure Dfs (bs:List BlkR) (p r:WSt):Prop where
 closed:∀ k,On r.1 k→¬ On p.1 k→∀ s∈succsAt bs k,On r.1 s.toNat

theorem Dfs.refl (bs:List BlkR) (p:WSt):Dfs bs p p:=⟨fun k h1 h2=>absurd h1 h2⟩

theorem Dfs.trans {bs:List BlkR} {p q r:WSt} (hm:WOk q r) (h:Dfs bs p q) (k:Dfs bs q r):Dfs bs p r:=by
 refine⟨fun j h1 h2 s hs=>?_⟩
 by_cases hq:On q.1 j
 ·exact hm.mono _ (h.closed j hq h2 s hs)
 ·exact k.closed j h1 hq s hs

theorem fold_dfs {bs:List BlkR} {n:Nat} (ih:∀ b p,p.1.getD b true=false→cf p.1≤n→Dfs bs p (walkF bs n b p)∧On (walkF bs n b p).1 b) :
  ∀ (ks:List Int) (q:WSt),cf q.1≤n→Dfs bs q (ks.foldl (wstepWith (walkF bs n)) q)∧∀ s∈ks,On (ks.foldl (wstepWith (walkF bs n)) q).1 s.toNat:=by
 intro ks
 induction ks with
 | nil=>intro q _;exact⟨Dfs.refl _ _,fun s hs=>by cases hs⟩
 | cons k r ihk =>
  intro q hq
  simp only[List.foldl_cons]
  obtain⟨ok,_⟩:=wfold_ok bs n r (wstepWith (walkF bs n) q k)
  have h1:WOk q (wstepWith (walkF bs n) q k)∧Dfs bs q (wstepWith (walkF bs n) q k)∧On (wstepWith (walkF bs n) q k).1 k.toNat:=by
   unfold wstepWith
   split
   ·rename_i h;exact⟨WOk.refl _,Dfs.refl _ _,h⟩
   ·rename_i h
    obtain⟨a,b⟩:=ih k.toNat q (by simpa using h) hq
    exact⟨(walkF_ok bs n _ q).1,a,b⟩
  obtain⟨a,b⟩:=ihk (wstepWith (walkF bs n) q k) (Nat.le_trans h1.1.le hq)
  refine⟨Dfs.trans ok h1.2.1 a,fun s hs=>?_⟩
  rcases List.mem_cons.1 hs with rfl | hs
  ·exact ok.mono _ h1.2.2
  ·exact b s hs

theorem on_set {l:List Bool} {b j:Nat} (hb:b<l.length):On (l.set b true) j↔On l j∨j=b:=by
 unfold On
 rw[List.getD_eq_getElem?_getD,List.getElem?_set]
 by_cases h:b=j
 ·subst h;simp[hb]
 ·have h2:¬ j=b:=fun e=>h e.symm
  simp[h,h2]

theorem walkF_dfs (bs:List BlkR):∀ n b p,p.1.getD b true=false→cf p.1≤n→Dfs bs p (walkF bs n b p)∧On (walkF bs n b p).1 b:=by
 intro n
 induction n with
 | zero =>
  intro b p hb hc
  have:=cf_set hb
  omega
 | succ n ih =>
  intro b p hb hc
  have hbl:=unseen_lt hb
  have hcs:=cf_set hb
  obtain⟨⟨h1⟩,h2⟩:=fold_dfs ih (succsAt bs b) (p.1.set b true,p.2) (by simp only;omega)
  obtain⟨ok,_⟩:=wfold_ok bs n (succsAt bs b) (p.1.set b true,p.2)
  have hon:On (walkF bs (n+1) b p).1 b:=ok.mono _ ((on_set hbl).2 (.inr rfl))
  refine⟨⟨fun k hk hn s hs=>?_⟩,hon⟩
  by_cases e:k=b
  ·subst e;exact h2 s hs
  ·exact h1 k hk (fun h=>by
    rcases (on_set hbl).1 h with h | h
    ·exact hn h
    ·exact e h) s hs

theorem walkF_only (bs:List BlkR) (hin:InRange bs):∀ n b p (Q:Nat→Prop),Q b→(∀ j,Q j→∀ s∈succsAt bs j,¬ On p.1 s.toNat→Q s.toNat)→∀ j,On (walkF bs n b p).1 j→On p.1 j∨Q j:=by
 intro n
 induction n with
 | zero=>intro b p Q _ _ j hj;exact .inl hj
 | succ n ih =>
  intro b p Q hQ hQs j hj
  have hf:∀ (ks:List Int) (q:WSt),(∀ s∈ks,s∈succsAt bs b)→(∀ j,On p.1 j→On q.1 j)→(∀ j,On q.1 j→On p.1 j∨Q j)→∀ j,On (ks.foldl (wstepWith (walkF bs n)) q).1 j→On p.1 j∨Q j:=by
   intro ks
   induction ks with
   | nil=>intro q _ _ h2 j hj;exact h2 j hj
   | cons k r ihk =>
    intro q hks hmn h2 j hj
    simp only[List.foldl_cons]at hj
    refine ihk (wstepWith (walkF bs n) q k) (fun s hs=>hks s (by simp[hs])) (fun j hj=>?_) ?_ j hj
    ·unfold wstepWith
     split
     ·exact hmn j hj
     ·exact (walkF_ok bs n _ q).1.mono _ (hmn j hj)
    ·intro j hj
     unfold wstepWith at hj
     split at hj
     ·exact h2 j hj
     ·rename_i hun
      rcases ih k.toNat q Q (hQs b hQ k (hks k (by simp)) fun h=>hun (hmn _ h)) (fun j hj s hs hn=>hQs j hj s hs fun h=>hn (hmn _ h)) j hj with h | h
      ·exact h2 j h
      ·exact .inr h
  by_cases hbl:b<p.1.length
  ·exact hf (succsAt bs b) (p.1.set b true,p.2) (fun s hs=>hs) (fun j hj=>(on_set hbl).2 (.inl hj)) (fun j hj=>by
    rcases (on_set hbl).1 hj with h | h
    ·exact .inl h
    ·subst h;exact .inr hQ) j hj
  ·have e:p.1.set b true=p.1:=List.set_eq_of_length_le (by omega)
   exact hf (succsAt bs b) (p.1.set b true,p.2) (fun s hs=>hs) (fun j hj=>by rw[e];exact hj) (fun j hj=>by rw[e]at hj;exact .inl hj) j hj

theorem walkF_rch {bs:List BlkR} (hin:InRange bs) {n b:Nat} {p:WSt} (hb:p.1.getD b true=false) (hc:cf p.1≤n) (hl:p.1.length=bs.length) (j:Nat) (hj:j<bs.length) :
  On (walkF bs n b p).1 j↔On p.1 j∨Rch bs (On p.1) b j:=by
 have hnb:¬ On p.1 b:=by unfold On;rw[hb];simp
 constructor
 ·intro h
  refine walkF_only bs hin n b p (Rch bs (On p.1) b) (.start hnb) (fun j hj s hs hn=>?_) j h
  obtain⟨h0,h1⟩:=hin j s hs
  exact .step hj (by rw[Int.toNat_of_nonneg h0];exact hs) hn
 ·obtain⟨⟨h1⟩,h2⟩:=walkF_dfs bs n b p hb hc
  rintro (h | h)
  ·exact (walkF_ok bs n b p).1.mono _ h
  ·clear hj
   induction h with
   | start _=>exact h2
   | step hr hs hk ih =>
    have:=h1 _ ih hr.free _ hs
    simpa using this

theorem rch_trans {bs:List BlkR} {s x a b:Nat} (h:Rch bs (·=x) s b):Rch bs (·=a) s b∨Rch bs (·=x) s a:=by
 induction h with
 | start hs =>
  by_cases e:s=a
  ·subst e;exact .inr (.start hs)
  ·exact .inl (.start e)
 | @step j k hj hs hk ih =>
  rcases ih with ih | ih
  ·by_cases e:k=a
   ·subst e;exact .inr (.step hj hs hk)
   ·exact .inl (.step ih hs e)
  ·exact .inr ih
theorem on_falses {n j:Nat} (hj:j<n):¬ On (falses n) j:=by
 unfold On falses
 rw[List.getD_eq_getElem?_getD,List.getElem?_eq_getElem (by simpa using hj)];simp

theorem getD_dd {l:List Bool} {j:Nat} (hj:j<l.length):l.getD j false=true↔On l j:=by
 unfold On
 rw[getD_at hj,getD_at hj]

theorem seen_rch {bs:List BlkR} (hin:InRange bs) {j:Nat} (hj:j<bs.length):(seenF bs).getD j false=true↔Rch bs (fun _=>False) 0 j:=by
 have h0:0<bs.length:=by omega
 rw[getD_dd (by rw[show (seenF bs).length=bs.length from (walk0_ok h0).1];exact hj)]
 have h:=walkF_rch hin (n:=bs.length) (b:=0) (p:=(List.replicate bs.length false,[])) (getD_falses h0) (by rw[cf_falses];exact Nat.le_refl _) (by simp) j hj
 unfold seenF walk0
 rw[h]
 clear h
 have hb:∀ k,k<bs.length→¬ On (List.replicate bs.length false) k:=fun k hk=>on_falses hk
 have hr:∀ {k},Rch bs (On (List.replicate bs.length false)) 0 k→Rch bs (fun _=>False) 0 k:=fun hk=>hk.mono fun _ h=>h.elim
 constructor
 ·rintro (h | h)
  ·exact absurd h (hb j hj)
  ·exact hr h
 ·intro h
  refine .inr ?_
  clear hj
  induction h with
  | start _=>exact .start (hb 0 h0)
  | @step a k _ hs _ ih=>exact .step ih hs (hb k (by have:=(hin a k hs).2;omega))

theorem rch_zero {bs:List BlkR} {j:Nat} (h:Rch bs (·=0) 0 j):False:=by
 induction h with
 | start h=>exact h rfl
 | step _ _ _ ih=>exact ih

theorem without_rch {bs:List BlkR} (hin:InRange bs) {a b:Nat} (ha:a<bs.length) (hb:b<bs.length):(withoutF bs a).getD b false=true↔Rch bs (·=a) 0 b:=by
 have h0:0<bs.length:=by omega
 unfold withoutF
 by_cases e:a=0
 ·rw[if_pos e]
  subst e
  rw[getD_dd (by simpa [falses] using hb)]
  exact⟨fun h=>absurd h (on_falses hb),fun h=>(rch_zero h).elim⟩
 ·rw[if_neg e]
  have hwl:(walkB bs a).1.length=bs.length:=by unfold walkB;rw[(walkF_ok bs bs.length 0 _).1.len];simp[falses]
  have hr:=walkF_rch hin (n:=bs.length) (b:=0) (p:=((falses bs.length).set a true,[])) (getD_falses' h0 e) (Nat.le_trans (cf_le_len _) (by simp[falses])) (by simp[falses])
  have hon:∀ k,k<bs.length→(On ((falses bs.length).set a true) k↔k=a):=fun k hk=>by
   rw[on_set (by simpa [falses] using ha)]
   exact⟨fun h=>h.resolve_left (on_falses hk),.inr⟩
  have hto:∀ {k},Rch bs (On ((falses bs.length).set a true)) 0 k↔Rch bs (·=a) 0 k:=by
   intro k
   constructor
   ·intro h
    exact h.mono fun j hj=>by subst hj;exact (hon j ha).2 rfl
   ·intro h
    induction h with
    | start h=>exact .start fun h'=>h ((hon 0 h0).1 h')
    | @step j k _ hs hk ih=>exact .step ih hs fun h'=>hk ((hon k (by have:=(hin j k hs).2;omega)).1 h')
  by_cases eb:b=a
  ·subst eb
   rw[List.getD_eq_getElem?_getD,List.getElem?_set,if_pos rfl,if_pos (by omega)]
   constructor
   ·intro h;simp at h
   ·intro h;exact absurd rfl h.free
  ·have e1:((walkB bs a).1.set a false).getD b false=(walkB bs a).1.getD b false:=by
    rw[List.getD_eq_getElem?_getD,List.getD_eq_getElem?_getD,List.getElem?_set,if_neg (fun h=>eb h.symm)]
   rw[e1,getD_dd (by omega)]
   unfold walkB
   rw[hr b hb,hto,hon b hb]
   exact⟨fun h=>h.resolve_left eb,.inr⟩

def Dom (bs:List BlkR) (a b:Nat):Prop:=Rch bs (fun _=>False) 0 a∧Rch bs (fun _=>False) 0 b∧¬ Rch bs (·=a) 0 b

theorem domB_iff {bs:List BlkR} (hin:InRange bs) {a b:Nat} (ha:a<bs.length) (hb:b<bs.length):domB bs b a=true↔Dom bs a b:=by
 unfold domB Dom
 rw[Bool.and_eq_true,Bool.and_eq_true,seen_rch hin ha,seen_rch hin hb,Bool.not_eq_true',← without_rch hin ha hb,and_assoc]
 constructor
 ·rintro⟨h1,h2,h3⟩;exact⟨h1,h2,by rw[h3];simp⟩
 ·rintro⟨h1,h2,h3⟩;exact⟨h1,h2,by simpa using h3⟩

theorem Dom.trans {bs:List BlkR} {x a b:Nat} (h:Dom bs x a) (k:Dom bs a b):Dom bs x b:=by
 refine⟨h.1,k.2.1,fun hr=>?_⟩
 rcases rch_trans (a:=a) hr with h1 | h1
 ·exact k.2.2 h1
 ·exact h.2.2 h1

theorem Dom.self {bs:List BlkR} {b:Nat} (h:Rch bs (fun _=>False) 0 b):Dom bs b b:=⟨h,h,fun hr=>hr.free rfl⟩

theorem filter_one {n b:Nat} {q:Nat→Bool} (hb:b<n) (hq:q b=true):((List.range n).filter q).length=((List.range n).filter fun x=>q x && decide (x≠b)).length+1:=by
 induction n with
 | zero=>omega
 | succ n ih =>
  rw[List.range_succ,List.filter_append,List.filter_append,List.length_append,List.length_append]
  by_cases e:b=n
  ·subst e
   have e2:(List.range b).filter (fun x=>q x && decide (x≠b))=(List.range b).filter q:=by
    apply List.filter_congr
    intro x hx
    have:=List.mem_range.1 hx
    rw[decide_eq_true (by omega:x≠b),Bool.and_true]
   rw[e2]
   simp[hq]
  ·have:=ih (by omega)
   have e3:(q n && decide (n≠b))=q n:=by rw[decide_eq_true (by omega:n≠b),Bool.and_true]
   rw[show [n].filter (fun x=>q x && decide (x≠b))=[n].filter q from List.filter_congr (fun x hx=>by rw[List.mem_singleton.1 hx];exact e3)]
   omega
theorem indexFInt {H:Hp} {v:CV} {xs:List Int} (hv:IsI H v xs) (hb:xs.length≤BIG) {fid:Nat} {caps:List CV} (p:Int→Bool)
  (hp:∀ x∈xs,∀ k:IV×Hp→Prop,CM fid (.c (.i x) :: caps.map .c) H k=k (.c (.b (p x)),H)) (k:IV×Hp→Prop) :
  CM 120 [.c v,.f fid caps] H k=k (.c (.i (findI p xs)),H):=by
 refine det (cw120 ?_) k
 unfold vf120c
 simp[hv.lenOf]
 refine wp_for CM_mono xs.length (fun i s=>(∀ j (hj:j<i) (hx:j<xs.length),p xs[j]=false)∧s.h=H∧Env.get s.e 0=.c v∧Env.get s.e 1=.f fid caps∧Env.get s.e 7=.c (.i xs.length)∧Env.get s.e 8=.c (.i i)) (by simp) ?_ ?_
 ·rintro i ⟨e,X⟩ hi ⟨ht,rfl,h0,h1,h7,h8⟩
  simp only at h0 h1 h7 h8 hv hp ⊢
  obtain⟨id,g,off,q1,q2⟩:=hv.at_ hi
  have hpi:=hp xs[i] (List.getElem_mem hi)
  unfold vf120b0
  cases hpx:p xs[i] with
  | false =>
   simp[h0,h1,h7,h8,q1,q2,hi,up1 hi hb,hpi,hpx]
   intro j hj hx
   by_cases e:j=i
   ·subst e;exact hpx
   ·exact ht j (by omega) hx
  | true =>
   simp[h0,h1,h7,h8,q1,q2,hi,up1 hi hb,hpi,hpx,findI_some hi (fun j hj=>ht j hj (by omega)) hpx]
 ·rintro⟨e,X⟩ ⟨ht,rfl,h0,h1,h7,h8⟩
  simp only at h0 h1 h7 h8 ⊢
  unfold vf120b0
  simp[h0,h1,h7,h8,findI_none (fun j hj=>ht j hj hj)]

theorem containsFInt {H:Hp} {v:CV} {xs:List Int} (hv:IsI H v xs) (hb:xs.length≤BIG) {fid:Nat} {caps:List CV} (p:Int→Bool)
  (hp:∀ x∈xs,∀ k:IV×Hp→Prop,CM fid (.c (.i x) :: caps.map .c) H k=k (.c (.b (p x)),H)) (k:IV×Hp→Prop) :
  CM 59 [.c v,.f fid caps] H k=k (.c (.b (xs.any p)),H):=by
 refine det (cw59 ?_) k
 unfold vf59c
 have e:decide (0≤findI p xs)=xs.any p:=by
  cases h:xs.any p with
  | true=>exact decide_eq_true (findI_nonneg.2 h)
  | false=>exact decide_eq_false fun hc=>by rw[findI_nonneg.1 hc]at h;cases h
 simp[indexFInt hv hb p hp,e]

theorem gc_inner {X Z:Hp} {id g n:Nat} (hlt:id<X.length):gcRet X (.c (.sl id g 0 n)) Z=(.c (.sl id g 0 n),Z):=by
 unfold gcRet
 split
 ·rw[if_neg (by simp[flatV,flatC])]
  simp only
  rw[if_neg (by omega)]
 ·rfl
theorem domF_mem {bs:List BlkR} {b:Nat} {x:Int} (h:x∈domF bs b):∃ a:Nat,a<bs.length∧x=a∧domB bs b a=true:=by
 unfold domF domTo at h
 rw[List.mem_map]at h
 obtain⟨a,ha,rfl⟩:=h
 rw[List.mem_filter,List.mem_range]at ha
 exact⟨a,ha.1,rfl,ha.2⟩

theorem mem_domF {bs:List BlkR} {b a:Nat} (ha:a<bs.length) (h:domB bs b a=true):(a:Int)∈domF bs b:=by
 unfold domF domTo
 rw[List.mem_map]
 exact⟨a,by rw[List.mem_filter,List.mem_range];exact⟨ha,h⟩,rfl⟩

theorem domB_of_mem {bs:List BlkR} {b a:Nat} (h:(a:Int)∈domF bs b):domB bs b a=true:=by
 obtain⟨c,_,e,hc⟩:=domF_mem h
 have:a=c:=by omega
 subst this;exact hc
structure RunS where
 vals:List Int
 cells:List Int
 reads:List Int
 told:List Int
 path:List Int

def RunS.get (s:RunS) (v:Int):Int:=s.vals.getD v.toNat 0

def RunS.put (s:RunS) (v x:Int):RunS:={ s with vals:=s.vals.set v.toNat x }

def blk0:BlkR:=⟨[],[],⟨0,0,0,0⟩⟩


structure RunOk (n:Nat) (s:RunS):Prop where
 vals:s.vals.length=n
 cells:s.cells.length=8

theorem RunS.put_len (s:RunS) (v x:Int):(s.put v x).vals.length=s.vals.length:=by simp[RunS.put]

theorem blk_at {bs:List BlkR} {b:Nat} (h:b<bs.length):bs.getD b blk0=bs[b]:=by simp[List.getD_eq_getElem?_getD,h]


theorem insB_word {x:InsR} {m:Int} (h:insB x m=true) (hw:wordOk x.op=true):valB x.d m=true∧valB x.a m=true∧valB x.b m=true:=by
 unfold insB at h;rw[if_pos hw]at h
 simp only[Bool.and_eq_true]at h;exact⟨h.1.1.1,h.1.1.2,h.1.2⟩

theorem ins_kinds {x:InsR} {m:Int} (h:insB x m=true):wordOk x.op=true∨(wordOk x.op=false∧(x.op=20∨x.op=21∨x.op=22∨x.op=23∨x.op=24∨x.op=25)):=by
 cases hw:wordOk x.op with
 | true=>exact .inl rfl
 | false =>
  refine .inr ⟨rfl,?_⟩
  unfold insB at h
  rw[hw]at h
  simp only[Bool.false_eq_true,if_false]at h
  by_cases h1:x.op=20
  ·exact .inl h1
  ·rw[if_neg h1]at h
   by_cases h2:x.op=21∨x.op=25
   ·rcases h2 with h2 | h2
    ·exact .inr (.inl h2)
    ·exact .inr (.inr (.inr (.inr (.inr h2))))
   ·rw[if_neg h2]at h
    by_cases h3:x.op=22
    ·exact .inr (.inr (.inl h3))
    ·rw[if_neg h3]at h
     by_cases h4:x.op=23
     ·exact .inr (.inr (.inr (.inl h4)))
     ·rw[if_neg h4]at h
      by_cases h5:x.op=24
      ·exact .inr (.inr (.inr (.inr (.inl h5))))
      ·rw[if_neg h5]at h;cases h

theorem val_nat {v m:Int} (h:valB v m=true):∃ k:Nat,v=k∧k<m.toNat:=by
 have:=of_decide_eq_true h
 exact⟨v.toNat,by omega,by omega⟩
def edC (xs:List ArmR):List CV:=(xs.map armC).flatten

@[simp] theorem edC_nil:edC []=[]:=rfl

theorem edC_snoc (xs:List ArmR) (a:ArmR):edC (xs++[a])=edC xs++armC a:=by simp[edC]

@[simp] theorem edC_len (xs:List ArmR):(edC xs).length=xs.length * 2:=by
 induction xs with
 | nil=>rfl
 | cons a r ih=>simp[edC,armC]at ih ⊢;omega

theorem edC_flat (xs:List ArmR):(edC xs).all flatC=true:=by
 induction xs with
 | nil=>rfl
 | cons a r ih =>
  have e:edC (a :: r)=.i a.fr :: .i a.v :: edC r:=rfl
  rw[e];simp[flatC]at ih ⊢;exact ih

theorem Own.isE {Y:Hp} {lo:Nat} {w:CV} {n:Nat} {xs:List ArmR} (h:Own Y lo 2 w n (edC xs)):Row armP 2 Y w xs:=by
 rcases h with⟨rfl,rfl,h⟩ | ⟨id,rfl,h1,h2,h3⟩
 ·have:xs=[]:=by
   have:=congrArg List.length h
   simp at this;exact List.length_eq_zero_iff.1 (by omega)
  subst this
  exact⟨[],.inl ⟨rfl,rfl,rfl⟩,rfl,fun k cs x h=>by simp at h⟩
 ·simp at h3
  have h3:n=xs.length:=by omega
  subst h3
  exact Row.mk h2 rfl rfl (by simp) fun k cs x a b=>by
   rw[List.getElem?_map,b]at a
   simp at a;subst a
   exact⟨rfl,rfl⟩

def RowE (H:Hp) (w:CV) (L:Hp) (xs:List ArmR):Prop:=(w=.ns∧L=[]∧xs=[])∨(w=.sl H.length 0 0 xs.length∧L=[⟨edC xs,0,true,2⟩])

theorem RowE.own {H L:Hp} {w:CV} {xs:List ArmR} (h:RowE H w L xs):Own (H++L) H.length 2 w xs.length (edC xs):=by
 rcases h with⟨rfl,rfl,rfl⟩ | ⟨rfl,rfl⟩
 ·exact .inl ⟨rfl,rfl,rfl⟩
 ·exact .inr ⟨_,rfl,Nat.le_refl _,by simp,by simp⟩

theorem RowE.isE {H L:Hp} {w:CV} {xs:List ArmR} (h:RowE H w L xs):Row armP 2 (H++L) w xs:=h.own.isE

def edgs (n:Nat):List ArmR:=(List.range n).map fun (j:Nat)=>⟨1+2 * (j:Int),2+2 * (j:Int)⟩

@[simp] theorem edgs_len (n:Nat):(edgs n).length=n:=by simp[edgs]
theorem int_put {xs:List Int} {i:Nat} (h:i<xs.length) (x:Int):putAt (xs.map CV.i) i [.i x]=(xs.set i x).map .i:=by
 rw[putAt_get (by simpa using h),List.map_set]
theorem IsI.src {H:Hp} {v:CV} {xs:List Int} (h:IsI H v xs):srcOf H 1 v=some (xs.length,xs.map .i):=by
 rcases h with⟨rfl,h0,h⟩ | ⟨id,g,off,o,rfl,h2,h3,h4,h5⟩
 ·have:xs=[]:=List.length_eq_zero_iff.1 h0
  subst this;rfl
 ·rw[Nat.mul_one]at h4 h5
  simp[srcOf,h2,h4,h5]
abbrev RK:=Nat→Nat

def RK.new (κ:RK) (lo hi k:Nat):RK:=fun id=>if lo≤id∧id<hi then k else κ id

def layR (side:Bool) (v:CV) (m e:Int) (vv cv rv tv pv:CV) (fu:Int):List CV:=
 if side=true then [v,.i m,vv,cv,rv,.i fu,tv,pv,.i e] else [vv,cv,rv,tv,pv,.i fu]

def szR (side:Bool):Nat:=if side=true then 9 else 6

structure RP (side:Bool) (v:CV) (m:Int) (n:Nat) (κ:RK) (X:Hp) (c:Nat) (e:Int) (s:RunS) (fu:Int) (vi gv ci:Nat) (rv tv pv:CV):Prop where
 ok:RunOk n s
 ob:rdOb X c 0=some ⟨layR side v m e (.sl vi gv 0 n) (.sl ci 0 0 8) rv tv pv fu,0,true,szR side⟩
 kc:κ c=1
 kv:κ vi=2
 ki:κ ci=3
 vals:rdOb X vi gv=some ⟨s.vals.map .i,gv,true,1⟩
 cells:rdOb X ci 0=some ⟨s.cells.map .i,0,true,1⟩
 reads:IsI X rv s.reads
 kr:∀ id g off k,rv=.sl id g off k→κ id=0
 told:OutR X tv s.told
 kt:∀ id,IsOut tv id→κ id=4
 path:OutR X pv s.path
 kp:∀ id,IsOut pv id→κ id=5
 fr:∀ id,X.length≤id→κ id=0

structure Fr (κ κ':RK) (X Y:Hp):Prop where
 le:X.length≤Y.length
 same:∀ id,id<X.length→κ' id=κ id
 keep:∀ id g o,κ id=0→rdOb X id g=some o→rdOb Y id g=some o

def RInv (side:Bool) (v:CV) (m:Int) (n:Nat) (κ:RK) (X:Hp) (c:Nat) (e:Int) (s:RunS) (fu:Int):Prop:=
 ∃ vi gv ci rv tv pv,RP side v m n κ X c e s fu vi gv ci rv tv pv

theorem Fr.refl (κ:RK) (X:Hp):Fr κ κ X X:=⟨Nat.le_refl _,fun _ _=>rfl,fun _ _ _ _ h=>h⟩

theorem Fr.trans {κ κ' κ'':RK} {X Y Z:Hp} (h:Fr κ κ' X Y) (k:Fr κ' κ'' Y Z):Fr κ κ'' X Z:=
 ⟨Nat.le_trans h.le k.le,fun id hi=>(k.same id (Nat.lt_of_lt_of_le hi h.le)).trans (h.same id hi),fun id g o h0 ho=>k.keep id g o (by rw[h.same id (rdOb_lt ho)];exact h0) (h.keep id g o h0 ho)⟩

theorem Fr.app (κ:RK) (X L:Hp):Fr κ κ X (X++L):=⟨by simp,fun _ _=>rfl,fun _ _ _ _ h=>rdOb_app L h⟩

theorem Fr.set {κ:RK} {X:Hp} {i:Nat} (h:κ i≠0) (o:Ob):Fr κ κ X (X.set i o):=⟨by simp,fun _ _=>rfl,fun id g ob h0 ho=>by rw[rdOb_set_ne (fun e=>h (by rw[← e];exact h0))];exact ho⟩

theorem Fr.pre {H X Y:Hp} {κ κ':RK} (h:Fr κ κ' X Y) (hp:Pre H X) (hk:∀ id,id<H.length→κ id=0):Pre H Y:=
 Low.pre (lo:=H.length) (fun id g o hi ho=>h.keep id g o (hk id hi) ho) hp (Nat.le_refl _)

theorem Fr.isI {X Y:Hp} {κ κ':RK} (h:Fr κ κ' X Y) {w:CV} {xs:List Int} (hw:IsI X w xs) (hk:∀ id g off k,w=.sl id g off k→κ id=0):IsI Y w xs:=by
 rcases hw with hw | ⟨id,g,off,o,rfl,h2,h3⟩
 ·exact .inl hw
 ·exact .inr ⟨id,g,off,o,rfl,h.keep _ _ _ (hk _ _ _ _ rfl) h2,h3⟩

section

variable {side:Bool} {v:CV} {m e:Int} {n:Nat} {κ:RK} {X:Hp} {c:Nat} {s:RunS} {fu:Int} {vi gv ci:Nat} {rv tv pv:CV}

theorem RP.app (h:RP side v m n κ X c e s fu vi gv ci rv tv pv) (L:Hp):RP side v m n κ (X++L) c e s fu vi gv ci rv tv pv:=
 ⟨h.ok,rdOb_app L h.ob,h.kc,h.kv,h.ki,rdOb_app L h.vals,rdOb_app L h.cells,Sl.app L h.reads,h.kr,h.told.keep fun _ _ _ _ k=>rdOb_app L k,h.kt,h.path.keep fun _ _ _ _ k=>rdOb_app L k,h.kp,
  fun id hi=>h.fr id (by simp only[List.length_append]at hi;omega)⟩

theorem RInv.app (h:RInv side v m n κ X c e s fu) (L:Hp):RInv side v m n κ (X++L) c e s fu:=by
 obtain⟨vi,gv,ci,rv,tv,pv,h⟩:=h;exact⟨vi,gv,ci,rv,tv,pv,h.app L⟩

theorem isI_keep {X Y:Hp} {w:CV} {xs:List Int} (hw:IsI X w xs) (hk:∀ id g off k o,w=.sl id g off k→rdOb X id g=some o→rdOb Y id g=some o):IsI Y w xs:=by
 rcases hw with hw | ⟨id,g,off,o,rfl,h2,h3⟩
 ·exact .inl hw
 ·exact .inr ⟨id,g,off,o,rfl,hk _ _ _ _ _ rfl h2,h3⟩

theorem RP.put (h:RP side v m n κ X c e s fu vi gv ci rv tv pv) (k:Int) (x:Int):RP side v m n κ (X.set vi ⟨(s.put k x).vals.map .i,gv,true,1⟩) c e (s.put k x) fu vi gv ci rv tv pv:=by
 have ne:∀ id j,κ id=j→j≠2→id≠vi:=fun id j h1 h2 e=>h2 (by rw[← h1,e,h.kv])
 refine⟨⟨by rw[RunS.put_len];exact h.ok.vals,h.ok.cells⟩,?_,h.kc,h.kv,h.ki,?_,?_,?_,h.kr,?_,h.kt,?_,h.kp,?_⟩
 ·rw[rdOb_set_ne (ne _ _ h.kc (by omega))];exact h.ob
 ·rw[rdOb_set_self (rdOb_lt h.vals)];simp
 ·rw[rdOb_set_ne (ne _ _ h.ki (by omega))];exact h.cells
 ·exact isI_keep h.reads fun id g off k o he ho=>by rw[rdOb_set_ne (ne _ _ (h.kr _ _ _ _ he) (by omega))];exact ho
 ·exact h.told.keep fun id g o hi ho=>by rw[rdOb_set_ne (ne _ _ (h.kt _ hi) (by omega))];exact ho
 ·exact h.path.keep fun id g o hi ho=>by rw[rdOb_set_ne (ne _ _ (h.kp _ hi) (by omega))];exact ho
 ·intro id hi;rw[List.length_set]at hi;exact h.fr id hi

theorem RP.cell (h:RP side v m n κ X c e s fu vi gv ci rv tv pv) (k:Nat) (x:Int):RP side v m n κ (X.set ci ⟨(s.cells.set k x).map .i,0,true,1⟩) c e { s with cells:=s.cells.set k x } fu vi gv ci rv tv pv:=by
 have ne:∀ id j,κ id=j→j≠3→id≠ci:=fun id j h1 h2 e=>h2 (by rw[← h1,e,h.ki])
 refine⟨⟨h.ok.vals,by simp[h.ok.cells]⟩,?_,h.kc,h.kv,h.ki,?_,?_,?_,h.kr,?_,h.kt,?_,h.kp,?_⟩
 ·rw[rdOb_set_ne (ne _ _ h.kc (by omega))];exact h.ob
 ·rw[rdOb_set_ne (ne _ _ h.kv (by omega))];exact h.vals
 ·rw[rdOb_set_self (rdOb_lt h.cells)];simp
 ·exact isI_keep h.reads fun id g off k o he ho=>by rw[rdOb_set_ne (ne _ _ (h.kr _ _ _ _ he) (by omega))];exact ho
 ·exact h.told.keep fun id g o hi ho=>by rw[rdOb_set_ne (ne _ _ (h.kt _ hi) (by omega))];exact ho
 ·exact h.path.keep fun id g o hi ho=>by rw[rdOb_set_ne (ne _ _ (h.kp _ hi) (by omega))];exact ho
 ·intro id hi;rw[List.length_set]at hi;exact h.fr id hi

theorem RP.own (h:RP side v m n κ X c e s fu vi gv ci rv tv pv) {e' fu':Int} {rv':CV} {rs:List Int} (hr:IsI X rv' rs) (kr:∀ id g off k,rv'=.sl id g off k→κ id=0) :
  RP side v m n κ (X.set c ⟨layR side v m e' (.sl vi gv 0 n) (.sl ci 0 0 8) rv' tv pv fu',0,true,szR side⟩) c e' { s with reads:=rs } fu' vi gv ci rv' tv pv:=by
 have ne:∀ id j,κ id=j→j≠1→id≠c:=fun id j h1 h2 e=>h2 (by rw[← h1,e,h.kc])
 refine⟨⟨h.ok.vals,h.ok.cells⟩,?_,h.kc,h.kv,h.ki,?_,?_,?_,kr,?_,h.kt,?_,h.kp,?_⟩
 ·rw[rdOb_set_self (rdOb_lt h.ob)];simp
 ·rw[rdOb_set_ne (ne _ _ h.kv (by omega))];exact h.vals
 ·rw[rdOb_set_ne (ne _ _ h.ki (by omega))];exact h.cells
 ·exact isI_keep hr fun id g off k o he ho=>by rw[rdOb_set_ne (ne _ _ (kr _ _ _ _ he) (by omega))];exact ho
 ·exact h.told.keep fun id g o hi ho=>by rw[rdOb_set_ne (ne _ _ (h.kt _ hi) (by omega))];exact ho
 ·exact h.path.keep fun id g o hi ho=>by rw[rdOb_set_ne (ne _ _ (h.kp _ hi) (by omega))];exact ho
 ·intro id hi;rw[List.length_set]at hi;exact h.fr id hi

end

theorem map_i_inj' {xs ys:List Int} (h:xs.map CV.i=ys.map CV.i):xs=ys:=map_i_inj.1 h

theorem isI_uniq {X:Hp} {w:CV} {xs ys:List Int} (h:IsI X w xs) (k:IsI X w ys):xs=ys:=by
 rcases h with⟨rfl,h1,h2⟩ | ⟨id,g,off,o,rfl,h2,_,_,h5⟩
 ·rcases k with⟨_,k1,k2⟩ | ⟨_,_,_,_,k1,_⟩
  ·have a:xs=[]:=List.length_eq_zero_iff.1 h1
   have b:ys=[]:=List.length_eq_zero_iff.1 k1
   rw[a,b]
  ·cases k1
 ·rcases k with⟨k1,_⟩ | ⟨id',g',off',o',k1,k2,_,_,k5⟩
  ·cases k1
  ·simp only[CV.sl.injEq]at k1
   obtain⟨rfl,rfl,rfl,e4⟩:=k1
   rw[h2]at k2;injection k2 with k2;subst k2
   rw[e4,k5]at h5
   exact map_i_inj' h5.symm

theorem outR_uniq {X:Hp} {w:CV} {xs ys:List Int} (h:OutR X w xs) (k:OutR X w ys):xs=ys:=by
 rcases h with⟨rfl,rfl⟩ | ⟨o,g,rfl,ho⟩
 ·rcases k with⟨_,rfl⟩ | ⟨_,_,h,_⟩
  ·rfl
  ·cases h
 ·rcases k with⟨h,_⟩ | ⟨o',g',h,ho'⟩
  ·cases h
  ·simp only[CV.sl.injEq]at h
   obtain⟨rfl,rfl,_,_⟩:=h
   rw[ho]at ho'
   injection ho' with h;injection h with h
   exact map_i_inj' h

theorem RInv.gc {side:Bool} {v:CV} {m e e':Int} {n:Nat} {κ κ':RK} {X Y:Hp} {c:Nat} {s s':RunS} {fu fu':Int} (h:RInv side v m n κ X c e s fu) (h':RInv side v m n κ' Y c e' s' fu') (hf:Fr κ κ' X Y) {r:IV} (hr:flatV r=true) :
  ∃ κ'' Z,gcRet X r Y=(r,Z)∧RInv side v m n κ'' Z c e' s' fu'∧Fr κ κ'' X Z:=by
 by_cases ht:Y.take X.length=X
 ·obtain⟨vi,gv,ci,rv,tv,pv,h⟩:=h
  obtain⟨vi',gv',ci',rv',tv',pv',h'⟩:=h'
  have hp:Pre X Y:=⟨Y.drop X.length,by have:=List.take_append_drop X.length Y;rw[ht]at this;exact this.symm⟩
  have hob:=hp.rdOb h.ob
  rw[h'.ob]at hob
  injection hob with hob
  have hl:layR side v m e' (.sl vi' gv' 0 n) (.sl ci' 0 0 8) rv' tv' pv' fu'=layR side v m e (.sl vi gv 0 n) (.sl ci 0 0 8) rv tv pv fu:=congrArg Ob.cells hob
  have key:vi'=vi∧gv'=gv∧ci'=ci∧rv'=rv∧tv'=tv∧pv'=pv∧fu'=fu∧(side=true→e'=e):=by
   unfold layR at hl
   cases side with
   | true=>simp at hl;simp[hl]
   | false=>simp at hl;simp[hl]
  obtain⟨rfl,rfl,rfl,rfl,rfl,rfl,rfl,he⟩:=key
  have e1:s'.vals=s.vals:=by
   have:=hp.rdOb h.vals
   rw[h'.vals]at this
   injection this with this;injection this with this
   exact map_i_inj' this
  have e2:s'.cells=s.cells:=by
   have:=hp.rdOb h.cells
   rw[h'.cells]at this
   injection this with this;injection this with this
   exact map_i_inj' this
  have e3:s'.reads=s.reads:=isI_uniq h'.reads (Sl.pre hp h.reads)
  have e4:s'.told=s.told:=outR_uniq h'.told (h.told.keep fun _ _ _ _ k=>hp.rdOb k)
  have e5:s'.path=s.path:=outR_uniq h'.path (h.path.keep fun _ _ _ _ k=>hp.rdOb k)
  have es:s'=s:=by
   cases s;cases s'
   simp only at e1 e2 e3 e4 e5
   subst e1;subst e2;subst e3;subst e4;subst e5;rfl
  subst es
  refine⟨κ,X,gcRet_flat hp hr,⟨vi',gv',ci',rv',tv',pv',?_⟩,Fr.refl _ _⟩
  have hob2:layR side v m e' (.sl vi' gv' 0 n) (.sl ci' 0 0 8) rv' tv' pv' fu'=layR side v m e (.sl vi' gv' 0 n) (.sl ci' 0 0 8) rv' tv' pv' fu':=hl
  exact⟨h.ok,by rw[hob2];exact h.ob,h.kc,h.kv,h.ki,h.vals,h.cells,h.reads,h.kr,h.told,h.kt,h.path,h.kp,h.fr⟩
 ·exact⟨κ',Y,by unfold gcRet;rw[if_neg ht],h',hf⟩
end Go.Proofs.YtiecgmmaihckeaaGreat.Vm
