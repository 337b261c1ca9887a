/- A part of the proof: the machine and the walks. No conditions. -/
import Derived.Test.YtiecgmmaihckeaaGreatW5
namespace Go.Proofs.YtiecgmmaihckeaaGreat.Vm
open Go.RowKit (wrap64)
set_option linter.unusedSimpArgs false
set_option linter.unusedVariables false
set_option maxRecDepth 100000
inductive KK where
 | old | ints | cur | gen | blks | phis (b:Nat) | list (b:Nat) | arms
 deriving DecidableEq

def stab:KK→Bool
 | .old=>true
 | .ints=>true
 | .arms=>true
 | _=>false

abbrev KM:=Nat→KK

def KM.put (κ:KM) (i:Nat) (k:KK):KM:=fun j=>if j=i then k else κ j

@[simp] theorem KM.put_self (κ:KM) (i:Nat) (k:KK):κ.put i k i=k:=by simp[KM.put]

theorem KM.put_ne (κ:KM) {i j:Nat} (k:KK) (h:j≠i):κ.put i k j=κ j:=by simp[KM.put,h]

def ArmsK (X:Hp) (κ:KM) (w:CV):Prop:=∃ id g off m cs,w=.sl id g off m∧κ id=.arms∧rdOb X id g=some ⟨cs,g,true,2⟩∧allInt cs=true∧off+m * 2≤cs.length∧m≤4∧1≤m

def PhisK (X:Hp) (κ:KM) (b:Nat) (z:CV) (p:Nat):Prop:=(z=.ns∧p=0)∨∃ id g cs,z=.sl id g 0 p∧κ id=.phis b∧rdOb X id g=some ⟨cs,g,true,2⟩∧cs.length=p * 2 ∧
 ∀ k,k<p→∃ d w,cs[k * 2]? = some (.i d)∧cs[k * 2+1]? = some w∧ArmsK X κ w

def ListK (X:Hp) (κ:KM) (b:Nat) (u:CV) (l:Nat):Prop:=(u=.ns∧l=0)∨∃ id g cs,u=.sl id g 0 l∧κ id=.list b∧rdOb X id g=some ⟨cs,g,true,5⟩∧cs.length=l * 5∧allInt cs=true

structure BlkK (X:Hp) (κ:KM) (s b:Nat) (z u:CV) (p l:Nat):Prop where
 ph:PhisK X κ b z p
 ps:p≤s
 li:ListK X κ b u l
 ls:l≤24

def CellK (X:Hp) (κ:KM) (s:Nat) (cells:List CV) (b:Nat):Prop:=∃ z u a1 a2 a3 a4 p l,cells[b * 6]? = some z∧cells[b * 6+1]? = some u∧cells[b * 6+2]? = some (.i a1)∧cells[b * 6+3]? = some (.i a2)∧cells[b * 6+4]? = some (.i a3)∧cells[b * 6+5]? = some (.i a4)∧BlkK X κ s b z u p l

def FK (X:Hp) (κ:KM) (s:Nat) (v:CV) (n:Nat):Prop:=(v=.ns∧n=0)∨∃ d g cells,v=.sl d g 0 n∧κ d=.blks∧rdOb X d g=some ⟨cells,g,true,6⟩∧cells.length=n * 6∧∀ b,b<n→CellK X κ s cells b

def KeepB (κ κ':KM) (Q:KK→Prop) (X Y:Hp):Prop:=∀ id g o,Q (κ id)→rdOb X id g=some o→rdOb Y id g=some o∧κ' id=κ id

theorem ArmsK.keep {X Y:Hp} {κ κ':KM} {w:CV} (h:ArmsK X κ w) (hk:KeepB κ κ' (fun k=>k=.arms) X Y):ArmsK Y κ' w:=by
 obtain⟨id,g,off,m,cs,h1,h2,h3,h4⟩:=h
 obtain⟨a,b⟩:=hk _ _ _ h2 h3
 exact⟨id,g,off,m,cs,h1,by rw[b,h2],a,h4⟩

theorem PhisK.keep {X Y:Hp} {κ κ':KM} {b:Nat} {z:CV} {p:Nat} (h:PhisK X κ b z p) (hk:KeepB κ κ' (fun k=>k=.arms∨k=.phis b) X Y):PhisK Y κ' b z p:=by
 rcases h with h | ⟨id,g,cs,h1,h2,h3,h4,h5⟩
 ·exact .inl h
 ·obtain⟨a,e⟩:=hk _ _ _ (.inr h2) h3
  refine .inr ⟨id,g,cs,h1,by rw[e,h2],a,h4,fun k hk'=>?_⟩
  obtain⟨d,w,q1,q2,q3⟩:=h5 k hk'
  exact⟨d,w,q1,q2,q3.keep fun id g o h ho=>hk id g o (.inl h) ho⟩

theorem ListK.keep {X Y:Hp} {κ κ':KM} {b:Nat} {u:CV} {l:Nat} (h:ListK X κ b u l) (hk:KeepB κ κ' (fun k=>k=.list b) X Y):ListK Y κ' b u l:=by
 rcases h with h | ⟨id,g,cs,h1,h2,h3,h4⟩
 ·exact .inl h
 ·obtain⟨a,e⟩:=hk _ _ _ h2 h3
  exact .inr ⟨id,g,cs,h1,by rw[e,h2],a,h4⟩

def ofB (b:Nat) (k:KK):Prop:=k=.arms∨k=.phis b∨k=.list b

theorem BlkK.keep {X Y:Hp} {κ κ':KM} {s s' b:Nat} {z u:CV} {p l:Nat} (h:BlkK X κ s b z u p l) (hs:s≤s') (hk:KeepB κ κ' (ofB b) X Y):BlkK Y κ' s' b z u p l:=
 ⟨h.ph.keep fun id g o q ho=>hk id g o (by rcases q with q | q;exact .inl q;exact .inr (.inl q)) ho,Nat.le_trans h.ps hs,h.li.keep fun id g o q ho=>hk id g o (.inr (.inr q)) ho,h.ls⟩

theorem CellK.keep {X Y:Hp} {κ κ':KM} {s s' b:Nat} {cells:List CV} (h:CellK X κ s cells b) (hs:s≤s') (hk:KeepB κ κ' (ofB b) X Y):CellK Y κ' s' cells b:=by
 obtain⟨z,u,a1,a2,a3,a4,p,l,h1,h2,h3,h4,h5,h6,h7⟩:=h
 exact⟨z,u,a1,a2,a3,a4,p,l,h1,h2,h3,h4,h5,h6,h7.keep hs hk⟩

def ofF (k:KK):Prop:=k=.blks∨∃ b,ofB b k

theorem FK.keep {X Y:Hp} {κ κ':KM} {s s':Nat} {v:CV} {n:Nat} (h:FK X κ s v n) (hs:s≤s') (hk:KeepB κ κ' ofF X Y):FK Y κ' s' v n:=by
 rcases h with h | ⟨d,g,cells,h1,h2,h3,h4,h5⟩
 ·exact .inl h
 ·obtain⟨a,e⟩:=hk _ _ _ (.inl h2) h3
  exact .inr ⟨d,g,cells,h1,by rw[e,h2],a,h4,fun b hb=>(h5 b hb).keep hs fun id g o q ho=>hk id g o (.inr ⟨b,q⟩) ho⟩

theorem FK.lenOf {X:Hp} {κ:KM} {s:Nat} {v:CV} {n:Nat} (h:FK X κ s v n):lenOf v=some n:=by
 rcases h with⟨rfl,rfl⟩ | ⟨d,g,cells,rfl,_⟩<;>rfl

theorem PhisK.lenOf {X:Hp} {κ:KM} {b:Nat} {v:CV} {n:Nat} (h:PhisK X κ b v n):lenOf v=some n:=by
 rcases h with⟨rfl,rfl⟩ | ⟨d,g,cells,rfl,_⟩<;>rfl

theorem ListK.lenOf {X:Hp} {κ:KM} {b:Nat} {v:CV} {n:Nat} (h:ListK X κ b v n):lenOf v=some n:=by
 rcases h with⟨rfl,rfl⟩ | ⟨d,g,cells,rfl,_⟩<;>rfl


theorem allInt_at {cs:List CV} (h:allInt cs=true) {j:Nat} (hj:j<cs.length):∃ m:Int,cs[j]=.i m:=by
 induction cs generalizing j with
 | nil=>simp at hj
 | cons a r ih =>
  cases a<;>simp[allInt]at h
  cases j with
  | zero=>exact⟨_,rfl⟩
  | succ j=>exact ih h (by simpa using hj)

theorem allInt_app {a b:List CV} (h:allInt a=true) (k:allInt b=true):allInt (a++b)=true:=by
 induction a with
 | nil=>exact k
 | cons x r ih=>cases x<;>simp[allInt]at h ⊢;exact ih h

theorem allInt_set {a:List CV} (h:allInt a=true) (j:Nat) (m:Int):allInt (a.set j (.i m))=true:=by
 induction a generalizing j with
 | nil=>rfl
 | cons x r ih =>
  cases x<;>simp[allInt]at h
  cases j with
  | zero=>simpa [allInt] using h
  | succ j=>simpa [allInt] using ih h j

theorem cut_row {sz:Nat}:∀ {n:Nat} {cells:List CV},cells.length=n * sz→∃ css:List (List CV),css.length=n∧cells=css.flatten∧∀ (k:Nat) cs,css[k]? = some cs→cs=(cells.drop (k * sz)).take sz∧cs.length=sz:=by
 intro n
 induction n with
 | zero =>
  intro cells h
  have:cells=[]:=List.length_eq_zero_iff.1 (by simpa using h)
  subst this
  exact⟨[],rfl,rfl,fun k cs h=>by simp at h⟩
 | succ n ih =>
  intro cells h
  rw[Nat.succ_mul]at h
  obtain⟨css,h1,h2,h3⟩:=ih (cells:=cells.drop sz) (by rw[List.length_drop];omega)
  refine⟨cells.take sz :: css,by simp[h1],by rw[List.flatten_cons,← h2,List.take_append_drop],fun k cs hk=>?_⟩
  cases k with
  | zero =>
   simp at hk;subst hk
   exact⟨by simp,by rw[List.length_take];omega⟩
  | succ k =>
   simp at hk
   obtain⟨e1,e2⟩:=h3 k cs hk
   refine⟨?_,e2⟩
   rw[e1,List.drop_drop,Nat.succ_mul]
   congr 2;omega

theorem row_of {α:Type} {P:Hp→List CV→α→Prop} {sz n id g off:Nat} {X:Hp} {o:Ob} (h1:rdOb X id g=some o) (hs:o.sz=sz) (hl:off+n * sz≤o.cells.length)
  (hP:∀ k,k<n→∃ x,P X ((o.cells.drop (off+k * sz)).take sz) x):∃ xs:List α,xs.length=n∧Row P sz X (.sl id g off n) xs:=by
 obtain⟨css,c1,c2,c3⟩:=cut_row (sz:=sz) (n:=n) (cells:=(o.cells.drop off).take (n * sz)) (by rw[List.length_take,List.length_drop];omega)
 have c4:∀ (k:Nat) cs,css[k]? = some cs→cs=(o.cells.drop (off+k * sz)).take sz∧cs.length=sz:=by
  intro k cs hk
  obtain⟨e1,e2⟩:=c3 k cs hk
  refine⟨?_,e2⟩
  rw[e1,List.drop_take,List.take_take,List.drop_drop]
  congr 1
  have:k<n:=by have:=(List.getElem?_eq_some_iff.1 hk).1;omega
  have:(k+1) * sz≤n * sz:=Nat.mul_le_mul_right _ this
  rw[Nat.succ_mul]at this
  omega
 obtain⟨xs,x1,x2⟩:=choose_list (Q:=fun cs x=>cs.length=sz∧P X cs x) (css:=css) fun cs hcs=>by
  obtain⟨k,hk,rfl⟩:=List.getElem_of_mem hcs
  obtain⟨e1,e2⟩:=c4 k _ (List.getElem?_eq_getElem hk)
  obtain⟨x,hx⟩:=hP k (by omega)
  exact⟨x,e2,by rw[e1];exact hx⟩
 refine⟨xs,by omega,css,.inr ⟨id,g,off,o,by rw[x1,c1],h1,hs,by rw[x1,c1];exact hl,by rw[x1,c1];exact c2⟩,x1.symm,x2⟩

theorem cells2 {cs:List CV} {j:Nat} {a b:CV} (h1:cs[j]? = some a) (h2:cs[j+1]? = some b):(cs.drop j).take 2=[a,b]:=by
 apply List.ext_getElem?
 intro i
 rw[List.getElem?_take]
 rcases i with _ | _ | i
 ·simp[h1]
 ·simp[h2]
 ·rw[if_neg (by omega)];simp

theorem cells5 {cs:List CV} {j:Nat} {a b c d e:CV} (h1:cs[j]? = some a) (h2:cs[j+1]? = some b) (h3:cs[j+2]? = some c) (h4:cs[j+3]? = some d) (h5:cs[j+4]? = some e):(cs.drop j).take 5=[a,b,c,d,e]:=by
 apply List.ext_getElem?
 intro i
 rw[List.getElem?_take]
 rcases i with _ | _ | _ | _ | _ | i
 ·simp[h1]
 ·simp[h2]
 ·simp[h3]
 ·simp[h4]
 ·simp[h5]
 ·rw[if_neg (by omega)];simp

theorem cells6 {cs:List CV} {j:Nat} {a b c d e f:CV} (h1:cs[j]? = some a) (h2:cs[j+1]? = some b) (h3:cs[j+2]? = some c) (h4:cs[j+3]? = some d) (h5:cs[j+4]? = some e) (h6:cs[j+5]? = some f):(cs.drop j).take 6=[a,b,c,d,e,f]:=by
 apply List.ext_getElem?
 intro i
 rw[List.getElem?_take]
 rcases i with _ | _ | _ | _ | _ | _ | i
 ·simp[h1]
 ·simp[h2]
 ·simp[h3]
 ·simp[h4]
 ·simp[h5]
 ·simp[h6]
 ·rw[if_neg (by omega)];simp

theorem ArmsK.row {X:Hp} {κ:KM} {w:CV} (h:ArmsK X κ w):∃ xs:List ArmR,Row armP 2 X w xs∧xs.length≤BIG:=by
 obtain⟨id,g,off,m,cs,rfl,_,h3,h4,h5,h6,_⟩:=h
 obtain⟨xs,e,h⟩:=row_of (P:=armP) (sz:=2) (n:=m) (off:=off) h3 rfl h5 fun k hk=>by
  show ∃ x,armP X ((cs.drop (off+k * 2)).take 2) x
  have hk':(k+1) * 2≤m * 2:=Nat.mul_le_mul_right _ hk
  obtain⟨a,ha⟩:=allInt_at h4 (j:=off+k * 2) (by omega)
  obtain⟨b,hb⟩:=allInt_at h4 (j:=off+k * 2+1) (by omega)
  exact⟨⟨a,b⟩,cells2 (by rw[List.getElem?_eq_getElem (by omega),ha]) (by rw[List.getElem?_eq_getElem (by omega),hb])⟩
 exact⟨xs,h,by simp only[BIG];omega⟩

theorem PhisK.row {X:Hp} {κ:KM} {b:Nat} {z:CV} {p:Nat} (h:PhisK X κ b z p):∃ xs:List PhiR,Phis X z xs∧xs.length=p:=by
 rcases h with⟨rfl,rfl⟩ | ⟨id,g,cs,rfl,_,h3,h4,h5⟩
 ·exact⟨[],Row.ns,rfl⟩
 ·obtain⟨xs,e,h⟩:=row_of (P:=phiP BIG) (sz:=2) (n:=p) (off:=0) h3 rfl (by simp only;omega) fun k hk=>by
   show ∃ x,phiP BIG X ((cs.drop (0+k * 2)).take 2) x
   obtain⟨d,w,q1,q2,q3⟩:=h5 k hk
   obtain⟨ar,r1,r2⟩:=q3.row
   rw[Nat.zero_add]
   exact⟨⟨d,ar⟩,w,cells2 q1 q2,r1,r2⟩
  exact⟨xs,h,e⟩

theorem ListK.row {X:Hp} {κ:KM} {b:Nat} {u:CV} {l:Nat} (h:ListK X κ b u l):∃ xs:List InsR,List5 X u xs∧xs.length=l:=by
 rcases h with⟨rfl,rfl⟩ | ⟨id,g,cs,rfl,_,h3,h4,h5⟩
 ·exact⟨[],Row.ns,rfl⟩
 ·obtain⟨xs,e,h⟩:=row_of (P:=insP) (sz:=5) (n:=l) (off:=0) h3 rfl (by simp only;omega) fun k hk=>by
   show ∃ x,insP X ((cs.drop (0+k * 5)).take 5) x
   have hk':(k+1) * 5≤l * 5:=Nat.mul_le_mul_right _ hk
   obtain⟨m1,e1⟩:=allInt_at h5 (j:=k * 5) (by omega)
   obtain⟨m2,e2⟩:=allInt_at h5 (j:=k * 5+1) (by omega)
   obtain⟨m3,e3⟩:=allInt_at h5 (j:=k * 5+2) (by omega)
   obtain⟨m4,e4⟩:=allInt_at h5 (j:=k * 5+3) (by omega)
   obtain⟨m5,e5⟩:=allInt_at h5 (j:=k * 5+4) (by omega)
   rw[Nat.zero_add]
   exact⟨⟨m1,m2,m3,m4,m5⟩,cells5 (by rw[List.getElem?_eq_getElem (by omega),e1]) (by rw[List.getElem?_eq_getElem (by omega),e2]) (by rw[List.getElem?_eq_getElem (by omega),e3]) (by rw[List.getElem?_eq_getElem (by omega),e4]) (by rw[List.getElem?_eq_getElem (by omega),e5])⟩
  exact⟨xs,h,e⟩

theorem FK.row {X:Hp} {κ:KM} {s:Nat} {v:CV} {n:Nat} (h:FK X κ s v n) (hs:s≤BIG):∃ bs:List BlkR,Blocks X v bs∧bs.length=n:=by
 rcases h with⟨rfl,rfl⟩ | ⟨id,g,cs,rfl,_,h3,h4,h5⟩
 ·exact⟨[],Row.ns,rfl⟩
 ·obtain⟨xs,e,h⟩:=row_of (P:=blkP BIG) (sz:=6) (n:=n) (off:=0) h3 rfl (by simp only;omega) fun k hk=>by
   show ∃ x,blkP BIG X ((cs.drop (0+k * 6)).take 6) x
   obtain⟨z,u,a1,a2,a3,a4,p,l,c1,c2,c3,c4,c5,c6,hB⟩:=h5 k hk
   obtain⟨ps,r1,r2⟩:=hB.ph.row
   obtain⟨ls,r3,r4⟩:=hB.li.row
   have hp:=hB.ps
   have hl:=hB.ls
   rw[Nat.zero_add]
   exact⟨⟨ps,ls,⟨a1,a2,a3,a4⟩⟩,z,u,cells6 c1 c2 c3 c4 c5 c6,r1,r3,by show ps.length≤BIG;omega,by show ls.length≤BIG;simp only[BIG];omega⟩
  exact⟨xs,h,e⟩
structure Stp (κ κ':KM) (X Y:Hp):Prop where
 le:X.length≤Y.length
 kap:∀ id,id<X.length→κ' id=κ id
 keep:∀ id g o,stab (κ id)=true→rdOb X id g=some o→rdOb Y id g=some o

theorem Stp.refl (κ:KM) (X:Hp):Stp κ κ X X:=⟨Nat.le_refl _,fun _ _=>rfl,fun _ _ _ _ h=>h⟩

theorem Stp.trans {κ κ' κ'':KM} {X Y Z:Hp} (h:Stp κ κ' X Y) (k:Stp κ' κ'' Y Z):Stp κ κ'' X Z:=
 ⟨Nat.le_trans h.le k.le,fun id hi=>by rw[k.kap id (Nat.lt_of_lt_of_le hi h.le),h.kap id hi],fun id g o hs ho=>k.keep id g o (by rw[h.kap id (rdOb_lt ho)];exact hs) (h.keep id g o hs ho)⟩

theorem Stp.app {κ κ':KM} (X L:Hp) (h:∀ id,id<X.length→κ' id=κ id):Stp κ κ' X (X++L):=⟨by simp,h,fun _ _ _ _ h=>rdOb_app L h⟩

theorem Stp.set {κ:KM} {X:Hp} {i:Nat} {o:Ob} (h:stab (κ i)=false):Stp κ κ X (X.set i o):=
 ⟨by simp,fun _ _=>rfl,fun id g ob hs ho=>by rw[rdOb_set_ne];exact ho;rintro rfl;rw[h]at hs;cases hs⟩

theorem Stp.curL {κ:KM} {X Y:Hp} {c:Nat} (hc:κ c=.cur) (h:CurL c X Y):Stp κ κ X Y:=
 ⟨h.le,fun _ _=>rfl,fun id g ob hs ho=>h.keep id g ob (by rintro rfl;rw[hc]at hs;cases hs) ho⟩

def KnownK (X:Hp) (κ:KM) (v:CV) (k:Nat):Prop:=(∃ xs,IsI X v xs∧xs.length=k)∧∀ id g off m,v=.sl id g off m→stab (κ id)=true

theorem KnownK.keep {X Y:Hp} {κ κ':KM} {v:CV} {k:Nat} (h:KnownK X κ v k) (hs:Stp κ κ' X Y):KnownK Y κ' v k:=by
 obtain⟨⟨xs,h1,h2⟩,h3⟩:=h
 rcases h1 with⟨rfl,a,b⟩ | ⟨id,g,off,o,rfl,a,b⟩
 ·exact⟨⟨xs,.inl ⟨rfl,a,b⟩,h2⟩,fun id g off m h=>by cases h⟩
 ·refine⟨⟨xs,.inr ⟨id,g,off,o,rfl,hs.keep _ _ _ (h3 _ _ _ _ rfl) a,b⟩,h2⟩,fun id' g' off' m' h=>?_⟩
  cases h
  rw[hs.kap _ (rdOb_lt a)];exact h3 _ _ _ _ rfl

theorem KnownK.lenOf {X:Hp} {κ:KM} {v:CV} {k:Nat} (h:KnownK X κ v k):lenOf v=some k:=by
 obtain⟨⟨xs,h1,rfl⟩,_⟩:=h;exact h1.lenOf

structure GW (X:Hp) (κ:KM) (c g s n:Nat):Prop where
 cur:Cur X c
 kc:κ c=.cur
 kg:κ g=.gen
 fr:∀ id,X.length≤id→κ id=.old
 low:∀ id,id<c→κ id=.old
 gen:∃ v m,rdOb X g 0=some ⟨[.p c 0 0,v,.i m],0,true,3⟩∧FK X κ s v n

theorem GW.curL {X Y:Hp} {κ:KM} {c g s n:Nat} (h:GW X κ c g s n) (hc:CurL c X Y):GW Y κ c g s n∧Stp κ κ X Y:=by
 obtain⟨v,m,h1,h2⟩:=h.gen
 have key:∀ id,κ id≠.cur→id≠c:=fun id hi e=>by subst e;exact hi h.kc
 refine⟨⟨hc.cur,h.kc,h.kg,fun id hi=>h.fr id (Nat.le_trans hc.le hi),h.low,v,m,hc.keep _ _ _ (key _ (by rw[h.kg];simp)) h1,h2.keep (Nat.le_refl _) fun id g o q ho=>⟨hc.keep _ _ _ (key _ ?_) ho,rfl⟩⟩,Stp.curL h.kc hc⟩
 rcases q with q | ⟨b,q | q | q⟩<;>rw[q]<;>simp

theorem GW.app {X:Hp} {κ κ':KM} {c g s n:Nat} (h:GW X κ c g s n) (L:Hp) (hk:∀ id,id<X.length→κ' id=κ id) (hf:∀ id,(X++L).length≤id→κ' id=.old):GW (X++L) κ' c g s n∧Stp κ κ' X (X++L):=by
 obtain⟨v,m,h1,h2⟩:=h.gen
 exact⟨⟨h.cur.app L,by rw[hk _ h.cur.lt];exact h.kc,by rw[hk _ (rdOb_lt h1)];exact h.kg,hf,fun id hi=>by rw[hk _ (Nat.lt_trans hi h.cur.lt)];exact h.low id hi,v,m,rdOb_app L h1,h2.keep (Nat.le_refl _) fun id g o q ho=>⟨rdOb_app L ho,hk _ (rdOb_lt ho)⟩⟩,Stp.app X L hk⟩

theorem GW.app0 {X:Hp} {κ:KM} {c g s n:Nat} (h:GW X κ c g s n) (L:Hp):GW (X++L) κ c g s n∧Stp κ κ X (X++L):=
 h.app L (fun _ _=>rfl) fun id hi=>h.fr id (by simp at hi;omega)

theorem GW.le {X:Hp} {κ:KM} {c g s s' n:Nat} (h:GW X κ c g s n) (hs:s≤s'):GW X κ c g s' n:=by
 obtain⟨v,m,h1,h2⟩:=h.gen
 exact⟨h.cur,h.kc,h.kg,h.fr,h.low,v,m,h1,h2.keep hs fun id g o q ho=>⟨ho,rfl⟩⟩

theorem GW.gc {X Z:Hp} {κ κ':KM} {c g s n:Nat} {r:IV} (h:GW X κ c g s n) (k:GW Z κ' c g s n) (hs:Stp κ κ' X Z) (hf:flatV r=true):∃ Y κ'',gcRet X r Z=(r,Y)∧GW Y κ'' c g s n∧Stp κ κ'' X Y:=by
 rcases gc_flat2 (X:=X) (Z:=Z) hf with e | e
 ·exact⟨_,_,e,h,.refl _ _⟩
 ·exact⟨_,_,e,k,hs⟩

theorem GW.setM {X:Hp} {κ:KM} {c g s n:Nat} (h:GW X κ c g s n) {v:CV} {m:Int} (hg:rdOb X g 0=some ⟨[.p c 0 0,v,.i m],0,true,3⟩) (hv:FK X κ s v n) (m':Int) :
  GW (X.set g ⟨[.p c 0 0,v,.i m'],0,true,3⟩) κ c g s n∧Stp κ κ X (X.set g ⟨[.p c 0 0,v,.i m'],0,true,3⟩):=by
 have hgl:=rdOb_lt hg
 have hgc:c≠g:=by rintro rfl;have a:=h.kc;rw[h.kg]at a;cases a
 have key:∀ id,κ id≠.gen→id≠g:=fun id hi e=>by subst e;exact hi h.kg
 refine⟨⟨?_,h.kc,h.kg,fun id hi=>h.fr id (by simpa using hi),h.low,v,m',by rw[rdOb_set_self hgl];simp,hv.keep (Nat.le_refl _) fun id g o q ho=>⟨by rw[rdOb_set_ne (key _ (by rcases q with q | ⟨b,q | q | q⟩<;>rw[q]<;>simp))];exact ho,rfl⟩⟩,Stp.set (by rw[h.kg];rfl)⟩
 ·obtain⟨bs,i,hh,xs,h1,h2,h3,h4⟩:=h.cur
  exact⟨bs,i,hh,xs,by rw[rdOb_set_ne hgc];exact h1,h2.set3 hg,h3,h4⟩

theorem Cur.set {X:Hp} {c i:Nat} {o:Ob} (h:Cur X c) (hne:c≠i) (hi:∀ g ob,rdOb X i g=some ob→ob.sz≠1):Cur (X.set i o) c:=by
 obtain⟨bs,j,hh,xs,h1,h2,h3,h4⟩:=h
 refine⟨bs,j,hh,xs,by rw[rdOb_set_ne hne];exact h1,?_,h3,h4⟩
 rcases h2 with⟨a,b,d⟩ | ⟨id,g,off,ob,a,b,d,e⟩
 ·exact .inl ⟨a,b,d⟩
 ·refine .inr ⟨id,g,off,ob,a,?_,d,e⟩
  rw[rdOb_set_ne];exact b
  rintro rfl
  exact hi _ _ b d
theorem l2New_call {X:Hp} {κ:KM} {c g s n:Nat} (h:GW X κ c g s n):∃ m Y κ',GW Y κ' c g s n∧Stp κ κ' X Y∧∀ k:IV×Hp→Prop,CM 135 [.c (.p g 0 0)] X k=k (.c (.i m),Y):=by
 obtain⟨v,m,hg,hv⟩:=h.gen
 obtain⟨g1,g2⟩:=h.setM hg hv (wrap64 (m+1))
 have hz:rdOb (X.set g ⟨[.p c 0 0,v,.i (wrap64 (m+1))],0,true,3⟩) g 0=some ⟨[.p c 0 0,v,.i (wrap64 (m+1))],0,true,3⟩:=by rw[rdOb_set_self (rdOb_lt hg)];simp
 obtain⟨Y,κ',e,h1,h2⟩:=h.gc g1 g2 (r:=.c (.i (wrap64 (wrap64 (m+1) - 1)))) rfl
 refine⟨wrap64 (wrap64 (m+1) - 1),Y,κ',h1,h2,fun k=>det (cw135 ?_) k⟩
 unfold vf135c
 simp[rdC_ob hg,hg,putAt,rdC_ob hz,e]

theorem l2Full_call {X:Hp} {κ:KM} {c g s n:Nat} (h:GW X κ c g s n):∃ b,∀ k:IV×Hp→Prop,CM 183 [.c (.p g 0 0)] X k=k (.c (.b b),X):=by
 obtain⟨v,m,hg,hv⟩:=h.gen
 by_cases hm:56<m
 ·refine⟨true,fun k=>det (cw183 ?_) k⟩
  unfold vf183c
  simp[rdC_ob hg,hm]
 ·refine⟨decide (11<(n:Int)),fun k=>det (cw183 ?_) k⟩
  unfold vf183c
  simp[rdC_ob hg,hm,hv.lenOf]

theorem l2Some_cur {X:Hp} {κ:KM} {c g s n:Nat} (h:GW X κ c g s n) {w:CV} {q:Nat} (hw:KnownK X κ w q) (hq:0<q):∃ m Y,CurL c X Y∧∀ k:IV×Hp→Prop,CM 138 [.c (.p g 0 0),.c w] X k=k (.c (.i m),Y):=by
 obtain⟨v,m,hg,hv⟩:=h.gen
 obtain⟨⟨xs,hx,rfl⟩,hst⟩:=hw
 obtain⟨r,Y,a,b,_,d,e⟩:=below_call h.cur xs.length
 have b:=b (by omega)
 obtain⟨j,rfl⟩:∃ j:Nat,r=j:=⟨r.toNat,by omega⟩
 have hj:j<xs.length:=by omega
 obtain⟨id,gg,off,q1,q2⟩:=(hx.cur h.cur d).at_ hj
 refine⟨xs[j],Y,d.l,fun k=>det (cw138 ?_) k⟩
 unfold vf138c
 simp[rdC_ob hg,hx.lenOf,e,q1,q2]
 exact gc_cur d rfl

theorem l2Some_call {X:Hp} {κ:KM} {c g s n:Nat} (h:GW X κ c g s n) {w:CV} {q:Nat} (hw:KnownK X κ w q) (hq:0<q):∃ m Y,GW Y κ c g s n∧Stp κ κ X Y∧∀ k:IV×Hp→Prop,CM 138 [.c (.p g 0 0),.c w] X k=k (.c (.i m),Y):=by
 obtain⟨m,Y,d,e⟩:=l2Some_cur h hw hq
 obtain⟨g1,g2⟩:=h.curL d
 exact⟨m,Y,g1,g2,e⟩

theorem idx6 {d gd n b:Nat} (hb:b<n):idxOf 6 (.sl d gd 0 n) (b:Int)=some (.p d gd (b * 6)):=by simp[idxOf,hb]

theorem KM.put_lt (κ:KM) (i:Nat) (k:KK) {id:Nat} (h:id<i):κ.put i k id=κ id:=KM.put_ne κ k (by omega)

theorem FK.push {X:Hp} {κ:KM} {s:Nat} {v:CV} {n:Nat} (h:FK X κ s v n) (hn:n≤BIG) (hf:∀ id,X.length≤id→κ id=.old) (xc:List CV) (hx:xc=[.ns,.ns,.i 0,.i 0,.i 0,.i 0]) :
  ∃ v' Z κ',(∃ d gd,v'=.sl d gd 0 (n+1))∧doApp (X++[(⟨xc,0,true,6⟩:Ob)]) 6 v 1 xc=some (.c v',Z)∧FK Z κ' s v' (n+1)∧X.length≤Z.length∧(∀ id,id<X.length→κ' id=κ id)∧(∀ id,Z.length≤id→κ' id=.old) ∧
   (∀ id g o,κ id≠.blks→rdOb X id g=some o→rdOb Z id g=some o):=by
 subst hx
 rcases h with⟨rfl,rfl⟩ | ⟨d,gd,cells,rfl,h2,h3,h4,h5⟩
 ·refine⟨.sl (X.length+1) 0 0 1,X++[⟨[.ns,.ns,.i 0,.i 0,.i 0,.i 0],0,true,6⟩,⟨[.ns,.ns,.i 0,.i 0,.i 0,.i 0],0,true,6⟩],κ.put (X.length+1) .blks,⟨_,_,rfl⟩,?_,.inr ⟨_,_,_,rfl,by simp,by simp;rfl,by simp,fun b hb=>?_⟩,by simp,fun id hi=>KM.put_lt _ _ _ (by omega),fun id hi=>?_,fun id g o _ ho=>rdOb_app _ ho⟩
  ·simp[doApp,fresh,LIM]
  ·obtain rfl:b=0:=by omega
   exact⟨.ns,.ns,0,0,0,0,0,0,rfl,rfl,rfl,rfl,rfl,rfl,⟨.inl ⟨rfl,rfl⟩,Nat.zero_le _,.inl ⟨rfl,rfl⟩,Nat.zero_le _⟩⟩
  ·simp at hi
   rw[KM.put_ne _ _ (by omega)];exact hf id (by omega)
 ·have hdl:=rdOb_lt h3
  have happ:=app_own (X:=X++[(⟨[.ns,.ns,.i 0,.i 0,.i 0,.i 0],0,true,6⟩:Ob)]) (o:=d) (g:=gd) (n:=n) (sz:=6) (m:=1) (cs:=cells) (xs:=[.ns,.ns,.i 0,.i 0,.i 0,.i 0]) (rdOb_app _ h3) h4.symm (by simp) (by simp only[BIG]at hn;simp only[LIM,List.length_cons,List.length_nil];omega)
  have keep:∀ id g o,κ id≠.blks→rdOb X id g=some o→rdOb ((X++[(⟨[.ns,.ns,.i 0,.i 0,.i 0,.i 0],0,true,6⟩:Ob)]).set d ⟨cells++[.ns,.ns,.i 0,.i 0,.i 0,.i 0],gd+1,true,6⟩) id g=some o:=fun id g o hne ho=>by
   rw[rdOb_set_ne (by rintro rfl;exact hne h2)];exact rdOb_app _ ho
  refine⟨_,_,κ,⟨_,_,rfl⟩,happ,.inr ⟨d,gd+1,cells++[.ns,.ns,.i 0,.i 0,.i 0,.i 0],rfl,h2,by rw[rdOb_set_self (by simp;omega)];simp,by simp[h4];omega,fun b hb=>?_⟩,by simp,fun _ _=>rfl,fun id hi=>hf id (by simp at hi;omega),keep⟩
  by_cases e:b<n
  ·obtain⟨z,u,a1,a2,a3,a4,p,l,c1,c2,c3,c4,c5,c6,hB⟩:=h5 b e
   have hlt:b * 6+6≤cells.length:=by omega
   refine⟨z,u,a1,a2,a3,a4,p,l,?_,?_,?_,?_,?_,?_,hB.keep (Nat.le_refl _) fun id g o q ho=>⟨keep id g o ?_ ho,rfl⟩⟩
   all_goals first | (rw[List.getElem?_append_left (by omega)];assumption) | skip
   rcases q with q | q | q<;>rw[q]<;>simp
  ·obtain rfl:b=n:=by omega
   have e6:∀ j,j<6→(cells++[CV.ns,.ns,.i 0,.i 0,.i 0,.i 0])[b * 6+j]? = [CV.ns,.ns,.i 0,.i 0,.i 0,.i 0][j]?:=fun j hj=>by rw[List.getElem?_append_right (by omega),h4,Nat.add_sub_cancel_left]
   exact⟨.ns,.ns,0,0,0,0,0,0,e6 0 (by omega),e6 1 (by omega),e6 2 (by omega),e6 3 (by omega),e6 4 (by omega),e6 5 (by omega),⟨.inl ⟨rfl,rfl⟩,Nat.zero_le _,.inl ⟨rfl,rfl⟩,Nat.zero_le _⟩⟩

theorem GW.setV {X Z:Hp} {κ κ':KM} {c g s n:Nat} (h:GW X κ c g s n) {v:CV} {m:Int} (hg:rdOb X g 0=some ⟨[.p c 0 0,v,.i m],0,true,3⟩) {v':CV} {s' n':Nat} (hv:FK Z κ' s' v' n') (hle:X.length≤Z.length) (hk:∀ id,id<X.length→κ' id=κ id)
  (hf:∀ id,Z.length≤id→κ' id=.old) (keep:∀ id g o,¬ ofF (κ id)∨κ id=.arms→rdOb X id g=some o→rdOb Z id g=some o) :
  GW (Z.set g ⟨[.p c 0 0,v',.i m],0,true,3⟩) κ' c g s' n'∧Stp κ κ' X (Z.set g ⟨[.p c 0 0,v',.i m],0,true,3⟩):=by
 have hgl:=rdOb_lt hg
 have hgc:c≠g:=by rintro rfl;have a:=h.kc;rw[h.kg]at a;cases a
 have nF:∀ k:KK,(k=.cur∨k=.gen∨k=.old∨k=.ints)→¬ ofF k:=by
  rintro k hk (q | ⟨b,q | q | q⟩)<;>rw[q]at hk<;>simp at hk
 have hgZ:rdOb Z g 0=some ⟨[.p c 0 0,v,.i m],0,true,3⟩:=keep _ _ _ (.inl (nF _ (by rw[h.kg];simp))) hg
 have hkg:κ' g=.gen:=by rw[hk _ hgl];exact h.kg
 refine⟨⟨?_,by rw[hk _ h.cur.lt];exact h.kc,hkg,fun id hi=>hf id (by simpa using hi),fun id hi=>by rw[hk _ (Nat.lt_trans hi h.cur.lt)];exact h.low id hi,v',m,by rw[rdOb_set_self (rdOb_lt hgZ)];simp,hv.keep (Nat.le_refl _) fun id gg o q ho=>⟨?_,rfl⟩⟩,by simpa using hle,hk,fun id gg o hs ho=>?_⟩
 ·have hcZ:Cur Z c:=by
   obtain⟨bs,i,hh,xs,h1,h2,h3,h4⟩:=h.cur
   refine⟨bs,i,hh,xs,keep _ _ _ (.inl (nF _ (by rw[h.kc];simp))) h1,?_,h3,h4⟩
   rcases h2 with⟨a,b,d⟩ | ⟨id,gg,off,ob,a,b,d,e⟩
   ·exact .inl ⟨a,b,d⟩
   ·refine .inr ⟨id,gg,off,ob,a,keep _ _ _ ?_ b,d,e⟩
    exact .inl (nF _ (by rw[h.low _ (h4.2 _ _ _ _ a)];simp))
  exact hcZ.set hgc fun gg ob ho=>by
   have a:=(rdOb_some.1 ho).1
   rw[(rdOb_some.1 hgZ).1]at a
   injection a with a
   rw[← a];simp
 ·rw[rdOb_set_ne];exact ho
  rintro rfl
  rw[hkg]at q
  exact nF _ (by simp) q
 ·rw[rdOb_set_ne (by rintro rfl;rw[h.kg]at hs;cases hs)]
  refine keep _ _ _ ?_ ho
  cases hkk:κ id<;>rw[hkk]at hs<;>first | (cases hs;done) | skip
  ·exact .inl (nF _ (by simp))
  ·exact .inl (nF _ (by simp))
  ·exact .inr rfl

theorem l2Block_call {X:Hp} {κ:KM} {c g s n:Nat} (h:GW X κ c g s n) (hn:n≤BIG):∃ Y κ',GW Y κ' c g s (n+1)∧Stp κ κ' X Y∧∀ k:IV×Hp→Prop,CM 134 [.c (.p g 0 0)] X k=k (.c (.i n),Y):=by
 obtain⟨v,m,hg,hv⟩:=h.gen
 obtain⟨xc,hxc⟩:∃ xc:List CV,[.ns,.ns,.i 0,.i 0,.i 0,.i 0]=xc:=⟨_,rfl⟩
 obtain⟨v',Z,κ',⟨d,gd,rfl⟩,happ,hv',hle,hk,hf,keep⟩:=hv.push hn h.fr xc hxc.symm
 have hgZ:=keep _ _ _ (by rw[h.kg];simp) hg
 obtain⟨g1,g2⟩:=h.setV hg hv' hle hk hf fun id gg o q ho=>keep id gg o (by rintro e;rw[e]at q;rcases q with q | q;exact q (.inl rfl);cases q) ho
 have hz:rdOb (Z.set g ⟨[.p c 0 0,.sl d gd 0 (n+1),.i m],0,true,3⟩) g 0=some ⟨[.p c 0 0,.sl d gd 0 (n+1),.i m],0,true,3⟩:=by rw[rdOb_set_self (rdOb_lt hgZ)];simp
 have hne:(⟨[.p c 0 0,v,.i m],0,true,3⟩:Ob)≠⟨[.p c 0 0,.sl d gd 0 (n+1),.i m],0,true,3⟩:=by
  intro e
  injection e with e
  simp at e
  have:=hv.lenOf
  rw[e]at this
  simp[Vm.lenOf]at this
 have hgc:=gc_ne (r:=.c (.i n)) hg hz hne
 refine⟨_,κ',g1,g2,fun k=>det (cw134 ?_) k⟩
 have hw:wrap64 (n:Int)=n:=by rw[wrap64_id (by simp only[BIG]at hn;omega)]
 have hsrc:srcOf (X++[(⟨xc,0,true,6⟩:Ob)]) 6 (.sl X.length 0 0 1)=some (1,xc):=by subst hxc;simp[srcOf]
 unfold vf134c
 have hg1:rdC X g 0 1=some v:=by rw[rdC_ob hg];rfl
 have hxl:xc.length=6:=by subst hxc;rfl
 have hpx:putAt xc 0 xc=xc:=by subst hxc;rfl
 have hpg:putAt [.p c 0 0,v,.i m] 1 [.sl d gd 0 (n+1)]=[.p c 0 0,.sl d gd 0 (n+1),.i m]:=rfl
 simp[hg1,hxc,hxl,hpx,hsrc,happ,hgZ,hpg,rdC_ob hz,hw,hgc]
theorem FK.opened {X:Hp} {κ:KM} {s:Nat} {v:CV} {n b:Nat} (h:FK X κ s v n) (hb:b<n):∃ d gd cells,v=.sl d gd 0 n∧κ d=.blks∧rdOb X d gd=some ⟨cells,gd,true,6⟩∧cells.length=n * 6∧∀ b,b<n→CellK X κ s cells b:=by
 rcases h with⟨_,rfl⟩ | h
 ·omega
 ·exact h

theorem set_ob {Z:Hp} {i g:Nat} {ob:Ob} (h:rdOb Z i g=some ob):Z.set i ob=Z:=by
 have hlt:=rdOb_lt h
 have a:=(rdOb_some.1 h).1
 rw[List.getElem?_eq_getElem hlt]at a
 injection a with a
 rw[← a];simp

theorem FK.upd {X Z:Hp} {κ κ':KM} {s s' d gd n b:Nat} {cells cells':List CV} (hd:κ d=.blks) (h:∀ b,b<n→CellK X κ s cells b) (hl:cells'.length=n * 6) (hdl:d<Z.length)
  (hne:∀ j,¬ (b * 6≤j∧j<b * 6+6)→cells'[j]? = cells[j]?) (hk:∀ id g o,κ id≠.blks→κ id≠.list b→κ id≠.phis b→rdOb X id g=some o→rdOb Z id g=some o∧κ' id=κ id) (hκ:κ' d=.blks)
  (hb:CellK (Z.set d ⟨cells',gd,true,6⟩) κ' s' cells' b) (hs:s≤s'):FK (Z.set d ⟨cells',gd,true,6⟩) κ' s' (.sl d gd 0 n) n:=by
 refine .inr ⟨d,gd,cells',rfl,hκ,by rw[rdOb_set_self hdl];simp,hl,fun b' hb'=>?_⟩
 by_cases e:b'=b
 ·subst e;exact hb
 ·obtain⟨z,u,a1,a2,a3,a4,p,l,c1,c2,c3,c4,c5,c6,hB⟩:=h b' hb'
  refine⟨z,u,a1,a2,a3,a4,p,l,?_,?_,?_,?_,?_,?_,hB.keep hs fun id g o q ho=>?_⟩
  all_goals first | (rw[hne _ (by omega)];assumption) | skip
  have hq:κ id≠.blks∧κ id≠.list b∧κ id≠.phis b:=by
   rcases q with q | q | q<;>rw[q]<;>simp
   ·omega
   ·omega
  obtain⟨r1,r2⟩:=hk id g o hq.1 hq.2.1 hq.2.2 ho
  refine⟨by rw[rdOb_set_ne];exact r1;rintro rfl;exact hq.1 hd,r2⟩

theorem GW.inner {X Z:Hp} {κ κ':KM} {c g s n:Nat} (h:GW X κ c g s n) {v:CV} {m:Int} (hg:rdOb X g 0=some ⟨[.p c 0 0,v,.i m],0,true,3⟩) {s':Nat} (hv:FK Z κ' s' v n) (hle:X.length≤Z.length) (hk:∀ id,id<X.length→κ' id=κ id)
  (hf:∀ id,Z.length≤id→κ' id=.old) (keep:∀ id g o,¬ ofF (κ id)∨κ id=.arms→rdOb X id g=some o→rdOb Z id g=some o):GW Z κ' c g s' n∧Stp κ κ' X Z:=by
 have:=h.setV hg hv hle hk hf keep
 have nF:¬ ofF (κ g):=by
  rw[h.kg];rintro (q | ⟨b,q | q | q⟩)<;>cases q
 rwa [set_ob (keep _ _ _ (.inl nF) hg)]at this

theorem ListK.push {X:Hp} {κ:KM} {b:Nat} {u:CV} {l:Nat} (h:ListK X κ b u l) (hl:l≤BIG) (hf:∀ id,X.length≤id→κ id=.old) {xc:List CV} (hx:xc.length=5) (hi:allInt xc=true) :
  ∃ u' Z κ',doApp (X++[(⟨xc,0,true,5⟩:Ob)]) 5 u 1 xc=some (.c u',Z)∧ListK Z κ' b u' (l+1)∧X.length≤Z.length∧(∀ id,id<X.length→κ' id=κ id)∧(∀ id,Z.length≤id→κ' id=.old) ∧
   (∀ id g o,κ id≠.list b→rdOb X id g=some o→rdOb Z id g=some o):=by
 rcases h with⟨rfl,rfl⟩ | ⟨id,g,cs,rfl,h2,h3,h4,h5⟩
 ·refine⟨.sl (X.length+1) 0 0 1,X++[⟨xc,0,true,5⟩,⟨xc,0,true,5⟩],κ.put (X.length+1) (.list b),?_,  .inr ⟨X.length+1,0,xc,rfl,by simp,by simp,by simp[hx],hi⟩,by simp,fun id hi=>KM.put_lt _ _ _ (by omega),fun id hi=>?_,fun id g o _ ho=>rdOb_app _ ho⟩
  ·simp[doApp,fresh,LIM,hx]
  ·simp at hi
   rw[KM.put_ne _ _ (by omega)];exact hf id (by omega)
 ·have hlt:=rdOb_lt h3
  have happ:=app_own (X:=X++[(⟨xc,0,true,5⟩:Ob)]) (o:=id) (g:=g) (n:=l) (sz:=5) (m:=1) (cs:=cs) (xs:=xc) (rdOb_app _ h3) h4.symm (by omega) (by simp only[BIG]at hl;simp only[LIM];omega)
  refine⟨_,_,κ,happ,.inr ⟨_,_,_,rfl,h2,by rw[rdOb_set_self (by simp;omega)];simp,by simp[h4,hx];omega,allInt_app h5 hi⟩,by simp,fun _ _=>rfl,fun i hi=>hf i (by simp at hi;omega),fun i g o hne ho=>?_⟩
  rw[rdOb_set_ne (by rintro rfl;exact hne h2)];exact rdOb_app _ ho

theorem ListK.sl {X:Hp} {κ:KM} {b:Nat} {u:CV} {l:Nat} (h:ListK X κ b u (l+1)):∃ i gi,u=.sl i gi 0 (l+1):=by
 rcases h with⟨_,h⟩ | ⟨id,g,cs,rfl,_⟩
 ·omega
 ·exact⟨_,_,rfl⟩

set_option maxRecDepth 100000 in
theorem l2Put_call {X:Hp} {κ:KM} {c g s n b:Nat} (h:GW X κ c g s n) (hb:b<n) (x:InsR):∃ Y κ',GW Y κ' c g s n∧Stp κ κ' X Y∧∀ k:IV×Hp→Prop,CM 136 [.c (.p g 0 0),.c (.i b),.agg [.i x.op,.i x.d,.i x.a,.i x.b,.i x.n]] X k=k (.tup [],Y):=by
 obtain⟨xc,hxc⟩:∃ xc:List CV,[.i x.op,.i x.d,.i x.a,.i x.b,.i x.n]=xc:=⟨_,rfl⟩
 have hxl:xc.length=5:=by rw[← hxc];rfl
 have hxi:allInt xc=true:=by rw[← hxc];rfl
 have htk:xc.take 5=xc:=List.take_of_length_le (by omega)
 obtain⟨X1,hX1⟩:∃ X1,X++[(⟨xc,0,true,5⟩:Ob)]=X1:=⟨_,rfl⟩
 obtain⟨w1,w2⟩:=h.app0 [(⟨xc,0,true,5⟩:Ob)]
 rw[hX1]at w1 w2
 have h5:rdOb X1 X.length 0=some ⟨xc,0,true,5⟩:=by rw[← hX1];simp
 obtain⟨v,m,hg,hv⟩:=w1.gen
 obtain⟨d,gd,cells,rfl,hd,ho,hl,hC⟩:=hv.opened hb
 obtain⟨z,u,a1,a2,a3,a4,p,l,c1,c2,c3,c4,c5,c6,hB⟩:=hC b hb
 have hrd:rdC X1 d gd (b * 6+1)=some u:=by rw[rdC_ob ho];exact c2
 have hrg:rdC X1 g 0 1=some (.sl d gd 0 n):=by rw[rdC_ob hg];rfl
 have hr5:rdN X1 X.length 0 0 5=some xc:=by rw[rdN_ob h5];simp[hxl,htk]
 by_cases h24:l<24
 ·obtain⟨u',Z,κ',happ,hli,hle,hk,hf,keep⟩:=hB.li.push (by simp only[BIG];omega) w1.fr hxl hxi
  obtain⟨ui,ug,rfl⟩:=hli.sl
  have hdl:=rdOb_lt ho
  have hoZ:=keep _ _ _ (by rw[hd];simp) ho
  have hgZ:=keep _ _ _ (by rw[w1.kg];simp) hg
  have hput:putAt cells (b * 6+1) [.sl ui ug 0 (l+1)]=cells.set (b * 6+1) (.sl ui ug 0 (l+1)):=putAt_get (by omega)
  have hFK:FK (Z.set d ⟨cells.set (b * 6+1) (.sl ui ug 0 (l+1)),gd,true,6⟩) κ' s (.sl d gd 0 n) n:=by
   refine FK.upd (κ:=κ) hd hC (by simpa using hl) (rdOb_lt hoZ) (fun j hj=>by rw[List.getElem?_set,if_neg (by omega)]) (fun id g o q1 q2 q3 ho=>⟨keep id g o q2 ho,hk _ (rdOb_lt ho)⟩) (by rw[hk _ hdl];exact hd) ?_ (Nat.le_refl _)
   refine⟨z,.sl ui ug 0 (l+1),a1,a2,a3,a4,p,l+1,?_,?_,?_,?_,?_,?_,⟨hB.ph.keep fun id g o q ho=>⟨?_,hk _ (rdOb_lt ho)⟩,hB.ps,hli.keep fun id g o q ho=>⟨?_,rfl⟩,by omega⟩⟩
   ·rw[List.getElem?_set,if_neg (by omega)];exact c1
   ·rw[List.getElem?_set,if_pos rfl,if_pos (by omega)]
   ·rw[List.getElem?_set,if_neg (by omega)];exact c3
   ·rw[List.getElem?_set,if_neg (by omega)];exact c4
   ·rw[List.getElem?_set,if_neg (by omega)];exact c5
   ·rw[List.getElem?_set,if_neg (by omega)];exact c6
   ·rw[rdOb_set_ne (by rintro rfl;rcases q with q | q<;>rw[hd]at q<;>cases q)]
    exact keep _ _ _ (by rcases q with q | q<;>rw[q]<;>simp) ho
   ·rw[rdOb_set_ne (by rintro rfl;rw[hk _ hdl,hd]at q;cases q)];exact ho
  obtain⟨g1,g2⟩:=w1.inner hg hFK (by simpa using hle) hk (fun id hi=>hf id (by simpa using hi)) fun id gg ob q ho=>by
   have hnb:κ id≠.blks∧κ id≠.list b:=by
    constructor
    ·intro e;rw[e]at q;rcases q with q | q;exact q (.inl rfl);cases q
    ·intro e;rw[e]at q;rcases q with q | q;exact q (.inr ⟨b,.inr (.inr rfl)⟩);cases q
   rw[rdOb_set_ne (by rintro rfl;exact hnb.1 hd)]
   exact keep _ _ _ hnb.2 ho
  obtain⟨Y,κ'',e,f1,f2⟩:=h.gc g1 (w2.trans g2) (r:=.tup []) rfl
  refine⟨Y,κ'',f1,f2,fun k=>det (cw136 ?_) k⟩
  have hlt:(l:Int)<24:=by omega
  have hsrc:srcOf (X1++[(⟨xc,0,true,5⟩:Ob)]) 5 (.sl X1.length 0 0 1)=some (1,xc):=by simp[srcOf,hxl,htk]
  have hg2:=rdOb_app [(⟨xc,0,true,5⟩:Ob)] hg
  have ho2:=rdOb_app [(⟨xc,0,true,5⟩:Ob)] ho
  have hcl:b * 6+1+1≤cells.length:=by omega
  unfold vf136c
  have hpx:putAt [.i 0,.i 0,.i 0,.i 0,.i 0] 0 xc=xc:=by rw[← hxc];rfl
  simp[hxc,hxl,hX1,hrg,hb,hrd,hB.li.lenOf,hlt,hr5,hpx,hsrc,happ,hg,hg2,hgZ,ho,ho2,hoZ,hput,hcl,e]
 ·obtain⟨Y,κ'',e,f1,f2⟩:=h.gc w1 w2 (r:=.tup []) rfl
  refine⟨Y,κ'',f1,f2,fun k=>det (cw136 ?_) k⟩
  have hlt:¬ (l:Int)<24:=by omega
  unfold vf136c
  simp[hxc,hxl,hX1,hrg,hb,hrd,hB.li.lenOf,hlt,e]
theorem GW.rc {X:Hp} {κ:KM} {c g s n:Nat} (h:GW X κ c g s n):rdC X g 0 0=some (.p c 0 0):=by
 obtain⟨v,m,hg,_⟩:=h.gen;rw[rdC_ob hg];rfl

theorem below_gw {X:Hp} {κ:KM} {c g s n:Nat} (h:GW X κ c g s n) (b:Int):∃ r Y,0≤r∧(0<b→r<b)∧GW Y κ c g s n∧Stp κ κ X Y∧∀ k:IV×Hp→Prop,CM 77 [.c (.p c 0 0),.c (.i b)] X k=k (.c (.i r),Y):=by
 obtain⟨r,Y,a,b,_,d,e⟩:=below_call h.cur b
 obtain⟨g1,g2⟩:=h.curL d.l
 exact⟨r,Y,a,b,g1,g2,e⟩

theorem once_gw {X:Hp} {κ:KM} {c g s n:Nat} (h:GW X κ c g s n) (b:Int):∃ r Y,GW Y κ c g s n∧Stp κ κ X Y∧∀ k:IV×Hp→Prop,CM 66 [.c (.p c 0 0),.c (.i b)] X k=k (.c (.b r),Y):=by
 obtain⟨r,Y,d,e⟩:=once_call h.cur b
 obtain⟨g1,g2⟩:=h.curL d.l
 exact⟨r,Y,g1,g2,e⟩

theorem num_gw {X:Hp} {κ:KM} {c g s n:Nat} (h:GW X κ c g s n):∃ r Y,GW Y κ c g s n∧Stp κ κ X Y∧∀ k:IV×Hp→Prop,CM 156 [.c (.p c 0 0)] X k=k (.c (.i r),Y):=by
 obtain⟨r,Y,_,d,e⟩:=num_call h.cur
 obtain⟨g1,g2⟩:=h.curL d
 exact⟨r,Y,g1,g2,e⟩

theorem pick_gw {X:Hp} {κ:KM} {c g s n:Nat} (h:GW X κ c g s n) {v:CV} {xs:List Int} (hv:IsI X v xs) (h0:0<xs.length):∃ r Y,GW Y κ c g s n∧Stp κ κ X Y∧∀ k:IV×Hp→Prop,CM 78 [.c (.p c 0 0),.c v] X k=k (.c (.i r),Y):=by
 obtain⟨r,Y,_,d,e⟩:=pick_call h.cur hv h0
 obtain⟨g1,g2⟩:=h.curL d.l
 exact⟨r,Y,g1,g2,e⟩

theorem own_ints {X:Hp} {cs:List CV} {xs:List Int} (h:cs=xs.map .i):IsI (X++[(⟨cs,0,true,1⟩:Ob)]) (.sl X.length 0 0 xs.length) xs:=by
 subst h;exact IsI.mk (off:=0) (o:=⟨xs.map .i,0,true,1⟩) (by simp) rfl (by simp) (by rw[List.drop_zero,List.take_of_length_le (by simp)])

theorem known_more {X:Hp} {κ:KM} {c g s n:Nat} (h:GW X κ c g s n) {w:CV} {q:Nat} (hw:KnownK X κ w q) (hq:0<q) (hq2:q≤BIG) (ds:List Int) (hd:0<ds.length) (hd2:ds.length≤4) :
  ∃ cs Xa Xb κ',srcOf (X++[(⟨[],0,true,1⟩:Ob)]) 1 w=some (q,cs)∧doApp (X++[(⟨[],0,true,1⟩:Ob)]) 1 (.sl X.length 0 0 0) q cs=some (.c (.sl X.length 1 0 q),Xa) ∧
   srcOf (Xa++[(⟨ds.map .i,0,true,1⟩:Ob)]) 1 (.sl Xa.length 0 0 ds.length)=some (ds.length,ds.map .i) ∧
   doApp (Xa++[(⟨ds.map .i,0,true,1⟩:Ob)]) 1 (.sl X.length 1 0 q) ds.length (ds.map .i)=some (.c (.sl X.length 2 0 (q+ds.length)),Xb)∧GW Xb κ' c g s n∧Stp κ κ' X Xb∧κ' X.length=.ints ∧
   ∃ ys:List Int,rdOb Xb X.length 2=some ⟨ys.map .i,2,true,1⟩∧ys.length=q+ds.length:=by
 obtain⟨⟨xs,hx,rfl⟩,hst⟩:=hw
 have e1:=(hx.app [(⟨[],0,true,1⟩:Ob)]).src
 have a1:=app_own (X:=X++[(⟨[],0,true,1⟩:Ob)]) (o:=X.length) (g:=0) (n:=0) (sz:=1) (m:=xs.length) (cs:=[]) (xs:=xs.map .i) (by simp) (by simp) (by simpa using hq) (by simp only[BIG]at hq2;simp only[LIM,List.length_nil,List.length_map];omega)
 have e3:(X++[(⟨[],0,true,1⟩:Ob)]).set X.length ⟨[]++xs.map .i,0+1,true,1⟩=X++[(⟨xs.map .i,1,true,1⟩:Ob)]:=by simp
 rw[e3]at a1
 have e2:=(own_ints (X:=X++[(⟨xs.map .i,1,true,1⟩:Ob)]) (cs:=ds.map .i) (xs:=ds) rfl).src
 have a2:=app_own (X:=(X++[(⟨xs.map .i,1,true,1⟩:Ob)])++[(⟨ds.map .i,0,true,1⟩:Ob)]) (o:=X.length) (g:=1) (n:=xs.length) (sz:=1) (m:=ds.length) (cs:=xs.map .i) (xs:=ds.map .i) (by simp) (by simp) (by simpa using hd) (by simp only[BIG]at hq2;simp only[LIM,List.length_map];omega)
 have e4:((X++[(⟨xs.map .i,1,true,1⟩:Ob)])++[(⟨ds.map .i,0,true,1⟩:Ob)]).set X.length ⟨xs.map .i++ds.map .i,1+1,true,1⟩=X++[(⟨(xs++ds).map .i,2,true,1⟩:Ob),⟨ds.map .i,0,true,1⟩]:=by simp
 rw[e4]at a2
 obtain⟨g1,g2⟩:=h.app (κ':=κ.put X.length .ints) [(⟨(xs++ds).map .i,2,true,1⟩:Ob),⟨ds.map .i,0,true,1⟩] (fun id hi=>KM.put_lt _ _ _ hi) fun id hi=>by
  simp at hi
  rw[KM.put_ne _ _ (by omega)];exact h.fr id (by omega)
 refine⟨xs.map .i,_,_,κ.put X.length .ints,e1,by simpa using a1,e2,a2,g1,g2,by simp,xs++ds,by simp,by simp⟩

theorem gc_in {X Z:Hp} {id g off n:Nat} (hlt:id<X.length):gcRet X (.c (.sl id g off n)) Z=(.c (.sl id g off n),Z):=by
 cases off with
 | zero=>exact gc_inner hlt
 | succ off =>
  unfold gcRet
  split
  ·rw[if_neg (by simp[flatV,flatC])];rfl
  ·rfl

def StepRes (X:Hp) (κ:KM) (c g s n q:Nat) (r:IV×Hp):Prop:=∃ κ' Y v' q',r=(.c v',Y)∧GW Y κ' c g s n∧Stp κ κ' X Y∧KnownK Y κ' v' q'∧0<q'∧q'≤q+3

theorem GW.gcS {X Z:Hp} {κ κ':KM} {c g s n:Nat} (h:GW X κ c g s n) (k:GW Z κ' c g s n) (hs:Stp κ κ' X Z) {id gg len q:Nat} {ys:List Int} (hid:X.length≤id) (ho:rdOb Z id gg=some ⟨ys.map .i,gg,true,1⟩) (hl:ys.length=len) (hi:κ' id=.ints)
  (h0:0<len) (hq:len≤q+3):StepRes X κ c g s n q (gcRet X (.c (.sl id gg 0 len)) Z):=by
 subst hl
 by_cases ht:Z.take X.length=X
 ·have hp:Pre X Z:=⟨Z.drop X.length,by have:=List.take_append_drop X.length Z;rw[ht]at this;exact this.symm⟩
  rw[gcRet_row hp hid ho rfl (by simp[flatC])]
  obtain⟨g1,g2⟩:=h.app (κ':=κ.put X.length .ints) [(⟨ys.map .i,0,true,1⟩:Ob)] (fun id hi=>KM.put_lt _ _ _ hi) fun id hi=>by
   simp at hi
   rw[KM.put_ne _ _ (by omega)];exact h.fr id (by omega)
  refine⟨_,_,_,ys.length,rfl,g1,g2,⟨⟨ys,own_ints rfl,rfl⟩,fun id g off m e=>?_⟩,h0,hq⟩
  cases e;simp[stab]
 ·have e:gcRet X (.c (.sl id gg 0 ys.length)) Z=(.c (.sl id gg 0 ys.length),Z):=by unfold gcRet;rw[if_neg ht]
  rw[e]
  refine⟨_,_,_,ys.length,rfl,k,hs,⟨⟨ys,IsI.mk (off:=0) (o:=⟨ys.map .i,gg,true,1⟩) ho rfl (by simp) (by rw[List.drop_zero,List.take_of_length_le (by simp)]),rfl⟩,fun id g off m e=>?_⟩,h0,hq⟩
  cases e;rw[hi];rfl

theorem GW.gcW {X Z:Hp} {κ κ':KM} {c g s n:Nat} (k:GW Z κ' c g s n) (hs:Stp κ κ' X Z) {w:CV} {q:Nat} (hw:KnownK X κ w q) (h0:0<q):StepRes X κ c g s n q (gcRet X (.c w) Z):=by
 have hw':=hw.keep hs
 obtain⟨⟨xs,hx,rfl⟩,_⟩:=hw
 rcases hx with⟨rfl,a,_⟩ | ⟨id,gg,off,o,rfl,a,_⟩
 ·omega
 ·rw[gc_in (rdOb_lt a)]
  exact⟨_,_,_,xs.length,rfl,k,hs,hw',h0,by omega⟩

set_option maxRecDepth 100000 in
theorem l2Step_call {X:Hp} {κ:KM} {c g s n b:Nat} (h:GW X κ c g s n) (hb:b<n) {w:CV} {q:Nat} (hw:KnownK X κ w q) (hq:0<q) (hq2:q≤BIG):CM 184 [.c (.p g 0 0),.c (.i b),.c w] X (StepRes X κ c g s n q):=by
 refine cw184 ?_
 obtain⟨full,ef⟩:=l2Full_call h
 obtain⟨v,m,hg,hv⟩:=h.gen
 obtain⟨d,gd,cells,rfl,hd,ho,hl,hC⟩:=hv.opened hb
 obtain⟨z,u,a1,a2,a3,a4,p,l,c1,c2,c3,c4,c5,c6,hB⟩:=hC b hb
 have hrd:rdC X d gd (b * 6+1)=some u:=by rw[rdC_ob ho];exact c2
 have hrg:rdC X g 0 1=some (.sl d gd 0 n):=by rw[rdC_ob hg];rfl
 have stay:StepRes X κ c g s n q (gcRet X (.c w) X):=h.gcW (.refl _ _) hw hq
 unfold vf184c
 cases full with
 | true=>simp[ef];exact stay
 | false =>
  by_cases hl16:16<(l:Int)
  ·simp[ef,hrg,idx6 hb,hrd,hB.li.lenOf,hl16];exact stay
  ·obtain⟨r,X1,r0,r1,G1,S1,e1⟩:=below_gw h 9
   by_cases h0:r=0
   ·subst h0
    obtain⟨dd,X2,κ2,G2,S2,e2⟩:=l2New_call G1
    obtain⟨nn,X3,G3,S3,e3⟩:=num_gw G2
    obtain⟨X4,κ4,G4,S4,e4⟩:=l2Put_call G3 hb ⟨20,dd,0,0,nn⟩
    have S:=S1.trans (S2.trans (S3.trans S4))
    obtain⟨cs,Xa,Xb,κ',f1,f2,f3,f4,G5,S5,hk,ys,hy,hyl⟩:=known_more G4 (hw.keep S) hq hq2 [dd] (by simp) (by simp)
    simp only[List.map_cons,List.map_nil,List.length_cons,List.length_nil,Nat.zero_add]at f3 f4 hyl
    simp only at e4
    simp[ef,hrg,idx6 hb,hrd,hB.li.lenOf,hl16,h.rc,e1,e2,G2.rc,e3,putAt,e4,f1,f2,f3,f4]
    exact h.gcS G5 (S.trans S5) S.le hy hyl hk (by omega) (by omega)
   ·by_cases h1:r=1
    ·subst h1
     obtain⟨x,X2,G2,S2,e2⟩:=l2Some_call G1 (hw.keep S1) hq
     obtain⟨X4,κ4,G4,S4,e4⟩:=l2Put_call G2 hb ⟨23,0,x,0,0⟩
     simp only at e4
     simp[ef,hrg,idx6 hb,hrd,hB.li.lenOf,hl16,h.rc,e1,e2,putAt,e4]
     exact G4.gcW (S1.trans (S2.trans S4)) hw hq
    ·by_cases h2:r=2
     ·subst h2
      obtain⟨dd,X2,κ2,G2,S2,e2⟩:=l2New_call G1
      obtain⟨X4,κ4,G4,S4,e4⟩:=l2Put_call G2 hb ⟨24,dd,0,0,0⟩
      have S:=S1.trans (S2.trans S4)
      obtain⟨cs,Xa,Xb,κ',f1,f2,f3,f4,G5,S5,hk,ys,hy,hyl⟩:=known_more G4 (hw.keep S) hq hq2 [dd] (by simp) (by simp)
      simp only[List.map_cons,List.map_nil,List.length_cons,List.length_nil,Nat.zero_add]at f3 f4 hyl
      simp only at e4
      simp[ef,hrg,idx6 hb,hrd,hB.li.lenOf,hl16,h.rc,e1,e2,putAt,e4,f1,f2,f3,f4]
      exact h.gcS G5 (S.trans S5) S.le hy hyl hk (by omega) (by omega)
     ·by_cases h3:r=3
      ·subst h3
       obtain⟨i1,X2,κ2,G2,S2,e2⟩:=l2New_call G1
       obtain⟨m1,X3,κ3,G3,S3,e3⟩:=l2New_call G2
       obtain⟨d1,X4,κ4,G4,S4,e4⟩:=l2New_call G3
       obtain⟨G5,S5⟩:=G4.app0 [(⟨[.i 7,.i 7,.i 7,.i 15],0,true,1⟩:Ob)]
       obtain⟨X5,hX5⟩:∃ X5,X4++[(⟨[.i 7,.i 7,.i 7,.i 15],0,true,1⟩:Ob)]=X5:=⟨_,rfl⟩
       have hI:IsI X5 (.sl X4.length 0 0 4) [7,7,7,15]:=by rw[← hX5];exact own_ints (xs:=[7,7,7,15]) rfl
       rw[hX5]at G5 S5
       obtain⟨p1,X6,G6,S6,e6⟩:=pick_gw G5 hI (by simp)
       obtain⟨X7,κ7,G7,S7,e7⟩:=l2Put_call G6 hb ⟨20,i1,0,0,p1⟩
       have S:=S1.trans (S2.trans (S3.trans (S4.trans (S5.trans (S6.trans S7)))))
       obtain⟨x8,X8,G8,S8,e8⟩:=l2Some_call G7 (hw.keep S) hq
       obtain⟨X9,κ9,G9,S9,e9⟩:=l2Put_call G8 hb ⟨4,m1,x8,i1,0⟩
       obtain⟨on,X10,G10,S10,e10⟩:=once_gw G9 2
       have S':=S.trans (S8.trans (S9.trans S10))
       simp only at e7 e9
       cases on with
       | true =>
        obtain⟨x11,X11,G11,S11,e11⟩:=l2Some_call G10 (hw.keep S') hq
        obtain⟨X12,κ12,G12,S12,e12⟩:=l2Put_call G11 hb ⟨22,0,m1,x11,0⟩
        obtain⟨X13,κ13,G13,S13,e13⟩:=l2Put_call G12 hb ⟨20,d1,0,0,1⟩
        have S'':=S'.trans (S11.trans (S12.trans S13))
        obtain⟨cs,Xa,Xb,κ',f1,f2,f3,f4,G14,S14,hk,ys,hy,hyl⟩:=known_more G13 (hw.keep S'') hq hq2 [i1,m1,d1] (by simp) (by simp)
        simp only[List.map_cons,List.map_nil,List.length_cons,List.length_nil,Nat.zero_add,Nat.reduceAdd]at f3 f4 hyl
        simp only at e12 e13
        simp[ef,hrg,idx6 hb,hrd,hB.li.lenOf,hl16,h.rc,e1,e2,e3,e4,G4.rc,putAt,hX5,e6,e7,e8,e9,G9.rc,e10,e11,e12,e13,f1,f2,f3,f4]
        exact h.gcS G14 (S''.trans S14) S''.le hy hyl hk (by omega) (by omega)
       | false =>
        obtain⟨X12,κ12,G12,S12,e12⟩:=l2Put_call G10 hb ⟨21,d1,m1,0,0⟩
        have S'':=S'.trans S12
        obtain⟨cs,Xa,Xb,κ',f1,f2,f3,f4,G14,S14,hk,ys,hy,hyl⟩:=known_more G12 (hw.keep S'') hq hq2 [i1,m1,d1] (by simp) (by simp)
        simp only[List.map_cons,List.map_nil,List.length_cons,List.length_nil,Nat.zero_add,Nat.reduceAdd]at f3 f4 hyl
        simp only at e12
        simp[ef,hrg,idx6 hb,hrd,hB.li.lenOf,hl16,h.rc,e1,e2,e3,e4,G4.rc,putAt,hX5,e6,e7,e8,e9,G9.rc,e10,e12,f1,f2,f3,f4]
        exact h.gcS G14 (S''.trans S14) S''.le hy hyl hk (by omega) (by omega)
      ·obtain⟨dd,X2,κ2,G2,S2,e2⟩:=l2New_call G1
       obtain⟨op,X3,_,_,G3,S3,e3⟩:=below_gw G2 10
       have S:=S1.trans (S2.trans S3)
       obtain⟨x4,X4,G4,S4,e4⟩:=l2Some_call G3 (hw.keep S) hq
       obtain⟨x5,X5,G5,S5,e5⟩:=l2Some_call G4 (hw.keep (S.trans S4)) hq
       obtain⟨X6,κ6,G6,S6,e6⟩:=l2Put_call G5 hb ⟨wrap64 (1+op),dd,x4,x5,0⟩
       have S':=S.trans (S4.trans (S5.trans S6))
       obtain⟨cs,Xa,Xb,κ',f1,f2,f3,f4,G7,S7,hk,ys,hy,hyl⟩:=known_more G6 (hw.keep S') hq hq2 [dd] (by simp) (by simp)
       simp only[List.map_cons,List.map_nil,List.length_cons,List.length_nil,Nat.zero_add]at f3 f4 hyl
       simp only at e6
       simp[ef,hrg,idx6 hb,hrd,hB.li.lenOf,hl16,h.rc,e1,h0,h1,h2,h3,e2,G2.rc,e3,e4,e5,putAt,e6,f1,f2,f3,f4]
       exact h.gcS G7 (S'.trans S7) S'.le hy hyl hk (by omega) (by omega)
theorem putAt_at {cs xs:List CV} {off:Nat} (h:off+xs.length≤cs.length) (j:Nat):(putAt cs off xs)[j]? = if off≤j∧j<off+xs.length then xs[j - off]? else cs[j]?:=by
 unfold putAt
 have h1:(cs.take off).length=off:=by rw[List.length_take];omega
 by_cases hj:j<off
 ·rw[if_neg (by omega),List.append_assoc,List.getElem?_append_left (by omega),List.getElem?_take,if_pos hj]
 ·by_cases hj2:j<off+xs.length
  ·rw[if_pos (by omega),List.append_assoc,List.getElem?_append_right (by omega),h1,List.getElem?_append_left (by omega)]
  ·rw[if_neg (by omega),List.getElem?_append_right (by rw[List.length_append];omega),List.length_append,h1,List.getElem?_drop]
   congr 1;omega

theorem putAt_len2 {cs xs:List CV} {off:Nat} (h:off+xs.length≤cs.length):(putAt cs off xs).length=cs.length:=by
 unfold putAt;simp;omega

theorem nF_blks {k:KK} (q:¬ ofF k∨k=.arms):k≠.blks∧(∀ b,k≠.phis b)∧∀ b,k≠.list b:=by
 refine⟨fun e=>?_,fun b e=>?_,fun b e=>?_⟩<;>subst e<;>rcases q with q | q
 ·exact q (.inl rfl)
 ·cases q
 ·exact q (.inr ⟨b,.inr (.inl rfl)⟩)
 ·cases q
 ·exact q (.inr ⟨b,.inr (.inr rfl)⟩)
 ·cases q

theorem GW.term {X:Hp} {κ:KM} {c g s n b:Nat} (h:GW X κ c g s n) (hb:b<n) (k a t e:Int):∃ d gd cells X',rdC X g 0 1=some (.sl d gd 0 n)∧rdOb X d gd=some ⟨cells,gd,true,6⟩∧b * 6+2+4≤cells.length ∧
  X.set d ⟨putAt cells (b * 6+2) [.i k,.i a,.i t,.i e],gd,true,6⟩=X'∧GW X' κ c g s n∧Stp κ κ X X':=by
 obtain⟨v,m,hg,hv⟩:=h.gen
 obtain⟨d,gd,cells,rfl,hd,ho,hl,hC⟩:=hv.opened hb
 have hle:b * 6+2+4≤cells.length:=by omega
 have hle':b * 6+2+([.i k,.i a,.i t,.i e]:List CV).length≤cells.length:=hle
 have hdl:=rdOb_lt ho
 refine⟨d,gd,cells,_,by rw[rdC_ob hg];rfl,ho,hle,rfl,?_⟩
 have hFK:FK (X.set d ⟨putAt cells (b * 6+2) [.i k,.i a,.i t,.i e],gd,true,6⟩) κ s (.sl d gd 0 n) n:=by
  refine FK.upd (κ:=κ) (κ':=κ) (b:=b) hd hC (by rw[putAt_len2 hle'];exact hl) hdl (fun j hj=>by rw[putAt_at hle',if_neg (by simp only[List.length_cons,List.length_nil];omega)]) (fun id g o q1 q2 q3 ho=>⟨ho,rfl⟩) hd ?_ (Nat.le_refl _)
  obtain⟨z,u,a1,a2,a3,a4,p,l,c1,c2,c3,c4,c5,c6,hB⟩:=hC b hb
  refine⟨z,u,k,a,t,e,p,l,?_,?_,?_,?_,?_,?_,hB.keep (Nat.le_refl _) fun id g o q ho=>⟨?_,rfl⟩⟩
  ·rw[putAt_at hle',if_neg (by omega)];exact c1
  ·rw[putAt_at hle',if_neg (by omega)];exact c2
  ·rw[putAt_at hle',if_pos (by simp),show b * 6+2 - (b * 6+2)=0 by omega];rfl
  ·rw[putAt_at hle',if_pos (by simp),show b * 6+3 - (b * 6+2)=1 by omega];rfl
  ·rw[putAt_at hle',if_pos (by simp),show b * 6+4 - (b * 6+2)=2 by omega];rfl
  ·rw[putAt_at hle',if_pos (by simp),show b * 6+5 - (b * 6+2)=3 by omega];rfl
  ·rw[rdOb_set_ne (by rintro rfl;rcases q with q | q | q<;>rw[hd]at q<;>cases q)];exact ho
 exact h.inner hg hFK (by simp) (fun _ _=>rfl) (fun id hi=>h.fr id (by simpa using hi)) fun id gg ob q ho=>by
  rw[rdOb_set_ne (by rintro rfl;exact (nF_blks q).1 hd)];exact ho

def AC:Nat→Nat
 | 0=>15
 | d+1=>5 * (2 * AC d+10)

structure Pc (X:Hp) (κ:KM) (c g s n q A:Nat) (κ':KM) (Y:Hp) (b:Nat) (v:CV) (s' n' q':Nat):Prop where
 gw:GW Y κ' c g s' n'
 st:Stp κ κ' X Y
 kn:KnownK Y κ' v q'
 q0:0<q'
 bn:b<n'
 nn:n≤n'
 sA:s'≤s+A
 nA:n'≤n+A
 qA:q'≤q+A

def CodeRes (X:Hp) (κ:KM) (c g s n q A:Nat) (r:IV×Hp):Prop:=∃ (κ':KM) (Y:Hp) (b:Nat) (v:CV) (s' n' q':Nat),r=(.tup [(false,[.i (b:Int)]),(false,[v])],Y)∧Pc X κ c g s n q A κ' Y b v s' n' q'

theorem gc_tupK {H Z:Hp} {n:Int} {v:CV} (hv:flatC v=false):gcRet H (.tup [(false,[.i n]),(false,[v])]) Z=(.tup [(false,[.i n]),(false,[v])],Z):=by
 unfold gcRet
 split
 ·rw[if_neg]
  cases v<;>simp[flatC]at hv<;>simp[flatV,flatC]
 ·rfl

theorem KnownK.flat {X:Hp} {κ:KM} {v:CV} {q:Nat} (h:KnownK X κ v q) (h0:0<q):flatC v=false∧tcOf (.c v)=some (false,[v]):=by
 obtain⟨⟨xs,hx,rfl⟩,_⟩:=h
 rcases hx with⟨rfl,a,_⟩ | ⟨id,gg,off,o,rfl,a,_⟩
 ·omega
 ·exact⟨rfl,rfl⟩

def CodeOk (dp:Nat):Prop:=∀ (X:Hp) (κ:KM) (c g s n b q:Nat) (w:CV),GW X κ c g s n→b<n→KnownK X κ w q→0<q→s+AC dp≤BIG→n+AC dp≤BIG→q+AC dp≤BIG →
 CM 137 [.c (.p g 0 0),.c (.i b),.c w,.c (.i dp)] X (CodeRes X κ c g s n q (AC dp))

def PieceOk (f:Nat) (dp:Nat):Prop:=∀ (X:Hp) (κ:KM) (c g s n b q:Nat) (w:CV),GW X κ c g s n→b<n→KnownK X κ w q→0<q→s+(2 * AC dp+10)≤BIG→n+(2 * AC dp+10)≤BIG→q+(2 * AC dp+10)≤BIG →
 CM f [.c (.p g 0 0),.c (.i b),.c w,.c (.i dp)] X (CodeRes X κ c g s n q (2 * AC dp+10))

def RC:Nat→Nat
 | 0=>3
 | d+1=>2 * AC d+10

theorem RC_le (d:Nat):5 * RC d=AC d:=by cases d<;>simp[RC,AC]

theorem RC_3 (d:Nat):3≤RC d:=by
 cases d with
 | zero=>exact Nat.le_refl _
 | succ d=>show 3≤2 * AC d+10;omega

theorem AC_ge:∀ d,d≤AC d:=by
 intro d
 induction d with
 | zero=>exact Nat.zero_le _
 | succ d ih=>show d+1≤5 * (2 * AC d+10);omega

set_option maxRecDepth 100000 in
theorem code_ok {dp:Nat} (hp:∀ d,dp=d+1→PieceOk 185 d∧PieceOk 186 d∧PieceOk 187 d):CodeOk dp:=by
 intro X κ c g s n b q w h hb hw hq hs hn hqq
 refine cw137 ?_
 have hA:=RC_le dp
 have h3:=RC_3 dp
 obtain⟨r,X1,r0,r1,G1,S1,e1⟩:=below_gw h 5
 have r1:=r1 (by omega)
 obtain⟨N,hN⟩:∃ N:Nat,wrap64 (1+r)=N∧N≤5:=⟨(1+r).toNat,by rw[wrap64_id (by omega)];omega,by omega⟩
 unfold vf137c
 simp[h.rc,e1,hN.1]
 obtain⟨I,hI⟩:∃ I:Nat→St→Prop,∀ i st,I i st↔(∃ κ' b' v' s' n' q',Pc X κ c g s n q (i * RC dp) κ' st.h b' v' s' n' q'∧Env.get st.e 0=.c (.p g 0 0)∧Env.get st.e 1=.c (.i (b':Int))∧Env.get st.e 2=.c v'∧Env.get st.e 3=.c (.i dp)∧Env.get st.e 10=.c (.i N)∧Env.get st.e 11=.c (.i i)):=⟨_,fun _ _=>Iff.rfl⟩
 refine wp_for CM_mono N I ((hI _ _).2 ⟨κ,b,w,s,n,q,⟨G1,S1,hw.keep S1,hq,hb,Nat.le_refl _,by omega,by omega,by omega⟩,by simp⟩) ?_ ?_
 ·rintro i ⟨e,Y⟩ hi hIs
  obtain⟨κ',b',v',s',n',q',P,E0,E1,E2,E3,E10,E11⟩:=(hI _ _).1 hIs
  simp only at P E0 E1 E2 E3 E10 E11 ⊢
  have hmul:(i+1) * RC dp≤5 * RC dp:=Nat.mul_le_mul_right _ (by omega)
  have hsucc:(i+1) * RC dp=i * RC dp+RC dp:=Nat.succ_mul _ _
  have p1:=P.sA
  have p2:=P.nA
  have p3:=P.qA
  have next:∀ {κ'':KM} {Z:Hp} {b2:Nat} {v2:CV} {s2 n2 q2:Nat} {e':Env},GW Z κ'' c g s2 n2→Stp κ' κ'' Y Z→KnownK Z κ'' v2 q2→0<q2→b2<n2→n'≤n2→s2≤s'+RC dp→n2≤n'+RC dp→q2≤q'+RC dp →
    Env.get e' 0=.c (.p g 0 0)→Env.get e' 1=.c (.i (b2:Int))→Env.get e' 2=.c v2→Env.get e' 3=.c (.i dp)→Env.get e' 10=.c (.i N)→Env.get e' 11=.c (.i ((i+1:Nat):Int))→I (i+1) ⟨e',Z⟩:=by
   intro κ'' Z b2 v2 s2 n2 q2 e' a1 a2 a3 a4 a5 a6 a7 a8 a9 f0 f1 f2 f3 f10 f11
   exact (hI _ _).2 ⟨κ'',b2,v2,s2,n2,q2,⟨a1,P.st.trans a2,a3,a4,a5,Nat.le_trans P.nn a6,by omega,by omega,by omega⟩,f0,f1,f2,f3,f10,f11⟩
  have hiN:(i:Int)<(N:Int):=by omega
  have hup:wrap64 ((i:Int)+1)=((i+1:Nat):Int):=by rw[wrap64_id (by omega)];omega
  have step:∀ (Z:Hp) (κ2:KM),GW Z κ2 c g s' n'→Stp κ' κ2 Y Z→CM 184 [.c (.p g 0 0),.c (.i b'),.c v'] Z fun r=>∃ κ3 Z' v3 q3,r=(.c v3,Z')∧GW Z' κ3 c g s' n'∧Stp κ' κ3 Y Z'∧KnownK Z' κ3 v3 q3∧0<q3∧q3≤q'+3:=by
   intro Z κ2 a1 a2
   refine (l2Step_call a1 P.bn (P.kn.keep a2) P.q0 (by omega)).mono ?_
   rintro _ ⟨κ3,Z',v3,q3,rfl,k1,k2,k3,k4,k5⟩
   exact⟨κ3,Z',v3,q3,rfl,k1,a2.trans k2,k3,k4,k5⟩
  unfold vf137b0
  by_cases hd:dp=0
  ·subst hd
   simp[E0,E1,E2,E3,E10,E11,hi]
   refine (step Y κ' P.gw (.refl _ _)).mono ?_
   rintro _ ⟨κ3,Z',v3,q3,rfl,k1,k2,k3,k4,k5⟩
   simp[E0,E1,E2,E3,E10,E11,hup]
   exact next k1 k2 k3 k4 P.bn (Nat.le_refl _) (by omega) (by omega) (by omega) (by simp[E0]) (by simp[E1]) (by simp) (by simp[E3]) (by simp[E10]) (by simp)
  ·obtain⟨d,hd1⟩:∃ d,dp=d+1:=⟨dp - 1,by omega⟩
   have hd0:¬ ((dp:Int)≤0):=by omega
   have hge:=AC_ge dp
   have hdw:wrap64 ((dp:Int) - 1)=(d:Int):=by rw[wrap64_id (by simp only[BIG]at hs;omega)];omega
   obtain⟨P1,P2,P3⟩:=hp d hd1
   have hRC:RC dp=2 * AC d+10:=by rw[hd1];rfl
   obtain⟨full,ef⟩:=l2Full_call P.gw
   cases full with
   | true =>
    simp[E0,E1,E2,E3,E10,E11,hi,hd,ef]
    refine (step Y κ' P.gw (.refl _ _)).mono ?_
    rintro _ ⟨κ3,Z',v3,q3,rfl,k1,k2,k3,k4,k5⟩
    simp[E0,E1,E2,E3,E10,E11,hup]
    exact next k1 k2 k3 k4 P.bn (Nat.le_refl _) (by omega) (by omega) (by omega) (by simp[E0]) (by simp[E1]) (by simp) (by simp[E3]) (by simp[E10]) (by simp)
   | false =>
    obtain⟨on,Y1,G2,S2,e2⟩:=once_gw P.gw 3
    cases on with
    | false =>
     simp[E0,E1,E2,E3,E10,E11,hi,hd,ef,P.gw.rc,e2]
     refine (step Y1 κ' G2 S2).mono ?_
     rintro _ ⟨κ3,Z',v3,q3,rfl,k1,k2,k3,k4,k5⟩
     simp[E0,E1,E2,E3,E10,E11,hup]
     exact next k1 k2 k3 k4 P.bn (Nat.le_refl _) (by omega) (by omega) (by omega) (by simp[E0]) (by simp[E1]) (by simp) (by simp[E3]) (by simp[E10]) (by simp)
    | true =>
     obtain⟨r4,Y2,_,_,G3,S3,e3⟩:=below_gw G2 4
     have S23:=S2.trans S3
     have fin:∀ rr,CodeRes Y2 κ' c g s' n' q' (2 * AC d+10) rr→∃ (κ3:KM) (Z:Hp) (b3:Nat) (v3:CV) (s3 n3 q3:Nat),rr=(.tup [(false,[.i (b3:Int)]),(false,[v3])],Z)∧GW Z κ3 c g s3 n3∧Stp κ' κ3 Y Z∧KnownK Z κ3 v3 q3∧0<q3∧b3<n3∧n'≤n3∧s3≤s'+RC dp∧n3≤n'+RC dp∧q3≤q'+RC dp:=by
      rintro rr ⟨κ3,Z,b3,v3,s3,n3,q3,h1,Q⟩
      exact⟨κ3,Z,b3,v3,s3,n3,q3,h1,Q.gw,S23.trans Q.st,Q.kn,Q.q0,Q.bn,Q.nn,by rw[hRC];exact Q.sA,by rw[hRC];exact Q.nA,by rw[hRC];exact Q.qA⟩
     by_cases c0:r4=0
     ·subst c0
      simp[E0,E1,E2,E3,E10,E11,hi,hd,ef,P.gw.rc,e2,G2.rc,e3,hdw]
      refine (P1 Y2 κ' c g s' n' b' q' v' G3 P.bn (P.kn.keep S23) P.q0 (by omega) (by omega) (by omega)).mono ?_
      intro rr hrr
      obtain⟨κ3,Z,b3,v3,s3,n3,q3,rfl,k1,k2,k3,k4,k5,k6,k7,k8,k9⟩:=fin rr hrr
      simp[E0,E1,E2,E3,E10,E11,hup]
      exact next k1 k2 k3 k4 k5 k6 k7 k8 k9 (by simp[E0]) (by simp) (by simp) (by simp[E3]) (by simp[E10]) (by simp)
     ·by_cases c1:r4=1
      ·subst c1
       simp[E0,E1,E2,E3,E10,E11,hi,hd,ef,P.gw.rc,e2,G2.rc,e3,hdw]
       refine (P2 Y2 κ' c g s' n' b' q' v' G3 P.bn (P.kn.keep S23) P.q0 (by omega) (by omega) (by omega)).mono ?_
       intro rr hrr
       obtain⟨κ3,Z,b3,v3,s3,n3,q3,rfl,k1,k2,k3,k4,k5,k6,k7,k8,k9⟩:=fin rr hrr
       simp[E0,E1,E2,E3,E10,E11,hup]
       exact next k1 k2 k3 k4 k5 k6 k7 k8 k9 (by simp[E0]) (by simp) (by simp) (by simp[E3]) (by simp[E10]) (by simp)
      ·simp[E0,E1,E2,E3,E10,E11,hi,hd,ef,P.gw.rc,e2,G2.rc,e3,hdw,c0,c1]
       refine (P3 Y2 κ' c g s' n' b' q' v' G3 P.bn (P.kn.keep S23) P.q0 (by omega) (by omega) (by omega)).mono ?_
       intro rr hrr
       obtain⟨κ3,Z,b3,v3,s3,n3,q3,rfl,k1,k2,k3,k4,k5,k6,k7,k8,k9⟩:=fin rr hrr
       simp[E0,E1,E2,E3,E10,E11,hup]
       exact next k1 k2 k3 k4 k5 k6 k7 k8 k9 (by simp[E0]) (by simp) (by simp) (by simp[E3]) (by simp[E10]) (by simp)
 ·rintro⟨e,Y⟩ hIs
  obtain⟨κ',b',v',s',n',q',P,E0,E1,E2,E3,E10,E11⟩:=(hI _ _).1 hIs
  simp only at P E0 E1 E2 E3 E10 E11 ⊢
  obtain⟨fl,tc⟩:=P.kn.flat P.q0
  have hmul:N * RC dp≤5 * RC dp:=Nat.mul_le_mul_right _ hN.2
  unfold vf137b0
  have hfin:=gc_tupK (H:=X) (Z:=Y) (n:=(b':Int)) fl
  have p1:=P.sA
  have p2:=P.nA
  have p3:=P.qA
  have res:CodeRes X κ c g s n q (AC dp) (.tup [(false,[.i (b':Int)]),(false,[v'])],Y):=⟨κ',Y,b',v',s',n',q',rfl,⟨P.gw,P.st,P.kn,P.q0,P.bn,P.nn,by omega,by omega,by omega⟩⟩
  simp[E0,E1,E2,E3,E10,E11,tc,hfin]
  exact res
structure Op (X:Hp) (κ:KM) (c g s n d gd:Nat) (cells:List CV) (m:Int):Prop where
 gw:GW X κ c g s n
 hg:rdOb X g 0=some ⟨[.p c 0 0,.sl d gd 0 n,.i m],0,true,3⟩
 hd:κ d=.blks
 ho:rdOb X d gd=some ⟨cells,gd,true,6⟩
 hl:cells.length=n * 6
 hC:∀ b,b<n→CellK X κ s cells b

theorem GW.op {X:Hp} {κ:KM} {c g s n b:Nat} (h:GW X κ c g s n) (hb:b<n):∃ d gd cells m,Op X κ c g s n d gd cells m:=by
 obtain⟨v,m,hg,hv⟩:=h.gen
 obtain⟨d,gd,cells,rfl,hd,ho,hl,hC⟩:=hv.opened hb
 exact⟨d,gd,cells,m,h,hg,hd,ho,hl,hC⟩

theorem Op.fk {X:Hp} {κ:KM} {c g s n d gd:Nat} {cells:List CV} {m:Int} (h:Op X κ c g s n d gd cells m):FK X κ s (.sl d gd 0 n) n:=.inr ⟨d,gd,cells,rfl,h.hd,h.ho,h.hl,h.hC⟩

theorem Op.rg {X:Hp} {κ:KM} {c g s n d gd:Nat} {cells:List CV} {m:Int} (h:Op X κ c g s n d gd cells m):rdC X g 0 1=some (.sl d gd 0 n):=by rw[rdC_ob h.hg];rfl

theorem Op.curL {X Y:Hp} {κ:KM} {c g s n d gd:Nat} {cells:List CV} {m:Int} (h:Op X κ c g s n d gd cells m) (hc:CurL c X Y):Op Y κ c g s n d gd cells m∧Stp κ κ X Y:=by
 obtain⟨g1,g2⟩:=h.gw.curL hc
 have key:∀ id,κ id≠.cur→id≠c:=fun id hi e=>by subst e;exact hi h.gw.kc
 refine⟨⟨g1,hc.keep _ _ _ (key _ (by rw[h.gw.kg];simp)) h.hg,h.hd,hc.keep _ _ _ (key _ (by rw[h.hd];simp)) h.ho,h.hl,fun b hb=>(h.hC b hb).keep (Nat.le_refl _) fun id g o q ho=>⟨hc.keep _ _ _ (key _ (by rcases q with q | q | q<;>rw[q]<;>simp)) ho,rfl⟩⟩,g2⟩

theorem Op.app {X:Hp} {κ κ':KM} {c g s n d gd:Nat} {cells:List CV} {m:Int} (h:Op X κ c g s n d gd cells m) (L:Hp) (hk:∀ id,id<X.length→κ' id=κ id) (hf:∀ id,(X++L).length≤id→κ' id=.old):Op (X++L) κ' c g s n d gd cells m∧Stp κ κ' X (X++L):=by
 obtain⟨g1,g2⟩:=h.gw.app L hk hf
 exact⟨⟨g1,rdOb_app L h.hg,by rw[hk _ (rdOb_lt h.ho)];exact h.hd,rdOb_app L h.ho,h.hl,fun b hb=>(h.hC b hb).keep (Nat.le_refl _) fun id g o q ho=>⟨rdOb_app L ho,hk _ (rdOb_lt ho)⟩⟩,g2⟩

theorem put_old {κ:KM} {X:Hp} (hf:∀ id,X.length≤id→κ id=.old) (k:KK) (o:Ob):(∀ id,id<X.length→κ.put X.length k id=κ id)∧∀ id,(X++[o]).length≤id→κ.put X.length k id=.old:=
 ⟨fun id hi=>KM.put_lt _ _ _ hi,fun id hi=>by simp at hi;rw[KM.put_ne _ _ (by omega)];exact hf id (by omega)⟩

theorem Op.arms {X:Hp} {κ:KM} {c g s n d gd:Nat} {cells:List CV} {m:Int} (h:Op X κ c g s n d gd cells m) (x y z w:Int) :
  Op (X++[(⟨[.i x,.i y,.i z,.i w],0,true,2⟩:Ob)]) (κ.put X.length .arms) c g s n d gd cells m∧Stp κ (κ.put X.length .arms) X (X++[(⟨[.i x,.i y,.i z,.i w],0,true,2⟩:Ob)])∧ArmsK (X++[(⟨[.i x,.i y,.i z,.i w],0,true,2⟩:Ob)]) (κ.put X.length .arms) (.sl X.length 0 0 2):=by
 obtain⟨p1,p2⟩:=put_old h.gw.fr .arms ⟨[.i x,.i y,.i z,.i w],0,true,2⟩
 obtain⟨g1,g2⟩:=h.app _ p1 p2
 exact⟨g1,g2,⟨X.length,0,0,2,_,rfl,by simp,by simp;rfl,rfl,by simp,by omega,by omega⟩⟩

theorem PhisK.push {X:Hp} {κ:KM} {b:Nat} {z:CV} {p:Nat} (h:PhisK X κ b z p) (hp:p≤BIG) (hf:∀ id,X.length≤id→κ id=.old) (dd:Int) {w:CV} (hw:ArmsK X κ w) :
  ∃ zi zg Z κ',doApp (X++[(⟨[.i dd,w],0,true,2⟩:Ob)]) 2 z 1 [.i dd,w]=some (.c (.sl zi zg 0 (p+1)),Z)∧PhisK Z κ' b (.sl zi zg 0 (p+1)) (p+1)∧X.length≤Z.length∧(∀ id,id<X.length→κ' id=κ id)∧(∀ id,Z.length≤id→κ' id=.old) ∧
   (∀ id g o,κ id≠.phis b→rdOb X id g=some o→rdOb Z id g=some o):=by
 rcases h with⟨rfl,rfl⟩ | ⟨id,g,cs,rfl,h2,h3,h4,h5⟩
 ·have agree:∀ id,id<X.length→κ.put (X.length+1) (.phis b) id=κ id:=fun id hi=>KM.put_lt _ _ _ (by omega)
  refine⟨X.length+1,0,X++[⟨[.i dd,w],0,true,2⟩,⟨[.i dd,w],0,true,2⟩],κ.put (X.length+1) (.phis b),?_,.inr ⟨X.length+1,0,[.i dd,w],rfl,by simp,by simp,by simp,fun k hk=>?_⟩,by simp,agree,fun id hi=>?_,fun id g o _ ho=>rdOb_app _ ho⟩
  ·simp[doApp,fresh,LIM]
  ·obtain rfl:k=0:=by omega
   exact⟨dd,w,rfl,rfl,hw.keep fun id g o _ ho=>⟨rdOb_app _ ho,agree _ (rdOb_lt ho)⟩⟩
  ·simp at hi
   rw[KM.put_ne _ _ (by omega)];exact hf id (by omega)
 ·have hlt:=rdOb_lt h3
  have happ:=app_own (X:=X++[(⟨[.i dd,w],0,true,2⟩:Ob)]) (o:=id) (g:=g) (n:=p) (sz:=2) (m:=1) (cs:=cs) (xs:=[.i dd,w]) (rdOb_app _ h3) h4.symm (by simp) (by simp only[BIG]at hp;simp only[LIM,List.length_cons,List.length_nil];omega)
  have keep:∀ i gg o,κ i≠.phis b→rdOb X i gg=some o→rdOb ((X++[(⟨[.i dd,w],0,true,2⟩:Ob)]).set id ⟨cs++[.i dd,w],g+1,true,2⟩) i gg=some o:=fun i gg o hne ho=>by
   rw[rdOb_set_ne (by rintro rfl;exact hne h2)];exact rdOb_app _ ho
  refine⟨id,g+1,_,κ,happ,.inr ⟨id,g+1,cs++[.i dd,w],rfl,h2,by rw[rdOb_set_self (by simp;omega)];simp,by simp[h4];omega,fun k hk=>?_⟩,by simp,fun _ _=>rfl,fun i hi=>hf i (by simp at hi;omega),keep⟩
  by_cases e:k<p
  ·obtain⟨d',w',q1,q2,q3⟩:=h5 k e
   refine⟨d',w',by rw[List.getElem?_append_left (by omega)];exact q1,by rw[List.getElem?_append_left (by omega)];exact q2,q3.keep fun i gg o q ho=>⟨keep _ _ _ (by rw[q];simp) ho,rfl⟩⟩
  ·obtain rfl:k=p:=by omega
   refine⟨dd,w,?_,?_,hw.keep fun i gg o q ho=>⟨keep _ _ _ (by rw[q];simp) ho,rfl⟩⟩
   ·rw[List.getElem?_append_right (by omega),h4];simp
   ·rw[List.getElem?_append_right (by omega),h4,show k * 2+1 - k * 2=1 by omega];rfl

theorem Op.setPhis {X Z:Hp} {κ κ':KM} {c g s n d gd b:Nat} {cells:List CV} {m:Int} (h:Op X κ c g s n d gd cells m) (hb:b<n) {z':CV} {p':Nat} (hz:PhisK Z κ' b z' p') {s':Nat} (hs:s≤s') (hp:p'≤s') (hle:X.length≤Z.length) (hk:∀ id,id<X.length→κ' id=κ id)
  (hf:∀ id,Z.length≤id→κ' id=.old) (keep:∀ id g o,κ id≠.phis b→rdOb X id g=some o→rdOb Z id g=some o) :
  GW (Z.set d ⟨cells.set (b * 6) z',gd,true,6⟩) κ' c g s' n∧Stp κ κ' X (Z.set d ⟨cells.set (b * 6) z',gd,true,6⟩):=by
 have hdl:=rdOb_lt h.ho
 have hoZ:=keep _ _ _ (by rw[h.hd];simp) h.ho
 have hl:=h.hl
 have hFK:FK (Z.set d ⟨cells.set (b * 6) z',gd,true,6⟩) κ' s' (.sl d gd 0 n) n:=by
  refine FK.upd (κ:=κ) (b:=b) h.hd h.hC (by simpa using h.hl) (rdOb_lt hoZ) (fun j hj=>by rw[List.getElem?_set,if_neg (by omega)]) (fun id g o q1 q2 q3 ho=>⟨keep id g o q3 ho,hk _ (rdOb_lt ho)⟩) (by rw[hk _ hdl];exact h.hd) ?_ hs
  obtain⟨z,u,a1,a2,a3,a4,p,l,c1,c2,c3,c4,c5,c6,hB⟩:=h.hC b hb
  refine⟨z',u,a1,a2,a3,a4,p',l,?_,?_,?_,?_,?_,?_,⟨hz.keep fun id g o q ho=>⟨?_,rfl⟩,hp,hB.li.keep fun id g o q ho=>⟨?_,hk _ (rdOb_lt ho)⟩,hB.ls⟩⟩
  ·rw[List.getElem?_set,if_pos rfl,if_pos (by omega)]
  ·rw[List.getElem?_set,if_neg (by omega)];exact c2
  ·rw[List.getElem?_set,if_neg (by omega)];exact c3
  ·rw[List.getElem?_set,if_neg (by omega)];exact c4
  ·rw[List.getElem?_set,if_neg (by omega)];exact c5
  ·rw[List.getElem?_set,if_neg (by omega)];exact c6
  ·rw[rdOb_set_ne (by rintro rfl;rw[hk _ hdl,h.hd]at q;rcases q with q | q<;>cases q)];exact ho
  ·rw[rdOb_set_ne (by rintro rfl;rw[h.hd]at q;cases q)]
   exact keep _ _ _ (by rw[q];simp) ho
 exact h.gw.inner h.hg hFK (by simpa using hle) hk (fun id hi=>hf id (by simpa using hi)) fun id gg ob q ho=>by
  rw[rdOb_set_ne (by rintro rfl;exact (nF_blks q).1 h.hd)]
  exact keep _ _ _ ((nF_blks q).2.1 b) ho
section

variable (a b c d e f x y:CV) (r:List CV)

theorem putL0:putAt (a :: r) 0 [x]=x :: r:=by simp[putAt]

theorem putL1:putAt (a :: b :: r) 1 [x]=a :: x :: r:=by simp[putAt]

theorem putL2:putAt (a :: b :: c :: r) 2 [x]=a :: b :: x :: r:=by simp[putAt]

theorem putL3:putAt (a :: b :: c :: d :: r) 3 [x]=a :: b :: c :: x :: r:=by simp[putAt]

theorem putL4:putAt (a :: b :: c :: d :: e :: r) 4 [x]=a :: b :: c :: d :: x :: r:=by simp[putAt]

theorem putD0:putAt (a :: b :: r) 0 [x,y]=x :: y :: r:=by simp[putAt]

theorem putD2:putAt (a :: b :: c :: d :: r) 2 [x,y]=a :: b :: x :: y :: r:=by simp[putAt]

theorem putD4:putAt (a :: b :: c :: d :: e :: f :: r) 4 [x,y]=a :: b :: c :: d :: x :: y :: r:=by simp[putAt]

end

set_option maxRecDepth 100000 in
theorem if_ok {dp:Nat} (hc:CodeOk dp):PieceOk 185 dp:=by
 intro X κ c g s n b q w h hb hw hq hs hn hqq
 refine cw185 ?_
 obtain⟨cond,X1,G1,S1,e1⟩:=l2Some_call h hw hq
 obtain⟨X2,κ2,G2,S2,e2⟩:=l2Block_call G1 (by omega)
 obtain⟨X3,κ3,G3,S3,e3⟩:=l2Block_call G2 (by omega)
 obtain⟨d3,gd3,cells3,X4,r1,r2,r3,r4,G4,S4⟩:=G3.term (b:=b) (by omega) 2 cond n (n+1)
 have T4:=S1.trans (S2.trans (S3.trans S4))
 have hb3:b<n+1+1:=by omega
 unfold vf185c
 simp at e3
 simp[e1,e2,e3,r1,idx6 hb3,r2,r3,r4,putL0,putL1,putL2,putL3]
 refine (hc X4 κ3 c g s (n+1+1) n q w G4 (by omega) (hw.keep T4) hq (by omega) (by omega) (by omega)).mono ?_
 rintro _ ⟨κ5,X5,y,ky,s5,n5,q5,rfl,P5⟩
 have a1:=P5.sA
 have a2:=P5.nA
 have a3:=P5.qA
 have a4:=P5.nn
 have a5:=P5.bn
 obtain⟨f5,t5⟩:=P5.kn.flat P5.q0
 have T5:=T4.trans P5.st
 simp
 refine (hc X5 κ5 c g s5 n5 (n+1) q w P5.gw (by omega) (hw.keep T5) hq (by omega) (by omega) (by omega)).mono ?_
 rintro _ ⟨κ6,X6,nn,kn,s6,n6,q6,rfl,P6⟩
 have b1:=P6.sA
 have b2:=P6.nA
 have b3:=P6.qA
 have b4:=P6.nn
 have b5:=P6.bn
 obtain⟨f6,t6⟩:=P6.kn.flat P6.q0
 have T6:=T5.trans P6.st
 obtain⟨X7,κ7,G7,S7,e7⟩:=l2Block_call P6.gw (by omega)
 obtain⟨d8,gd8,cells8,X8,u1,u2,u3,u4,G8,S8⟩:=G7.term (b:=y) (by omega) 1 0 n6 0
 obtain⟨d9,gd9,cells9,X9,v1,v2,v3,v4,G9,S9⟩:=G8.term (b:=nn) (by omega) 1 0 n6 0
 have T9:=T6.trans (S7.trans (S8.trans S9))
 have hky:=(P5.kn.keep P6.st).keep (S7.trans (S8.trans S9))
 have hkn:=P6.kn.keep (S7.trans (S8.trans S9))
 have hy:y<n6+1:=by omega
 have hnn:nn<n6+1:=by omega
 simp[t5,t6,e7,u1,idx6 hy,u2,u3,u4,v1,idx6 hnn,v2,v3,v4,putL0,putL1,putL2,putL3]
 have fin:∀ (κ':KM) (Y:Hp) (s' q':Nat) (v':CV),GW Y κ' c g s' (n6+1)→Stp κ κ' X Y→KnownK Y κ' v' q'→0<q'→s'≤s6+2→q'≤q+2 →
   ∃ r,gcRet X (.tup [(false,[.i (n6:Int)]),(false,[v'])]) Y=r∧CodeRes X κ c g s n q (2 * AC dp+10) r:=by
  intro κ' Y s' q' v' k1 k2 k3 k4 k5 k6
  obtain⟨fl,tc⟩:=k3.flat k4
  exact⟨_,gc_tupK fl,κ',Y,n6,v',s',n6+1,q',rfl,⟨k1,k2,k3,k4,by omega,by omega,by omega,by omega,by omega⟩⟩
 obtain⟨I,hI⟩:∃ I:Nat→St→Prop,∀ i st,I i st↔(∃ κ' v',GW st.h κ' c g (s6+i) (n6+1)∧Stp κ κ' X st.h∧KnownK st.h κ' v' (q+i)∧KnownK st.h κ' ky q5∧KnownK st.h κ' kn q6∧Env.get st.e 0=.c (.p g 0 0)∧Env.get st.e 2=.c v'∧Env.get st.e 13=.c (.i (y:Int))∧Env.get st.e 14=.c ky∧Env.get st.e 15=.c (.i (nn:Int))∧Env.get st.e 16=.c kn∧Env.get st.e 17=.c (.i (n6:Int))∧Env.get st.e 18=.c (.i i)):=⟨_,fun _ _=>Iff.rfl⟩
 refine wp_for CM_mono 2 I ((hI _ _).2 ⟨κ7,w,G9,T9,hw.keep T9,hky,hkn,by simp⟩) ?_ ?_
 ·rintro i ⟨e,Y⟩ hi hIs
  obtain⟨κ',v',K1,K2,K3,K4,K5,E0,E2,E13,E14,E15,E16,E17,E18⟩:=(hI _ _).1 hIs
  simp only at K1 K2 K3 K4 K5 E0 E2 E13 E14 E15 E16 E17 E18 ⊢
  obtain⟨r,Y1,r0,r1,G1,S1,e1⟩:=below_gw K1 2
  have r1:=r1 (by omega)
  have hw1:wrap64 (1+r)=1+r:=wrap64_id (by omega)
  unfold vf185b0
  by_cases hlt:(i:Int)<1+r
  ·obtain⟨dd,Y2,κ2,G2,S2,e2⟩:=l2New_call G1
   have U2:=S1.trans S2
   obtain⟨dx,gdx,cells,mx,O2⟩:=G2.op (b:=n6) (by omega)
   obtain⟨x1,Y3,C3,e3⟩:=l2Some_cur G2 (K4.keep U2) P5.q0
   obtain⟨O3,S3⟩:=O2.curL C3
   obtain⟨x2,Y4,C4,e4⟩:=l2Some_cur O3.gw (K5.keep (U2.trans S3)) P6.q0
   obtain⟨O4,S4⟩:=O3.curL C4
   obtain⟨O5,S5,hA⟩:=O4.arms y x1 nn x2
   obtain⟨Y5,hY5⟩:∃ Y5,Y4++[(⟨[.i (y:Int),.i x1,.i (nn:Int),.i x2],0,true,2⟩:Ob)]=Y5:=⟨_,rfl⟩
   rw[hY5]at O5 S5 hA
   obtain⟨z,uu,a1,a2,a3,a4,p,l,c1,c2,c3,c4,c5,c6,hB⟩:=O5.hC n6 (by omega)
   have hps:=hB.ps
   obtain⟨zi,zg,Z,κz,happ,hph,hle,hk,hf,keep⟩:=hB.ph.push (by omega) O5.gw.fr dd hA
   obtain⟨G6,S6⟩:=O5.setPhis (b:=n6) (by omega) hph (s':=s6+i+1) (by omega) (by omega) hle hk hf keep
   obtain⟨Z',hZ'⟩:∃ Z',Z.set dx ⟨cells.set (n6 * 6) (.sl zi zg 0 (p+1)),gdx,true,6⟩=Z':=⟨_,rfl⟩
   rw[hZ']at G6 S6
   have U6:=U2.trans (S3.trans (S4.trans (S5.trans S6)))
   obtain⟨cs,Xa,Xb,κb,f1,f2,f3,f4,G7,S7,hkk,ys,hys,hyl⟩:=known_more G6 (K3.keep U6) (by omega) (by omega) [dd] (by simp) (by simp)
   simp only[List.map_cons,List.map_nil,List.length_cons,List.length_nil,Nat.zero_add]at f3 f4 hyl
   have hz2:rdC Y2 dx gdx (n6 * 6)=some z:=by rw[rdC_ob O2.ho];exact c1
   have hg6:=rdOb_app [(⟨[.i dd,.sl Y4.length 0 0 2],0,true,2⟩:Ob)] O5.hg
   have ho6:=rdOb_app [(⟨[.i dd,.sl Y4.length 0 0 2],0,true,2⟩:Ob)] O5.ho
   have hgZ:=keep _ _ _ (by rw[O5.gw.kg];simp) O5.hg
   have hoZ:=keep _ _ _ (by rw[O5.hd];simp) O5.ho
   have hcl:n6 * 6+1≤cells.length:=by have:=O2.hl;omega
   have hput:putAt cells (n6 * 6) [.sl zi zg 0 (p+1)]=cells.set (n6 * 6) (.sl zi zg 0 (p+1)):=putAt_get (by omega)
   have hsrc:srcOf (Y5++[(⟨[.i dd,.sl Y4.length 0 0 2],0,true,2⟩:Ob)]) 2 (.sl Y5.length 0 0 1)=some (1,[.i dd,.sl Y4.length 0 0 2]):=by simp[srcOf]
   have hpa:putAt (putAt [.i 0,.i 0,.i 0,.i 0] 0 [.i (y:Int),.i x1]) 2 [.i (nn:Int),.i x2]=[.i (y:Int),.i x1,.i (nn:Int),.i x2]:=rfl
   have hpb:putAt [.i 0,.ns] 0 [.i dd,.sl Y4.length 0 0 2]=[.i dd,.sl Y4.length 0 0 2]:=rfl
   have hup:wrap64 ((i:Int)+1)=((i+1:Nat):Int):=by rw[wrap64_id (by omega)];omega
   simp[E0,E2,E13,E14,E15,E16,E17,E18,K1.rc,e1,hw1,hlt,e2,O2.rg,hz2,e3,e4,putL0,putL1,putL2,putL3,putD0,putD2,hY5,idx6 (show n6<n6+1 by omega),O2.hg,O3.hg,O4.hg,O5.hg,hg6,hgZ,O2.ho,O3.ho,O4.ho,O5.ho,ho6,hoZ,hsrc,happ,hcl,hput,hZ',f1,f2,f3,f4,hup]
   have W7:=U6.trans S7
   refine (hI _ _).2 ⟨κb,_,by rw[← Nat.add_assoc];exact G7,K2.trans W7,⟨⟨ys,IsI.mk (off:=0) (o:=⟨ys.map .i,2,true,1⟩) hys rfl (by simp) (by rw[List.drop_zero,List.take_of_length_le (by simp)]),by omega⟩,fun id gg off mm h=>?_⟩,K4.keep W7,K5.keep W7,by simp[E0,E2,E13,E14,E15,E16,E17,hyl]⟩
   cases h;rw[hkk];rfl
  ·obtain⟨rr,h1,h2⟩:=fin κ' Y1 (s6+i) (q+i) v' G1 (K2.trans S1) (K3.keep S1) (by omega) (by omega) (by omega)
   obtain⟨fl,tc⟩:=K3.flat (by omega)
   simp[E0,E2,E13,E14,E15,E16,E17,E18,K1.rc,e1,hw1,hlt,tc,h1]
   exact h2
 ·rintro⟨e,Y⟩ hIs
  obtain⟨κ',v',K1,K2,K3,K4,K5,E0,E2,E13,E14,E15,E16,E17,E18⟩:=(hI _ _).1 hIs
  simp only at K1 K2 K3 K4 K5 E0 E2 E13 E14 E15 E16 E17 E18 ⊢
  obtain⟨r,Y1,r0,r1,G1,S1,e1⟩:=below_gw K1 2
  have r1:=r1 (by omega)
  have hw1:wrap64 (1+r)=1+r:=wrap64_id (by omega)
  have hlt:¬ (2:Int)<1+r:=by omega
  obtain⟨rr,h1,h2⟩:=fin κ' Y1 (s6+2) (q+2) v' G1 (K2.trans S1) (K3.keep S1) (by omega) (by omega) (by omega)
  obtain⟨fl,tc⟩:=K3.flat (by omega)
  unfold vf185b0
  simp[E0,E2,E13,E14,E15,E16,E17,E18,K1.rc,e1,hw1,hlt,tc,h1]
  exact h2
theorem Op.phis {X:Hp} {κ:KM} {c g s n d gd b:Nat} {cells:List CV} {m:Int} (h:Op X κ c g s n d gd cells m) (hb:b<n) {k:Nat} {pc:List CV} (hpc:pc.length=k * 2) (hcs:∀ j,j<k→∃ dd w,pc[j * 2]? = some (.i dd)∧pc[j * 2+1]? = some w∧ArmsK X κ w) :
  ∃ X' κ',(X++[(⟨pc,0,true,2⟩:Ob)]).set d ⟨cells.set (b * 6) (.sl X.length 0 0 k),gd,true,6⟩=X'∧GW X' κ' c g (s+k) n∧Stp κ κ' X X':=by
 obtain⟨p1,p2⟩:=put_old h.gw.fr (.phis b) ⟨pc,0,true,2⟩
 have hz:PhisK (X++[(⟨pc,0,true,2⟩:Ob)]) (κ.put X.length (.phis b)) b (.sl X.length 0 0 k) k:=by
  refine .inr ⟨X.length,0,pc,rfl,by simp,by simp,hpc,fun j hj=>?_⟩
  obtain⟨dd,w,a1,a2,a3⟩:=hcs j hj
  exact⟨dd,w,a1,a2,a3.keep fun id g o _ ho=>⟨rdOb_app _ ho,p1 _ (rdOb_lt ho)⟩⟩
 obtain⟨g1,g2⟩:=h.setPhis hb hz (s':=s+k) (by omega) (by omega) (by simp) p1 p2 fun id g o _ ho=>rdOb_app _ ho
 exact⟨_,_,rfl,g1,g2⟩

theorem known_own {X:Hp} {κ:KM} {id g len:Nat} {ys:List Int} (hys:rdOb X id g=some ⟨ys.map .i,g,true,1⟩) (hyl:ys.length=len) (hk:κ id=.ints):KnownK X κ (.sl id g 0 len) len:=by
 subst hyl
 refine⟨⟨ys,IsI.mk (off:=0) (o:=⟨ys.map .i,g,true,1⟩) hys rfl (by simp) (by rw[List.drop_zero,List.take_of_length_le (by simp)]),rfl⟩,fun id gg off mm h=>?_⟩
 cases h;rw[hk];rfl

set_option maxRecDepth 100000 in
theorem when_ok {dp:Nat} (hc:CodeOk dp):PieceOk 186 dp:=by
 intro X κ c g s n b q w h hb hw hq hs hn hqq
 refine cw186 ?_
 obtain⟨cond,X1,G1,S1,e1⟩:=l2Some_call h hw hq
 obtain⟨X2,κ2,G2,S2,e2⟩:=l2Block_call G1 (by omega)
 have T2:=S1.trans S2
 unfold vf186c
 simp[e1,e2]
 refine (hc X2 κ2 c g s (n+1) n q w G2 (by omega) (hw.keep T2) hq (by omega) (by omega) (by omega)).mono ?_
 rintro _ ⟨κ5,X5,y,ky,s5,n5,q5,rfl,P5⟩
 have a1:=P5.sA
 have a2:=P5.nA
 have a3:=P5.qA
 have a4:=P5.nn
 have a5:=P5.bn
 obtain⟨f5,t5⟩:=P5.kn.flat P5.q0
 have T5:=T2.trans P5.st
 obtain⟨X7,κ7,G7,S7,e7⟩:=l2Block_call P5.gw (by omega)
 obtain⟨d8,gd8,cells8,X8,u1,u2,u3,u4,G8,S8⟩:=G7.term (b:=b) (by omega) 2 cond n n5
 obtain⟨d9,gd9,cells9,X9,v1,v2,v3,v4,G9,S9⟩:=G8.term (b:=y) (by omega) 1 0 n5 0
 have T9:=T5.trans (S7.trans (S8.trans S9))
 have hky:=P5.kn.keep (S7.trans (S8.trans S9))
 have hb9:b<n5+1:=by omega
 have hy:y<n5+1:=by omega
 obtain⟨dd,Y2,κY,GY,SY,eY⟩:=l2New_call G9
 obtain⟨dx,gdx,cells,mx,O2⟩:=GY.op (b:=n5) (by omega)
 obtain⟨x1,Y3,C3,e3⟩:=l2Some_cur GY ((hw.keep T9).keep SY) hq
 obtain⟨O3,S3⟩:=O2.curL C3
 obtain⟨x2,Y4,C4,e4⟩:=l2Some_cur O3.gw ((hky.keep SY).keep S3) P5.q0
 obtain⟨O4,S4⟩:=O3.curL C4
 obtain⟨O5,S5,hA⟩:=O4.arms b x1 y x2
 obtain⟨Y5,hY5⟩:∃ Y5,Y4++[(⟨[.i (b:Int),.i x1,.i (y:Int),.i x2],0,true,2⟩:Ob)]=Y5:=⟨_,rfl⟩
 rw[hY5]at O5 S5 hA
 obtain⟨Y6,κ6,hY6,G6,S6⟩:=O5.phis (b:=n5) (by omega) (k:=1) (pc:=[.i dd,.sl Y4.length 0 0 2]) rfl fun j hj=>by
  obtain rfl:j=0:=by omega
  exact⟨dd,_,rfl,rfl,hA⟩
 have U6:=T9.trans (SY.trans (S3.trans (S4.trans (S5.trans S6))))
 obtain⟨cs,Xa,Xb,κb,f1,f2,f3,f4,GZ,SZ,hkk,ys,hys,hyl⟩:=known_more G6 (hw.keep U6) hq (by omega) [dd] (by simp) (by simp)
 simp only[List.map_cons,List.map_nil,List.length_cons,List.length_nil,Nat.zero_add]at f3 f4 hyl
 have hg6:=rdOb_app [(⟨[.i dd,.sl Y4.length 0 0 2],0,true,2⟩:Ob)] O5.hg
 have ho6:=rdOb_app [(⟨[.i dd,.sl Y4.length 0 0 2],0,true,2⟩:Ob)] O5.ho
 have hcl:n5 * 6+1≤cells.length:=by have:=O2.hl;omega
 have hput:putAt cells (n5 * 6) [.sl Y5.length 0 0 1]=cells.set (n5 * 6) (.sl Y5.length 0 0 1):=putAt_get (by omega)
 have hfin:=gc_tupK (H:=X) (Z:=Xb) (n:=(n5:Int)) (v:=.sl Y6.length 2 0 (q+1)) rfl
 simp[t5,e7,u1,idx6 hb9,u2,u3,u4,v1,idx6 hy,v2,v3,v4,putL0,putL1,putL2,putL3,eY,O2.rg,e3,e4,putD0,putD2,hY5,idx6 (show n5<n5+1 by omega),O2.hg,O3.hg,O4.hg,O5.hg,hg6,O2.ho,O3.ho,O4.ho,O5.ho,ho6,hcl,hput,hY6,f1,f2,f3,f4,hfin]
 refine⟨κb,Xb,n5,_,s5+1,n5+1,q+1,rfl,⟨GZ,U6.trans SZ,known_own hys hyl hkk,by omega,by omega,by omega,by omega,by omega,by omega⟩⟩
theorem Op.ext {X Y:Hp} {κ κ':KM} {c g s n d gd:Nat} {cells:List CV} {m:Int} (h:Op X κ c g s n d gd cells m) (hc:CurL c X Y) (hk:∀ id,id<X.length→κ' id=κ id) (hf:∀ id,Y.length≤id→κ' id=.old):Op Y κ' c g s n d gd cells m∧Stp κ κ' X Y:=by
 have key:∀ id,κ id≠.cur→id≠c:=fun id hi e=>by subst e;exact hi h.gw.kc
 have hg':=hc.keep _ _ _ (key _ (by rw[h.gw.kg];simp)) h.hg
 have hC':∀ b,b<n→CellK Y κ' s cells b:=fun b hb=>(h.hC b hb).keep (Nat.le_refl _) fun id g o q ho=>⟨hc.keep _ _ _ (key _ (by rcases q with q | q | q<;>rw[q]<;>simp)) ho,hk _ (rdOb_lt ho)⟩
 have hd':κ' d=.blks:=by rw[hk _ (rdOb_lt h.ho)];exact h.hd
 have ho':=hc.keep _ _ _ (key _ (by rw[h.hd];simp)) h.ho
 refine⟨⟨⟨hc.cur,by rw[hk _ h.gw.cur.lt];exact h.gw.kc,by rw[hk _ (rdOb_lt h.hg)];exact h.gw.kg,hf,fun id hi=>by rw[hk _ (Nat.lt_trans hi h.gw.cur.lt)];exact h.gw.low id hi,_,m,hg',.inr ⟨d,gd,cells,rfl,hd',ho',h.hl,hC'⟩⟩,hg',hd',ho',h.hl,hC'⟩,hc.le,hk,fun id gg o hs ho=>hc.keep _ _ _ ?_ ho⟩
 rintro rfl
 rw[h.gw.kc]at hs;cases hs

inductive Cl where
 | v (x:IV) | int | pair | arms | phi | ints | row

def clOk (hd:Nat) (X:Hp) (κ:KM):Cl→IV→Prop
 | .v x,u=>u=x
 | .int,u=>∃ a,u=.c (.i a)
 | .pair,u=>∃ a b,u=.agg [.i a,.i b]
 | .arms,u=>∃ id,u=.c (.sl id 0 0 2)∧ArmsK X κ (.sl id 0 0 2)
 | .phi,u=>∃ a id,u=.agg [.i a,.sl id 0 0 2]∧ArmsK X κ (.sl id 0 0 2)
 | .ints,u=>∃ id xs,u=.c (.sl id 0 0 2)∧IsI X (.sl id 0 0 2) xs∧xs.length=2∧κ id=.ints
 | .row,u=>∃ id pc,u=.c (.sl id 0 0 3)∧PhisK X κ hd (.sl id 0 0 3) 3∧rdOb X id 0=some pc

theorem clOk.keep {hd:Nat} {X Y:Hp} {κ κ':KM} {c:Nat} {k:Cl} {u:IV} (h:clOk hd X κ k u) (hκ:κ c=.cur) (hc:CurL c X Y) (hk:∀ id,id<X.length→κ' id=κ id):clOk hd Y κ' k u:=by
 have kp:∀ id g o,κ id≠.cur→rdOb X id g=some o→rdOb Y id g=some o∧κ' id=κ id:=fun id g o hn ho=>⟨hc.keep _ _ _ (by rintro rfl;exact hn hκ) ho,hk _ (rdOb_lt ho)⟩
 cases k with
 | v x=>exact h
 | int=>exact h
 | pair=>exact h
 | arms=>obtain⟨id,h1,h2⟩:=h;exact⟨id,h1,h2.keep fun id g o q ho=>kp id g o (by rw[q];simp) ho⟩
 | phi=>obtain⟨a,id,h1,h2⟩:=h;exact⟨a,id,h1,h2.keep fun id g o q ho=>kp id g o (by rw[q];simp) ho⟩
 | ints =>
  obtain⟨id,xs,h1,h2,h3,h4⟩:=h
  rcases h2 with⟨a,_⟩ | ⟨id',g',off',o,a,b,e⟩
  ·cases a
  ·injection a with a1 a2 a3 a4
   subst a1;subst a2;subst a3
   obtain⟨r1,r2⟩:=kp _ _ _ (by rw[h4];simp) b
   exact⟨id,xs,h1,.inr ⟨id,0,0,o,by rw[h3],r1,e⟩,h3,by rw[r2,h4]⟩
 | row =>
  obtain⟨id,pc,h1,h2,h3⟩:=h
  have h2':=h2
  rcases h2 with⟨a,_⟩ | ⟨id',g',cs,a,b,e,_⟩
  ·cases a
  ·cases a
   obtain⟨r1,r2⟩:=kp _ _ _ (by rw[b];simp) h3
   exact⟨id,pc,h1,h2'.keep fun id g o q ho=>kp id g o (by rcases q with q | q<;>rw[q]<;>simp) ho,r1⟩

theorem KM.agree {κ κ' κ'':KM} {a b:Nat} (h:∀ id,id<a→κ' id=κ id) (k:∀ id,id<b→κ'' id=κ' id) (hab:a≤b):∀ id,id<a→κ'' id=κ id:=fun id hi=>by rw[k id (by omega),h id hi]

set_option maxRecDepth 100000 in
set_option maxHeartbeats 2000000 in
theorem loop_region {X0:Hp} {κ:KM} {c g s n d gd:Nat} {cells:List CV} {m:Int} (O:Op X0 κ c g s n d gd cells m) {hd:Nat} (hh:hd<n) {e0:Env} {w:CV} {q:Nat} (hw:KnownK X0 κ w q) (hq:0<q) {t1 t10 t11 t14 t15 t16 t18 t20 t22 t23:Int}
  (E0:Env.get e0 0=.c (.p g 0 0)) (E1:Env.get e0 1=.c (.i t1)) (E2:Env.get e0 2=.c w) (E10:Env.get e0 10=.c (.i t10)) (E11:Env.get e0 11=.c (.i t11)) (E12:Env.get e0 12=.c (.i (hd:Int))) (E14:Env.get e0 14=.c (.i t14)) (E15:Env.get e0 15=.c (.i t15))
  (E16:Env.get e0 16=.c (.i t16)) (E18:Env.get e0 18=.c (.i t18)) (E20:Env.get e0 20=.c (.i t20)) (E22:Env.get e0 22=.c (.i t22)) (E23:Env.get e0 23=.c (.i t23)) {Q:St→Prop}
  (hQ:∀ e X' κ',(∀ k,k<126→Env.get e k=Env.get e0 k)→GW X' κ' c g (s+3) n→Stp κ κ' X0 X'→Q ⟨e,X'⟩) :
  RunAllD CM vf187r0 Q vf187r0.length (List.replicate vf187r0.length false) ⟨e0,X0⟩:=by
 obtain⟨cl,hcl⟩:∃ cl:Nat→Cl,cl 0=.v (.c (.p g 0 0))∧cl 1=.v (.c (.p g 0 0))∧cl 2=.v (.c (.p g 0 1))∧cl 3=.v (.c (.p g 0 1))∧cl 4=.v (.c (.sl d gd 0 n))∧cl 5=.v (.c (.i (hd:Int)))∧cl 6=.int∧cl 7=.int∧cl 8=.int∧cl 9=.pair∧cl 10=.int∧cl 11=.int∧cl 12=.pair∧cl 13=.arms∧cl 14=.phi∧cl 15=.int∧cl 16=.int∧cl 17=.v (.c (.p g 0 0))∧cl 18=.v (.c w)∧cl 19=.int∧cl 20=.pair∧cl 21=.int∧cl 22=.v (.c (.p g 0 0))∧cl 23=.v (.c (.p g 0 0))∧cl 24=.v (.c (.p g 0 0))∧cl 25=.v (.c (.p c 0 0))∧cl 26=.int∧cl 27=.int∧cl 28=.ints∧cl 29=.int∧cl 30=.pair∧cl 31=.arms∧cl 32=.phi∧cl 33=.int∧cl 34=.int∧cl 35=.int∧cl 36=.pair∧cl 37=.int∧cl 38=.int∧cl 39=.pair∧cl 40=.arms∧cl 41=.phi∧cl 42=.row∧cl 43=.v (.c (.p d gd (hd * 6)))∧cl 44=.v (.c (.p d gd (hd * 6))):=⟨fun j=>match j with
 | 0=>.v (.c (.p g 0 0))
 | 1=>.v (.c (.p g 0 0))
 | 2=>.v (.c (.p g 0 1))
 | 3=>.v (.c (.p g 0 1))
 | 4=>.v (.c (.sl d gd 0 n))
 | 5=>.v (.c (.i (hd:Int)))
 | 6=>.int
 | 7=>.int
 | 8=>.int
 | 9=>.pair
 | 10=>.int
 | 11=>.int
 | 12=>.pair
 | 13=>.arms
 | 14=>.phi
 | 15=>.int
 | 16=>.int
 | 17=>.v (.c (.p g 0 0))
 | 18=>.v (.c w)
 | 19=>.int
 | 20=>.pair
 | 21=>.int
 | 22=>.v (.c (.p g 0 0))
 | 23=>.v (.c (.p g 0 0))
 | 24=>.v (.c (.p g 0 0))
 | 25=>.v (.c (.p c 0 0))
 | 26=>.int
 | 27=>.int
 | 28=>.ints
 | 29=>.int
 | 30=>.pair
 | 31=>.arms
 | 32=>.phi
 | 33=>.int
 | 34=>.int
 | 35=>.int
 | 36=>.pair
 | 37=>.int
 | 38=>.int
 | 39=>.pair
 | 40=>.arms
 | 41=>.phi
 | 42=>.row
 | 43=>.v (.c (.p d gd (hd * 6)))
 | 44=>.v (.c (.p d gd (hd * 6)))
 | _=>.int,⟨rfl,rfl,rfl,rfl,rfl,rfl,rfl,rfl,rfl,rfl,rfl,rfl,rfl,rfl,rfl,rfl,rfl,rfl,rfl,rfl,rfl,rfl,rfl,rfl,rfl,rfl,rfl,rfl,rfl,rfl,rfl,rfl,rfl,rfl,rfl,rfl,rfl,rfl,rfl,rfl,rfl,rfl,rfl,rfl,rfl⟩⟩
 obtain⟨c0,c1,c2,c3,c4,c5,c6,c7,c8,c9,c10,c11,c12,c13,c14,c15,c16,c17,c18,c19,c20,c21,c22,c23,c24,c25,c26,c27,c28,c29,c30,c31,c32,c33,c34,c35,c36,c37,c38,c39,c40,c41,c42,c43,c44⟩:=hcl
 obtain⟨Inv,hInv⟩:∃ Inv:List Bool→St→Prop,∀ l st,Inv l st↔(∃ κ',(∀ k,k<126→Env.get st.e k=Env.get e0 k)∧(∀ id,id<X0.length→κ' id=κ id)∧((l.getD 45 false=true∧GW st.h κ' c g (s+3) n∧Stp κ κ' X0 st.h) ∨
   (l.getD 45 false=false∧CurL c X0 st.h∧(∀ id,st.h.length≤id→κ' id=.old)∧∀ j,j<45→l.getD j false=true→clOk hd st.h κ' (cl j) (Env.get st.e (126+j))))):=⟨_,fun _ _=>Iff.rfl⟩
 have hlen:vf187r0.length=46:=rfl
 refine all_inv CM_mono (by decide +kernel) Inv ((hInv _ _).2 ⟨κ,fun _ _=>rfl,fun _ _=>rfl,.inr ⟨by rw[hlen];rfl,.refl O.gw.cur,O.gw.fr,fun j hj hl=>?_⟩⟩) ?_ ?_
 ·rw[hlen,List.getD_eq_getElem?_getD,List.getElem?_replicate,if_pos (by omega)]at hl
  cases hl
 ·rintro listed ⟨e,H⟩ i o hl hclo hI ho hni hdep
  rw[hlen]at hl
  obtain⟨κ',hB,hk,hI⟩:=(hInv _ _).1 hI
  simp only at hB hI
  have hi:i<46:=by rw[← hlen];exact (List.getElem?_eq_some_iff.1 ho).1
  have hnf:listed.getD i false=false:=by rw[getD_tf (by omega) false true];exact hni
  rcases hI with⟨h45,_⟩ | ⟨h45,hC,hf,hP⟩
  ·exfalso
   have hn45:i≠45:=by rintro rfl;rw[h45]at hnf;cases hnf
   have hanc:∀ j,j<45→ancB vf187r0 50 45 j=true:=by decide +kernel
   have:=anc_listed hclo 50 45 i _ (show vf187r0[45]? = some _ from rfl) (hclo 45 _ rfl h45) (hanc i (by omega))
   rw[this]at hnf;cases hnf
  ·have hκc:κ' c=.cur:=by rw[hk _ O.gw.cur.lt];exact O.gw.kc
   obtain⟨OH,SH⟩:=O.ext hC hk hf
   have next:∀ (u:IV) (Y:Hp) (κ'':KM),i<45→CurL c H Y→(∀ id,id<H.length→κ'' id=κ' id)→(∀ id,Y.length≤id→κ'' id=.old)→clOk hd Y κ'' (cl i) u→Inv (listed.set i true) ⟨(126+i,u) :: e,Y⟩:=by
    intro u Y κ'' hi' hCY hkY hfY hu
    refine (hInv _ _).2 ⟨κ'',fun k hk'=>?_,KM.agree hk hkY hC.le,.inr ⟨?_,hC.trans hCY,hfY,fun j hj hlj=>?_⟩⟩
    ·show (if 126+i=k then u else Env.get e k)=_
     rw[if_neg (by omega)];exact hB k hk'
    ·rw[getD_setF (by omega),if_neg (by omega)];exact h45
    ·show clOk hd Y κ'' (cl j) (if 126+i=126+j then u else Env.get e (126+j))
     by_cases e':j=i
     ·subst e';rw[if_pos rfl];exact hu
     ·rw[getD_setF (by omega),if_neg e']at hlj
      rw[if_neg (by omega)]
      exact (hP j hj hlj).keep hκc hCY hkY
   have pure:∀ (u:IV),i<45→clOk hd H κ' (cl i) u→Inv (listed.set i true) ⟨(126+i,u) :: e,H⟩:=fun u hi' hu=>next u H κ' hi' (.refl hC.cur) (fun _ _=>rfl) hf hu
   match i,hi with
   | 0,_ =>
    cases (show vf187r0[0]? = some _ from rfl).symm.trans ho
    have pure':=fun u hu=>pure u (by omega) hu
    have next':=fun u Y κ''=>next u Y κ'' (by omega)
    rw[c0]at pure' next'
    simp only[show (126:Nat)+0=126 from rfl]at pure' next'
    have bb:Env.get e 0=_:=(hB 0 (by omega)).trans E0
    simp[bb]
    exact pure' _ rfl
   | 1,_ =>
    cases (show vf187r0[1]? = some _ from rfl).symm.trans ho
    have pure':=fun u hu=>pure u (by omega) hu
    have next':=fun u Y κ''=>next u Y κ'' (by omega)
    rw[c1]at pure' next'
    simp only[show (126:Nat)+1=127 from rfl]at pure' next'
    have p0:=hP 0 (by omega) (hdep 0 (by simp))
    rw[c0]at p0
    have p0:Env.get e 126=.c (.p g 0 0):=p0
    simp[p0]
    exact pure' _ rfl
   | 2,_ =>
    cases (show vf187r0[2]? = some _ from rfl).symm.trans ho
    have pure':=fun u hu=>pure u (by omega) hu
    have next':=fun u Y κ''=>next u Y κ'' (by omega)
    rw[c2]at pure' next'
    simp only[show (126:Nat)+2=128 from rfl]at pure' next'
    have p1:=hP 1 (by omega) (hdep 1 (by simp))
    rw[c1]at p1
    have p1:Env.get e 127=.c (.p g 0 0):=p1
    simp[p1]
    exact pure' _ rfl
   | 3,_ =>
    cases (show vf187r0[3]? = some _ from rfl).symm.trans ho
    have pure':=fun u hu=>pure u (by omega) hu
    have next':=fun u Y κ''=>next u Y κ'' (by omega)
    rw[c3]at pure' next'
    simp only[show (126:Nat)+3=129 from rfl]at pure' next'
    have p2:=hP 2 (by omega) (hdep 2 (by simp))
    rw[c2]at p2
    have p2:Env.get e 128=.c (.p g 0 1):=p2
    simp[p2]
    exact pure' _ rfl
   | 4,_ =>
    cases (show vf187r0[4]? = some _ from rfl).symm.trans ho
    have pure':=fun u hu=>pure u (by omega) hu
    have next':=fun u Y κ''=>next u Y κ'' (by omega)
    rw[c4]at pure' next'
    simp only[show (126:Nat)+4=130 from rfl]at pure' next'
    have p3:=hP 3 (by omega) (hdep 3 (by simp))
    rw[c3]at p3
    have p3:Env.get e 129=.c (.p g 0 1):=p3
    simp[p3,OH.rg]
    exact pure' _ rfl
   | 5,_ =>
    cases (show vf187r0[5]? = some _ from rfl).symm.trans ho
    have pure':=fun u hu=>pure u (by omega) hu
    have next':=fun u Y κ''=>next u Y κ'' (by omega)
    rw[c5]at pure' next'
    simp only[show (126:Nat)+5=131 from rfl]at pure' next'
    have bb:Env.get e 12=_:=(hB 12 (by omega)).trans E12
    simp[bb]
    exact pure' _ rfl
   | 6,_ =>
    cases (show vf187r0[6]? = some _ from rfl).symm.trans ho
    have pure':=fun u hu=>pure u (by omega) hu
    have next':=fun u Y κ''=>next u Y κ'' (by omega)
    rw[c6]at pure' next'
    simp only[show (126:Nat)+6=132 from rfl]at pure' next'
    have bb:Env.get e 14=_:=(hB 14 (by omega)).trans E14
    simp[bb]
    exact pure' _ ⟨_,rfl⟩
   | 7,_ =>
    cases (show vf187r0[7]? = some _ from rfl).symm.trans ho
    have pure':=fun u hu=>pure u (by omega) hu
    have next':=fun u Y κ''=>next u Y κ'' (by omega)
    rw[c7]at pure' next'
    simp only[show (126:Nat)+7=133 from rfl]at pure' next'
    have bb:Env.get e 1=_:=(hB 1 (by omega)).trans E1
    simp[bb]
    exact pure' _ ⟨_,rfl⟩
   | 8,_ =>
    cases (show vf187r0[8]? = some _ from rfl).symm.trans ho
    have pure':=fun u hu=>pure u (by omega) hu
    have next':=fun u Y κ''=>next u Y κ'' (by omega)
    rw[c8]at pure' next'
    simp only[show (126:Nat)+8=134 from rfl]at pure' next'
    have bb:Env.get e 10=_:=(hB 10 (by omega)).trans E10
    simp[bb]
    exact pure' _ ⟨_,rfl⟩
   | 9,_ =>
    cases (show vf187r0[9]? = some _ from rfl).symm.trans ho
    have pure':=fun u hu=>pure u (by omega) hu
    have next':=fun u Y κ''=>next u Y κ'' (by omega)
    rw[c9]at pure' next'
    simp only[show (126:Nat)+9=135 from rfl]at pure' next'
    have p7:=hP 7 (by omega) (hdep 7 (by simp))
    rw[c7]at p7
    obtain⟨a7,p7⟩:=p7
    simp only[show (126:Nat)+7=133 from rfl]at p7
    have p8:=hP 8 (by omega) (hdep 8 (by simp))
    rw[c8]at p8
    obtain⟨a8,p8⟩:=p8
    simp only[show (126:Nat)+8=134 from rfl]at p8
    simp[p7,p8,putL0,putL1]
    exact pure' _ ⟨_,_,rfl⟩
   | 10,_ =>
    cases (show vf187r0[10]? = some _ from rfl).symm.trans ho
    have pure':=fun u hu=>pure u (by omega) hu
    have next':=fun u Y κ''=>next u Y κ'' (by omega)
    rw[c10]at pure' next'
    simp only[show (126:Nat)+10=136 from rfl]at pure' next'
    have bb:Env.get e 18=_:=(hB 18 (by omega)).trans E18
    simp[bb]
    exact pure' _ ⟨_,rfl⟩
   | 11,_ =>
    cases (show vf187r0[11]? = some _ from rfl).symm.trans ho
    have pure':=fun u hu=>pure u (by omega) hu
    have next':=fun u Y κ''=>next u Y κ'' (by omega)
    rw[c11]at pure' next'
    simp only[show (126:Nat)+11=137 from rfl]at pure' next'
    have bb:Env.get e 20=_:=(hB 20 (by omega)).trans E20
    simp[bb]
    exact pure' _ ⟨_,rfl⟩
   | 12,_ =>
    cases (show vf187r0[12]? = some _ from rfl).symm.trans ho
    have pure':=fun u hu=>pure u (by omega) hu
    have next':=fun u Y κ''=>next u Y κ'' (by omega)
    rw[c12]at pure' next'
    simp only[show (126:Nat)+12=138 from rfl]at pure' next'
    have p10:=hP 10 (by omega) (hdep 10 (by simp))
    rw[c10]at p10
    obtain⟨a10,p10⟩:=p10
    simp only[show (126:Nat)+10=136 from rfl]at p10
    have p11:=hP 11 (by omega) (hdep 11 (by simp))
    rw[c11]at p11
    obtain⟨a11,p11⟩:=p11
    simp only[show (126:Nat)+11=137 from rfl]at p11
    simp[p10,p11,putL0,putL1]
    exact pure' _ ⟨_,_,rfl⟩
   | 13,_ =>
    cases (show vf187r0[13]? = some _ from rfl).symm.trans ho
    have pure':=fun u hu=>pure u (by omega) hu
    have next':=fun u Y κ''=>next u Y κ'' (by omega)
    rw[c13]at pure' next'
    simp only[show (126:Nat)+13=139 from rfl]at pure' next'
    have p9:=hP 9 (by omega) (hdep 9 (by simp))
    rw[c9]at p9
    obtain⟨a9,b9,p9⟩:=p9
    simp only[show (126:Nat)+9=135 from rfl]at p9
    have p12:=hP 12 (by omega) (hdep 12 (by simp))
    rw[c12]at p12
    obtain⟨a12,b12,p12⟩:=p12
    simp only[show (126:Nat)+12=138 from rfl]at p12
    obtain⟨O1,S1,hA⟩:=OH.arms a9 b9 a12 b12
    obtain⟨z1,z2⟩:=put_old hf .arms ⟨[.i a9,.i b9,.i a12,.i b12],0,true,2⟩
    simp[p9,p12,putD0,putD2]
    exact next' _ _ _ ((CurL.refl hC.cur).app _) z1 z2 ⟨_,rfl,hA⟩
   | 14,_ =>
    cases (show vf187r0[14]? = some _ from rfl).symm.trans ho
    have pure':=fun u hu=>pure u (by omega) hu
    have next':=fun u Y κ''=>next u Y κ'' (by omega)
    rw[c14]at pure' next'
    simp only[show (126:Nat)+14=140 from rfl]at pure' next'
    have p6:=hP 6 (by omega) (hdep 6 (by simp))
    rw[c6]at p6
    obtain⟨a6,p6⟩:=p6
    simp only[show (126:Nat)+6=132 from rfl]at p6
    have p13:=hP 13 (by omega) (hdep 13 (by simp))
    rw[c13]at p13
    obtain⟨i13,p13,q13⟩:=p13
    simp only[show (126:Nat)+13=139 from rfl]at p13
    simp[p6,p13,putL0,putL1]
    exact pure' _ ⟨_,_,rfl,q13⟩
   | 15,_ =>
    cases (show vf187r0[15]? = some _ from rfl).symm.trans ho
    have pure':=fun u hu=>pure u (by omega) hu
    have next':=fun u Y κ''=>next u Y κ'' (by omega)
    rw[c15]at pure' next'
    simp only[show (126:Nat)+15=141 from rfl]at pure' next'
    have bb:Env.get e 15=_:=(hB 15 (by omega)).trans E15
    simp[bb]
    exact pure' _ ⟨_,rfl⟩
   | 16,_ =>
    cases (show vf187r0[16]? = some _ from rfl).symm.trans ho
    have pure':=fun u hu=>pure u (by omega) hu
    have next':=fun u Y κ''=>next u Y κ'' (by omega)
    rw[c16]at pure' next'
    simp only[show (126:Nat)+16=142 from rfl]at pure' next'
    have bb:Env.get e 1=_:=(hB 1 (by omega)).trans E1
    simp[bb]
    exact pure' _ ⟨_,rfl⟩
   | 17,_ =>
    cases (show vf187r0[17]? = some _ from rfl).symm.trans ho
    have pure':=fun u hu=>pure u (by omega) hu
    have next':=fun u Y κ''=>next u Y κ'' (by omega)
    rw[c17]at pure' next'
    simp only[show (126:Nat)+17=143 from rfl]at pure' next'
    have bb:Env.get e 0=_:=(hB 0 (by omega)).trans E0
    simp[bb]
    exact pure' _ rfl
   | 18,_ =>
    cases (show vf187r0[18]? = some _ from rfl).symm.trans ho
    have pure':=fun u hu=>pure u (by omega) hu
    have next':=fun u Y κ''=>next u Y κ'' (by omega)
    rw[c18]at pure' next'
    simp only[show (126:Nat)+18=144 from rfl]at pure' next'
    have bb:Env.get e 2=_:=(hB 2 (by omega)).trans E2
    simp[bb]
    exact pure' _ rfl
   | 19,_ =>
    cases (show vf187r0[19]? = some _ from rfl).symm.trans ho
    have pure':=fun u hu=>pure u (by omega) hu
    have next':=fun u Y κ''=>next u Y κ'' (by omega)
    rw[c19]at pure' next'
    simp only[show (126:Nat)+19=145 from rfl]at pure' next'
    have p17:=hP 17 (by omega) (hdep 17 (by simp))
    rw[c17]at p17
    have p17:Env.get e 143=.c (.p g 0 0):=p17
    have p18:=hP 18 (by omega) (hdep 18 (by simp))
    rw[c18]at p18
    have p18:Env.get e 144=.c w:=p18
    obtain⟨x1,Y,CY,eY⟩:=l2Some_cur OH.gw (hw.keep SH) hq
    simp[p17,p18,eY]
    exact next' _ _ _ CY (fun _ _=>rfl) (fun id hi=>hf id (Nat.le_trans CY.le hi)) ⟨_,rfl⟩
   | 20,_ =>
    cases (show vf187r0[20]? = some _ from rfl).symm.trans ho
    have pure':=fun u hu=>pure u (by omega) hu
    have next':=fun u Y κ''=>next u Y κ'' (by omega)
    rw[c20]at pure' next'
    simp only[show (126:Nat)+20=146 from rfl]at pure' next'
    have p16:=hP 16 (by omega) (hdep 16 (by simp))
    rw[c16]at p16
    obtain⟨a16,p16⟩:=p16
    simp only[show (126:Nat)+16=142 from rfl]at p16
    have p19:=hP 19 (by omega) (hdep 19 (by simp))
    rw[c19]at p19
    obtain⟨a19,p19⟩:=p19
    simp only[show (126:Nat)+19=145 from rfl]at p19
    simp[p16,p19,putL0,putL1]
    exact pure' _ ⟨_,_,rfl⟩
   | 21,_ =>
    cases (show vf187r0[21]? = some _ from rfl).symm.trans ho
    have pure':=fun u hu=>pure u (by omega) hu
    have next':=fun u Y κ''=>next u Y κ'' (by omega)
    rw[c21]at pure' next'
    simp only[show (126:Nat)+21=147 from rfl]at pure' next'
    have bb:Env.get e 18=_:=(hB 18 (by omega)).trans E18
    simp[bb]
    exact pure' _ ⟨_,rfl⟩
   | 22,_ =>
    cases (show vf187r0[22]? = some _ from rfl).symm.trans ho
    have pure':=fun u hu=>pure u (by omega) hu
    have next':=fun u Y κ''=>next u Y κ'' (by omega)
    rw[c22]at pure' next'
    simp only[show (126:Nat)+22=148 from rfl]at pure' next'
    have bb:Env.get e 0=_:=(hB 0 (by omega)).trans E0
    simp[bb]
    exact pure' _ rfl
   | 23,_ =>
    cases (show vf187r0[23]? = some _ from rfl).symm.trans ho
    have pure':=fun u hu=>pure u (by omega) hu
    have next':=fun u Y κ''=>next u Y κ'' (by omega)
    rw[c23]at pure' next'
    simp only[show (126:Nat)+23=149 from rfl]at pure' next'
    have p22:=hP 22 (by omega) (hdep 22 (by simp))
    rw[c22]at p22
    have p22:Env.get e 148=.c (.p g 0 0):=p22
    simp[p22]
    exact pure' _ rfl
   | 24,_ =>
    cases (show vf187r0[24]? = some _ from rfl).symm.trans ho
    have pure':=fun u hu=>pure u (by omega) hu
    have next':=fun u Y κ''=>next u Y κ'' (by omega)
    rw[c24]at pure' next'
    simp only[show (126:Nat)+24=150 from rfl]at pure' next'
    have p23:=hP 23 (by omega) (hdep 23 (by simp))
    rw[c23]at p23
    have p23:Env.get e 149=.c (.p g 0 0):=p23
    simp[p23]
    exact pure' _ rfl
   | 25,_ =>
    cases (show vf187r0[25]? = some _ from rfl).symm.trans ho
    have pure':=fun u hu=>pure u (by omega) hu
    have next':=fun u Y κ''=>next u Y κ'' (by omega)
    rw[c25]at pure' next'
    simp only[show (126:Nat)+25=151 from rfl]at pure' next'
    have p24:=hP 24 (by omega) (hdep 24 (by simp))
    rw[c24]at p24
    have p24:Env.get e 150=.c (.p g 0 0):=p24
    simp[p24,OH.gw.rc]
    exact pure' _ rfl
   | 26,_ =>
    cases (show vf187r0[26]? = some _ from rfl).symm.trans ho
    have pure':=fun u hu=>pure u (by omega) hu
    have next':=fun u Y κ''=>next u Y κ'' (by omega)
    rw[c26]at pure' next'
    simp only[show (126:Nat)+26=152 from rfl]at pure' next'
    have bb:Env.get e 16=_:=(hB 16 (by omega)).trans E16
    simp[bb]
    exact pure' _ ⟨_,rfl⟩
   | 27,_ =>
    cases (show vf187r0[27]? = some _ from rfl).symm.trans ho
    have pure':=fun u hu=>pure u (by omega) hu
    have next':=fun u Y κ''=>next u Y κ'' (by omega)
    rw[c27]at pure' next'
    simp only[show (126:Nat)+27=153 from rfl]at pure' next'
    have bb:Env.get e 22=_:=(hB 22 (by omega)).trans E22
    simp[bb]
    exact pure' _ ⟨_,rfl⟩
   | 28,_ =>
    cases (show vf187r0[28]? = some _ from rfl).symm.trans ho
    have pure':=fun u hu=>pure u (by omega) hu
    have next':=fun u Y κ''=>next u Y κ'' (by omega)
    rw[c28]at pure' next'
    simp only[show (126:Nat)+28=154 from rfl]at pure' next'
    have p26:=hP 26 (by omega) (hdep 26 (by simp))
    rw[c26]at p26
    obtain⟨a26,p26⟩:=p26
    simp only[show (126:Nat)+26=152 from rfl]at p26
    have p27:=hP 27 (by omega) (hdep 27 (by simp))
    rw[c27]at p27
    obtain⟨a27,p27⟩:=p27
    simp only[show (126:Nat)+27=153 from rfl]at p27
    obtain⟨z1,z2⟩:=put_old hf .ints ⟨[.i a26,.i a27],0,true,1⟩
    simp[p26,p27,putL0,putL1]
    exact next' _ _ _ ((CurL.refl hC.cur).app _) z1 z2 ⟨_,[a26,a27],rfl,own_ints (X:=H) (cs:=[.i a26,.i a27]) (xs:=[a26,a27]) rfl,rfl,by simp⟩
   | 29,_ =>
    cases (show vf187r0[29]? = some _ from rfl).symm.trans ho
    have pure':=fun u hu=>pure u (by omega) hu
    have next':=fun u Y κ''=>next u Y κ'' (by omega)
    rw[c29]at pure' next'
    simp only[show (126:Nat)+29=155 from rfl]at pure' next'
    have p25:=hP 25 (by omega) (hdep 25 (by simp))
    rw[c25]at p25
    have p25:Env.get e 151=.c (.p c 0 0):=p25
    have p28:=hP 28 (by omega) (hdep 28 (by simp))
    rw[c28]at p28
    obtain⟨i28,xs28,p28,q28,r28,s28⟩:=p28
    simp only[show (126:Nat)+28=154 from rfl]at p28
    obtain⟨x1,Y,_,CY,eY⟩:=pick_call hC.cur q28 (by omega)
    simp[p25,p28,eY]
    exact next' _ _ _ CY.l (fun _ _=>rfl) (fun id hi=>hf id (Nat.le_trans CY.l.le hi)) ⟨_,rfl⟩
   | 30,_ =>
    cases (show vf187r0[30]? = some _ from rfl).symm.trans ho
    have pure':=fun u hu=>pure u (by omega) hu
    have next':=fun u Y κ''=>next u Y κ'' (by omega)
    rw[c30]at pure' next'
    simp only[show (126:Nat)+30=156 from rfl]at pure' next'
    have p21:=hP 21 (by omega) (hdep 21 (by simp))
    rw[c21]at p21
    obtain⟨a21,p21⟩:=p21
    simp only[show (126:Nat)+21=147 from rfl]at p21
    have p29:=hP 29 (by omega) (hdep 29 (by simp))
    rw[c29]at p29
    obtain⟨a29,p29⟩:=p29
    simp only[show (126:Nat)+29=155 from rfl]at p29
    simp[p21,p29,putL0,putL1]
    exact pure' _ ⟨_,_,rfl⟩
   | 31,_ =>
    cases (show vf187r0[31]? = some _ from rfl).symm.trans ho
    have pure':=fun u hu=>pure u (by omega) hu
    have next':=fun u Y κ''=>next u Y κ'' (by omega)
    rw[c31]at pure' next'
    simp only[show (126:Nat)+31=157 from rfl]at pure' next'
    have p20:=hP 20 (by omega) (hdep 20 (by simp))
    rw[c20]at p20
    obtain⟨a20,b20,p20⟩:=p20
    simp only[show (126:Nat)+20=146 from rfl]at p20
    have p30:=hP 30 (by omega) (hdep 30 (by simp))
    rw[c30]at p30
    obtain⟨a30,b30,p30⟩:=p30
    simp only[show (126:Nat)+30=156 from rfl]at p30
    obtain⟨O1,S1,hA⟩:=OH.arms a20 b20 a30 b30
    obtain⟨z1,z2⟩:=put_old hf .arms ⟨[.i a20,.i b20,.i a30,.i b30],0,true,2⟩
    simp[p20,p30,putD0,putD2]
    exact next' _ _ _ ((CurL.refl hC.cur).app _) z1 z2 ⟨_,rfl,hA⟩
   | 32,_ =>
    cases (show vf187r0[32]? = some _ from rfl).symm.trans ho
    have pure':=fun u hu=>pure u (by omega) hu
    have next':=fun u Y κ''=>next u Y κ'' (by omega)
    rw[c32]at pure' next'
    simp only[show (126:Nat)+32=158 from rfl]at pure' next'
    have p15:=hP 15 (by omega) (hdep 15 (by simp))
    rw[c15]at p15
    obtain⟨a15,p15⟩:=p15
    simp only[show (126:Nat)+15=141 from rfl]at p15
    have p31:=hP 31 (by omega) (hdep 31 (by simp))
    rw[c31]at p31
    obtain⟨i31,p31,q31⟩:=p31
    simp only[show (126:Nat)+31=157 from rfl]at p31
    simp[p15,p31,putL0,putL1]
    exact pure' _ ⟨_,_,rfl,q31⟩
   | 33,_ =>
    cases (show vf187r0[33]? = some _ from rfl).symm.trans ho
    have pure':=fun u hu=>pure u (by omega) hu
    have next':=fun u Y κ''=>next u Y κ'' (by omega)
    rw[c33]at pure' next'
    simp only[show (126:Nat)+33=159 from rfl]at pure' next'
    have bb:Env.get e 16=_:=(hB 16 (by omega)).trans E16
    simp[bb]
    exact pure' _ ⟨_,rfl⟩
   | 34,_ =>
    cases (show vf187r0[34]? = some _ from rfl).symm.trans ho
    have pure':=fun u hu=>pure u (by omega) hu
    have next':=fun u Y κ''=>next u Y κ'' (by omega)
    rw[c34]at pure' next'
    simp only[show (126:Nat)+34=160 from rfl]at pure' next'
    have bb:Env.get e 1=_:=(hB 1 (by omega)).trans E1
    simp[bb]
    exact pure' _ ⟨_,rfl⟩
   | 35,_ =>
    cases (show vf187r0[35]? = some _ from rfl).symm.trans ho
    have pure':=fun u hu=>pure u (by omega) hu
    have next':=fun u Y κ''=>next u Y κ'' (by omega)
    rw[c35]at pure' next'
    simp only[show (126:Nat)+35=161 from rfl]at pure' next'
    have bb:Env.get e 11=_:=(hB 11 (by omega)).trans E11
    simp[bb]
    exact pure' _ ⟨_,rfl⟩
   | 36,_ =>
    cases (show vf187r0[36]? = some _ from rfl).symm.trans ho
    have pure':=fun u hu=>pure u (by omega) hu
    have next':=fun u Y κ''=>next u Y κ'' (by omega)
    rw[c36]at pure' next'
    simp only[show (126:Nat)+36=162 from rfl]at pure' next'
    have p34:=hP 34 (by omega) (hdep 34 (by simp))
    rw[c34]at p34
    obtain⟨a34,p34⟩:=p34
    simp only[show (126:Nat)+34=160 from rfl]at p34
    have p35:=hP 35 (by omega) (hdep 35 (by simp))
    rw[c35]at p35
    obtain⟨a35,p35⟩:=p35
    simp only[show (126:Nat)+35=161 from rfl]at p35
    simp[p34,p35,putL0,putL1]
    exact pure' _ ⟨_,_,rfl⟩
   | 37,_ =>
    cases (show vf187r0[37]? = some _ from rfl).symm.trans ho
    have pure':=fun u hu=>pure u (by omega) hu
    have next':=fun u Y κ''=>next u Y κ'' (by omega)
    rw[c37]at pure' next'
    simp only[show (126:Nat)+37=163 from rfl]at pure' next'
    have bb:Env.get e 18=_:=(hB 18 (by omega)).trans E18
    simp[bb]
    exact pure' _ ⟨_,rfl⟩
   | 38,_ =>
    cases (show vf187r0[38]? = some _ from rfl).symm.trans ho
    have pure':=fun u hu=>pure u (by omega) hu
    have next':=fun u Y κ''=>next u Y κ'' (by omega)
    rw[c38]at pure' next'
    simp only[show (126:Nat)+38=164 from rfl]at pure' next'
    have bb:Env.get e 23=_:=(hB 23 (by omega)).trans E23
    simp[bb]
    exact pure' _ ⟨_,rfl⟩
   | 39,_ =>
    cases (show vf187r0[39]? = some _ from rfl).symm.trans ho
    have pure':=fun u hu=>pure u (by omega) hu
    have next':=fun u Y κ''=>next u Y κ'' (by omega)
    rw[c39]at pure' next'
    simp only[show (126:Nat)+39=165 from rfl]at pure' next'
    have p37:=hP 37 (by omega) (hdep 37 (by simp))
    rw[c37]at p37
    obtain⟨a37,p37⟩:=p37
    simp only[show (126:Nat)+37=163 from rfl]at p37
    have p38:=hP 38 (by omega) (hdep 38 (by simp))
    rw[c38]at p38
    obtain⟨a38,p38⟩:=p38
    simp only[show (126:Nat)+38=164 from rfl]at p38
    simp[p37,p38,putL0,putL1]
    exact pure' _ ⟨_,_,rfl⟩
   | 40,_ =>
    cases (show vf187r0[40]? = some _ from rfl).symm.trans ho
    have pure':=fun u hu=>pure u (by omega) hu
    have next':=fun u Y κ''=>next u Y κ'' (by omega)
    rw[c40]at pure' next'
    simp only[show (126:Nat)+40=166 from rfl]at pure' next'
    have p36:=hP 36 (by omega) (hdep 36 (by simp))
    rw[c36]at p36
    obtain⟨a36,b36,p36⟩:=p36
    simp only[show (126:Nat)+36=162 from rfl]at p36
    have p39:=hP 39 (by omega) (hdep 39 (by simp))
    rw[c39]at p39
    obtain⟨a39,b39,p39⟩:=p39
    simp only[show (126:Nat)+39=165 from rfl]at p39
    obtain⟨O1,S1,hA⟩:=OH.arms a36 b36 a39 b39
    obtain⟨z1,z2⟩:=put_old hf .arms ⟨[.i a36,.i b36,.i a39,.i b39],0,true,2⟩
    simp[p36,p39,putD0,putD2]
    exact next' _ _ _ ((CurL.refl hC.cur).app _) z1 z2 ⟨_,rfl,hA⟩
   | 41,_ =>
    cases (show vf187r0[41]? = some _ from rfl).symm.trans ho
    have pure':=fun u hu=>pure u (by omega) hu
    have next':=fun u Y κ''=>next u Y κ'' (by omega)
    rw[c41]at pure' next'
    simp only[show (126:Nat)+41=167 from rfl]at pure' next'
    have p33:=hP 33 (by omega) (hdep 33 (by simp))
    rw[c33]at p33
    obtain⟨a33,p33⟩:=p33
    simp only[show (126:Nat)+33=159 from rfl]at p33
    have p40:=hP 40 (by omega) (hdep 40 (by simp))
    rw[c40]at p40
    obtain⟨i40,p40,q40⟩:=p40
    simp only[show (126:Nat)+40=166 from rfl]at p40
    simp[p33,p40,putL0,putL1]
    exact pure' _ ⟨_,_,rfl,q40⟩
   | 42,_ =>
    cases (show vf187r0[42]? = some _ from rfl).symm.trans ho
    have pure':=fun u hu=>pure u (by omega) hu
    have next':=fun u Y κ''=>next u Y κ'' (by omega)
    rw[c42]at pure' next'
    simp only[show (126:Nat)+42=168 from rfl]at pure' next'
    have p14:=hP 14 (by omega) (hdep 14 (by simp))
    rw[c14]at p14
    obtain⟨a14,i14,p14,q14⟩:=p14
    simp only[show (126:Nat)+14=140 from rfl]at p14
    have p32:=hP 32 (by omega) (hdep 32 (by simp))
    rw[c32]at p32
    obtain⟨a32,i32,p32,q32⟩:=p32
    simp only[show (126:Nat)+32=158 from rfl]at p32
    have p41:=hP 41 (by omega) (hdep 41 (by simp))
    rw[c41]at p41
    obtain⟨a41,i41,p41,q41⟩:=p41
    simp only[show (126:Nat)+41=167 from rfl]at p41
    obtain⟨z1,z2⟩:=put_old hf (.phis hd) ⟨[.i a14,.sl i14 0 0 2,.i a32,.sl i32 0 0 2,.i a41,.sl i41 0 0 2],0,true,2⟩
    simp[p14,p32,p41,putD0,putD2,putD4]
    have kp:∀ {ww:CV},ArmsK H κ' ww→ArmsK (H++[(⟨[.i a14,.sl i14 0 0 2,.i a32,.sl i32 0 0 2,.i a41,.sl i41 0 0 2],0,true,2⟩:Ob)]) (κ'.put H.length (.phis hd)) ww:=fun h=>h.keep fun id g o _ ho=>⟨rdOb_app _ ho,z1 _ (rdOb_lt ho)⟩
    refine next' _ _ _ ((CurL.refl hC.cur).app _) z1 z2 ⟨_,_,rfl,.inr ⟨H.length,0,[.i a14,.sl i14 0 0 2,.i a32,.sl i32 0 0 2,.i a41,.sl i41 0 0 2],rfl,by simp,by simp,rfl,fun k hk=>?_⟩,by simp;rfl⟩
    have hk3:k=0∨k=1∨k=2:=by omega
    rcases hk3 with rfl | rfl | rfl
    ·exact⟨_,_,rfl,rfl,kp q14⟩
    ·exact⟨_,_,rfl,rfl,kp q32⟩
    ·exact⟨_,_,rfl,rfl,kp q41⟩
   | 43,_ =>
    cases (show vf187r0[43]? = some _ from rfl).symm.trans ho
    have pure':=fun u hu=>pure u (by omega) hu
    have next':=fun u Y κ''=>next u Y κ'' (by omega)
    rw[c43]at pure' next'
    simp only[show (126:Nat)+43=169 from rfl]at pure' next'
    have p4:=hP 4 (by omega) (hdep 4 (by simp))
    rw[c4]at p4
    have p4:Env.get e 130=.c (.sl d gd 0 n):=p4
    have p5:=hP 5 (by omega) (hdep 5 (by simp))
    rw[c5]at p5
    have p5:Env.get e 131=.c (.i (hd:Int)):=p5
    have p42:=hP 42 (by omega) (hdep 42 (by simp))
    rw[c42]at p42
    obtain⟨i42,pc42,p42,q42,r42⟩:=p42
    simp only[show (126:Nat)+42=168 from rfl]at p42
    simp[p4,p5,p42,idx6 hh]
    exact pure' _ rfl
   | 44,_ =>
    cases (show vf187r0[44]? = some _ from rfl).symm.trans ho
    have pure':=fun u hu=>pure u (by omega) hu
    have next':=fun u Y κ''=>next u Y κ'' (by omega)
    rw[c44]at pure' next'
    simp only[show (126:Nat)+44=170 from rfl]at pure' next'
    have p43:=hP 43 (by omega) (hdep 43 (by simp))
    rw[c43]at p43
    have p43:Env.get e 169=.c (.p d gd (hd * 6)):=p43
    simp[p43]
    exact pure' _ rfl
   | 45,_ =>
    cases (show vf187r0[45]? = some _ from rfl).symm.trans ho
    have p44:=hP 44 (by omega) (hdep 44 (by simp))
    rw[c44]at p44
    have p44:Env.get e 170=.c (.p d gd (hd * 6)):=p44
    have q43:=hclo 44 _ (show vf187r0[44]? = some _ from rfl) (hdep 44 (by simp)) 43 (by simp)
    have q42:=hclo 43 _ (show vf187r0[43]? = some _ from rfl) q43 42 (by simp)
    have p42:=hP 42 (by omega) q42
    rw[c42]at p42
    obtain⟨i42,pc42,p42,q42',r42⟩:=p42
    simp only[show (126:Nat)+42=168 from rfl]at p42
    have hcl:hd * 6+1≤cells.length:=by rw[OH.hl];omega
    have hput:putAt cells (hd * 6) [.sl i42 0 0 3]=cells.set (hd * 6) (.sl i42 0 0 3):=putAt_get (by rw[OH.hl];omega)
    obtain⟨g1,g2⟩:=OH.setPhis hh q42' (s':=s+3) (by omega) (by omega) (Nat.le_refl _) (fun _ _=>rfl) hf fun _ _ _ _ h=>h
    simp[p44,p42,OH.ho,hcl,hput]
    refine (hInv _ _).2 ⟨κ',hB,hk,.inl ⟨by rw[getD_setF (by omega),if_pos rfl],g1,SH.trans g2⟩⟩
   | k+46,h=>omega
 ·rintro⟨e,H⟩ hI
  obtain⟨κ',hB,hk,hI⟩:=(hInv _ _).1 hI
  rcases hI with⟨_,h1,h2⟩ | ⟨h45,_⟩
  ·exact hQ e H κ' hB h1 h2
  ·rw[hlen]at h45
   cases h45
set_option maxRecDepth 100000 in
theorem loop_ok {dp:Nat} (hc:CodeOk dp):PieceOk 187 dp:=by
 intro X κ c g s n b q w h hb hw hq hs hn hqq
 refine cw187 ?_
 obtain⟨start,X1,κ1,G1,S1,e1⟩:=l2New_call h
 obtain⟨one,X2,κ2,G2,S2,e2⟩:=l2New_call G1
 obtain⟨r3,X3,_,_,G3,S3,e3⟩:=below_gw G2 5
 obtain⟨X4,κ4,G4,S4,e4⟩:=l2Put_call G3 hb ⟨20,start,0,0,r3⟩
 obtain⟨X5,κ5,G5,S5,e5⟩:=l2Put_call G4 hb ⟨20,one,0,0,1⟩
 obtain⟨X6,κ6,G6,S6,e6⟩:=l2Block_call G5 (by omega)
 obtain⟨X7,κ7,G7,S7,e7⟩:=l2Block_call G6 (by omega)
 obtain⟨d8,gd8,cells8,X8,u1,u2,u3,u4,G8,S8⟩:=G7.term (b:=b) (by omega) 1 0 n 0
 obtain⟨i9,X9,κ9,G9,S9,e9⟩:=l2New_call G8
 obtain⟨x10,X10,κ10,G10,S10,e10⟩:=l2New_call G9
 obtain⟨y11,X11,κ11,G11,S11,e11⟩:=l2New_call G10
 have T11:=S1.trans (S2.trans (S3.trans (S4.trans (S5.trans (S6.trans (S7.trans (S8.trans (S9.trans (S10.trans S11)))))))))
 obtain⟨cs,Xa,Xb,κb,f1,f2,f3,f4,GZ,SZ,hkk,ys,hys,hyl⟩:=known_more G11 (hw.keep T11) hq (by omega) [i9,x10,y11] (by simp) (by simp)
 simp only[List.map_cons,List.map_nil,List.length_cons,List.length_nil,Nat.zero_add,Nat.reduceAdd]at f3 f4 hyl
 have hin:=known_own hys hyl hkk
 have TZ:=T11.trans SZ
 have hb8:b<n+1+1:=by omega
 simp only at e4 e5
 simp only[Int.natCast_add,Int.cast_ofNat_Int]at e7
 unfold vf187c
 simp[e1,e2,G2.rc,e3,e4,e5,e6,e7,u1,idx6 hb8,u2,u3,u4,e9,e10,e11,f1,f2,f3,f4,putL0,putL1,putL2,putL3,putL4]
 refine (hc Xb κb c g s (n+1+1) (n+1) (q+3) (.sl X11.length 2 0 (q+3)) GZ (by omega) hin (by omega) (by omega) (by omega) (by omega)).mono ?_
 rintro _ ⟨κ5,X5',eb,ke,s5,n5,q5,rfl,P5⟩
 have a1:=P5.sA
 have a2:=P5.nA
 have a3:=P5.qA
 have a4:=P5.nn
 have a5:=P5.bn
 obtain⟨fl5,t5⟩:=P5.kn.flat P5.q0
 have T5:=TZ.trans P5.st
 obtain⟨nx,Y1,μ1,H1,R1,g1⟩:=l2New_call P5.gw
 obtain⟨Y2,μ2,H2,R2,g2⟩:=l2Put_call H1 (b:=eb) (by omega) ⟨2,nx,i9,one,0⟩
 obtain⟨d3,gd3,cells3,Y3,v1,v2,v3,v4,H3,R3⟩:=H2.term (b:=eb) (by omega) 1 0 n 0
 obtain⟨Y4,μ4,H4,R4,g4⟩:=l2Block_call H3 (by omega)
 obtain⟨d5,gd5,cells5,Y5,w1,w2,w3,w4,H5,R5⟩:=H4.term (b:=n) (by omega) 2 i9 (n+1) n5
 have Q5:=R1.trans (R2.trans (R3.trans (R4.trans R5)))
 obtain⟨vx,Y6,H6,R6,g6⟩:=l2Some_call H5 (P5.kn.keep Q5) P5.q0
 obtain⟨v7,Y7,C7,g7⟩:=l2Some_cur H6 (P5.kn.keep (Q5.trans R6)) P5.q0
 obtain⟨H7,R7⟩:=H6.curL C7
 have Q7:=Q5.trans (R6.trans R7)
 obtain⟨K8,L8⟩:=H7.app0 [(⟨[.i x10,.i v7,.i x10],0,true,1⟩:Ob)]
 obtain⟨Y8,hY8⟩:∃ Y8,Y7++[(⟨[.i x10,.i v7,.i x10],0,true,1⟩:Ob)]=Y8:=⟨_,rfl⟩
 have hI:IsI Y8 (.sl Y7.length 0 0 3) [x10,v7,x10]:=by rw[← hY8];exact own_ints (xs:=[x10,v7,x10]) rfl
 rw[hY8]at K8 L8
 obtain⟨vy,Y9,H9,R9,g9⟩:=pick_gw K8 hI (by simp)
 have Q9:=Q7.trans (L8.trans R9)
 obtain⟨dx,gdx,cells,mx,O9⟩:=H9.op (b:=n) (by omega)
 have heb:eb<n5+1:=by omega
 have hn5:n<n5+1:=by omega
 simp only at g2
 simp[t5,g1,g2,v1,idx6 (show eb<n5 by omega),v2,v3,v4,g4,w1,idx6 hn5,w2,w3,w4,g6,g7,H6.rc,H5.rc,hY8,g9,putL0,putL1,putL2,putL3,putL4]
 obtain⟨vg,mg,hg6,_⟩:=H6.gen
 have hgc:g≠c:=by rintro rfl;have a:=H6.kc;rw[H6.kg]at a;cases a
 have hg7:=C7.keep _ _ _ hgc hg6
 refine⟨by rw[hg7,hg6],by rw[← hY8,rdOb_app _ hg7,hg7],?_⟩
 have TF:=T5.trans Q9
 unfold vf187t0
 rw[treeW_all]
 refine loop_region O9 hn5 (hw.keep TF) hq rfl rfl rfl rfl rfl rfl rfl rfl rfl rfl rfl rfl rfl ?_
 intro e X' κ' hB J1 J2
 have b21:Env.get e 21=.c (.i (n5:Int)):=(hB 21 (by omega)).trans rfl
 have b17:Env.get e 17=.c (.sl X11.length 2 0 (q+3)):=(hB 17 (by omega)).trans rfl
 have hfin:=gc_tupK (H:=X) (Z:=X') (n:=(n5:Int)) (v:=.sl X11.length 2 0 (q+3)) rfl
 simp[b21,b17,hfin]
 exact⟨κ',X',n5,_,s5+3,n5+1,q+3,rfl,⟨J1,TF.trans J2,hin.keep (P5.st.trans (Q9.trans J2)),by omega,by omega,by omega,by omega,by omega,by omega⟩⟩

theorem code_all:∀ dp,CodeOk dp:=by
 intro dp
 induction dp with
 | zero=>exact code_ok fun d h=>by omega
 | succ d ih =>
  refine code_ok fun d' h=>?_
  obtain rfl:d'=d:=by omega
  exact⟨if_ok ih,when_ok ih,loop_ok ih⟩
def κ0 (c:Nat):KM:=KM.put (fun _=>.old) c .cur

theorem κ0_ne {c id:Nat} (h:id≠c):κ0 c id=.old:=KM.put_ne _ _ h

theorem Op.setX {X:Hp} {κ:KM} {c g s n d gd:Nat} {cells:List CV} {m:Int} (h:Op X κ c g s n d gd cells m) {i:Nat} (hi:κ i=.old) (hci:c<i) (ob:Ob):Op (X.set i ob) κ c g s n d gd cells m:=by
 have key:∀ id,κ id≠.old→id≠i:=fun id hn e=>by subst e;exact hn hi
 have hg':rdOb (X.set i ob) g 0=some ⟨[.p c 0 0,.sl d gd 0 n,.i m],0,true,3⟩:=by rw[rdOb_set_ne (key _ (by rw[h.gw.kg];simp))];exact h.hg
 have ho':rdOb (X.set i ob) d gd=some ⟨cells,gd,true,6⟩:=by rw[rdOb_set_ne (key _ (by rw[h.hd];simp))];exact h.ho
 have hC':∀ b,b<n→CellK (X.set i ob) κ s cells b:=fun b hb=>(h.hC b hb).keep (Nat.le_refl _) fun id g o q ho=>⟨by rw[rdOb_set_ne (key _ (by rcases q with q | q | q<;>rw[q]<;>simp))];exact ho,rfl⟩
 have hcur:Cur (X.set i ob) c:=by
  obtain⟨bs,j,hh,xs,h1,h2,h3,h4,h5⟩:=h.gw.cur
  refine⟨bs,j,hh,xs,by rw[rdOb_set_ne (by omega)];exact h1,?_,h3,h4,h5⟩
  rcases h2 with⟨a,b,d⟩ | ⟨id,g,off,o,a,b,d,e⟩
  ·exact .inl ⟨a,b,d⟩
  ·exact .inr ⟨id,g,off,o,a,by rw[rdOb_set_ne (by have:=h5 _ _ _ _ a;omega)];exact b,d,e⟩
 exact⟨⟨hcur,h.gw.kc,h.gw.kg,fun id hid=>h.gw.fr id (by simpa using hid),h.gw.low,_,m,hg',.inr ⟨d,gd,cells,rfl,h.hd,ho',h.hl,hC'⟩⟩,hg',h.hd,ho',h.hl,hC'⟩

def RightRes (H:Hp) (c:Nat) (r:IV×Hp):Prop:=∃ κ X g s n d gd cells m,r=(.agg [.sl d gd 0 n,.i m],X)∧Op X κ c g s n d gd cells m∧Stp (κ0 c) κ H X∧0<n∧s≤10000∧n≤10000

set_option maxRecDepth 100000 in
theorem right_call {H:Hp} {c:Nat} (h:Cur H c):CM 76 [.c (.p c 0 0)] H (RightRes H c):=by
 refine cw76 ?_
 have hcl:=h.lt
 obtain⟨X1,hX1⟩:∃ X1,H++[(⟨[.ns,.i 0],0,true,2⟩:Ob),⟨[.p c 0 0,.ns,.i 0],0,true,3⟩]=X1:=⟨_,rfl⟩
 have hk:∀ id,id<H.length→(κ0 c).put (H.length+1) .gen id=κ0 c id:=fun id hi=>KM.put_lt _ _ _ (by omega)
 have hf:∀ id,X1.length≤id→(κ0 c).put (H.length+1) .gen id=.old:=fun id hi=>by
  rw[← hX1]at hi;simp at hi
  rw[KM.put_ne _ _ (by omega),κ0_ne (by omega)]
 have G1:GW X1 ((κ0 c).put (H.length+1) .gen) c (H.length+1) 0 0:=by
  refine⟨by rw[← hX1];exact h.app _,by rw[hk c hcl];exact KM.put_self _ _ _,KM.put_self _ _ _,hf,fun id hi=>by rw[hk _ (by omega),κ0_ne (by omega)],.ns,0,by rw[← hX1];simp,.inl ⟨rfl,rfl⟩⟩
 have S1:Stp (κ0 c) ((κ0 c).put (H.length+1) .gen) H X1:=by rw[← hX1];exact Stp.app H _ hk
 have hR1:rdOb X1 H.length 0=some ⟨[.ns,.i 0],0,true,2⟩:=by rw[← hX1];simp
 have hRk:(κ0 c).put (H.length+1) .gen H.length=.old:=by rw[KM.put_ne _ _ (by omega),κ0_ne (by omega)]
 obtain⟨g,hg⟩:∃ g,H.length+1=g:=⟨_,rfl⟩
 rw[hg]at G1 S1 hRk
 obtain⟨X2,κ2,G2,S2,e2⟩:=l2Block_call G1 (Nat.zero_le _)
 obtain⟨v,X3,κ3,G3,S3,e3⟩:=l2New_call G2
 obtain⟨X4,κ4,G4,S4,e4⟩:=l2Put_call G3 (b:=0) (by omega) ⟨24,v,0,0,0⟩
 obtain⟨G5,S5⟩:=G4.app0 [(⟨[.i v],0,true,1⟩:Ob)]
 obtain⟨X5,hX5⟩:∃ X5,X4++[(⟨[.i v],0,true,1⟩:Ob)]=X5:=⟨_,rfl⟩
 have hw:KnownK X5 κ4 (.sl X4.length 0 0 1) 1:=by
  rw[← hX5]
  refine⟨⟨[v],own_ints (xs:=[v]) rfl,rfl⟩,fun id gg off m e=>?_⟩
  cases e;rw[G4.fr _ (Nat.le_refl _)];rfl
 rw[hX5]at G5 S5
 have hAC:AC 2=2050:=rfl
 simp only at e4
 have e2:∀ k:IV×Hp→Prop,CM 134 [.c (.p g 0 0)] X1 k=k (.c (.i 0),X2):=e2
 have e4:∀ k:IV×Hp→Prop,CM 136 [.c (.p g 0 0),.c (.i 0),.agg [.i 24,.i v,.i 0,.i 0,.i 0]] X3 k=k (.tup [],X4):=e4
 unfold vf76c
 simp[putL0,putL1,hX1,hg,e2,e3,e4,hX5]
 refine (code_all 2 X5 κ4 c g 0 (0+1) 0 1 (.sl X4.length 0 0 1) G5 (by omega) hw (by omega) (by rw[hAC];simp only[BIG];omega) (by rw[hAC];simp only[BIG];omega) (by rw[hAC];simp only[BIG];omega)).mono ?_
 rintro _ ⟨κ6,X6,en,kn,s6,n6,q6,rfl,P6⟩
 have b1:=P6.sA
 have b2:=P6.nA
 have b5:=P6.bn
 rw[hAC]at b1 b2
 obtain⟨f6,t6⟩:=P6.kn.flat P6.q0
 have T6:=S2.trans (S3.trans (S4.trans (S5.trans P6.st)))
 obtain⟨d,gd,cells,m,O6⟩:=P6.gw.op P6.bn
 obtain⟨x7,X7,C7,e7⟩:=l2Some_cur P6.gw P6.kn P6.q0
 obtain⟨O7,S7⟩:=O6.curL C7
 obtain⟨d8,gd8,cells8,X8,u1,u2,u3,u4,G8,S8⟩:=O7.gw.term (b:=en) P6.bn 3 x7 0 0
 have hd8:d8=d∧gd8=gd:=by rw[O7.rg]at u1;injection u1 with u1;injection u1 with a b;exact⟨a.symm,b.symm⟩
 obtain⟨rfl,rfl⟩:=hd8
 have T8:=T6.trans (S7.trans S8)
 have hR8:=T8.keep _ _ _ (by rw[hRk];rfl) hR1
 obtain⟨vv,m8,hg8,hv8⟩:=G8.gen
 have hdg:d8≠g:=by rintro rfl;have:=O7.hd;rw[O7.gw.kg]at this;cases this
 have hg8':rdOb X8 g 0=some ⟨[.p c 0 0,.sl d8 gd8 0 n6,.i m],0,true,3⟩:=by rw[← u4,rdOb_set_ne (Ne.symm hdg)];exact O7.hg
 have hrg8:rdN X8 g 0 1 2=some [.sl d8 gd8 0 n6,.i m]:=by rw[rdN_ob hg8'];simp
 simp[t6,O6.rg,e7,O6.hg,O7.hg,putL0,putL1,idx6 P6.bn,u2,u3,u4,hrg8,hR8,putD0]
 obtain⟨d9,gd9,cells9,m9,O8⟩:=G8.op P6.bn
 have hsame:d9=d8∧gd9=gd8∧m9=m:=by
  have a:=O8.hg
  rw[hg8']at a
  injection a with a;injection a with a
  simp at a
  exact⟨a.1.1.symm,a.1.2.symm,a.2.symm⟩
 obtain⟨rfl,rfl,rfl⟩:=hsame
 have hkR:κ6 H.length=.old:=by rw[T6.kap _ (rdOb_lt hR1),hRk]
 obtain⟨X9,hX9⟩:∃ X9,X8.set H.length ⟨[.sl d9 gd9 0 n6,.i m9],0,true,2⟩=X9:=⟨_,rfl⟩
 have O9:Op X9 κ6 c g s6 n6 d9 gd9 cells9 m9:=by rw[← hX9];exact O8.setX hkR hcl _
 have S9:Stp (κ0 c) κ6 H X9:=by
  have T:=S1.trans T8
  rw[← hX9]
  refine⟨by simpa using T.le,T.kap,fun id gg o hs ho=>?_⟩
  rw[rdOb_set_ne (by have:=rdOb_lt ho;omega)];exact T.keep id gg o hs ho
 have hR9:rdN X9 H.length 0 0 2=some [.sl d9 gd9 0 n6,.i m9]:=by
  rw[← hX9,rdN_ob (o:=⟨[.sl d9 gd9 0 n6,.i m9],0,true,2⟩) (by rw[rdOb_set_self (rdOb_lt hR8)];simp)];simp
 rw[hX9,hR9]
 simp
 rw[gc_agg (by simp[flatC])]
 exact⟨κ6,X9,g,s6,n6,d9,gd9,cells9,m9,rfl,O9,S9,by have:=P6.bn;omega,by omega,by omega⟩
section

variable (a b c d e f g h i j x:CV) (r:List CV)

theorem putL5:putAt (a :: b :: c :: d :: e :: f :: r) 5 [x]=a :: b :: c :: d :: e :: x :: r:=by simp[putAt]

theorem putL6:putAt (a :: b :: c :: d :: e :: f :: g :: r) 6 [x]=a :: b :: c :: d :: e :: f :: x :: r:=by simp[putAt]

theorem putL7:putAt (a :: b :: c :: d :: e :: f :: g :: h :: r) 7 [x]=a :: b :: c :: d :: e :: f :: g :: x :: r:=by simp[putAt]

theorem putL8:putAt (a :: b :: c :: d :: e :: f :: g :: h :: i :: r) 8 [x]=a :: b :: c :: d :: e :: f :: g :: h :: x :: r:=by simp[putAt]

theorem putL9:putAt (a :: b :: c :: d :: e :: f :: g :: h :: i :: j :: r) 9 [x]=a :: b :: c :: d :: e :: f :: g :: h :: i :: x :: r:=by simp[putAt]

end

theorem specMax (H:Hp) (a b:Int) (k:IV×Hp→Prop):CM 79 [.c (.i a),.c (.i b)] H k=k (.c (.i (if b<a then a else b)),H):=by
 refine det (cw79 ?_) k
 unfold vf79c
 by_cases h:b<a<;>simp[h]

def Hi (lo:Nat) (X Y:Hp):Prop:=∀ id g o,lo≤id→rdOb X id g=some o→rdOb Y id g=some o

theorem Hi.refl (lo:Nat) (X:Hp):Hi lo X X:=fun _ _ _ _ h=>h

theorem Hi.trans {lo lo':Nat} {X Y Z:Hp} (h:Hi lo X Y) (k:Hi lo' Y Z) (hl:lo'≤lo):Hi lo X Z:=fun id g o hi ho=>k id g o (by omega) (h id g o hi ho)

theorem Pre.hi {lo:Nat} {X Y:Hp} (h:Pre X Y):Hi lo X Y:=fun _ _ _ _ ho=>h.rdOb ho

theorem Hi.set {lo i:Nat} {X:Hp} (h:i<lo) (o:Ob):Hi lo X (X.set i o):=fun id g ob hi ho=>by rw[rdOb_set_ne (by omega)];exact ho

theorem CurL.hi {lo c:Nat} {X Y:Hp} (h:CurL c X Y) (hc:c<lo):Hi lo X Y:=fun id g o hi ho=>h.keep id g o (by omega) ho

def HiBlocks (lo:Nat) (X:Hp) (v:CV) (bs:List BlkR):Prop:=∀ Y,Hi lo X Y→Blocks Y v bs

def DrawRes (H:Hp) (c:Nat) (r:IV×Hp):Prop:=∃ X v m bs,r=(.agg [v,.i m],X)∧(∃ d g,v=.sl d g 0 bs.length)∧CurL c H X∧HiBlocks H.length X v bs∧bs.length≤BIG∧0<bs.length

def mask (lo:Nat) (X:Hp):Hp:=X.mapIdx fun i o=>if i<lo then ⟨[],0,false,999⟩ else o

theorem mask_hi {lo id g:Nat} {X:Hp} (h:lo≤id):rdOb (mask lo X) id g=rdOb X id g:=by
 unfold rdOb mask
 rw[List.getElem?_mapIdx]
 cases X[id]? with
 | none=>rfl
 | some o=>simp[show ¬ id<lo by omega]

theorem mask_lo {lo id g:Nat} {X:Hp} {o:Ob} (h:id<lo) (ho:rdOb (mask lo X) id g=some o):o.sz=999:=by
 have a:=(rdOb_some.1 ho).1
 unfold mask at a
 rw[List.getElem?_mapIdx]at a
 cases hx:X[id]? with
 | none=>rw[hx]at a;cases a
 | some q=>rw[hx]at a;simp[h]at a;rw[← a]

theorem mask_both {lo id g:Nat} {X Z:Hp} {o:Ob} (h:id<lo) (hz:id<Z.length) (ho:rdOb (mask lo X) id g=some o):rdOb (mask lo Z) id g=some o:=by
 obtain⟨a,b⟩:=rdOb_some.1 ho
 refine rdOb_some.2 ⟨?_,b⟩
 unfold mask at a ⊢
 rw[List.getElem?_mapIdx]at a ⊢
 cases hx:X[id]? with
 | none=>rw[hx]at a;cases a
 | some q =>
  rw[hx]at a;simp[h]at a
  rw[List.getElem?_eq_getElem hz];simp[h,a]

theorem mask_set {lo d:Nat} {Z:Hp} (h:lo≤d) (o:Ob):mask lo (Z.set d o)=(mask lo Z).set d o:=by
 unfold mask
 apply List.ext_getElem?
 intro i
 rw[List.getElem?_mapIdx,List.getElem?_set,List.getElem?_set,List.getElem?_mapIdx,List.length_mapIdx]
 by_cases e:d=i
 ·subst e
  rw[if_pos rfl,if_pos rfl]
  by_cases hz:d<Z.length<;>simp[hz,show ¬ d<lo by omega]
 ·rw[if_neg e,if_neg e]

def Sup (X Y:Hp):Prop:=∀ id g o,o.sz≠999→rdOb X id g=some o→rdOb Y id g=some o

theorem Sl.sup {X Y:Hp} (h:Sup X Y) {sz n:Nat} (hs:sz≠999) {v:CV} {cs:List CV} (k:Sl X sz v n cs):Sl Y sz v n cs:=by
 rcases k with k | ⟨id,g,off,o,a,b,c,d⟩
 ·exact .inl k
 ·exact .inr ⟨id,g,off,o,a,h _ _ _ (by rw[c];exact hs) b,c,d⟩

theorem Row.sup {α:Type} {P:Hp→List CV→α→Prop} {sz:Nat} {X Y:Hp} (h:Sup X Y) (hs:sz≠999) (hP:∀ cs x,P X cs x→P Y cs x) {v:CV} {xs:List α} (k:Row P sz X v xs):Row P sz Y v xs:=by
 obtain⟨css,h1,h2,h3⟩:=k
 exact⟨css,Sl.sup h hs h1,h2,fun k cs x a b=>⟨(h3 k cs x a b).1,hP _ _ (h3 k cs x a b).2⟩⟩

theorem phiP.sup {B:Nat} {X Y:Hp} (h:Sup X Y) {cs:List CV} {p:PhiR} (k:phiP B X cs p):phiP B Y cs p:=by
 obtain⟨w,h1,h2,h3⟩:=k;exact⟨w,h1,h2.sup h (by omega) fun _ _ q=>q,h3⟩

theorem blkP.sup {B:Nat} {X Y:Hp} (h:Sup X Y) {cs:List CV} {p:BlkR} (k:blkP B X cs p):blkP B Y cs p:=by
 obtain⟨w,u,h1,h2,h3,h4⟩:=k;exact⟨w,u,h1,h2.sup h (by omega) fun _ _ q=>phiP.sup h q,h3.sup h (by omega) fun _ _ q=>q,h4⟩

theorem Blocks.sup {X Y:Hp} (h:Sup X Y) {v:CV} {bs:List BlkR} (k:Blocks X v bs):Blocks Y v bs:=Row.sup h (by omega) (fun _ _ q=>blkP.sup h q) k

theorem Hi.sup {lo:Nat} {X Y:Hp} (h:Hi lo X Y):Sup (mask lo X) Y:=fun id g o hs ho=>by
 by_cases hl:id<lo
 ·exact absurd (mask_lo hl ho) hs
 ·rw[mask_hi (by omega)]at ho;exact h id g o (by omega) ho

theorem FK.hi {X:Hp} {κ:KM} {s n lo:Nat} {v:CV} (h:FK X κ s v n) (hs:s≤BIG) (hlo:∀ id,id<lo→¬ ofF (κ id)):∃ bs,HiBlocks lo X v bs∧bs.length=n:=by
 have hm:FK (mask lo X) κ s v n:=h.keep (Nat.le_refl _) fun id g o q ho=>⟨by rw[mask_hi (Nat.le_of_not_lt fun hl=>hlo id hl q)];exact ho,rfl⟩
 obtain⟨bs,h1,h2⟩:=hm.row hs
 exact⟨bs,fun Y hY=>h1.sup hY.sup,h2⟩

theorem Stp.lowF {H X:Hp} {κ:KM} {c:Nat} (hs:Stp (κ0 c) κ H X):∀ id,id<H.length→¬ ofF (κ id):=fun id hi=>by
 rw[hs.kap id hi]
 by_cases e:id=c
 ·subst e;rw[show κ0 id id=.cur from KM.put_self _ _ _]
  rintro (q | ⟨b,q | q | q⟩)<;>cases q
 ·rw[κ0_ne e]
  rintro (q | ⟨b,q | q | q⟩)<;>cases q

theorem Op.setI {X:Hp} {κ:KM} {c g s n d gd b:Nat} {cells:List CV} {m:Int} (h:Op X κ c g s n d gd cells m) (hb:b<n) {j:Nat} (hj:2≤j) (hj6:j<6) (x:Int):Op (X.set d ⟨cells.set (b * 6+j) (.i x),gd,true,6⟩) κ c g s n d gd (cells.set (b * 6+j) (.i x)) m:=by
 have hdl:=rdOb_lt h.ho
 have hl:=h.hl
 have hdg:g≠d:=by rintro rfl;have:=h.hd;rw[h.gw.kg]at this;cases this
 have kp:∀ id gg ob,κ id≠.blks→rdOb X id gg=some ob→rdOb (X.set d ⟨cells.set (b * 6+j) (.i x),gd,true,6⟩) id gg=some ob:=fun id gg ob hne ho=>by rw[rdOb_set_ne (by rintro rfl;exact hne h.hd)];exact ho
 have hC':∀ b',b'<n→CellK (X.set d ⟨cells.set (b * 6+j) (.i x),gd,true,6⟩) κ s (cells.set (b * 6+j) (.i x)) b':=fun b' hb'=>by
  obtain⟨z,u,a1,a2,a3,a4,p,l,c1,c2,c3,c4,c5,c6,hB⟩:=h.hC b' hb'
  have hB':BlkK (X.set d ⟨cells.set (b * 6+j) (.i x),gd,true,6⟩) κ s b' z u p l:=hB.keep (Nat.le_refl _) fun id gg ob q ho=>⟨kp _ _ _ (by rcases q with q | q | q<;>rw[q]<;>simp) ho,rfl⟩
  have get:∀ i (a:Int),i<6→2≤i→cells[b' * 6+i]? = some (.i a)→∃ a',(cells.set (b * 6+j) (.i x))[b' * 6+i]? = some (.i a'):=fun i a hi hi2 ha=>by
   rw[List.getElem?_set]
   split
   ·rw[if_pos (by omega)];exact⟨x,rfl⟩
   ·exact⟨a,ha⟩
  obtain⟨y1,e1⟩:=get 2 a1 (by omega) (by omega) c3
  obtain⟨y2,e2⟩:=get 3 a2 (by omega) (by omega) c4
  obtain⟨y3,e3⟩:=get 4 a3 (by omega) (by omega) c5
  obtain⟨y4,e4⟩:=get 5 a4 (by omega) (by omega) c6
  exact⟨z,u,y1,y2,y3,y4,p,l,by rw[List.getElem?_set,if_neg (by omega)];exact c1,by rw[List.getElem?_set,if_neg (by omega)];exact c2,e1,e2,e3,e4,hB'⟩
 have ho':rdOb (X.set d ⟨cells.set (b * 6+j) (.i x),gd,true,6⟩) d gd=some ⟨cells.set (b * 6+j) (.i x),gd,true,6⟩:=by rw[rdOb_set_self hdl];simp
 have hg':rdOb (X.set d ⟨cells.set (b * 6+j) (.i x),gd,true,6⟩) g 0=some ⟨[.p c 0 0,.sl d gd 0 n,.i m],0,true,3⟩:=by rw[rdOb_set_ne hdg];exact h.hg
 have hFK:FK (X.set d ⟨cells.set (b * 6+j) (.i x),gd,true,6⟩) κ s (.sl d gd 0 n) n:=.inr ⟨d,gd,_,rfl,h.hd,ho',by simpa using hl,hC'⟩
 obtain⟨g1,_⟩:=h.gw.inner h.hg hFK (by simp) (fun _ _=>rfl) (fun id hi=>h.gw.fr id (by simpa using hi)) fun id gg ob q ho=>kp _ _ _ (nF_blks q).1 ho
 exact⟨g1,hg',h.hd,ho',by simpa using hl,hC'⟩

theorem Op.setL {X:Hp} {κ:KM} {c g s n d gd b:Nat} {cells:List CV} {m:Int} (h:Op X κ c g s n d gd cells m) (hb:b<n) {id gi:Nat} {cs:List CV} (hκ:κ id=.list b) (ho:rdOb X id gi=some ⟨cs,gi,true,5⟩) (j:Nat) (x:Int) :
  Op (X.set id ⟨cs.set j (.i x),gi,true,5⟩) κ c g s n d gd cells m:=by
 have hil:=rdOb_lt ho
 have kp:∀ i gg ob,κ i≠.list b→rdOb X i gg=some ob→rdOb (X.set id ⟨cs.set j (.i x),gi,true,5⟩) i gg=some ob:=fun i gg ob hne h'=>by rw[rdOb_set_ne (by rintro rfl;exact hne hκ)];exact h'
 have hC':∀ b',b'<n→CellK (X.set id ⟨cs.set j (.i x),gi,true,5⟩) κ s cells b':=fun b' hb'=>by
  obtain⟨z,u,a1,a2,a3,a4,p,l,c1,c2,c3,c4,c5,c6,hB⟩:=h.hC b' hb'
  refine⟨z,u,a1,a2,a3,a4,p,l,c1,c2,c3,c4,c5,c6,⟨hB.ph.keep fun i gg ob q h'=>⟨kp _ _ _ (by rcases q with q | q<;>rw[q]<;>simp) h',rfl⟩,hB.ps,?_,hB.ls⟩⟩
  by_cases e:b'=b
  ·subst e
   rcases hB.li with⟨r1,r2⟩ | ⟨id',g',cs',r1,r2,r3,r4,r5⟩
   ·exact .inl ⟨r1,r2⟩
   ·by_cases ei:id'=id
    ·subst ei
     have e1:=(rdOb_some.1 r3).1
     have e2:=(rdOb_some.1 ho).1
     rw[e1]at e2
     injection e2 with e2;injection e2 with e2 e3
     subst e2;subst e3
     exact .inr ⟨id',g',cs'.set j (.i x),r1,r2,by rw[rdOb_set_self hil];simp,by simpa using r4,allInt_set r5 _ _⟩
    ·exact .inr ⟨id',g',cs',r1,r2,by rw[rdOb_set_ne ei];exact r3,r4,r5⟩
  ·exact hB.li.keep fun i gg ob q h'=>⟨kp _ _ _ (by rw[q];simp;exact e) h',rfl⟩
 have ho':=kp _ _ _ (by rw[h.hd];simp) h.ho
 have hg':=kp _ _ _ (by rw[h.gw.kg];simp) h.hg
 have hFK:FK (X.set id ⟨cs.set j (.i x),gi,true,5⟩) κ s (.sl d gd 0 n) n:=.inr ⟨d,gd,_,rfl,h.hd,ho',h.hl,hC'⟩
 obtain⟨g1,_⟩:=h.gw.inner h.hg hFK (by simp) (fun _ _=>rfl) (fun i hi=>h.gw.fr i (by simpa using hi)) fun i gg ob q h'=>kp _ _ _ ((nF_blks q).2.2 b) h'
 exact⟨g1,hg',h.hd,ho',h.hl,hC'⟩

def ArmsW (X:Hp) (κ:KM) (w:CV):Prop:=w=.ns∨∃ id g off m cs,w=.sl id g off m∧κ id=.arms∧rdOb X id g=some ⟨cs,g,true,2⟩∧allInt cs=true∧off+m * 2≤cs.length∧m≤4

theorem ArmsK.w {X:Hp} {κ:KM} {w:CV} (h:ArmsK X κ w):ArmsW X κ w:=by
 obtain⟨id,g,off,m,cs,h1,h2,h3,h4,h5,h6,_⟩:=h
 exact .inr ⟨id,g,off,m,cs,h1,h2,h3,h4,h5,h6⟩

theorem ArmsW.row {X:Hp} {κ:KM} {w:CV} (h:ArmsW X κ w):∃ xs:List ArmR,Row armP 2 X w xs∧xs.length≤BIG:=by
 rcases h with rfl | ⟨id,g,off,m,cs,rfl,_,h3,h4,h5,h6⟩
 ·exact⟨[],Row.ns,Nat.zero_le _⟩
 ·obtain⟨xs,e,h⟩:=row_of (P:=armP) (sz:=2) (n:=m) (off:=off) h3 rfl h5 fun k hk=>by
   show ∃ x,armP X ((cs.drop (off+k * 2)).take 2) x
   have hk':(k+1) * 2≤m * 2:=Nat.mul_le_mul_right _ hk
   obtain⟨a,ha⟩:=allInt_at h4 (j:=off+k * 2) (by omega)
   obtain⟨b,hb⟩:=allInt_at h4 (j:=off+k * 2+1) (by omega)
   exact⟨⟨a,b⟩,cells2 (by rw[List.getElem?_eq_getElem (by omega),ha]) (by rw[List.getElem?_eq_getElem (by omega),hb])⟩
  exact⟨xs,h,by simp only[BIG];omega⟩

theorem lastRows {X Z:Hp} {κ:KM} {s n d gd b:Nat} {cells:List CV} (hd:κ d=.blks) (ho:rdOb X d gd=some ⟨cells,gd,true,6⟩) (hl:cells.length=n * 6) (hC:∀ b,b<n→CellK X κ s cells b) (hb:b<n) (hs:s≤10000) {zi zg p:Nat} {cs':List CV} (k3:∀ i gg ob,κ i≠.phis b→rdOb X i gg=some ob→rdOb Z i gg=some ob)
  (k4:rdOb Z zi zg=some ⟨cs',zg,true,2⟩) (k5:zi≠d) (k6:cs'.length=p * 2) (kp:p≤20000) (k7:∀ k,k<p→∃ d' w',cs'[k * 2]? = some (.i d')∧cs'[k * 2+1]? = some w'∧ArmsW X κ w') :
  ∃ bs,Blocks (Z.set d ⟨cells.set (b * 6) (.sl zi zg 0 p),gd,true,6⟩) (.sl d gd 0 n) bs∧bs.length=n:=by
 obtain⟨z',u,a1,a2,a3,a4,p0,l,c1,c2,c3,c4,c5,c6,hB⟩:=hC b hb
 have hoZ:=k3 _ _ _ (by rw[hd];simp) ho
 have hdZ:=rdOb_lt hoZ
 obtain⟨W,hW⟩:∃ W,Z.set d ⟨cells.set (b * 6) (.sl zi zg 0 p),gd,true,6⟩=W:=⟨_,rfl⟩
 have kW:∀ i gg ob,κ i≠.phis b→κ i≠.blks→rdOb X i gg=some ob→rdOb W i gg=some ob:=fun i gg ob q1 q2 ho=>by
  rw[← hW,rdOb_set_ne (by rintro rfl;exact q2 hd)];exact k3 _ _ _ q1 ho
 have hoW:rdOb W d gd=some ⟨cells.set (b * 6) (.sl zi zg 0 p),gd,true,6⟩:=by rw[← hW,rdOb_set_self hdZ];simp
 have hzW:rdOb W zi zg=some ⟨cs',zg,true,2⟩:=by rw[← hW,rdOb_set_ne k5];exact k4
 rw[hW]
 have aW:∀ {ww},ArmsW X κ ww→ArmsW W κ ww:=fun h=>by
  rcases h with h | ⟨id,gg,off,m,cs,h1,h2,h3,h4⟩
  ·exact .inl h
  ·exact .inr ⟨id,gg,off,m,cs,h1,h2,kW _ _ _ (by rw[h2];simp) (by rw[h2];simp) h3,h4⟩
 obtain⟨xs,e,hR⟩:=row_of (P:=blkP BIG) (sz:=6) (n:=n) (off:=0) hoW rfl (by simp only[List.length_set];omega) fun k hk=>by
  show ∃ x,blkP BIG W (((cells.set (b * 6) (.sl zi zg 0 p)).drop (0+k * 6)).take 6) x
  rw[Nat.zero_add]
  by_cases ek:k=b
  ·subst ek
   obtain⟨ps,r1,r2⟩:=row_of (P:=phiP BIG) (sz:=2) (n:=p) (off:=0) hzW rfl (by simp only;omega) fun j hj=>by
    show ∃ x,phiP BIG W ((cs'.drop (0+j * 2)).take 2) x
    rw[Nat.zero_add]
    obtain⟨d',w',q1,q2,q3⟩:=k7 j hj
    obtain⟨ar,t1,t2⟩:=(aW q3).row
    exact⟨⟨d',ar⟩,w',cells2 q1 q2,t1,t2⟩
   obtain⟨ls,r3,r4⟩:=(hB.li.keep (Y:=W) (κ':=κ) fun i gg ob q ho=>⟨kW _ _ _ (by rw[q];simp) (by rw[q];simp) ho,rfl⟩).row
   have hls:=hB.ls
   refine⟨⟨ps,ls,⟨a1,a2,a3,a4⟩⟩,.sl zi zg 0 p,u,cells6 ?_ ?_ ?_ ?_ ?_ ?_,r2,r3,by show ps.length≤BIG;simp only[BIG];omega,by show ls.length≤BIG;simp only[BIG];omega⟩
   ·rw[List.getElem?_set,if_pos rfl,if_pos (by omega)]
   ·rw[List.getElem?_set,if_neg (by omega)];exact c2
   ·rw[List.getElem?_set,if_neg (by omega)];exact c3
   ·rw[List.getElem?_set,if_neg (by omega)];exact c4
   ·rw[List.getElem?_set,if_neg (by omega)];exact c5
   ·rw[List.getElem?_set,if_neg (by omega)];exact c6
  ·obtain⟨z2,u2,b1,b2,b3,b4,p2,l2,d1,d2,d3,d4,d5,d6,hB2⟩:=hC k hk
   have hB3:BlkK W κ s k z2 u2 p2 l2:=hB2.keep (Nat.le_refl _) fun i gg ob q ho=>⟨kW _ _ _ (by rcases q with q | q | q<;>rw[q]<;>simp;exact ek) (by rcases q with q | q | q<;>rw[q]<;>simp) ho,rfl⟩
   obtain⟨ps,r1,r2⟩:=hB3.ph.row
   obtain⟨ls,r3,r4⟩:=hB3.li.row
   have hp2:=hB3.ps
   have hl2:=hB3.ls
   refine⟨⟨ps,ls,⟨b1,b2,b3,b4⟩⟩,z2,u2,cells6 ?_ ?_ ?_ ?_ ?_ ?_,r1,r3,by show ps.length≤BIG;simp only[BIG];omega,by show ls.length≤BIG;simp only[BIG];omega⟩
   all_goals rw[List.getElem?_set,if_neg (by omega)];assumption
 exact⟨xs,hR,e⟩

theorem PhisK.bare {X:Hp} {κ:KM} {b:Nat} {z:CV} {p:Nat} (h:PhisK X κ b z p) (hp:p≤10000) {d:Nat} (hd:κ d=.blks) (hdl:d<X.length) (dd:Int) :
  ∃ zi zg Z cs',(X.length≤zi∨κ zi=.phis b)∧doApp (X++[(⟨[.i dd,.ns],0,true,2⟩:Ob)]) 2 z 1 [.i dd,.ns]=some (.c (.sl zi zg 0 (p+1)),Z)∧X.length≤Z.length∧(∀ i gg ob,κ i≠.phis b→rdOb X i gg=some ob→rdOb Z i gg=some ob)∧rdOb Z zi zg=some ⟨cs',zg,true,2⟩∧zi≠d∧cs'.length=(p+1) * 2 ∧
   ∀ k,k<p+1→∃ d' w',cs'[k * 2]? = some (.i d')∧cs'[k * 2+1]? = some w'∧ArmsW X κ w':=by
 rcases h with⟨rfl,rfl⟩ | ⟨id,gg,cs,rfl,h2,h3,h4,h5⟩
 ·refine⟨X.length+1,0,X++[⟨[.i dd,.ns],0,true,2⟩,⟨[.i dd,.ns],0,true,2⟩],[.i dd,.ns],.inl (by omega),by simp[doApp,fresh,LIM],by simp,fun i gg ob _ ho=>rdOb_app _ ho,by simp,by omega,rfl,fun k hk=>?_⟩
  obtain rfl:k=0:=by omega
  exact⟨dd,.ns,rfl,rfl,.inl rfl⟩
 ·have hlt:=rdOb_lt h3
  have happ:=app_own (X:=X++[(⟨[.i dd,.ns],0,true,2⟩:Ob)]) (o:=id) (g:=gg) (n:=p) (sz:=2) (m:=1) (cs:=cs) (xs:=[.i dd,.ns]) (rdOb_app _ h3) h4.symm (by simp) (by simp only[LIM,List.length_cons,List.length_nil];omega)
  refine⟨id,gg+1,_,cs++[.i dd,.ns],.inr h2,happ,by simp,fun i g' ob hne ho=>by rw[rdOb_set_ne (by rintro rfl;exact hne h2)];exact rdOb_app _ ho,by rw[rdOb_set_self (by simp;omega)];simp,(by rintro rfl;rw[hd]at h2;cases h2),by simp[h4];omega,fun k hk=>?_⟩
  by_cases e:k<p
  ·obtain⟨d',w',q1,q2,q3⟩:=h5 k e
   exact⟨d',w',by rw[List.getElem?_append_left (by omega)];exact q1,by rw[List.getElem?_append_left (by omega)];exact q2,q3.w⟩
  ·obtain rfl:k=p:=by omega
   exact⟨dd,.ns,by rw[List.getElem?_append_right (by omega),h4];simp,by rw[List.getElem?_append_right (by omega),h4,show k * 2+1 - k * 2=1 by omega];rfl,.inl rfl⟩

theorem draw_end {H X:Hp} {κ:KM} {c g s n d gd:Nat} {cells:List CV} {m:Int} (O:Op X κ c g s n d gd cells m) (S:Stp (κ0 c) κ H X) (hn:0<n) (hs:s≤10100) (hn2:n≤10000) (m':Int) (hcl:c<H.length) (hR:κ H.length=.old) (hlt:H.length<X.length) (ob:Ob) :
  DrawRes H c (gcRet H (.agg [.sl d gd 0 n,.i m']) (X.set H.length ob)):=by
 have O9:=O.setX hR hcl ob
 rw[gc_agg (by simp[flatC])]
 obtain⟨bs,h1,h2⟩:=O9.fk.hi (lo:=H.length) (by simp only[BIG];omega) S.lowF
 refine⟨_,_,m',bs,rfl,⟨d,gd,by rw[h2]⟩,⟨O9.gw.cur,by simpa using S.le,fun id gg o hne ho=>?_⟩,h1,by rw[h2];simp only[BIG];omega,by omega⟩
 rw[rdOb_set_ne (by have:=rdOb_lt ho;omega)]
 exact S.keep id gg o (by rw[κ0_ne hne];rfl) ho

theorem Op.end_ {H X Z:Hp} {κ:KM} {c g s n d gd b:Nat} {cells:List CV} {m:Int} (h:Op X κ c g s n d gd cells m) (S:Stp (κ0 c) κ H X) (hb:b<n) (hs:s≤10000) (hn:n≤10000) (hle:X.length≤Z.length) {zi zg p:Nat} {cs':List CV} (k3:∀ i gg ob,κ i≠.phis b→rdOb X i gg=some ob→rdOb Z i gg=some ob)
  (k4:rdOb Z zi zg=some ⟨cs',zg,true,2⟩) (k5:zi≠d) (k6:cs'.length=p * 2) (kp:p≤20000) (k7:∀ k,k<p→∃ d' w',cs'[k * 2]? = some (.i d')∧cs'[k * 2+1]? = some w'∧ArmsW X κ w') (m':Int) (hcl:c<H.length) (hR:κ H.length=.old) (hlt:H.length<X.length) (hzH:H.length<zi) (ob:Ob) :
  DrawRes H c (gcRet H (.agg [.sl d gd 0 n,.i m']) ((Z.set d ⟨cells.set (b * 6) (.sl zi zg 0 p),gd,true,6⟩).set H.length ob)):=by
 have hdH:H.length<d:=by
  have h1:¬ d<H.length:=fun hl=>S.lowF d hl (.inl h.hd)
  have h2:d≠H.length:=by rintro e;have:=h.hd;rw[e,hR]at this;cases this
  omega
 have notF:∀ id,id<H.length+1→¬ ofF (κ id):=fun id hi=>by
  by_cases e:id=H.length
  ·subst e;rw[hR];rintro (q | ⟨b,q | q | q⟩)<;>cases q
  ·exact S.lowF id (by omega)
 have up:∀ id,ofF (κ id)→H.length+1≤id:=fun id q=>Nat.le_of_not_lt fun hl=>notF id hl q
 have hoZ:=k3 _ _ _ (by rw[h.hd];simp) h.ho
 obtain⟨bs,r1,r2⟩:=lastRows (X:=mask (H.length+1) X) (Z:=mask (H.length+1) Z) h.hd (by rw[mask_hi hdH];exact h.ho) h.hl (fun b hb=>(h.hC b hb).keep (Nat.le_refl _) fun id g o q ho=>⟨by rw[mask_hi (up id (.inr ⟨b,q⟩))];exact ho,rfl⟩) hb hs
  (fun i gg o q ho=>by
   by_cases hi:i<H.length+1
   ·exact mask_both hi (by omega) ho
   ·rw[mask_hi (by omega)]at ho ⊢
    exact k3 _ _ _ q ho) (by rw[mask_hi hzH];exact k4) k5 k6 kp fun k hk=>by
   obtain⟨d',w',q1,q2,q3⟩:=k7 k hk
   refine⟨d',w',q1,q2,?_⟩
   rcases q3 with q3 | ⟨id,g,off,m,cs,t1,t2,t3,t4⟩
   ·exact .inl q3
   ·exact .inr ⟨id,g,off,m,cs,t1,t2,by rw[mask_hi (up id (.inr ⟨0,.inl t2⟩))];exact t3,t4⟩
 rw[← mask_set (by omega)]at r1
 obtain⟨W,hW⟩:∃ W,Z.set d ⟨cells.set (b * 6) (.sl zi zg 0 p),gd,true,6⟩=W:=⟨_,rfl⟩
 rw[hW]at r1 ⊢
 have hlW:W.length=Z.length:=by rw[← hW];simp
 have kW:∀ i gg ob,κ i≠.phis b→κ i≠.blks→rdOb X i gg=some ob→rdOb W i gg=some ob:=fun i gg ob q1 q2 ho=>by
  rw[← hW,rdOb_set_ne (by rintro rfl;exact q2 h.hd)];exact k3 _ _ _ q1 ho
 have hcur:Cur (W.set H.length ob) c:=by
  obtain⟨bs,j,hh,xs,h1,h2,h3,h4,h5⟩:=h.gw.cur
  refine⟨bs,j,hh,xs,by rw[rdOb_set_ne (by omega)];exact kW _ _ _ (by rw[h.gw.kc];simp) (by rw[h.gw.kc];simp) h1,?_,h3,h4,h5⟩
  rcases h2 with⟨a,b,d⟩ | ⟨id,gg,off,o,a,b,d,e⟩
  ·exact .inl ⟨a,b,d⟩
  ·have hlt5:=h5 _ _ _ _ a
   have hlow:=h.gw.low _ hlt5
   exact .inr ⟨id,gg,off,o,a,by rw[rdOb_set_ne (by omega)];exact kW _ _ _ (by rw[hlow];simp) (by rw[hlow];simp) b,d,e⟩
 rw[gc_agg (by simp[flatC])]
 refine⟨_,_,m',bs,rfl,⟨d,gd,by rw[r2]⟩,⟨hcur,by simp;have:=S.le;omega,fun id gg o hne ho=>?_⟩,fun Y hY=>r1.sup (Hi.sup fun id g o hi ho=>hY id g o (by omega) (by rw[rdOb_set_ne (by omega)];exact ho)),by rw[r2];simp only[BIG];omega,by omega⟩
 have hκid:κ id=.old:=by rw[S.kap _ (rdOb_lt ho),κ0_ne hne]
 rw[rdOb_set_ne (by have:=rdOb_lt ho;omega)]
 exact kW _ _ _ (by rw[hκid];simp) (by rw[hκid];simp) (S.keep id gg o (by rw[κ0_ne hne];rfl) ho)

theorem put4 {cells:List CV} {o:Nat} (h:o+4≤cells.length) (w x y z:CV):putAt cells o [w,x,y,z]=(((cells.set o w).set (o+1) x).set (o+2) y).set (o+3) z:=by
 apply List.ext_getElem?
 intro j
 have h':o+([w,x,y,z]:List CV).length≤cells.length:=h
 rw[putAt_at h']
 simp only[List.getElem?_set,List.length_set,List.length_cons,List.length_nil]
 by_cases e0:j<o
 ·rw[if_neg (by omega),if_neg (by omega),if_neg (by omega),if_neg (by omega),if_neg (by omega)]
 ·by_cases e1:j=o
  ·subst e1;rw[if_pos (by omega),if_neg (by omega),if_neg (by omega),if_neg (by omega),if_pos rfl,if_pos (by omega),Nat.sub_self];rfl
  ·by_cases e2:j=o+1
   ·subst e2;rw[if_pos (by omega),if_neg (by omega),if_neg (by omega),if_pos rfl,if_pos (by omega),show o+1 - o=1 by omega];rfl
   ·by_cases e3:j=o+2
    ·subst e3;rw[if_pos (by omega),if_neg (by omega),if_pos rfl,if_pos (by omega),show o+2 - o=2 by omega];rfl
    ·by_cases e4:j=o+3
     ·subst e4;rw[if_pos (by omega),if_pos rfl,if_pos (by omega),show o+3 - o=3 by omega];rfl
     ·rw[if_neg (by omega),if_neg (by omega),if_neg (by omega),if_neg (by omega),if_neg (by omega)]

set_option maxRecDepth 100000 in
set_option maxHeartbeats 2000000 in
theorem draw_call {H:Hp} {c:Nat} (h:Cur H c):CM 30 [.c (.p c 0 0)] H (DrawRes H c):=by
 refine cw30 ?_
 have hcl:=h.lt
 unfold vf30c
 simp
 have h0:Cur (H++[(⟨[.ns,.i 0],0,true,2⟩:Ob)]) c:=h.app _
 refine (right_call h0).mono ?_
 rintro _ ⟨κ,X,g,s,n,d,gd,cells,m,rfl,O,S0,hn,hs,hn2⟩
 have hR0:rdOb X H.length 0=some ⟨[.ns,.i 0],0,true,2⟩:=S0.keep _ _ _ (by rw[κ0_ne (by omega)];rfl) (by simp)
 have hRκ:κ H.length=.old:=by rw[S0.kap _ (by simp),κ0_ne (by omega)]
 have S:Stp (κ0 c) κ H X:=⟨by have:=S0.le;simp at this;omega,fun id hi=>S0.kap id (by simp;omega),fun id gg o hst ho=>S0.keep id gg o hst (rdOb_app _ ho)⟩
 obtain⟨O1,T1⟩:=O.app [(⟨[.sl d gd 0 n,.i m],0,true,2⟩:Ob)] (fun _ _=>rfl) (fun id hi=>O.gw.fr id (by simp at hi;omega))
 obtain⟨X1,hX1⟩:∃ X1,X++[(⟨[.sl d gd 0 n,.i m],0,true,2⟩:Ob)]=X1:=⟨_,rfl⟩
 have hF1:rdOb X1 X.length 0=some ⟨[.sl d gd 0 n,.i m],0,true,2⟩:=by rw[← hX1];simp
 have hFκ:κ X.length=.old:=O.gw.fr _ (Nat.le_refl _)
 rw[hX1]at O1 T1
 have hcF:c<X.length:=Nat.lt_of_lt_of_le hcl S.le
 have hFa:rdOb (X++[(⟨[.ns,.i 0],0,true,2⟩:Ob)]) X.length 0=some ⟨[.ns,.i 0],0,true,2⟩:=by simp
 obtain⟨F,hF⟩:∃ F,X.length=F:=⟨_,rfl⟩
 rw[hF]at hF1 hFκ hcF hFa
 have hFc:F≠c:=by omega
 obtain⟨r2,X2,a2,b2,_,C2,e2⟩:=below_call O1.gw.cur n
 have b2:=b2 (by omega)
 obtain⟨b,rfl⟩:∃ b:Nat,r2=b:=⟨r2.toNat,by omega⟩
 have hb:b<n:=by omega
 obtain⟨O2,T2⟩:=O1.curL C2.l
 have hF2:=C2.l.keep _ _ _ hFc hF1
 obtain⟨z,u,a1,a2',a3,a4,p,l,c1,c2,c3,c4,c5,c6,hB0⟩:=O2.hC b hb
 obtain⟨sw,X3,w1,w2,_,C3,e3⟩:=below_call O2.gw.cur 16
 obtain⟨O3,T3⟩:=O2.curL C3.l
 have hF3:=C3.l.keep _ _ _ hFc hF2
 have S3:=S.trans (T1.trans (T2.trans T3))
 obtain⟨z',u',a1',a2'',a3',a4',p',l',c1',c2',c3',c4',c5',c6',hB⟩:=O3.hC b hb
 have hz:z'=z:=by rw[c1]at c1';injection c1' with e;exact e.symm
 have hu:u'=u:=by rw[c2]at c2';injection c2' with e;exact e.symm
 subst hz;subst hu
 have hl3:=O3.hl
 have hru2:rdC X2 d gd (b * 6+1)=some u':=by rw[rdC_ob O2.ho];exact c2
 have hru3:rdC X3 d gd (b * 6+1)=some u':=by rw[rdC_ob O3.ho];exact c2
 have hrz3:rdC X3 d gd (b * 6)=some z':=by rw[rdC_ob O3.ho];exact c1
 have hF10:rdC X1 F 0 0=some (.sl d gd 0 n):=by rw[rdC_ob hF1];rfl
 have hF20:rdC X2 F 0 0=some (.sl d gd 0 n):=by rw[rdC_ob hF2];rfl
 have hF30:rdC X3 F 0 0=some (.sl d gd 0 n):=by rw[rdC_ob hF3];rfl
 have hF31:rdC X3 F 0 1=some (.i m):=by rw[rdC_ob hF3];rfl
 have hll:l'=l:=by have:=hB0.li.lenOf;rw[hB.li.lenOf]at this;injection this
 subst hll
 have hRF:F≠H.length:=by have:=rdOb_lt hR0;omega
 have hR3:rdOb X3 H.length 0=some ⟨[.ns,.i 0],0,true,2⟩:=(T1.trans (T2.trans T3)).keep _ _ _ (by rw[hRκ];rfl) hR0
 have fin:∀ {Y:Hp} {κ':KM} {s':Nat} {cells':List CV} {mm:Int} (m':Int),Op Y κ' c g s' n d gd cells' mm→Stp (κ0 c) κ' H Y→κ' H.length=.old→s'≤10100→rdOb Y F 0=some ⟨[.sl d gd 0 n,.i m'],0,true,2⟩→rdOb Y H.length 0=some ⟨[.ns,.i 0],0,true,2⟩ →
   ∃ r,rdN (Y.set H.length ⟨[.sl d gd 0 n,.i m'],0,true,2⟩) H.length 0 0 2=some [.sl d gd 0 n,.i m']∧rdN Y F 0 0 2=some [.sl d gd 0 n,.i m']∧gcRet H (.agg [.sl d gd 0 n,.i m']) (Y.set H.length ⟨[.sl d gd 0 n,.i m'],0,true,2⟩)=r∧DrawRes H c r:=by
  intro Y κ' s' cells' mm m' OY SY hRY' hsY hFY hRY
  have hlY:=rdOb_lt hRY
  refine⟨_,?_,by rw[rdN_ob hFY];simp,rfl,draw_end OY SY hn hsY hn2 m' hcl hRY' hlY _⟩
  rw[rdN_ob (o:=⟨[.sl d gd 0 n,.i m'],0,true,2⟩) (by rw[rdOb_set_self hlY];simp)];simp
 have fin3:∀ {Y:Hp} {cells':List CV} {mm:Int},Op Y κ c g s n d gd cells' mm→Stp κ κ X3 Y →
   ∃ r,rdOb Y H.length 0=some ⟨[.ns,.i 0],0,true,2⟩∧rdN (Y.set H.length ⟨[.sl d gd 0 n,.i m],0,true,2⟩) H.length 0 0 2=some [.sl d gd 0 n,.i m]∧rdN Y F 0 0 2=some [.sl d gd 0 n,.i m]∧gcRet H (.agg [.sl d gd 0 n,.i m]) (Y.set H.length ⟨[.sl d gd 0 n,.i m],0,true,2⟩)=r∧DrawRes H c r:=by
  intro Y cells' mm OY TY
  have hRY:=TY.keep _ _ _ (by rw[hRκ];rfl) hR3
  obtain⟨r,f1,f2,f3,f4⟩:=fin m OY (S3.trans TY) hRκ (by omega) (TY.keep _ _ _ (by rw[hFκ];rfl) hF3) hRY
  exact⟨r,hRY,f1,f2,f3,f4⟩
 simp[putD0,hX1,hF,hFa,hF10,e2,hF20,idx6 hb,hru2,hB.li.lenOf,e3]
 by_cases s0:sw=0
 ·subst s0
  obtain⟨O4,T4⟩:=O3.app [(⟨[.i (-1),.i 0,.i (wrap64 (m - 1)),.i 80,.i 81],0,true,1⟩:Ob)] (fun _ _=>rfl) (fun id hi=>O3.gw.fr id (by simp at hi;omega))
  obtain⟨X4,hX4⟩:∃ X4,X3++[(⟨[.i (-1),.i 0,.i (wrap64 (m - 1)),.i 80,.i 81],0,true,1⟩:Ob)]=X4:=⟨_,rfl⟩
  have hI:IsI X4 (.sl X3.length 0 0 5) [-1,0,wrap64 (m - 1),80,81]:=by rw[← hX4];exact own_ints (xs:=[-1,0,wrap64 (m - 1),80,81]) rfl
  have hF4:rdOb X4 F 0=some ⟨[.sl d gd 0 n,.i m],0,true,2⟩:=by rw[← hX4];exact rdOb_app _ hF3
  rw[hX4]at O4 T4
  obtain⟨pv,X5,_,C5,e5⟩:=pick_call O4.gw.cur hI (by simp)
  obtain⟨O5,T5⟩:=O4.curL C5.l
  have hF5:=C5.l.keep _ _ _ hFc hF4
  have hF6:rdOb (X5.set F ⟨[.sl d gd 0 n,.i pv],0,true,2⟩) F 0=some ⟨[.sl d gd 0 n,.i pv],0,true,2⟩:=by rw[rdOb_set_self (rdOb_lt hF5)];simp
  have O6:=O5.setX hFκ hcF ⟨[.sl d gd 0 n,.i pv],0,true,2⟩
  have T6:=S3.trans (T4.trans T5)
  have S6:Stp (κ0 c) κ H (X5.set F ⟨[.sl d gd 0 n,.i pv],0,true,2⟩):=⟨by simpa using T6.le,T6.kap,fun id gg o hst ho=>by
   have:=S.le
   rw[rdOb_set_ne (by have:=rdOb_lt ho;omega)];exact T6.keep id gg o hst ho⟩
  have hR6:rdOb (X5.set F ⟨[.sl d gd 0 n,.i pv],0,true,2⟩) H.length 0=some ⟨[.ns,.i 0],0,true,2⟩:=by rw[rdOb_set_ne (Ne.symm hRF)];exact (T4.trans T5).keep _ _ _ (by rw[hRκ];rfl) hR3
  obtain⟨r,f1,f2,f3,f4⟩:=fin pv O6 S6 hRκ (by omega) hF6 hR6
  simp[hF31,putL0,putL1,putL2,putL3,putL4,hX4,e5,hF5,f2,hR6,putD0,f1,f3]
  exact f4
 by_cases s1:sw=1
 ·subst s1
  obtain⟨r4,X4,_,_,_,C4,e4⟩:=below_call O3.gw.cur 18
  obtain⟨O4,T4⟩:=O3.curL C4.l
  have hF4:=C4.l.keep _ _ _ hFc hF3
  have O5:=O4.setI hb (j:=4) (by omega) (by omega) (wrap64 (r4 - 1))
  have T5:Stp κ κ X4 (X4.set d ⟨cells.set (b * 6+4) (.i (wrap64 (r4 - 1))),gd,true,6⟩):=Stp.set (by rw[O4.hd];rfl)
  obtain⟨r,f0,f1,f2,f3,f4⟩:=fin3 O5 (T4.trans T5)
  have hput:putAt cells (b * 6+4) [.i (wrap64 (r4 - 1))]=cells.set (b * 6+4) (.i (wrap64 (r4 - 1))):=putAt_get (by omega)
  have hle:b * 6+4+1≤cells.length:=by omega
  simp[hF30,e4,hF3,hF4,idx6 hb,O4.ho,hput,hle,f2,f0,putD0,f1,f3]
  exact f4
 by_cases s2:sw=2
 ·subst s2
  obtain⟨r4,X4,_,_,_,C4,e4⟩:=below_call O3.gw.cur 5
  obtain⟨O4,T4⟩:=O3.curL C4.l
  have hF4:=C4.l.keep _ _ _ hFc hF3
  obtain⟨r5,X5,_,_,_,C5,e5⟩:=below_call O4.gw.cur 5
  obtain⟨O5,T5⟩:=O4.curL C5.l
  have hF5:=C5.l.keep _ _ _ hFc hF4
  obtain⟨r6,X6,_,_,_,C6,e6⟩:=below_call O5.gw.cur n
  obtain⟨O6,T6⟩:=O5.curL C6.l
  have hF6:=C6.l.keep _ _ _ hFc hF5
  obtain⟨r7,X7,_,_,_,C7,e7⟩:=below_call O6.gw.cur n
  obtain⟨O7,T7⟩:=O6.curL C7.l
  have hF7:=C7.l.keep _ _ _ hFc hF6
  have hF50:rdC X5 F 0 0=some (.sl d gd 0 n):=by rw[rdC_ob hF5];rfl
  have hF60:rdC X6 F 0 0=some (.sl d gd 0 n):=by rw[rdC_ob hF6];rfl
  have O8:=(((O7.setI hb (j:=2) (by omega) (by omega) r4).setI hb (j:=3) (by omega) (by omega) r5).setI hb (j:=4) (by omega) (by omega) r6).setI hb (j:=5) (by omega) (by omega) r7
  rw[List.set_set,List.set_set,List.set_set]at O8
  have hle:b * 6+2+4≤cells.length:=by omega
  have hput:=put4 hle (.i r4) (.i r5) (.i r6) (.i r7)
  have e23:b * 6+2+1=b * 6+3:=by omega
  have e24:b * 6+2+2=b * 6+4:=by omega
  have e25:b * 6+2+3=b * 6+5:=by omega
  rw[e23,e24,e25]at hput
  rw[← hput]at O8
  have T8:Stp κ κ X7 (X7.set d ⟨putAt cells (b * 6+2) [.i r4,.i r5,.i r6,.i r7],gd,true,6⟩):=Stp.set (by rw[O7.hd];rfl)
  obtain⟨r,f0,f1,f2,f3,f4⟩:=fin3 O8 (T4.trans (T5.trans (T6.trans (T7.trans T8))))
  simp[hF30,e4,e5,hF50,e6,hF60,e7,hF3,hF4,hF5,hF6,hF7,idx6 hb,O7.ho,hle,putL0,putL1,putL2,putL3,f2,f0,putD0,f1,f3]
  exact f4
 by_cases s3:sw=3
 ·subst s3
  by_cases hl0:0<l'
  ·rcases hB.li with⟨_,e⟩ | ⟨ui,ug,lc,rfl,hκu,hou,hlc,_⟩
   ·omega
   ·have huc:ui≠c:=by rintro rfl;rw[O3.gw.kc]at hκu;cases hκu
    obtain⟨r4,X4,p4,q4,_,C4,e4⟩:=below_call O3.gw.cur l'
    have q4:=q4 (by omega)
    obtain⟨j,rfl⟩:∃ j:Nat,r4=j:=⟨r4.toNat,by omega⟩
    have hj:j<l':=by omega
    obtain⟨O4,T4⟩:=O3.curL C4.l
    have hF4:=C4.l.keep _ _ _ hFc hF3
    have hF41:rdC X4 F 0 1=some (.i m):=by rw[rdC_ob hF4];rfl
    obtain⟨r5,X5,_,_,_,C5,e5⟩:=below_call O4.gw.cur (wrap64 (m+1))
    obtain⟨O5,T5⟩:=O4.curL C5.l
    have hF5:=C5.l.keep _ _ _ hFc hF4
    have hou5:=C5.l.keep _ _ _ huc (C4.l.keep _ _ _ huc hou)
    have O6:=O5.setL hb hκu hou5 (j * 5+2) (r5)
    have T6:Stp κ κ X5 (X5.set ui ⟨lc.set (j * 5+2) (.i (r5)),ug,true,5⟩):=Stp.set (by rw[hκu];rfl)
    obtain⟨r,f0,f1,f2,f3,f4⟩:=fin3 O6 (T4.trans (T5.trans T6))
    have hput:putAt lc (j * 5+2) [.i (r5)]=lc.set (j * 5+2) (.i (r5)):=putAt_get (by omega)
    have hle:j * 5+2+1≤lc.length:=by omega
    have hidx:idxOf 5 (.sl ui ug 0 l') (j:Int)=some (.p ui ug (j * 5)):=by simp[idxOf,hj]
    simp[hl0,hF30,idx6 hb,hru3,e4,hF41,e5,hF3,hF4,hF5,O3.ho,O4.ho,O5.ho,hidx,hou5,hput,hle,f2,f0,putD0,f1,f3]
    exact f4
  ·obtain⟨r,f0,f1,f2,f3,f4⟩:=fin3 O3 (.refl _ _)
   simp[hl0,f2,f0,putD0,f1,f3]
   exact f4
 by_cases s4:sw=4
 ·subst s4
  by_cases hl0:0<l'
  ·rcases hB.li with⟨_,e⟩ | ⟨ui,ug,lc,rfl,hκu,hou,hlc,_⟩
   ·omega
   ·have huc:ui≠c:=by rintro rfl;rw[O3.gw.kc]at hκu;cases hκu
    obtain⟨r4,X4,p4,q4,_,C4,e4⟩:=below_call O3.gw.cur l'
    have q4:=q4 (by omega)
    obtain⟨j,rfl⟩:∃ j:Nat,r4=j:=⟨r4.toNat,by omega⟩
    have hj:j<l':=by omega
    obtain⟨O4,T4⟩:=O3.curL C4.l
    have hF4:=C4.l.keep _ _ _ hFc hF3
    have hF41:rdC X4 F 0 1=some (.i m):=by rw[rdC_ob hF4];rfl
    obtain⟨r5,X5,_,_,_,C5,e5⟩:=below_call O4.gw.cur (wrap64 (m+1))
    obtain⟨O5,T5⟩:=O4.curL C5.l
    have hF5:=C5.l.keep _ _ _ hFc hF4
    have hou5:=C5.l.keep _ _ _ huc (C4.l.keep _ _ _ huc hou)
    have O6:=O5.setL hb hκu hou5 (j * 5+1) (wrap64 (r5 - 1))
    have T6:Stp κ κ X5 (X5.set ui ⟨lc.set (j * 5+1) (.i (wrap64 (r5 - 1))),ug,true,5⟩):=Stp.set (by rw[hκu];rfl)
    obtain⟨r,f0,f1,f2,f3,f4⟩:=fin3 O6 (T4.trans (T5.trans T6))
    have hput:putAt lc (j * 5+1) [.i (wrap64 (r5 - 1))]=lc.set (j * 5+1) (.i (wrap64 (r5 - 1))):=putAt_get (by omega)
    have hle:j * 5+1+1≤lc.length:=by omega
    have hidx:idxOf 5 (.sl ui ug 0 l') (j:Int)=some (.p ui ug (j * 5)):=by simp[idxOf,hj]
    simp[hl0,hF30,idx6 hb,hru3,e4,hF41,e5,hF3,hF4,hF5,O3.ho,O4.ho,O5.ho,hidx,hou5,hput,hle,f2,f0,putD0,f1,f3]
    exact f4
  ·obtain⟨r,f0,f1,f2,f3,f4⟩:=fin3 O3 (.refl _ _)
   simp[hl0,f2,f0,putD0,f1,f3]
   exact f4
 by_cases s5:sw=5
 ·subst s5
  by_cases hl0:0<l'
  ·rcases hB.li with⟨_,e⟩ | ⟨ui,ug,lc,rfl,hκu,hou,hlc,_⟩
   ·omega
   ·have huc:ui≠c:=by rintro rfl;rw[O3.gw.kc]at hκu;cases hκu
    obtain⟨pl,hpl⟩:∃ pl:List CV,[.i 0,.i 1,.i 11,.i 20,.i 21,.i 22,.i 23,.i 24,.i 25,.i 26]=pl:=⟨_,rfl⟩
    have hplx:pl=([0,1,11,20,21,22,23,24,25,26]:List Int).map .i:=by rw[← hpl];rfl
    have hA:∃ j X5 x,j<l'∧Op X5 κ c g s n d gd cells m∧Stp κ κ X3 X5∧rdOb X5 ui ug=some ⟨lc,ug,true,5⟩∧∃ X4:Hp,rdOb X4 F 0=some ⟨[.sl d gd 0 n,.i m],0,true,2⟩∧rdOb (X4++[(⟨pl,0,true,1⟩:Ob)]) F 0=some ⟨[.sl d gd 0 n,.i m],0,true,2⟩∧rdOb X5 F 0=some ⟨[.sl d gd 0 n,.i m],0,true,2⟩∧rdOb X4 d gd=some ⟨cells,gd,true,6⟩∧rdOb (X4++[(⟨pl,0,true,1⟩:Ob)]) d gd=some ⟨cells,gd,true,6⟩ ∧
      (∀ k:IV×Hp→Prop,CM 77 [.c (.p c 0 0),.c (.i l')] X3 k=k (.c (.i (j:Int)),X4))∧(∀ k:IV×Hp→Prop,CM 78 [.c (.p c 0 0),.c (.sl X4.length 0 0 10)] (X4++[(⟨pl,0,true,1⟩:Ob)]) k=k (.c (.i x),X5)):=by
     obtain⟨r4,X4,p4,q4,_,C4,e4⟩:=below_call O3.gw.cur l'
     have q4:=q4 (by omega)
     obtain⟨j,rfl⟩:∃ j:Nat,r4=j:=⟨r4.toNat,by omega⟩
     obtain⟨O4,T4⟩:=O3.curL C4.l
     have hF4:=C4.l.keep _ _ _ hFc hF3
     obtain⟨O5,T5⟩:=O4.app [(⟨pl,0,true,1⟩:Ob)] (fun _ _=>rfl) (fun id hi=>O4.gw.fr id (by simp at hi;omega))
     obtain⟨x,X6,_,C6,e6⟩:=pick_call O5.gw.cur (own_ints (X:=X4) hplx) (by simp)
     obtain⟨O6,T6⟩:=O5.curL C6.l
     have hF5:=rdOb_app [(⟨pl,0,true,1⟩:Ob)] hF4
     exact⟨j,X6,x,by omega,O6,T4.trans (T5.trans T6),C6.l.keep _ _ _ huc (rdOb_app _ (C4.l.keep _ _ _ huc hou)),X4,hF4,hF5,C6.l.keep _ _ _ hFc hF5,O4.ho,O5.ho,e4,e6⟩
    have hBB:∃ j X5 x,j<l'∧Op X5 κ c g s n d gd cells m∧Stp κ κ X3 X5∧rdOb X5 ui ug=some ⟨lc,ug,true,5⟩∧∃ X4:Hp,rdOb X4 F 0=some ⟨[.sl d gd 0 n,.i m],0,true,2⟩∧rdOb (X3++[(⟨pl,0,true,1⟩:Ob)]) F 0=some ⟨[.sl d gd 0 n,.i m],0,true,2⟩∧rdOb X5 F 0=some ⟨[.sl d gd 0 n,.i m],0,true,2⟩∧rdOb X4 d gd=some ⟨cells,gd,true,6⟩∧rdOb (X3++[(⟨pl,0,true,1⟩:Ob)]) d gd=some ⟨cells,gd,true,6⟩ ∧
      (∀ k:IV×Hp→Prop,CM 77 [.c (.p c 0 0),.c (.i l')] (X3++[(⟨pl,0,true,1⟩:Ob)]) k=k (.c (.i (j:Int)),X4))∧(∀ k:IV×Hp→Prop,CM 78 [.c (.p c 0 0),.c (.sl X3.length 0 0 10)] X4 k=k (.c (.i x),X5)):=by
     obtain⟨O4,T4⟩:=O3.app [(⟨pl,0,true,1⟩:Ob)] (fun _ _=>rfl) (fun id hi=>O3.gw.fr id (by simp at hi;omega))
     have hF4:=rdOb_app [(⟨pl,0,true,1⟩:Ob)] hF3
     obtain⟨r4,X4,p4,q4,_,C4,e4⟩:=below_call O4.gw.cur l'
     have q4:=q4 (by omega)
     obtain⟨j,rfl⟩:∃ j:Nat,r4=j:=⟨r4.toNat,by omega⟩
     obtain⟨O5,T5⟩:=O4.curL C4.l
     have hF5:=C4.l.keep _ _ _ hFc hF4
     obtain⟨x,X6,_,C6,e6⟩:=pick_call O5.gw.cur ((own_ints (X:=X3) hplx).cur O4.gw.cur C4) (by simp)
     obtain⟨O6,T6⟩:=O5.curL C6.l
     exact⟨j,X6,x,by omega,O6,T4.trans (T5.trans T6),C6.l.keep _ _ _ huc (C4.l.keep _ _ _ huc (rdOb_app _ hou)),X4,hF5,hF4,C6.l.keep _ _ _ hFc hF5,O5.ho,O4.ho,e4,e6⟩
    obtain⟨j,X5,x,hj,O5,T5,hou5,X4,y1,y2,y3,y4,y5,y6,y7⟩:=hA
    obtain⟨j',X5',x',hj',O5',T5',hou5',X4',y1',y2',y3',y4',y5',y6',y7'⟩:=hBB
    have hidx:∀ j,j<l'→idxOf 5 (.sl ui ug 0 l') (j:Int)=some (.p ui ug (j * 5)):=fun j hj=>by simp[idxOf,hj]
    have hput:∀ j x,j<l'→putAt lc (j * 5) [.i x]=lc.set (j * 5) (.i x):=fun j x hj=>putAt_get (by omega)
    have hle:∀ j,j<l'→j * 5+1≤lc.length:=fun j hj=>by omega
    have O6:=O5.setL hb hκu hou5 (j * 5) x
    have T6:Stp κ κ X5 (X5.set ui ⟨lc.set (j * 5) (.i x),ug,true,5⟩):=Stp.set (by rw[hκu];rfl)
    obtain⟨r,f0,f1,f2,f3,f4⟩:=fin3 O6 (T5.trans T6)
    have O6':=O5'.setL hb hκu hou5' (j' * 5) x'
    have T6':Stp κ κ X5' (X5'.set ui ⟨lc.set (j' * 5) (.i x'),ug,true,5⟩):=Stp.set (by rw[hκu];rfl)
    obtain⟨r',f0',f1',f2',f3',f4'⟩:=fin3 O6' (T5'.trans T6')
    unfold vf30t0
    simp[hl0,hF30,idx6 hb,hru3,putL0,putL1,putL2,putL3,putL4,putL5,putL6,putL7,putL8,putL9,hF3,O3.ho,hpl,y1,y2,y3,y4,y5,y6,y7,y1',y2',y3',y4',y5',y6',y7',O5.ho,O5'.ho,hidx j hj,hidx j' hj',hou5,hou5',hput j x hj,hput j' x' hj',hle j hj,hle j' hj',f2,f0,putD0,f1,f3,f2',f0',f1',f3']
    exact⟨f4,f4'⟩
  ·obtain⟨r,f0,f1,f2,f3,f4⟩:=fin3 O3 (.refl _ _)
   simp[hl0,f2,f0,putD0,f1,f3]
   exact f4
 by_cases s6:sw=6
 ·subst s6
  by_cases hp0:0<p'
  ·rcases hB.ph with⟨_,e⟩ | ⟨zi,zg,pc,rfl,hκz,hoz,hpc,hph⟩
   ·omega
   ·obtain⟨dd,w,g1,g2,hw⟩:=hph 0 hp0
    have hw':=hw
    obtain⟨wi,wg,off,mm,wc,rfl,hκw,how,hwi,hwl,hw4,hw1⟩:=hw'
    have hzd:zi≠d:=by rintro rfl;rw[O3.hd]at hκz;cases hκz
    have hzH:H.length<zi:=by
     have h1:¬ zi<H.length:=fun hl=>S3.lowF zi hl (.inr ⟨b,by rw[hκz];exact .inr (.inl rfl)⟩)
     have h2:zi≠H.length:=by rintro e;rw[e,hRκ]at hκz;cases hκz
     omega
    obtain⟨Y,hY⟩:∃ Y,X3.set zi ⟨pc.set 1 (.sl wi wg (off+2) (mm - 1)),zg,true,2⟩=Y:=⟨_,rfl⟩
    have kpY:∀ i gg ob,κ i≠.phis b→rdOb X3 i gg=some ob→rdOb Y i gg=some ob:=fun i gg ob q ho=>by rw[← hY,rdOb_set_ne (by rintro rfl;exact q hκz)];exact ho
    have hdY:=kpY _ _ _ (by rw[O3.hd];simp) O3.ho
    have hRY:=kpY _ _ _ (by rw[hRκ];simp) hR3
    have hFY:=kpY _ _ _ (by rw[hFκ];simp) hF3
    have hzY:rdOb Y zi zg=some ⟨pc.set 1 (.sl wi wg (off+2) (mm - 1)),zg,true,2⟩:=by rw[← hY,rdOb_set_self (rdOb_lt hoz)];simp
    have hYd:Y.set d ⟨cells.set (b * 6) (.sl zi zg 0 p'),gd,true,6⟩=Y:=by
     have e1:cells.set (b * 6) (.sl zi zg 0 p')=cells:=by
      apply List.ext_getElem?
      intro i
      rw[List.getElem?_set]
      split
      ·rename_i e;subst e;rw[if_pos (by omega),c1]
      ·rfl
     rw[e1];exact set_ob hdY
    have hend:=O3.end_ (Z:=Y) S3 hb hs hn2 (by rw[← hY];simp) kpY hzY hzd (by simpa using hpc) (by have:=hB.ps;omega) (fun k hk=>by
     obtain⟨dk,wk,t1,t2,t3⟩:=hph k hk
     by_cases e:k=0
     ·subst e
      exact⟨dd,_,by rw[List.getElem?_set,if_neg (by omega)];exact g1,by rw[List.getElem?_set,if_pos (by omega),if_pos (by omega)],.inr ⟨wi,wg,off+2,mm - 1,wc,rfl,hκw,how,hwi,by omega,by omega⟩⟩
     ·exact⟨dk,wk,by rw[List.getElem?_set,if_neg (by omega)];exact t1,by rw[List.getElem?_set,if_neg (by omega)];exact t2,t3.w⟩) m hcl hRκ (rdOb_lt hR3) hzH ⟨[.sl d gd 0 n,.i m],0,true,2⟩
    rw[hYd]at hend
    have hrdY:rdN Y F 0 0 2=some [.sl d gd 0 n,.i m]:=by rw[rdN_ob hFY];simp
    have hrdR:rdN (Y.set H.length ⟨[.sl d gd 0 n,.i m],0,true,2⟩) H.length 0 0 2=some [.sl d gd 0 n,.i m]:=by
     rw[rdN_ob (o:=⟨[.sl d gd 0 n,.i m],0,true,2⟩) (by rw[rdOb_set_self (rdOb_lt hRY)];simp)];simp
    have hput:putAt pc 1 [.sl wi wg (off+2) (mm - 1)]=pc.set 1 (.sl wi wg (off+2) (mm - 1)):=putAt_get (by omega)
    have hle:1+1≤pc.length:=by omega
    have hrw:rdC X3 zi zg 1=some (.sl wi wg off mm):=by rw[rdC_ob hoz];exact g2
    have hidx:idxOf 2 (.sl zi zg 0 p') 0=some (.p zi zg 0):=by simp[idxOf,hp0]
    have hsl:doSlice X3 2 (.sl wi wg off mm) (some (.c (.i 1))) none=some (.c (.sl wi wg (off+2) (mm - 1))):=by
     have:(1:Int)≤(mm:Int):=by omega
     simp[doSlice,this,how]
    simp[hF30,idx6 hb,hrz3,Vm.lenOf,hp0,hidx,hrw,hsl,hoz,hput,hle,hY,hrdY,hRY,putD0,hrdR]
    exact hend
  ·have hp00:p'=0:=by omega
   obtain⟨r,f0,f1,f2,f3,f4⟩:=fin3 O3 (.refl _ _)
   simp[hF30,idx6 hb,hrz3,hB.ph.lenOf,hp00,f2,f0,putD0,f1,f3]
   exact f4
 by_cases s7:sw=7
 ·subst s7
  obtain⟨r4,X4,_,_,_,C4,e4⟩:=below_call O3.gw.cur (if 1<m then m else 1)
  obtain⟨O4,T4⟩:=O3.curL C4.l
  have hF4:=C4.l.keep _ _ _ hFc hF3
  have hR4:=T4.keep _ _ _ (by rw[hRκ];rfl) hR3
  obtain⟨z2,u2,b1,b2,b3,b4,p2,l2,d1,d2,d3,d4,d5,d6,hB4⟩:=O4.hC b hb
  have hz2:z2=z':=by rw[c1]at d1;injection d1 with e;exact e.symm
  subst hz2
  obtain⟨zi,zg,Z,cs',hzi,happ,hle4,kpZ,k4,k5,k6,k7⟩:=hB4.ph.bare (by have:=hB4.ps;omega) O4.hd (rdOb_lt O4.ho) r4
  have hdZ:=kpZ _ _ _ (by rw[O4.hd];simp) O4.ho
  have hFZ:=kpZ _ _ _ (by rw[hFκ];simp) hF4
  have hRZ:=kpZ _ _ _ (by rw[hRκ];simp) hR4
  have hFd:F≠d:=by rintro e;have:=O4.hd;rw[← e,hFκ]at this;cases this
  have hRd:H.length≠d:=by rintro e;have:=O4.hd;rw[← e,hRκ]at this;cases this
  obtain⟨W,hW⟩:∃ W,Z.set d ⟨cells.set (b * 6) (.sl zi zg 0 (p2+1)),gd,true,6⟩=W:=⟨_,rfl⟩
  have hFW:rdOb W F 0=some ⟨[.sl d gd 0 n,.i m],0,true,2⟩:=by rw[← hW,rdOb_set_ne hFd];exact hFZ
  have hRW:rdOb W H.length 0=some ⟨[.ns,.i 0],0,true,2⟩:=by rw[← hW,rdOb_set_ne hRd];exact hRZ
  have hzH:H.length<zi:=by
   have h1:=hzi
   have h2:=rdOb_lt hR4
   rcases h1 with h1 | h1
   ·omega
   ·have h3:¬ zi<H.length:=fun hl=>(S3.trans T4).lowF zi hl (.inr ⟨b,by rw[h1];exact .inr (.inl rfl)⟩)
    have h4:zi≠H.length:=by rintro e;rw[e,hRκ]at h1;cases h1
    omega
  have hend:=O4.end_ (Z:=Z) (S3.trans T4) hb hs hn2 hle4 kpZ k4 k5 k6 (by have:=hB4.ps;omega) k7 m hcl hRκ (rdOb_lt hR4) hzH ⟨[.sl d gd 0 n,.i m],0,true,2⟩
  rw[hW]at hend
  have hrdW:rdN W F 0 0 2=some [.sl d gd 0 n,.i m]:=by rw[rdN_ob hFW];simp
  have hrdR:rdN (W.set H.length ⟨[.sl d gd 0 n,.i m],0,true,2⟩) H.length 0 0 2=some [.sl d gd 0 n,.i m]:=by
   rw[rdN_ob (o:=⟨[.sl d gd 0 n,.i m],0,true,2⟩) (by rw[rdOb_set_self (rdOb_lt hRW)];simp)];simp
  have hput:putAt cells (b * 6) [.sl zi zg 0 (p2+1)]=cells.set (b * 6) (.sl zi zg 0 (p2+1)):=putAt_get (by omega)
  have hle:b * 6+1≤cells.length:=by omega
  have hsrc:srcOf (X4++[(⟨[.i r4,.ns],0,true,2⟩:Ob)]) 2 (.sl X4.length 0 0 1)=some (1,[.i r4,.ns]):=by simp[srcOf]
  have hF5:=rdOb_app [(⟨[.i r4,.ns],0,true,2⟩:Ob)] hF4
  have ho5:=rdOb_app [(⟨[.i r4,.ns],0,true,2⟩:Ob)] O4.ho
  simp[hF30,idx6 hb,hrz3,hF31,specMax,e4,putL0,putL1,putD0,hF3,hF4,hF5,hFZ,O3.ho,O4.ho,ho5,hdZ,hsrc,happ,hput,hle,hW,hrdW,hRW,hrdR]
  exact hend
 obtain⟨r,f0,f1,f2,f3,f4⟩:=fin3 O3 (.refl _ _)
 simp[s0,s1,s2,s3,s4,s5,s6,s7,f2,f0,putD0,f1,f3]
 exact f4
theorem idx1 {id g n j:Nat} (h:j<n):idxOf 1 (.sl id g 0 n) (j:Int)=some (.p id g j):=by simp[idxOf,h]

def InsRes (side:Bool) (v:CV) (m:Int) (n:Nat) (κ:RK) (X:Hp) (c:Nat) (q:Int×Nat×RunS) (r:IV×Hp):Prop:=
 ∃ κ' Z fu',r=(.c (.i q.1),Z)∧RInv side v m n κ' Z c 0 q.2.2 fu'∧Fr κ κ' X Z∧(q.1=0→fu'=(q.2.1:Int))

theorem InsRes.mk' {side:Bool} {v:CV} {m:Int} {n:Nat} {κ κ':RK} {X Y:Hp} {c:Nat} {s:RunS} {fu fu':Int} {q:Int×Nat×RunS} (h:RInv side v m n κ X c 0 s fu) (h':RInv side v m n κ' Y c 0 q.2.2 fu') (hf:Fr κ κ' X Y)
  (hq:q.1=0→fu'=(q.2.1:Int)):InsRes side v m n κ X c q (gcRet X (.c (.i q.1)) Y):=by
 obtain⟨κ2,Z,e,h1,h2⟩:=h.gc h' hf (r:=.c (.i q.1)) rfl
 rw[e]
 exact⟨κ2,Z,fu',rfl,h1,h2,hq⟩
def UnitRes (side:Bool) (v:CV) (m:Int) (n:Nat) (κ:RK) (X:Hp) (c:Nat) (s':RunS) (fu:Int) (r:IV×Hp):Prop:=
 ∃ κ' Z,r=(.tup [],Z)∧RInv side v m n κ' Z c 0 s' fu∧Fr κ κ' X Z

theorem UnitRes.mk' {side:Bool} {v:CV} {m:Int} {n:Nat} {κ κ':RK} {X Y:Hp} {c:Nat} {s s':RunS} {fu fu':Int} (h:RInv side v m n κ X c 0 s fu) (h':RInv side v m n κ' Y c 0 s' fu') (hf:Fr κ κ' X Y) :
  UnitRes side v m n κ X c s' fu' (gcRet X (.tup []) Y):=by
 obtain⟨κ2,Z,e,h1,h2⟩:=h.gc h' hf (r:=.tup []) rfl
 rw[e]
 exact⟨κ2,Z,rfl,h1,h2⟩

theorem phi_vals {n m:Int} {p:PhiR} (h:phiB n m p=true):valB p.d m=true∧p.arms.length≤16∧∀ i (hi:i<p.arms.length),inB p.arms[i].fr 0 (n - 1)=true∧valB p.arms[i].v m=true:=by
 unfold phiB at h
 simp only[Bool.and_eq_true,decide_eq_true_eq]at h
 refine⟨h.1.1,h.1.2,fun i hi=>?_⟩
 have h2:=h.2
 unfold armsB at h2
 rw[List.all_eq_true]at h2
 have h3:=h2 i (List.mem_range.2 hi)
 rw[armB_at hi]at h3
 simp only[Bool.and_eq_true]at h3
 exact⟨h3.1.1,h3.1.2⟩
theorem put5 (a b c d e p q r s t:CV):putAt [a,b,c,d,e] 0 [p,q,r,s,t]=[p,q,r,s,t]:=rfl

def RunRes (side:Bool) (v:CV) (m:Int) (n:Nat) (κ:RK) (X:Hp) (c:Nat) (q:Int×Int×RunS) (r:IV×Hp):Prop:=
 ∃ κ' Z fu',r=(.c (.i q.1),Z)∧RInv side v m n κ' Z c q.2.1 q.2.2 fu'∧Fr κ κ' X Z

theorem RunRes.mk' {side:Bool} {v:CV} {m:Int} {n:Nat} {κ κ':RK} {X Y:Hp} {c:Nat} {s:RunS} {fu fu':Int} {q:Int×Int×RunS} (h:RInv side v m n κ X c 0 s fu) (h':RInv side v m n κ' Y c q.2.1 q.2.2 fu') (hf:Fr κ κ' X Y) :
  RunRes side v m n κ X c q (gcRet X (.c (.i q.1)) Y):=by
 obtain⟨κ2,Z,e,h1,h2⟩:=h.gc h' hf (r:=.c (.i q.1)) rfl
 rw[e]
 exact⟨κ2,Z,fu',rfl,h1,h2⟩
def copiesB (bs:List BlkR):Bool:=bs.any fun b=>b.list.any fun x=>decide (x.op=25)

def tick (vs:List Int) (d:Int):List Int:=vs.set d.toNat (vs.getD d.toNat 0+1)

def tickI (vs:List Int) (x:InsR):List Int:=if 0≤insDefF x then tick vs (insDefF x) else vs

def tickB (vs:List Int) (b:BlkR):List Int:=b.list.foldl tickI (b.phis.foldl (fun ws p=>tick ws p.d) vs)

def madeF (f:FnR):List Int:=f.blocks.foldl tickB (List.replicate f.values.toNat 0)

def fromsF (p:PhiR):List Int:=p.arms.map (·.fr)

def homeF (bs:List BlkR) (v:Int):Int×Int:=defGo v bs 0

def atB (bs:List BlkR) (v:Int) (b:Nat) (i:Int):Bool:=if (homeF bs v).1=b then decide ((homeF bs v).2<i) else hasI (domF bs b) (homeF bs v).1

theorem tick_len (vs:List Int) (d:Int):(tick vs d).length=vs.length:=by simp[tick]

theorem tickI_len (vs:List Int) (x:InsR):(tickI vs x).length=vs.length:=by unfold tickI;split<;>simp[tick_len]

theorem ticks_len:∀ (ps:List PhiR) (vs:List Int),(ps.foldl (fun ws p=>tick ws p.d) vs).length=vs.length:=by
 intro ps
 induction ps with
 | nil=>intro vs;rfl
 | cons p r ih=>intro vs;rw[List.foldl_cons,ih,tick_len]

theorem ticksI_len:∀ (xs:List InsR) (vs:List Int),(xs.foldl tickI vs).length=vs.length:=by
 intro xs
 induction xs with
 | nil=>intro vs;rfl
 | cons p r ih=>intro vs;rw[List.foldl_cons,ih,tickI_len]

theorem tickB_len (vs:List Int) (b:BlkR):(tickB vs b).length=vs.length:=by unfold tickB;rw[ticksI_len,ticks_len]

theorem ticksB_len:∀ (bs:List BlkR) (vs:List Int),(bs.foldl tickB vs).length=vs.length:=by
 intro bs
 induction bs with
 | nil=>intro vs;rfl
 | cons p r ih=>intro vs;rw[List.foldl_cons,ih,tickB_len]

theorem fold_succ {α β:Type} (f:β→α→β) (x0:β) {xs:List α} {i:Nat} (hi:i<xs.length):(xs.take (i+1)).foldl f x0=f ((xs.take i).foldl f x0) xs[i]:=by
 rw[List.take_succ_eq_append_getElem hi,List.foldl_append];rfl

theorem any_yes {α:Type} {p:α→Bool} {xs:List α} {i:Nat} (hi:i<xs.length) (h:p xs[i]=true):xs.any p=true:=by
 rw[List.any_eq_true];exact⟨_,List.getElem_mem hi,h⟩


theorem copy1 {H:Hp} (x:InsR) (k:IV×Hp→Prop):CM 114 [.agg [.i x.op,.i x.d,.i x.a,.i x.b,.i x.n]] H k=k (.c (.b (decide (x.op=25))),H):=by
 refine det (cw114 ?_) k
 unfold vf114c
 simp

theorem copy2 {H:Hp} {cs:List CV} {b:BlkR} (hP:blkP BIG H cs b) (k:IV×Hp→Prop):CM 113 [.agg cs] H k=k (.c (.b (b.list.any fun x=>decide (x.op=25))),H):=by
 obtain⟨w,u,rfl,h1,h2,h3,h4⟩:=hP
 refine det (cw113 ?_) k
 unfold vf113c
 simp[trmC]
 have h2':List5 (H++[(⟨[w,u,.i b.term.kind,.i b.term.a,.i b.term.to,.i b.term.els],0,true,6⟩:Ob)]) u b.list:=h2.pre (fun _ _=>insP.pre) ⟨_,rfl⟩
 rw[containsIns h2' h4 (fid:=114) (caps:=[]) (fun x=>decide (x.op=25)) (fun i hi cs hcs k=>by
  have hcs:cs=insC b.list[i]:=hcs
  subst hcs
  exact copy1 _ k)]
 simp

theorem implCopies {H:Hp} {v:CV} {bs:List BlkR} {m:Int} (hv:Blocks H v bs) (hb:bs.length≤BIG) (k:IV×Hp→Prop):CM 54 [.agg [v,.i m]] H k=k (.c (.b (copiesB bs)),H):=by
 refine det (cw54 ?_) k
 unfold vf54c
 simp
 rw[containsBlk (hv.app _) hb (fid:=113) (caps:=[]) (fun b=>b.list.any fun x=>decide (x.op=25)) (fun i hi cs hcs k=>copy2 hcs k)]
 simp[copiesB]

theorem specCopies {H:Hp} {v:CV} {bs:List BlkR} {m:Int} (hv:Blocks H v bs) (hb:bs.length≤BIG) (k:IV×Hp→Prop):CM 88 [.agg [v,.i m]] H k=k (.c (.b (copiesB bs)),H):=by
 refine det (cw88 ?_) k
 unfold vf88c
 obtain⟨X,hX⟩:∃ X,H++[(⟨[v,.i m],0,true,2⟩:Ob)]=X:=⟨_,rfl⟩
 have hp:Pre H X:=⟨_,hX.symm⟩
 have hB:rdOb X H.length 0=some ⟨[v,.i m],0,true,2⟩:=by rw[← hX];simp
 have hvX:=Blocks.pre hp hv
 have hl:=hvX.lenOf
 simp[hX]
 refine wp_for CM_mono bs.length (fun i s=>(∀ j (hj:j<i) (hx:j<bs.length),(bs[j].list.any fun x=>decide (x.op=25))=false)∧s.h=X∧Env.get s.e 1=.c (.p H.length 0 0)∧Env.get s.e 3=.c (.i i)) (by simp) ?_ ?_
 ·rintro i ⟨e,Y⟩ hi ⟨ht,rfl,e1,e3⟩
  simp only at e1 e3 hB hvX hp ⊢
  obtain⟨id,g,off,w,u,q1,q2,_,_,q3,_,q4,_,_⟩:=Blocks.get hvX hi
  have hlu:=q3.lenOf
  unfold vf88b1
  simp[e1,e3,rdC_ob hB,hl,hi]
  refine wp_for CM_mono bs[i].list.length (fun j s=>(∀ k (hk:k<j) (hx:k<bs[i].list.length),¬ bs[i].list[k].op=25)∧s.h=Y∧Env.get s.e 1=.c (.p H.length 0 0)∧Env.get s.e 3=.c (.i i)∧Env.get s.e 4=.c (.i j)) (by simp[e1,e3]) ?_ ?_
  ·rintro j ⟨e',Z⟩ hj ⟨ht2,rfl,e1,e3,e4⟩
   simp only at e1 e3 e4 hB hvX hp q1 q2 q3 ⊢
   obtain⟨id2,g2,off2,r1,⟨r2,_⟩,_⟩:=List5.get q3 hj
   unfold vf88b0
   by_cases hop:bs[i].list[j].op=25
   ·have hany:copiesB bs=true:=any_yes hi (any_yes hj (by simp[hop]))
    simp[e1,e3,e4,rdC_ob hB,q1,q2.2.1,hlu,hj,r1,r2,hop,hany]
    rw[gcRet_flat hp rfl]
   ·simp[e1,e3,e4,rdC_ob hB,q1,q2.2.1,hlu,hj,r1,r2,hop,up1 hj q4]
    intro k hk hx
    by_cases ek:k=j
    ·subst ek;exact hop
    ·exact ht2 k (by omega) hx
  ·rintro⟨e',Z⟩ ⟨ht2,rfl,e1,e3,e4⟩
   simp only at e1 e3 e4 hB q1 q2 ⊢
   unfold vf88b0
   simp[e1,e3,e4,rdC_ob hB,q1,q2.2.1,hlu,up1 hi hb]
   intro j hj hx
   by_cases ej:j=i
   ·subst ej
    intro x hx2
    obtain⟨k,hk,rfl⟩:=List.getElem_of_mem hx2
    exact ht2 k hk hk
   ·have:=ht j (by omega) hx
    rw[List.any_eq_false]at this
    intro x hx2
    simpa using this x hx2
 ·rintro⟨e,Y⟩ ⟨ht,rfl,e1,e3⟩
  simp only at e1 e3 hB hvX hp ⊢
  have hno:copiesB bs=false:=by
   unfold copiesB
   rw[List.any_eq_false]
   intro b hb
   obtain⟨j,hj,rfl⟩:=List.getElem_of_mem hb
   rw[ht j hj hj];simp
  unfold vf88b1
  simp[e1,e3,rdC_ob hB,hl,hno]
  rw[gcRet_flat hp rfl]
def Bd (vs:List Int) (K:Nat):Prop:=∀ j:Nat,0≤vs.getD j 0∧vs.getD j 0≤(K:Int)

theorem Bd.tick {vs:List Int} {K:Nat} (h:Bd vs K) (d:Int):Bd (tick vs d) (K+1):=by
 intro j
 unfold Vm.tick
 rw[List.getD_eq_getElem?_getD,List.getElem?_set]
 have h1:=h j
 have h2:=h d.toNat
 by_cases e:d.toNat=j
 ·rw[if_pos e]
  split
  ·simp only[Option.getD_some];omega
  ·simp;omega
 ·rw[if_neg e,← List.getD_eq_getElem?_getD];omega

theorem Bd.mono {vs:List Int} {K K':Nat} (h:Bd vs K) (hk:K≤K'):Bd vs K':=fun j=>by have:=h j;omega

theorem Bd.tickI {vs:List Int} {K:Nat} (h:Bd vs K) (x:InsR):Bd (tickI vs x) (K+1):=by
 unfold Vm.tickI;split
 ·exact h.tick _
 ·exact h.mono (by omega)

theorem Bd.zero (n:Nat):Bd (List.replicate n 0) 0:=fun j=>by
 rw[List.getD_eq_getElem?_getD,List.getElem?_replicate];split<;>simp

theorem ins_def {x:InsR} {m:Int} (h:insB x m=true) (hd:0≤insDefF x):∃ k:Nat,insDefF x=k∧k<m.toNat:=by
 unfold insDefF at hd ⊢
 cases hm:makesF x.op with
 | false=>rw[hm]at hd;simp at hd
 | true =>
  simp only[if_true]
  have hv:valB x.d m=true:=by
   rcases ins_kinds h with hw | ⟨hw,hop⟩
   ·exact (insB_word h hw).1
   ·unfold insB at h
    rw[hw]at h
    unfold makesF at hm
    rcases hop with e | e | e | e | e | e<;>rw[e]at h hm<;>simp[wordOk,inB]at h hm
    ·exact h.1.1
    ·exact h.1.1.1
    ·exact h.1.1.1
    ·exact h.1.1.1
  exact val_nat hv

set_option maxRecDepth 100000 in
theorem specMade5 {H:Hp} {v:CV} {f:FnR} (hv:Blocks H v f.blocks) (hsh:shapeB f=true) (k:IV×Hp→Prop) :
  CM 91 [.agg [v,.i f.values]] H k=k (.c (.sl H.length 0 0 f.values.toNat),H++[⟨(madeF f).map .i,0,true,1⟩]):=by
 refine det (cw91 ?_) k
 unfold vf91c
 obtain⟨s1,s2,s3,s4⟩:=shape_len hsh
 obtain⟨X,hX⟩:∃ X,H++[(⟨[v,.i f.values],0,true,2⟩:Ob)]=X:=⟨_,rfl⟩
 have hp:Pre H X:=⟨_,hX.symm⟩
 have hB:rdOb X H.length 0=some ⟨[v,.i f.values],0,true,2⟩:=by rw[← hX];simp
 have hlX:X.length=H.length+1:=by rw[← hX];simp
 have hvX:=Blocks.pre hp hv
 have hl:=hvX.lenOf
 have hm1:(0≤f.values∧f.values≤(LIM:Int))=True:=eq_true ⟨s3,by simp only[LIM];omega⟩
 have hbb:f.blocks.length≤BIG:=by simp only[BIG];omega
 have hzz:List.replicate f.values.toNat (CV.i 0)=(List.replicate f.values.toNat (0:Int)).map .i:=by simp
 simp[hX,rdC_ob hB,hm1]
 obtain⟨I,hI⟩:∃ I:Nat→St→Prop,∀ i st,I i st↔(st.h=X++[⟨((f.blocks.take i).foldl tickB (List.replicate f.values.toNat 0)).map .i,0,true,1⟩]∧Bd ((f.blocks.take i).foldl tickB (List.replicate f.values.toNat 0)) (48 * i) ∧
   Env.get st.e 1=.c (.p H.length 0 0)∧Env.get st.e 3=.c (.sl X.length 0 0 f.values.toNat)∧Env.get st.e 4=.c (.i i)):=⟨_,fun _ _=>Iff.rfl⟩
 refine wp_for CM_mono f.blocks.length I ((hI _ _).2 ⟨by simp,by simpa using Bd.zero _,by simp⟩) ?_ ?_
 ·rintro i ⟨e,Y⟩ hi hIs
  obtain⟨hY,hbd,e1,e3,e4⟩:=(hI _ _).1 hIs
  simp only at hY e1 e3 e4 ⊢
  have hsucc:=fold_succ tickB (List.replicate f.values.toNat 0) hi
  have hvl:=ticksB_len (f.blocks.take i) (List.replicate f.values.toNat 0)
  obtain⟨vs,hvs⟩:∃ vs,(f.blocks.take i).foldl tickB (List.replicate f.values.toNat 0)=vs:=⟨_,rfl⟩
  rw[hvs]at hY hsucc hbd hvl
  rw[List.length_replicate]at hvl
  have hmem:f.blocks[i]∈f.blocks:=List.getElem_mem hi
  have hlens:=shape_lens hsh hmem
  have hBY:rdOb Y H.length 0=some ⟨[v,.i f.values],0,true,2⟩:=by rw[hY];exact rdOb_app _ hB
  unfold vf91b2
  simp[e1,e3,e4,rdC_ob hBY,hl,hi]
  obtain⟨J,hJ⟩:∃ J:Nat→St→Prop,∀ j st,J j st↔(st.h=X++[⟨((f.blocks[i].phis.take j).foldl (fun ws p=>tick ws p.d) vs).map .i,0,true,1⟩]∧Bd ((f.blocks[i].phis.take j).foldl (fun ws p=>tick ws p.d) vs) (48 * i+j) ∧
    Env.get st.e 1=.c (.p H.length 0 0)∧Env.get st.e 3=.c (.sl X.length 0 0 f.values.toNat)∧Env.get st.e 4=.c (.i i)∧Env.get st.e 5=.c (.i j)):=⟨_,fun _ _=>Iff.rfl⟩
  refine wp_for CM_mono f.blocks[i].phis.length J ((hJ _ _).2 ⟨hY,hbd,by simp[e1,e3,e4]⟩) ?_ ?_
  ·rintro j ⟨e',Z⟩ hj hJs
   obtain⟨hZ,hbd,e1,e3,e4,e5⟩:=(hJ _ _).1 hJs
   simp only at hZ e1 e3 e4 e5 ⊢
   have hsu:=fold_succ (fun ws (p:PhiR)=>tick ws p.d) vs hj
   have hwl:=ticks_len (f.blocks[i].phis.take j) vs
   obtain⟨ws,hws⟩:∃ ws,(f.blocks[i].phis.take j).foldl (fun ws p=>tick ws p.d) vs=ws:=⟨_,rfl⟩
   rw[hws]at hZ hbd hsu hwl
   have hpZ:Pre X Z:=⟨_,hZ⟩
   have hBZ:=hpZ.rdOb hB
   have hvZ:=hvX.pre hpZ
   obtain⟨id,g,off,w,u,q1,q2,_,qp,_,qpl,_,_,_⟩:=Blocks.get hvZ hi
   obtain⟨id2,g2,off2,w2,r1,r2,_⟩:=Phis.get qp hj
   obtain⟨hvd,_⟩:=phi_vals (shape_phi hsh hmem (List.getElem_mem hj))
   obtain⟨kd,hkd,hkn⟩:=val_nat hvd
   have hNZ:rdOb Z X.length 0=some ⟨ws.map .i,0,true,1⟩:=by rw[hZ];simp
   have hgw:ws[kd]? = some (ws.getD kd 0):=by simp[List.getD_eq_getElem?_getD,show kd<ws.length by omega]
   have hb1:=hbd kd
   have hbd':=hbd.tick (f.blocks[i].phis[j].d)
   have htk:tick ws f.blocks[i].phis[j].d=ws.set kd (ws.getD kd 0+1):=by unfold tick;rw[hkd];simp
   obtain⟨z,hz⟩:∃ z,ws.getD kd 0=z:=⟨_,rfl⟩
   rw[hz]at hgw hb1 htk
   have hset:Z.set X.length ⟨(ws.map .i).set kd (.i (z+1)),0,true,1⟩=X++[⟨(ws.set kd (z+1)).map .i,0,true,1⟩]:=by rw[hZ,set_self];simp
   have hzb:0≤z∧z≤1000:=by omega
   have hpl:=qp.lenOf
   unfold vf91b0
   simp[e1,e3,e4,e5,rdC_ob hBZ,q1,q2.1,hpl,hj,r1,r2.1,hkd,idx1 hkn,rdC_ob hNZ,hgw,hNZ,show ws.length=f.values.toNat by omega,show kd+1≤f.values.toNat by omega,int_put (xs:=ws) (i:=kd) (by omega),hset,up1 hj qpl,wrap64_id (show -9223372036854775808≤z+1∧z+1≤9223372036854775807 by omega)]
   refine (hJ _ _).2 ⟨?_,?_,by simp[e1,e3,e4]⟩
   ·rw[hsu,htk];simp
   ·rw[hsu];exact hbd'
  ·rintro⟨e',Z⟩ hJs
   obtain⟨hZ,hbd,e1,e3,e4,e5⟩:=(hJ _ _).1 hJs
   simp only at hZ e1 e3 e4 e5 ⊢
   rw[List.take_length]at hZ hbd
   have hwl:=ticks_len f.blocks[i].phis vs
   obtain⟨ws,hws⟩:∃ ws,f.blocks[i].phis.foldl (fun ws p=>tick ws p.d) vs=ws:=⟨_,rfl⟩
   rw[hws]at hZ hbd hwl
   have hpZ:Pre X Z:=⟨_,hZ⟩
   have hBZ:=hpZ.rdOb hB
   have hvZ:=hvX.pre hpZ
   obtain⟨id,g,off,w,u,q1,q2,_,qp,_,qpl,_,_,_⟩:=Blocks.get hvZ hi
   have hpl:=qp.lenOf
   unfold vf91b0
   simp[e1,e3,e4,e5,rdC_ob hBZ,q1,q2.1,hpl]
   obtain⟨L,hL⟩:∃ L:Nat→St→Prop,∀ j st,L j st↔(st.h=X++[⟨((f.blocks[i].list.take j).foldl tickI ws).map .i,0,true,1⟩]∧Bd ((f.blocks[i].list.take j).foldl tickI ws) (48 * i+24+j) ∧
     Env.get st.e 1=.c (.p H.length 0 0)∧Env.get st.e 3=.c (.sl X.length 0 0 f.values.toNat)∧Env.get st.e 4=.c (.i i)∧Env.get st.e 6=.c (.i j)):=⟨_,fun _ _=>Iff.rfl⟩
   refine wp_for CM_mono f.blocks[i].list.length L ((hL _ _).2 ⟨hZ,hbd.mono (by omega),by simp[e1,e3,e4]⟩) ?_ ?_
   ·rintro j ⟨e2,W⟩ hj hLs
    obtain⟨hW,hbd,e1,e3,e4,e6⟩:=(hL _ _).1 hLs
    simp only at hW e1 e3 e4 e6 ⊢
    have hsu:=fold_succ tickI ws hj
    have hul:=ticksI_len (f.blocks[i].list.take j) ws
    obtain⟨us,hus⟩:∃ us,(f.blocks[i].list.take j).foldl tickI ws=us:=⟨_,rfl⟩
    rw[hus]at hW hbd hsu hul
    have hpW:Pre X W:=⟨_,hW⟩
    have hBW:=hpW.rdOb hB
    have hvW:=hvX.pre hpW
    obtain⟨id,g,off,w,u,q1,q2,_,_,ql,_,qll,_,_⟩:=Blocks.get hvW hi
    obtain⟨id2,g2,off2,r1,⟨_,_,_,_,_,r2⟩,_⟩:=List5.get ql hj
    obtain⟨x,hx⟩:∃ x,f.blocks[i].list[j]=x:=⟨_,rfl⟩
    have hxB:insB x f.values=true:=by rw[← hx];exact shape_ins hsh hmem (List.getElem_mem hj)
    rw[hx]at r2 hsu
    have hNW:rdOb W X.length 0=some ⟨us.map .i,0,true,1⟩:=by rw[hW];simp
    have hbd':=hbd.tickI x
    have hll:=ql.lenOf
    unfold vf91b1
    by_cases hd:0≤insDefF x
    ·obtain⟨kd,hkd,hkn⟩:=ins_def hxB hd
     have hgw:us[kd]? = some (us.getD kd 0):=by simp[List.getD_eq_getElem?_getD,show kd<us.length by omega]
     have hb1:=hbd kd
     have htk:tickI us x=us.set kd (us.getD kd 0+1):=by unfold tickI;rw[if_pos hd];unfold tick;rw[hkd];simp
     obtain⟨z,hz⟩:∃ z,us.getD kd 0=z:=⟨_,rfl⟩
     rw[hz]at hgw hb1 htk
     have hset:W.set X.length ⟨(us.map .i).set kd (.i (z+1)),0,true,1⟩=X++[⟨(us.set kd (z+1)).map .i,0,true,1⟩]:=by rw[hW,set_self];simp
     have hzb:0≤z∧z≤1000:=by omega
     simp[e1,e3,e4,e6,rdC_ob hBW,q1,q2.2.1,hll,hj,r1,r2,specInsDef,hkd,idx1 hkn,rdC_ob hNW,hgw,hNW,show us.length=f.values.toNat by omega,show kd+1≤f.values.toNat by omega,int_put (xs:=us) (i:=kd) (by omega),hset,up1 hj qll,wrap64_id (show -9223372036854775808≤z+1∧z+1≤9223372036854775807 by omega)]
     refine (hL _ _).2 ⟨?_,?_,by simp[e1,e3,e4]⟩
     ·rw[hsu,htk];simp
     ·rw[hsu];exact hbd'
    ·have htk:tickI us x=us:=by unfold tickI;rw[if_neg hd]
     simp[e1,e3,e4,e6,rdC_ob hBW,q1,q2.2.1,hll,hj,r1,r2,specInsDef,hd,up1 hj qll]
     refine (hL _ _).2 ⟨?_,?_,by simp[e1,e3,e4]⟩
     ·rw[hsu,htk];exact hW
     ·rw[hsu];exact hbd'
   ·rintro⟨e2,W⟩ hLs
    obtain⟨hW,hbd,e1,e3,e4,e6⟩:=(hL _ _).1 hLs
    simp only at hW e1 e3 e4 e6 ⊢
    rw[List.take_length]at hW hbd
    have hpW:Pre X W:=⟨_,hW⟩
    have hBW:=hpW.rdOb hB
    have hvW:=hvX.pre hpW
    obtain⟨id,g,off,w,u,q1,q2,_,_,ql,_,qll,_,_⟩:=Blocks.get hvW hi
    have hll:=ql.lenOf
    have htb:tickB vs f.blocks[i]=f.blocks[i].list.foldl tickI ws:=by unfold tickB;rw[hws]
    unfold vf91b1
    simp[e1,e3,e4,e6,rdC_ob hBW,q1,q2.2.1,hll,up1 hi hbb]
    refine (hI _ _).2 ⟨?_,?_,by simp[e1,e3]⟩
    ·rw[hsucc,htb];exact hW
    ·rw[hsucc,htb];exact hbd.mono (by omega)
 ·rintro⟨e,Y⟩ hIs
  obtain⟨hY,hbd,e1,e3,e4⟩:=(hI _ _).1 hIs
  simp only at hY e1 e3 e4 ⊢
  rw[List.take_length]at hY
  have hBY:rdOb Y H.length 0=some ⟨[v,.i f.values],0,true,2⟩:=by rw[hY];exact rdOb_app _ hB
  have hN:rdOb Y X.length 0=some ⟨(madeF f).map .i,0,true,1⟩:=by rw[hY];unfold madeF;simp
  unfold vf91b2
  simp[e1,e3,e4,rdC_ob hBY,hl]
  rw[gcRet_row (hp.trans ⟨_,hY⟩) hp.le hN rfl (by simp[flatC])]
theorem put66c (a b c d e f p q r s t u:CV):putAt [a,b,c,d,e,f] 0 [p,q,r,s,t,u]=[p,q,r,s,t,u]:=rfl

set_option maxRecDepth 100000 in
theorem implMade {H:Hp} {v:CV} {f:FnR} (hv:Blocks H v f.blocks) (hsh:shapeB f=true) (k:IV×Hp→Prop) :
  CM 60 [.agg [v,.i f.values]] H k=k (.c (.sl H.length 0 0 f.values.toNat),H++[⟨(madeF f).map .i,0,true,1⟩]):=by
 refine det (cw60 ?_) k
 unfold vf60c
 obtain⟨s1,s2,s3,s4⟩:=shape_len hsh
 obtain⟨X,hX⟩:∃ X,H++[(⟨[v,.i f.values],0,true,2⟩:Ob)]=X:=⟨_,rfl⟩
 have hp:Pre H X:=⟨_,hX.symm⟩
 have hB:rdOb X H.length 0=some ⟨[v,.i f.values],0,true,2⟩:=by rw[← hX];simp
 have hlX:X.length=H.length+1:=by rw[← hX];simp
 have hl:=hv.lenOf
 have hm1:(0≤f.values∧f.values≤(LIM:Int))=True:=eq_true ⟨s3,by simp only[LIM];omega⟩
 have hbb:f.blocks.length≤BIG:=by simp only[BIG];omega
 obtain⟨X1,hX1⟩:∃ X1,X++[(⟨List.replicate f.values.toNat (.i 0),0,true,1⟩:Ob)]=X1:=⟨_,rfl⟩
 have hp1:Pre H X1:=by rw[← hX1];exact hp.app _
 have hB1:rdOb X1 H.length 0=some ⟨[v,.i f.values],0,true,2⟩:=by rw[← hX1];exact rdOb_app _ hB
 have hN1:rdOb X1 X.length 0=some ⟨(List.replicate f.values.toNat (0:Int)).map .i,0,true,1⟩:=by rw[← hX1];simp
 simp[hX,rdC_ob hB,hm1,hX1,rdC_ob hB1,hl]
 obtain⟨I,hI⟩:∃ I:Nat→St→Prop,∀ i st,I i st↔(Pre H st.h∧rdOb st.h X.length 0=some ⟨((f.blocks.take i).foldl tickB (List.replicate f.values.toNat 0)).map .i,0,true,1⟩∧Bd ((f.blocks.take i).foldl tickB (List.replicate f.values.toNat 0)) (48 * i) ∧
   Env.get st.e 3=.c (.sl X.length 0 0 f.values.toNat)∧Env.get st.e 15=.c v∧Env.get st.e 16=.c (.i f.blocks.length)∧Env.get st.e 17=.c (.i i)):=⟨_,fun _ _=>Iff.rfl⟩
 refine wp_for CM_mono f.blocks.length I ((hI _ _).2 ⟨hp1,hN1,by simpa using Bd.zero _,by simp⟩) ?_ ?_
 ·rintro i ⟨e,Y⟩ hi hIs
  obtain⟨hY,hN,hbd,e3,e15,e16,e17⟩:=(hI _ _).1 hIs
  simp only at hY hN e3 e15 e16 e17 ⊢
  have hsucc:=fold_succ tickB (List.replicate f.values.toNat 0) hi
  have hvl:=ticksB_len (f.blocks.take i) (List.replicate f.values.toNat 0)
  obtain⟨vs,hvs⟩:∃ vs,(f.blocks.take i).foldl tickB (List.replicate f.values.toNat 0)=vs:=⟨_,rfl⟩
  rw[hvs]at hN hsucc hbd hvl
  rw[List.length_replicate]at hvl
  have hmem:f.blocks[i]∈f.blocks:=List.getElem_mem hi
  have hlens:=shape_lens hsh hmem
  obtain⟨i0,g0,off0,w,u,q1,_,q2,qp,ql,qpl,qll,_,_⟩:=Blocks.get hv hi
  obtain⟨GY,hGY⟩:=id hY
  have q2':=q2 GY
  rw[← hGY]at q2'
  obtain⟨t,ht⟩:∃ t,f.blocks[i].term=t:=⟨_,rfl⟩
  rw[ht]at q2'
  obtain⟨Y1,hY1⟩:∃ Y1,Y++[(⟨[w,u,.i t.kind,.i t.a,.i t.to,.i t.els],0,true,6⟩:Ob)]=Y1:=⟨_,rfl⟩
  have hpY1:Pre H Y1:=by rw[← hY1];exact hY.app _
  have hNY1:rdOb Y1 X.length 0=some ⟨vs.map .i,0,true,1⟩:=by rw[← hY1];exact rdOb_app _ hN
  have h5:rdOb Y1 Y.length 0=some ⟨[w,u,.i t.kind,.i t.a,.i t.to,.i t.els],0,true,6⟩:=by rw[← hY1];simp
  have hYl:X.length<Y.length:=rdOb_lt hN
  have hpl:=qp.lenOf
  have hll:=ql.lenOf
  unfold vf60b2
  simp[e3,e15,e16,e17,hi,q1,q2'.2.2.2.2.2.2.2.2.2.2,put66c,hY1,rdC_ob h5,hpl]
  obtain⟨J,hJ⟩:∃ J:Nat→St→Prop,∀ j st,J j st↔(Pre H st.h∧rdOb st.h X.length 0=some ⟨((f.blocks[i].phis.take j).foldl (fun ws p=>tick ws p.d) vs).map .i,0,true,1⟩∧Bd ((f.blocks[i].phis.take j).foldl (fun ws p=>tick ws p.d) vs) (48 * i+j) ∧
    rdOb st.h Y.length 0=some ⟨[w,u,.i t.kind,.i t.a,.i t.to,.i t.els],0,true,6⟩∧Env.get st.e 5=.c (.p Y.length 0 0) ∧
    Env.get st.e 3=.c (.sl X.length 0 0 f.values.toNat)∧Env.get st.e 15=.c v∧Env.get st.e 16=.c (.i f.blocks.length)∧Env.get st.e 17=.c (.i i)∧Env.get st.e 22=.c w∧Env.get st.e 23=.c (.i f.blocks[i].phis.length)∧Env.get st.e 24=.c (.i j)):=⟨_,fun _ _=>Iff.rfl⟩
  refine wp_for CM_mono f.blocks[i].phis.length J ((hJ _ _).2 ⟨hpY1,hNY1,hbd,h5,by simp[e3,e15,e16,e17]⟩) ?_ ?_
  ·rintro j ⟨e',Z⟩ hj hJs
   obtain⟨hZ,hNZ,hbd,h5,e5,e3,e15,e16,e17,e22,e23,e24⟩:=(hJ _ _).1 hJs
   simp only at hZ hNZ h5 e5 e3 e15 e16 e17 e22 e23 e24 ⊢
   have hsu:=fold_succ (fun ws (p:PhiR)=>tick ws p.d) vs hj
   have hwl:=ticks_len (f.blocks[i].phis.take j) vs
   obtain⟨ws,hws⟩:∃ ws,(f.blocks[i].phis.take j).foldl (fun ws p=>tick ws p.d) vs=ws:=⟨_,rfl⟩
   rw[hws]at hNZ hbd hsu hwl
   obtain⟨id2,g2,off2,w2,r1,_,r2,_⟩:=Phis.get qp hj
   obtain⟨GZ,hGZ⟩:=id hZ
   have r2':=r2 GZ
   rw[← hGZ]at r2'
   obtain⟨ph,hph⟩:∃ ph,f.blocks[i].phis[j]=ph:=⟨_,rfl⟩
   obtain⟨hvd,_⟩:=phi_vals (shape_phi hsh hmem (List.getElem_mem hj))
   rw[hph]at r2' hvd hsu
   obtain⟨kd,hkd,hkn⟩:=val_nat hvd
   obtain⟨Z1,hZ1⟩:∃ Z1,Z++[(⟨[.i ph.d,w2],0,true,2⟩:Ob)]=Z1:=⟨_,rfl⟩
   have h7:rdOb Z1 Z.length 0=some ⟨[.i ph.d,w2],0,true,2⟩:=by rw[← hZ1];simp
   have hNZ1:rdOb Z1 X.length 0=some ⟨ws.map .i,0,true,1⟩:=by rw[← hZ1];exact rdOb_app _ hNZ
   have h51:rdOb Z1 Y.length 0=some ⟨[w,u,.i t.kind,.i t.a,.i t.to,.i t.els],0,true,6⟩:=by rw[← hZ1];exact rdOb_app _ h5
   have hpZ1:Pre H Z1:=by rw[← hZ1];exact hZ.app _
   have hgw:ws[kd]? = some (ws.getD kd 0):=by simp[List.getD_eq_getElem?_getD,show kd<ws.length by omega]
   have hb1:=hbd kd
   have hbd':=hbd.tick ph.d
   have htk:tick ws ph.d=ws.set kd (ws.getD kd 0+1):=by unfold tick;rw[hkd];simp
   obtain⟨z,hz⟩:∃ z,ws.getD kd 0=z:=⟨_,rfl⟩
   rw[hz]at hgw hb1 htk
   have hzb:0≤z∧z≤1000:=by omega
   have hix:idxOf 1 (.sl X.length 0 0 f.values.toNat) ph.d=some (.p X.length 0 kd):=by rw[hkd];exact idx1 hkn
   unfold vf60b0
   simp[e5,e3,e15,e16,e17,e22,e23,e24,hj,r1,r2'.2.2,putD0,hZ1,rdC_ob h7,hix,rdC_ob hNZ1,hgw,hNZ1,show ws.length=f.values.toNat by omega,show kd+1≤f.values.toNat by omega,int_put (xs:=ws) (i:=kd) (by omega),up1 hj qpl,wrap64_id (show -9223372036854775808≤z+1∧z+1≤9223372036854775807 by omega)]
   refine (hJ _ _).2 ⟨hpZ1.set (by omega) _,?_,?_,?_,by simp[e5,e3,e15,e16,e17,e22,e23]⟩
   ·simp only;rw[hsu,htk,rdOb_set_self (rdOb_lt hNZ1)];simp
   ·rw[hsu];exact hbd'
   ·simp only;rw[rdOb_set_ne (by omega)];exact h51
  ·rintro⟨e',Z⟩ hJs
   obtain⟨hZ,hNZ,hbd,h5,e5,e3,e15,e16,e17,e22,e23,e24⟩:=(hJ _ _).1 hJs
   simp only at hZ hNZ h5 e5 e3 e15 e16 e17 e22 e23 e24 ⊢
   rw[List.take_length]at hNZ hbd
   have hwl:=ticks_len f.blocks[i].phis vs
   obtain⟨ws,hws⟩:∃ ws,f.blocks[i].phis.foldl (fun ws p=>tick ws p.d) vs=ws:=⟨_,rfl⟩
   rw[hws]at hNZ hbd hwl
   unfold vf60b0
   simp[e5,e3,e15,e16,e17,e22,e23,e24,rdC_ob h5,hll]
   obtain⟨L,hL⟩:∃ L:Nat→St→Prop,∀ j st,L j st↔(Pre H st.h∧rdOb st.h X.length 0=some ⟨((f.blocks[i].list.take j).foldl tickI ws).map .i,0,true,1⟩∧Bd ((f.blocks[i].list.take j).foldl tickI ws) (48 * i+24+j) ∧
     Env.get st.e 3=.c (.sl X.length 0 0 f.values.toNat)∧Env.get st.e 15=.c v∧Env.get st.e 16=.c (.i f.blocks.length)∧Env.get st.e 17=.c (.i i)∧Env.get st.e 37=.c u∧Env.get st.e 38=.c (.i f.blocks[i].list.length)∧Env.get st.e 39=.c (.i j)):=⟨_,fun _ _=>Iff.rfl⟩
   refine wp_for CM_mono f.blocks[i].list.length L ((hL _ _).2 ⟨hZ,hNZ,hbd.mono (by omega),by simp[e3,e15,e16,e17]⟩) ?_ ?_
   ·rintro j ⟨e2,W⟩ hj hLs
    obtain⟨hW,hNW,hbd,e3,e15,e16,e17,e37,e38,e39⟩:=(hL _ _).1 hLs
    simp only at hW hNW e3 e15 e16 e17 e37 e38 e39 ⊢
    have hsu:=fold_succ tickI ws hj
    have hul:=ticksI_len (f.blocks[i].list.take j) ws
    obtain⟨us,hus⟩:∃ us,(f.blocks[i].list.take j).foldl tickI ws=us:=⟨_,rfl⟩
    rw[hus]at hNW hbd hsu hul
    obtain⟨id2,g2,off2,r1,_,r2,_⟩:=List5.get ql hj
    obtain⟨GW,hGW⟩:=id hW
    have r2':=r2 GW
    rw[← hGW]at r2'
    obtain⟨x,hx⟩:∃ x,f.blocks[i].list[j]=x:=⟨_,rfl⟩
    have hxB:insB x f.values=true:=by rw[← hx];exact shape_ins hsh hmem (List.getElem_mem hj)
    rw[hx]at r2' hsu
    obtain⟨W1,hW1⟩:∃ W1,W++[(⟨[.i x.op,.i x.d,.i x.a,.i x.b,.i x.n],0,true,5⟩:Ob)]=W1:=⟨_,rfl⟩
    have h9:rdOb W1 W.length 0=some ⟨[.i x.op,.i x.d,.i x.a,.i x.b,.i x.n],0,true,5⟩:=by rw[← hW1];simp
    have hNW1:rdOb W1 X.length 0=some ⟨us.map .i,0,true,1⟩:=by rw[← hW1];exact rdOb_app _ hNW
    have hpW1:Pre H W1:=by rw[← hW1];exact hW.app _
    have hbd':=hbd.tickI x
    unfold vf60b1
    by_cases hd:0≤insDefF x
    ·obtain⟨kd,hkd,hkn⟩:=ins_def hxB hd
     have hgw:us[kd]? = some (us.getD kd 0):=by simp[List.getD_eq_getElem?_getD,show kd<us.length by omega]
     have hb1:=hbd kd
     have htk:tickI us x=us.set kd (us.getD kd 0+1):=by unfold tickI;rw[if_pos hd];unfold tick;rw[hkd];simp
     obtain⟨z,hz⟩:∃ z,us.getD kd 0=z:=⟨_,rfl⟩
     rw[hz]at hgw hb1 htk
     have hzb:0≤z∧z≤1000:=by omega
     simp[e3,e15,e16,e17,e37,e38,e39,hj,r1,r2'.2.2.2.2.2,put5,hW1,rdN_ob h9,implInsDef,hkd,idx1 hkn,rdC_ob hNW1,hgw,hNW1,show us.length=f.values.toNat by omega,show kd+1≤f.values.toNat by omega,int_put (xs:=us) (i:=kd) (by omega),up1 hj qll,wrap64_id (show -9223372036854775808≤z+1∧z+1≤9223372036854775807 by omega)]
     refine (hL _ _).2 ⟨hpW1.set (by omega) _,?_,?_,by simp[e3,e15,e16,e17,e37,e38]⟩
     ·simp only;rw[hsu,htk,rdOb_set_self (rdOb_lt hNW1)];simp
     ·rw[hsu];exact hbd'
    ·have htk:tickI us x=us:=by unfold tickI;rw[if_neg hd]
     simp[e3,e15,e16,e17,e37,e38,e39,hj,r1,r2'.2.2.2.2.2,put5,hW1,rdN_ob h9,implInsDef,hd,up1 hj qll]
     refine (hL _ _).2 ⟨hpW1,?_,?_,by simp[e3,e15,e16,e17,e37,e38]⟩
     ·rw[hsu,htk];exact hNW1
     ·rw[hsu];exact hbd'
   ·rintro⟨e2,W⟩ hLs
    obtain⟨hW,hNW,hbd,e3,e15,e16,e17,e37,e38,e39⟩:=(hL _ _).1 hLs
    simp only at hW hNW e3 e15 e16 e17 e37 e38 e39 ⊢
    rw[List.take_length]at hNW hbd
    have htb:tickB vs f.blocks[i]=f.blocks[i].list.foldl tickI ws:=by unfold tickB;rw[hws]
    unfold vf60b1
    simp[e3,e15,e16,e17,e37,e38,e39,up1 hi hbb]
    refine (hI _ _).2 ⟨hW,?_,?_,by simp[e3,e15,e16]⟩
    ·rw[hsucc,htb];exact hNW
    ·rw[hsucc,htb];exact hbd.mono (by omega)
 ·rintro⟨e,Y⟩ hIs
  obtain⟨hY,hN,hbd,e3,e15,e16,e17⟩:=(hI _ _).1 hIs
  simp only at hY hN e3 e15 e16 e17 ⊢
  rw[List.take_length]at hN
  unfold vf60b2
  simp[e3,e15,e16,e17]
  rw[gcRet_row hY hp.le hN rfl (by simp[flatC])]
  rfl
theorem indexBool {H:Hp} {v:CV} {xs:List Bool} {x:Bool} (hv:IsL H v xs) (hb:xs.length≤BIG) (k:IV×Hp→Prop) :
  CM 117 [.c v,.c (.b x)] H k=k (.c (.i (findI (fun y=>decide (x=y)) xs)),H):=by
 refine det (cw117 ?_) k
 unfold vf117c
 simp[hv.lenOf]
 refine wp_for CM_mono xs.length (fun i s=>(∀ j (hj:j<i) (hx:j<xs.length),decide (x=xs[j])=false)∧s.h=H∧Env.get s.e 0=.c v∧Env.get s.e 1=.c (.b x)∧Env.get s.e 7=.c (.i xs.length)∧Env.get s.e 8=.c (.i i)) (by simp) ?_ ?_
 ·rintro i ⟨e,X⟩ hi ⟨ht,rfl,h0,h1,h7,h8⟩
  simp only at h0 h1 h7 h8 hv ⊢
  obtain⟨id,g,off,q1,q2⟩:=hv.at_ hi
  unfold vf117b0
  cases hpx:decide (x=xs[i]) with
  | false =>
   have hne:¬ x=xs[i]:=of_decide_eq_false hpx
   have hfin:∀ j,j<i+1→∀ (hx:j<xs.length),¬ x=xs[j]:=by
    intro j hj hx
    by_cases e:j=i
    ·subst e;exact hne
    ·exact of_decide_eq_false (ht j (by omega) hx)
   cases hy:xs[i]<;>cases x<;>simp[hy]at hne<;>simp[h0,h1,h7,h8,q1,q2,hi,up1 hi hb,hy]<;>(intro j hj hx;simpa using hfin j hj hx)
  | true =>
   have he:x=xs[i]:=of_decide_eq_true hpx
   have hfs:=findI_some hi (p:=fun y=>decide (x=y)) (fun j hj=>ht j hj (by omega)) hpx
   rw[hfs]
   cases hy:xs[i]<;>cases x<;>simp[hy]at he<;>simp[h0,h1,h7,h8,q1,q2,hi,up1 hi hb,hy]
 ·rintro⟨e,X⟩ ⟨ht,rfl,h0,h1,h7,h8⟩
  simp only at h0 h1 h7 h8 ⊢
  unfold vf117b0
  simp[h0,h1,h7,h8,findI_none (p:=fun y=>decide (x=y)) (fun j hj=>ht j hj hj)]

theorem containsBool {H:Hp} {v:CV} {xs:List Bool} {x:Bool} (hv:IsL H v xs) (hb:xs.length≤BIG) (k:IV×Hp→Prop) :
  CM 56 [.c v,.c (.b x)] H k=k (.c (.b (xs.any fun y=>decide (x=y))),H):=by
 refine det (cw56 ?_) k
 unfold vf56c
 have e:decide (0≤findI (fun y=>decide (x=y)) xs)=xs.any fun y=>decide (x=y):=by
  cases h:xs.any (fun y=>decide (x=y)) with
  | true=>exact decide_eq_true (findI_nonneg.2 h)
  | false=>exact decide_eq_false fun hc=>by rw[findI_nonneg.1 hc]at h;cases h
 simp[indexBool hv hb,e]

theorem equalInt {H:Hp} {v w:CV} {xs ys:List Int} (hv:IsI H v xs) (hw:IsI H w ys) (hb:xs.length≤BIG) (k:IV×Hp→Prop):CM 119 [.c v,.c w] H k=k (.c (.b (decide (xs=ys))),H):=by
 refine det (cw119 ?_) k
 unfold vf119c
 simp[hv.lenOf,hw.lenOf]
 by_cases hl:xs.length=ys.length
 ·simp[hl,hv.lenOf]
  refine wp_for CM_mono xs.length (fun i s=>xs.take i=ys.take i∧s.h=H∧Env.get s.e 0=.c v∧Env.get s.e 1=.c w∧Env.get s.e 12=.c (.i xs.length)∧Env.get s.e 13=.c (.i i)) (by simp[hl]) ?_ ?_
  ·rintro i ⟨e,X⟩ hi ⟨ht,rfl,h0,h1,h12,h13⟩
   simp only at h0 h1 h12 h13 hv hw ⊢
   obtain⟨id,g,off,q1,q2⟩:=hv.at_ hi
   obtain⟨id',g',off',p1,p2⟩:=hw.at_ (show i<ys.length by omega)
   unfold vf119b0
   by_cases he:xs[i]=ys[i]
   ·simp[h0,h1,h12,h13,q1,q2,p1,p2,hi,up1 hi hb,he]
    exact take_snoc_eq hi (by omega) ht he
   ·have hne:xs≠ys:=fun e=>he (by subst e;rfl)
    simp[h0,h1,h12,h13,q1,q2,p1,p2,hi,he,hne]
  ·rintro⟨e,X⟩ ⟨ht,rfl,h0,h1,h12,h13⟩
   simp only at h0 h1 h12 h13 ⊢
   rw[List.take_length]at ht
   rw[hl,List.take_length]at ht
   unfold vf119b0
   simp[h0,h1,h12,h13,ht]
 ·have:xs≠ys:=fun e=>hl (by rw[e])
  have hl':¬ (xs.length:Int)=ys.length:=by omega
  simp[hl,this]

theorem sort_call {H:Hp} {id g:Nat} {xs:List Int} (ho:rdOb H id g=some ⟨xs.map .i,g,true,1⟩) (hb:xs.length≤LIM) (k:IV×Hp→Prop) :
  CM 72 [.c (.sl id g 0 xs.length)] H k=k (.tup [],H.set id ⟨(sortI xs).map .i,g,true,1⟩):=by
 have hM:M 72=none:=by rfl
 refine det ?_ k
 refine callD_of XK_mono ?_
 unfold bodyD
 rw[hM]
 refine⟨rfl,.inr ⟨id,g,0,_,xs,rfl,ho,rfl,rfl,by simp,by simp[List.take_of_length_le],hb,?_⟩⟩
 simp[putAt,List.drop_of_length_le]
noncomputable def pB (p:Prop):Bool:=@decide p (Classical.propDecidable p)

theorem pB_true {p:Prop} (h:p):pB p=true:=by unfold pB;simp[h]

theorem pB_false {p:Prop} (h:¬ p):pB p=false:=by unfold pB;simp[h]

def ArmsRight (bs:List BlkR):Prop:=∀ j (hj:j<bs.length),∀ p∈bs[j].phis,sortI (fromsF p)=predsF bs j

theorem asc_eq:∀ (B A:List Int),A.Pairwise (·<·)→B.Pairwise (·<·)→(∀ x∈A,x∈B)→B.length≤A.length→A=B:=by
 intro B
 induction B with
 | nil =>
  intro A _ _ h _
  cases A with
  | nil=>rfl
  | cons a r=>exact absurd (h a (by simp)) (by simp)
 | cons b B ih =>
  intro A hA hB h hl
  cases A with
  | nil=>simp at hl
  | cons a A =>
   rw[List.pairwise_cons]at hA hB
   have hab:a=b∨b<a:=by
    rcases List.mem_cons.1 (h a (by simp)) with e | e
    ·exact .inl e
    ·exact .inr (hB.1 _ e)
   have ht:A=B:=by
    refine ih A hA.2 hB.2 (fun x hx=>?_) (by simpa using hl)
    have hax:=hA.1 x hx
    rcases List.mem_cons.1 (h x (by simp[hx])) with e | e
    ·omega
    ·exact e
   subst ht
   rcases hab with e | e
   ·rw[e]
   ·rcases List.mem_cons.1 (h a (by simp)) with e2 | e2
    ·rw[e2]
    ·exact absurd (hA.1 a e2) (by omega)

theorem preds_asc (bs:List BlkR) (b:Int):(predsF bs b).Pairwise (·<·):=by
 unfold predsF predsTo
 rw[List.pairwise_map]
 exact (List.Pairwise.filter _ List.pairwise_lt_range).imp (fun h=>by omega)

theorem froms_apart {n m:Int} {p:PhiR} (h:phiB n m p=true):(fromsF p).Pairwise (·≠·):=by
 unfold phiB armsB at h
 simp only[Bool.and_eq_true,List.all_eq_true,List.mem_range]at h
 unfold fromsF
 rw[List.pairwise_map,List.pairwise_iff_getElem]
 intro i j hi hj hij
 have:=h.2 j hj
 rw[armB_at hj]at this
 simp only[Bool.and_eq_true,Bool.not_eq_true',List.any_eq_false,decide_eq_true_eq]at this
 exact this.2 _ (List.mem_take_iff_getElem.2 ⟨i,by omega,rfl⟩)

theorem arms_iff {bs:List BlkR} {b:Int} {n m:Int} {p:PhiR} (h:phiB n m p=true):sortI (fromsF p)=predsF bs b↔(p.arms.length=(predsF bs b).length∧∀ a∈p.arms,hasI (predsF bs b) a.fr=true):=by
 have hperm:(sortI (fromsF p)).Perm (fromsF p):=List.mergeSort_perm _ _
 constructor
 ·intro e
  refine⟨by rw[← e];simp[fromsF],fun a ha=>?_⟩
  rw[hasI_iff,← e]
  exact hperm.mem_iff.2 (List.mem_map.2 ⟨a,ha,rfl⟩)
 ·rintro⟨h1,h2⟩
  have hs:(sortI (fromsF p)).Pairwise (·≤·):=by
   have:=List.pairwise_mergeSort (le:=fun x y:Int=>decide (x≤y)) (fun a b c h1 h2=>by simp at *;omega) (fun a b=>by simp;omega) (fromsF p)
   exact this.imp (fun h=>by simpa using h)
  have hn:(sortI (fromsF p)).Pairwise (·≠·):=hperm.symm.pairwise (froms_apart h) (fun h=>Ne.symm h)
  refine asc_eq _ _ ?_ (preds_asc bs b) ?_ ?_
  ·have:=hs.and hn
   exact this.imp (fun h=>by omega)
  ·intro x hx
   obtain⟨a,ha,rfl⟩:=List.mem_map.1 (hperm.mem_iff.1 hx)
   exact hasI_iff.1 (h2 a ha)
  ·rw[sortI_len];simp[fromsF,h1]

set_option maxRecDepth 100000 in
theorem implArms {H:Hp} {v:CV} {f:FnR} (hv:Blocks H v f.blocks) (hsh:shapeB f=true) (k:IV×Hp→Prop) :
  CM 58 [.agg [v,.i f.values]] H k=k (.c (.b (pB (¬ ArmsRight f.blocks))),H):=by
 refine det (cw58 ?_) k
 unfold vf58c
 obtain⟨s1,s2,s3,s4⟩:=shape_len hsh
 obtain⟨X,hX⟩:∃ X,H++[(⟨[v,.i f.values],0,true,2⟩:Ob)]=X:=⟨_,rfl⟩
 have hp:Pre H X:=⟨_,hX.symm⟩
 have hB:rdOb X H.length 0=some ⟨[v,.i f.values],0,true,2⟩:=by rw[← hX];simp
 have hl:=hv.lenOf
 have hbb:f.blocks.length≤BIG:=by simp only[BIG];omega
 simp[hX,rdC_ob hB,hl]
 obtain⟨I,hI⟩:∃ I:Nat→St→Prop,∀ i st,I i st↔((∀ j (hj:j<f.blocks.length),j<i→∀ p∈f.blocks[j].phis,sortI (fromsF p)=predsF f.blocks j)∧Pre X st.h ∧
   Env.get st.e 1=.c (.p H.length 0 0)∧Env.get st.e 12=.c v∧Env.get st.e 13=.c (.i f.blocks.length)∧Env.get st.e 14=.c (.i i)):=⟨_,fun _ _=>Iff.rfl⟩
 refine wp_for CM_mono f.blocks.length I ((hI _ _).2 ⟨by simp,Pre.refl _,by simp⟩) ?_ ?_
 ·rintro i ⟨e,Y⟩ hi hIs
  obtain⟨hdone,hY,e1,e12,e13,e14⟩:=(hI _ _).1 hIs
  simp only at hY e1 e12 e13 e14 ⊢
  have hmem:f.blocks[i]∈f.blocks:=List.getElem_mem hi
  have hlens:=shape_lens hsh hmem
  obtain⟨i0,g0,off0,w,u,q1,_,q2,qp,ql,qpl,qll,_,_⟩:=Blocks.get hv hi
  have hHY:=hp.trans hY
  obtain⟨GY,hGY⟩:=id hHY
  have q2':=q2 GY
  rw[← hGY]at q2'
  obtain⟨t,ht⟩:∃ t,f.blocks[i].term=t:=⟨_,rfl⟩
  rw[ht]at q2'
  obtain⟨Y1,hY1⟩:∃ Y1,Y++[(⟨[w,u,.i t.kind,.i t.a,.i t.to,.i t.els],0,true,6⟩:Ob)]=Y1:=⟨_,rfl⟩
  have hpY1:Pre X Y1:=by rw[← hY1];exact hY.app _
  have h5:rdOb Y1 Y.length 0=some ⟨[w,u,.i t.kind,.i t.a,.i t.to,.i t.els],0,true,6⟩:=by rw[← hY1];simp
  have hBY:=hpY1.rdOb hB
  have hvY:=Blocks.pre (hp.trans hpY1) hv
  obtain⟨pw,L,hpw,hcall⟩:=implPreds (m:=f.values) (b:=(i:Int)) hvY hbb
  obtain⟨Y2,hY2⟩:∃ Y2,Y1++L=Y2:=⟨_,rfl⟩
  have hpwI:=hpw.isI
  have hpY2:Pre Y1 Y2:=⟨_,hY2.symm⟩
  rw[hY2]at hpwI
  have h52:=hpY2.rdOb h5
  have hpl:=qp.lenOf
  unfold vf58b2
  simp[e1,e12,e13,e14,hi,q1,q2'.2.2.2.2.2.2.2.2.2.2,put66c,hY1,rdN_ob hBY,hcall,hY2,rdC_ob h52,hpl]
  obtain⟨J,hJ⟩:∃ J:Nat→St→Prop,∀ j st,J j st↔((∀ p∈f.blocks[i].phis.take j,sortI (fromsF p)=predsF f.blocks i)∧Pre Y2 st.h ∧
    Env.get st.e 1=.c (.p H.length 0 0)∧Env.get st.e 12=.c v∧Env.get st.e 13=.c (.i f.blocks.length)∧Env.get st.e 14=.c (.i i)∧Env.get st.e 5=.c pw∧Env.get st.e 23=.c w∧Env.get st.e 24=.c (.i f.blocks[i].phis.length)∧Env.get st.e 25=.c (.i j)):=⟨_,fun _ _=>Iff.rfl⟩
  refine wp_for CM_mono f.blocks[i].phis.length J ((hJ _ _).2 ⟨by simp,Pre.refl _,by simp[e1,e12,e13,e14]⟩) ?_ ?_
  ·rintro j ⟨e',Z⟩ hj hJs
   obtain⟨hdj,hZ,e1,e12,e13,e14,e5,e23,e24,e25⟩:=(hJ _ _).1 hJs
   simp only at hZ e1 e12 e13 e14 e5 e23 e24 e25 ⊢
   obtain⟨id2,g2,off2,w2,r1,_,r2,qa,_⟩:=Phis.get qp hj
   have hHZ:=(hHY.trans (hY1▸⟨_,rfl⟩:Pre Y Y1)).trans (hpY2.trans hZ)
   obtain⟨GZ,hGZ⟩:=id hHZ
   have r2':=r2 GZ
   rw[← hGZ]at r2'
   obtain⟨ph,hph⟩:∃ ph,f.blocks[i].phis[j]=ph:=⟨_,rfl⟩
   have hphB:=shape_phi hsh hmem (List.getElem_mem hj)
   rw[hph]at r2' hphB qa
   obtain⟨_,hal,_⟩:=phi_vals hphB
   obtain⟨Z1,hZ1⟩:∃ Z1,Z++[(⟨[.i ph.d,w2],0,true,2⟩:Ob)]=Z1:=⟨_,rfl⟩
   have h7:rdOb Z1 Z.length 0=some ⟨[.i ph.d,w2],0,true,2⟩:=by rw[← hZ1];simp
   obtain⟨Z2,hZ2⟩:∃ Z2,Z1++[(⟨[],0,true,1⟩:Ob)]=Z2:=⟨_,rfl⟩
   have hpZ1:Pre Z Z1:=⟨_,hZ1.symm⟩
   have hpZ2:Pre Z1 Z2:=⟨_,hZ2.symm⟩
   have h72:=hpZ2.rdOb h7
   have hlZ2:Z2.length=Z1.length+1:=by rw[← hZ2];simp
   have h8:rdOb Z2 Z1.length 0=some ⟨[],0,true,1⟩:=by rw[← hZ2];simp
   have hall:=qa.lenOf
   have hfl:(fromsF ph).length=ph.arms.length:=by simp[fromsF]
   unfold vf58b1
   simp[e1,e12,e13,e14,e5,e23,e24,e25,hj,r1,r2'.2.2,putD0,hZ1,hZ2,rdC_ob h72,hall]
   obtain⟨K,hK⟩:∃ K:Nat→St→Prop,∀ k st,K k st↔(Pre Z1 st.h∧(∃ g,rdOb st.h Z1.length g=some ⟨((fromsF ph).take k).map .i,g,true,1⟩∧Env.get st.e 8=.c (.sl Z1.length g 0 k)) ∧
     Env.get st.e 1=.c (.p H.length 0 0)∧Env.get st.e 12=.c v∧Env.get st.e 13=.c (.i f.blocks.length)∧Env.get st.e 14=.c (.i i)∧Env.get st.e 5=.c pw∧Env.get st.e 23=.c w∧Env.get st.e 24=.c (.i f.blocks[i].phis.length)∧Env.get st.e 25=.c (.i j) ∧
     Env.get st.e 31=.c w2∧Env.get st.e 32=.c (.i ph.arms.length)∧Env.get st.e 33=.c (.i k)):=⟨_,fun _ _=>Iff.rfl⟩
   refine wp_for CM_mono ph.arms.length K ((hK _ _).2 ⟨hpZ2,⟨0,by simpa using h8,by simp⟩,by simp[e1,e12,e13,e14,e5,e23,e24,e25]⟩) ?_ ?_
   ·rintro k ⟨e2,W⟩ hk hKs
    obtain⟨hW,⟨g,ho,e8⟩,e1,e12,e13,e14,e5,e23,e24,e25,e31,e32,e33⟩:=(hK _ _).1 hKs
    simp only at hW ho e8 e1 e12 e13 e14 e5 e23 e24 e25 e31 e32 e33 ⊢
    obtain⟨id3,g3,off3,m1,⟨m2,m3,m4⟩,m5,m6,m7⟩:=Arms.get (qa.pre ((hHZ.trans hpZ1).trans hW)) hk
    have hfk:(fromsF ph).take (k+1)=(fromsF ph).take k++[ph.arms[k].fr]:=by
     rw[List.take_succ_eq_append_getElem (by omega)];simp[fromsF]
    have hlt:=rdOb_lt ho
    have hkl:((fromsF ph).take k).length=k:=by rw[List.length_take];omega
    obtain⟨W1,hW1⟩:∃ W1,W++[(⟨[.i ph.arms[k].fr,.i ph.arms[k].v],0,true,2⟩:Ob)]=W1:=⟨_,rfl⟩
    have hpW1:Pre W W1:=⟨_,hW1.symm⟩
    have h10:rdOb W1 W.length 0=some ⟨[.i ph.arms[k].fr,.i ph.arms[k].v],0,true,2⟩:=by rw[← hW1];simp
    have ho1:=hpW1.rdOb ho
    unfold vf58b0
    simp[e8,e1,e12,e13,e14,e5,e23,e24,e25,e31,e32,e33,hk,m1,m4,putD0,hW1,rdC_ob h10,srcOf,putL0]
    rw[app_own (cs:=((fromsF ph).take k).map .i) (rdOb_app _ ho1) (by simp;omega) (by simp) (by simp;simp only[LIM];omega)]
    simp[e8,e1,e12,e13,e14,e5,e23,e24,e25,e31,e32,e33,up1 hk (show ph.arms.length≤BIG by simp only[BIG];omega)]
    refine (hK _ _).2 ⟨((hW.trans hpW1).app _).set (by simp) _,⟨g+1,?_,by simp⟩,by simp[e1,e12,e13,e14,e5,e23,e24,e25,e31,e32]⟩
    have:=hpW1.le
    rw[rdOb_set_self (by simp;omega)]
    simp[hfk]
   ·rintro⟨e2,W⟩ hKs
    obtain⟨hW,⟨g,ho,e8⟩,e1,e12,e13,e14,e5,e23,e24,e25,e31,e32,e33⟩:=(hK _ _).1 hKs
    simp only at hW ho e8 e1 e12 e13 e14 e5 e23 e24 e25 e31 e32 e33 ⊢
    rw[← hfl,List.take_length]at ho
    rw[← hfl]at e8
    have hlt:=rdOb_lt ho
    have hpS:Pre Z1 (W.set Z1.length ⟨(sortI (fromsF ph)).map .i,g,true,1⟩):=hW.set (by omega) _
    have hI1:IsI (W.set Z1.length ⟨(sortI (fromsF ph)).map .i,g,true,1⟩) (.sl Z1.length g 0 (sortI (fromsF ph)).length) (sortI (fromsF ph)):=
     IsI.mk (o:=⟨(sortI (fromsF ph)).map .i,g,true,1⟩) (by rw[rdOb_set_self hlt];simp) rfl (by simp) (by rw[List.drop_zero,List.take_of_length_le (by simp)])
    rw[sortI_len]at hI1
    have hI2:=IsI.pre ((hZ.trans hpZ1).trans hpS) hpwI
    have hbl:(sortI (fromsF ph)).length≤BIG:=by rw[sortI_len,hfl];simp only[BIG];omega
    unfold vf58b0
    by_cases hs:sortI (fromsF ph)=predsF f.blocks i
    ·simp[e8,e1,e12,e13,e14,e5,e23,e24,e25,e31,e32,e33,sort_call ho (by rw[hfl];simp only[LIM];omega),equalInt hI1 hI2 hbl,decide_eq_true hs,up1 hj qpl]
     refine (hJ _ _).2 ⟨?_,(hZ.trans hpZ1).trans hpS,by simp[e1,e12,e13,e14,e5,e23,e24]⟩
     intro p hp'
     rw[List.take_succ_eq_append_getElem hj]at hp'
     rcases List.mem_append.1 hp' with h | h
     ·exact hdj p h
     ·simp at h;rw[h,hph];exact hs
    ·have hno:¬ ArmsRight f.blocks:=fun hc=>hs (hc i hi ph (hph▸List.getElem_mem hj))
     simp[e8,e1,e12,e13,e14,e5,e23,e24,e25,e31,e32,e33,sort_call ho (by rw[hfl];simp only[LIM];omega),equalInt hI1 hI2 hbl,hs]
     rw[gcRet_flat ((hHZ.trans hpZ1).trans hpS) rfl,pB_true hno]
  ·rintro⟨e',Z⟩ hJs
   obtain⟨hdj,hZ,e1,e12,e13,e14,e5,e23,e24,e25⟩:=(hJ _ _).1 hJs
   simp only at hZ e1 e12 e13 e14 e5 e23 e24 e25 ⊢
   rw[List.take_length]at hdj
   unfold vf58b1
   simp[e1,e12,e13,e14,e5,e23,e24,e25,up1 hi hbb]
   refine (hI _ _).2 ⟨?_,hpY1.trans (hpY2.trans hZ),by simp[e1,e12,e13]⟩
   intro j hj hji
   by_cases ej:j=i
   ·subst ej;exact hdj
   ·exact hdone j hj (by omega)
 ·rintro⟨e,Y⟩ hIs
  obtain⟨hdone,hY,e1,e12,e13,e14⟩:=(hI _ _).1 hIs
  simp only at hY e1 e12 e13 e14 ⊢
  have hyes:¬ ¬ ArmsRight f.blocks:=fun hc=>hc fun j hj=>hdone j hj hj
  unfold vf58b2
  simp[e1,e12,e13,e14]
  rw[gcRet_flat (hp.trans hY) rfl,pB_false hyes]
set_option maxRecDepth 100000 in
theorem specArms {H:Hp} {v:CV} {f:FnR} (hv:Blocks H v f.blocks) (hsh:shapeB f=true) (k:IV×Hp→Prop) :
  CM 90 [.agg [v,.i f.values]] H k=k (.c (.b (pB (ArmsRight f.blocks))),H):=by
 refine det (cw90 ?_) k
 unfold vf90c
 obtain⟨s1,s2,s3,s4⟩:=shape_len hsh
 obtain⟨X,hX⟩:∃ X,H++[(⟨[v,.i f.values],0,true,2⟩:Ob)]=X:=⟨_,rfl⟩
 have hp:Pre H X:=⟨_,hX.symm⟩
 have hB:rdOb X H.length 0=some ⟨[v,.i f.values],0,true,2⟩:=by rw[← hX];simp
 have hvX:=Blocks.pre hp hv
 have hl:=hvX.lenOf
 have hbb:f.blocks.length≤BIG:=by simp only[BIG];omega
 simp[hX]
 obtain⟨I,hI⟩:∃ I:Nat→St→Prop,∀ i st,I i st↔((∀ j (hj:j<f.blocks.length),j<i→∀ p∈f.blocks[j].phis,sortI (fromsF p)=predsF f.blocks j)∧Pre X st.h ∧
   Env.get st.e 1=.c (.p H.length 0 0)∧Env.get st.e 3=.c (.i i)):=⟨_,fun _ _=>Iff.rfl⟩
 refine wp_for CM_mono f.blocks.length I ((hI _ _).2 ⟨by simp,Pre.refl _,by simp⟩) ?_ ?_
 ·rintro i ⟨e,Y⟩ hi hIs
  obtain⟨hdone,hY,e1,e3⟩:=(hI _ _).1 hIs
  simp only at hY e1 e3 ⊢
  have hmem:f.blocks[i]∈f.blocks:=List.getElem_mem hi
  have hlens:=shape_lens hsh hmem
  have hBY:=hY.rdOb hB
  have hvY:=hvX.pre hY
  obtain⟨pw,L,hpw,hcall⟩:=specPreds (m:=f.values) (b:=(i:Int)) hvY hbb
  obtain⟨Y2,hY2⟩:∃ Y2,Y++L=Y2:=⟨_,rfl⟩
  have hpwI:=hpw.isI
  have hpY2:Pre Y Y2:=⟨_,hY2.symm⟩
  rw[hY2]at hpwI
  have hB2:=hpY2.rdOb hBY
  have hplen:=hpwI.lenOf
  have hpb:(predsF f.blocks i).length≤BIG:=by have:=predsTo_le f.blocks i f.blocks.length;unfold predsF;omega
  unfold vf90b2
  simp[e1,e3,hi,rdC_ob hBY,rdN_ob hBY,hl,hcall,hY2]
  obtain⟨J,hJ⟩:∃ J:Nat→St→Prop,∀ j st,J j st↔((∀ p∈f.blocks[i].phis.take j,sortI (fromsF p)=predsF f.blocks i)∧st.h=Y2 ∧
    Env.get st.e 1=.c (.p H.length 0 0)∧Env.get st.e 3=.c (.i i)∧Env.get st.e 4=.c pw∧Env.get st.e 5=.c (.i j)):=⟨_,fun _ _=>Iff.rfl⟩
  have hv2:=hvY.pre hpY2
  obtain⟨i0,g0,off0,w,u,q1,q2,_,qp,_,qpl,_,_,_⟩:=Blocks.get hv2 hi
  have hpl:=qp.lenOf
  refine wp_for CM_mono f.blocks[i].phis.length J ((hJ _ _).2 ⟨by simp,rfl,by simp[e1,e3]⟩) ?_ ?_
  ·rintro j ⟨e',Z⟩ hj hJs
   obtain⟨hdj,hZ,e1,e3,e4,e5⟩:=(hJ _ _).1 hJs
   simp only at hZ e1 e3 e4 e5 ⊢
   subst hZ
   obtain⟨id2,g2,off2,w2,r1,r2,_,qa,_⟩:=Phis.get qp hj
   obtain⟨ph,hph⟩:∃ ph,f.blocks[i].phis[j]=ph:=⟨_,rfl⟩
   have hphB:=shape_phi hsh hmem (List.getElem_mem hj)
   rw[hph]at r2 hphB qa
   obtain⟨_,hal,_⟩:=phi_vals hphB
   have hiff:=arms_iff (bs:=f.blocks) (b:=i) hphB
   have hall:=qa.lenOf
   have hbad:¬ sortI (fromsF ph)=predsF f.blocks i→pB (ArmsRight f.blocks)=false:=fun h=>pB_false fun hc=>h (hc i hi ph (hph▸List.getElem_mem hj))
   unfold vf90b1
   by_cases hlen:ph.arms.length=(predsF f.blocks i).length
   ·have hlen':(ph.arms.length:Int)=((predsF f.blocks i).length:Int):=by omega
    simp[e1,e3,e4,e5,rdC_ob hB2,q1,q2.1,hpl,hj,r1,r2.2,hall,hplen,hlen']
    obtain⟨K,hK⟩:∃ K:Nat→St→Prop,∀ k st,K k st↔((∀ a∈ph.arms.take k,hasI (predsF f.blocks i) a.fr=true)∧st.h=Z ∧
      Env.get st.e 1=.c (.p H.length 0 0)∧Env.get st.e 3=.c (.i i)∧Env.get st.e 4=.c pw∧Env.get st.e 5=.c (.i j)∧Env.get st.e 6=.c w2∧Env.get st.e 7=.c (.i k)):=⟨_,fun _ _=>Iff.rfl⟩
    refine wp_for CM_mono ph.arms.length K ((hK _ _).2 ⟨by simp,rfl,by simp[e1,e3,e4,e5]⟩) ?_ ?_
    ·rintro k ⟨e2,W⟩ hk hKs
     obtain⟨hdk,hW,e1,e3,e4,e5,e6,e7⟩:=(hK _ _).1 hKs
     simp only at hW e1 e3 e4 e5 e6 e7 ⊢
     subst hW
     obtain⟨id3,g3,off3,m1,⟨m2,m3,m4⟩,m5,m6,m7⟩:=Arms.get qa hk
     unfold vf90b0
     cases hh:hasI (predsF f.blocks i) ph.arms[k].fr with
     | true =>
      simp[e1,e3,e4,e5,e6,e7,hall,hk,m1,m2,l3Has_call hpwI hpb,hh,up1 hk (show ph.arms.length≤BIG by simp only[BIG];omega)]
      refine (hK _ _).2 ⟨?_,rfl,by simp[e1,e3,e4,e5,e6]⟩
      intro a ha
      rw[List.take_succ_eq_append_getElem hk]at ha
      rcases List.mem_append.1 ha with h | h
      ·exact hdk a h
      ·simp at h;rw[h];exact hh
     | false =>
      have hbd:=hbad fun hc=>by
       have:=(hiff.1 hc).2 _ (List.getElem_mem hk)
       rw[hh]at this;cases this
      simp[e1,e3,e4,e5,e6,e7,hall,hk,m1,m2,l3Has_call hpwI hpb,hh]
      rw[gcRet_flat ((hp.trans hY).trans hpY2) rfl,hbd]
    ·rintro⟨e2,W⟩ hKs
     obtain⟨hdk,hW,e1,e3,e4,e5,e6,e7⟩:=(hK _ _).1 hKs
     simp only at hW e1 e3 e4 e5 e6 e7 ⊢
     subst hW
     rw[List.take_length]at hdk
     unfold vf90b0
     simp[e1,e3,e4,e5,e6,e7,hall,up1 hj qpl]
     refine (hJ _ _).2 ⟨?_,rfl,by simp[e1,e3,e4]⟩
     intro p hp'
     rw[List.take_succ_eq_append_getElem hj]at hp'
     rcases List.mem_append.1 hp' with h | h
     ·exact hdj p h
     ·simp at h;rw[h,hph];exact hiff.2 ⟨hlen,hdk⟩
   ·have hbd:=hbad fun hc=>hlen (hiff.1 hc).1
    have hlen':¬ (ph.arms.length:Int)=((predsF f.blocks i).length:Int):=by omega
    simp[e1,e3,e4,e5,rdC_ob hB2,q1,q2.1,hpl,hj,r1,r2.2,hall,hplen,hlen']
    rw[gcRet_flat ((hp.trans hY).trans hpY2) rfl,hbd]
  ·rintro⟨e',Z⟩ hJs
   obtain⟨hdj,hZ,e1,e3,e4,e5⟩:=(hJ _ _).1 hJs
   simp only at hZ e1 e3 e4 e5 ⊢
   subst hZ
   rw[List.take_length]at hdj
   unfold vf90b1
   simp[e1,e3,e4,e5,rdC_ob hB2,q1,q2.1,hpl,up1 hi hbb]
   refine (hI _ _).2 ⟨?_,hY.trans hpY2,by simp[e1]⟩
   intro j hj hji
   by_cases ej:j=i
   ·subst ej;exact hdj
   ·exact hdone j hj (by omega)
 ·rintro⟨e,Y⟩ hIs
  obtain⟨hdone,hY,e1,e3⟩:=(hI _ _).1 hIs
  simp only at hY e1 e3 ⊢
  have hyes:ArmsRight f.blocks:=fun j hj=>hdone j hj hj
  unfold vf90b2
  simp[e1,e3,rdC_ob (hY.rdOb hB),hl]
  rw[gcRet_flat (hp.trans hY) rfl,pB_true hyes]
def FnOut (H:Hp) (r:IV×Hp):Prop:=∃ X v m bs,r=(.agg [v,.i m],X)∧flatC v=false∧Pre H X∧Blocks X v bs∧bs.length≤BIG∧0<bs.length

theorem putD0' (a b x y:CV):putAt [a,b] 0 [x,y]=[x,y]:=by simp[putAt]

theorem defGo_spec (v:Int):∀ (bs:List BlkR) (j:Nat),((defGo v bs j).2=-2∧(defGo v bs j).1=-1)∨∃ i,∃ hi:i<bs.length,(defGo v bs j).1=((j+i:Nat):Int) ∧
  (((defGo v bs j).2=-1∧bs[i].phis.any (fun p=>decide (p.d=v))=true)∨∃ n,∃ hn:n<bs[i].list.length,(defGo v bs j).2=(n:Int)∧madeAt v bs[i].list[n]=true):=by
 intro bs
 induction bs with
 | nil=>intro j;exact .inl ⟨rfl,rfl⟩
 | cons b r ih =>
  intro j
  cases hd:defBlk b v with
  | none =>
   have e:defGo v (b :: r) j=defGo v r (j+1):=by simp[defGo,hd]
   rw[e]
   rcases ih (j+1) with h | ⟨i,hi,h1,h2⟩
   ·exact .inl h
   ·exact .inr ⟨i+1,by simpa using hi,by rw[h1];congr 1;omega,h2⟩
  | some p =>
   have e:defGo v (b :: r) j=((j:Int),p):=by simp[defGo,hd]
   rw[e]
   refine .inr ⟨0,by simp,by simp,?_⟩
   unfold defBlk at hd
   split at hd
   ·rename_i hp
    injection hd with hd
    exact .inl ⟨hd.symm,hp⟩
   ·split at hd
    ·rename_i h0
     injection hd with hd
     right
     have:∃ n,∃ hn:n<b.list.length,findI (madeAt v) b.list=(n:Int)∧madeAt v b.list[n]=true:=by
      have hany:=findI_nonneg.1 h0
      unfold findI at h0 ⊢
      cases hf:b.list.findIdx? (madeAt v) with
      | none=>rw[hf]at h0;simp at h0
      | some n =>
       rw[List.findIdx?_eq_some_iff_getElem]at hf
       obtain⟨h1,h2,_⟩:=hf
       exact⟨n,h1,rfl,h2⟩
     obtain⟨n,hn,h1,h2⟩:=this
     exact⟨n,hn,by rw[← hd];exact h1,h2⟩
    ·cases hd
def DomsOwn (H:Hp) (bs:List BlkR) (r:IV×Hp):Prop:=∃ d X',r=(.c (.sl d 0 0 bs.length),X')∧Pre H X'∧DInv (fun id=>id<H.length) d bs.length (domF bs) X'

theorem DInv.own {K:Nat→Prop} {H Y:Hp} {d:Nat} {bs:List BlkR} (h:DInv K d bs.length (domF bs) Y) (hp:Pre H Y) (hd:H.length≤d) (hk:∀ id,id<H.length→K id):DomsOwn H bs (gcRet H (.c (.sl d 0 0 bs.length)) Y):=by
 have hw:=h.weak hk
 obtain⟨_,cells,h2,h3,h4⟩:=h
 by_cases hf:cells.all flatC=true
 ·rw[gcRet_row hp hd h2 rfl hf]
  refine⟨H.length,_,rfl,⟨_,rfl⟩,fun id hi=>⟨by omega,by simp;omega⟩,cells,by simp,h3,fun b hb=>?_⟩
  obtain⟨c,a1,a2,_,_⟩:=h4 b hb
  rcases a2 with⟨rfl,e⟩ | ⟨o,g,rfl,_⟩
  ·refine⟨.ns,a1,.inl ⟨rfl,e⟩,(fun id ⟨_,_,h⟩=>by cases h),fun b' c' _ _ _ id ⟨_,_,h⟩=>by cases h⟩
  ·have:=List.all_eq_true.1 hf _ (List.mem_of_getElem? a1)
   cases this
 ·have e:gcRet H (.c (.sl d 0 0 bs.length)) Y=(.c (.sl d 0 0 bs.length),Y):=by
   unfold gcRet
   rw[if_pos hp.take,if_neg (by simp[flatV,flatC])]
   simp only[hd,if_true,(rdOb_some.1 h2).1]
   rw[if_neg (by simp[hf])]
  rw[e]
  exact⟨d,Y,rfl,hp,hw⟩

def RowsI (X:Hp) (v:CV) (n:Nat) (f:Nat→List Int):Prop:=lenOf v=some n∧∀ b,b<n→∃ id g off c,idxOf 1 v (b:Int)=some (.p id g off)∧rdC X id g off=some c∧IsI X c (f b)

theorem Pre.rdC {X Y:Hp} (hp:Pre X Y) {id g off:Nat} {c:CV} (h:Vm.rdC X id g off=some c):Vm.rdC Y id g off=some c:=by
 unfold Vm.rdC at h ⊢
 cases ho:Vm.rdOb X id g with
 | none=>simp[ho]at h
 | some o=>rw[hp.rdOb ho];rw[ho]at h;exact h

theorem RowsI.pre {X Y:Hp} {v:CV} {n:Nat} {f:Nat→List Int} (h:RowsI X v n f) (hp:Pre X Y):RowsI Y v n f:=by
 refine⟨h.1,fun b hb=>?_⟩
 obtain⟨id,g,off,c,h1,h2,h3⟩:=h.2 b hb
 exact⟨id,g,off,c,h1,Pre.rdC hp h2,h3.pre hp⟩

theorem RowsI.mk {X:Hp} {d n:Nat} {cells:List CV} {f:Nat→List Int} (h:rdOb X d 0=some ⟨cells,0,true,1⟩) (hl:cells.length=n) (hr:∀ b,b<n→∃ c,cells[b]? = some c∧IsI X c (f b)):RowsI X (.sl d 0 0 n) n f:=by
 refine⟨rfl,fun b hb=>?_⟩
 obtain⟨c,h1,h2⟩:=hr b hb
 exact⟨d,0,b,c,by simp[idxOf,hb],by rw[rdC_ob h];exact h1,h2⟩

def sumTo (f:Nat→List Int):Nat→Nat
 | 0=>0
 | n+1=>sumTo f n+(f n).length

def mks (f:Nat→List Int) (b:Nat):List Int:=ups (1+(sumTo f b:Int)) (f b).length
def OwnRows (lo:Nat) (w:CV) (n:Nat) (g:Nat→List Int) (X:Hp):Prop:=(w=.ns∧n=0)∨∃ d,w=.sl d 0 0 n∧DInv (fun id=>id<lo) d n g X

theorem DInv.keepHi {lo d n:Nat} {f:Nat→List Int} {Y Z:Hp} (h:DInv (fun id=>id<lo) d n f Y) (hl:Y.length≤Z.length) (hk:∀ id g o,lo≤id→rdOb Y id g=some o→rdOb Z id g=some o):DInv (fun id=>id<lo) d n f Z:=by
 obtain⟨h1,cells,h2,h3,h4⟩:=h
 have hd:lo≤d:=by
  by_cases hlt:d<lo
  ·exact absurd rfl (h1 d hlt).1
  ·omega
 refine⟨fun id hi=>⟨(h1 id hi).1,by have:=(h1 id hi).2;omega⟩,cells,hk _ _ _ hd h2,h3,fun b hb=>?_⟩
 obtain⟨c,a1,a2,a3,a4⟩:=h4 b hb
 exact⟨c,a1,a2.keep fun id g o hi ho=>hk _ _ _ (by have:=(a3 id hi).1;omega) ho,a3,a4⟩

theorem OwnRows.keep {lo:Nat} {w:CV} {n:Nat} {g:Nat→List Int} {Y Z:Hp} (h:OwnRows lo w n g Y) (hl:Y.length≤Z.length) (hk:∀ id g o,lo≤id→rdOb Y id g=some o→rdOb Z id g=some o):OwnRows lo w n g Z:=by
 rcases h with h | ⟨d,rfl,h⟩
 ·exact .inl h
 ·exact .inr ⟨d,rfl,h.keepHi hl hk⟩
theorem within_call {H:Hp} {v:CV} {xs:List Int} {x:Int} (hv:IsI H v xs) (hb:xs.length≤BIG) (k:IV×Hp→Prop) :
  CM 28 [.c v,.c (.i x)] H k=k (.c (.b (hasI xs x)),H):=by
 refine det (cw28 ?_) k
 unfold vf28c
 simp
 refine wp_for CM_mono xs.length (fun i s=>(∀ j (hj:j<i) (hx:j<xs.length),¬ x=xs[j])∧s.h=H∧Env.get s.e 0=.c v∧Env.get s.e 1=.c (.i x)∧Env.get s.e 5=.c (.i i)) (by simp) ?_ ?_
 ·rintro i ⟨e,X⟩ hi ⟨ht,rfl,h0,h1,h5⟩
  simp only at h0 h1 h5 hv ⊢
  obtain⟨id,g,off,q1,q2⟩:=hv.at_ hi
  unfold vf28b0
  by_cases hpx:x=xs[i]
  ·have:hasI xs x=true:=hasI_iff.2 (by rw[hpx];exact List.getElem_mem hi)
   simp[h0,h1,h5,q1,q2,hi,hv.lenOf,hpx.symm,this]
  ·have hpx':¬ xs[i]=x:=fun h=>hpx h.symm
   simp[h0,h1,h5,q1,q2,hi,hv.lenOf,up1 hi hb,hpx']
   intro j hj hx
   by_cases e:j=i
   ·subst e;exact hpx
   ·exact ht j (by omega) hx
 ·rintro⟨e,X⟩ ⟨ht,rfl,h0,h1,h5⟩
  simp only at h0 h1 h5 hv ⊢
  unfold vf28b0
  have:hasI xs x=false:=by
   cases hc:hasI xs x with
   | false=>rfl
   | true =>
    obtain⟨j,hj,he⟩:=List.getElem_of_mem (hasI_iff.1 hc)
    exact (ht j hj hj he.symm).elim
  simp[h0,h1,h5,hv.lenOf,this]


theorem hasI_dom {bs:List BlkR} (hin:InRange bs) {a b:Nat} (ha:a<bs.length) (hb:b<bs.length):hasI (domF bs b) a=true↔Dom bs a b:=by
 rw[hasI_iff,← domB_iff hin ha hb]
 exact⟨domB_of_mem,mem_domF ha⟩
structure DomsIn (X:Hp) (d:Nat) (bs:List BlkR):Prop where
 ob:∃ cells,rdOb X d 0=some ⟨cells,0,true,1⟩∧cells.length=bs.length∧∀ b,b<bs.length→∃ c,cells[b]? = some c∧IsI X c (domF bs b)

theorem DomsIn.pre {X Y:Hp} (hp:Pre X Y) {d:Nat} {bs:List BlkR} (h:DomsIn X d bs):DomsIn Y d bs:=by
 obtain⟨cells,h1,h2,h3⟩:=h.ob
 refine⟨cells,hp.rdOb h1,h2,fun b hb=>?_⟩
 obtain⟨c,a,b⟩:=h3 b hb
 exact⟨c,a,IsI.pre hp b⟩

theorem among_in {X:Hp} {d:Nat} {bs:List BlkR} (h:DomsIn X d bs) (hb:bs.length≤BIG) (a b:Int) (k:IV×Hp→Prop) :
  CM 160 [.c (.sl d 0 0 bs.length),.c (.i a),.c (.i b)] X k=k (.c (.b (inB b 0 ((bs.length:Int) - 1) && hasI (domF bs b.toNat) a)),X):=by
 obtain⟨cells,h1,h2,h3⟩:=h.ob
 exact among_call h1 h2 h3 hb a b k

theorem at_call {Z:Hp} {v:CV} {f:FnR} {d:Nat} {x i:Int} {b:Nat} (hv:Blocks Z v f.blocks) (hsh:shapeB f=true) (hD:DomsIn Z d f.blocks) (hb:b<f.blocks.length) (k:IV×Hp→Prop) :
  CM 162 [.agg [v,.i f.values,.sl d 0 0 f.blocks.length],.c (.i x),.c (.i b),.c (.i i)] Z k=k (.c (.b (atB f.blocks x b i)),Z):=by
 refine det (cw162 ?_) k
 unfold vf162c
 obtain⟨s1,s2,s3,s4⟩:=shape_len hsh
 have hbb:f.blocks.length≤BIG:=by simp only[BIG];omega
 obtain⟨X,hX⟩:∃ X,Z++[(⟨[v,.i f.values,.sl d 0 0 f.blocks.length],0,true,3⟩:Ob)]=X:=⟨_,rfl⟩
 have hp:Pre Z X:=⟨_,hX.symm⟩
 have hB:rdOb X Z.length 0=some ⟨[v,.i f.values,.sl d 0 0 f.blocks.length],0,true,3⟩:=by rw[← hX];simp
 have hda:defAtF f x=homeF f.blocks x:=by unfold defAtF homeF;rw[if_pos hsh]
 have hib:inB (b:Int) 0 ((f.blocks.length:Int) - 1)=true:=decide_eq_true (by omega)
 obtain⟨h,hh⟩:∃ h,homeF f.blocks x=h:=⟨_,rfl⟩
 obtain⟨h1,h2⟩:=h
 by_cases he:h1=(b:Int)
 ·have:atB f.blocks x b i=decide (h2<i):=by unfold atB;rw[hh];simp[he]
  simp[hX,rdN_ob hB,implDefAt (Blocks.pre hp hv) hbb,hda,hh,he,this]
  rw[gcRet_flat hp rfl]
 ·have:atB f.blocks x b i=hasI (domF f.blocks b) h1:=by unfold atB;rw[hh];simp[he]
  simp[hX,rdN_ob hB,rdC_ob hB,implDefAt (Blocks.pre hp hv) hbb,hda,hh,he,this,among_in (hD.pre hp) hbb,hib]
  rw[gcRet_flat hp rfl]

theorem not_at1 {Z:Hp} {v:CV} {f:FnR} {d lid kid iid:Nat} {x:Int} {b i:Nat} (hv:Blocks Z v f.blocks) (hsh:shapeB f=true) (hD:DomsIn Z d f.blocks) (hb:b<f.blocks.length)
  (h1:rdOb Z lid 0=some ⟨[v,.i f.values,.sl d 0 0 f.blocks.length],0,true,3⟩) (h2:rdOb Z kid 0=some ⟨[.i b],0,true,1⟩) (h3:rdOb Z iid 0=some ⟨[.i i],0,true,1⟩) (k:IV×Hp→Prop) :
  CM 161 [.c (.i x),.c (.p lid 0 0),.c (.p kid 0 0),.c (.p iid 0 0)] Z k=k (.c (.b (!atB f.blocks x b i)),Z):=by
 refine det (cw161 ?_) k
 unfold vf161c
 simp[rdN_ob h1,rdC_ob h2,rdC_ob h3,at_call hv hsh hD hb]

theorem not_at2 {Z:Hp} {v:CV} {f:FnR} {d lid kid xid n:Nat} {x:Int} {b:Nat} {w u a1 a2 a3 a4:CV} (hv:Blocks Z v f.blocks) (hsh:shapeB f=true) (hD:DomsIn Z d f.blocks) (hb:b<f.blocks.length) (hu:lenOf u=some n)
  (h1:rdOb Z lid 0=some ⟨[v,.i f.values,.sl d 0 0 f.blocks.length],0,true,3⟩) (h2:rdOb Z kid 0=some ⟨[.i b],0,true,1⟩) (h3:rdOb Z xid 0=some ⟨[w,u,a1,a2,a3,a4],0,true,6⟩) (k:IV×Hp→Prop) :
  CM 163 [.c (.i x),.c (.p lid 0 0),.c (.p kid 0 0),.c (.p xid 0 0)] Z k=k (.c (.b (!atB f.blocks x b n)),Z):=by
 refine det (cw163 ?_) k
 unfold vf163c
 simp[rdN_ob h1,rdC_ob h2,rdC_ob h3,hu,at_call hv hsh hD hb]

def PhisOk (bs:List BlkR) (b:BlkR):Prop:=∀ p∈b.phis,∀ a∈p.arms,hasI (domF bs a.fr.toNat) (homeF bs a.v).1=true

def ListOk (bs:List BlkR) (b:BlkR) (j:Nat):Prop:=∀ i (hi:i<b.list.length),(usesF b.list[i]).any (fun x=>!atB bs x j i)=false

def BlkOk (bs:List BlkR) (j:Nat):Prop:=∀ hj:j<bs.length,PhisOk bs bs[j]∧ListOk bs bs[j] j∧(tusesF bs[j].term).any (fun x=>!atB bs x j bs[j].list.length)=false

set_option maxRecDepth 100000 in
theorem blockWell_call {H:Hp} {v:CV} {f:FnR} {d i:Nat} (hv:Blocks H v f.blocks) (hsh:shapeB f=true) (hD:DomsIn H d f.blocks) (hi:i<f.blocks.length) (k:IV×Hp→Prop) :
  CM 122 [.agg [v,.i f.values,.sl d 0 0 f.blocks.length],.c (.i i)] H k=k (.c (.b (pB (BlkOk f.blocks i))),H):=by
 refine det (cw122 ?_) k
 unfold vf122c
 obtain⟨s1,s2,s3,s4⟩:=shape_len hsh
 have hbb:f.blocks.length≤BIG:=by simp only[BIG];omega
 obtain⟨X,hX⟩:∃ X,H++[(⟨[v,.i f.values,.sl d 0 0 f.blocks.length],0,true,3⟩:Ob),⟨[.i i],0,true,1⟩]=X:=⟨_,rfl⟩
 have hp:Pre H X:=⟨_,hX.symm⟩
 have hB:rdOb X H.length 0=some ⟨[v,.i f.values,.sl d 0 0 f.blocks.length],0,true,3⟩:=by rw[← hX];simp
 have hC:rdOb X (H.length+1) 0=some ⟨[.i i],0,true,1⟩:=by rw[← hX];simp
 have hmem:f.blocks[i]∈f.blocks:=List.getElem_mem hi
 have hlens:=shape_lens hsh hmem
 obtain⟨i0,g0,off0,w,u,q1,_,q2,qp,ql,qpl,qll,_,_⟩:=Blocks.get hv hi
 obtain⟨GY,hGY⟩:=id hp
 have q2':=q2 GY
 rw[← hGY]at q2'
 obtain⟨t,ht⟩:∃ t,f.blocks[i].term=t:=⟨_,rfl⟩
 rw[ht]at q2'
 obtain⟨Y,hY⟩:∃ Y,X++[(⟨[w,u,.i t.kind,.i t.a,.i t.to,.i t.els],0,true,6⟩:Ob)]=Y:=⟨_,rfl⟩
 have hpY:Pre X Y:=⟨_,hY.symm⟩
 have h5:rdOb Y X.length 0=some ⟨[w,u,.i t.kind,.i t.a,.i t.to,.i t.els],0,true,6⟩:=by rw[← hY];simp
 have hpl:=qp.lenOf
 have hll:=ql.lenOf
 simp[hX,rdC_ob hB,rdC_ob hC,q1,q2'.2.2.2.2.2.2.2.2.2.2,put66c,hY,rdC_ob h5,hpl]
 obtain⟨I,hI⟩:∃ I:Nat→St→Prop,∀ j st,I j st↔((∀ p∈f.blocks[i].phis.take j,∀ a∈p.arms,hasI (domF f.blocks a.fr.toNat) (homeF f.blocks a.v).1=true)∧Pre Y st.h ∧
   Env.get st.e 2=.c (.p H.length 0 0)∧Env.get st.e 3=.c (.p (H.length+1) 0 0)∧Env.get st.e 5=.c (.p X.length 0 0)∧Env.get st.e 21=.c w∧Env.get st.e 22=.c (.i f.blocks[i].phis.length)∧Env.get st.e 23=.c (.i j)):=⟨_,fun _ _=>Iff.rfl⟩
 refine wp_for CM_mono f.blocks[i].phis.length I ((hI _ _).2 ⟨by simp,Pre.refl _,by simp⟩) ?_ ?_
 ·rintro j ⟨e,Z⟩ hj hIs
  obtain⟨hdj,hZ,e2,e3,e5,e21,e22,e23⟩:=(hI _ _).1 hIs
  simp only at hZ e2 e3 e5 e21 e22 e23 ⊢
  obtain⟨id2,g2,off2,w2,r1,_,r2,qa,_⟩:=Phis.get qp hj
  have hHZ:=(hp.trans hpY).trans hZ
  obtain⟨GZ,hGZ⟩:=id hHZ
  have r2':=r2 GZ
  rw[← hGZ]at r2'
  obtain⟨ph,hph⟩:∃ ph,f.blocks[i].phis[j]=ph:=⟨_,rfl⟩
  have hphB:=shape_phi hsh hmem (List.getElem_mem hj)
  rw[hph]at r2' hphB qa
  obtain⟨_,hal,harm⟩:=phi_vals hphB
  obtain⟨Z1,hZ1⟩:∃ Z1,Z++[(⟨[.i ph.d,w2],0,true,2⟩:Ob)]=Z1:=⟨_,rfl⟩
  have h7:rdOb Z1 Z.length 0=some ⟨[.i ph.d,w2],0,true,2⟩:=by rw[← hZ1];simp
  have hpZ1:Pre Z Z1:=⟨_,hZ1.symm⟩
  have hall:=qa.lenOf
  unfold vf122b1
  simp[e2,e3,e5,e21,e22,e23,hj,r1,r2'.2.2,putD0,hZ1,rdC_ob h7,hall]
  obtain⟨K,hK⟩:∃ K:Nat→St→Prop,∀ k st,K k st↔((∀ a∈ph.arms.take k,hasI (domF f.blocks a.fr.toNat) (homeF f.blocks a.v).1=true)∧Pre Y st.h ∧
    Env.get st.e 2=.c (.p H.length 0 0)∧Env.get st.e 3=.c (.p (H.length+1) 0 0)∧Env.get st.e 5=.c (.p X.length 0 0)∧Env.get st.e 21=.c w∧Env.get st.e 22=.c (.i f.blocks[i].phis.length)∧Env.get st.e 23=.c (.i j) ∧
    Env.get st.e 28=.c w2∧Env.get st.e 29=.c (.i ph.arms.length)∧Env.get st.e 30=.c (.i k)):=⟨_,fun _ _=>Iff.rfl⟩
  refine wp_for CM_mono ph.arms.length K ((hK _ _).2 ⟨by simp,hZ.trans hpZ1,by simp[e2,e3,e5,e21,e22,e23]⟩) ?_ ?_
  ·rintro k ⟨e',W⟩ hk hKs
   obtain⟨hdk,hW,e2,e3,e5,e21,e22,e23,e28,e29,e30⟩:=(hK _ _).1 hKs
   simp only at hW e2 e3 e5 e21 e22 e23 e28 e29 e30 ⊢
   have hHW:=(hp.trans hpY).trans hW
   obtain⟨id3,g3,off3,m1,⟨m2,m3,m4⟩,m5,m6,m7⟩:=Arms.get (qa.pre hHW) hk
   obtain⟨hfr,_⟩:=harm k hk
   obtain⟨a,ha⟩:∃ a,ph.arms[k]=a:=⟨_,rfl⟩
   rw[ha]at m2 m3 m4 hfr
   obtain⟨W1,hW1⟩:∃ W1,W++[(⟨[.i a.fr,.i a.v],0,true,2⟩:Ob)]=W1:=⟨_,rfl⟩
   have hpW1:Pre W W1:=⟨_,hW1.symm⟩
   have h9:rdOb W1 W.length 0=some ⟨[.i a.fr,.i a.v],0,true,2⟩:=by rw[← hW1];simp
   have hpX1:=(hpY.trans hW).trans hpW1
   have hBW:=hpX1.rdOb hB
   have hda:defAtF f a.v=homeF f.blocks a.v:=by unfold defAtF homeF;rw[if_pos hsh]
   have hvW:=Blocks.pre (hp.trans hpX1) hv
   have hDW:=hD.pre (hp.trans hpX1)
   unfold vf122b0
   cases hh:hasI (domF f.blocks a.fr.toNat) (homeF f.blocks a.v).1 with
   | true =>
    simp[e2,e3,e5,e21,e22,e23,e28,e29,e30,hk,m1,m4,putD0,hW1,rdC_ob h9,rdN_ob hBW,rdC_ob hBW,implDefAt hvW hbb,hda,among_in hDW hbb,hfr,hh,up1 hk (show ph.arms.length≤BIG by simp only[BIG];omega)]
    refine (hK _ _).2 ⟨?_,hW.trans hpW1,by simp[e2,e3,e5,e21,e22,e23,e28,e29]⟩
    intro x hx
    rw[List.take_succ_eq_append_getElem hk]at hx
    rcases List.mem_append.1 hx with h | h
    ·exact hdk x h
    ·simp at h;rw[h,ha];exact hh
   | false =>
    have hno:¬ BlkOk f.blocks i:=fun hc=>by
     have:=(hc hi).1 ph (hph▸List.getElem_mem hj) a (ha▸List.getElem_mem hk)
     rw[hh]at this;cases this
    simp[e2,e3,e5,e21,e22,e23,e28,e29,e30,hk,m1,m4,putD0,hW1,rdC_ob h9,rdN_ob hBW,rdC_ob hBW,implDefAt hvW hbb,hda,among_in hDW hbb,hfr,hh]
    rw[gcRet_flat (hp.trans hpX1) rfl,pB_false hno]
  ·rintro⟨e',W⟩ hKs
   obtain⟨hdk,hW,e2,e3,e5,e21,e22,e23,e28,e29,e30⟩:=(hK _ _).1 hKs
   simp only at hW e2 e3 e5 e21 e22 e23 e28 e29 e30 ⊢
   rw[List.take_length]at hdk
   unfold vf122b0
   simp[e2,e3,e5,e21,e22,e23,e28,e29,e30,up1 hj qpl]
   refine (hI _ _).2 ⟨?_,hW,by simp[e2,e3,e5,e21,e22]⟩
   intro p hp'
   rw[List.take_succ_eq_append_getElem hj]at hp'
   rcases List.mem_append.1 hp' with h | h
   ·exact hdj p h
   ·simp at h;rw[h,hph];exact hdk
 ·rintro⟨e,Z⟩ hIs
  obtain⟨hdj,hZ,e2,e3,e5,e21,e22,e23⟩:=(hI _ _).1 hIs
  simp only at hZ e2 e3 e5 e21 e22 e23 ⊢
  rw[List.take_length]at hdj
  have h5Z:=hZ.rdOb h5
  unfold vf122b1
  simp[e2,e3,e5,e21,e22,e23,rdC_ob h5Z,hll]
  obtain⟨J,hJ⟩:∃ J:Nat→St→Prop,∀ j st,J j st↔((∀ k (hk:k<f.blocks[i].list.length),k<j→(usesF f.blocks[i].list[k]).any (fun x=>!atB f.blocks x i k)=false)∧Pre Y st.h ∧
    Env.get st.e 2=.c (.p H.length 0 0)∧Env.get st.e 3=.c (.p (H.length+1) 0 0)∧Env.get st.e 5=.c (.p X.length 0 0)∧Env.get st.e 52=.c u∧Env.get st.e 53=.c (.i f.blocks[i].list.length)∧Env.get st.e 54=.c (.i j)):=⟨_,fun _ _=>Iff.rfl⟩
  refine wp_for CM_mono f.blocks[i].list.length J ((hJ _ _).2 ⟨by simp,hZ,by simp[e2,e3,e5]⟩) ?_ ?_
  ·rintro j ⟨e',W⟩ hj hJs
   obtain⟨hdl,hW,e2,e3,e5,e52,e53,e54⟩:=(hJ _ _).1 hJs
   simp only at hW e2 e3 e5 e52 e53 e54 ⊢
   obtain⟨id2,g2,off2,r1,_,r2,_⟩:=List5.get ql hj
   have hHW:=(hp.trans hpY).trans hW
   obtain⟨GW,hGW⟩:=id hHW
   have r2':=r2 GW
   rw[← hGW]at r2'
   obtain⟨x,hx⟩:∃ x,f.blocks[i].list[j]=x:=⟨_,rfl⟩
   rw[hx]at r2'
   obtain⟨W1,hW1⟩:∃ W1,W++[(⟨[.i j],0,true,1⟩:Ob),⟨[.i x.op,.i x.d,.i x.a,.i x.b,.i x.n],0,true,5⟩]=W1:=⟨_,rfl⟩
   have hpW1:Pre W W1:=⟨_,hW1.symm⟩
   have h12:rdOb W1 W.length 0=some ⟨[.i j],0,true,1⟩:=by rw[← hW1];simp
   have h13:rdOb W1 (W.length+1) 0=some ⟨[.i x.op,.i x.d,.i x.a,.i x.b,.i x.n],0,true,5⟩:=by rw[← hW1];simp
   obtain⟨uw,L,hw,hcall⟩:=implUses W1 x
   obtain⟨W2,hW2⟩:∃ W2,W1++L=W2:=⟨_,rfl⟩
   have hwI:=hw.isI
   have hpW2:Pre W1 W2:=⟨_,hW2.symm⟩
   rw[hW2]at hwI
   have hpX2:=((hpY.trans hW).trans hpW1).trans hpW2
   have hBW:=hpX2.rdOb hB
   have hCW:=hpX2.rdOb hC
   have h12W:=hpW2.rdOb h12
   have hvW:=Blocks.pre (hp.trans hpX2) hv
   have hDW:=hD.pre (hp.trans hpX2)
   have hcf:=fun k=>containsFInt hwI (Nat.le_trans (usesF_le x) (by simp[BIG])) (fid:=161) (caps:=[.p H.length 0 0,.p (H.length+1) 0 0,.p W.length 0 0]) (fun y=>!atB f.blocks y i j)
    (fun y _ k=>not_at1 hvW hsh hDW hi hBW hCW h12W k) k
   unfold vf122b2
   cases hh:(usesF x).any (fun y=>!atB f.blocks y i j) with
   | false =>
    simp[e2,e3,e5,e52,e53,e54,hj,r1,r2'.2.2.2.2.2,put5,putL0,hW1,rdN_ob h13,hcall,hW2,hcf,hh,up1 hj qll]
    refine (hJ _ _).2 ⟨?_,(hW.trans hpW1).trans hpW2,by simp[e2,e3,e5,e52,e53]⟩
    intro k hk hkj
    by_cases ek:k=j
    ·subst ek;rw[hx];exact hh
    ·exact hdl k hk (by omega)
   | true =>
    have hno:¬ BlkOk f.blocks i:=fun hc=>by
     have:=(hc hi).2.1 j hj
     rw[hx,hh]at this;cases this
    simp[e2,e3,e5,e52,e53,e54,hj,r1,r2'.2.2.2.2.2,put5,putL0,hW1,rdN_ob h13,hcall,hW2,hcf,hh]
    rw[gcRet_flat (hp.trans hpX2) rfl,pB_false hno]
  ·rintro⟨e',W⟩ hJs
   obtain⟨hdl,hW,e2,e3,e5,e52,e53,e54⟩:=(hJ _ _).1 hJs
   simp only at hW e2 e3 e5 e52 e53 e54 ⊢
   have h5W:=hW.rdOb h5
   obtain⟨uw,L,hw,hcall⟩:=implTUses W t
   obtain⟨W2,hW2⟩:∃ W2,W++L=W2:=⟨_,rfl⟩
   have hwI:=hw.isI
   have hpW2:Pre W W2:=⟨_,hW2.symm⟩
   rw[hW2]at hwI
   have hpX2:=(hpY.trans hW).trans hpW2
   have hBW:=hpX2.rdOb hB
   have hCW:=hpX2.rdOb hC
   have h5W2:=hpW2.rdOb h5W
   have hvW:=Blocks.pre (hp.trans hpX2) hv
   have hDW:=hD.pre (hp.trans hpX2)
   have hcf:=fun k=>containsFInt hwI (Nat.le_trans (tusesF_le t) (by simp[BIG])) (fid:=163) (caps:=[.p H.length 0 0,.p (H.length+1) 0 0,.p X.length 0 0]) (fun y=>!atB f.blocks y i f.blocks[i].list.length)
    (fun y _ k=>not_at2 hvW hsh hDW hi hll hBW hCW h5W2 k) k
   have hres:pB (BlkOk f.blocks i)=!(tusesF t).any (fun y=>!atB f.blocks y i f.blocks[i].list.length):=by
    cases hh:(tusesF t).any (fun y=>!atB f.blocks y i f.blocks[i].list.length) with
    | false=>rw[pB_true];rfl;exact fun _=>⟨hdj,fun k hk=>hdl k hk hk,by rw[ht];exact hh⟩
    | true =>
     rw[pB_false];rfl
     intro hc
     have:=(hc hi).2.2
     rw[ht,hh]at this;cases this
   unfold vf122b2
   simp[e2,e3,e5,e52,e53,e54,rdN_ob h5W,hcall,hW2,hcf]
   rw[gcRet_flat (hp.trans hpX2) rfl,hres]
def TakenOk (bs:List BlkR):Prop:=∀ j,BlkOk bs j

theorem DomsRes.mk' {Y:Hp} {d:Nat} {bs:List BlkR} {cells:List CV} (h1:rdOb Y d 0=some ⟨cells,0,true,1⟩) (h2:cells.length=bs.length) (h3:∀ b,b<bs.length→∃ c,cells[b]? = some c∧IsI Y c (domF bs b)):DomsIn Y d bs:=⟨cells,h1,h2,h3⟩

theorem putB3 (a b c d e x:CV):putAt (putAt [a,b,c] 0 [d,e]) 2 [x]=[d,e,x]:=rfl

theorem putB3l (a b c d e:CV):(putAt [a,b,c] 0 [d,e]).length=3:=rfl

theorem putB3m (a b c d e f:CV):putAt [a,b,c] 0 [d,e,f]=[d,e,f]:=rfl

theorem putB3n (a b c d e:CV):putAt [a,b,c] 0 [d,e]=[d,e,c]:=rfl

theorem putB3o (a b c x:CV):putAt [a,b,c] 2 [x]=[a,b,x]:=rfl

theorem IsI.set_other {X:Hp} {c:CV} {xs:List Int} (h:IsI X c xs) {lid:Nat} {o:Ob} (ho:rdOb X lid 0=some o) (hs:o.sz≠1) (o':Ob):IsI (X.set lid o') c xs:=by
 rcases h with⟨h1,h2,h3⟩ | ⟨id,g,off,ob,h1,h2,h3,h4⟩
 ·exact .inl ⟨h1,h2,h3⟩
 ·refine .inr ⟨id,g,off,ob,h1,?_,h3,h4⟩
  have hne:id≠lid:=fun e=>by
   subst e
   have a:=(rdOb_some.1 ho).1
   have b:=(rdOb_some.1 h2).1
   rw[a]at b;injection b with b;subst b;exact hs h3
  rw[rdOb_set_ne hne];exact h2

set_option maxRecDepth 100000 in
theorem implTaken {H:Hp} {v:CV} {f:FnR} (hv:Blocks H v f.blocks) (hsh:shapeB f=true) (k:IV×Hp→Prop) :
  CM 62 [.agg [v,.i f.values]] H k=k (.c (.b (pB (¬ TakenOk f.blocks))),H):=by
 refine det (cw62 ?_) k
 unfold vf62c
 obtain⟨s1,s2,s3,s4⟩:=shape_len hsh
 have hbb:f.blocks.length≤BIG:=by simp only[BIG];omega
 obtain⟨X,hX⟩:∃ X,H++[(⟨[v,.i f.values],0,true,2⟩:Ob)]=X:=⟨_,rfl⟩
 have hp:Pre H X:=⟨_,hX.symm⟩
 have hB:rdOb X H.length 0=some ⟨[v,.i f.values],0,true,2⟩:=by rw[← hX];simp
 unfold vf62r0 vf62t0
 simp[hX,rdN_ob hB]
 refine⟨?_,?_⟩
 ·refine (implDoms (m:=f.values) (hv.pre hp) hbb hsh).mono ?_
  rintro _ ⟨d,X2,cells,rfl,hp2,h1,h2,h3⟩
  obtain⟨Y,hY⟩:∃ Y,X2++[(⟨[v,.i f.values,.sl d 0 0 f.blocks.length],0,true,3⟩:Ob)]=Y:=⟨_,rfl⟩
  have hq:Pre X2 Y:=⟨_,hY.symm⟩
  have hlook:rdOb Y X2.length 0=some ⟨[v,.i f.values,.sl d 0 0 f.blocks.length],0,true,3⟩:=by rw[← hY];simp
  obtain⟨lid,hlid⟩:∃ lid,X2.length=lid:=⟨_,rfl⟩
  have hDY:DomsIn Y d f.blocks:=(DomsRes.mk' h1 h2 h3).pre hq
  have hpY:Pre H Y:=(hp.trans hp2).trans hq
  have hvY:=Blocks.pre hpY hv
  have hl:=hvY.lenOf
  have hBY:=(hp2.trans hq).rdOb hB
  rw[hlid]at hlook
  have hbk:rdOb (X2++[(⟨[.ns,.i 0,.ns],0,true,3⟩:Ob)]) lid 0=some ⟨[.ns,.i 0,.ns],0,true,3⟩:=by rw[← hlid];simp
  have hbB:rdOb (X2++[(⟨[.ns,.i 0,.ns],0,true,3⟩:Ob)]) H.length 0=some ⟨[v,.i f.values],0,true,2⟩:=rdOb_app _ (hp2.rdOb hB)
  simp[hp2.rdOb hB,hB,hbB,hbk,putB3,putB3l,putB3m,hY,hlid,hBY,rdC_ob hBY,hl]
  obtain⟨I,hI⟩:∃ I:Nat→St→Prop,∀ i st,I i st↔((∀ j,j<i→BlkOk f.blocks j)∧st.h=Y ∧
    Env.get st.e 3=.c (.p lid 0 0)∧Env.get st.e 11=.c (.i f.blocks.length)∧Env.get st.e 12=.c (.i i)):=⟨_,fun _ _=>Iff.rfl⟩
  refine wp_for CM_mono f.blocks.length I ((hI _ _).2 ⟨by simp,rfl,by simp[hlid]⟩) ?_ ?_
  ·rintro i ⟨e,Z⟩ hi hIs
   obtain⟨hdone,hZ,e3,e11,e12⟩:=(hI _ _).1 hIs
   simp only at hZ e3 e11 e12 ⊢
   subst hZ
   unfold vf62b0
   by_cases hok:BlkOk f.blocks i
   ·simp[e3,e11,e12,hi,rdN_ob hlook,blockWell_call hvY hsh hDY hi,pB_true hok,up1 hi hbb]
    refine (hI _ _).2 ⟨?_,rfl,by simp[e3,e11]⟩
    intro j hj
    by_cases ej:j=i
    ·subst ej;exact hok
    ·exact hdone j (by omega)
   ·have hno:¬ TakenOk f.blocks:=fun hc=>hok (hc i)
    simp[e3,e11,e12,hi,rdN_ob hlook,blockWell_call hvY hsh hDY hi,pB_false hok]
    rw[gcRet_flat hpY rfl,pB_true hno]
  ·rintro⟨e,Z⟩ hIs
   obtain⟨hdone,hZ,e3,e11,e12⟩:=(hI _ _).1 hIs
   simp only at hZ e3 e11 e12 ⊢
   subst hZ
   have hyes:¬ ¬ TakenOk f.blocks:=fun hc=>hc fun j hj=>hdone j hj hj
   unfold vf62b0
   simp[e3,e11,e12]
   rw[gcRet_flat hpY rfl,pB_false hyes]
 ·refine⟨(rdOb_app _ hB).trans hB.symm,?_⟩
  refine (implDoms (m:=f.values) ((hv.pre hp).app _) hbb hsh).mono ?_
  rintro _ ⟨d,X2,cells,rfl,hp2,h1,h2,h3⟩
  obtain⟨lid,hlid⟩:∃ lid,X.length=lid:=⟨_,rfl⟩
  have hbl:rdOb X2 X.length 0=some ⟨[.ns,.i 0,.ns],0,true,3⟩:=hp2.rdOb (by simp)
  have hlt:=rdOb_lt hbl
  have hpX2:Pre X X2:=Pre.trans ⟨_,rfl⟩ hp2
  obtain⟨Y,hY⟩:∃ Y,X2.set X.length ⟨[v,.i f.values,.sl d 0 0 f.blocks.length],0,true,3⟩=Y:=⟨_,rfl⟩
  have hpXY:Pre X Y:=by rw[← hY];exact hpX2.set (by omega) _
  have hlook:rdOb Y X.length 0=some ⟨[v,.i f.values,.sl d 0 0 f.blocks.length],0,true,3⟩:=by rw[← hY,rdOb_set_self hlt];simp
  have hDY:DomsIn Y d f.blocks:=by
   rw[← hY]
   refine⟨cells,?_,h2,fun b hb=>?_⟩
   ·have hne:d≠X.length:=fun e=>by rw[e,hbl]at h1;simp at h1
    rw[rdOb_set_ne hne];exact h1
   ·obtain⟨c,a1,a2⟩:=h3 b hb
    exact⟨c,a1,a2.set_other hbl (by decide) _⟩
  have hpY:Pre H Y:=hp.trans hpXY
  have hvY:=Blocks.pre hpY hv
  have hl:=hvY.lenOf
  have hBY:=hpXY.rdOb hB
  rw[hlid]at hlook hbl hY
  simp[hpX2.rdOb hB,rdOb_app _ hB,hB,putB3,putB3l,putB3m,putB3n,putB3o,hlid,hbl,hY,hBY,rdC_ob hBY,hl]
  obtain⟨I,hI⟩:∃ I:Nat→St→Prop,∀ i st,I i st↔((∀ j,j<i→BlkOk f.blocks j)∧st.h=Y ∧
    Env.get st.e 3=.c (.p lid 0 0)∧Env.get st.e 11=.c (.i f.blocks.length)∧Env.get st.e 12=.c (.i i)):=⟨_,fun _ _=>Iff.rfl⟩
  refine wp_for CM_mono f.blocks.length I ((hI _ _).2 ⟨by simp,rfl,by simp[hlid]⟩) ?_ ?_
  ·rintro i ⟨e,Z⟩ hi hIs
   obtain⟨hdone,hZ,e3,e11,e12⟩:=(hI _ _).1 hIs
   simp only at hZ e3 e11 e12 ⊢
   subst hZ
   unfold vf62b0
   by_cases hok:BlkOk f.blocks i
   ·simp[e3,e11,e12,hi,rdN_ob hlook,blockWell_call hvY hsh hDY hi,pB_true hok,up1 hi hbb]
    refine (hI _ _).2 ⟨?_,rfl,by simp[e3,e11]⟩
    intro j hj
    by_cases ej:j=i
    ·subst ej;exact hok
    ·exact hdone j (by omega)
   ·have hno:¬ TakenOk f.blocks:=fun hc=>hok (hc i)
    simp[e3,e11,e12,hi,rdN_ob hlook,blockWell_call hvY hsh hDY hi,pB_false hok]
    rw[gcRet_flat hpY rfl,pB_true hno]
  ·rintro⟨e,Z⟩ hIs
   obtain⟨hdone,hZ,e3,e11,e12⟩:=(hI _ _).1 hIs
   simp only at hZ e3 e11 e12 ⊢
   subst hZ
   have hyes:¬ ¬ TakenOk f.blocks:=fun hc=>hc fun j hj=>hdone j hj hj
   unfold vf62b0
   simp[e3,e11,e12]
   rw[gcRet_flat hpY rfl,pB_false hyes]
end Go.Proofs.YtiecgmmaihckeaaGreat.Vm
