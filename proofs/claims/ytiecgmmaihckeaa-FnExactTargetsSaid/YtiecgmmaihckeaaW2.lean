/- A part of the proof: the machine and the walks. No conditions. -/
import Derived.Test.YtiecgmmaihckeaaW1
import Derived.Carry
import Derived.OpenShut
import Derived.Test.YtiecgmmaihckeaaChecked
import Derived.Sort.Row
import Derived.Sort.Grow
namespace Go.Proofs.Ytiecgmmaihckeaa.Vm
open Go.RowKit (wrap64)
set_option linter.unusedSimpArgs false
set_option linter.unusedVariables false
set_option maxRecDepth 100000
def leafTs (P:Program):Nat→TypeId→Option (List TypeId)
 | 0,_=>none
 | n+1,t =>
  match P.underlying t with
  | some (.struct fs)=>(fs.toList.mapM fun f=>leafTs P n f.type).map List.flatten
  | some _=>some [t]
  | none=>none

def Leaf (P:Program) (H:Hp) (t:TypeId) (c:CV):Prop:=∃ m,plainT P m t=true∧Ty P H m t [c]

section

variable {P:Program} {H:Hp}

theorem fields_leaves {n:Nat} {cs:List CV}
  (ih:∀ {t:TypeId} {cs:List CV} {ls:List TypeId},plainT P n t=true→Ty P H n t cs→leafTs P n t=some ls→cs.length=P.cellsOf t→cs.length=ls.length∧∀ (j:Nat) (t':TypeId) (c:CV),ls[j]? = some t'→cs[j]? = some c→Leaf P H t' c) :
  ∀ (fs:List Field) (k:Nat) (lss:List (List TypeId)),tiles P fs k cs.length=true→(∀ f∈fs,plainT P n f.type=true)→(∀ f∈fs,Ty P H n f.type ((cs.drop f.offset).take (P.cellsOf f.type))) →
   fs.mapM (fun f=>leafTs P n f.type)=some lss→(cs.drop k).length=lss.flatten.length∧∀ (j:Nat) (t':TypeId) (c:CV),lss.flatten[j]? = some t'→(cs.drop k)[j]? = some c→Leaf P H t' c:=by
 intro fs
 induction fs with
 | nil =>
  intro k lss ht _ _ hm
  simp at hm
  subst hm
  simp only[tiles,beq_iff_eq]at ht
  exact⟨by simp;omega,fun j t' c h=>by simp at h⟩
 | cons f r ihr =>
  intro k lss ht hp hty hm
  simp only[tiles,Bool.and_eq_true,beq_iff_eq]at ht
  obtain⟨ho,ht⟩:=ht
  have hle:=tiles_le ht
  simp only[List.mapM_cons,Option.pure_def,Option.bind_eq_bind,Option.bind_eq_some_iff]at hm
  obtain⟨ls,h1,lr,h2,h3⟩:=hm
  injection h3 with h3
  subst h3
  have hcl:((cs.drop f.offset).take (P.cellsOf f.type)).length=P.cellsOf f.type:=by simp;omega
  obtain⟨a1,a2⟩:=ih (hp f (by simp)) (hty f (by simp)) h1 hcl
  obtain⟨b1,b2⟩:=ihr (k+P.cellsOf f.type) lr ht (fun g hg=>hp g (by simp[hg])) (fun g hg=>hty g (by simp[hg])) h2
  rw[hcl]at a1
  simp only[List.length_drop]at b1 ⊢
  refine⟨by rw[List.flatten_cons,List.length_append];omega,fun j t' c hj hc=>?_⟩
  rw[List.flatten_cons]at hj
  rw[List.getElem?_drop]at hc
  by_cases hlt:j<ls.length
  ·rw[List.getElem?_append_left hlt]at hj
   refine a2 j t' c hj ?_
   rw[List.getElem?_take,if_pos (by omega),List.getElem?_drop,ho]
   exact hc
  ·rw[List.getElem?_append_right (by omega)]at hj
   refine b2 (j - ls.length) t' c hj ?_
   rw[List.getElem?_drop,show k+P.cellsOf f.type+(j - ls.length)=k+j by omega]
   exact hc

theorem Ty.leaves:∀ {n:Nat} {t:TypeId} {cs:List CV} {ls:List TypeId},plainT P n t=true→Ty P H n t cs→leafTs P n t=some ls→cs.length=P.cellsOf t →
  cs.length=ls.length∧∀ (j:Nat) (t':TypeId) (c:CV),ls[j]? = some t'→cs[j]? = some c→Leaf P H t' c:=by
 intro n
 induction n with
 | zero=>intro t cs ls hp;simp[plainT]at hp
 | succ n ih =>
  intro t cs ls hp hty hl hcs
  have hkeep:=hty
  have hpk:=hp
  have hone:∀ (c:CV),cs=[c]→ls=[t]→cs.length=ls.length∧∀ (j:Nat) (t':TypeId) (c:CV),ls[j]? = some t'→cs[j]? = some c→Leaf P H t' c:=by
   intro c h1 h2
   subst h1;subst h2
   refine⟨rfl,fun j t' c' hj hc=>?_⟩
   cases j with
   | zero=>simp at hj hc;subst hj;subst hc;exact⟨n+1,hpk,hkeep⟩
   | succ j=>simp at hj
  unfold plainT at hp
  unfold Ty at hty
  unfold leafTs at hl
  split at hp
  ·rename_i hu
   rw[hu]at hty hl
   obtain⟨b,rfl⟩:=hty
   injection hl with hl
   exact hone _ rfl hl.symm
  ·rename_i hu
   rw[hu]at hty hl
   obtain⟨b,rfl,_⟩:=hty
   injection hl with hl
   exact hone _ rfl hl.symm
  ·rename_i hu
   rw[hu]at hty hl
   obtain⟨b,rfl,_⟩:=hty
   injection hl with hl
   exact hone _ rfl hl.symm
  ·rename_i hu
   rw[hu]at hty hl
   obtain⟨b,rfl,_⟩:=hty
   injection hl with hl
   exact hone _ rfl hl.symm
  ·rename_i e hu
   rw[hu]at hty hl
   injection hl with hl
   rcases hty with rfl | ⟨id,len,o,rfl,_⟩
   ·exact hone _ rfl hl.symm
   ·exact hone _ rfl hl.symm
  ·rename_i fs hu
   rw[hu]at hty hl
   simp only[Bool.and_eq_true,List.all_eq_true]at hp
   simp only[Option.map_eq_some_iff]at hl
   obtain⟨lss,hm,rfl⟩:=hl
   have:=fields_leaves (P:=P) (H:=H) (n:=n) (cs:=cs) (fun h1 h2 h3 h4=>ih h1 h2 h3 h4) fs.toList 0 lss (by rw[hty.1];exact hp.1) hp.2 hty.2 hm
   simpa using this
  ·cases hp

theorem Leaf.int {t:TypeId} {c:CV} (hu:P.underlying t=some (.int .i64)) (h:Leaf P H t c):∃ m:Int,c=.i m∧-9223372036854775808≤m∧m≤9223372036854775807:=by
 obtain⟨n,hpl,h⟩:=h
 cases n with
 | zero=>exact False.elim h
 | succ n =>
  unfold Ty at h
  rw[hu]at h
  obtain⟨m,h1,h2⟩:=h
  injection h1 with h1
  exact⟨m,h1,h2⟩

theorem Leaf.byte {t:TypeId} {c:CV} (hu:P.underlying t=some (.int .u8)) (h:Leaf P H t c):∃ m:Int,c=.y m∧0≤m∧m≤255:=by
 obtain⟨n,hpl,h⟩:=h
 cases n with
 | zero=>exact False.elim h
 | succ n =>
  unfold Ty at h
  rw[hu]at h
  obtain⟨m,h1,h2⟩:=h
  injection h1 with h1
  exact⟨m,h1,h2⟩

theorem mapM_mono {α β:Type} {f g:α→Option β}:∀ {l:List α} {r:List β},(∀ a∈l,∀ b,f a=some b→g a=some b)→l.mapM f=some r→l.mapM g=some r:=by
 intro l
 induction l with
 | nil=>intro r _ h;exact h
 | cons a l ih =>
  intro r hfg h
  simp only[List.mapM_cons,Option.pure_def,Option.bind_eq_bind,Option.bind_eq_some_iff]at h ⊢
  obtain⟨b,h1,bs,h2,h3⟩:=h
  exact⟨b,hfg a (by simp) b h1,bs,ih (fun x hx=>hfg x (by simp[hx])) h2,h3⟩

theorem leafTs_succ:∀ {n:Nat} {t:TypeId} {ls:List TypeId},leafTs P n t=some ls→leafTs P (n+1) t=some ls:=by
 intro n
 induction n with
 | zero=>intro t ls h;cases h
 | succ n ih =>
  intro t ls h
  unfold leafTs at h ⊢
  split at h
  ·rename_i fs hu
   simp only[Option.map_eq_some_iff]at h ⊢
   obtain⟨lss,hm,rfl⟩:=h
   exact⟨lss,mapM_mono (fun f _ b hb=>ih hb) hm,rfl⟩
  ·rename_i hn hu;exact h
  ·cases h

theorem leafTs_le {n m:Nat} (h:n≤m) {t:TypeId} {ls:List TypeId} (hl:leafTs P n t=some ls):leafTs P m t=some ls:=by
 obtain⟨k,rfl⟩:=Nat.le.dest h
 induction k with
 | zero=>exact hl
 | succ k ih=>exact leafTs_succ (ih (by omega))

theorem leafTs_uniq {n m:Nat} {t:TypeId} {ls ls':List TypeId} (h:leafTs P n t=some ls) (h':leafTs P m t=some ls'):ls=ls':=by
 have a:=leafTs_le (Nat.le_max_left n m) h
 have b:=leafTs_le (Nat.le_max_right n m) h'
 rw[a]at b;injection b

theorem mapM_some {α β:Type} {f:α→Option β}:∀ {l:List α},(∀ a∈l,∃ b,f a=some b)→∃ r,l.mapM f=some r:=by
 intro l
 induction l with
 | nil=>intro _;exact⟨[],rfl⟩
 | cons a l ih =>
  intro h
  obtain⟨b,hb⟩:=h a (by simp)
  obtain⟨r,hr⟩:=ih (fun x hx=>h x (by simp[hx]))
  exact⟨b :: r,by simp[List.mapM_cons,hb,hr]⟩

theorem plain_leaf:∀ {n:Nat} {t:TypeId},plainT P n t=true→∃ ls,leafTs P n t=some ls:=by
 intro n
 induction n with
 | zero=>intro t h;simp[plainT]at h
 | succ n ih =>
  intro t h
  unfold plainT at h
  unfold leafTs
  split at h<;>first | (cases h;done) | skip
  ·rename_i hu;rw[hu];exact⟨_,rfl⟩
  ·rename_i hu;rw[hu];exact⟨_,rfl⟩
  ·rename_i hu;rw[hu];exact⟨_,rfl⟩
  ·rename_i hu;rw[hu];exact⟨_,rfl⟩
  ·rename_i e hu;rw[hu];exact⟨_,rfl⟩
  ·rename_i fs hu
   rw[hu]
   simp only[Bool.and_eq_true,List.all_eq_true]at h
   obtain⟨r,hr⟩:=mapM_some (f:=fun (f:Field)=>leafTs P n f.type) (l:=fs.toList) (fun f hf=>ih (h.2 f hf))
   exact⟨r.flatten,by simp only[hr];rfl⟩

theorem Leaf.row {t e:TypeId} {c:CV} {ls:List TypeId} (hu:P.underlying t=some (.slice e)) {m:Nat} (hls:leafTs P m e=some ls) (h:Leaf P H t c) :
  ∃ (n:Nat) (css:List (List CV)),n=css.length∧n≤maxLen∧Sl H (P.cellsOf e) c n css.flatten∧∀ cs∈css,cs.length=ls.length∧cs.length=P.cellsOf e∧∀ (j:Nat) (t':TypeId) (c:CV),ls[j]? = some t'→cs[j]? = some c→Leaf P H t' c:=by
 obtain⟨n,hpl,h⟩:=h
 cases n with
 | zero=>exact False.elim h
 | succ n =>
  unfold Ty at h
  rw[hu]at h
  rcases h with h | ⟨id,len,o,h1,h2,h3,h4,h5,h6,h7,h8⟩
  ·injection h with h
   subst h
   exact⟨0,[],rfl,by simp,.inl ⟨rfl,rfl,rfl⟩,by simp⟩
  ·injection h1 with h1
   subst h1
   rw[h5]at h6 h8
   have hlen:∀ i,i<len→((o.cells.drop (i * P.cellsOf e)).take (P.cellsOf e)).length=P.cellsOf e:=by
    intro i hi
    have:(i+1) * P.cellsOf e≤len * P.cellsOf e:=Nat.mul_le_mul_right _ hi
    rw[Nat.succ_mul]at this
    rw[List.length_take,List.length_drop];omega
   refine⟨len,(List.range len).map fun i=>(o.cells.drop (i * P.cellsOf e)).take (P.cellsOf e),by simp,h7,.inr ⟨id,0,0,o,rfl,rdOb_some.2 ⟨h2,h3⟩,h5,by omega,?_⟩,?_⟩
   ·have key:∀ k,k≤len→((List.range k).map fun i=>(o.cells.drop (i * P.cellsOf e)).take (P.cellsOf e)).flatten=o.cells.take (k * P.cellsOf e):=by
     intro k
     induction k with
     | zero=>intro _;simp
     | succ k ihk =>
      intro hk
      rw[List.range_succ,List.map_append,List.flatten_append,ihk (by omega),Nat.succ_mul,List.take_add]
      simp
    rw[List.drop_zero]
    exact (key len (Nat.le_refl _)).symm
   ·intro cs hcs
    rw[List.mem_map]at hcs
    obtain⟨i,hi,rfl⟩:=hcs
    rw[List.mem_range]at hi
    have hty:=h8 i hi
    have hpn:plainT P n e=true:=by
     unfold plainT at hpl
     rw[hu]at hpl
     simp only[Bool.and_eq_true]at hpl
     exact hpl.2
    obtain⟨ls',hls'⟩:=plain_leaf hpn
    obtain rfl:=leafTs_uniq hls hls'
    obtain⟨g1,g2⟩:=Ty.leaves hpn hty hls' (hlen i hi)
    exact⟨g1,hlen i hi,g2⟩

theorem Ty.len {n:Nat} {t:TypeId} {cs:List CV} (hp:plainT P n t=true) (h:Ty P H n t cs):cs.length=P.cellsOf t:=by
 cases n with
 | zero=>simp[plainT]at hp
 | succ n =>
  unfold plainT at hp
  unfold Ty at h
  split at hp
  ·rename_i hu;rw[hu]at h;obtain⟨b,rfl⟩:=h;simp at hp;simp[hp]
  ·rename_i hu;rw[hu]at h;obtain⟨b,rfl,_⟩:=h;simp at hp;simp[hp]
  ·rename_i hu;rw[hu]at h;obtain⟨b,rfl,_⟩:=h;simp at hp;simp[hp]
  ·rename_i hu;rw[hu]at h;obtain⟨b,rfl,_⟩:=h;simp at hp;simp[hp]
  ·rename_i e hu
   rw[hu]at h
   simp only[Bool.and_eq_true,beq_iff_eq]at hp
   rcases h with rfl | ⟨id,len,o,rfl,_⟩<;>simp[hp.1.1]
  ·rename_i fs hu;rw[hu]at h;exact h.1
  ·cases hp

theorem ArgTy.agg {n:Nat} {t:TypeId} {ls:List TypeId} {iv:IV} (hp:plainT P n t=true) (ha:aggOf P t=some true) (hl:leafTs P n t=some ls) (h:ArgTy P H n t iv) :
  ∃ cvs,iv=.agg cvs∧cvs.length=ls.length∧∀ (j:Nat) (t':TypeId) (c:CV),ls[j]? = some t'→cvs[j]? = some c→Leaf P H t' c:=by
 obtain⟨cvs,h1,h2⟩:=h
 rcases h2 with⟨_,rfl⟩ | ⟨h2,_⟩
 ·obtain⟨g1,g2⟩:=Ty.leaves hp h1 hl (Ty.len hp h1)
  exact⟨cvs,rfl,g1,g2⟩
 ·rw[ha]at h2;cases h2

theorem ArgTy.one {n:Nat} {t:TypeId} {iv:IV} (hp:plainT P n t=true) (ha:aggOf P t=some false) (h:ArgTy P H n t iv):∃ c,iv=.c c∧Leaf P H t c:=by
 obtain⟨cvs,h1,h2⟩:=h
 rcases h2 with⟨h2,_⟩ | ⟨_,c,rfl,rfl⟩
 ·rw[ha]at h2;cases h2
 ·exact⟨c,rfl,n,hp,h1⟩

theorem ArgsTy.nil_inv {n:Nat} {ivs:List IV} (h:ArgsTy P H n [] ivs):ivs=[]:=by
 cases ivs with
 | nil=>rfl
 | cons a r=>exact False.elim h

theorem ArgsTy.cons_inv {n:Nat} {t:TypeId} {ts:List TypeId} {ivs:List IV} (h:ArgsTy P H n (t :: ts) ivs):∃ iv r,ivs=iv :: r∧ArgTy P H n t iv∧ArgsTy P H n ts r:=by
 cases ivs with
 | nil=>exact False.elim h
 | cons a r=>exact⟨a,r,rfl,h.1,h.2⟩

end
section
open Go.RowKit (wrap64 Below)

open Go.ChangeShapes Go.WideShapes Go.RowKit



def AllOk (P:Program):List (Nat×VF)→Prop
 | []=>True
 | p :: r=>(∃ fn,P.funcs[p.1]? = some fn∧chkF P fn p.2=true)∧AllOk P r

theorem okCode_of {P:Program}:∀ {tab:List (Nat×VF)},AllOk P tab→OkCode P fun n=>tab.lookup n:=by
 intro tab
 induction tab with
 | nil=>intro _ f vf h;cases h
 | cons p r ih =>
  intro h f vf hf
  obtain⟨k,v⟩:=p
  simp only[List.lookup]at hf
  by_cases e:f=k
  ·subst e
   simp only[beq_self_eq_true]at hf
   injection hf with hf;subst hf
   exact h.1
  ·have:(f == k)=false:=by simpa using e
   rw[this]at hf
   exact ih h.2 f vf hf

section

variable {Q:Type} {enc:TypeId×Value→Q} {P:Program}

theorem calls_law {M:Code} {X0:OrD} (hm:P.follows .mixedOrders=true) (hM:OkCode P M) (hX:∀ w0,OrdSim P w0 X0) {f:FuncId} {n:Nat} {ts:List TypeId} (hp:∀ t∈ts,plainT P n t=true)
  (law:∀ (H:Hp) (ivs:List IV),(∀ o∈H,o.rw=false)→ArgsTy P H n ts ivs→callD M X0 f ivs H fun r=>r.1=.c (.b true))
  {W:World} {base:Nat} {args:Array Value} {ds:List (DataW Q)} {ps:List MemPlace}
  (hv:∀ (j:Nat) (t:TypeId) (v:Value),ts[j]? = some t→args[j]? = some v→Value.okWide P W .any base t v)
  (hA:DataW.TrodAll enc P W 0 (fun _=>true) true ts args.toList ds ps) :
  Calls P f args W fun e W'=>e=.returned (.bool true)∧Below W.heap.size W W':=by
 obtain⟨ρ,Y,ivs,hI,_,hR,hw,hT⟩:=open_args (Q:=Q) (enc:=enc) ts args.toList ds ps (fun _=>(⟨0,0,none⟩,0)) [] hp (fun j t v ht hj=>.inr ⟨base,hv j t v ht (by simpa using hj)⟩) hA (Ini.nil _ _)
 have hc:=law _ ivs hI.2 hT
 obtain⟨_,hcalls⟩:=callD_sim (w0:=W) hm hM (hX W) f ivs _ _ hc
 have:=hcalls ρ W args.toList hI.1 hR hw
 rw[Array.toArray_toList]at this
 refine Calls.mono this ?_
 rintro e W' ⟨⟨iv,H'⟩,hiv,ρ',v,rfl,h1,h2,h3,h4⟩
 simp only at hiv
 subst hiv
 have hv:v=.bool true:=h1
 subst hv
 exact⟨rfl,h3.bel⟩

theorem all_below (hl:laidOutB P=true) {W W':World} (hb:Below W.heap.size W W'):∀ {ts:List TypeId} {vs:List Value} {ds:List (DataW Q)} {ps:List MemPlace},(∀ t∈ts,P.readableRec t=true∧t<P.types.size) →
  DataW.TrodAll enc P W 0 (fun _=>true) true ts vs ds ps→DataW.TrodAll enc P W' 0 (fun b=>decide (b<W.heap.size)) true ts vs ds ps:=by
 intro ts
 induction ts with
 | nil =>
  intro vs ds ps _ h
  cases vs<;>cases ds<;>first | exact h | (simp[DataW.TrodAll]at h)
 | cons t ts ih =>
  intro vs ds ps hp h
  cases vs with
  | nil=>simp[DataW.TrodAll]at h
  | cons v vs =>
   cases ds with
   | nil=>simp[DataW.TrodAll]at h
   | cons d ds =>
    simp only[DataW.TrodAll]at h ⊢
    obtain⟨p,q,h1,h2,h3⟩:=h
    obtain⟨hr,hlt⟩:=hp t (by simp)
    refine⟨p,q,Below.trod hl hr hlt h1 hb ?_,ih (fun t ht=>hp t (by simp[ht])) h2,h3⟩
    obtain⟨m,hm⟩:=h1
    exact DataW.trod_lt m _ _ _ hm

end
end
@[simp] theorem rdOb_r (H L:Hp) (k g:Nat):rdOb (H++L) (H.length+k) g=rdOb L k g:=rdOb_right

@[simp] theorem rdOb_r0 (H L:Hp) (g:Nat):rdOb (H++L) H.length g=rdOb L 0 g:=by have:=@rdOb_right H L 0 g;simpa using this

@[simp] theorem rdOb_c0 (o:Ob) (L:Hp) (g:Nat):rdOb (o :: L) 0 g=if o.g=g then some o else none:=by unfold rdOb;simp

@[simp] theorem rdOb_cs (o:Ob) (L:Hp) (k g:Nat):rdOb (o :: L) (k+1) g=rdOb L k g:=by unfold rdOb;simp

@[simp] theorem set_r (H L:Hp) (k:Nat) (o:Ob):(H++L).set (H.length+k) o=H++L.set k o:=set_right

@[simp] theorem set_r0 (H L:Hp) (o:Ob):(H++L).set H.length o=H++L.set 0 o:=by rw[List.set_append_right _ _ (Nat.le_refl _),Nat.sub_self]

theorem gc_flat (H L:Hp) {r:IV} (h:flatV r=true):gcRet H r (H++L)=(r,H):=gcRet_flat ⟨L,rfl⟩ h

theorem gc_same (H:Hp) {r:IV} (h:flatV r=true):gcRet H r H=(r,H):=gcRet_flat (Pre.refl H) h

@[simp] theorem gc_same_b (H:Hp) (x:Bool):gcRet H (.c (.b x)) H=(.c (.b x),H):=gc_same H rfl

@[simp] theorem gc_flat_b (H L:Hp) (x:Bool):gcRet H (.c (.b x)) (H++L)=(.c (.b x),H):=gc_flat H L rfl

@[simp] theorem gc_same_i (H:Hp) (x:Int):gcRet H (.c (.i x)) H=(.c (.i x),H):=gc_same H rfl

@[simp] theorem gc_flat_i (H L:Hp) (x:Int):gcRet H (.c (.i x)) (H++L)=(.c (.i x),H):=gc_flat H L rfl

@[simp] theorem gc_same_y (H:Hp) (x:Int):gcRet H (.c (.y x)) H=(.c (.y x),H):=gc_same H rfl

@[simp] theorem gc_flat_y (H L:Hp) (x:Int):gcRet H (.c (.y x)) (H++L)=(.c (.y x),H):=gc_flat H L rfl

@[simp] theorem gc_same_s (H:Hp) (x:ByteArray):gcRet H (.c (.s x)) H=(.c (.s x),H):=gc_same H rfl

@[simp] theorem gc_flat_s (H L:Hp) (x:ByteArray):gcRet H (.c (.s x)) (H++L)=(.c (.s x),H):=gc_flat H L rfl

@[simp] theorem gc_same_ns (H:Hp) :gcRet H (.c .ns) H=(.c .ns,H):=gc_same H rfl

@[simp] theorem gc_flat_ns (H L:Hp) :gcRet H (.c .ns) (H++L)=(.c .ns,H):=gc_flat H L rfl


def IsI (H:Hp) (v:CV) (xs:List Int):Prop:=Sl H 1 v xs.length (xs.map .i)

theorem IsI.cases {H:Hp} {v:CV} {xs:List Int} (h:IsI H v xs):(v=.ns∧xs=[])∨∃ id g off o,v=.sl id g off xs.length∧rdOb H id g=some o∧o.sz=1∧off+xs.length≤o.cells.length ∧
  ∀ (k:Nat) (hk:k<xs.length),o.cells[off+k]? = some (.i xs[k]):=by
 rcases h with⟨h1,h2,h3⟩ | ⟨id,g,off,o,h1,h2,h3,h4,h5⟩
 ·exact .inl ⟨h1,List.eq_nil_of_length_eq_zero h2⟩
 ·refine .inr ⟨id,g,off,o,h1,h2,h3,by omega,fun k hk=>?_⟩
  have h6:((o.cells.drop off).take (xs.length * 1))[k]? = (xs.map CV.i)[k]?:=by rw[h5]
  rw[List.getElem?_take,if_pos (by omega),List.getElem?_drop,List.getElem?_map,List.getElem?_eq_getElem hk]at h6
  exact h6

theorem IsI.pre {H X:Hp} (hp:Pre H X) {v:CV} {xs:List Int} (h:IsI H v xs):IsI X v xs:=Sl.pre hp h

theorem IsI.app {H:Hp} (Y:Hp) {v:CV} {xs:List Int} (h:IsI H v xs):IsI (H++Y) v xs:=h.pre ⟨Y,rfl⟩

theorem IsI.ns (H:Hp):IsI H .ns []:=.inl ⟨rfl,rfl,rfl⟩

theorem IsI.mk {H:Hp} {id g off:Nat} {o:Ob} {xs:List Int} (h:rdOb H id g=some o) (hs:o.sz=1) (hl:off+xs.length≤o.cells.length) (hc:(o.cells.drop off).take xs.length=xs.map .i):IsI H (.sl id g off xs.length) xs:=
 .inr ⟨id,g,off,o,rfl,h,hs,by omega,by rw[Nat.mul_one];exact hc⟩
def Od.nums:Od→List Nat
 | .t n=>[n]
 | .k _=>[]

def opnds:VOp→List Nat
 | .mv x | .box x | .nilc x | .shk _ _ x | .eqn _ x | .not x | .b2i x | .s2b x | .mks _ _ x | .fad _ x | .ext _ x | .len x | .lens x | .clr _ _ x | .ld _ x=>x.nums
 | .pick c a b=>c.nums++a.nums++b.nums
 | .alloc _=>[]
 | .build _ ps=>ps.flatMap fun p=>p.2.2.nums
 | .bsl _ _ _ ps=>ps.flatMap fun p=>p.2.2.nums
 | .st _ x y | .bin _ x y | .eqa _ _ x y | .eqb _ x y | .idx _ x y | .app _ x y | .mn x y | .mx x y=>x.nums++y.nums
 | .bck x y z u=>x.nums++y.nums++z.nums++u.nums
 | .slc _ x lo hi=>x.nums++(lo.map Od.nums).getD []++(hi.map Od.nums).getD []
 | .mkf _ xs=>xs.flatMap Od.nums
 | .call _ xs=>xs.flatMap Od.nums
 | .clv x xs=>x.nums++xs.flatMap Od.nums

def reads (vo:VO):List Nat:=opnds vo.o++(match vo.gd with | some (s,_)=>[s] | none=>[])

theorem od_congr {e e':Env} {x:Od} (h:∀ n∈x.nums,Env.get e n=Env.get e' n):x.get e=x.get e':=by
 cases x with
 | t n=>exact h n (by simp[Od.nums])
 | k v=>rfl

theorem ods_congr {e e':Env}:∀ {xs:List Od},(∀ n∈xs.flatMap Od.nums,Env.get e n=Env.get e' n)→xs.map (Od.get e)=xs.map (Od.get e'):=by
 intro xs
 induction xs with
 | nil=>intro _;rfl
 | cons x xs ih =>
  intro h
  simp only[List.map_cons]
  rw[od_congr (e':=e') (fun n hn=>h n (by simp[hn])),ih (fun n hn=>h n (by rw[List.flatMap_cons];exact List.mem_append.2 (.inr hn)))]

theorem parts_congr {e e':Env}:∀ {xs:List (Nat×Nat×Od)},(∀ n∈xs.flatMap (fun p=>p.2.2.nums),Env.get e n=Env.get e' n)→partsOf e xs=partsOf e' xs:=by
 intro xs
 induction xs with
 | nil=>intro _;rfl
 | cons x xs ih =>
  intro h
  obtain⟨a,b,x⟩:=x
  simp only[partsOf]
  rw[od_congr (e':=e') (fun n hn=>h n (by simp[hn])),ih (fun n hn=>h n (by rw[List.flatMap_cons];exact List.mem_append.2 (.inr hn)))]

theorem caps_congr {e e':Env}:∀ {xs:List Od},(∀ n∈xs.flatMap Od.nums,Env.get e n=Env.get e' n)→capsOf e xs=capsOf e' xs:=by
 intro xs
 induction xs with
 | nil=>intro _;rfl
 | cons x xs ih =>
  intro h
  simp only[capsOf]
  rw[od_congr (e':=e') (fun n hn=>h n (by simp[hn])),ih (fun n hn=>h n (by rw[List.flatMap_cons];exact List.mem_append.2 (.inr hn)))]

theorem step_congr {K:Orc} {e e':Env} {H:Hp} {o:VOp} (h:∀ n∈opnds o,Env.get e n=Env.get e' n):stepV K e H o=stepV K e' H o:=by
 cases o with
 | alloc zs=>rfl
 | build zs ps=>simp only[stepV];rw[parts_congr h]
 | bsl sz zs n ps=>simp only[stepV];rw[parts_congr h]
 | mkf f xs=>simp only[stepV];rw[caps_congr h]
 | call f xs=>simp only[stepV];rw[ods_congr h]
 | clv x xs =>
  simp only[stepV]
  rw[od_congr (e':=e') (fun n hn=>h n (by simp[opnds,hn])),ods_congr (e':=e') (fun n hn=>h n (by unfold opnds;exact List.mem_append.2 (.inr hn)))]
 | ld n x =>
  have:=od_congr (e':=e') (fun m hm=>h m (by simp[opnds,hm]):∀ m∈x.nums,Env.get e m=Env.get e' m)
  cases n<;>simp only[stepV,this]
 | slc sz x lo hi =>
  have h1:=od_congr (e':=e') (fun m hm=>h m (by simp[opnds,hm]):∀ m∈x.nums,Env.get e m=Env.get e' m)
  have h2:lo.map (Od.get e)=lo.map (Od.get e'):=by
   cases lo with
   | none=>rfl
   | some y=>simp only[Option.map_some];rw[od_congr (e':=e') (fun m hm=>h m (by simp[opnds,hm]))]
  have h3:hi.map (Od.get e)=hi.map (Od.get e'):=by
   cases hi with
   | none=>rfl
   | some y=>simp only[Option.map_some];rw[od_congr (e':=e') (fun m hm=>h m (by simp[opnds,hm]))]
  simp only[stepV,h1,h2,h3]
 | pick c a b =>
  simp only[stepV]
  rw[od_congr (x:=c) (e':=e') (fun n hn=>h n (by simp[opnds,hn])),od_congr (x:=a) (e':=e') (fun n hn=>h n (by simp[opnds,hn])),od_congr (x:=b) (e':=e') (fun n hn=>h n (by simp[opnds,hn]))]
 | bck x y z u =>
  simp only[stepV]
  rw[od_congr (x:=x) (e':=e') (fun n hn=>h n (by simp[opnds,hn])),od_congr (x:=y) (e':=e') (fun n hn=>h n (by simp[opnds,hn])),od_congr (x:=z) (e':=e') (fun n hn=>h n (by simp[opnds,hn])),od_congr (x:=u) (e':=e') (fun n hn=>h n (by simp[opnds,hn]))]
 | st n x y | bin o x y | eqa n g x y | eqb g x y | idx sz x y | app sz x y | mn x y | mx x y =>
  simp only[stepV]
  rw[od_congr (x:=x) (e':=e') (fun n hn=>h n (by simp[opnds,hn])),od_congr (x:=y) (e':=e') (fun n hn=>h n (by simp[opnds,hn]))]
 | mv x | box x | nilc x | shk l n x | eqn g x | not x | b2i x | s2b x | mks sz zs x | fad o x | ext k x | len x | lens x | clr sz zs x =>
  simp only[stepV]
  rw[od_congr (x:=x) (e':=e') (fun n hn=>h n (by simp[opnds,hn]))]

theorem get_setD {e:Env} {d:Option Nat} {v:IV} {n:Nat}:Env.get (setD e d v) n=if d=some n then v else Env.get e n:=by
 cases d with
 | none=>simp[setD]
 | some m=>simp[setD,Env.get]

def ancB (ops:List VO):Nat→Nat→Nat→Bool
 | 0,_,_=>false
 | f+1,i,j=>match ops[i]? with
  | none=>false
  | some o=>o.dp.contains j || o.dp.any fun k=>ancB ops f k j

theorem mem_ready {ops:List VO} {listed:List Bool} {i:Nat} (h:i∈readyV ops listed):∃ o,ops[i]? = some o∧listed.getD i true=false∧∀ j∈o.dp,listed.getD j false=true:=by
 unfold readyV at h
 rw[List.mem_filter]at h
 obtain⟨h1,h2⟩:=h
 rw[List.mem_range]at h1
 simp only[Bool.and_eq_true,Bool.not_eq_true']at h2
 rw[List.getElem?_eq_getElem h1]at h2
 simp only[Option.map_some,Option.getD_some,List.all_eq_true]at h2
 exact⟨_,List.getElem?_eq_getElem h1,h2.1,h2.2⟩

theorem anc_listed {ops:List VO} {listed:List Bool} (hcl:∀ (i:Nat) (o:VO),ops[i]? = some o→listed.getD i false=true→∀ j∈o.dp,listed.getD j false=true) :
  ∀ (f i j:Nat) (o:VO),ops[i]? = some o→(∀ k∈o.dp,listed.getD k false=true)→ancB ops f i j=true→listed.getD j false=true:=by
 intro f
 induction f with
 | zero=>intro i j o _ _ h;cases h
 | succ f ih =>
  intro i j o ho hdp h
  simp only[ancB,ho,Bool.or_eq_true,List.contains_eq_mem,decide_eq_true_eq,List.any_eq_true]at h
  rcases h with h | ⟨k,hk,h⟩
  ·exact hdp j h
  ·cases hok:ops[k]? with
   | none=>cases f<;>simp[ancB,hok]at h
   | some o'=>exact ih k j o' hok (hcl k o' hok (hdp k hk)) h

theorem stepD_congr {K:OrD} {e e':Env} {H:Hp} {o:VOp} {Q:IV×Hp→Prop} (h:∀ n∈opnds o,Env.get e n=Env.get e' n) (hs:stepD K e H o Q):stepD K e' H o Q:=by
 by_cases h1:∃ f az,o=.call f az
 ·obtain⟨f,az,rfl⟩:=h1
  simp only[stepD]at hs ⊢
  rw[← ods_congr h];exact hs
 ·by_cases h2:∃ x az,o=.clv x az
  ·obtain⟨x,az,rfl⟩:=h2
   simp only[stepD]at hs ⊢
   rw[← od_congr (x:=x) (e:=e) (fun n hn=>h n (by simp[opnds,hn])),← ods_congr (e:=e) (fun n hn=>h n (by unfold opnds;exact List.mem_append.2 (.inr hn)))]
   exact hs
  ·unfold stepD at hs ⊢
   split at hs
   ·exact (h1 ⟨_,_,rfl⟩).elim
   ·exact (h2 ⟨_,_,rfl⟩).elim
   ·rw[← step_congr h];exact hs

theorem runOpD_congr {K:OrD} (hm:MonoK K) {vo:VO} {e e':Env} {H:Hp} {k k':St→Prop} (h:∀ n∈reads vo,Env.get e n=Env.get e' n)
  (hk:∀ v H',k ⟨setD e vo.d v,H'⟩→k' ⟨setD e' vo.d v,H'⟩) (hr:runOpD K vo ⟨e,H⟩ k):runOpD K vo ⟨e',H⟩ k':=by
 have ho:∀ n∈opnds vo.o,Env.get e n=Env.get e' n:=fun n hn=>h n (by simp[reads,hn])
 obtain⟨d,o,gd,dp,ck,rc⟩:=vo
 cases gd with
 | none=>exact stepD_le hm.le (fun r=>hk r.1 r.2) (stepD_congr ho hr)
 | some p =>
  obtain⟨g,w⟩:=p
  have hg:Env.get e g=Env.get e' g:=h g (by simp[reads])
  simp only[runOpD]at hr ⊢
  rw[← hg]
  split at hr
  ·split at hr
   ·rename_i hc;rw[if_pos hc];exact stepD_le hm.le (fun r=>hk r.1 r.2) (stepD_congr ho hr)
   ·rename_i hc;rw[if_neg hc];exact hk _ _ hr
  ·exact hk _ _ hr
  ·exact hr

def isE:VOp→Bool
 | .alloc _ | .box _ | .bsl .. | .s2b _ | .mks .. | .call .. | .clv .. | .app .. | .st .. | .clr ..=>true
 | _=>false

def isR:VOp→Bool
 | .ld .. | .slc ..=>true
 | _=>false

def rdv (e:Env):VOp→CV
 | .ld _ a=>match a.get e with
  | .c v=>v
  | _=>.non
 | .slc _ x _ _=>match x.get e with
  | .c v=>v
  | _=>.non
 | _=>.non

def sameAt (v:CV) (H H':Hp):Prop:=
 match v with
 | .p id g _=>rdOb H' id g=rdOb H id g
 | .sl id g _ _=>rdOb H' id g=rdOb H id g
 | _=>True

theorem sameAt.symm {v:CV} {H H':Hp} (h:sameAt v H H'):sameAt v H' H:=by
 cases v<;>first | exact trivial | exact Eq.symm h

theorem sameAt.trans {v:CV} {H H' H'':Hp} (h:sameAt v H H') (k:sameAt v H' H''):sameAt v H H'':=by
 cases v<;>first | exact trivial | exact Eq.trans k h

theorem rdv_pure {e:Env} {o:VOp} (h:isR o=false):rdv e o=.non:=by
 cases o<;>first | rfl | (simp[isR]at h)

theorem rdv_congr {e e':Env} {o:VOp} (h:∀ n∈opnds o,Env.get e n=Env.get e' n):rdv e o=rdv e' o:=by
 cases o<;>first | rfl | skip
 ·rename_i n a
  simp only[rdv];rw[od_congr (e':=e') (fun m hm=>h m (by simp[opnds,hm]))]
 ·rename_i sz x lo hi
  simp only[rdv];rw[od_congr (e':=e') (fun m hm=>h m (by simp[opnds,hm]))]

theorem det_step {e:Env} {H H':Hp} {o:VOp} (ho:isE o=false) (hs:sameAt (rdv e o) H H'):stepV noK e H' o=(stepV noK e H o).map fun r=>(r.1,H'):=by
 cases o<;>first | (simp[isE]at ho;done) | skip
 case ld n a =>
  cases n with
  | none =>
   simp only[stepV,rdv]at hs ⊢
   split
   ·rename_i id g off hu
    rw[hu]at hs
    have hs:rdOb H' id g=rdOb H id g:=hs
    simp only[hs]
    cases rdOb H id g with
    | none=>rfl
    | some o=>simp only[Option.bind_some];cases o.cells[off]?<;>rfl
   ·rfl
  | some n =>
   simp only[stepV,rdv]at hs ⊢
   split
   ·rename_i id g off hu
    rw[hu]at hs
    have hs:rdOb H' id g=rdOb H id g:=hs
    simp only[hs]
    cases rdOb H id g with
    | none=>rfl
    | some o=>simp only[Option.bind_some];split<;>rfl
   ·rfl
 case slc sz x lo hi =>
  simp only[stepV,rdv]at hs ⊢
  split
  ·rename_i v hu
   rw[hu]at hs
   have hd:doSlice H' sz v (lo.map (Od.get e)) (hi.map (Od.get e))=doSlice H sz v (lo.map (Od.get e)) (hi.map (Od.get e)):=by
    cases v<;>first | rfl | skip
    rename_i id g off len
    have hs:rdOb H' id g=rdOb H id g:=hs
    simp only[doSlice,hs]
   rw[hd]
   cases doSlice H sz v (lo.map (Od.get e)) (hi.map (Od.get e))<;>rfl
  ·rfl
 case mv x=>rfl
 case pick c a b=>simp only[stepV];split<;>rfl
 case build zs ps =>
  simp only[stepV]
  cases partsOf e ps with
  | none=>rfl
  | some qs=>simp only[Option.bind_some];cases lay zs qs<;>rfl
 case nilc x=>simp only[stepV];split<;>rfl
 case bin o x y =>
  simp only[stepV]
  split
  ·rename_i a b _ _;cases evalBin o a b<;>rfl
  ·rfl
 case shk l n x =>
  simp only[stepV]
  split
  ·split<;>rfl
  ·rfl
 case bck x lo hi mx =>
  simp only[stepV]
  split
  ·split<;>rfl
  ·rfl
 case eqa n neg x y =>
  simp only[stepV]
  split
  ·split<;>rfl
  ·rfl
 case eqb neg x y=>simp only[stepV];split<;>rfl
 case eqn neg x=>simp only[stepV];split<;>rfl
 case not x=>simp only[stepV];split<;>rfl
 case b2i x=>simp only[stepV];split<;>rfl
 case fad off x=>simp only[stepV];split<;>rfl
 case idx sz x i =>
  simp only[stepV]
  split
  ·split<;>rfl
  ·rfl
 case ext k x =>
  simp only[stepV]
  split
  ·rename_i xs _
   cases xs[k]? with
   | none=>rfl
   | some t=>simp only[Option.bind_some];cases ivOf t<;>rfl
  ·rfl
 case mkf f caps=>simp only[stepV];cases capsOf e caps<;>rfl
 case len x=>simp only[stepV];split<;>rfl
 case lens x=>simp only[stepV];split<;>rfl
 case mn x y=>simp only[stepV];split<;>rfl
 case mx x y=>simp only[stepV];split<;>rfl

def valO (vo:VO) (e:Env) (H:Hp):Option IV:=
 match vo.gd with
 | none=>(stepV noK e H vo.o).map (·.1)
 | some (s,w)=>match Env.get e s with
  | .c (.b x)=>if x=w then (stepV noK e H vo.o).map (·.1) else some (.c .und)
  | .c .und=>some (.c .und)
  | _=>none

theorem detD {K:OrD} {vo:VO} {e:Env} {H:Hp} {k:St→Prop} (ho:isE vo.o=false):runOpD K vo ⟨e,H⟩ k↔∃ v,valO vo e H=some v∧k ⟨setD e vo.d v,H⟩:=by
 have hst:∀ Q:IV×Hp→Prop,stepD K e H vo.o Q↔∃ v,(stepV noK e H vo.o).map (·.1)=some v∧Q (v,H):=by
  intro Q
  have h2:∀ r,stepV noK e H vo.o=some r→r.2=H:=by
   intro r hr
   have:=det_step (e:=e) (H:=H) (H':=H) ho (by cases rdv e vo.o<;>first | exact trivial | exact rfl)
   rw[hr]at this
   simp only[Option.map_some,Option.some.injEq]at this
   rw[this]
  have h3:stepD K e H vo.o Q=WP (stepV noK e H vo.o) Q:=by
   unfold stepD
   split
   ·rename_i h;rw[h]at ho;simp[isE]at ho
   ·rename_i h;rw[h]at ho;simp[isE]at ho
   ·rfl
  rw[h3]
  constructor
  ·rintro⟨⟨v,H'⟩,h4,h5⟩
   have:=h2 _ h4
   simp only at this
   subst this
   exact⟨v,by rw[h4];rfl,h5⟩
  ·rintro⟨v,h4,h5⟩
   rw[Option.map_eq_some_iff]at h4
   obtain⟨⟨v',H'⟩,h6,h7⟩:=h4
   have:=h2 _ h6
   simp only at this h7
   subst this;subst h7
   exact⟨_,h6,h5⟩
 unfold runOpD valO
 cases hg:vo.gd with
 | none=>exact hst _
 | some p =>
  obtain⟨s,w⟩:=p
  simp only
  cases hgs:Env.get e s with
  | c v =>
   cases v with
   | b x =>
    by_cases hc:x=w
    ·simp only[if_pos hc];exact hst _
    ·simp only[if_neg hc];simp
   | _=>simp
  | _=>simp

theorem valO_congr {vo:VO} {e e':Env} {H:Hp} (h:∀ n∈reads vo,Env.get e n=Env.get e' n):valO vo e H=valO vo e' H:=by
 have ho:∀ n∈opnds vo.o,Env.get e n=Env.get e' n:=fun n hn=>h n (by simp[reads,hn])
 obtain⟨d,o,gd,dp,ck,rc⟩:=vo
 cases gd with
 | none=>simp only[valO];rw[step_congr ho]
 | some p =>
  obtain⟨g,w⟩:=p
  have hg:Env.get e g=Env.get e' g:=h g (by simp[reads])
  simp only[valO]
  rw[hg,step_congr ho]

theorem valO_same {vo:VO} {e:Env} {H H':Hp} (ho:isE vo.o=false) (hs:sameAt (rdv e vo.o) H H'):valO vo e H'=valO vo e H:=by
 have h1:(stepV noK e H' vo.o).map (·.1)=(stepV noK e H vo.o).map (·.1):=by
  rw[det_step ho hs,Option.map_map];rfl
 unfold valO
 rw[h1]

def runL (K:OrD) (cx:Nat→Nat→Bool):List (Nat×VO)→List (Nat×CV)→List (Nat×Hp)→St→(St→Prop)→Prop
 | [],_,_,st,k=>k st
 | p :: r,rs,es,st,k =>
  if isE p.2.o=true then runOpD K p.2 st fun s=>(∀ q∈rs,cx p.1 q.1=true→sameAt q.2 st.h s.h)∧runL K cx r rs ((p.1,st.h) :: es) s k
  else runOpD K p.2 st fun s=>(∀ q∈es,cx p.1 q.1=true→sameAt (rdv st.e p.2.o) q.2 st.h)∧runL K cx r ((p.1,rdv st.e p.2.o) :: rs) es s k

def EqE (st st':St):Prop:=st.h=st'.h∧∀ n,Env.get st.e n=Env.get st'.e n

theorem EqE.setD {e e':Env} {d:Option Nat} {v:IV} {H:Hp} (h:∀ n,Env.get e n=Env.get e' n):EqE ⟨setD e d v,H⟩ ⟨Vm.setD e' d v,H⟩:=
 ⟨rfl,fun n=>by show Env.get (Vm.setD e d v) n=Env.get (Vm.setD e' d v) n;rw[get_setD,get_setD,h n]⟩

section

variable {K:OrD} {cx:Nat→Nat→Bool}

theorem runL_weak (hm:MonoK K):∀ {L:List (Nat×VO)} {rs rs':List (Nat×CV)} {es es':List (Nat×Hp)} {st:St} {k:St→Prop},(∀ q∈rs',q∈rs)→(∀ q∈es',q∈es)→runL K cx L rs es st k→runL K cx L rs' es' st k:=by
 intro L
 induction L with
 | nil=>intro rs rs' es es' st k _ _ h;exact h
 | cons p r ih =>
  intro rs rs' es es' st k h1 h2 h
  simp only[runL]at h ⊢
  split at h
  ·rename_i hc;rw[if_pos hc];exact runOpD_le hm.le (fun s hs=>⟨fun q hq=>hs.1 q (h1 q hq),ih h1 (fun q hq=>by rcases List.mem_cons.1 hq with rfl | hq;exact List.mem_cons_self;exact List.mem_cons_of_mem _ (h2 q hq)) hs.2⟩) h
  ·rename_i hc;rw[if_neg hc];exact runOpD_le hm.le (fun s hs=>⟨fun q hq=>hs.1 q (h2 q hq),ih (fun q hq=>by rcases List.mem_cons.1 hq with rfl | hq;exact List.mem_cons_self;exact List.mem_cons_of_mem _ (h1 q hq)) h2 hs.2⟩) h

theorem runL_eq (hm:MonoK K):∀ {L:List (Nat×VO)} {rs:List (Nat×CV)} {es:List (Nat×Hp)} {st st':St} {k:St→Prop},(∀ s s',EqE s s'→k s→k s')→EqE st st'→runL K cx L rs es st k→runL K cx L rs es st' k:=by
 intro L
 induction L with
 | nil=>intro rs es st st' k hk he h;exact hk _ _ he h
 | cons p r ih =>
  intro rs es st st' k hk he h
  obtain⟨e,H⟩:=st
  obtain⟨e',H'⟩:=st'
  obtain⟨rfl,he⟩:=he
  simp only[runL]at h ⊢
  split at h
  ·rename_i hc;rw[if_pos hc];exact runOpD_congr hm (fun n _=>he n) (fun v H' hs=>⟨hs.1,ih hk (EqE.setD he) hs.2⟩) h
  ·rename_i hc
   rw[if_neg hc,rdv_congr (e:=e') (e':=e) (fun n _=>(he n).symm)]
   exact runOpD_congr hm (fun n _=>he n) (fun v H' hs=>⟨hs.1,ih hk (EqE.setD he) hs.2⟩) h

theorem runL_cons (hm:MonoK K) {p:Nat×VO} {L L':List (Nat×VO)} {k:St→Prop} (hL:∀ rs es s,runL K cx L rs es s k→runL K cx L' rs es s k) {rs:List (Nat×CV)} {es:List (Nat×Hp)} {st:St} (h:runL K cx (p :: L) rs es st k):runL K cx (p :: L') rs es st k:=by
 simp only[runL]at h ⊢
 split at h
 ·rename_i hc;rw[if_pos hc];exact runOpD_le hm.le (fun s hs=>⟨hs.1,hL _ _ _ hs.2⟩) h
 ·rename_i hc;rw[if_neg hc];exact runOpD_le hm.le (fun s hs=>⟨hs.1,hL _ _ _ hs.2⟩) h

structure Ind (cx:Nat→Nat→Bool) (a b:Nat×VO):Prop where
 ab:∀ n,a.2.d=some n→n∉reads b.2
 ba:∀ n,b.2.d=some n→n∉reads a.2
 dd:∀ n,a.2.d=some n→b.2.d≠some n
 one:isE a.2.o=true→isE b.2.o=true→False
 ra:isE b.2.o=true→isR a.2.o=true→cx b.1 a.1=true
 rb:isE a.2.o=true→isR b.2.o=true→cx b.1 a.1=true

theorem get_ne {e:Env} {d:Option Nat} {v:IV} {n:Nat} (h:d≠some n):Env.get (setD e d v) n=Env.get e n:=by rw[get_setD,if_neg h]

theorem swapEq {e:Env} {d d':Option Nat} {v v':IV} {H:Hp} (h:∀ n,d=some n→d'≠some n):EqE ⟨setD (setD e d v) d' v',H⟩ ⟨setD (setD e d' v') d v,H⟩:=by
 refine⟨rfl,fun n=>?_⟩
 simp only[get_setD]
 by_cases h1:d=some n
 ·have:=h n h1
  simp[h1,this]
 ·simp[h1]

theorem mem_swap {α:Type} {x y:α} {l:List α}:∀ q∈x :: y :: l,q∈y :: x :: l:=by
 intro q hq
 simp only[List.mem_cons]at hq ⊢
 rcases hq with h | h | h
 ·exact .inr (.inl h)
 ·exact .inl h
 ·exact .inr (.inr h)

theorem runL_swap (hm:MonoK K) (hn:NM K) (hs:∀ i j,cx i j=cx j i) {a b:Nat×VO} (hI:Ind cx a b) {r:List (Nat×VO)} {k:St→Prop} (hk:∀ s s',EqE s s'→k s→k s') {rs:List (Nat×CV)} {es:List (Nat×Hp)} {st:St}
  (h:runL K cx (a :: b :: r) rs es st k):runL K cx (b :: a :: r) rs es st k:=by
 obtain⟨ia,oa⟩:=a
 obtain⟨ib,ob⟩:=b
 obtain⟨e,H⟩:=st
 have eb:∀ v n,n∈reads ob→Env.get (setD e oa.d v) n=Env.get e n:=fun v n hn'=>get_ne fun hc=>hI.ab n hc hn'
 have ea:∀ v n,n∈reads oa→Env.get (setD e ob.d v) n=Env.get e n:=fun v n hn'=>get_ne fun hc=>hI.ba n hc hn'
 have rob:∀ v,rdv (setD e oa.d v) ob.o=rdv e ob.o:=fun v=>rdv_congr fun n hn'=>eb v n (by simp[reads,hn'])
 have roa:∀ v,rdv (setD e ob.d v) oa.o=rdv e oa.o:=fun v=>rdv_congr fun n hn'=>ea v n (by simp[reads,hn'])
 by_cases hA:isE oa.o=true
 ·have hB:isE ob.o=false:=by
   cases hB:isE ob.o with
   | false=>rfl
   | true=>exact (hI.one hA hB).elim
  have hB':¬ isE ob.o=true:=by rw[hB];simp
  simp only[runL,hA,if_true,if_neg hB']at h ⊢
  have hb:∃ vb,valO ob e H=some vb∧∀ q∈es,cx ib q.1=true→sameAt (rdv e ob.o) q.2 H:=by
   obtain⟨va,H',hc1,h1⟩:=runOpD_nm hn h
   obtain⟨vb,h2,h3,h4⟩:=(detD hB).1 h1
   rw[rob]at h3
   have hsame:sameAt (rdv e ob.o) H H':=by
    by_cases hR:isR ob.o=true
    ·exact h3 (ia,H) List.mem_cons_self (hI.rb hA hR)
    ·rw[rdv_pure (by simpa using hR)];exact trivial
   refine⟨vb,?_,fun q hq hcq=>?_⟩
   ·rw[← h2,valO_congr (e:=setD e oa.d va) (e':=e) (eb va)]
    exact (valO_same hB hsame).symm
   ·exact sameAt.trans (h3 q (List.mem_cons_of_mem _ hq) hcq) hsame.symm
  obtain⟨vb,hvb,hcb⟩:=hb
  refine (detD hB).2 ⟨vb,hvb,hcb,?_⟩
  refine runOpD_congr hm (e:=e) (fun n hn'=>(ea vb n hn').symm) (fun va H' hq=>?_) h
  obtain⟨hc1,h1⟩:=hq
  obtain⟨vb',h2,h3,h4⟩:=(detD hB).1 h1
  rw[rob]at h3 h4
  have hsame:sameAt (rdv e ob.o) H H':=by
   by_cases hR:isR ob.o=true
   ·exact h3 (ia,H) List.mem_cons_self (hI.rb hA hR)
   ·rw[rdv_pure (by simpa using hR)];exact trivial
  have:vb'=vb:=by
   rw[valO_congr (e:=setD e oa.d va) (e':=e) (eb va),valO_same hB hsame,hvb]at h2
   injection h2 with h2;exact h2.symm
  subst this
  refine⟨fun q hq hcq=>?_,?_⟩
  ·rcases List.mem_cons.1 hq with rfl | hq
   ·exact hsame
   ·exact hc1 q hq hcq
  ·exact runL_eq hm hk (swapEq hI.dd) h4
 ·have hA':isE oa.o=false:=by simpa using hA
  by_cases hB:isE ob.o=true
  ·simp only[runL,hB,if_true,if_neg hA]at h ⊢
   obtain⟨va,hva,hca,h1⟩:=(detD hA').1 h
   refine runOpD_congr hm (e:=setD e oa.d va) (fun n hn'=>eb va n hn') (fun vb H' hq=>?_) h1
   obtain⟨hc1,h2⟩:=hq
   have hsame:sameAt (rdv e oa.o) H H':=by
    by_cases hR:isR oa.o=true
    ·exact hc1 (ia,rdv e oa.o) List.mem_cons_self (hI.ra hB hR)
    ·rw[rdv_pure (by simpa using hR)];exact trivial
   refine⟨fun q hq=>hc1 q (List.mem_cons_of_mem _ hq),(detD hA').2 ⟨va,?_,?_,?_⟩⟩
   ·rw[valO_congr (e:=setD e ob.d vb) (e':=e) (ea vb),valO_same hA' hsame];exact hva
   ·intro q hq hcq
    rw[roa]
    rcases List.mem_cons.1 hq with rfl | hq
    ·exact hsame
    ·exact sameAt.trans (hca q hq hcq) hsame
   ·rw[roa]
    exact runL_eq hm hk (swapEq hI.dd) h2
  ·have hB':isE ob.o=false:=by simpa using hB
   simp only[runL,if_neg hB,if_neg hA]at h ⊢
   obtain⟨va,hva,hca,h1⟩:=(detD hA').1 h
   obtain⟨vb,hvb,hcb,h2⟩:=(detD hB').1 h1
   refine (detD hB').2 ⟨vb,?_,?_,(detD hA').2 ⟨va,?_,?_,?_⟩⟩
   ·rw[← hvb];exact (valO_congr (eb va)).symm
   ·intro q hq hcq;have:=hcb q hq hcq;rwa [rob]at this
   ·rw[← hva];exact valO_congr (ea vb)
   ·intro q hq hcq;have:=hca q hq hcq;rwa [roa]
   ·rw[roa]
    rw[rob]at h2
    exact runL_weak hm mem_swap (fun q hq=>hq) (runL_eq hm hk (swapEq hI.dd) h2)

theorem runL_hoist (hm:MonoK K) (hn:NM K) (hs:∀ i j,cx i j=cx j i) {p:Nat×VO} {k:St→Prop} (hk:∀ s s',EqE s s'→k s→k s'):∀ {pre post:List (Nat×VO)} {rs:List (Nat×CV)} {es:List (Nat×Hp)} {st:St},(∀ q∈pre,Ind cx q p) →
  runL K cx (pre++p :: post) rs es st k→runL K cx (p :: (pre++post)) rs es st k:=by
 intro pre
 induction pre with
 | nil=>intro post rs es st _ h;exact h
 | cons q pre ih =>
  intro post rs es st hI h
  have h1:runL K cx (q :: p :: (pre++post)) rs es st k:=runL_cons hm (fun rs es s h=>ih (fun x hx=>hI x (List.mem_cons_of_mem _ hx)) h) h
  exact runL_swap hm hn hs (hI q List.mem_cons_self) hk h1

end
def SameRun (x o:VO):Prop:=x.d=o.d∧x.o=o.o∧x.gd=o.gd

theorem SameRun.run {x o:VO} (h:SameRun x o) {K:OrD} {st:St} {k:St→Prop}:runOpD K x st k=runOpD K o st k:=by
 obtain⟨d,o1,gd,dp,ck,rc⟩:=x
 obtain⟨d',o1',gd',dp',ck',rc'⟩:=o
 obtain⟨h1,h2,h3⟩:=h
 simp only at h1 h2 h3
 subst h1;subst h2;subst h3
 rfl

structure OrdOk (ops:List VO) (cx:Nat→Nat→Bool) (L0:List (Nat×VO)):Prop where
 mem:∀ i o,ops[i]? = some o→∃ x,(i,x)∈L0
 sub:∀ p∈L0,∃ o,ops[p.1]? = some o∧SameRun p.2 o
 nd:L0.Pairwise fun a b=>a.1≠b.1
 dp:∀ pre p post,L0=pre++p :: post→∀ o,ops[p.1]? = some o→∀ j∈o.dp,∃ q∈pre,q.1=j
 ind:L0.Pairwise fun a b=>(∃ f,ancB ops f b.1 a.1=true)∨Ind cx a b

def rem (L0:List (Nat×VO)) (listed:List Bool):List (Nat×VO):=L0.filter fun p=>!listed.getD p.1 true

theorem getD_set {l:List Bool} {i j:Nat}:(l.set i true).getD j true=if j=i then true else l.getD j true:=by
 by_cases e:j=i
 ·subst e
  rw[if_pos rfl,List.getD_eq_getElem?_getD,List.getElem?_set]
  simp
  split<;>rfl
 ·rw[if_neg e,List.getD_eq_getElem?_getD,List.getD_eq_getElem?_getD,List.getElem?_set_ne (by omega)]

theorem getD_setF {l:List Bool} {i j:Nat} (hi:i<l.length):(l.set i true).getD j false=if j=i then true else l.getD j false:=by
 by_cases e:j=i
 ·subst e
  rw[if_pos rfl,List.getD_eq_getElem?_getD,List.getElem?_set_self hi];rfl
 ·rw[if_neg e,List.getD_eq_getElem?_getD,List.getD_eq_getElem?_getD,List.getElem?_set_ne (by omega)]

theorem rem_split {L0:List (Nat×VO)} {listed:List Bool} {p:Nat×VO} {R:Nat×VO→Nat×VO→Prop} (hnd:L0.Pairwise fun a b=>a.1≠b.1) (hR:L0.Pairwise R) (hp:p∈L0) (hi:listed.getD p.1 true=false) :
  ∃ pre post,rem L0 listed=pre++p :: post∧rem L0 (listed.set p.1 true)=pre++post∧∀ q∈pre,R q p∧listed.getD q.1 true=false:=by
 have hmem:p∈rem L0 listed:=by
  unfold rem
  rw[List.mem_filter]
  exact⟨hp,by rw[hi];rfl⟩
 obtain⟨pre,post,h⟩:=List.append_of_mem hmem
 have hp1:(rem L0 listed).Pairwise fun a b=>a.1≠b.1:=List.Pairwise.filter _ hnd
 have hp2:(rem L0 listed).Pairwise R:=List.Pairwise.filter _ hR
 rw[h,List.pairwise_append,List.pairwise_cons]at hp1 hp2
 obtain⟨p1,⟨p2,p3⟩,p4⟩:=hp1
 refine⟨pre,post,h,?_,fun q hq=>⟨hp2.2.2 q hq p List.mem_cons_self,?_⟩⟩
 ·have h2:rem L0 (listed.set p.1 true)=(rem L0 listed).filter fun q=>!decide (q.1=p.1):=by
   unfold rem
   rw[List.filter_filter]
   apply List.filter_congr
   intro q _
   rw[getD_set]
   by_cases e:q.1=p.1<;>simp[e]
  rw[h2,h,List.filter_append,List.filter_cons_of_neg (by simp)]
  rw[List.filter_eq_self.2 (fun q hq=>?_),List.filter_eq_self.2 (fun q hq=>?_)]
  ·have:=p2 q hq
   simp[Ne.symm this]
  ·have:=p4 q hq p List.mem_cons_self
   simp[this]
 ·have hq2:q∈rem L0 listed:=by rw[h];exact List.mem_append.2 (.inl hq)
  unfold rem at hq2
  rw[List.mem_filter]at hq2
  simpa using hq2.2

theorem ready_rem {ops:List VO} {cx:Nat→Nat→Bool} {L0:List (Nat×VO)} {listed:List Bool} (ho:OrdOk ops cx L0) (hl:listed.length=ops.length) (h:readyV ops listed=[]):rem L0 listed=[]:=by
 cases hr:rem L0 listed with
 | nil=>rfl
 | cons p t =>
  exfalso
  unfold rem at hr
  rw[List.filter_eq_cons_iff]at hr
  obtain⟨l1,l2,h1,h2,h3,_⟩:=hr
  obtain⟨o,hop,_⟩:=ho.sub p (by rw[h1];simp)
  have hi:p.1<ops.length:=(List.getElem?_eq_some_iff.1 hop).1
  have:p.1∈readyV ops listed:=by
   unfold readyV
   rw[List.mem_filter,List.mem_range]
   refine⟨hi,?_⟩
   rw[hop]
   simp only[Bool.and_eq_true,Option.map_some,Option.getD_some,List.all_eq_true]
   refine⟨h3,fun j hj=>?_⟩
   obtain⟨q,hq,rfl⟩:=ho.dp l1 p l2 h1 o hop j hj
   have h4:=h2 q hq
   simp only[Bool.not_eq_true',Bool.not_eq_false]at h4
   obtain⟨oq,hoq,_⟩:=ho.sub q (by rw[h1];exact List.mem_append.2 (.inl hq))
   have hql:q.1<listed.length:=by rw[hl];exact (List.getElem?_eq_some_iff.1 hoq).1
   rw[List.getD_eq_getElem?_getD,List.getElem?_eq_getElem hql]at h4 ⊢
   exact h4
  rw[h]at this
  cases this

theorem runAll_of {K:OrD} (hm:MonoK K) (hn:NM K) {ops:List VO} {cx:Nat→Nat→Bool} (hs:∀ i j,cx i j=cx j i) {L0:List (Nat×VO)} (ho:OrdOk ops cx L0) {Q:St→Prop} (hQ:∀ s s',EqE s s'→Q s→Q s') :
  ∀ (n:Nat) {listed:List Bool} {st:St} {rs:List (Nat×CV)} {es:List (Nat×Hp)},listed.length=ops.length→n=(rem L0 listed).length →
   (∀ (i:Nat) (o:VO),ops[i]? = some o→listed.getD i false=true→∀ j∈o.dp,listed.getD j false=true) →
   runL K cx (rem L0 listed) rs es st Q→RunAllD K ops Q n listed st:=by
 intro n
 induction n with
 | zero =>
  intro listed st rs es hl hn0 hc h
  have h0:rem L0 listed=[]:=List.eq_nil_of_length_eq_zero hn0.symm
  rw[h0]at h
  refine⟨?_,h⟩
  cases hr:readyV ops listed with
  | nil=>rfl
  | cons i r =>
   exfalso
   obtain⟨o,hoi,hf,_⟩:=mem_ready (ops:=ops) (listed:=listed) (i:=i) (by rw[hr];simp)
   obtain⟨x,hx⟩:=ho.mem i o hoi
   obtain⟨pre,post,hs,_⟩:=rem_split ho.nd ho.nd hx hf
   rw[h0]at hs
   cases pre<;>simp at hs
 | succ n ih =>
  intro listed st rs es hl hn1 hc h
  refine⟨fun hr=>?_,fun i hi=>?_⟩
  ·rw[ready_rem ho hl hr]at h;exact h
  ·obtain⟨o,hoi,hf,hdp⟩:=mem_ready hi
   obtain⟨x,hx⟩:=ho.mem i o hoi
   obtain⟨o',hoi',hsame⟩:=ho.sub _ hx
   rw[hoi]at hoi';injection hoi' with hoi';subst hoi'
   obtain⟨pre,post,hsp,hsp',hpre⟩:=rem_split ho.nd ho.ind hx hf
   have hil:i<listed.length:=by rw[hl];exact (List.getElem?_eq_some_iff.1 hoi).1
   refine⟨o,hoi,?_⟩
   have hind:∀ q∈pre,Ind cx q (i,x):=by
    intro q hq
    obtain⟨q1,q3⟩:=hpre q hq
    rcases q1 with⟨f,hf'⟩ | hI
    ·exfalso
     have hqm:q∈rem L0 listed:=by rw[hsp];exact List.mem_append.2 (.inl hq)
     obtain⟨oq,hoq,_⟩:=ho.sub q (List.mem_filter.1 hqm).1
     have:=anc_listed hc f i q.1 o hoi hdp hf'
     have hjl:q.1<listed.length:=by rw[hl];exact (List.getElem?_eq_some_iff.1 hoq).1
     rw[List.getD_eq_getElem?_getD,List.getElem?_eq_getElem hjl]at this q3
     simp only[Option.getD_some]at this q3
     rw[q3]at this;cases this
    ·exact hI
   rw[hsp]at h
   have h1:=runL_hoist hm hn hs hQ hind h
   have hlen:n=(rem L0 (listed.set i true)).length:=by
    rw[hsp]at hn1
    rw[hsp']
    simp at hn1 ⊢
    omega
   have hcl:∀ (i':Nat) (o':VO),ops[i']? = some o'→(listed.set i true).getD i' false=true→∀ j∈o'.dp,(listed.set i true).getD j false=true:=by
    intro i' o' ho' hl' j hj
    rw[getD_setF hil]at hl' ⊢
    by_cases e:i'=i
    ·subst e
     rw[hoi]at ho';injection ho' with ho';subst ho'
     split
     ·rfl
     ·exact hdp j hj
    ·rw[if_neg e]at hl'
     split
     ·rfl
     ·exact hc i' o' ho' hl' j hj
   rw[← hsame.run]
   simp only[runL]at h1
   split at h1
   ·exact runOpD_le hm.le (fun s hs1=>ih (by simpa using hl) hlen hcl (by rw[hsp'];exact hs1.2)) h1
   ·exact runOpD_le hm.le (fun s hs1=>ih (by simpa using hl) hlen hcl (by rw[hsp'];exact hs1.2)) h1


def chkE (ck:List Nat) (H H':Hp):List (Nat×CV)→Prop
 | []=>True
 | q :: r=>(q.1∈ck→sameAt q.2 H H')∧chkE ck H H' r

def chkR (ck:List Nat) (v:CV) (H':Hp):List (Nat×Hp)→Prop
 | []=>True
 | q :: r=>(q.1∈ck→sameAt v q.2 H')∧chkR ck v H' r

def runC (K:OrD):List (Nat×VO)→List (Nat×CV)→List (Nat×Hp)→St→(St→Prop)→Prop
 | [],_,_,st,k=>k st
 | p :: r,rs,es,st,k =>
  if isE p.2.o=true then runOpD K p.2 st fun s=>chkE p.2.ck st.h s.h rs∧runC K r rs (if p.2.rc=true then (p.1,st.h) :: es else es) s k
  else runOpD K p.2 st fun s=>chkR p.2.ck (rdv st.e p.2.o) st.h es∧runC K r (if p.2.rc=true then (p.1,rdv st.e p.2.o) :: rs else rs) es s k

theorem chkE_at {ck:List Nat} {H H':Hp}:∀ {rs:List (Nat×CV)},chkE ck H H' rs→∀ q∈rs,q.1∈ck→sameAt q.2 H H':=by
 intro rs
 induction rs with
 | nil=>intro _ q hq;cases hq
 | cons p r ih =>
  intro h q hq
  rcases List.mem_cons.1 hq with rfl | hq
  ·exact h.1
  ·exact ih h.2 q hq

theorem chkR_at {ck:List Nat} {v:CV} {H':Hp}:∀ {rs:List (Nat×Hp)},chkR ck v H' rs→∀ q∈rs,q.1∈ck→sameAt v q.2 H':=by
 intro rs
 induction rs with
 | nil=>intro _ q hq;cases hq
 | cons p r ih =>
  intro h q hq
  rcases List.mem_cons.1 hq with rfl | hq
  ·exact h.1
  ·exact ih h.2 q hq

def ckL (L:List (Nat×VO)) (i:Nat):List Nat:=((L.lookup i).map (·.ck)).getD []

def rcL (L:List (Nat×VO)) (i:Nat):Bool:=((L.lookup i).map (·.rc)).getD false

def cxL (L:List (Nat×VO)) (i j:Nat):Bool:=(ckL L i).contains j || (ckL L j).contains i

def CkOk (L:List (Nat×VO)):Prop:=∀ pre p post,L=pre++p :: post→∀ j∈p.2.ck,rcL L j=true∧∃ q∈pre,q.1=j

theorem lookup_mem {L:List (Nat×VO)} (hnd:L.Pairwise fun a b=>a.1≠b.1) {p:Nat×VO} (hp:p∈L):L.lookup p.1=some p.2:=by
 induction L with
 | nil=>cases hp
 | cons q r ih =>
  rw[List.pairwise_cons]at hnd
  obtain⟨k,v⟩:=q
  simp only[List.lookup]
  rcases List.mem_cons.1 hp with rfl | hp
  ·simp
  ·have:(p.1 == k)=false:=by
    have:=hnd.1 p hp
    simp only[ne_eq]at this
    simpa using fun h=>this h.symm
   rw[this]
   exact ih hnd.2 hp

theorem runC_L {K:OrD} (hm:MonoK K) {L:List (Nat×VO)} (hnd:L.Pairwise fun a b=>a.1≠b.1) (hck:CkOk L) {k:St→Prop}:∀ {rest pre:List (Nat×VO)} {rs rs':List (Nat×CV)} {es es':List (Nat×Hp)} {st:St},L=pre++rest →
  (∀ q∈rs',(∃ p∈pre,p.1=q.1)∧(rcL L q.1=true→q∈rs))→(∀ q∈es',(∃ p∈pre,p.1=q.1)∧(rcL L q.1=true→q∈es))→runC K rest rs es st k→runL K (cxL L) rest rs' es' st k:=by
 intro rest
 induction rest with
 | nil=>intro pre rs rs' es es' st _ _ _ h;exact h
 | cons p r ih =>
  intro pre rs rs' es es' st hL hrs hes h
  have hp:p∈L:=by rw[hL];simp
  have hL':L=(pre++[p])++r:=by rw[hL];simp
  have hlk:=lookup_mem hnd hp
  have hcx:∀ q0∈pre,cxL L p.1 q0.1=true→q0.1∈p.2.ck∧rcL L q0.1=true:=by
   intro q0 hq0 hc
   unfold cxL at hc
   rw[Bool.or_eq_true]at hc
   rcases hc with hc | hc
   ·simp only[ckL,hlk,Option.map_some,Option.getD_some,List.contains_eq_mem,decide_eq_true_eq]at hc
    exact⟨hc,(hck pre p r hL _ hc).1⟩
   ·exfalso
    obtain⟨p1,p2,hpp⟩:=List.append_of_mem hq0
    have hq0L:q0∈L:=by rw[hL];exact List.mem_append.2 (.inl hq0)
    have hlk0:=lookup_mem hnd hq0L
    simp only[ckL,hlk0,Option.map_some,Option.getD_some,List.contains_eq_mem,decide_eq_true_eq]at hc
    have hL2:L=p1++q0 :: (p2++p :: r):=by rw[hL,hpp];simp
    obtain⟨_,q,hq,hqe⟩:=hck p1 q0 _ hL2 _ hc
    rw[hL2,List.pairwise_append]at hnd
    exact hnd.2.2 q hq p (by simp) hqe
  simp only[runC,runL]at h ⊢
  split at h
  ·rename_i hE
   rw[if_pos hE]
   refine runOpD_le hm.le (fun s hs=>⟨fun q hq hc=>?_,ih hL' (fun q hq=>?_) (fun q hq=>?_) hs.2⟩) h
   ·obtain⟨⟨q0,hq0,e0⟩,hb⟩:=hrs q hq
    rw[← e0]at hc
    obtain⟨a,b⟩:=hcx q0 hq0 hc
    rw[e0]at a b
    exact chkE_at hs.1 q (hb b) a
   ·obtain⟨⟨q0,hq0,e0⟩,hb⟩:=hrs q hq
    exact⟨⟨q0,by simp[hq0],e0⟩,hb⟩
   ·rcases List.mem_cons.1 hq with rfl | hq
    ·refine⟨⟨p,by simp,rfl⟩,fun hrc=>?_⟩
     have:p.2.rc=true:=by simpa [rcL,hlk] using hrc
     rw[if_pos this];exact List.mem_cons_self
    ·obtain⟨⟨q0,hq0,e0⟩,hb⟩:=hes q hq
     refine⟨⟨q0,by simp[hq0],e0⟩,fun hrc=>?_⟩
     split
     ·exact List.mem_cons_of_mem _ (hb hrc)
     ·exact hb hrc
  ·rename_i hE
   rw[if_neg hE]
   refine runOpD_le hm.le (fun s hs=>⟨fun q hq hc=>?_,ih hL' (fun q hq=>?_) (fun q hq=>?_) hs.2⟩) h
   ·obtain⟨⟨q0,hq0,e0⟩,hb⟩:=hes q hq
    rw[← e0]at hc
    obtain⟨a,b⟩:=hcx q0 hq0 hc
    rw[e0]at a b
    exact chkR_at hs.1 q (hb b) a
   ·rcases List.mem_cons.1 hq with rfl | hq
    ·refine⟨⟨p,by simp,rfl⟩,fun hrc=>?_⟩
     have:p.2.rc=true:=by simpa [rcL,hlk] using hrc
     rw[if_pos this];exact List.mem_cons_self
    ·obtain⟨⟨q0,hq0,e0⟩,hb⟩:=hrs q hq
     refine⟨⟨q0,by simp[hq0],e0⟩,fun hrc=>?_⟩
     split
     ·exact List.mem_cons_of_mem _ (hb hrc)
     ·exact hb hrc
   ·obtain⟨⟨q0,hq0,e0⟩,hb⟩:=hes q hq
    exact⟨⟨q0,by simp[hq0],e0⟩,hb⟩

theorem leaf_all {K:OrD} (hm:MonoK K) (hn:NM K) {ops:List VO} {L:List (Nat×VO)} (hlen:L.length=ops.length) (ho:OrdOk ops (cxL L) L) (hck:CkOk L) {Q:St→Prop} (hQ:∀ s s',EqE s s'→Q s→Q s') {st:St} (h:runC K L [] [] st Q) :
  RunAllD K ops Q ops.length (List.replicate ops.length false) st:=by
 have hrem:rem L (List.replicate ops.length false)=L:=by
  unfold rem
  rw[List.filter_eq_self]
  intro p hp
  obtain⟨o,hop,_⟩:=ho.sub p hp
  have hi:=(List.getElem?_eq_some_iff.1 hop).1
  simp[List.getD_eq_getElem?_getD,hi]
 refine runAll_of hm hn (fun i j=>Bool.or_comm _ _) ho hQ _ (rs:=[]) (es:=[]) (by simp) (by rw[hrem,hlen]) (fun i o hoi hl=>?_) ?_
 ·exfalso
  rw[List.getD_eq_getElem?_getD,List.getElem?_replicate]at hl
  split at hl<;>simp at hl
 ·rw[hrem]
  exact runC_L hm ho.nd hck (pre:=[]) rfl (fun q hq=>by cases hq) (fun q hq=>by cases hq) h


def enumF:Nat→List VO→List (Nat×VO)
 | _,[]=>[]
 | k,o :: r=>(k,o) :: enumF (k+1) r

def indB (ck:List Nat) (j:Nat) (a b:VO):Bool:=
 (match a.d with | none=>true | some n=>!(reads b).contains n && !decide (b.d=some n)) &&
 (match b.d with | none=>true | some n=>!(reads a).contains n) &&
 !(isE a.o && isE b.o) && (!((isE b.o && isR a.o) || (isE a.o && isR b.o)) || ck.contains j)

def sameB (x o:VO):Bool:=decide (x.d=o.d) && decide (x.o=o.o) && decide (x.gd=o.gd)

def goodB (ops:List VO) (L:List (Nat×VO)):List (Nat×VO)→List (Nat×VO)→Bool
 | _,[]=>true
 | pre,p :: post=>(match ops[p.1]? with
   | none=>false
   | some o=>o.dp.all fun j=>pre.any fun q=>q.1 == j) &&
  (p.2.ck.all fun j=>rcL L j && pre.any fun q=>q.1 == j) &&
  (pre.all fun q=>!(q.1 == p.1) && (ancB ops ops.length p.1 q.1 || indB p.2.ck q.1 q.2 p.2)) && goodB ops L (p :: pre) post

def leafB (ops:List VO) (L:List (Nat×VO)):Bool:=
 (L.length == ops.length) && (L.all fun p=>match ops[p.1]? with | none=>false | some o=>sameB p.2 o) && ((List.range ops.length).all fun i=>L.any fun p=>p.1 == i) && goodB ops L [] L

def drawOkB (ops:List VO):Bool:=goodB ops (enumF 0 ops) [] (enumF 0 ops)

theorem goodB_at {ops:List VO} {L:List (Nat×VO)}:∀ {post pre:List (Nat×VO)},goodB ops L pre post=true→∀ mid p rest,post=mid++p :: rest →
  (∃ o,ops[p.1]? = some o∧∀ j∈o.dp,∃ q∈mid.reverse++pre,q.1=j)∧(∀ j∈p.2.ck,rcL L j=true∧∃ q∈mid.reverse++pre,q.1=j) ∧
  ∀ q∈mid.reverse++pre,q.1≠p.1∧(ancB ops ops.length p.1 q.1=true∨indB p.2.ck q.1 q.2 p.2=true):=by
 intro post
 induction post with
 | nil=>intro pre h mid p rest e;cases mid<;>simp at e
 | cons x post ih =>
  intro pre h mid p rest e
  simp only[goodB,Bool.and_eq_true,List.all_eq_true,List.any_eq_true,beq_iff_eq,Bool.not_eq_true',beq_eq_false_iff_ne,Bool.or_eq_true]at h
  obtain⟨⟨⟨h1,h2⟩,h3⟩,h4⟩:=h
  cases mid with
  | nil =>
   simp only[List.nil_append,List.cons.injEq]at e
   obtain⟨rfl,rfl⟩:=e
   refine⟨?_,fun j hj=>?_,fun q hq=>h3 q (by simpa using hq)⟩
   ·cases ho:ops[x.1]? with
    | none=>rw[ho]at h1;cases h1
    | some o =>
     rw[ho]at h1
     simp only[List.all_eq_true,List.any_eq_true,beq_iff_eq]at h1
     exact⟨o,rfl,fun j hj=>by obtain⟨q,a,b⟩:=h1 j hj;exact⟨q,by simpa using a,b⟩⟩
   ·obtain⟨a,q,b,c⟩:=h2 j hj
    exact⟨a,q,by simpa using b,c⟩
  | cons y mid =>
   simp only[List.cons_append,List.cons.injEq]at e
   obtain⟨rfl,e⟩:=e
   have:=ih h4 mid p rest e
   simpa [List.reverse_cons,List.append_assoc] using this

theorem pairwise_of {L:List (Nat×VO)} {R:Nat×VO→Nat×VO→Prop} (h:∀ mid p rest,L=mid++p :: rest→∀ q∈mid,R q p):L.Pairwise R:=by
 have key:∀ (rest pre:List (Nat×VO)),L=pre++rest→rest.Pairwise R:=by
  intro rest
  induction rest with
  | nil=>intro _ _;exact List.Pairwise.nil
  | cons p r ih =>
   intro pre e
   refine List.Pairwise.cons (fun q hq=>?_) (ih (pre++[p]) (by rw[e];simp))
   obtain⟨a,b,hr⟩:=List.append_of_mem hq
   exact h (pre++p :: a) q b (by rw[e,hr];simp) p (by simp)
 exact key L [] rfl

theorem indB_ind {L:List (Nat×VO)} (hnd:L.Pairwise fun a b=>a.1≠b.1) {q p:Nat×VO} (hp:p∈L) (h2:indB p.2.ck q.1 q.2 p.2=true):Ind (cxL L) q p:=by
 obtain⟨j,o'⟩:=q
 obtain⟨i,o⟩:=p
 have hlk:=lookup_mem hnd hp
 simp only[indB,Bool.and_eq_true,Bool.not_eq_true',Bool.or_eq_true]at h2
 obtain⟨⟨⟨h3,h4⟩,h5⟩,h6⟩:=h2
 have hcx:(isE o.o=true∧isR o'.o=true)∨(isE o'.o=true∧isR o.o=true)→cxL L i j=true:=by
  intro hh
  unfold cxL
  rw[Bool.or_eq_true]
  left
  simp only at hlk
  simp only[ckL,hlk,Option.map_some,Option.getD_some]
  rcases h6 with h6 | h6
  ·rw[Bool.or_eq_false_iff]at h6
   rcases hh with⟨a,b⟩ | ⟨a,b⟩
   ·rw[a,b]at h6;simp at h6
   ·rw[a,b]at h6;simp at h6
  ·exact h6
 refine⟨fun n hn hr=>?_,fun n hn hr=>?_,fun n hn hr=>?_,fun a b=>?_,fun a b=>hcx (.inl ⟨a,b⟩),fun a b=>hcx (.inr ⟨a,b⟩)⟩
 ·simp only at hn;rw[hn]at h3;simp at h3;exact h3.1 hr
 ·simp only at hn;rw[hn]at h4;simp at h4;exact h4 hr
 ·simp only at hn hr;rw[hn]at h3;simp at h3;exact h3.2 hr
 ·simp only at a b;rw[a,b]at h5;simp at h5

theorem good_ok {ops:List VO} {L:List (Nat×VO)} (hm:∀ i o,ops[i]? = some o→∃ x,(i,x)∈L) (hs:∀ p∈L,∃ o,ops[p.1]? = some o∧SameRun p.2 o) (h:goodB ops L [] L=true):OrdOk ops (cxL L) L∧CkOk L:=by
 have hat:=goodB_at h
 have hnd:L.Pairwise fun a b=>a.1≠b.1:=pairwise_of fun mid p rest e q hq=>((hat mid p rest e).2.2 q (by simpa using hq)).1
 refine⟨⟨hm,hs,hnd,fun pre p post e o ho j hj=>?_,pairwise_of fun mid p rest e q hq=>?_⟩,fun pre p post e j hj=>?_⟩
 ·obtain⟨⟨o',ho',hd⟩,_⟩:=hat pre p post e
  rw[ho]at ho';injection ho' with ho';subst ho'
  obtain⟨q,a,b⟩:=hd j hj
  exact⟨q,by simpa using a,b⟩
 ·rcases ((hat mid p rest e).2.2 q (by simpa using hq)).2 with h1 | h1
  ·exact .inl ⟨_,h1⟩
  ·exact .inr (indB_ind hnd (by rw[e];simp) h1)
 ·obtain⟨a,q,b,c⟩:=(hat pre p post e).2.1 j hj
  exact⟨a,q,by simpa using b,c⟩

theorem mem_enumF:∀ {ops:List VO} {k:Nat} {p:Nat×VO},p∈enumF k ops↔k≤p.1∧ops[p.1 - k]? = some p.2:=by
 intro ops
 induction ops with
 | nil=>intro k p;simp[enumF]
 | cons o r ih =>
  intro k p
  obtain⟨i,x⟩:=p
  simp only[enumF,List.mem_cons,ih,Prod.mk.injEq]
  constructor
  ·rintro (⟨rfl,rfl⟩ | ⟨h1,h2⟩)
   ·simp
   ·refine⟨by omega,?_⟩
    rw[show i - k=(i - (k+1))+1 by omega,List.getElem?_cons_succ];exact h2
  ·rintro⟨h1,h2⟩
   by_cases e:i=k
   ·subst e;simp at h2;exact .inl ⟨rfl,h2.symm⟩
   ·refine .inr ⟨by omega,?_⟩
    rw[show i - k=(i - (k+1))+1 by omega,List.getElem?_cons_succ]at h2;exact h2

theorem enumF_length:∀ {ops:List VO} {k:Nat},(enumF k ops).length=ops.length:=by
 intro ops
 induction ops with
 | nil=>intro k;rfl
 | cons o r ih=>intro k;simp[enumF,ih]

theorem rd_all {K:OrD} (hm:MonoK K) (hn:NM K) {ops:List VO} (hd:drawOkB ops=true) {Q:St→Prop} (hQ:∀ s s',EqE s s'→Q s→Q s') {st:St} (h:runC K (enumF 0 ops) [] [] st Q) :
  RunAllD K ops Q ops.length (List.replicate ops.length false) st:=by
 obtain⟨h1,h2⟩:=good_ok (ops:=ops) (L:=enumF 0 ops) (fun i o ho=>⟨o,mem_enumF.2 ⟨Nat.zero_le _,by simpa using ho⟩⟩) (fun p hp=>⟨p.2,by simpa using (mem_enumF.1 hp).2,rfl,rfl,rfl⟩) hd
 exact leaf_all hm hn enumF_length h1 h2 hQ h


def addE (ops:List VO) (b a:Nat):List VO:=match ops[b]? with
 | none=>ops
 | some o=>ops.set b { o with dp:=a :: o.dp }

theorem addE_length (ops:List VO) (b a:Nat):(addE ops b a).length=ops.length:=by
 unfold addE;split<;>simp

theorem addE_at {ops:List VO} {b a i:Nat} {o:VO} (h:ops[i]? = some o):∃ o',(addE ops b a)[i]? = some o'∧SameRun o' o∧o'.dp=if i=b then a :: o.dp else o.dp:=by
 unfold addE
 cases hb:ops[b]? with
 | none =>
  simp only
  have:i≠b:=by rintro rfl;rw[h]at hb;cases hb
  exact⟨o,h,⟨rfl,rfl,rfl⟩,by rw[if_neg this]⟩
 | some ob =>
  simp only
  by_cases e:i=b
  ·subst e
   rw[h]at hb;injection hb with hb;subst hb
   have hi:=(List.getElem?_eq_some_iff.1 h).1
   exact⟨{ o with dp:=a :: o.dp },by rw[List.getElem?_set_self hi],⟨rfl,rfl,rfl⟩,by rw[if_pos rfl]⟩
  ·exact⟨o,by rw[List.getElem?_set_ne (Ne.symm e)];exact h,⟨rfl,rfl,rfl⟩,by rw[if_neg e]⟩

theorem addE_none {ops:List VO} {b a i:Nat} (h:ops[i]? = none):(addE ops b a)[i]? = none:=by
 rw[List.getElem?_eq_none_iff]at h ⊢
 rw[addE_length];exact h

theorem ready_add {ops:List VO} {b a i:Nat} {listed:List Bool}:i∈readyV (addE ops b a) listed↔i∈readyV ops listed∧(i=b→listed.getD a false=true):=by
 unfold readyV
 simp only[List.mem_filter,List.mem_range,addE_length,Bool.and_eq_true]
 cases h:ops[i]? with
 | none =>
  rw[addE_none h];simp
 | some o =>
  obtain⟨o',h1,_,h3⟩:=addE_at (b:=b) (a:=a) h
  rw[h1]
  simp only[Option.map_some,Option.getD_some,h3]
  by_cases e:i=b
  ·rw[if_pos e]
   simp only[List.all_cons,Bool.and_eq_true,e,forall_const]
   constructor
   ·rintro⟨x,y,z,u⟩;exact⟨⟨x,y,u⟩,z⟩
   ·rintro⟨⟨x,y,u⟩,z⟩;exact⟨x,y,z,u⟩
  ·rw[if_neg e]
   simp[e]

theorem unadd {K:OrD} (hm:MonoK K) {ops:List VO} {b a:Nat} {Q:St→Prop}:∀ {n:Nat} {listed:List Bool} {st:St},listed.getD a false=true→RunAllD K (addE ops b a) Q n listed st→RunAllD K ops Q n listed st:=by
 intro n
 induction n with
 | zero =>
  intro listed st ha h
  refine⟨?_,h.2⟩
  cases hr:readyV ops listed with
  | nil=>rfl
  | cons i r =>
   exfalso
   have:i∈readyV (addE ops b a) listed:=ready_add.2 ⟨by rw[hr];simp,fun _=>ha⟩
   rw[h.1]at this;cases this
 | succ n ih =>
  intro listed st ha h
  refine⟨fun hr=>h.1 ?_,fun i hi=>?_⟩
  ·cases hr2:readyV (addE ops b a) listed with
   | nil=>rfl
   | cons i r =>
    exfalso
    have:=(ready_add.1 (by rw[hr2];simp:i∈readyV (addE ops b a) listed)).1
    rw[hr]at this;cases this
  ·obtain⟨o',h1,h2⟩:=h.2 i (ready_add.2 ⟨hi,fun _=>ha⟩)
   obtain⟨o,ho,_⟩:=mem_ready hi
   obtain⟨o2,h3,h4,_⟩:=addE_at (b:=b) (a:=a) ho
   rw[h3]at h1;injection h1 with h1;subst h1
   refine⟨o,ho,?_⟩
   rw[← h4.run]
   refine runOpD_le hm.le (fun s hs=>ih ?_ hs) h2
   by_cases hil:i<listed.length
   ·rw[getD_setF hil];split
    ·rfl
    ·exact ha
   ·rw[List.set_eq_of_length_le (by omega)];exact ha

theorem split_all {K:OrD} (hm:MonoK K) (hc:CJ K) {ops:List VO} {a b:Nat} (hab:a≠b) (hb:b<ops.length) {Q:St→Prop}:∀ {n:Nat} {listed:List Bool} {st:St},listed.length=ops.length →
  listed.getD a true=false→listed.getD b true=false→RunAllD K (addE ops b a) Q n listed st→RunAllD K (addE ops a b) Q n listed st→RunAllD K ops Q n listed st:=by
 intro n
 induction n with
 | zero =>
  intro listed st hl ha hb h1 h2
  refine⟨?_,h1.2⟩
  cases hr:readyV ops listed with
  | nil=>rfl
  | cons i r =>
   exfalso
   by_cases e:i=b
   ·have:i∈readyV (addE ops a b) listed:=ready_add.2 ⟨by rw[hr];simp,fun h=>(hab (h.symm.trans e)).elim⟩
    rw[h2.1]at this;cases this
   ·have:i∈readyV (addE ops b a) listed:=ready_add.2 ⟨by rw[hr];simp,fun h=>(e h).elim⟩
    rw[h1.1]at this;cases this
 | succ n ih =>
  intro listed st hl ha hb h1 h2
  refine⟨fun hr=>h1.1 ?_,fun i hi=>?_⟩
  ·cases hr2:readyV (addE ops b a) listed with
   | nil=>rfl
   | cons i r =>
    exfalso
    have:=(ready_add.1 (by rw[hr2];simp:i∈readyV (addE ops b a) listed)).1
    rw[hr]at this;cases this
  ·obtain⟨o,ho,hf,_⟩:=mem_ready hi
   have hil:i<listed.length:=by rw[hl];exact (List.getElem?_eq_some_iff.1 ho).1
   refine⟨o,ho,?_⟩
   by_cases ea:i=a
   ·subst ea
    obtain⟨o',g1,g2⟩:=h1.2 i (ready_add.2 ⟨hi,fun h=>(hab h).elim⟩)
    obtain⟨o2,g3,g4,_⟩:=addE_at (b:=b) (a:=i) ho
    rw[g3]at g1;injection g1 with g1;subst g1
    rw[← g4.run]
    exact runOpD_le hm.le (fun s hs=>unadd hm (by rw[getD_setF hil,if_pos rfl]) hs) g2
   ·by_cases eb:i=b
    ·subst eb
     obtain⟨o',g1,g2⟩:=h2.2 i (ready_add.2 ⟨hi,fun h=>(ea h).elim⟩)
     obtain⟨o2,g3,g4,_⟩:=addE_at (b:=a) (a:=i) ho
     rw[g3]at g1;injection g1 with g1;subst g1
     rw[← g4.run]
     exact runOpD_le hm.le (fun s hs=>unadd hm (by rw[getD_setF hil,if_pos rfl]) hs) g2
    ·obtain⟨o',g1,g2⟩:=h1.2 i (ready_add.2 ⟨hi,fun h=>(eb h).elim⟩)
     obtain⟨o2,g3,g4,_⟩:=addE_at (b:=b) (a:=a) ho
     rw[g3]at g1;injection g1 with g1;subst g1
     obtain⟨o'',k1,k2⟩:=h2.2 i (ready_add.2 ⟨hi,fun h=>(ea h).elim⟩)
     obtain⟨o3,k3,k4,_⟩:=addE_at (b:=a) (a:=b) ho
     rw[k3]at k1;injection k1 with k1;subst k1
     rw[g4.run]at g2
     rw[k4.run]at k2
     refine runOpD_le hm.le (fun s hs=>ih (by simpa using hl) ?_ ?_ hs.1 hs.2) (runOpD_cj hc g2 k2)
     ·rw[getD_set,if_neg (Ne.symm ea)];exact ha
     ·rw[getD_set,if_neg (Ne.symm eb)];exact hb

def treeB (ops:List VO):VT→Bool
 | .leaf l=>leafB ops l
 | .split a b x y=>decide (a≠b) && decide (a<ops.length) && decide (b<ops.length) && treeB (addE ops b a) x && treeB (addE ops a b) y
 | .all os=>decide (ops=os)

def treeW (K:OrD):VT→St→(St→Prop)→Prop
 | .leaf l,st,k=>runC K l [] [] st k
 | .split _ _ x y,st,k=>treeW K x st k∧treeW K y st k
 | .all os,st,k=>RunAllD K os k os.length (List.replicate os.length false) st

theorem leafB_ok {ops:List VO} {L:List (Nat×VO)} (h:leafB ops L=true):L.length=ops.length∧OrdOk ops (cxL L) L∧CkOk L:=by
 simp only[leafB,Bool.and_eq_true,beq_iff_eq,List.all_eq_true,List.any_eq_true,List.mem_range]at h
 obtain⟨⟨⟨h1,h2⟩,h3⟩,h4⟩:=h
 refine⟨h1,good_ok (fun i o ho=>?_) (fun p hp=>?_) h4⟩
 ·obtain⟨p,hp,rfl⟩:=h3 i (List.getElem?_eq_some_iff.1 ho).1
  exact⟨p.2,hp⟩
 ·have:=h2 p hp
  split at this
  ·cases this
  ·rename_i o ho
   simp only[sameB,Bool.and_eq_true,decide_eq_true_eq]at this
   exact⟨o,ho,this.1.1,this.1.2,this.2⟩

theorem tree_all {K:OrD} (hm:MonoK K) (hn:NM K) (hc:CJ K) {Q:St→Prop} (hQ:∀ s s',EqE s s'→Q s→Q s') {st:St}:∀ {t:VT} {ops:List VO},treeB ops t=true→treeW K t st Q →
  RunAllD K ops Q ops.length (List.replicate ops.length false) st:=by
 intro t
 induction t with
 | leaf l =>
  intro ops h1 h2
  obtain⟨a,b,c⟩:=leafB_ok h1
  exact leaf_all hm hn a b c hQ h2
 | split a b x y ihx ihy =>
  intro ops h1 h2
  simp only[treeB,Bool.and_eq_true,decide_eq_true_eq]at h1
  obtain⟨⟨⟨⟨h3,h4⟩,h5⟩,h6⟩,h7⟩:=h1
  have e1:=ihx h6 h2.1
  have e2:=ihy h7 h2.2
  rw[addE_length]at e1 e2
  exact split_all hm hc h3 h5 (by simp) (by simp[List.getD_eq_getElem?_getD,h4]) (by simp[List.getD_eq_getElem?_getD,h5]) e1 e2
 | all os =>
  intro ops h1 h2
  simp only[treeB,decide_eq_true_eq]at h1
  subst h1
  exact h2


def drawsB:VC→Bool
 | .rd ops=>drawOkB ops
 | .rx ops t=>treeB ops t
 | .seq a b=>drawsB a && drawsB b
 | .cond _ a b=>drawsB a && drawsB b
 | .block _ c=>drawsB c
 | .loop c=>drawsB c
 | _=>true

def cndP (v:IV) (A B:Prop):Prop:=
 match v with
 | .c (.b true)=>A
 | .c (.b false)=>B
 | _=>False

def exW (K:OrD) (vars:List Nat):VC→St→(X×St→Prop)→Prop
 | .skip,st,Q=>Q (.norm,st)
 | .rg ops,st,Q=>runOpsD K ops st fun s=>Q (.norm,prune vars s)
 | .rd ops,st,Q=>runC K (enumF 0 ops) [] [] st fun s=>Q (.norm,prune vars s)
 | .rx _ t,st,Q=>treeW K t st fun s=>Q (.norm,prune vars s)
 | .seq a b,st,Q=>exW K vars a st (thenD (fun s=>exW K vars b s Q) Q)
 | .cond x a b,st,Q=>cndP (x.get st.e) (exW K vars a st Q) (exW K vars b st Q)
 | .block k c,st,Q=>exW K vars c st (blockD k Q)
 | .loop c,st,Q=>loopD (exW K vars c) st Q
 | .exit k,st,Q=>Q (.exit k,st)
 | .ret,st,Q=>Q (.ret,st)

theorem prune_eqE {vars:List Nat} {s s':St} (h:EqE s s'):prune vars s=prune vars s':=by
 obtain⟨h1,h2⟩:=h
 unfold prune
 rw[h1]
 congr 1
 exact List.map_congr_left fun k _=>by rw[h2 k]

theorem runC_mono {K:OrD} (hm:MonoK K):∀ {L:List (Nat×VO)} {rs:List (Nat×CV)} {es:List (Nat×Hp)} {st:St} {k k':St→Prop},(∀ s,k s→k' s)→runC K L rs es st k→runC K L rs es st k':=by
 intro L
 induction L with
 | nil=>intro rs es st k k' hk h;exact hk _ h
 | cons o r ih =>
  intro rs es st k k' hk h
  simp only[runC]at h ⊢
  split at h
  ·rename_i hc;rw[if_pos hc];exact runOpD_le hm.le (fun s hs=>⟨hs.1,ih hk hs.2⟩) h
  ·rename_i hc;rw[if_neg hc];exact runOpD_le hm.le (fun s hs=>⟨hs.1,ih hk hs.2⟩) h

theorem treeW_mono {K:OrD} (hm:MonoK K):∀ {t:VT} {st:St} {k k':St→Prop},(∀ s,k s→k' s)→treeW K t st k→treeW K t st k':=by
 intro t
 induction t with
 | leaf l=>intro st k k' hk h;exact runC_mono hm hk h
 | split a b x y ihx ihy=>intro st k k' hk h;exact⟨ihx hk h.1,ihy hk h.2⟩
 | all os=>intro st k k' hk h;exact RunAllD_le hm.le hk h

theorem exW_exD {K:OrD} (hm:MonoK K) (hn:NM K) (hc:CJ K) {vars:List Nat}:∀ {c:VC} {st:St} {Q Q':X×St→Prop},drawsB c=true→(∀ r,Q r→Q' r)→exW K vars c st Q→exD K vars c st Q':=by
 intro c
 induction c with
 | skip=>intro st Q Q' _ hq h;exact hq _ h
 | exit k=>intro st Q Q' _ hq h;exact hq _ h
 | ret=>intro st Q Q' _ hq h;exact hq _ h
 | rg ops=>intro st Q Q' _ hq h;exact runOpsD_le hm.le (fun s=>hq _) h
 | rd ops =>
  intro st Q Q' hd hq h
  refine rd_all hm hn hd (fun s s' he hs=>?_) (runC_mono hm (fun s=>hq _) h)
  rw[← prune_eqE he];exact hs
 | rx ops t =>
  intro st Q Q' hd hq h
  refine tree_all hm hn hc (fun s s' he hs=>?_) hd (treeW_mono hm (fun s=>hq _) h)
  rw[← prune_eqE he];exact hs
 | seq a b iha ihb =>
  intro st Q Q' hd hq h
  simp only[drawsB,Bool.and_eq_true]at hd
  exact iha hd.1 (fun r=>thenD_mono (fun s=>ihb hd.2 hq) hq) h
 | cond x a b iha ihb =>
  intro st Q Q' hd hq h
  simp only[drawsB,Bool.and_eq_true]at hd
  simp only[exW,exD,cndP]at h ⊢
  split at h
  ·rename_i hg;rw[hg];exact iha hd.1 hq h
  ·rename_i hg;rw[hg];exact ihb hd.2 hq h
  ·exact h.elim
 | block k c ih=>intro st Q Q' hd hq h;exact ih hd (fun r=>blockD_mono hq) h
 | loop c ih=>intro st Q Q' hd hq h;exact loopD_mono (f:=exW K vars c) (f':=exD K vars c) (fun s Q Q' hq=>ih hd hq) hq h

theorem call_wp {M:Code} {X0:OrD} (h0:MonoK X0) (h0':NM X0) (h0'':CJ X0) {f:Nat} (vf:VF) {az:List IV} {H:Hp} {Q:IV×Hp→Prop} (hM:M f=some vf) (hd:drawsB vf.body=true)
  (h:exW (callD M X0) vf.vars vf.body ⟨enter vf.vars az,H⟩ (finD H vf.res Q)):callD M X0 f az H Q:=by
 refine callD_of h0 ?_
 unfold bodyD
 rw[hM]
 exact exW_exD (callD_mono h0) (callD_nm h0') (callD_cj h0 h0'') hd (fun _=>id) h
def vf4v:List Nat:=[0,1,2,3,4,5,6,7,8,9,10,15,26,31,42,50,53,60,65,68]

def vf4c:VC:=.seq (.rg [V 1 (.box (.t 0)),
V 2 (.mv (.k (.c (.b false))))]) (.seq (.rg [V 3 (.mv (.k (.c (.i 1048576))))]) (.seq (.rg [V 11 (.ld (some 2) (.t 1)),
V 12 (.mv (.t 3)),
V 13 (.call 5 [(.t 11),(.t 12)]),
V 3 (.mv (.t 13))]) (.seq (.seq (.rg [V 14 (.mv (.t 3)),
V 15 (.bin .lt (.t 14) (.k (.c (.i 0))))]) (.cond (.t 15) (.seq (.rg [V 2 (.mv (.k (.c (.b true))))]) (.ret)) (.skip))) (.seq (.rg [V 16 (.ld (some 2) (.t 1)),
V 17 (.call 7 [(.t 16)]),
V 18 (.call 10 [(.t 17)]),
V 4 (.mv (.t 18))]) (.seq (.rg [V 19 (.ld (some 2) (.t 1)),
V 20 (.call 7 [(.t 19)]),
V 5 (.alloc [.ns,.i 0]),
Vn (.st 2 (.t 5) (.t 20))]) (.seq (.rg [V 21 (.ld (some 2) (.t 5)),
V 22 (.call 11 [(.t 21)]),
V 6 (.mv (.t 22))]) (.seq (.seq (.rg [V 23 (.mv (.t 6)),
V 24 (.mv (.t 4)),
V 25 (.call 12 [(.t 23),(.t 24)]),
V 26 (.not (.t 25))]) (.cond (.t 26) (.seq (.rg [V 2 (.mv (.k (.c (.b false))))]) (.ret)) (.skip))) (.seq (.seq (.rd [Vc [] [] true (V 27 (.ld (some 2) (.t 5))),
V 28 (.ld (some 2) (.t 1)),
Vc [1] [0] false (V 29 (.call 7 [(.t 28)])),
Vd [0,2] (V 30 (.call 9 [(.t 27),(.t 29)])),
Vd [3] (V 31 (.not (.t 30)))]) (.cond (.t 31) (.seq (.rg [V 2 (.mv (.k (.c (.b false))))]) (.ret)) (.skip))) (.seq (.rg [V 7 (.mv (.k (.c (.i 1))))]) (.seq (.rg [V 32 (.ld (some 2) (.t 5)),
V 33 (.mv (.t 7)),
V 34 (.call 13 [(.t 32),(.t 33)]),
V 7 (.mv (.t 34))]) (.seq (.seq (.rg [V 35 (.mv (.t 7)),
V 36 (.bin .lt (.t 35) (.k (.c (.i 0)))),
V 37 (.mv (.t 36)),
Vg 38 37 false (.mv (.t 6)),
Vg 39 37 false (.mv (.t 4)),
Vg 40 37 false (.call 12 [(.t 38),(.t 39)]),
Vg 41 37 false (.not (.t 40)),
V 42 (.pick (.t 37) (.k (.c (.b true))) (.t 41))]) (.cond (.t 42) (.seq (.rg [V 2 (.mv (.k (.c (.b false))))]) (.ret)) (.skip))) (.seq (.rg [V 8 (.mv (.k (.c (.i 1))))]) (.seq (.rg [V 43 (.mv (.t 6)),
V 44 (.mv (.t 8)),
V 45 (.call 14 [(.t 43),(.t 44)]),
V 8 (.mv (.t 45))]) (.seq (.rg [V 9 (.mv (.k (.c (.i 1))))]) (.seq (.rg [V 46 (.mv (.t 6)),
V 47 (.mv (.t 9)),
V 48 (.call 15 [(.t 46),(.t 47)]),
V 9 (.mv (.t 48))]) (.seq (.seq (.rg [V 49 (.mv (.t 9)),
V 50 (.bin .lt (.t 49) (.k (.c (.i 0))))]) (.cond (.t 50) (.seq (.rg [V 2 (.mv (.k (.c (.b false))))]) (.ret)) (.skip))) (.seq (.seq (.rg [V 51 (.mv (.t 9)),
V 52 (.mv (.t 8)),
V 53 (.bin .ne (.t 51) (.t 52))]) (.cond (.t 53) (.seq (.rg [V 2 (.mv (.k (.c (.b false))))]) (.ret)) (.skip))) (.seq (.rg [V 54 (.ld (some 2) (.t 1)),
V 55 (.call 7 [(.t 54)]),
V 56 (.call 11 [(.t 55)]),
V 10 (.mv (.t 56))]) (.seq (.seq (.rg [V 57 (.mv (.t 10)),
V 58 (.mv (.t 4)),
V 59 (.call 12 [(.t 57),(.t 58)]),
V 60 (.not (.t 59))]) (.cond (.t 60) (.seq (.rg [V 2 (.mv (.k (.c (.b false))))]) (.ret)) (.skip))) (.seq (.rg [V 9 (.mv (.k (.c (.i 1))))]) (.seq (.rg [V 61 (.mv (.t 6)),
V 62 (.mv (.t 9)),
V 63 (.call 15 [(.t 61),(.t 62)]),
V 9 (.mv (.t 63))]) (.seq (.seq (.rg [V 64 (.mv (.t 9)),
V 65 (.bin .lt (.t 64) (.k (.c (.i 0))))]) (.cond (.t 65) (.seq (.rg [V 2 (.mv (.k (.c (.b false))))]) (.ret)) (.skip))) (.seq (.seq (.rg [V 66 (.mv (.t 9)),
V 67 (.mv (.t 8)),
V 68 (.bin .ne (.t 66) (.t 67))]) (.cond (.t 68) (.seq (.rg [V 2 (.mv (.k (.c (.b false))))]) (.ret)) (.skip))) (.seq (.rg [V 2 (.mv (.k (.c (.b true))))]) (.ret)))))))))))))))))))))))))

def vf4:VF:=⟨vf4c,vf4v,[(2,none)]⟩

theorem ok4:chkF Try.prog Try.f4 vf4=true:=by kernel_rfl

theorem dr4:drawsB vf4.body=true:=by kernel_rfl

def vf5v:List Nat:=[0,1,2,4,10]

def vf5c:VC:=.seq (.rg [V 2 (.box (.t 0)),
V 4 (.mv (.k (.c (.i 0))))]) (.seq (.rg [V 5 (.fad 0 (.t 2)),
V 6 (.ld none (.t 5)),
V 7 (.mv (.t 1)),
V 8 (.call 16 [(.t 6),(.t 7)]),
V 1 (.mv (.t 8))]) (.seq (.seq (.rg [V 9 (.mv (.t 1)),
V 10 (.bin .lt (.t 9) (.k (.c (.i 0))))]) (.cond (.t 10) (.seq (.rg [V 4 (.mv (.k (.c (.i (-1)))))]) (.ret)) (.skip))) (.seq (.rg [V 11 (.mv (.t 1)),
V 4 (.mv (.t 11))]) (.ret))))

def vf5:VF:=⟨vf5c,vf5v,[(4,none)]⟩

theorem ok5:chkF Try.prog Try.f5 vf5=true:=by kernel_rfl

theorem dr5:drawsB vf5.body=true:=by kernel_rfl

def vf7v:List Nat:=[0,1,2,3]

def vf7c:VC:=.seq (.rg [V 1 (.box (.t 0)),
V 2 (.alloc [.ns,.i 0])]) (.seq (.rg [V 3 (.alloc [.ns,.i 0])]) (.seq (.rg [V 4 (.fad 0 (.t 1)),
V 5 (.ld none (.t 4)),
V 6 (.call 22 [(.t 5)]),
V 7 (.fad 0 (.t 3)),
Vn (.st 1 (.t 7) (.t 6))]) (.seq (.rg [V 8 (.fad 1 (.t 1)),
V 9 (.ld none (.t 8)),
V 10 (.fad 1 (.t 3)),
Vn (.st 1 (.t 10) (.t 9))]) (.seq (.rg [V 11 (.ld (some 2) (.t 3)),
Vn (.st 2 (.t 2) (.t 11))]) (.ret)))))

def vf7:VF:=⟨vf7c,vf7v,[(2,(some (some 2)))]⟩

theorem ok7:chkF Try.prog Try.f7 vf7=true:=by kernel_rfl

theorem dr7:drawsB vf7.body=true:=by kernel_rfl

def vf9v:List Nat:=[0,1,2,3,4,10,15]

def vf9c:VC:=.seq (.rg [V 2 (.box (.t 0)),
V 3 (.box (.t 1)),
V 4 (.mv (.k (.c (.b false))))]) (.seq (.seq (.rg [V 5 (.fad 0 (.t 2)),
V 6 (.ld none (.t 5)),
V 7 (.fad 0 (.t 3)),
V 8 (.ld none (.t 7)),
V 9 (.call 28 [(.t 6),(.t 8)]),
V 10 (.not (.t 9))]) (.cond (.t 10) (.seq (.rg [V 4 (.mv (.k (.c (.b false))))]) (.ret)) (.skip))) (.seq (.seq (.rg [V 11 (.fad 1 (.t 2)),
V 12 (.ld none (.t 11)),
V 13 (.fad 1 (.t 3)),
V 14 (.ld none (.t 13)),
V 15 (.bin .ne (.t 12) (.t 14))]) (.cond (.t 15) (.seq (.rg [V 4 (.mv (.k (.c (.b false))))]) (.ret)) (.skip))) (.seq (.rg [V 4 (.mv (.k (.c (.b true))))]) (.ret))))

def vf9:VF:=⟨vf9c,vf9v,[(4,none)]⟩

theorem ok9:chkF Try.prog Try.f9 vf9=true:=by kernel_rfl

theorem dr9:drawsB vf9.body=true:=by kernel_rfl

def vf10v:List Nat:=[0,1,2,3,4,5,6,7,8,12,17,24,35,59]

def vf10b0:VC:=.seq (.seq (.rg [V 27 (.mv (.t 7)),
V 28 (.fad 0 (.t 1)),
V 29 (.ld none (.t 28)),
V 30 (.mv (.t 6)),
V 31 (.idx 6 (.t 29) (.t 30)),
V 32 (.fad 1 (.t 31)),
V 33 (.ld none (.t 32)),
V 34 (.len (.t 33)),
V 35 (.bin .lt (.t 27) (.t 34))]) (.cond (.t 35) (.skip) (.exit 4))) (.seq (.block 5 (.seq (.rg [V 38 (.fad 0 (.t 1)),
V 39 (.ld none (.t 38)),
V 40 (.mv (.t 6)),
V 41 (.idx 6 (.t 39) (.t 40)),
V 42 (.fad 1 (.t 41)),
V 43 (.ld none (.t 42)),
V 44 (.mv (.t 7)),
V 45 (.idx 5 (.t 43) (.t 44)),
V 46 (.ld (some 5) (.t 45)),
V 8 (.alloc [.i 0,.i 0,.i 0,.i 0,.i 0]),
Vn (.st 5 (.t 8) (.t 46))]) (.rg [V 47 (.mv (.t 5)),
V 48 (.mv (.t 47)),
Vg 49 48 false (.fad 0 (.t 8)),
Vg 50 48 false (.ld none (.t 49)),
Vg 51 48 false (.bin .eq (.t 50) (.k (.c (.i 25)))),
Vg 52 48 false (.mv (.t 51)),
Vg 53 52 true (.fad 1 (.t 8)),
Vg 54 52 true (.ld none (.t 53)),
Vg 55 52 true (.mv (.t 4)),
Vg 56 52 true (.bin .eq (.t 54) (.t 55)),
Vg 57 48 false (.pick (.t 52) (.t 56) (.k (.c (.b false)))),
V 58 (.pick (.t 48) (.k (.c (.b true))) (.t 57)),
V 5 (.mv (.t 58))]))) (.rg [V 36 (.mv (.t 7)),
V 37 (.bin .add (.t 36) (.k (.c (.i 1)))),
V 7 (.mv (.t 37))]))

def vf10b1:VC:=.seq (.seq (.rg [V 20 (.mv (.t 6)),
V 21 (.fad 0 (.t 1)),
V 22 (.ld none (.t 21)),
V 23 (.len (.t 22)),
V 24 (.bin .lt (.t 20) (.t 23))]) (.cond (.t 24) (.skip) (.exit 2))) (.seq (.block 3 (.seq (.rg [V 7 (.mv (.k (.c (.i 0))))]) (.block 4 (.loop vf10b0)))) (.rg [V 25 (.mv (.t 6)),
V 26 (.bin .add (.t 25) (.k (.c (.i 1)))),
V 6 (.mv (.t 26))]))

def vf10b2:VC:=.seq (.seq (.rg [V 14 (.mv (.t 4)),
V 15 (.fad 1 (.t 1)),
V 16 (.ld none (.t 15)),
V 17 (.bin .lt (.t 14) (.t 16))]) (.cond (.t 17) (.skip) (.exit 0))) (.seq (.block 1 (.seq (.rg [V 5 (.mv (.k (.c (.b false))))]) (.seq (.seq (.rg [V 6 (.mv (.k (.c (.i 0))))]) (.block 2 (.loop vf10b1))) (.seq (.rg [V 59 (.mv (.t 5))]) (.cond (.t 59) (.rg [V 60 (.mv (.t 3)),
V 61 (.mv (.t 4)),
V 62 (.bsl 1 [.i 0] 1 [(0,1,(.t 61))]),
V 63 (.app 1 (.t 60) (.t 62)),
V 3 (.mv (.t 63))]) (.skip)))))) (.rg [V 18 (.mv (.t 4)),
V 19 (.bin .add (.t 18) (.k (.c (.i 1)))),
V 4 (.mv (.t 19))]))

def vf10c:VC:=.seq (.rg [V 1 (.box (.t 0)),
V 2 (.mv (.k (.c .ns)))]) (.seq (.rg [V 9 (.bsl 1 [.i 0] 0 []),
V 3 (.mv (.t 9))]) (.seq (.seq (.rg [V 10 (.ld (some 2) (.t 1)),
V 11 (.call 29 [(.t 10)]),
V 12 (.not (.t 11))]) (.cond (.t 12) (.seq (.rg [V 13 (.mv (.t 3)),
V 2 (.mv (.t 13))]) (.ret)) (.skip))) (.seq (.seq (.rg [V 4 (.mv (.k (.c (.i 0))))]) (.block 0 (.loop vf10b2))) (.seq (.rg [V 64 (.mv (.t 3)),
V 2 (.mv (.t 64))]) (.ret)))))

def vf10:VF:=⟨vf10c,vf10v,[(2,none)]⟩

theorem ok10:chkF Try.prog Try.f10 vf10=true:=by kernel_rfl

theorem dr10:drawsB vf10.body=true:=by kernel_rfl

def vf11v:List Nat:=[0,1,2,3,5,7,10,13,14,15,16,20,21,22,23,28]

def vf11b0:VC:=.seq (.rg [V 23 (.bin .lt (.t 22) (.t 21))]) (.seq (.cond (.t 23) (.skip) (.exit 2)) (.seq (.block 3 (.seq (.rg [V 24 (.idx 5 (.t 20) (.t 22)),
V 25 (.ld (some 5) (.t 24)),
V 7 (.alloc [.i 0,.i 0,.i 0,.i 0,.i 0]),
Vn (.st 5 (.t 7) (.t 25))]) (.seq (.rg [V 26 (.fad 0 (.t 7)),
V 27 (.ld none (.t 26)),
V 28 (.bin .eq (.t 27) (.k (.c (.i 25))))]) (.cond (.t 28) (.rg [V 29 (.mv (.t 3)),
V 30 (.fad 1 (.t 7)),
V 31 (.ld none (.t 30)),
V 32 (.bsl 1 [.i 0] 1 [(0,1,(.t 31))]),
V 33 (.app 1 (.t 29) (.t 32)),
V 3 (.mv (.t 33))]) (.skip))))) (.rg [V 34 (.bin .add (.t 22) (.k (.c (.i 1)))),
V 22 (.mv (.t 34))])))

def vf11b1:VC:=.seq (.rg [V 16 (.bin .lt (.t 15) (.t 14))]) (.seq (.cond (.t 16) (.skip) (.exit 0)) (.seq (.block 1 (.seq (.rg [V 17 (.idx 6 (.t 13) (.t 15)),
V 18 (.ld (some 6) (.t 17)),
V 5 (.alloc [.ns,.ns,.i 0,.i 0,.i 0,.i 0]),
Vn (.st 6 (.t 5) (.t 18))]) (.seq (.rg [V 19 (.fad 1 (.t 5)),
V 20 (.ld none (.t 19)),
V 21 (.len (.t 20)),
V 22 (.mv (.k (.c (.i 0))))]) (.block 2 (.loop vf11b0))))) (.rg [V 35 (.bin .add (.t 15) (.k (.c (.i 1)))),
V 15 (.mv (.t 35))])))

def vf11c:VC:=.seq (.rg [V 1 (.box (.t 0)),
V 2 (.mv (.k (.c .ns)))]) (.seq (.seq (.rg [V 8 (.ld (some 2) (.t 1)),
V 9 (.call 30 [(.t 8)]),
V 10 (.not (.t 9))]) (.cond (.t 10) (.seq (.rg [V 2 (.mv (.k (.c .ns)))]) (.ret)) (.skip))) (.seq (.rg [V 11 (.bsl 1 [.i 0] 0 []),
V 3 (.mv (.t 11))]) (.seq (.seq (.rg [V 12 (.fad 0 (.t 1)),
V 13 (.ld none (.t 12)),
V 14 (.len (.t 13)),
V 15 (.mv (.k (.c (.i 0))))]) (.block 0 (.loop vf11b1))) (.seq (.rg [V 36 (.mv (.t 3)),
V 37 (.call 31 [(.t 36)])]) (.seq (.rg [V 38 (.mv (.t 3)),
V 39 (.call 32 [(.t 38)]),
V 2 (.mv (.t 39))]) (.ret))))))

def vf11:VF:=⟨vf11c,vf11v,[(2,none)]⟩

theorem ok11:chkF Try.prog Try.f11 vf11=true:=by kernel_rfl

theorem dr11:drawsB vf11.body=true:=by kernel_rfl

def vf12v:List Nat:=[0,1,4,5,10,14,25]

def vf12b0:VC:=.seq (.seq (.rg [V 11 (.mv (.t 5)),
V 12 (.mv (.t 0)),
V 13 (.len (.t 12)),
V 14 (.bin .lt (.t 11) (.t 13))]) (.cond (.t 14) (.skip) (.exit 0))) (.seq (.block 1 (.seq (.rd [V 17 (.mv (.t 0)),
V 18 (.mv (.t 5)),
Vd [0,1] (V 19 (.idx 1 (.t 17) (.t 18))),
Vd [2] (V 20 (.ld none (.t 19))),
V 21 (.mv (.t 1)),
V 22 (.mv (.t 5)),
Vd [4,5] (V 23 (.idx 1 (.t 21) (.t 22))),
Vd [6] (V 24 (.ld none (.t 23))),
Vd [3,7] (V 25 (.bin .ne (.t 20) (.t 24)))]) (.cond (.t 25) (.seq (.rg [V 4 (.mv (.k (.c (.b false))))]) (.ret)) (.skip)))) (.rg [V 15 (.mv (.t 5)),
V 16 (.bin .add (.t 15) (.k (.c (.i 1)))),
V 5 (.mv (.t 16))]))

def vf12c:VC:=.seq (.rg [V 4 (.mv (.k (.c (.b false))))]) (.seq (.seq (.rg [V 6 (.mv (.t 0)),
V 7 (.len (.t 6)),
V 8 (.mv (.t 1)),
V 9 (.len (.t 8)),
V 10 (.bin .ne (.t 7) (.t 9))]) (.cond (.t 10) (.seq (.rg [V 4 (.mv (.k (.c (.b false))))]) (.ret)) (.skip))) (.seq (.seq (.rg [V 5 (.mv (.k (.c (.i 0))))]) (.block 0 (.loop vf12b0))) (.seq (.rg [V 4 (.mv (.k (.c (.b true))))]) (.ret))))

def vf12:VF:=⟨vf12c,vf12v,[(4,none)]⟩

theorem ok12:chkF Try.prog Try.f12 vf12=true:=by kernel_rfl

theorem dr12:drawsB vf12.body=true:=by kernel_rfl

def vf13v:List Nat:=[0,1,2,4]

def vf13c:VC:=.seq (.rg [V 2 (.box (.t 0)),
V 4 (.mv (.k (.c (.i 0))))]) (.seq (.rg [V 5 (.fad 0 (.t 2)),
V 6 (.ld none (.t 5)),
V 7 (.mv (.t 1)),
V 8 (.call 33 [(.t 6),(.t 7)]),
V 1 (.mv (.t 8))]) (.seq (.rg [V 9 (.mv (.t 1)),
V 4 (.mv (.t 9))]) (.ret)))

def vf13:VF:=⟨vf13c,vf13v,[(4,none)]⟩

theorem ok13:chkF Try.prog Try.f13 vf13=true:=by kernel_rfl

theorem dr13:drawsB vf13.body=true:=by kernel_rfl

def vf14v:List Nat:=[0,1,4,5,9]

def vf14b0:VC:=.seq (.seq (.rg [V 6 (.mv (.t 5)),
V 7 (.mv (.t 0)),
V 8 (.len (.t 7)),
V 9 (.bin .lt (.t 6) (.t 8))]) (.cond (.t 9) (.skip) (.exit 0))) (.seq (.block 1 (.seq (.rg [V 12 (.mv (.t 0)),
V 13 (.mv (.t 5)),
V 14 (.mv (.t 1)),
V 15 (.idx 1 (.t 12) (.t 13)),
Vn (.st 1 (.t 15) (.t 14))]) (.rg [V 16 (.mv (.t 1)),
V 17 (.bin .add (.t 16) (.k (.c (.i 1)))),
V 1 (.mv (.t 17))]))) (.rg [V 10 (.mv (.t 5)),
V 11 (.bin .add (.t 10) (.k (.c (.i 1)))),
V 5 (.mv (.t 11))]))

def vf14c:VC:=.seq (.rg [V 4 (.mv (.k (.c (.i 0))))]) (.seq (.seq (.rg [V 5 (.mv (.k (.c (.i 0))))]) (.block 0 (.loop vf14b0))) (.seq (.rg [V 18 (.mv (.t 1)),
V 4 (.mv (.t 18))]) (.ret)))

def vf14:VF:=⟨vf14c,vf14v,[(4,none)]⟩

theorem ok14:chkF Try.prog Try.f14 vf14=true:=by kernel_rfl

theorem dr14:drawsB vf14.body=true:=by kernel_rfl

def vf15v:List Nat:=[0,1,4,5,9,17]

def vf15b0:VC:=.seq (.seq (.rg [V 6 (.mv (.t 5)),
V 7 (.mv (.t 0)),
V 8 (.len (.t 7)),
V 9 (.bin .lt (.t 6) (.t 8))]) (.cond (.t 9) (.skip) (.exit 0))) (.seq (.block 1 (.seq (.seq (.rg [V 12 (.mv (.t 0)),
V 13 (.mv (.t 5)),
V 14 (.idx 1 (.t 12) (.t 13)),
V 15 (.ld none (.t 14)),
V 16 (.mv (.t 1)),
V 17 (.bin .ne (.t 15) (.t 16))]) (.cond (.t 17) (.seq (.rg [V 4 (.mv (.k (.c (.i (-1)))))]) (.ret)) (.skip))) (.rg [V 18 (.mv (.t 1)),
V 19 (.bin .add (.t 18) (.k (.c (.i 1)))),
V 1 (.mv (.t 19))]))) (.rg [V 10 (.mv (.t 5)),
V 11 (.bin .add (.t 10) (.k (.c (.i 1)))),
V 5 (.mv (.t 11))]))

def vf15c:VC:=.seq (.rg [V 4 (.mv (.k (.c (.i 0))))]) (.seq (.seq (.rg [V 5 (.mv (.k (.c (.i 0))))]) (.block 0 (.loop vf15b0))) (.seq (.rg [V 20 (.mv (.t 1)),
V 4 (.mv (.t 20))]) (.ret)))

def vf15:VF:=⟨vf15c,vf15v,[(4,none)]⟩

theorem ok15:chkF Try.prog Try.f15 vf15=true:=by kernel_rfl

theorem dr15:drawsB vf15.body=true:=by kernel_rfl

def vf16v:List Nat:=[0,1,4,5,11,15,25]

def vf16b0:VC:=.seq (.seq (.rg [V 12 (.mv (.t 5)),
V 13 (.mv (.t 0)),
V 14 (.len (.t 13)),
V 15 (.bin .lt (.t 12) (.t 14))]) (.cond (.t 15) (.skip) (.exit 0))) (.seq (.block 1 (.seq (.rg [V 18 (.mv (.t 0)),
V 19 (.mv (.t 5)),
V 20 (.idx 6 (.t 18) (.t 19)),
V 21 (.ld (some 6) (.t 20)),
V 22 (.mv (.t 1)),
V 23 (.call 34 [(.t 21),(.t 22)]),
V 1 (.mv (.t 23))]) (.seq (.rg [V 24 (.mv (.t 1)),
V 25 (.bin .lt (.t 24) (.k (.c (.i 0))))]) (.cond (.t 25) (.seq (.rg [V 4 (.mv (.k (.c (.i (-1)))))]) (.ret)) (.skip))))) (.rg [V 16 (.mv (.t 5)),
V 17 (.bin .add (.t 16) (.k (.c (.i 1)))),
V 5 (.mv (.t 17))]))

def vf16c:VC:=.seq (.rg [V 4 (.mv (.k (.c (.i 0))))]) (.seq (.rg [V 6 (.mv (.t 1)),
V 7 (.mv (.t 0)),
V 8 (.len (.t 7)),
V 9 (.bin .sub (.t 6) (.t 8)),
V 1 (.mv (.t 9))]) (.seq (.seq (.rg [V 10 (.mv (.t 1)),
V 11 (.bin .lt (.t 10) (.k (.c (.i 0))))]) (.cond (.t 11) (.seq (.rg [V 4 (.mv (.k (.c (.i (-1)))))]) (.ret)) (.skip))) (.seq (.seq (.rg [V 5 (.mv (.k (.c (.i 0))))]) (.block 0 (.loop vf16b0))) (.seq (.rg [V 26 (.mv (.t 1)),
V 4 (.mv (.t 26))]) (.ret)))))

def vf16:VF:=⟨vf16c,vf16v,[(4,none)]⟩

theorem ok16:chkF Try.prog Try.f16 vf16=true:=by kernel_rfl

theorem dr16:drawsB vf16.body=true:=by kernel_rfl

def vf22v:List Nat:=[0,2,3,4,11]

def vf22b0:VC:=.seq (.seq (.rg [V 8 (.mv (.t 4)),
V 9 (.mv (.t 0)),
V 10 (.len (.t 9)),
V 11 (.bin .lt (.t 8) (.t 10))]) (.cond (.t 11) (.skip) (.exit 0))) (.seq (.block 1 (.rg [V 14 (.mv (.t 3)),
V 15 (.mv (.t 4)),
V 16 (.mv (.t 0)),
V 17 (.mv (.t 4)),
V 18 (.idx 6 (.t 16) (.t 17)),
V 19 (.ld (some 6) (.t 18)),
V 20 (.call 37 [(.t 19)]),
V 21 (.idx 6 (.t 14) (.t 15)),
Vn (.st 6 (.t 21) (.t 20))])) (.rg [V 12 (.mv (.t 4)),
V 13 (.bin .add (.t 12) (.k (.c (.i 1)))),
V 4 (.mv (.t 13))]))

def vf22c:VC:=.seq (.rg [V 2 (.mv (.k (.c .ns)))]) (.seq (.rg [V 5 (.mv (.t 0)),
V 6 (.len (.t 5)),
V 7 (.mks 6 [.ns,.ns,.i 0,.i 0,.i 0,.i 0] (.t 6)),
V 3 (.mv (.t 7))]) (.seq (.seq (.rg [V 4 (.mv (.k (.c (.i 0))))]) (.block 0 (.loop vf22b0))) (.seq (.rg [V 22 (.mv (.t 3)),
V 2 (.mv (.t 22))]) (.ret))))

def vf22:VF:=⟨vf22c,vf22v,[(2,none)]⟩

theorem ok22:chkF Try.prog Try.f22 vf22=true:=by kernel_rfl

theorem dr22:drawsB vf22.body=true:=by kernel_rfl

def vf28v:List Nat:=[0,1,4,5,10,14,26]

def vf28b0:VC:=.seq (.seq (.rg [V 11 (.mv (.t 5)),
V 12 (.mv (.t 0)),
V 13 (.len (.t 12)),
V 14 (.bin .lt (.t 11) (.t 13))]) (.cond (.t 14) (.skip) (.exit 0))) (.seq (.block 1 (.seq (.rd [V 17 (.mv (.t 0)),
V 18 (.mv (.t 5)),
Vd [0,1] (V 19 (.idx 6 (.t 17) (.t 18))),
Vd [2] (V 20 (.ld (some 6) (.t 19))),
V 21 (.mv (.t 1)),
V 22 (.mv (.t 5)),
Vd [4,5] (V 23 (.idx 6 (.t 21) (.t 22))),
Vd [6] (V 24 (.ld (some 6) (.t 23))),
Vd [3,7] (V 25 (.call 45 [(.t 20),(.t 24)])),
Vd [8] (V 26 (.not (.t 25)))]) (.cond (.t 26) (.seq (.rg [V 4 (.mv (.k (.c (.b false))))]) (.ret)) (.skip)))) (.rg [V 15 (.mv (.t 5)),
V 16 (.bin .add (.t 15) (.k (.c (.i 1)))),
V 5 (.mv (.t 16))]))

def vf28c:VC:=.seq (.rg [V 4 (.mv (.k (.c (.b false))))]) (.seq (.seq (.rg [V 6 (.mv (.t 0)),
V 7 (.len (.t 6)),
V 8 (.mv (.t 1)),
V 9 (.len (.t 8)),
V 10 (.bin .ne (.t 7) (.t 9))]) (.cond (.t 10) (.seq (.rg [V 4 (.mv (.k (.c (.b false))))]) (.ret)) (.skip))) (.seq (.seq (.rg [V 5 (.mv (.k (.c (.i 0))))]) (.block 0 (.loop vf28b0))) (.seq (.rg [V 4 (.mv (.k (.c (.b true))))]) (.ret))))

def vf28:VF:=⟨vf28c,vf28v,[(4,none)]⟩

theorem ok28:chkF Try.prog Try.f28 vf28=true:=by kernel_rfl

theorem dr28:drawsB vf28.body=true:=by kernel_rfl

def vf29v:List Nat:=[0,1,2,3,4,5,6,7,19,22,48,53,65,70,81]

def vf29b0:VC:=.seq (.seq (.rg [V 49 (.mv (.t 6)),
V 50 (.fad 0 (.t 5)),
V 51 (.ld none (.t 50)),
V 52 (.len (.t 51)),
V 53 (.bin .lt (.t 49) (.t 52))]) (.cond (.t 53) (.skip) (.exit 2))) (.seq (.block 3 (.seq (.rd [V 56 (.fad 0 (.t 5)),
Vd [0] (V 57 (.ld none (.t 56))),
V 58 (.mv (.t 6)),
Vd [1,2] (V 59 (.idx 2 (.t 57) (.t 58))),
Vd [3] (V 60 (.ld (some 2) (.t 59))),
V 61 (.mv (.t 3)),
V 62 (.fad 1 (.t 1)),
Vd [6] (V 63 (.ld none (.t 62))),
Vd [4,5,7] (V 64 (.call 48 [(.t 60),(.t 61),(.t 63)])),
Vd [8] (V 65 (.not (.t 64)))]) (.cond (.t 65) (.seq (.rg [V 2 (.mv (.k (.c (.b false))))]) (.ret)) (.skip)))) (.rg [V 54 (.mv (.t 6)),
V 55 (.bin .add (.t 54) (.k (.c (.i 1)))),
V 6 (.mv (.t 55))]))

def vf29b1:VC:=.seq (.seq (.rg [V 66 (.mv (.t 7)),
V 67 (.fad 1 (.t 5)),
V 68 (.ld none (.t 67)),
V 69 (.len (.t 68)),
V 70 (.bin .lt (.t 66) (.t 69))]) (.cond (.t 70) (.skip) (.exit 4))) (.seq (.block 5 (.seq (.rd [V 73 (.fad 1 (.t 5)),
Vd [0] (V 74 (.ld none (.t 73))),
V 75 (.mv (.t 7)),
Vd [1,2] (V 76 (.idx 5 (.t 74) (.t 75))),
Vd [3] (V 77 (.ld (some 5) (.t 76))),
V 78 (.fad 1 (.t 1)),
Vd [5] (V 79 (.ld none (.t 78))),
Vd [4,6] (V 80 (.call 49 [(.t 77),(.t 79)])),
Vd [7] (V 81 (.not (.t 80)))]) (.cond (.t 81) (.seq (.rg [V 2 (.mv (.k (.c (.b false))))]) (.ret)) (.skip)))) (.rg [V 71 (.mv (.t 7)),
V 72 (.bin .add (.t 71) (.k (.c (.i 1)))),
V 7 (.mv (.t 72))]))

def vf29b2:VC:=.seq (.seq (.rg [V 20 (.mv (.t 4)),
V 21 (.mv (.t 3)),
V 22 (.bin .lt (.t 20) (.t 21))]) (.cond (.t 22) (.skip) (.exit 0))) (.seq (.block 1 (.seq (.rg [V 25 (.fad 0 (.t 1)),
V 26 (.ld none (.t 25)),
V 27 (.mv (.t 4)),
V 28 (.idx 6 (.t 26) (.t 27)),
V 29 (.ld (some 6) (.t 28)),
V 5 (.alloc [.ns,.ns,.i 0,.i 0,.i 0,.i 0]),
Vn (.st 6 (.t 5) (.t 29))]) (.seq (.seq (.rg [V 30 (.fad 0 (.t 5)),
V 31 (.ld none (.t 30)),
V 32 (.len (.t 31)),
V 33 (.bin .gt (.t 32) (.k (.c (.i 24)))),
V 34 (.mv (.t 33)),
Vg 35 34 false (.fad 1 (.t 5)),
Vg 36 34 false (.ld none (.t 35)),
Vg 37 34 false (.len (.t 36)),
Vg 38 34 false (.bin .gt (.t 37) (.k (.c (.i 24)))),
V 39 (.pick (.t 34) (.k (.c (.b true))) (.t 38)),
V 40 (.mv (.t 39)),
Vg 41 40 false (.fad 2 (.t 5)),
Vg 42 40 false (.ld (some 4) (.t 41)),
Vg 43 40 false (.mv (.t 3)),
Vg 44 40 false (.fad 1 (.t 1)),
Vg 45 40 false (.ld none (.t 44)),
Vg 46 40 false (.call 47 [(.t 42),(.t 43),(.t 45)]),
Vg 47 40 false (.not (.t 46)),
V 48 (.pick (.t 40) (.k (.c (.b true))) (.t 47))]) (.cond (.t 48) (.seq (.rg [V 2 (.mv (.k (.c (.b false))))]) (.ret)) (.skip))) (.seq (.seq (.rg [V 6 (.mv (.k (.c (.i 0))))]) (.block 2 (.loop vf29b0))) (.seq (.rg [V 7 (.mv (.k (.c (.i 0))))]) (.block 4 (.loop vf29b1))))))) (.rg [V 23 (.mv (.t 4)),
V 24 (.bin .add (.t 23) (.k (.c (.i 1)))),
V 4 (.mv (.t 24))]))

def vf29c:VC:=.seq (.rg [V 1 (.box (.t 0)),
V 2 (.mv (.k (.c (.b false))))]) (.seq (.rg [V 8 (.fad 0 (.t 1)),
V 9 (.ld none (.t 8)),
V 10 (.len (.t 9)),
V 3 (.mv (.t 10))]) (.seq (.seq (.rg [V 11 (.mv (.t 3)),
V 12 (.call 46 [(.t 11),(.k (.c (.i 1))),(.k (.c (.i 16)))]),
V 13 (.not (.t 12)),
V 14 (.mv (.t 13)),
Vg 15 14 false (.fad 1 (.t 1)),
Vg 16 14 false (.ld none (.t 15)),
Vg 17 14 false (.call 46 [(.t 16),(.k (.c (.i 0))),(.k (.c (.i 80)))]),
Vg 18 14 false (.not (.t 17)),
V 19 (.pick (.t 14) (.k (.c (.b true))) (.t 18))]) (.cond (.t 19) (.seq (.rg [V 2 (.mv (.k (.c (.b false))))]) (.ret)) (.skip))) (.seq (.seq (.rg [V 4 (.mv (.k (.c (.i 0))))]) (.block 0 (.loop vf29b2))) (.seq (.rg [V 2 (.mv (.k (.c (.b true))))]) (.ret)))))

def vf29:VF:=⟨vf29c,vf29v,[(2,none)]⟩

theorem ok29:chkF Try.prog Try.f29 vf29=true:=by kernel_rfl

theorem dr29:drawsB vf29.body=true:=by kernel_rfl

def vf30v:List Nat:=[0,1,2,3,15]

def vf30c:VC:=.seq (.rg [V 1 (.box (.t 0)),
V 2 (.mv (.k (.c (.b false))))]) (.seq (.rg [V 4 (.fad 0 (.t 1)),
V 5 (.ld none (.t 4)),
V 6 (.len (.t 5)),
V 3 (.alloc [.i 0]),
Vn (.st 1 (.t 3) (.t 6))]) (.seq (.seq (.rg [V 7 (.ld none (.t 3)),
V 8 (.call 50 [(.t 7),(.k (.c (.i 1))),(.k (.c (.i 16)))]),
V 9 (.not (.t 8)),
V 10 (.mv (.t 9)),
Vg 11 10 false (.fad 1 (.t 1)),
Vg 12 10 false (.ld none (.t 11)),
Vg 13 10 false (.call 50 [(.t 12),(.k (.c (.i 0))),(.k (.c (.i 80)))]),
Vg 14 10 false (.not (.t 13)),
V 15 (.pick (.t 10) (.k (.c (.b true))) (.t 14))]) (.cond (.t 15) (.seq (.rg [V 2 (.mv (.k (.c (.b false))))]) (.ret)) (.skip))) (.seq (.rg [V 16 (.fad 0 (.t 1)),
V 17 (.ld none (.t 16)),
V 18 (.mkf 51 [(.t 3),(.t 1)]),
V 19 (.call 38 [(.t 17),(.t 18)]),
V 20 (.not (.t 19)),
V 2 (.mv (.t 20))]) (.ret))))

def vf30:VF:=⟨vf30c,vf30v,[(2,none)]⟩

theorem ok30:chkF Try.prog Try.f30 vf30=true:=by kernel_rfl

theorem dr30:drawsB vf30.body=true:=by kernel_rfl

def vf32v:List Nat:=[0,2,3,4,5,8,13,25,32,44]

def vf32b0:VC:=.seq (.seq (.rg [V 29 (.mv (.t 5)),
V 30 (.mv (.t 4)),
V 31 (.len (.t 30)),
V 32 (.bin .lt (.t 29) (.t 31))]) (.cond (.t 32) (.skip) (.exit 2))) (.seq (.block 3 (.seq (.rd [V 35 (.mv (.t 4)),
V 36 (.mv (.t 5)),
Vd [0,1] (V 37 (.idx 1 (.t 35) (.t 36))),
Vd [2] (V 38 (.ld none (.t 37))),
V 39 (.mv (.t 4)),
V 40 (.mv (.t 5)),
Vd [5] (V 41 (.bin .sub (.t 40) (.k (.c (.i 1))))),
Vd [4,6] (V 42 (.idx 1 (.t 39) (.t 41))),
Vd [7] (V 43 (.ld none (.t 42))),
Vd [3,8] (V 44 (.bin .ne (.t 38) (.t 43)))]) (.cond (.t 44) (.seq (.rg [V 45 (.mv (.t 0)),
V 46 (.mv (.t 3)),
V 47 (.mv (.t 4)),
V 48 (.mv (.t 5)),
V 49 (.idx 1 (.t 47) (.t 48)),
V 50 (.ld none (.t 49)),
V 51 (.idx 1 (.t 45) (.t 46)),
Vn (.st 1 (.t 51) (.t 50))]) (.rg [V 52 (.mv (.t 3)),
V 53 (.bin .add (.t 52) (.k (.c (.i 1)))),
V 3 (.mv (.t 53))])) (.skip)))) (.rg [V 33 (.mv (.t 5)),
V 34 (.bin .add (.t 33) (.k (.c (.i 1)))),
V 5 (.mv (.t 34))]))

def vf32b1:VC:=.seq (.seq (.rg [V 10 (.mv (.t 3)),
V 11 (.mv (.t 0)),
V 12 (.len (.t 11)),
V 13 (.bin .lt (.t 10) (.t 12))]) (.cond (.t 13) (.skip) (.exit 0))) (.seq (.block 1 (.seq (.rd [V 16 (.mv (.t 0)),
V 17 (.mv (.t 3)),
Vd [0,1] (V 18 (.idx 1 (.t 16) (.t 17))),
Vd [2] (V 19 (.ld none (.t 18))),
V 20 (.mv (.t 0)),
V 21 (.mv (.t 3)),
Vd [5] (V 22 (.bin .sub (.t 21) (.k (.c (.i 1))))),
Vd [4,6] (V 23 (.idx 1 (.t 20) (.t 22))),
Vd [7] (V 24 (.ld none (.t 23))),
Vd [3,8] (V 25 (.bin .eq (.t 19) (.t 24)))]) (.cond (.t 25) (.seq (.rg [V 26 (.mv (.t 0)),
V 27 (.mv (.t 3)),
V 28 (.slc 1 (.t 26) (some (.t 27)) none),
V 4 (.mv (.t 28))]) (.seq (.seq (.rg [V 5 (.mv (.k (.c (.i 1))))]) (.block 2 (.loop vf32b0))) (.seq (.rg [V 54 (.mv (.t 0)),
V 55 (.mv (.t 3)),
V 56 (.slc 1 (.t 54) (some (.t 55)) none),
Vn (.clr 1 [.i 0] (.t 56))]) (.seq (.rg [V 57 (.mv (.t 0)),
V 58 (.mv (.t 3)),
V 59 (.slc 1 (.t 57) none (some (.t 58))),
V 2 (.mv (.t 59))]) (.ret))))) (.skip)))) (.rg [V 14 (.mv (.t 3)),
V 15 (.bin .add (.t 14) (.k (.c (.i 1)))),
V 3 (.mv (.t 15))]))

def vf32c:VC:=.seq (.rg [V 2 (.mv (.k (.c .ns)))]) (.seq (.seq (.rg [V 6 (.mv (.t 0)),
V 7 (.len (.t 6)),
V 8 (.bin .lt (.t 7) (.k (.c (.i 2))))]) (.cond (.t 8) (.seq (.rg [V 9 (.mv (.t 0)),
V 2 (.mv (.t 9))]) (.ret)) (.skip))) (.seq (.seq (.rg [V 3 (.mv (.k (.c (.i 1))))]) (.block 0 (.loop vf32b1))) (.seq (.rg [V 60 (.mv (.t 0)),
V 2 (.mv (.t 60))]) (.ret))))

def vf32:VF:=⟨vf32c,vf32v,[(2,none)]⟩

theorem ok32:chkF Try.prog Try.f32 vf32=true:=by kernel_rfl

theorem dr32:drawsB vf32.body=true:=by kernel_rfl

def vf33v:List Nat:=[0,1,4,5,9]

def vf33b0:VC:=.seq (.seq (.rg [V 6 (.mv (.t 5)),
V 7 (.mv (.t 0)),
V 8 (.len (.t 7)),
V 9 (.bin .lt (.t 6) (.t 8))]) (.cond (.t 9) (.skip) (.exit 0))) (.seq (.block 1 (.seq (.rg [V 12 (.mv (.t 0)),
V 13 (.mv (.t 5)),
V 14 (.idx 6 (.t 12) (.t 13)),
V 15 (.fad 0 (.t 14)),
V 16 (.ld none (.t 15)),
V 17 (.mv (.t 1)),
V 18 (.call 61 [(.t 16),(.t 17)]),
V 1 (.mv (.t 18))]) (.seq (.rg [V 19 (.mv (.t 0)),
V 20 (.mv (.t 5)),
V 21 (.idx 6 (.t 19) (.t 20)),
V 22 (.fad 1 (.t 21)),
V 23 (.ld none (.t 22)),
V 24 (.mv (.t 1)),
V 25 (.call 62 [(.t 23),(.t 24)]),
V 1 (.mv (.t 25))]) (.seq (.rg [V 26 (.mv (.t 0)),
V 27 (.mv (.t 5)),
V 28 (.mv (.t 1)),
V 29 (.idx 6 (.t 26) (.t 27)),
V 30 (.fad 2 (.t 29)),
V 31 (.fad 0 (.t 30)),
Vn (.st 1 (.t 31) (.t 28))]) (.seq (.rg [V 32 (.mv (.t 1)),
V 33 (.bin .add (.t 32) (.k (.c (.i 1)))),
V 1 (.mv (.t 33))]) (.seq (.rg [V 34 (.mv (.t 0)),
V 35 (.mv (.t 5)),
V 36 (.mv (.t 1)),
V 37 (.idx 6 (.t 34) (.t 35)),
V 38 (.fad 2 (.t 37)),
V 39 (.fad 1 (.t 38)),
Vn (.st 1 (.t 39) (.t 36))]) (.seq (.rg [V 40 (.mv (.t 1)),
V 41 (.bin .add (.t 40) (.k (.c (.i 1)))),
V 1 (.mv (.t 41))]) (.seq (.rg [V 42 (.mv (.t 0)),
V 43 (.mv (.t 5)),
V 44 (.mv (.t 1)),
V 45 (.idx 6 (.t 42) (.t 43)),
V 46 (.fad 2 (.t 45)),
V 47 (.fad 2 (.t 46)),
Vn (.st 1 (.t 47) (.t 44))]) (.seq (.rg [V 48 (.mv (.t 1)),
V 49 (.bin .add (.t 48) (.k (.c (.i 1)))),
V 1 (.mv (.t 49))]) (.seq (.rg [V 50 (.mv (.t 0)),
V 51 (.mv (.t 5)),
V 52 (.mv (.t 1)),
V 53 (.idx 6 (.t 50) (.t 51)),
V 54 (.fad 2 (.t 53)),
V 55 (.fad 3 (.t 54)),
Vn (.st 1 (.t 55) (.t 52))]) (.rg [V 56 (.mv (.t 1)),
V 57 (.bin .add (.t 56) (.k (.c (.i 1)))),
V 1 (.mv (.t 57))]))))))))))) (.rg [V 10 (.mv (.t 5)),
V 11 (.bin .add (.t 10) (.k (.c (.i 1)))),
V 5 (.mv (.t 11))]))

def vf33c:VC:=.seq (.rg [V 4 (.mv (.k (.c (.i 0))))]) (.seq (.seq (.rg [V 5 (.mv (.k (.c (.i 0))))]) (.block 0 (.loop vf33b0))) (.seq (.rg [V 58 (.mv (.t 1)),
V 4 (.mv (.t 58))]) (.ret)))

def vf33:VF:=⟨vf33c,vf33v,[(4,none)]⟩

theorem ok33:chkF Try.prog Try.f33 vf33=true:=by kernel_rfl

theorem dr33:drawsB vf33.body=true:=by kernel_rfl

def vf34v:List Nat:=[0,1,2,4,10,16]

def vf34c:VC:=.seq (.rg [V 2 (.box (.t 0)),
V 4 (.mv (.k (.c (.i 0))))]) (.seq (.rg [V 5 (.fad 0 (.t 2)),
V 6 (.ld none (.t 5)),
V 7 (.mv (.t 1)),
V 8 (.call 63 [(.t 6),(.t 7)]),
V 1 (.mv (.t 8))]) (.seq (.seq (.rg [V 9 (.mv (.t 1)),
V 10 (.bin .lt (.t 9) (.k (.c (.i 0))))]) (.cond (.t 10) (.seq (.rg [V 4 (.mv (.k (.c (.i (-1)))))]) (.ret)) (.skip))) (.seq (.rg [V 11 (.fad 1 (.t 2)),
V 12 (.ld none (.t 11)),
V 13 (.mv (.t 1)),
V 14 (.call 64 [(.t 12),(.t 13)]),
V 1 (.mv (.t 14))]) (.seq (.seq (.rg [V 15 (.mv (.t 1)),
V 16 (.bin .lt (.t 15) (.k (.c (.i 0))))]) (.cond (.t 16) (.seq (.rg [V 4 (.mv (.k (.c (.i (-1)))))]) (.ret)) (.skip))) (.seq (.rg [V 17 (.mv (.t 1)),
V 4 (.mv (.t 17))]) (.ret))))))

def vf34:VF:=⟨vf34c,vf34v,[(4,none)]⟩

theorem ok34:chkF Try.prog Try.f34 vf34=true:=by kernel_rfl

theorem dr34:drawsB vf34.body=true:=by kernel_rfl

def vf37v:List Nat:=[0,1,2,3]

def vf37c:VC:=.seq (.rg [V 1 (.box (.t 0)),
V 2 (.alloc [.ns,.ns,.i 0,.i 0,.i 0,.i 0])]) (.seq (.rg [V 3 (.alloc [.ns,.ns,.i 0,.i 0,.i 0,.i 0])]) (.seq (.rg [V 4 (.fad 0 (.t 1)),
V 5 (.ld none (.t 4)),
V 6 (.call 69 [(.t 5)]),
V 7 (.fad 0 (.t 3)),
Vn (.st 1 (.t 7) (.t 6))]) (.seq (.rg [V 8 (.fad 1 (.t 1)),
V 9 (.ld none (.t 8)),
V 10 (.call 70 [(.t 9)]),
V 11 (.fad 1 (.t 3)),
Vn (.st 1 (.t 11) (.t 10))]) (.seq (.rg [V 12 (.fad 2 (.t 1)),
V 13 (.ld (some 4) (.t 12)),
V 14 (.call 71 [(.t 13)]),
V 15 (.fad 2 (.t 3)),
Vn (.st 4 (.t 15) (.t 14))]) (.seq (.rg [V 16 (.ld (some 6) (.t 3)),
Vn (.st 6 (.t 2) (.t 16))]) (.ret))))))

def vf37:VF:=⟨vf37c,vf37v,[(2,(some (some 6)))]⟩

theorem ok37:chkF Try.prog Try.f37 vf37=true:=by kernel_rfl

theorem dr37:drawsB vf37.body=true:=by kernel_rfl

def vf38v:List Nat:=[0,1,4]

def vf38c:VC:=.seq (.rg [V 4 (.mv (.k (.c (.b false))))]) (.seq (.rg [V 5 (.mv (.t 0)),
V 6 (.mv (.t 1)),
V 7 (.call 72 [(.t 5),(.t 6)]),
V 8 (.bin .ge (.t 7) (.k (.c (.i 0)))),
V 4 (.mv (.t 8))]) (.ret))

def vf38:VF:=⟨vf38c,vf38v,[(4,none)]⟩

theorem ok38:chkF Try.prog Try.f38 vf38=true:=by kernel_rfl

theorem dr38:drawsB vf38.body=true:=by kernel_rfl

def vf45v:List Nat:=[0,1,2,3,4,10,16,22]

def vf45c:VC:=.seq (.rg [V 2 (.box (.t 0)),
V 3 (.box (.t 1)),
V 4 (.mv (.k (.c (.b false))))]) (.seq (.seq (.rg [V 5 (.fad 0 (.t 2)),
V 6 (.ld none (.t 5)),
V 7 (.fad 0 (.t 3)),
V 8 (.ld none (.t 7)),
V 9 (.call 75 [(.t 6),(.t 8)]),
V 10 (.not (.t 9))]) (.cond (.t 10) (.seq (.rg [V 4 (.mv (.k (.c (.b false))))]) (.ret)) (.skip))) (.seq (.seq (.rg [V 11 (.fad 1 (.t 2)),
V 12 (.ld none (.t 11)),
V 13 (.fad 1 (.t 3)),
V 14 (.ld none (.t 13)),
V 15 (.call 76 [(.t 12),(.t 14)]),
V 16 (.not (.t 15))]) (.cond (.t 16) (.seq (.rg [V 4 (.mv (.k (.c (.b false))))]) (.ret)) (.skip))) (.seq (.seq (.rg [V 17 (.fad 2 (.t 2)),
V 18 (.ld (some 4) (.t 17)),
V 19 (.fad 2 (.t 3)),
V 20 (.ld (some 4) (.t 19)),
V 21 (.call 77 [(.t 18),(.t 20)]),
V 22 (.not (.t 21))]) (.cond (.t 22) (.seq (.rg [V 4 (.mv (.k (.c (.b false))))]) (.ret)) (.skip))) (.seq (.rg [V 4 (.mv (.k (.c (.b true))))]) (.ret)))))

def vf45:VF:=⟨vf45c,vf45v,[(4,none)]⟩

theorem ok45:chkF Try.prog Try.f45 vf45=true:=by kernel_rfl

theorem dr45:drawsB vf45.body=true:=by kernel_rfl

def vf46v:List Nat:=[0,1,2,6]

def vf46c:VC:=.seq (.rg [V 6 (.mv (.k (.c (.b false))))]) (.seq (.rg [V 7 (.mv (.t 0)),
V 8 (.mv (.t 1)),
V 9 (.bin .ge (.t 7) (.t 8)),
V 10 (.mv (.t 9)),
Vg 11 10 true (.mv (.t 0)),
Vg 12 10 true (.mv (.t 2)),
Vg 13 10 true (.bin .le (.t 11) (.t 12)),
V 14 (.pick (.t 10) (.t 13) (.k (.c (.b false)))),
V 6 (.mv (.t 14))]) (.ret))

def vf46:VF:=⟨vf46c,vf46v,[(6,none)]⟩

theorem ok46:chkF Try.prog Try.f46 vf46=true:=by kernel_rfl

theorem dr46:drawsB vf46.body=true:=by kernel_rfl

def vf47v:List Nat:=[0,1,2,3,6,7,8,9,25,26,39,48]

def vf47c:VC:=.seq (.rg [V 3 (.box (.t 0)),
V 6 (.mv (.k (.c (.b false))))]) (.seq (.rg [V 10 (.fad 2 (.t 3)),
V 11 (.ld none (.t 10)),
V 12 (.mv (.t 1)),
V 13 (.bin .sub (.t 12) (.k (.c (.i 1)))),
V 14 (.call 46 [(.t 11),(.k (.c (.i 0))),(.t 13)]),
V 7 (.mv (.t 14))]) (.seq (.rg [V 15 (.fad 3 (.t 3)),
V 16 (.ld none (.t 15)),
V 17 (.mv (.t 1)),
V 18 (.bin .sub (.t 17) (.k (.c (.i 1)))),
V 19 (.call 46 [(.t 16),(.k (.c (.i 0))),(.t 18)]),
V 8 (.mv (.t 19))]) (.seq (.rg [V 20 (.fad 1 (.t 3)),
V 21 (.ld none (.t 20)),
V 22 (.mv (.t 2)),
V 23 (.call 78 [(.t 21),(.t 22)]),
V 9 (.mv (.t 23))]) (.seq (.seq (.rg [V 24 (.fad 0 (.t 3)),
V 25 (.ld none (.t 24))]) (.block 0 (.seq (.rg [V 27 (.bin .eq (.t 25) (.k (.c (.i 1)))),
V 26 (.mv (.t 27))]) (.cond (.t 26) (.seq (.rg [V 28 (.mv (.t 7)),
V 29 (.mv (.t 28)),
Vg 30 29 true (.fad 1 (.t 3)),
Vg 31 29 true (.ld none (.t 30)),
Vg 32 29 true (.bin .eq (.t 31) (.k (.c (.i 0)))),
V 33 (.pick (.t 29) (.t 32) (.k (.c (.b false)))),
V 34 (.mv (.t 33)),
Vg 35 34 true (.fad 3 (.t 3)),
Vg 36 34 true (.ld none (.t 35)),
Vg 37 34 true (.bin .eq (.t 36) (.k (.c (.i 0)))),
V 38 (.pick (.t 34) (.t 37) (.k (.c (.b false)))),
V 6 (.mv (.t 38))]) (.ret)) (.seq (.rg [V 40 (.bin .eq (.t 25) (.k (.c (.i 2)))),
V 39 (.mv (.t 40))]) (.cond (.t 39) (.seq (.rg [V 41 (.mv (.t 7)),
V 42 (.mv (.t 41)),
Vg 43 42 true (.mv (.t 8)),
V 44 (.pick (.t 42) (.t 43) (.k (.c (.b false)))),
V 45 (.mv (.t 44)),
Vg 46 45 true (.mv (.t 9)),
V 47 (.pick (.t 45) (.t 46) (.k (.c (.b false)))),
V 6 (.mv (.t 47))]) (.ret)) (.seq (.rg [V 49 (.bin .eq (.t 25) (.k (.c (.i 3)))),
V 48 (.mv (.t 49))]) (.cond (.t 48) (.seq (.rg [V 50 (.mv (.t 9)),
V 51 (.mv (.t 50)),
Vg 52 51 true (.fad 2 (.t 3)),
Vg 53 51 true (.ld none (.t 52)),
Vg 54 51 true (.bin .eq (.t 53) (.k (.c (.i 0)))),
V 55 (.pick (.t 51) (.t 54) (.k (.c (.b false)))),
V 56 (.mv (.t 55)),
Vg 57 56 true (.fad 3 (.t 3)),
Vg 58 56 true (.ld none (.t 57)),
Vg 59 56 true (.bin .eq (.t 58) (.k (.c (.i 0)))),
V 60 (.pick (.t 56) (.t 59) (.k (.c (.b false)))),
V 6 (.mv (.t 60))]) (.ret)) (.skip))))))))) (.seq (.rg [V 6 (.mv (.k (.c (.b false))))]) (.ret))))))

def vf47:VF:=⟨vf47c,vf47v,[(6,none)]⟩

theorem ok47:chkF Try.prog Try.f47 vf47=true:=by kernel_rfl

theorem dr47:drawsB vf47.body=true:=by kernel_rfl

def vf48v:List Nat:=[0,1,2,3,6,7,8,19,24,47,50,65]

def vf48b0:VC:=.seq (.seq (.rg [V 48 (.mv (.t 8)),
V 49 (.mv (.t 7)),
V 50 (.bin .lt (.t 48) (.t 49))]) (.cond (.t 50) (.skip) (.exit 2))) (.seq (.block 3 (.seq (.rd [V 53 (.fad 1 (.t 3)),
Vd [0] (V 54 (.ld none (.t 53))),
V 55 (.mv (.t 8)),
Vd [1,2] (V 56 (.idx 2 (.t 54) (.t 55))),
Vd [3] (V 57 (.fad 0 (.t 56))),
Vd [4] (V 58 (.ld none (.t 57))),
V 59 (.fad 1 (.t 3)),
Vd [6] (V 60 (.ld none (.t 59))),
V 61 (.mv (.t 7)),
Vd [7,8] (V 62 (.idx 2 (.t 60) (.t 61))),
Vd [9] (V 63 (.fad 0 (.t 62))),
Vd [10] (V 64 (.ld none (.t 63))),
Vd [5,11] (V 65 (.bin .eq (.t 58) (.t 64)))]) (.cond (.t 65) (.seq (.rg [V 6 (.mv (.k (.c (.b false))))]) (.ret)) (.skip)))) (.rg [V 51 (.mv (.t 8)),
V 52 (.bin .add (.t 51) (.k (.c (.i 1)))),
V 8 (.mv (.t 52))]))

def vf48b1:VC:=.seq (.seq (.rg [V 20 (.mv (.t 7)),
V 21 (.fad 1 (.t 3)),
V 22 (.ld none (.t 21)),
V 23 (.len (.t 22)),
V 24 (.bin .lt (.t 20) (.t 23))]) (.cond (.t 24) (.skip) (.exit 0))) (.seq (.block 1 (.seq (.seq (.rg [V 27 (.fad 1 (.t 3)),
V 28 (.ld none (.t 27)),
V 29 (.mv (.t 7)),
V 30 (.idx 2 (.t 28) (.t 29)),
V 31 (.fad 0 (.t 30)),
V 32 (.ld none (.t 31)),
V 33 (.mv (.t 1)),
V 34 (.bin .sub (.t 33) (.k (.c (.i 1)))),
V 35 (.call 46 [(.t 32),(.k (.c (.i 0))),(.t 34)]),
V 36 (.not (.t 35)),
V 37 (.mv (.t 36)),
Vg 38 37 false (.fad 1 (.t 3)),
Vg 39 37 false (.ld none (.t 38)),
Vg 40 37 false (.mv (.t 7)),
Vg 41 37 false (.idx 2 (.t 39) (.t 40)),
Vg 42 37 false (.fad 1 (.t 41)),
Vg 43 37 false (.ld none (.t 42)),
Vg 44 37 false (.mv (.t 2)),
Vg 45 37 false (.call 78 [(.t 43),(.t 44)]),
Vg 46 37 false (.not (.t 45)),
V 47 (.pick (.t 37) (.k (.c (.b true))) (.t 46))]) (.cond (.t 47) (.seq (.rg [V 6 (.mv (.k (.c (.b false))))]) (.ret)) (.skip))) (.seq (.rg [V 8 (.mv (.k (.c (.i 0))))]) (.block 2 (.loop vf48b0))))) (.rg [V 25 (.mv (.t 7)),
V 26 (.bin .add (.t 25) (.k (.c (.i 1)))),
V 7 (.mv (.t 26))]))

def vf48c:VC:=.seq (.rg [V 3 (.box (.t 0)),
V 6 (.mv (.k (.c (.b false))))]) (.seq (.seq (.rg [V 9 (.fad 0 (.t 3)),
V 10 (.ld none (.t 9)),
V 11 (.mv (.t 2)),
V 12 (.call 78 [(.t 10),(.t 11)]),
V 13 (.not (.t 12)),
V 14 (.mv (.t 13)),
Vg 15 14 false (.fad 1 (.t 3)),
Vg 16 14 false (.ld none (.t 15)),
Vg 17 14 false (.len (.t 16)),
Vg 18 14 false (.bin .gt (.t 17) (.k (.c (.i 16)))),
V 19 (.pick (.t 14) (.k (.c (.b true))) (.t 18))]) (.cond (.t 19) (.seq (.rg [V 6 (.mv (.k (.c (.b false))))]) (.ret)) (.skip))) (.seq (.seq (.rg [V 7 (.mv (.k (.c (.i 0))))]) (.block 0 (.loop vf48b1))) (.seq (.rg [V 6 (.mv (.k (.c (.b true))))]) (.ret))))

def vf48:VF:=⟨vf48c,vf48v,[(6,none)]⟩

theorem ok48:chkF Try.prog Try.f48 vf48=true:=by kernel_rfl

theorem dr48:drawsB vf48.body=true:=by kernel_rfl
def vf49v:List Nat:=[0,1,2,4,5,6,7,20,36,51,74,92,112]

def vf49c:VC:=.seq (.rg [V 2 (.box (.t 0)),
V 4 (.mv (.k (.c (.b false))))]) (.seq (.rg [V 8 (.fad 1 (.t 2)),
V 9 (.ld none (.t 8)),
V 10 (.mv (.t 1)),
V 11 (.call 78 [(.t 9),(.t 10)]),
V 5 (.mv (.t 11))]) (.seq (.rg [V 12 (.fad 2 (.t 2)),
V 13 (.ld none (.t 12)),
V 14 (.mv (.t 1)),
V 15 (.call 78 [(.t 13),(.t 14)]),
V 6 (.mv (.t 15))]) (.seq (.rg [V 16 (.fad 3 (.t 2)),
V 17 (.ld none (.t 16)),
V 18 (.mv (.t 1)),
V 19 (.call 78 [(.t 17),(.t 18)]),
V 7 (.mv (.t 19))]) (.seq (.block 0 (.seq (.rg [V 21 (.fad 0 (.t 2)),
V 22 (.ld none (.t 21)),
V 23 (.call 79 [(.t 22)]),
V 20 (.mv (.t 23))]) (.cond (.t 20) (.seq (.rg [V 24 (.mv (.t 5)),
V 25 (.mv (.t 24)),
Vg 26 25 true (.mv (.t 6)),
V 27 (.pick (.t 25) (.t 26) (.k (.c (.b false)))),
V 28 (.mv (.t 27)),
Vg 29 28 true (.mv (.t 7)),
V 30 (.pick (.t 28) (.t 29) (.k (.c (.b false)))),
V 31 (.mv (.t 30)),
Vg 32 31 true (.fad 4 (.t 2)),
Vg 33 31 true (.ld none (.t 32)),
Vg 34 31 true (.bin .eq (.t 33) (.k (.c (.i 0)))),
V 35 (.pick (.t 31) (.t 34) (.k (.c (.b false)))),
V 4 (.mv (.t 35))]) (.ret)) (.seq (.rg [V 37 (.fad 0 (.t 2)),
V 38 (.ld none (.t 37)),
V 39 (.bin .eq (.t 38) (.k (.c (.i 20)))),
V 36 (.mv (.t 39))]) (.cond (.t 36) (.seq (.rg [V 40 (.mv (.t 5)),
V 41 (.mv (.t 40)),
Vg 42 41 true (.fad 2 (.t 2)),
Vg 43 41 true (.ld none (.t 42)),
Vg 44 41 true (.bin .eq (.t 43) (.k (.c (.i 0)))),
V 45 (.pick (.t 41) (.t 44) (.k (.c (.b false)))),
V 46 (.mv (.t 45)),
Vg 47 46 true (.fad 3 (.t 2)),
Vg 48 46 true (.ld none (.t 47)),
Vg 49 46 true (.bin .eq (.t 48) (.k (.c (.i 0)))),
V 50 (.pick (.t 46) (.t 49) (.k (.c (.b false)))),
V 4 (.mv (.t 50))]) (.ret)) (.seq (.rg [V 52 (.fad 0 (.t 2)),
V 53 (.ld none (.t 52)),
V 54 (.bin .eq (.t 53) (.k (.c (.i 21)))),
V 55 (.mv (.t 54)),
Vg 56 55 false (.fad 0 (.t 2)),
Vg 57 55 false (.ld none (.t 56)),
Vg 58 55 false (.bin .eq (.t 57) (.k (.c (.i 25)))),
V 59 (.pick (.t 55) (.k (.c (.b true))) (.t 58)),
V 51 (.mv (.t 59))]) (.cond (.t 51) (.seq (.rg [V 60 (.mv (.t 5)),
V 61 (.mv (.t 60)),
Vg 62 61 true (.mv (.t 6)),
V 63 (.pick (.t 61) (.t 62) (.k (.c (.b false)))),
V 64 (.mv (.t 63)),
Vg 65 64 true (.fad 3 (.t 2)),
Vg 66 64 true (.ld none (.t 65)),
Vg 67 64 true (.bin .eq (.t 66) (.k (.c (.i 0)))),
V 68 (.pick (.t 64) (.t 67) (.k (.c (.b false)))),
V 69 (.mv (.t 68)),
Vg 70 69 true (.fad 4 (.t 2)),
Vg 71 69 true (.ld none (.t 70)),
Vg 72 69 true (.bin .eq (.t 71) (.k (.c (.i 0)))),
V 73 (.pick (.t 69) (.t 72) (.k (.c (.b false)))),
V 4 (.mv (.t 73))]) (.ret)) (.seq (.rg [V 75 (.fad 0 (.t 2)),
V 76 (.ld none (.t 75)),
V 77 (.bin .eq (.t 76) (.k (.c (.i 22)))),
V 74 (.mv (.t 77))]) (.cond (.t 74) (.seq (.rg [V 78 (.mv (.t 6)),
V 79 (.mv (.t 78)),
Vg 80 79 true (.mv (.t 7)),
V 81 (.pick (.t 79) (.t 80) (.k (.c (.b false)))),
V 82 (.mv (.t 81)),
Vg 83 82 true (.fad 1 (.t 2)),
Vg 84 82 true (.ld none (.t 83)),
Vg 85 82 true (.bin .eq (.t 84) (.k (.c (.i 0)))),
V 86 (.pick (.t 82) (.t 85) (.k (.c (.b false)))),
V 87 (.mv (.t 86)),
Vg 88 87 true (.fad 4 (.t 2)),
Vg 89 87 true (.ld none (.t 88)),
Vg 90 87 true (.bin .eq (.t 89) (.k (.c (.i 0)))),
V 91 (.pick (.t 87) (.t 90) (.k (.c (.b false)))),
V 4 (.mv (.t 91))]) (.ret)) (.seq (.rg [V 93 (.fad 0 (.t 2)),
V 94 (.ld none (.t 93)),
V 95 (.bin .eq (.t 94) (.k (.c (.i 23)))),
V 92 (.mv (.t 95))]) (.cond (.t 92) (.seq (.rg [V 96 (.mv (.t 6)),
V 97 (.mv (.t 96)),
Vg 98 97 true (.fad 1 (.t 2)),
Vg 99 97 true (.ld none (.t 98)),
Vg 100 97 true (.bin .eq (.t 99) (.k (.c (.i 0)))),
V 101 (.pick (.t 97) (.t 100) (.k (.c (.b false)))),
V 102 (.mv (.t 101)),
Vg 103 102 true (.fad 3 (.t 2)),
Vg 104 102 true (.ld none (.t 103)),
Vg 105 102 true (.bin .eq (.t 104) (.k (.c (.i 0)))),
V 106 (.pick (.t 102) (.t 105) (.k (.c (.b false)))),
V 107 (.mv (.t 106)),
Vg 108 107 true (.fad 4 (.t 2)),
Vg 109 107 true (.ld none (.t 108)),
Vg 110 107 true (.bin .eq (.t 109) (.k (.c (.i 0)))),
V 111 (.pick (.t 107) (.t 110) (.k (.c (.b false)))),
V 4 (.mv (.t 111))]) (.ret)) (.seq (.rg [V 113 (.fad 0 (.t 2)),
V 114 (.ld none (.t 113)),
V 115 (.bin .eq (.t 114) (.k (.c (.i 24)))),
V 112 (.mv (.t 115))]) (.cond (.t 112) (.seq (.rg [V 116 (.mv (.t 5)),
V 117 (.mv (.t 116)),
Vg 118 117 true (.fad 2 (.t 2)),
Vg 119 117 true (.ld none (.t 118)),
Vg 120 117 true (.bin .eq (.t 119) (.k (.c (.i 0)))),
V 121 (.pick (.t 117) (.t 120) (.k (.c (.b false)))),
V 122 (.mv (.t 121)),
Vg 123 122 true (.fad 3 (.t 2)),
Vg 124 122 true (.ld none (.t 123)),
Vg 125 122 true (.bin .eq (.t 124) (.k (.c (.i 0)))),
V 126 (.pick (.t 122) (.t 125) (.k (.c (.b false)))),
V 127 (.mv (.t 126)),
Vg 128 127 true (.fad 4 (.t 2)),
Vg 129 127 true (.ld none (.t 128)),
Vg 130 127 true (.bin .eq (.t 129) (.k (.c (.i 0)))),
V 131 (.pick (.t 127) (.t 130) (.k (.c (.b false)))),
V 4 (.mv (.t 131))]) (.ret)) (.skip)))))))))))))) (.seq (.rg [V 4 (.mv (.k (.c (.b false))))]) (.ret))))))

def vf49:VF:=⟨vf49c,vf49v,[(4,none)]⟩

theorem ok49:chkF Try.prog Try.f49 vf49=true:=by kernel_rfl

theorem dr49:drawsB vf49.body=true:=by kernel_rfl

def vf50v:List Nat:=[0,1,2,6]

def vf50c:VC:=.seq (.rg [V 6 (.mv (.k (.c (.b false))))]) (.seq (.rg [V 7 (.mv (.t 0)),
V 8 (.mv (.t 1)),
V 9 (.bin .ge (.t 7) (.t 8)),
V 10 (.mv (.t 9)),
Vg 11 10 true (.mv (.t 0)),
Vg 12 10 true (.mv (.t 2)),
Vg 13 10 true (.bin .le (.t 11) (.t 12)),
V 14 (.pick (.t 10) (.t 13) (.k (.c (.b false)))),
V 6 (.mv (.t 14))]) (.ret))

def vf50:VF:=⟨vf50c,vf50v,[(6,none)]⟩

theorem ok50:chkF Try.prog Try.f50 vf50=true:=by kernel_rfl

theorem dr50:drawsB vf50.body=true:=by kernel_rfl

def vf51v:List Nat:=[0,1,2,3,4,23]

def vf51c:VC:=.seq (.rg [V 3 (.box (.t 0)),
V 4 (.mv (.k (.c (.b false))))]) (.seq (.seq (.rg [V 5 (.fad 0 (.t 3)),
V 6 (.ld none (.t 5)),
V 7 (.len (.t 6)),
V 8 (.bin .gt (.t 7) (.k (.c (.i 24)))),
V 9 (.mv (.t 8)),
Vg 10 9 false (.fad 1 (.t 3)),
Vg 11 9 false (.ld none (.t 10)),
Vg 12 9 false (.len (.t 11)),
Vg 13 9 false (.bin .gt (.t 12) (.k (.c (.i 24)))),
V 14 (.pick (.t 9) (.k (.c (.b true))) (.t 13)),
V 15 (.mv (.t 14)),
Vg 16 15 false (.fad 2 (.t 3)),
Vg 17 15 false (.ld (some 4) (.t 16)),
Vg 18 15 false (.ld none (.t 1)),
Vg 19 15 false (.fad 1 (.t 2)),
Vg 20 15 false (.ld none (.t 19)),
Vg 21 15 false (.call 52 [(.t 17),(.t 18),(.t 20)]),
Vg 22 15 false (.not (.t 21)),
V 23 (.pick (.t 15) (.k (.c (.b true))) (.t 22))]) (.cond (.t 23) (.seq (.rg [V 4 (.mv (.k (.c (.b true))))]) (.ret)) (.skip))) (.seq (.rg [V 24 (.fad 0 (.t 3)),
V 25 (.ld none (.t 24)),
V 26 (.mkf 54 [(.t 1),(.t 2)]),
V 27 (.call 53 [(.t 25),(.t 26)]),
V 28 (.mv (.t 27)),
Vg 29 28 false (.fad 1 (.t 3)),
Vg 30 28 false (.ld none (.t 29)),
Vg 31 28 false (.mkf 57 [(.t 2)]),
Vg 32 28 false (.call 56 [(.t 30),(.t 31)]),
V 33 (.pick (.t 28) (.k (.c (.b true))) (.t 32)),
V 4 (.mv (.t 33))]) (.ret)))

def vf51:VF:=⟨vf51c,vf51v,[(4,none)]⟩

theorem ok51:chkF Try.prog Try.f51 vf51=true:=by kernel_rfl

theorem dr51:drawsB vf51.body=true:=by kernel_rfl

def vf52v:List Nat:=[0,1,2,3,6,8,9,26,46]

def vf52c:VC:=.seq (.rg [V 3 (.box (.t 0)),
V 6 (.mv (.k (.c (.b false))))]) (.seq (.seq (.rg [V 7 (.fad 0 (.t 3)),
V 8 (.ld none (.t 7))]) (.block 0 (.seq (.rg [V 10 (.bin .eq (.t 8) (.k (.c (.i 1)))),
V 9 (.mv (.t 10))]) (.cond (.t 9) (.seq (.rg [V 11 (.fad 2 (.t 3)),
V 12 (.ld none (.t 11)),
V 13 (.mv (.t 1)),
V 14 (.bin .sub (.t 13) (.k (.c (.i 1)))),
V 15 (.call 50 [(.t 12),(.k (.c (.i 0))),(.t 14)]),
V 16 (.mv (.t 15)),
Vg 17 16 true (.fad 1 (.t 3)),
Vg 18 16 true (.ld none (.t 17)),
Vg 19 16 true (.bin .eq (.t 18) (.k (.c (.i 0)))),
V 20 (.pick (.t 16) (.t 19) (.k (.c (.b false)))),
V 21 (.mv (.t 20)),
Vg 22 21 true (.fad 3 (.t 3)),
Vg 23 21 true (.ld none (.t 22)),
Vg 24 21 true (.bin .eq (.t 23) (.k (.c (.i 0)))),
V 25 (.pick (.t 21) (.t 24) (.k (.c (.b false)))),
V 6 (.mv (.t 25))]) (.ret)) (.seq (.rg [V 27 (.bin .eq (.t 8) (.k (.c (.i 2)))),
V 26 (.mv (.t 27))]) (.cond (.t 26) (.seq (.rg [V 28 (.fad 2 (.t 3)),
V 29 (.ld none (.t 28)),
V 30 (.mv (.t 1)),
V 31 (.bin .sub (.t 30) (.k (.c (.i 1)))),
V 32 (.call 50 [(.t 29),(.k (.c (.i 0))),(.t 31)]),
V 33 (.mv (.t 32)),
Vg 34 33 true (.fad 3 (.t 3)),
Vg 35 33 true (.ld none (.t 34)),
Vg 36 33 true (.mv (.t 1)),
Vg 37 33 true (.bin .sub (.t 36) (.k (.c (.i 1)))),
Vg 38 33 true (.call 50 [(.t 35),(.k (.c (.i 0))),(.t 37)]),
V 39 (.pick (.t 33) (.t 38) (.k (.c (.b false)))),
V 40 (.mv (.t 39)),
Vg 41 40 true (.fad 1 (.t 3)),
Vg 42 40 true (.ld none (.t 41)),
Vg 43 40 true (.mv (.t 2)),
Vg 44 40 true (.call 80 [(.t 42),(.k (.c (.b true))),(.t 43)]),
V 45 (.pick (.t 40) (.t 44) (.k (.c (.b false)))),
V 6 (.mv (.t 45))]) (.ret)) (.seq (.rg [V 47 (.bin .eq (.t 8) (.k (.c (.i 3)))),
V 46 (.mv (.t 47))]) (.cond (.t 46) (.seq (.rg [V 48 (.fad 1 (.t 3)),
V 49 (.ld none (.t 48)),
V 50 (.mv (.t 2)),
V 51 (.call 80 [(.t 49),(.k (.c (.b true))),(.t 50)]),
V 52 (.mv (.t 51)),
Vg 53 52 true (.fad 2 (.t 3)),
Vg 54 52 true (.ld none (.t 53)),
Vg 55 52 true (.bin .eq (.t 54) (.k (.c (.i 0)))),
V 56 (.pick (.t 52) (.t 55) (.k (.c (.b false)))),
V 57 (.mv (.t 56)),
Vg 58 57 true (.fad 3 (.t 3)),
Vg 59 57 true (.ld none (.t 58)),
Vg 60 57 true (.bin .eq (.t 59) (.k (.c (.i 0)))),
V 61 (.pick (.t 57) (.t 60) (.k (.c (.b false)))),
V 6 (.mv (.t 61))]) (.ret)) (.skip))))))))) (.seq (.rg [V 6 (.mv (.k (.c (.b false))))]) (.ret)))

def vf52:VF:=⟨vf52c,vf52v,[(6,none)]⟩

theorem ok52:chkF Try.prog Try.f52 vf52=true:=by kernel_rfl

theorem dr52:drawsB vf52.body=true:=by kernel_rfl

def vf53v:List Nat:=[0,1,4]

def vf53c:VC:=.seq (.rg [V 4 (.mv (.k (.c (.b false))))]) (.seq (.rg [V 5 (.mv (.t 0)),
V 6 (.mv (.t 1)),
V 7 (.call 81 [(.t 5),(.t 6)]),
V 8 (.bin .ge (.t 7) (.k (.c (.i 0)))),
V 4 (.mv (.t 8))]) (.ret))

def vf53:VF:=⟨vf53c,vf53v,[(4,none)]⟩

theorem ok53:chkF Try.prog Try.f53 vf53=true:=by kernel_rfl

theorem dr53:drawsB vf53.body=true:=by kernel_rfl

def vf54v:List Nat:=[0,1,2,3,4]

def vf54c:VC:=.seq (.rg [V 3 (.box (.t 0)),
V 4 (.mv (.k (.c (.b false))))]) (.seq (.rg [V 5 (.ld (some 2) (.t 3)),
V 6 (.ld none (.t 1)),
V 7 (.fad 1 (.t 2)),
V 8 (.ld none (.t 7)),
V 9 (.call 55 [(.t 5),(.t 6),(.t 8)]),
V 10 (.not (.t 9)),
V 4 (.mv (.t 10))]) (.ret))

def vf54:VF:=⟨vf54c,vf54v,[(4,none)]⟩

theorem ok54:chkF Try.prog Try.f54 vf54=true:=by kernel_rfl

theorem dr54:drawsB vf54.body=true:=by kernel_rfl

def vf55v:List Nat:=[0,1,2,3,6,7,8,10,11,12,13,37]

def vf55b0:VC:=.seq (.rg [V 13 (.bin .lt (.t 12) (.t 11))]) (.seq (.cond (.t 13) (.skip) (.exit 0)) (.seq (.block 1 (.seq (.rg [V 14 (.mv (.t 12)),
V 15 (.idx 2 (.t 10) (.t 12)),
V 16 (.ld (some 2) (.t 15)),
V 8 (.alloc [.i 0,.i 0]),
V 7 (.mv (.t 14)),
Vn (.st 2 (.t 8) (.t 16))]) (.seq (.rg [V 17 (.fad 0 (.t 8)),
V 18 (.ld none (.t 17)),
V 19 (.mv (.t 1)),
V 20 (.bin .sub (.t 19) (.k (.c (.i 1)))),
V 21 (.call 50 [(.t 18),(.k (.c (.i 0))),(.t 20)]),
V 22 (.not (.t 21)),
V 23 (.mv (.t 22)),
Vg 24 23 false (.fad 1 (.t 8)),
Vg 25 23 false (.ld none (.t 24)),
Vg 26 23 false (.mv (.t 2)),
Vg 27 23 false (.call 80 [(.t 25),(.k (.c (.b true))),(.t 26)]),
Vg 28 23 false (.not (.t 27)),
V 29 (.pick (.t 23) (.k (.c (.b true))) (.t 28)),
V 30 (.mv (.t 29)),
Vg 31 30 false (.fad 1 (.t 3)),
Vg 32 30 false (.ld none (.t 31)),
Vg 33 30 false (.mv (.t 7)),
Vg 34 30 false (.slc 2 (.t 32) none (some (.t 33))),
Vg 35 30 false (.mkf 83 [(.t 8)]),
Vg 36 30 false (.call 82 [(.t 34),(.t 35)]),
V 37 (.pick (.t 30) (.k (.c (.b true))) (.t 36))]) (.cond (.t 37) (.seq (.rg [V 6 (.mv (.k (.c (.b false))))]) (.ret)) (.skip))))) (.rg [V 38 (.bin .add (.t 12) (.k (.c (.i 1)))),
V 12 (.mv (.t 38))])))

def vf55c:VC:=.seq (.rg [V 3 (.box (.t 0)),
V 6 (.mv (.k (.c (.b false))))]) (.seq (.seq (.rg [V 9 (.fad 1 (.t 3)),
V 10 (.ld none (.t 9)),
V 11 (.len (.t 10)),
V 12 (.mv (.k (.c (.i 0))))]) (.block 0 (.loop vf55b0))) (.seq (.rg [V 39 (.fad 0 (.t 3)),
V 40 (.ld none (.t 39)),
V 41 (.mv (.t 2)),
V 42 (.call 80 [(.t 40),(.k (.c (.b true))),(.t 41)]),
V 43 (.mv (.t 42)),
Vg 44 43 true (.fad 1 (.t 3)),
Vg 45 43 true (.ld none (.t 44)),
Vg 46 43 true (.len (.t 45)),
Vg 47 43 true (.bin .le (.t 46) (.k (.c (.i 16)))),
V 48 (.pick (.t 43) (.t 47) (.k (.c (.b false)))),
V 6 (.mv (.t 48))]) (.ret)))

def vf55:VF:=⟨vf55c,vf55v,[(6,none)]⟩

theorem ok55:chkF Try.prog Try.f55 vf55=true:=by kernel_rfl

theorem dr55:drawsB vf55.body=true:=by kernel_rfl

def vf56v:List Nat:=[0,1,4]

def vf56c:VC:=.seq (.rg [V 4 (.mv (.k (.c (.b false))))]) (.seq (.rg [V 5 (.mv (.t 0)),
V 6 (.mv (.t 1)),
V 7 (.call 84 [(.t 5),(.t 6)]),
V 8 (.bin .ge (.t 7) (.k (.c (.i 0)))),
V 4 (.mv (.t 8))]) (.ret))

def vf56:VF:=⟨vf56c,vf56v,[(4,none)]⟩

theorem ok56:chkF Try.prog Try.f56 vf56=true:=by kernel_rfl

theorem dr56:drawsB vf56.body=true:=by kernel_rfl

def vf57v:List Nat:=[0,1,2,3]

def vf57c:VC:=.seq (.rg [V 2 (.box (.t 0)),
V 3 (.mv (.k (.c (.b false))))]) (.seq (.rg [V 4 (.ld (some 5) (.t 2)),
V 5 (.fad 1 (.t 1)),
V 6 (.ld none (.t 5)),
V 7 (.call 58 [(.t 4),(.t 6)]),
V 8 (.not (.t 7)),
V 3 (.mv (.t 8))]) (.ret))

def vf57:VF:=⟨vf57c,vf57v,[(3,none)]⟩

theorem ok57:chkF Try.prog Try.f57 vf57=true:=by kernel_rfl

theorem dr57:drawsB vf57.body=true:=by kernel_rfl

def vf58v:List Nat:=[0,1,2,4,6]

def vf58c:VC:=.seq (.rg [V 2 (.box (.t 0)),
V 4 (.mv (.k (.c (.b false))))]) (.seq (.rg [V 8 (.fad 0 (.t 2)),
V 9 (.ld none (.t 8)),
V 10 (.call 85 [(.t 9)]),
V 7 (.mv (.t 10)),
V 11 (.ext 0 (.t 7)),
V 12 (.ext 1 (.t 7)),
V 5 (.mv (.t 11)),
V 6 (.mv (.t 12))]) (.seq (.rd [V 13 (.mv (.t 6)),
Vd [0] (V 14 (.mv (.t 13))),
Vd [1] (Vg 15 14 true (.fad 1 (.t 2))),
Vc [2] [] true (Vg 16 14 true (.ld none (.t 15))),
Vd [1] (Vg 17 14 true (.fad 0 (.t 2))),
Vd [4] (Vg 18 14 true (.ld none (.t 17))),
Vc [5] [3] false (Vg 19 14 true (.call 86 [(.t 18),(.k (.c (.y 68)))])),
Vd [1] (Vg 20 14 true (.mv (.t 1))),
Vd [3,6,7] (Vg 21 14 true (.call 80 [(.t 16),(.t 19),(.t 20)])),
Vd [8] (V 22 (.pick (.t 14) (.t 21) (.k (.c (.b false))))),
Vd [9] (V 23 (.mv (.t 22))),
Vd [10] (Vg 24 23 true (.fad 2 (.t 2))),
Vc [11] [] true (Vg 25 23 true (.ld none (.t 24))),
Vd [10] (Vg 26 23 true (.fad 0 (.t 2))),
Vd [13] (Vg 27 23 true (.ld none (.t 26))),
Vc [14] [12] false (Vg 28 23 true (.call 86 [(.t 27),(.k (.c (.y 65)))])),
Vd [10] (Vg 29 23 true (.mv (.t 1))),
Vd [12,15,16] (Vg 30 23 true (.call 80 [(.t 25),(.t 28),(.t 29)])),
Vd [17] (V 31 (.pick (.t 23) (.t 30) (.k (.c (.b false))))),
Vd [18] (V 32 (.mv (.t 31))),
Vd [19] (Vg 33 32 true (.fad 3 (.t 2))),
Vc [20] [] true (Vg 34 32 true (.ld none (.t 33))),
Vd [19] (Vg 35 32 true (.fad 0 (.t 2))),
Vd [22] (Vg 36 32 true (.ld none (.t 35))),
Vc [23] [21] false (Vg 37 32 true (.call 86 [(.t 36),(.k (.c (.y 66)))])),
Vd [19] (Vg 38 32 true (.mv (.t 1))),
Vd [21,24,25] (Vg 39 32 true (.call 80 [(.t 34),(.t 37),(.t 38)])),
Vd [26] (V 40 (.pick (.t 32) (.t 39) (.k (.c (.b false))))),
Vd [27] (V 41 (.mv (.t 40))),
Vd [28] (Vg 42 41 true (.fad 4 (.t 2))),
Vd [29] (Vg 43 41 true (.ld none (.t 42))),
Vd [30] (Vg 44 41 true (.bin .eq (.t 43) (.k (.c (.i 0))))),
Vd [31] (Vg 45 41 true (.mv (.t 44))),
Vd [32] (Vg 46 45 false (.fad 0 (.t 2))),
Vd [33] (Vg 47 45 false (.ld none (.t 46))),
Vd [34] (Vg 48 45 false (.call 86 [(.t 47),(.k (.c (.y 78)))])),
Vd [35] (Vg 49 41 true (.pick (.t 45) (.k (.c (.b true))) (.t 48))),
Vd [36] (V 50 (.pick (.t 41) (.t 49) (.k (.c (.b false))))),
Vd [37] (V 4 (.mv (.t 50)))]) (.ret)))

def vf58:VF:=⟨vf58c,vf58v,[(4,none)]⟩

theorem ok58:chkF Try.prog Try.f58 vf58=true:=by kernel_rfl

theorem dr58:drawsB vf58.body=true:=by kernel_rfl

def vf61v:List Nat:=[0,1,4,5,9]

def vf61b0:VC:=.seq (.seq (.rg [V 6 (.mv (.t 5)),
V 7 (.mv (.t 0)),
V 8 (.len (.t 7)),
V 9 (.bin .lt (.t 6) (.t 8))]) (.cond (.t 9) (.skip) (.exit 0))) (.seq (.block 1 (.seq (.rg [V 12 (.mv (.t 0)),
V 13 (.mv (.t 5)),
V 14 (.mv (.t 1)),
V 15 (.idx 2 (.t 12) (.t 13)),
V 16 (.fad 0 (.t 15)),
Vn (.st 1 (.t 16) (.t 14))]) (.seq (.rg [V 17 (.mv (.t 1)),
V 18 (.bin .add (.t 17) (.k (.c (.i 1)))),
V 1 (.mv (.t 18))]) (.rg [V 19 (.mv (.t 0)),
V 20 (.mv (.t 5)),
V 21 (.idx 2 (.t 19) (.t 20)),
V 22 (.fad 1 (.t 21)),
V 23 (.ld none (.t 22)),
V 24 (.mv (.t 1)),
V 25 (.call 98 [(.t 23),(.t 24)]),
V 1 (.mv (.t 25))])))) (.rg [V 10 (.mv (.t 5)),
V 11 (.bin .add (.t 10) (.k (.c (.i 1)))),
V 5 (.mv (.t 11))]))

def vf61c:VC:=.seq (.rg [V 4 (.mv (.k (.c (.i 0))))]) (.seq (.seq (.rg [V 5 (.mv (.k (.c (.i 0))))]) (.block 0 (.loop vf61b0))) (.seq (.rg [V 26 (.mv (.t 1)),
V 4 (.mv (.t 26))]) (.ret)))

def vf61:VF:=⟨vf61c,vf61v,[(4,none)]⟩

theorem ok61:chkF Try.prog Try.f61 vf61=true:=by kernel_rfl

theorem dr61:drawsB vf61.body=true:=by kernel_rfl

def vf62v:List Nat:=[0,1,4,5,9]

def vf62b0:VC:=.seq (.seq (.rg [V 6 (.mv (.t 5)),
V 7 (.mv (.t 0)),
V 8 (.len (.t 7)),
V 9 (.bin .lt (.t 6) (.t 8))]) (.cond (.t 9) (.skip) (.exit 0))) (.seq (.block 1 (.seq (.rg [V 12 (.mv (.t 0)),
V 13 (.mv (.t 5)),
V 14 (.mv (.t 1)),
V 15 (.idx 5 (.t 12) (.t 13)),
V 16 (.fad 0 (.t 15)),
Vn (.st 1 (.t 16) (.t 14))]) (.seq (.rg [V 17 (.mv (.t 1)),
V 18 (.bin .add (.t 17) (.k (.c (.i 1)))),
V 1 (.mv (.t 18))]) (.seq (.rg [V 19 (.mv (.t 0)),
V 20 (.mv (.t 5)),
V 21 (.mv (.t 1)),
V 22 (.idx 5 (.t 19) (.t 20)),
V 23 (.fad 1 (.t 22)),
Vn (.st 1 (.t 23) (.t 21))]) (.seq (.rg [V 24 (.mv (.t 1)),
V 25 (.bin .add (.t 24) (.k (.c (.i 1)))),
V 1 (.mv (.t 25))]) (.seq (.rg [V 26 (.mv (.t 0)),
V 27 (.mv (.t 5)),
V 28 (.mv (.t 1)),
V 29 (.idx 5 (.t 26) (.t 27)),
V 30 (.fad 2 (.t 29)),
Vn (.st 1 (.t 30) (.t 28))]) (.seq (.rg [V 31 (.mv (.t 1)),
V 32 (.bin .add (.t 31) (.k (.c (.i 1)))),
V 1 (.mv (.t 32))]) (.seq (.rg [V 33 (.mv (.t 0)),
V 34 (.mv (.t 5)),
V 35 (.mv (.t 1)),
V 36 (.idx 5 (.t 33) (.t 34)),
V 37 (.fad 3 (.t 36)),
Vn (.st 1 (.t 37) (.t 35))]) (.seq (.rg [V 38 (.mv (.t 1)),
V 39 (.bin .add (.t 38) (.k (.c (.i 1)))),
V 1 (.mv (.t 39))]) (.seq (.rg [V 40 (.mv (.t 0)),
V 41 (.mv (.t 5)),
V 42 (.mv (.t 1)),
V 43 (.idx 5 (.t 40) (.t 41)),
V 44 (.fad 4 (.t 43)),
Vn (.st 1 (.t 44) (.t 42))]) (.rg [V 45 (.mv (.t 1)),
V 46 (.bin .add (.t 45) (.k (.c (.i 1)))),
V 1 (.mv (.t 46))]))))))))))) (.rg [V 10 (.mv (.t 5)),
V 11 (.bin .add (.t 10) (.k (.c (.i 1)))),
V 5 (.mv (.t 11))]))

def vf62c:VC:=.seq (.rg [V 4 (.mv (.k (.c (.i 0))))]) (.seq (.seq (.rg [V 5 (.mv (.k (.c (.i 0))))]) (.block 0 (.loop vf62b0))) (.seq (.rg [V 47 (.mv (.t 1)),
V 4 (.mv (.t 47))]) (.ret)))

def vf62:VF:=⟨vf62c,vf62v,[(4,none)]⟩

theorem ok62:chkF Try.prog Try.f62 vf62=true:=by kernel_rfl

theorem dr62:drawsB vf62.body=true:=by kernel_rfl

def vf63v:List Nat:=[0,1,4,5,11,15,25]

def vf63b0:VC:=.seq (.seq (.rg [V 12 (.mv (.t 5)),
V 13 (.mv (.t 0)),
V 14 (.len (.t 13)),
V 15 (.bin .lt (.t 12) (.t 14))]) (.cond (.t 15) (.skip) (.exit 0))) (.seq (.block 1 (.seq (.rg [V 18 (.mv (.t 0)),
V 19 (.mv (.t 5)),
V 20 (.idx 2 (.t 18) (.t 19)),
V 21 (.ld (some 2) (.t 20)),
V 22 (.mv (.t 1)),
V 23 (.call 99 [(.t 21),(.t 22)]),
V 1 (.mv (.t 23))]) (.seq (.rg [V 24 (.mv (.t 1)),
V 25 (.bin .lt (.t 24) (.k (.c (.i 0))))]) (.cond (.t 25) (.seq (.rg [V 4 (.mv (.k (.c (.i (-1)))))]) (.ret)) (.skip))))) (.rg [V 16 (.mv (.t 5)),
V 17 (.bin .add (.t 16) (.k (.c (.i 1)))),
V 5 (.mv (.t 17))]))

def vf63c:VC:=.seq (.rg [V 4 (.mv (.k (.c (.i 0))))]) (.seq (.rg [V 6 (.mv (.t 1)),
V 7 (.mv (.t 0)),
V 8 (.len (.t 7)),
V 9 (.bin .sub (.t 6) (.t 8)),
V 1 (.mv (.t 9))]) (.seq (.seq (.rg [V 10 (.mv (.t 1)),
V 11 (.bin .lt (.t 10) (.k (.c (.i 0))))]) (.cond (.t 11) (.seq (.rg [V 4 (.mv (.k (.c (.i (-1)))))]) (.ret)) (.skip))) (.seq (.seq (.rg [V 5 (.mv (.k (.c (.i 0))))]) (.block 0 (.loop vf63b0))) (.seq (.rg [V 26 (.mv (.t 1)),
V 4 (.mv (.t 26))]) (.ret)))))

def vf63:VF:=⟨vf63c,vf63v,[(4,none)]⟩

theorem ok63:chkF Try.prog Try.f63 vf63=true:=by kernel_rfl

theorem dr63:drawsB vf63.body=true:=by kernel_rfl

def vf64v:List Nat:=[0,1,4,10]

def vf64c:VC:=.seq (.rg [V 4 (.mv (.k (.c (.i 0))))]) (.seq (.rg [V 5 (.mv (.t 1)),
V 6 (.mv (.t 0)),
V 7 (.len (.t 6)),
V 8 (.bin .sub (.t 5) (.t 7)),
V 1 (.mv (.t 8))]) (.seq (.seq (.rg [V 9 (.mv (.t 1)),
V 10 (.bin .lt (.t 9) (.k (.c (.i 0))))]) (.cond (.t 10) (.seq (.rg [V 4 (.mv (.k (.c (.i (-1)))))]) (.ret)) (.skip))) (.seq (.rg [V 11 (.mv (.t 1)),
V 4 (.mv (.t 11))]) (.ret))))

def vf64:VF:=⟨vf64c,vf64v,[(4,none)]⟩

theorem ok64:chkF Try.prog Try.f64 vf64=true:=by kernel_rfl

theorem dr64:drawsB vf64.body=true:=by kernel_rfl

def vf69v:List Nat:=[0,2,3,4,11]

def vf69b0:VC:=.seq (.seq (.rg [V 8 (.mv (.t 4)),
V 9 (.mv (.t 0)),
V 10 (.len (.t 9)),
V 11 (.bin .lt (.t 8) (.t 10))]) (.cond (.t 11) (.skip) (.exit 0))) (.seq (.block 1 (.rg [V 14 (.mv (.t 3)),
V 15 (.mv (.t 4)),
V 16 (.mv (.t 0)),
V 17 (.mv (.t 4)),
V 18 (.idx 2 (.t 16) (.t 17)),
V 19 (.ld (some 2) (.t 18)),
V 20 (.call 102 [(.t 19)]),
V 21 (.idx 2 (.t 14) (.t 15)),
Vn (.st 2 (.t 21) (.t 20))])) (.rg [V 12 (.mv (.t 4)),
V 13 (.bin .add (.t 12) (.k (.c (.i 1)))),
V 4 (.mv (.t 13))]))

def vf69c:VC:=.seq (.rg [V 2 (.mv (.k (.c .ns)))]) (.seq (.rg [V 5 (.mv (.t 0)),
V 6 (.len (.t 5)),
V 7 (.mks 2 [.i 0,.ns] (.t 6)),
V 3 (.mv (.t 7))]) (.seq (.seq (.rg [V 4 (.mv (.k (.c (.i 0))))]) (.block 0 (.loop vf69b0))) (.seq (.rg [V 22 (.mv (.t 3)),
V 2 (.mv (.t 22))]) (.ret))))

def vf69:VF:=⟨vf69c,vf69v,[(2,none)]⟩

theorem ok69:chkF Try.prog Try.f69 vf69=true:=by kernel_rfl

theorem dr69:drawsB vf69.body=true:=by kernel_rfl

def vf70v:List Nat:=[0,2,3,4,11]

def vf70b0:VC:=.seq (.seq (.rg [V 8 (.mv (.t 4)),
V 9 (.mv (.t 0)),
V 10 (.len (.t 9)),
V 11 (.bin .lt (.t 8) (.t 10))]) (.cond (.t 11) (.skip) (.exit 0))) (.seq (.block 1 (.rg [V 14 (.mv (.t 3)),
V 15 (.mv (.t 4)),
V 16 (.mv (.t 0)),
V 17 (.mv (.t 4)),
V 18 (.idx 5 (.t 16) (.t 17)),
V 19 (.ld (some 5) (.t 18)),
V 20 (.call 103 [(.t 19)]),
V 21 (.idx 5 (.t 14) (.t 15)),
Vn (.st 5 (.t 21) (.t 20))])) (.rg [V 12 (.mv (.t 4)),
V 13 (.bin .add (.t 12) (.k (.c (.i 1)))),
V 4 (.mv (.t 13))]))

def vf70c:VC:=.seq (.rg [V 2 (.mv (.k (.c .ns)))]) (.seq (.rg [V 5 (.mv (.t 0)),
V 6 (.len (.t 5)),
V 7 (.mks 5 [.i 0,.i 0,.i 0,.i 0,.i 0] (.t 6)),
V 3 (.mv (.t 7))]) (.seq (.seq (.rg [V 4 (.mv (.k (.c (.i 0))))]) (.block 0 (.loop vf70b0))) (.seq (.rg [V 22 (.mv (.t 3)),
V 2 (.mv (.t 22))]) (.ret))))

def vf70:VF:=⟨vf70c,vf70v,[(2,none)]⟩

theorem ok70:chkF Try.prog Try.f70 vf70=true:=by kernel_rfl

theorem dr70:drawsB vf70.body=true:=by kernel_rfl

def vf71v:List Nat:=[0,1,2,3]

def vf71c:VC:=.seq (.rg [V 1 (.box (.t 0)),
V 2 (.alloc [.i 0,.i 0,.i 0,.i 0])]) (.seq (.rg [V 3 (.alloc [.i 0,.i 0,.i 0,.i 0])]) (.seq (.rg [V 4 (.fad 0 (.t 1)),
V 5 (.ld none (.t 4)),
V 6 (.fad 0 (.t 3)),
Vn (.st 1 (.t 6) (.t 5))]) (.seq (.rg [V 7 (.fad 1 (.t 1)),
V 8 (.ld none (.t 7)),
V 9 (.fad 1 (.t 3)),
Vn (.st 1 (.t 9) (.t 8))]) (.seq (.rg [V 10 (.fad 2 (.t 1)),
V 11 (.ld none (.t 10)),
V 12 (.fad 2 (.t 3)),
Vn (.st 1 (.t 12) (.t 11))]) (.seq (.rg [V 13 (.fad 3 (.t 1)),
V 14 (.ld none (.t 13)),
V 15 (.fad 3 (.t 3)),
Vn (.st 1 (.t 15) (.t 14))]) (.seq (.rg [V 16 (.ld (some 4) (.t 3)),
Vn (.st 4 (.t 2) (.t 16))]) (.ret)))))))

def vf71:VF:=⟨vf71c,vf71v,[(2,(some (some 4)))]⟩

theorem ok71:chkF Try.prog Try.f71 vf71=true:=by kernel_rfl

theorem dr71:drawsB vf71.body=true:=by kernel_rfl

def vf72v:List Nat:=[0,1,4,5,7,8,9,16]

def vf72b0:VC:=.seq (.rg [V 9 (.bin .lt (.t 8) (.t 7))]) (.seq (.cond (.t 9) (.skip) (.exit 0)) (.seq (.block 1 (.seq (.rg [V 10 (.mv (.t 8)),
V 5 (.mv (.t 10))]) (.seq (.rg [V 11 (.mv (.t 1)),
V 12 (.mv (.t 0)),
V 13 (.mv (.t 5)),
V 14 (.idx 6 (.t 12) (.t 13)),
V 15 (.ld (some 6) (.t 14)),
V 16 (.clv (.t 11) [(.t 15)])]) (.cond (.t 16) (.seq (.rg [V 17 (.mv (.t 5)),
V 4 (.mv (.t 17))]) (.ret)) (.skip))))) (.rg [V 18 (.bin .add (.t 8) (.k (.c (.i 1)))),
V 8 (.mv (.t 18))])))

def vf72c:VC:=.seq (.rg [V 4 (.mv (.k (.c (.i 0))))]) (.seq (.seq (.rg [V 6 (.mv (.t 0)),
V 7 (.len (.t 6)),
V 8 (.mv (.k (.c (.i 0))))]) (.block 0 (.loop vf72b0))) (.seq (.rg [V 4 (.mv (.k (.c (.i (-1)))))]) (.ret)))

def vf72:VF:=⟨vf72c,vf72v,[(4,none)]⟩

theorem ok72:chkF Try.prog Try.f72 vf72=true:=by kernel_rfl

theorem dr72:drawsB vf72.body=true:=by kernel_rfl

def vf75v:List Nat:=[0,1,4,5,10,14,26]

def vf75b0:VC:=.seq (.seq (.rg [V 11 (.mv (.t 5)),
V 12 (.mv (.t 0)),
V 13 (.len (.t 12)),
V 14 (.bin .lt (.t 11) (.t 13))]) (.cond (.t 14) (.skip) (.exit 0))) (.seq (.block 1 (.seq (.rd [V 17 (.mv (.t 0)),
V 18 (.mv (.t 5)),
Vd [0,1] (V 19 (.idx 2 (.t 17) (.t 18))),
Vd [2] (V 20 (.ld (some 2) (.t 19))),
V 21 (.mv (.t 1)),
V 22 (.mv (.t 5)),
Vd [4,5] (V 23 (.idx 2 (.t 21) (.t 22))),
Vd [6] (V 24 (.ld (some 2) (.t 23))),
Vd [3,7] (V 25 (.call 104 [(.t 20),(.t 24)])),
Vd [8] (V 26 (.not (.t 25)))]) (.cond (.t 26) (.seq (.rg [V 4 (.mv (.k (.c (.b false))))]) (.ret)) (.skip)))) (.rg [V 15 (.mv (.t 5)),
V 16 (.bin .add (.t 15) (.k (.c (.i 1)))),
V 5 (.mv (.t 16))]))

def vf75c:VC:=.seq (.rg [V 4 (.mv (.k (.c (.b false))))]) (.seq (.seq (.rg [V 6 (.mv (.t 0)),
V 7 (.len (.t 6)),
V 8 (.mv (.t 1)),
V 9 (.len (.t 8)),
V 10 (.bin .ne (.t 7) (.t 9))]) (.cond (.t 10) (.seq (.rg [V 4 (.mv (.k (.c (.b false))))]) (.ret)) (.skip))) (.seq (.seq (.rg [V 5 (.mv (.k (.c (.i 0))))]) (.block 0 (.loop vf75b0))) (.seq (.rg [V 4 (.mv (.k (.c (.b true))))]) (.ret))))

def vf75:VF:=⟨vf75c,vf75v,[(4,none)]⟩

theorem ok75:chkF Try.prog Try.f75 vf75=true:=by kernel_rfl

theorem dr75:drawsB vf75.body=true:=by kernel_rfl

def vf76v:List Nat:=[0,1,4,5,10,14,26]

def vf76b0:VC:=.seq (.seq (.rg [V 11 (.mv (.t 5)),
V 12 (.mv (.t 0)),
V 13 (.len (.t 12)),
V 14 (.bin .lt (.t 11) (.t 13))]) (.cond (.t 14) (.skip) (.exit 0))) (.seq (.block 1 (.seq (.rd [V 17 (.mv (.t 0)),
V 18 (.mv (.t 5)),
Vd [0,1] (V 19 (.idx 5 (.t 17) (.t 18))),
Vd [2] (V 20 (.ld (some 5) (.t 19))),
V 21 (.mv (.t 1)),
V 22 (.mv (.t 5)),
Vd [4,5] (V 23 (.idx 5 (.t 21) (.t 22))),
Vd [6] (V 24 (.ld (some 5) (.t 23))),
Vd [3,7] (V 25 (.call 105 [(.t 20),(.t 24)])),
Vd [8] (V 26 (.not (.t 25)))]) (.cond (.t 26) (.seq (.rg [V 4 (.mv (.k (.c (.b false))))]) (.ret)) (.skip)))) (.rg [V 15 (.mv (.t 5)),
V 16 (.bin .add (.t 15) (.k (.c (.i 1)))),
V 5 (.mv (.t 16))]))

def vf76c:VC:=.seq (.rg [V 4 (.mv (.k (.c (.b false))))]) (.seq (.seq (.rg [V 6 (.mv (.t 0)),
V 7 (.len (.t 6)),
V 8 (.mv (.t 1)),
V 9 (.len (.t 8)),
V 10 (.bin .ne (.t 7) (.t 9))]) (.cond (.t 10) (.seq (.rg [V 4 (.mv (.k (.c (.b false))))]) (.ret)) (.skip))) (.seq (.seq (.rg [V 5 (.mv (.k (.c (.i 0))))]) (.block 0 (.loop vf76b0))) (.seq (.rg [V 4 (.mv (.k (.c (.b true))))]) (.ret))))

def vf76:VF:=⟨vf76c,vf76v,[(4,none)]⟩

theorem ok76:chkF Try.prog Try.f76 vf76=true:=by kernel_rfl

theorem dr76:drawsB vf76.body=true:=by kernel_rfl

def vf77v:List Nat:=[0,1,2,3,4,9,14,19,24]

def vf77c:VC:=.seq (.rg [V 2 (.box (.t 0)),
V 3 (.box (.t 1)),
V 4 (.mv (.k (.c (.b false))))]) (.seq (.seq (.rg [V 5 (.fad 0 (.t 2)),
V 6 (.ld none (.t 5)),
V 7 (.fad 0 (.t 3)),
V 8 (.ld none (.t 7)),
V 9 (.bin .ne (.t 6) (.t 8))]) (.cond (.t 9) (.seq (.rg [V 4 (.mv (.k (.c (.b false))))]) (.ret)) (.skip))) (.seq (.seq (.rg [V 10 (.fad 1 (.t 2)),
V 11 (.ld none (.t 10)),
V 12 (.fad 1 (.t 3)),
V 13 (.ld none (.t 12)),
V 14 (.bin .ne (.t 11) (.t 13))]) (.cond (.t 14) (.seq (.rg [V 4 (.mv (.k (.c (.b false))))]) (.ret)) (.skip))) (.seq (.seq (.rg [V 15 (.fad 2 (.t 2)),
V 16 (.ld none (.t 15)),
V 17 (.fad 2 (.t 3)),
V 18 (.ld none (.t 17)),
V 19 (.bin .ne (.t 16) (.t 18))]) (.cond (.t 19) (.seq (.rg [V 4 (.mv (.k (.c (.b false))))]) (.ret)) (.skip))) (.seq (.seq (.rg [V 20 (.fad 3 (.t 2)),
V 21 (.ld none (.t 20)),
V 22 (.fad 3 (.t 3)),
V 23 (.ld none (.t 22)),
V 24 (.bin .ne (.t 21) (.t 23))]) (.cond (.t 24) (.seq (.rg [V 4 (.mv (.k (.c (.b false))))]) (.ret)) (.skip))) (.seq (.rg [V 4 (.mv (.k (.c (.b true))))]) (.ret))))))

def vf77:VF:=⟨vf77c,vf77v,[(4,none)]⟩

theorem ok77:chkF Try.prog Try.f77 vf77=true:=by kernel_rfl

theorem dr77:drawsB vf77.body=true:=by kernel_rfl

def vf78v:List Nat:=[0,1,4]

def vf78c:VC:=.seq (.rg [V 4 (.mv (.k (.c (.b false))))]) (.seq (.rg [V 5 (.mv (.t 0)),
V 6 (.bin .ge (.t 5) (.k (.c (.i 0)))),
V 7 (.mv (.t 6)),
Vg 8 7 true (.mv (.t 0)),
Vg 9 7 true (.mv (.t 1)),
Vg 10 7 true (.bin .lt (.t 8) (.t 9)),
V 11 (.pick (.t 7) (.t 10) (.k (.c (.b false)))),
V 4 (.mv (.t 11))]) (.ret))

def vf78:VF:=⟨vf78c,vf78v,[(4,none)]⟩

theorem ok78:chkF Try.prog Try.f78 vf78=true:=by kernel_rfl

theorem dr78:drawsB vf78.body=true:=by kernel_rfl

def vf79v:List Nat:=[0,2]

def vf79c:VC:=.seq (.rg [V 2 (.mv (.k (.c (.b false))))]) (.seq (.rg [V 3 (.mv (.t 0)),
V 4 (.call 46 [(.t 3),(.k (.c (.i 1))),(.k (.c (.i 10)))]),
V 2 (.mv (.t 4))]) (.ret))

def vf79:VF:=⟨vf79c,vf79v,[(2,none)]⟩

theorem ok79:chkF Try.prog Try.f79 vf79=true:=by kernel_rfl

theorem dr79:drawsB vf79.body=true:=by kernel_rfl

def vf80v:List Nat:=[0,1,2,6,7]

def vf80c:VC:=.seq (.rg [V 6 (.mv (.k (.c (.b false))))]) (.seq (.seq (.rg [V 7 (.mv (.t 1))]) (.cond (.t 7) (.seq (.rg [V 8 (.mv (.t 0)),
V 9 (.bin .ge (.t 8) (.k (.c (.i 0)))),
V 10 (.mv (.t 9)),
Vg 11 10 true (.mv (.t 0)),
Vg 12 10 true (.mv (.t 2)),
Vg 13 10 true (.bin .lt (.t 11) (.t 12)),
V 14 (.pick (.t 10) (.t 13) (.k (.c (.b false)))),
V 6 (.mv (.t 14))]) (.ret)) (.skip))) (.seq (.rg [V 15 (.mv (.t 0)),
V 16 (.bin .eq (.t 15) (.k (.c (.i 0)))),
V 6 (.mv (.t 16))]) (.ret)))

def vf80:VF:=⟨vf80c,vf80v,[(6,none)]⟩

theorem ok80:chkF Try.prog Try.f80 vf80=true:=by kernel_rfl

theorem dr80:drawsB vf80.body=true:=by kernel_rfl

def vf81v:List Nat:=[0,1,4,5,7,8,9,16]

def vf81b0:VC:=.seq (.rg [V 9 (.bin .lt (.t 8) (.t 7))]) (.seq (.cond (.t 9) (.skip) (.exit 0)) (.seq (.block 1 (.seq (.rg [V 10 (.mv (.t 8)),
V 5 (.mv (.t 10))]) (.seq (.rg [V 11 (.mv (.t 1)),
V 12 (.mv (.t 0)),
V 13 (.mv (.t 5)),
V 14 (.idx 2 (.t 12) (.t 13)),
V 15 (.ld (some 2) (.t 14)),
V 16 (.clv (.t 11) [(.t 15)])]) (.cond (.t 16) (.seq (.rg [V 17 (.mv (.t 5)),
V 4 (.mv (.t 17))]) (.ret)) (.skip))))) (.rg [V 18 (.bin .add (.t 8) (.k (.c (.i 1)))),
V 8 (.mv (.t 18))])))

def vf81c:VC:=.seq (.rg [V 4 (.mv (.k (.c (.i 0))))]) (.seq (.seq (.rg [V 6 (.mv (.t 0)),
V 7 (.len (.t 6)),
V 8 (.mv (.k (.c (.i 0))))]) (.block 0 (.loop vf81b0))) (.seq (.rg [V 4 (.mv (.k (.c (.i (-1)))))]) (.ret)))

def vf81:VF:=⟨vf81c,vf81v,[(4,none)]⟩

theorem ok81:chkF Try.prog Try.f81 vf81=true:=by kernel_rfl

theorem dr81:drawsB vf81.body=true:=by kernel_rfl

def vf82v:List Nat:=[0,1,4]

def vf82c:VC:=.seq (.rg [V 4 (.mv (.k (.c (.b false))))]) (.seq (.rg [V 5 (.mv (.t 0)),
V 6 (.mv (.t 1)),
V 7 (.call 106 [(.t 5),(.t 6)]),
V 8 (.bin .ge (.t 7) (.k (.c (.i 0)))),
V 4 (.mv (.t 8))]) (.ret))

def vf82:VF:=⟨vf82c,vf82v,[(4,none)]⟩

theorem ok82:chkF Try.prog Try.f82 vf82=true:=by kernel_rfl

theorem dr82:drawsB vf82.body=true:=by kernel_rfl

def vf83v:List Nat:=[0,1,2,3]

def vf83c:VC:=.seq (.rg [V 2 (.box (.t 0)),
V 3 (.mv (.k (.c (.b false))))]) (.seq (.rg [V 4 (.fad 0 (.t 2)),
V 5 (.ld none (.t 4)),
V 6 (.fad 0 (.t 1)),
V 7 (.ld none (.t 6)),
V 8 (.bin .eq (.t 5) (.t 7)),
V 3 (.mv (.t 8))]) (.ret))

def vf83:VF:=⟨vf83c,vf83v,[(3,none)]⟩

theorem ok83:chkF Try.prog Try.f83 vf83=true:=by kernel_rfl

theorem dr83:drawsB vf83.body=true:=by kernel_rfl

def vf84v:List Nat:=[0,1,4,5,7,8,9,16]

def vf84b0:VC:=.seq (.rg [V 9 (.bin .lt (.t 8) (.t 7))]) (.seq (.cond (.t 9) (.skip) (.exit 0)) (.seq (.block 1 (.seq (.rg [V 10 (.mv (.t 8)),
V 5 (.mv (.t 10))]) (.seq (.rg [V 11 (.mv (.t 1)),
V 12 (.mv (.t 0)),
V 13 (.mv (.t 5)),
V 14 (.idx 5 (.t 12) (.t 13)),
V 15 (.ld (some 5) (.t 14)),
V 16 (.clv (.t 11) [(.t 15)])]) (.cond (.t 16) (.seq (.rg [V 17 (.mv (.t 5)),
V 4 (.mv (.t 17))]) (.ret)) (.skip))))) (.rg [V 18 (.bin .add (.t 8) (.k (.c (.i 1)))),
V 8 (.mv (.t 18))])))

def vf84c:VC:=.seq (.rg [V 4 (.mv (.k (.c (.i 0))))]) (.seq (.seq (.rg [V 6 (.mv (.t 0)),
V 7 (.len (.t 6)),
V 8 (.mv (.k (.c (.i 0))))]) (.block 0 (.loop vf84b0))) (.seq (.rg [V 4 (.mv (.k (.c (.i (-1)))))]) (.ret)))

def vf84:VF:=⟨vf84c,vf84v,[(4,none)]⟩

theorem ok84:chkF Try.prog Try.f84 vf84=true:=by kernel_rfl

theorem dr84:drawsB vf84.body=true:=by kernel_rfl

def vf85v:List Nat:=[0,2,3,4,5,7,10,12,14]

def vf85c:VC:=.seq (.rg [V 2 (.mv (.k (.c (.s ⟨#[]⟩)))),
V 3 (.mv (.k (.c (.b false))))]) (.seq (.seq (.rg [V 4 (.mv (.t 0))]) (.block 0 (.seq (.rg [V 6 (.bin .eq (.t 4) (.k (.c (.i 20)))),
V 5 (.mv (.t 6))]) (.cond (.t 5) (.seq (.rg [V 2 (.mv (.k (.c (.s ⟨#[68,78]⟩)))),
V 3 (.mv (.k (.c (.b true))))]) (.ret)) (.seq (.seq (.rg [V 8 (.bin .eq (.t 4) (.k (.c (.i 21)))),
V 7 (.mv (.t 8))]) (.cond (.t 7) (.skip) (.rg [V 9 (.bin .eq (.t 4) (.k (.c (.i 25)))),
V 7 (.mv (.t 9))]))) (.cond (.t 7) (.seq (.rg [V 2 (.mv (.k (.c (.s ⟨#[68,65]⟩)))),
V 3 (.mv (.k (.c (.b true))))]) (.ret)) (.seq (.rg [V 11 (.bin .eq (.t 4) (.k (.c (.i 22)))),
V 10 (.mv (.t 11))]) (.cond (.t 10) (.seq (.rg [V 2 (.mv (.k (.c (.s ⟨#[65,66]⟩)))),
V 3 (.mv (.k (.c (.b true))))]) (.ret)) (.seq (.rg [V 13 (.bin .eq (.t 4) (.k (.c (.i 23)))),
V 12 (.mv (.t 13))]) (.cond (.t 12) (.seq (.rg [V 2 (.mv (.k (.c (.s ⟨#[65]⟩)))),
V 3 (.mv (.k (.c (.b true))))]) (.ret)) (.seq (.rg [V 15 (.bin .eq (.t 4) (.k (.c (.i 24)))),
V 14 (.mv (.t 15))]) (.cond (.t 14) (.seq (.rg [V 2 (.mv (.k (.c (.s ⟨#[68]⟩)))),
V 3 (.mv (.k (.c (.b true))))]) (.ret)) (.skip))))))))))))) (.seq (.rg [V 16 (.mv (.t 0)),
V 17 (.call 107 [(.t 16)]),
V 2 (.mv (.k (.c (.s ⟨#[68,65,66]⟩)))),
V 3 (.mv (.t 17))]) (.ret)))

def vf85:VF:=⟨vf85c,vf85v,[(2,none),(3,none)]⟩

theorem ok85:chkF Try.prog Try.f85 vf85=true:=by kernel_rfl

theorem dr85:drawsB vf85.body=true:=by kernel_rfl

def vf86v:List Nat:=[0,1,4,5,6]

def vf86c:VC:=.seq (.rg [V 4 (.mv (.k (.c (.b false))))]) (.seq (.rg [V 8 (.mv (.t 0)),
V 9 (.call 85 [(.t 8)]),
V 7 (.mv (.t 9)),
V 10 (.ext 0 (.t 7)),
V 11 (.ext 1 (.t 7)),
V 5 (.mv (.t 10)),
V 6 (.mv (.t 11))]) (.seq (.rg [V 12 (.mv (.t 6)),
V 13 (.mv (.t 12)),
Vg 14 13 true (.mv (.t 5)),
Vg 15 13 true (.s2b (.t 14)),
Vg 16 13 true (.mv (.t 1)),
Vg 17 13 true (.call 108 [(.t 15),(.t 16)]),
V 18 (.pick (.t 13) (.t 17) (.k (.c (.b false)))),
V 4 (.mv (.t 18))]) (.ret)))

def vf86:VF:=⟨vf86c,vf86v,[(4,none)]⟩

theorem ok86:chkF Try.prog Try.f86 vf86=true:=by kernel_rfl

theorem dr86:drawsB vf86.body=true:=by kernel_rfl

def vf98v:List Nat:=[0,1,4,5,9]

def vf98b0:VC:=.seq (.seq (.rg [V 6 (.mv (.t 5)),
V 7 (.mv (.t 0)),
V 8 (.len (.t 7)),
V 9 (.bin .lt (.t 6) (.t 8))]) (.cond (.t 9) (.skip) (.exit 0))) (.seq (.block 1 (.seq (.rg [V 12 (.mv (.t 0)),
V 13 (.mv (.t 5)),
V 14 (.mv (.t 1)),
V 15 (.idx 2 (.t 12) (.t 13)),
V 16 (.fad 0 (.t 15)),
Vn (.st 1 (.t 16) (.t 14))]) (.seq (.rg [V 17 (.mv (.t 1)),
V 18 (.bin .add (.t 17) (.k (.c (.i 1)))),
V 1 (.mv (.t 18))]) (.seq (.rg [V 19 (.mv (.t 0)),
V 20 (.mv (.t 5)),
V 21 (.mv (.t 1)),
V 22 (.idx 2 (.t 19) (.t 20)),
V 23 (.fad 1 (.t 22)),
Vn (.st 1 (.t 23) (.t 21))]) (.rg [V 24 (.mv (.t 1)),
V 25 (.bin .add (.t 24) (.k (.c (.i 1)))),
V 1 (.mv (.t 25))]))))) (.rg [V 10 (.mv (.t 5)),
V 11 (.bin .add (.t 10) (.k (.c (.i 1)))),
V 5 (.mv (.t 11))]))

def vf98c:VC:=.seq (.rg [V 4 (.mv (.k (.c (.i 0))))]) (.seq (.seq (.rg [V 5 (.mv (.k (.c (.i 0))))]) (.block 0 (.loop vf98b0))) (.seq (.rg [V 26 (.mv (.t 1)),
V 4 (.mv (.t 26))]) (.ret)))

def vf98:VF:=⟨vf98c,vf98v,[(4,none)]⟩

theorem ok98:chkF Try.prog Try.f98 vf98=true:=by kernel_rfl

theorem dr98:drawsB vf98.body=true:=by kernel_rfl

def vf99v:List Nat:=[0,1,2,4,10]

def vf99c:VC:=.seq (.rg [V 2 (.box (.t 0)),
V 4 (.mv (.k (.c (.i 0))))]) (.seq (.rg [V 5 (.fad 1 (.t 2)),
V 6 (.ld none (.t 5)),
V 7 (.mv (.t 1)),
V 8 (.call 115 [(.t 6),(.t 7)]),
V 1 (.mv (.t 8))]) (.seq (.seq (.rg [V 9 (.mv (.t 1)),
V 10 (.bin .lt (.t 9) (.k (.c (.i 0))))]) (.cond (.t 10) (.seq (.rg [V 4 (.mv (.k (.c (.i (-1)))))]) (.ret)) (.skip))) (.seq (.rg [V 11 (.mv (.t 1)),
V 4 (.mv (.t 11))]) (.ret))))

def vf99:VF:=⟨vf99c,vf99v,[(4,none)]⟩

theorem ok99:chkF Try.prog Try.f99 vf99=true:=by kernel_rfl

theorem dr99:drawsB vf99.body=true:=by kernel_rfl

def vf102v:List Nat:=[0,1,2,3]

def vf102c:VC:=.seq (.rg [V 1 (.box (.t 0)),
V 2 (.alloc [.i 0,.ns])]) (.seq (.rg [V 3 (.alloc [.i 0,.ns])]) (.seq (.rg [V 4 (.fad 0 (.t 1)),
V 5 (.ld none (.t 4)),
V 6 (.fad 0 (.t 3)),
Vn (.st 1 (.t 6) (.t 5))]) (.seq (.rg [V 7 (.fad 1 (.t 1)),
V 8 (.ld none (.t 7)),
V 9 (.call 116 [(.t 8)]),
V 10 (.fad 1 (.t 3)),
Vn (.st 1 (.t 10) (.t 9))]) (.seq (.rg [V 11 (.ld (some 2) (.t 3)),
Vn (.st 2 (.t 2) (.t 11))]) (.ret)))))

def vf102:VF:=⟨vf102c,vf102v,[(2,(some (some 2)))]⟩

theorem ok102:chkF Try.prog Try.f102 vf102=true:=by kernel_rfl

theorem dr102:drawsB vf102.body=true:=by kernel_rfl

def vf103v:List Nat:=[0,1,2,3]

def vf103c:VC:=.seq (.rg [V 1 (.box (.t 0)),
V 2 (.alloc [.i 0,.i 0,.i 0,.i 0,.i 0])]) (.seq (.rg [V 3 (.alloc [.i 0,.i 0,.i 0,.i 0,.i 0])]) (.seq (.rg [V 4 (.fad 0 (.t 1)),
V 5 (.ld none (.t 4)),
V 6 (.fad 0 (.t 3)),
Vn (.st 1 (.t 6) (.t 5))]) (.seq (.rg [V 7 (.fad 1 (.t 1)),
V 8 (.ld none (.t 7)),
V 9 (.fad 1 (.t 3)),
Vn (.st 1 (.t 9) (.t 8))]) (.seq (.rg [V 10 (.fad 2 (.t 1)),
V 11 (.ld none (.t 10)),
V 12 (.fad 2 (.t 3)),
Vn (.st 1 (.t 12) (.t 11))]) (.seq (.rg [V 13 (.fad 3 (.t 1)),
V 14 (.ld none (.t 13)),
V 15 (.fad 3 (.t 3)),
Vn (.st 1 (.t 15) (.t 14))]) (.seq (.rg [V 16 (.fad 4 (.t 1)),
V 17 (.ld none (.t 16)),
V 18 (.fad 4 (.t 3)),
Vn (.st 1 (.t 18) (.t 17))]) (.seq (.rg [V 19 (.ld (some 5) (.t 3)),
Vn (.st 5 (.t 2) (.t 19))]) (.ret))))))))

def vf103:VF:=⟨vf103c,vf103v,[(2,(some (some 5)))]⟩

theorem ok103:chkF Try.prog Try.f103 vf103=true:=by kernel_rfl

theorem dr103:drawsB vf103.body=true:=by kernel_rfl

def vf104v:List Nat:=[0,1,2,3,4,9,15]

def vf104c:VC:=.seq (.rg [V 2 (.box (.t 0)),
V 3 (.box (.t 1)),
V 4 (.mv (.k (.c (.b false))))]) (.seq (.seq (.rg [V 5 (.fad 0 (.t 2)),
V 6 (.ld none (.t 5)),
V 7 (.fad 0 (.t 3)),
V 8 (.ld none (.t 7)),
V 9 (.bin .ne (.t 6) (.t 8))]) (.cond (.t 9) (.seq (.rg [V 4 (.mv (.k (.c (.b false))))]) (.ret)) (.skip))) (.seq (.seq (.rg [V 10 (.fad 1 (.t 2)),
V 11 (.ld none (.t 10)),
V 12 (.fad 1 (.t 3)),
V 13 (.ld none (.t 12)),
V 14 (.call 117 [(.t 11),(.t 13)]),
V 15 (.not (.t 14))]) (.cond (.t 15) (.seq (.rg [V 4 (.mv (.k (.c (.b false))))]) (.ret)) (.skip))) (.seq (.rg [V 4 (.mv (.k (.c (.b true))))]) (.ret))))

def vf104:VF:=⟨vf104c,vf104v,[(4,none)]⟩

theorem ok104:chkF Try.prog Try.f104 vf104=true:=by kernel_rfl

theorem dr104:drawsB vf104.body=true:=by kernel_rfl

def vf105v:List Nat:=[0,1,2,3,4,9,14,19,24,29]

def vf105c:VC:=.seq (.rg [V 2 (.box (.t 0)),
V 3 (.box (.t 1)),
V 4 (.mv (.k (.c (.b false))))]) (.seq (.seq (.rg [V 5 (.fad 0 (.t 2)),
V 6 (.ld none (.t 5)),
V 7 (.fad 0 (.t 3)),
V 8 (.ld none (.t 7)),
V 9 (.bin .ne (.t 6) (.t 8))]) (.cond (.t 9) (.seq (.rg [V 4 (.mv (.k (.c (.b false))))]) (.ret)) (.skip))) (.seq (.seq (.rg [V 10 (.fad 1 (.t 2)),
V 11 (.ld none (.t 10)),
V 12 (.fad 1 (.t 3)),
V 13 (.ld none (.t 12)),
V 14 (.bin .ne (.t 11) (.t 13))]) (.cond (.t 14) (.seq (.rg [V 4 (.mv (.k (.c (.b false))))]) (.ret)) (.skip))) (.seq (.seq (.rg [V 15 (.fad 2 (.t 2)),
V 16 (.ld none (.t 15)),
V 17 (.fad 2 (.t 3)),
V 18 (.ld none (.t 17)),
V 19 (.bin .ne (.t 16) (.t 18))]) (.cond (.t 19) (.seq (.rg [V 4 (.mv (.k (.c (.b false))))]) (.ret)) (.skip))) (.seq (.seq (.rg [V 20 (.fad 3 (.t 2)),
V 21 (.ld none (.t 20)),
V 22 (.fad 3 (.t 3)),
V 23 (.ld none (.t 22)),
V 24 (.bin .ne (.t 21) (.t 23))]) (.cond (.t 24) (.seq (.rg [V 4 (.mv (.k (.c (.b false))))]) (.ret)) (.skip))) (.seq (.seq (.rg [V 25 (.fad 4 (.t 2)),
V 26 (.ld none (.t 25)),
V 27 (.fad 4 (.t 3)),
V 28 (.ld none (.t 27)),
V 29 (.bin .ne (.t 26) (.t 28))]) (.cond (.t 29) (.seq (.rg [V 4 (.mv (.k (.c (.b false))))]) (.ret)) (.skip))) (.seq (.rg [V 4 (.mv (.k (.c (.b true))))]) (.ret)))))))

def vf105:VF:=⟨vf105c,vf105v,[(4,none)]⟩

theorem ok105:chkF Try.prog Try.f105 vf105=true:=by kernel_rfl

theorem dr105:drawsB vf105.body=true:=by kernel_rfl

def vf106v:List Nat:=[0,1,4,5,7,8,9,16]

def vf106b0:VC:=.seq (.rg [V 9 (.bin .lt (.t 8) (.t 7))]) (.seq (.cond (.t 9) (.skip) (.exit 0)) (.seq (.block 1 (.seq (.rg [V 10 (.mv (.t 8)),
V 5 (.mv (.t 10))]) (.seq (.rg [V 11 (.mv (.t 1)),
V 12 (.mv (.t 0)),
V 13 (.mv (.t 5)),
V 14 (.idx 2 (.t 12) (.t 13)),
V 15 (.ld (some 2) (.t 14)),
V 16 (.clv (.t 11) [(.t 15)])]) (.cond (.t 16) (.seq (.rg [V 17 (.mv (.t 5)),
V 4 (.mv (.t 17))]) (.ret)) (.skip))))) (.rg [V 18 (.bin .add (.t 8) (.k (.c (.i 1)))),
V 8 (.mv (.t 18))])))

def vf106c:VC:=.seq (.rg [V 4 (.mv (.k (.c (.i 0))))]) (.seq (.seq (.rg [V 6 (.mv (.t 0)),
V 7 (.len (.t 6)),
V 8 (.mv (.k (.c (.i 0))))]) (.block 0 (.loop vf106b0))) (.seq (.rg [V 4 (.mv (.k (.c (.i (-1)))))]) (.ret)))

def vf106:VF:=⟨vf106c,vf106v,[(4,none)]⟩

theorem ok106:chkF Try.prog Try.f106 vf106=true:=by kernel_rfl

theorem dr106:drawsB vf106.body=true:=by kernel_rfl

def vf107v:List Nat:=[0,2]

def vf107c:VC:=.seq (.rg [V 2 (.mv (.k (.c (.b false))))]) (.seq (.rg [V 3 (.mv (.t 0)),
V 4 (.call 50 [(.t 3),(.k (.c (.i 1))),(.k (.c (.i 10)))]),
V 2 (.mv (.t 4))]) (.ret))

def vf107:VF:=⟨vf107c,vf107v,[(2,none)]⟩

theorem ok107:chkF Try.prog Try.f107 vf107=true:=by kernel_rfl

theorem dr107:drawsB vf107.body=true:=by kernel_rfl

def vf108v:List Nat:=[0,1,4]

def vf108c:VC:=.seq (.rg [V 4 (.mv (.k (.c (.b false))))]) (.seq (.rg [V 5 (.mv (.t 0)),
V 6 (.mv (.t 1)),
V 7 (.call 118 [(.t 5),(.t 6)]),
V 8 (.bin .ge (.t 7) (.k (.c (.i 0)))),
V 4 (.mv (.t 8))]) (.ret))

def vf108:VF:=⟨vf108c,vf108v,[(4,none)]⟩

theorem ok108:chkF Try.prog Try.f108 vf108=true:=by kernel_rfl

theorem dr108:drawsB vf108.body=true:=by kernel_rfl

def vf115v:List Nat:=[0,1,4,10]

def vf115c:VC:=.seq (.rg [V 4 (.mv (.k (.c (.i 0))))]) (.seq (.rg [V 5 (.mv (.t 1)),
V 6 (.mv (.t 0)),
V 7 (.len (.t 6)),
V 8 (.bin .sub (.t 5) (.t 7)),
V 1 (.mv (.t 8))]) (.seq (.seq (.rg [V 9 (.mv (.t 1)),
V 10 (.bin .lt (.t 9) (.k (.c (.i 0))))]) (.cond (.t 10) (.seq (.rg [V 4 (.mv (.k (.c (.i (-1)))))]) (.ret)) (.skip))) (.seq (.rg [V 11 (.mv (.t 1)),
V 4 (.mv (.t 11))]) (.ret))))

def vf115:VF:=⟨vf115c,vf115v,[(4,none)]⟩

theorem ok115:chkF Try.prog Try.f115 vf115=true:=by kernel_rfl

theorem dr115:drawsB vf115.body=true:=by kernel_rfl

def vf116v:List Nat:=[0,2,3,4,11]

def vf116b0:VC:=.seq (.seq (.rg [V 8 (.mv (.t 4)),
V 9 (.mv (.t 0)),
V 10 (.len (.t 9)),
V 11 (.bin .lt (.t 8) (.t 10))]) (.cond (.t 11) (.skip) (.exit 0))) (.seq (.block 1 (.rg [V 14 (.mv (.t 3)),
V 15 (.mv (.t 4)),
V 16 (.mv (.t 0)),
V 17 (.mv (.t 4)),
V 18 (.idx 2 (.t 16) (.t 17)),
V 19 (.ld (some 2) (.t 18)),
V 20 (.call 120 [(.t 19)]),
V 21 (.idx 2 (.t 14) (.t 15)),
Vn (.st 2 (.t 21) (.t 20))])) (.rg [V 12 (.mv (.t 4)),
V 13 (.bin .add (.t 12) (.k (.c (.i 1)))),
V 4 (.mv (.t 13))]))

def vf116c:VC:=.seq (.rg [V 2 (.mv (.k (.c .ns)))]) (.seq (.rg [V 5 (.mv (.t 0)),
V 6 (.len (.t 5)),
V 7 (.mks 2 [.i 0,.i 0] (.t 6)),
V 3 (.mv (.t 7))]) (.seq (.seq (.rg [V 4 (.mv (.k (.c (.i 0))))]) (.block 0 (.loop vf116b0))) (.seq (.rg [V 22 (.mv (.t 3)),
V 2 (.mv (.t 22))]) (.ret))))

def vf116:VF:=⟨vf116c,vf116v,[(2,none)]⟩

theorem ok116:chkF Try.prog Try.f116 vf116=true:=by kernel_rfl

theorem dr116:drawsB vf116.body=true:=by kernel_rfl

def vf117v:List Nat:=[0,1,4,5,10,14,26]

def vf117b0:VC:=.seq (.seq (.rg [V 11 (.mv (.t 5)),
V 12 (.mv (.t 0)),
V 13 (.len (.t 12)),
V 14 (.bin .lt (.t 11) (.t 13))]) (.cond (.t 14) (.skip) (.exit 0))) (.seq (.block 1 (.seq (.rd [V 17 (.mv (.t 0)),
V 18 (.mv (.t 5)),
Vd [0,1] (V 19 (.idx 2 (.t 17) (.t 18))),
Vd [2] (V 20 (.ld (some 2) (.t 19))),
V 21 (.mv (.t 1)),
V 22 (.mv (.t 5)),
Vd [4,5] (V 23 (.idx 2 (.t 21) (.t 22))),
Vd [6] (V 24 (.ld (some 2) (.t 23))),
Vd [3,7] (V 25 (.call 121 [(.t 20),(.t 24)])),
Vd [8] (V 26 (.not (.t 25)))]) (.cond (.t 26) (.seq (.rg [V 4 (.mv (.k (.c (.b false))))]) (.ret)) (.skip)))) (.rg [V 15 (.mv (.t 5)),
V 16 (.bin .add (.t 15) (.k (.c (.i 1)))),
V 5 (.mv (.t 16))]))

def vf117c:VC:=.seq (.rg [V 4 (.mv (.k (.c (.b false))))]) (.seq (.seq (.rg [V 6 (.mv (.t 0)),
V 7 (.len (.t 6)),
V 8 (.mv (.t 1)),
V 9 (.len (.t 8)),
V 10 (.bin .ne (.t 7) (.t 9))]) (.cond (.t 10) (.seq (.rg [V 4 (.mv (.k (.c (.b false))))]) (.ret)) (.skip))) (.seq (.seq (.rg [V 5 (.mv (.k (.c (.i 0))))]) (.block 0 (.loop vf117b0))) (.seq (.rg [V 4 (.mv (.k (.c (.b true))))]) (.ret))))

def vf117:VF:=⟨vf117c,vf117v,[(4,none)]⟩

theorem ok117:chkF Try.prog Try.f117 vf117=true:=by kernel_rfl

theorem dr117:drawsB vf117.body=true:=by kernel_rfl

def vf118v:List Nat:=[0,1,4,5,7,8,9,16]

def vf118b0:VC:=.seq (.rg [V 9 (.bin .lt (.t 8) (.t 7))]) (.seq (.cond (.t 9) (.skip) (.exit 0)) (.seq (.block 1 (.seq (.rg [V 10 (.mv (.t 8)),
V 5 (.mv (.t 10))]) (.seq (.rg [V 11 (.mv (.t 1)),
V 12 (.mv (.t 0)),
V 13 (.mv (.t 5)),
V 14 (.idx 1 (.t 12) (.t 13)),
V 15 (.ld none (.t 14)),
V 16 (.bin .eq (.t 11) (.t 15))]) (.cond (.t 16) (.seq (.rg [V 17 (.mv (.t 5)),
V 4 (.mv (.t 17))]) (.ret)) (.skip))))) (.rg [V 18 (.bin .add (.t 8) (.k (.c (.i 1)))),
V 8 (.mv (.t 18))])))

def vf118c:VC:=.seq (.rg [V 4 (.mv (.k (.c (.i 0))))]) (.seq (.seq (.rg [V 6 (.mv (.t 0)),
V 7 (.len (.t 6)),
V 8 (.mv (.k (.c (.i 0))))]) (.block 0 (.loop vf118b0))) (.seq (.rg [V 4 (.mv (.k (.c (.i (-1)))))]) (.ret)))

def vf118:VF:=⟨vf118c,vf118v,[(4,none)]⟩

theorem ok118:chkF Try.prog Try.f118 vf118=true:=by kernel_rfl

theorem dr118:drawsB vf118.body=true:=by kernel_rfl

def vf120v:List Nat:=[0,1,2,3]

def vf120c:VC:=.seq (.rg [V 1 (.box (.t 0)),
V 2 (.alloc [.i 0,.i 0])]) (.seq (.rg [V 3 (.alloc [.i 0,.i 0])]) (.seq (.rg [V 4 (.fad 0 (.t 1)),
V 5 (.ld none (.t 4)),
V 6 (.fad 0 (.t 3)),
Vn (.st 1 (.t 6) (.t 5))]) (.seq (.rg [V 7 (.fad 1 (.t 1)),
V 8 (.ld none (.t 7)),
V 9 (.fad 1 (.t 3)),
Vn (.st 1 (.t 9) (.t 8))]) (.seq (.rg [V 10 (.ld (some 2) (.t 3)),
Vn (.st 2 (.t 2) (.t 10))]) (.ret)))))

def vf120:VF:=⟨vf120c,vf120v,[(2,(some (some 2)))]⟩

theorem ok120:chkF Try.prog Try.f120 vf120=true:=by kernel_rfl

theorem dr120:drawsB vf120.body=true:=by kernel_rfl

def vf121v:List Nat:=[0,1,2,3,4,9,14]

def vf121c:VC:=.seq (.rg [V 2 (.box (.t 0)),
V 3 (.box (.t 1)),
V 4 (.mv (.k (.c (.b false))))]) (.seq (.seq (.rg [V 5 (.fad 0 (.t 2)),
V 6 (.ld none (.t 5)),
V 7 (.fad 0 (.t 3)),
V 8 (.ld none (.t 7)),
V 9 (.bin .ne (.t 6) (.t 8))]) (.cond (.t 9) (.seq (.rg [V 4 (.mv (.k (.c (.b false))))]) (.ret)) (.skip))) (.seq (.seq (.rg [V 10 (.fad 1 (.t 2)),
V 11 (.ld none (.t 10)),
V 12 (.fad 1 (.t 3)),
V 13 (.ld none (.t 12)),
V 14 (.bin .ne (.t 11) (.t 13))]) (.cond (.t 14) (.seq (.rg [V 4 (.mv (.k (.c (.b false))))]) (.ret)) (.skip))) (.seq (.rg [V 4 (.mv (.k (.c (.b true))))]) (.ret))))

def vf121:VF:=⟨vf121c,vf121v,[(4,none)]⟩

theorem ok121:chkF Try.prog Try.f121 vf121=true:=by kernel_rfl

theorem dr121:drawsB vf121.body=true:=by kernel_rfl
def tab:List (Nat×VF):=[(4,vf4),(5,vf5),(7,vf7),(9,vf9),(10,vf10),(11,vf11),(12,vf12),(13,vf13),(14,vf14),(15,vf15),(16,vf16),(22,vf22),(28,vf28),(29,vf29),(30,vf30),(32,vf32),(33,vf33),(34,vf34),(37,vf37),(38,vf38),(45,vf45),(46,vf46),(47,vf47),(48,vf48),(49,vf49),(50,vf50),(51,vf51),(52,vf52),(53,vf53),(54,vf54),(55,vf55),(56,vf56),(57,vf57),(58,vf58),(61,vf61),(62,vf62),(63,vf63),(64,vf64),(69,vf69),(70,vf70),(71,vf71),(72,vf72),(75,vf75),(76,vf76),(77,vf77),(78,vf78),(79,vf79),(80,vf80),(81,vf81),(82,vf82),(83,vf83),(84,vf84),(85,vf85),(86,vf86),(98,vf98),(99,vf99),(102,vf102),(103,vf103),(104,vf104),(105,vf105),(106,vf106),(107,vf107),(108,vf108),(115,vf115),(116,vf116),(117,vf117),(118,vf118),(120,vf120),(121,vf121)]

abbrev M:Code:=fun n=>tab.lookup n

theorem okM:OkCode Try.prog M:=okCode_of (tab:=tab) ⟨ ⟨_,Try.func4,ok4⟩,
 ⟨_,Try.func5,ok5⟩,
 ⟨_,Try.func7,ok7⟩,
 ⟨_,Try.func9,ok9⟩,
 ⟨_,Try.func10,ok10⟩,
 ⟨_,Try.func11,ok11⟩,
 ⟨_,Try.func12,ok12⟩,
 ⟨_,Try.func13,ok13⟩,
 ⟨_,Try.func14,ok14⟩,
 ⟨_,Try.func15,ok15⟩,
 ⟨_,Try.func16,ok16⟩,
 ⟨_,Try.func22,ok22⟩,
 ⟨_,Try.func28,ok28⟩,
 ⟨_,Try.func29,ok29⟩,
 ⟨_,Try.func30,ok30⟩,
 ⟨_,Try.func32,ok32⟩,
 ⟨_,Try.func33,ok33⟩,
 ⟨_,Try.func34,ok34⟩,
 ⟨_,Try.func37,ok37⟩,
 ⟨_,Try.func38,ok38⟩,
 ⟨_,Try.func45,ok45⟩,
 ⟨_,Try.func46,ok46⟩,
 ⟨_,Try.func47,ok47⟩,
 ⟨_,Try.func48,ok48⟩,
 ⟨_,Try.func49,ok49⟩,
 ⟨_,Try.func50,ok50⟩,
 ⟨_,Try.func51,ok51⟩,
 ⟨_,Try.func52,ok52⟩,
 ⟨_,Try.func53,ok53⟩,
 ⟨_,Try.func54,ok54⟩,
 ⟨_,Try.func55,ok55⟩,
 ⟨_,Try.func56,ok56⟩,
 ⟨_,Try.func57,ok57⟩,
 ⟨_,Try.func58,ok58⟩,
 ⟨_,Try.func61,ok61⟩,
 ⟨_,Try.func62,ok62⟩,
 ⟨_,Try.func63,ok63⟩,
 ⟨_,Try.func64,ok64⟩,
 ⟨_,Try.func69,ok69⟩,
 ⟨_,Try.func70,ok70⟩,
 ⟨_,Try.func71,ok71⟩,
 ⟨_,Try.func72,ok72⟩,
 ⟨_,Try.func75,ok75⟩,
 ⟨_,Try.func76,ok76⟩,
 ⟨_,Try.func77,ok77⟩,
 ⟨_,Try.func78,ok78⟩,
 ⟨_,Try.func79,ok79⟩,
 ⟨_,Try.func80,ok80⟩,
 ⟨_,Try.func81,ok81⟩,
 ⟨_,Try.func82,ok82⟩,
 ⟨_,Try.func83,ok83⟩,
 ⟨_,Try.func84,ok84⟩,
 ⟨_,Try.func85,ok85⟩,
 ⟨_,Try.func86,ok86⟩,
 ⟨_,Try.func98,ok98⟩,
 ⟨_,Try.func99,ok99⟩,
 ⟨_,Try.func102,ok102⟩,
 ⟨_,Try.func103,ok103⟩,
 ⟨_,Try.func104,ok104⟩,
 ⟨_,Try.func105,ok105⟩,
 ⟨_,Try.func106,ok106⟩,
 ⟨_,Try.func107,ok107⟩,
 ⟨_,Try.func108,ok108⟩,
 ⟨_,Try.func115,ok115⟩,
 ⟨_,Try.func116,ok116⟩,
 ⟨_,Try.func117,ok117⟩,
 ⟨_,Try.func118,ok118⟩,
 ⟨_,Try.func120,ok120⟩,
 ⟨_,Try.func121,ok121⟩,trivial⟩
@[congr] theorem WP.cong {α:Type} {o o':Option α} {Q:α→Prop} (h:o=o'):WP o Q=WP o' Q:=by rw[h]

@[congr] theorem bind_one {α β:Type} {o o':Option α} {f:α→Option β} (h:o=o'):o.bind f=o'.bind f:=by rw[h]

@[simp] theorem WP_some {α:Type} (r:α) (Q:α→Prop):WP (some r) Q=Q r:=by
 simp only[WP,Option.some.injEq,eq_iff_iff]
 exact⟨fun ⟨_,h,q⟩=>h▸q,fun q=>⟨_,rfl,q⟩⟩

@[simp] theorem WP_none {α:Type} (Q:α→Prop):WP none Q=False:=by
 simp[WP]

@[congr] theorem runOpsD_one {K:OrD} {ops:List VO} {st st':St} {k:St→Prop} (h:st=st'):runOpsD K ops st k=runOpsD K ops st' k:=by rw[h]

@[congr] theorem runOpD_one {K:OrD} {o:VO} {st st':St} {k:St→Prop} (h:st=st'):runOpD K o st k=runOpD K o st' k:=by rw[h]

@[congr] theorem stepD_one {K:OrD} {e e':Env} {H H':Hp} {o:VOp} {k:IV×Hp→Prop} (h:e=e') (h2:H=H'):stepD K e H o k=stepD K e' H' o k:=by rw[h,h2]

@[congr] theorem runC_one {K:OrD} {L:List (Nat×VO)} {rs:List (Nat×CV)} {es:List (Nat×Hp)} {st st':St} {k:St→Prop} (h:st=st'):runC K L rs es st k=runC K L rs es st' k:=by rw[h]

@[congr] theorem treeW_one {K:OrD} {t:VT} {st st':St} {k:St→Prop} (h:st=st'):treeW K t st k=treeW K t st' k:=by rw[h]

@[congr] theorem exW_one {K:OrD} {vars:List Nat} {c:VC} {st st':St} {Q:X×St→Prop} (h:st=st'):exW K vars c st Q=exW K vars c st' Q:=by rw[h]

@[congr] theorem loopD_one {f:St→(X×St→Prop)→Prop} {st st':St} {Q:X×St→Prop} (h:st=st'):loopD f st Q=loopD f st' Q:=by rw[h]

@[congr] theorem thenD_one {f:St→Prop} {Q:X×St→Prop} {r r':X×St} (h:r=r'):thenD f Q r=thenD f Q r':=by rw[h]

@[congr] theorem blockD_one {k:Nat} {Q:X×St→Prop} {r r':X×St} (h:r=r'):blockD k Q r=blockD k Q r':=by rw[h]

@[congr] theorem finD_one {H:Hp} {res:List (Nat×Option (Option Nat))} {Q:IV×Hp→Prop} {r r':X×St} (h:r=r'):finD H res Q r=finD H res Q r':=by rw[h]

@[congr] theorem cndP_one {v v':IV} {A B:Prop} (h:v=v'):cndP v A B=cndP v' A B:=by rw[h]

@[congr] theorem callD_one {M:Code} {X0:OrD} {f:Nat} {az az':List IV} {H H':Hp} {Q:IV×Hp→Prop} (h:az=az') (h2:H=H'):callD M X0 f az H Q=callD M X0 f az' H' Q:=by rw[h,h2]


def runK (K:OrD) (r:List VO) (k:St→Prop):St→Prop:=fun s=>runOpsD K r s k

@[simp] theorem runK_at (K:OrD) (r:List VO) (k:St→Prop) (s:St):runK K r k s=runOpsD K r s k:=Eq.trans rfl rfl

def putK (k:St→Prop) (e:Env) (d:Option Nat):IV×Hp→Prop:=fun r=>k ⟨setD e d r.1,r.2⟩

@[simp] theorem putK_at (k:St→Prop) (e:Env) (d:Option Nat) (v:IV) (H:Hp):putK k e d (v,H)=k ⟨setD e d v,H⟩:=Eq.trans rfl rfl

def bindK {α β:Type} (f:α→Option β) (Q:β→Prop):α→Prop:=fun r=>WP (f r) Q

@[simp] theorem bindK_at {α β:Type} (f:α→Option β) (Q:β→Prop) (r:α):bindK f Q r=WP (f r) Q:=Eq.trans rfl rfl

@[simp] theorem WP_bind {α β:Type} (o:Option α) (f:α→Option β) (Q:β→Prop):WP (o.bind f) Q=WP o (bindK f Q):=by
 cases o with
 | none=>simp[WP]
 | some x=>simp[WP_some]

def seqK (K:OrD) (vars:List Nat) (b:VC) (Q:X×St→Prop):St→Prop:=fun s=>exW K vars b s Q

@[simp] theorem seqK_at (K:OrD) (vars:List Nat) (b:VC) (Q:X×St→Prop) (s:St):seqK K vars b Q s=exW K vars b s Q:=Eq.trans rfl rfl

def normK (vars:List Nat) (Q:X×St→Prop):St→Prop:=fun s=>Q (.norm,prune vars s)

@[simp] theorem normK_at (vars:List Nat) (Q:X×St→Prop) (s:St):normK vars Q s=Q (.norm,prune vars s):=Eq.trans rfl rfl

def exU (K:OrD) (vars:List Nat) (b:VC) (s:St) (Q:X×St→Prop):Unit→Prop:=fun _=>exW K vars b s Q

@[simp] theorem exU_at (K:OrD) (vars:List Nat) (b:VC) (s:St) (Q:X×St→Prop) (u:Unit):exU K vars b s Q u=exW K vars b s Q:=Eq.trans rfl rfl

def stU (K:OrD) (e:Env) (H:Hp) (o:VOp) (Q:IV×Hp→Prop):Unit→Prop:=fun _=>stepD K e H o Q

@[simp] theorem stU_at (K:OrD) (e:Env) (H:Hp) (o:VOp) (Q:IV×Hp→Prop) (u:Unit):stU K e H o Q u=stepD K e H o Q:=Eq.trans rfl rfl

def kU (k:St→Prop) (s:St):Unit→Prop:=fun _=>k s

@[simp] theorem kU_at (k:St→Prop) (s:St) (u:Unit):kU k s u=k s:=Eq.trans rfl rfl

def cnd (v:IV) (A B:Unit→Prop):Prop:=cndP v (A ()) (B ())

@[congr] theorem cnd_one {v v':IV} {A B:Unit→Prop} (h:v=v'):cnd v A B=cnd v' A B:=by rw[h]

@[simp] theorem cnd_true (A B:Unit→Prop):cnd (.c (.b true)) A B=A ():=Eq.trans rfl rfl

@[simp] theorem cnd_false (A B:Unit→Prop):cnd (.c (.b false)) A B=B ():=Eq.trans rfl rfl

theorem cnd_of {b:Bool} {A B:Unit→Prop} (h1:b=true→A ()) (h2:b=false→B ()):cnd (.c (.b b)) A B:=by
 cases b with
 | true=>exact h1 rfl
 | false=>exact h2 rfl

def chkK (ck:List Nat) (H:Hp) (rs:List (Nat×CV)) (k:St→Prop):St→Prop:=fun s=>chkE ck H s.h rs∧k s

@[simp] theorem chkK_at (ck:List Nat) (H:Hp) (rs:List (Nat×CV)) (k:St→Prop) (s:St):chkK ck H rs k s=(chkE ck H s.h rs∧k s):=Eq.trans rfl rfl

def chkP (p:Prop) (k:St→Prop):St→Prop:=fun s=>p∧k s

@[simp] theorem chkP_at (p:Prop) (k:St→Prop) (s:St):chkP p k s=(p∧k s):=Eq.trans rfl rfl

def ordK (K:OrD) (i:Nat) (r:List VO) (rs:List (Nat×CV)) (es:List (Nat×Hp)) (k:St→Prop):St→Prop:=fun s=>runC K (enumF i r) rs es s k

@[simp] theorem ordK_at (K:OrD) (i:Nat) (r:List VO) (rs:List (Nat×CV)) (es:List (Nat×Hp)) (k:St→Prop) (s:St):ordK K i r rs es k s=runC K (enumF i r) rs es s k:=Eq.trans rfl rfl

def ordL (K:OrD) (r:List (Nat×VO)) (rs:List (Nat×CV)) (es:List (Nat×Hp)) (k:St→Prop):St→Prop:=fun s=>runC K r rs es s k

@[simp] theorem ordL_at (K:OrD) (r:List (Nat×VO)) (rs:List (Nat×CV)) (es:List (Nat×Hp)) (k:St→Prop) (s:St):ordL K r rs es k s=runC K r rs es s k:=Eq.trans rfl rfl

def iff2 {α:Type} (b:Bool) (x y:α):α:=if b=true then x else y

@[simp] theorem iff2_t {α:Type} (x y:α):iff2 true x y=x:=Eq.trans rfl rfl

@[simp] theorem iff2_f {α:Type} (x y:α):iff2 false x y=y:=Eq.trans rfl rfl

@[simp] theorem cndP_true (A B:Prop):cndP (.c (.b true)) A B=A:=Eq.trans rfl rfl

@[simp] theorem cndP_false (A B:Prop):cndP (.c (.b false)) A B=B:=Eq.trans rfl rfl

def grd (v:IV) (w:Bool) (A B:Unit→Prop):Prop:=
 match v with
 | .c (.b x)=>if x=w then A () else B ()
 | .c .und=>B ()
 | _=>False

@[simp] theorem grd_und (w:Bool) (A B:Unit→Prop):grd (.c .und) w A B=B ():=Eq.trans rfl rfl

@[congr] theorem grd_one {v v':IV} {w:Bool} {A B:Unit→Prop} (h:v=v'):grd v w A B=grd v' w A B:=by rw[h]

@[simp] theorem grd_tt (A B:Unit→Prop):grd (.c (.b true)) true A B=A ():=by simp[grd]

@[simp] theorem grd_tf (A B:Unit→Prop):grd (.c (.b true)) false A B=B ():=by simp[grd]

@[simp] theorem grd_ft (A B:Unit→Prop):grd (.c (.b false)) true A B=B ():=by simp[grd]

@[simp] theorem grd_ff (A B:Unit→Prop):grd (.c (.b false)) false A B=A ():=by simp[grd]

theorem grd_t {b:Bool} {A B:Unit→Prop} (h1:b=true→A ()) (h2:b=false→B ()):grd (.c (.b b)) true A B:=by
 cases b with
 | true=>simpa using h1 rfl
 | false=>simpa using h2 rfl

theorem grd_f {b:Bool} {A B:Unit→Prop} (h1:b=false→A ()) (h2:b=true→B ()):grd (.c (.b b)) false A B:=by
 cases b with
 | true=>simpa using h2 rfl
 | false=>simpa using h1 rfl

def rdC (H:Hp) (id g off:Nat):Option CV:=(rdOb H id g).bind fun o=>o.cells[off]?

def rdN (H:Hp) (id g off n:Nat):Option (List CV):=(rdOb H id g).bind fun o=>if off+n≤o.cells.length then some ((o.cells.drop off).take n) else none

section

variable {K:OrD} {vars:List Nat} {e:Env} {H:Hp} {st:St} {Q:X×St→Prop}

@[simp ↓] theorem exW_skip:exW K vars .skip st Q=Q (.norm,st):=Eq.trans rfl rfl

@[simp ↓] theorem exW_rg (ops:List VO):exW K vars (.rg ops) st Q=runOpsD K ops st (normK vars Q):=Eq.trans rfl rfl

@[simp ↓] theorem exW_rd (ops:List VO):exW K vars (.rd ops) st Q=runC K (enumF 0 ops) [] [] st (normK vars Q):=Eq.trans rfl rfl

@[simp ↓] theorem exW_rx (ops:List VO) (t:VT):exW K vars (.rx ops t) st Q=treeW K t st (normK vars Q):=Eq.trans rfl rfl

@[simp ↓] theorem exW_seq (a b:VC):exW K vars (.seq a b) st Q=exW K vars a st (thenD (seqK K vars b Q) Q):=Eq.trans rfl rfl

@[simp ↓] theorem exW_cond (x:Od) (a b:VC):exW K vars (.cond x a b) st Q=cnd (x.get st.e) (exU K vars a st Q) (exU K vars b st Q):=Eq.trans rfl rfl

@[simp ↓] theorem exW_block (k:Nat) (c:VC):exW K vars (.block k c) st Q=exW K vars c st (blockD k Q):=Eq.trans rfl rfl

@[simp ↓] theorem exW_loop (c:VC):exW K vars (.loop c) st Q=loopD (exW K vars c) st Q:=Eq.trans rfl rfl

@[simp ↓] theorem exW_exit (k:Nat):exW K vars (.exit k) st Q=Q (.exit k,st):=Eq.trans rfl rfl

@[simp ↓] theorem exW_ret:exW K vars .ret st Q=Q (.ret,st):=Eq.trans rfl rfl

@[simp] theorem thenD_norm (f:St→Prop) (s:St):thenD f Q (.norm,s)=f s:=Eq.trans rfl rfl

@[simp] theorem thenD_exit (f:St→Prop) (n:Nat) (s:St):thenD f Q (.exit n,s)=Q (.exit n,s):=Eq.trans rfl rfl

@[simp] theorem thenD_ret (f:St→Prop) (s:St):thenD f Q (.ret,s)=Q (.ret,s):=Eq.trans rfl rfl

@[simp] theorem blockD_norm (k:Nat) (s:St):blockD k Q (.norm,s)=Q (.norm,s):=Eq.trans rfl rfl

@[simp] theorem blockD_exit (k n:Nat) (s:St):blockD k Q (.exit n,s)=if n=k then Q (.norm,s) else Q (.exit n,s):=Eq.trans rfl rfl

@[simp] theorem blockD_ret (k:Nat) (s:St):blockD k Q (.ret,s)=Q (.ret,s):=Eq.trans rfl rfl

variable {k:St→Prop}

@[simp ↓] theorem runOpsD_nil:runOpsD K [] st k=k st:=Eq.trans rfl rfl

@[simp ↓] theorem runOpsD_cons (o:VO) (r:List VO):runOpsD K (o :: r) st k=runOpD K o st (runK K r k):=Eq.trans rfl rfl

@[simp ↓] theorem treeW_leaf (l:List (Nat×VO)):treeW K (.leaf l) st k=runC K l [] [] st k:=Eq.trans rfl rfl

@[simp ↓] theorem treeW_split (a b:Nat) (x y:VT):treeW K (.split a b x y) st k=(treeW K x st k∧treeW K y st k):=Eq.trans rfl rfl

@[simp ↓] theorem treeW_all (os:List VO):treeW K (.all os) st k=RunAllD K os k os.length (List.replicate os.length false) st:=Eq.trans rfl rfl

@[simp ↓] theorem runC_nil (rs:List (Nat×CV)) (es:List (Nat×Hp)):runC K [] rs es st k=k st:=Eq.trans rfl rfl

@[simp ↓] theorem runC_enil (i:Nat) (rs:List (Nat×CV)) (es:List (Nat×Hp)):runC K (enumF i []) rs es st k=k st:=Eq.trans rfl rfl

@[simp ↓] theorem runC_E (i:Nat) (o:VO) (r:List VO) (rs:List (Nat×CV)) (es:List (Nat×Hp)):runC K (enumF i (o :: r)) rs es st k=iff2 (isE o.o)
  (runOpD K o st (chkK o.ck st.h rs (ordK K (i+1) r rs (iff2 o.rc ((i,st.h) :: es) es) k)))
  (runOpD K o st (chkP (chkR o.ck (rdv st.e o.o) st.h es) (ordK K (i+1) r (iff2 o.rc ((i,rdv st.e o.o) :: rs) rs) es k))):=Eq.trans rfl rfl

@[simp ↓] theorem runC_L1 (i:Nat) (o:VO) (r:List (Nat×VO)) (rs:List (Nat×CV)) (es:List (Nat×Hp)):runC K ((i,o) :: r) rs es st k=iff2 (isE o.o)
  (runOpD K o st (chkK o.ck st.h rs (ordL K r rs (iff2 o.rc ((i,st.h) :: es) es) k)))
  (runOpD K o st (chkP (chkR o.ck (rdv st.e o.o) st.h es) (ordL K r (iff2 o.rc ((i,rdv st.e o.o) :: rs) rs) es k))):=Eq.trans rfl rfl

@[congr] theorem iff2_one {α:Type} {b b':Bool} {x y:α} (h:b=b'):iff2 b x y=iff2 b' x y:=by rw[h]

@[simp ↓] theorem runOpD_Vd (dp:List Nat) (x:VO):runOpD K (Vd dp x) st k=runOpD K x st k:=Eq.trans rfl rfl

@[simp ↓] theorem runOpD_Vc (dp ck:List Nat) (rc:Bool) (x:VO):runOpD K (Vc dp ck rc x) st k=runOpD K x st k:=Eq.trans rfl rfl

@[simp] theorem runOpD_none (d:Option Nat) (o:VOp) (dp ck:List Nat) (rc:Bool):runOpD K ⟨d,o,none,dp,ck,rc⟩ st k=stepD K st.e st.h o (putK k st.e d):=Eq.trans rfl rfl

@[simp] theorem runOpD_some (d:Option Nat) (o:VOp) (s:Nat) (want:Bool) (dp ck:List Nat) (rc:Bool):runOpD K ⟨d,o,some (s,want),dp,ck,rc⟩ st k=grd (Env.get st.e s) want
  (stU K st.e st.h o (putK k st.e d)) (kU k ⟨setD st.e d (.c .und),st.h⟩):=by
 simp only[runOpD,grd]
 generalize Env.get st.e s=u
 cases u with
 | c v=>cases v<;>rfl
 | _=>rfl

@[simp] theorem chkE_nil (ck:List Nat) (H H':Hp):chkE ck H H' []=True:=Eq.trans rfl rfl

@[simp] theorem chkE_cons (ck:List Nat) (H H':Hp) (q:Nat×CV) (r:List (Nat×CV)):chkE ck H H' (q :: r)=((q.1∈ck→sameAt q.2 H H')∧chkE ck H H' r):=Eq.trans rfl rfl

theorem chkE_all (H H':Hp):∀ r,chkE [] H H' r
 | []=>trivial
 | q :: r=>⟨fun h=>by simp at h,chkE_all H H' r⟩

@[simp] theorem chkE_ck (H H':Hp) (r:List (Nat×CV)):chkE [] H H' r=True:=eq_true (chkE_all H H' r)

@[simp] theorem chkR_nil (ck:List Nat) (v:CV) (H':Hp):chkR ck v H' []=True:=Eq.trans rfl rfl

@[simp] theorem chkR_cons (ck:List Nat) (v:CV) (H':Hp) (q:Nat×Hp) (r:List (Nat×Hp)):chkR ck v H' (q :: r)=((q.1∈ck→sameAt v q.2 H')∧chkR ck v H' r):=Eq.trans rfl rfl

theorem chkR_all (v:CV) (H':Hp):∀ r,chkR [] v H' r
 | []=>trivial
 | q :: r=>⟨fun h=>by simp at h,chkR_all v H' r⟩

@[simp] theorem chkR_ck (v:CV) (H':Hp) (r:List (Nat×Hp)):chkR [] v H' r=True:=eq_true (chkR_all v H' r)

@[simp] theorem sameAt_p (id g off:Nat) (H H':Hp):sameAt (.p id g off) H H'=(rdOb H' id g=rdOb H id g):=Eq.trans rfl rfl

@[simp] theorem sameAt_sl (id g off n:Nat) (H H':Hp):sameAt (.sl id g off n) H H'=(rdOb H' id g=rdOb H id g):=Eq.trans rfl rfl

@[simp] theorem sameAt_non (H H':Hp):sameAt .non H H'=True:=Eq.trans rfl rfl

@[simp] theorem sameAt_und (H H':Hp):sameAt .und H H'=True:=Eq.trans rfl rfl

@[simp] theorem sameAt_self (v:CV) (H:Hp):sameAt v H H=True:=by cases v<;>simp[sameAt]

@[simp] theorem sameAt_ns (H H':Hp):sameAt .ns H H'=True:=Eq.trans rfl rfl

@[simp] theorem rv_ld (n:Option Nat) (a:Od):rdv e (.ld n a)=match a.get e with | .c v=>v | _=>.non:=Eq.trans rfl rfl

@[simp] theorem rv_slc (sz:Nat) (x:Od) (lo hi:Option Od):rdv e (.slc sz x lo hi)=match x.get e with | .c v=>v | _=>.non:=Eq.trans rfl rfl

end

section

variable {K:OrD} {e:Env} {H:Hp} {Q:IV×Hp→Prop}

@[simp] theorem sd_mv (x:Od):stepD K e H (.mv x) Q=WP (stepV noK e H (.mv x)) Q:=Eq.trans rfl rfl

@[simp] theorem sd_pick (a b c:Od):stepD K e H (.pick a b c) Q=WP (stepV noK e H (.pick a b c)) Q:=Eq.trans rfl rfl

@[simp] theorem sd_alloc (zs:List CV):stepD K e H (.alloc zs) Q=WP (stepV noK e H (.alloc zs)) Q:=Eq.trans rfl rfl

@[simp] theorem sd_box (x:Od):stepD K e H (.box x) Q=WP (stepV noK e H (.box x)) Q:=Eq.trans rfl rfl

@[simp] theorem sd_build (zs:List CV) (ps:List (Nat×Nat×Od)):stepD K e H (.build zs ps) Q=WP (stepV noK e H (.build zs ps)) Q:=Eq.trans rfl rfl

@[simp] theorem sd_bsl (sz:Nat) (zs:List CV) (n:Nat) (ps:List (Nat×Nat×Od)):stepD K e H (.bsl sz zs n ps) Q=WP (stepV noK e H (.bsl sz zs n ps)) Q:=Eq.trans rfl rfl

@[simp] theorem sd_ld (n:Option Nat) (a:Od):stepD K e H (.ld n a) Q=WP (stepV noK e H (.ld n a)) Q:=Eq.trans rfl rfl

@[simp] theorem sd_st (n:Nat) (a x:Od):stepD K e H (.st n a x) Q=WP (stepV noK e H (.st n a x)) Q:=Eq.trans rfl rfl

@[simp] theorem sd_nilc (x:Od):stepD K e H (.nilc x) Q=WP (stepV noK e H (.nilc x)) Q:=Eq.trans rfl rfl

@[simp] theorem sd_bin (o:Bo) (x y:Od):stepD K e H (.bin o x y) Q=WP (stepV noK e H (.bin o x y)) Q:=Eq.trans rfl rfl

@[simp] theorem sd_shk (l:Bool) (n:Nat) (x:Od):stepD K e H (.shk l n x) Q=WP (stepV noK e H (.shk l n x)) Q:=Eq.trans rfl rfl

@[simp] theorem sd_bck (a b c d:Od):stepD K e H (.bck a b c d) Q=WP (stepV noK e H (.bck a b c d)) Q:=Eq.trans rfl rfl

@[simp] theorem sd_eqa (n:Nat) (g:Bool) (x y:Od):stepD K e H (.eqa n g x y) Q=WP (stepV noK e H (.eqa n g x y)) Q:=Eq.trans rfl rfl

@[simp] theorem sd_eqb (g:Bool) (x y:Od):stepD K e H (.eqb g x y) Q=WP (stepV noK e H (.eqb g x y)) Q:=Eq.trans rfl rfl

@[simp] theorem sd_eqn (g:Bool) (x:Od):stepD K e H (.eqn g x) Q=WP (stepV noK e H (.eqn g x)) Q:=Eq.trans rfl rfl

@[simp] theorem sd_not (x:Od):stepD K e H (.not x) Q=WP (stepV noK e H (.not x)) Q:=Eq.trans rfl rfl

@[simp] theorem sd_b2i (x:Od):stepD K e H (.b2i x) Q=WP (stepV noK e H (.b2i x)) Q:=Eq.trans rfl rfl

@[simp] theorem sd_s2b (x:Od):stepD K e H (.s2b x) Q=WP (stepV noK e H (.s2b x)) Q:=Eq.trans rfl rfl

@[simp] theorem sd_mks (sz:Nat) (zs:List CV) (x:Od):stepD K e H (.mks sz zs x) Q=WP (stepV noK e H (.mks sz zs x)) Q:=Eq.trans rfl rfl

@[simp] theorem sd_slc (sz:Nat) (x:Od) (lo hi:Option Od):stepD K e H (.slc sz x lo hi) Q=WP (stepV noK e H (.slc sz x lo hi)) Q:=Eq.trans rfl rfl

@[simp] theorem sd_fad (o:Nat) (x:Od):stepD K e H (.fad o x) Q=WP (stepV noK e H (.fad o x)) Q:=Eq.trans rfl rfl

@[simp] theorem sd_idx (sz:Nat) (x i:Od):stepD K e H (.idx sz x i) Q=WP (stepV noK e H (.idx sz x i)) Q:=Eq.trans rfl rfl

@[simp] theorem sd_ext (k:Nat) (x:Od):stepD K e H (.ext k x) Q=WP (stepV noK e H (.ext k x)) Q:=Eq.trans rfl rfl

@[simp] theorem sd_mkf (f:Nat) (cs:List Od):stepD K e H (.mkf f cs) Q=WP (stepV noK e H (.mkf f cs)) Q:=Eq.trans rfl rfl

@[simp] theorem sd_app (sz:Nat) (x y:Od):stepD K e H (.app sz x y) Q=WP (stepV noK e H (.app sz x y)) Q:=Eq.trans rfl rfl

@[simp] theorem sd_len (x:Od):stepD K e H (.len x) Q=WP (stepV noK e H (.len x)) Q:=Eq.trans rfl rfl

@[simp] theorem sd_lens (x:Od):stepD K e H (.lens x) Q=WP (stepV noK e H (.lens x)) Q:=Eq.trans rfl rfl

@[simp] theorem sd_mn (x y:Od):stepD K e H (.mn x y) Q=WP (stepV noK e H (.mn x y)) Q:=Eq.trans rfl rfl

@[simp] theorem sd_mx (x y:Od):stepD K e H (.mx x y) Q=WP (stepV noK e H (.mx x y)) Q:=Eq.trans rfl rfl

@[simp] theorem sd_clr (sz:Nat) (zs:List CV) (x:Od):stepD K e H (.clr sz zs x) Q=WP (stepV noK e H (.clr sz zs x)) Q:=Eq.trans rfl rfl

@[simp] theorem sd_call (f:Nat) (xs:List Od):stepD K e H (.call f xs) Q=K f (xs.map (Od.get e)) H Q:=Eq.trans rfl rfl

@[simp] theorem sd_clv (x:Od) (xs:List Od):stepD K e H (.clv x xs) Q=match x.get e with
  | .f fid caps=>K fid (xs.map (Od.get e)++caps.map .c) H Q
  | _=>False:=Eq.trans rfl rfl

@[simp] theorem ie_call (f:Nat) (xs:List Od):isE (.call f xs)=true:=rfl

@[simp] theorem ie_clv (x:Od) (xs:List Od):isE (.clv x xs)=true:=Eq.trans rfl rfl

@[simp] theorem rv_call (f:Nat) (xs:List Od):rdv e (.call f xs)=.non:=Eq.trans rfl rfl

@[simp] theorem rv_clv (x:Od) (xs:List Od):rdv e (.clv x xs)=.non:=Eq.trans rfl rfl

@[simp] theorem ie_mv (x:Od):isE (.mv x)=false:=Eq.trans rfl rfl

@[simp] theorem rv_mv (x:Od):rdv e (.mv x)=.non:=Eq.trans rfl rfl

@[simp] theorem ie_pick (a b c:Od):isE (.pick a b c)=false:=Eq.trans rfl rfl

@[simp] theorem rv_pick (a b c:Od):rdv e (.pick a b c)=.non:=Eq.trans rfl rfl

@[simp] theorem ie_alloc (zs:List CV):isE (.alloc zs)=true:=Eq.trans rfl rfl

@[simp] theorem rv_alloc (zs:List CV):rdv e (.alloc zs)=.non:=Eq.trans rfl rfl

@[simp] theorem ie_box (x:Od):isE (.box x)=true:=Eq.trans rfl rfl

@[simp] theorem rv_box (x:Od):rdv e (.box x)=.non:=Eq.trans rfl rfl

@[simp] theorem ie_build (zs:List CV) (ps:List (Nat×Nat×Od)):isE (.build zs ps)=false:=Eq.trans rfl rfl

@[simp] theorem rv_build (zs:List CV) (ps:List (Nat×Nat×Od)):rdv e (.build zs ps)=.non:=Eq.trans rfl rfl

@[simp] theorem ie_bsl (sz:Nat) (zs:List CV) (n:Nat) (ps:List (Nat×Nat×Od)):isE (.bsl sz zs n ps)=true:=Eq.trans rfl rfl

@[simp] theorem rv_bsl (sz:Nat) (zs:List CV) (n:Nat) (ps:List (Nat×Nat×Od)):rdv e (.bsl sz zs n ps)=.non:=Eq.trans rfl rfl

@[simp] theorem ie_ld (n:Option Nat) (a:Od):isE (.ld n a)=false:=Eq.trans rfl rfl

@[simp] theorem ie_st (n:Nat) (a x:Od):isE (.st n a x)=true:=rfl

@[simp] theorem rv_st (n:Nat) (a x:Od):rdv e (.st n a x)=.non:=Eq.trans rfl rfl

@[simp] theorem ie_nilc (x:Od):isE (.nilc x)=false:=Eq.trans rfl rfl

@[simp] theorem rv_nilc (x:Od):rdv e (.nilc x)=.non:=Eq.trans rfl rfl

@[simp] theorem ie_bin (o:Bo) (x y:Od):isE (.bin o x y)=false:=Eq.trans rfl rfl

@[simp] theorem rv_bin (o:Bo) (x y:Od):rdv e (.bin o x y)=.non:=Eq.trans rfl rfl

@[simp] theorem ie_shk (l:Bool) (n:Nat) (x:Od):isE (.shk l n x)=false:=Eq.trans rfl rfl

@[simp] theorem rv_shk (l:Bool) (n:Nat) (x:Od):rdv e (.shk l n x)=.non:=Eq.trans rfl rfl

@[simp] theorem ie_bck (a b c d:Od):isE (.bck a b c d)=false:=Eq.trans rfl rfl

@[simp] theorem rv_bck (a b c d:Od):rdv e (.bck a b c d)=.non:=Eq.trans rfl rfl

@[simp] theorem ie_eqa (n:Nat) (g:Bool) (x y:Od):isE (.eqa n g x y)=false:=Eq.trans rfl rfl

@[simp] theorem rv_eqa (n:Nat) (g:Bool) (x y:Od):rdv e (.eqa n g x y)=.non:=Eq.trans rfl rfl

@[simp] theorem ie_eqb (g:Bool) (x y:Od):isE (.eqb g x y)=false:=Eq.trans rfl rfl

@[simp] theorem rv_eqb (g:Bool) (x y:Od):rdv e (.eqb g x y)=.non:=Eq.trans rfl rfl

@[simp] theorem ie_eqn (g:Bool) (x:Od):isE (.eqn g x)=false:=Eq.trans rfl rfl

@[simp] theorem rv_eqn (g:Bool) (x:Od):rdv e (.eqn g x)=.non:=Eq.trans rfl rfl

@[simp] theorem ie_not (x:Od):isE (.not x)=false:=Eq.trans rfl rfl

@[simp] theorem rv_not (x:Od):rdv e (.not x)=.non:=Eq.trans rfl rfl

@[simp] theorem ie_b2i (x:Od):isE (.b2i x)=false:=Eq.trans rfl rfl

@[simp] theorem rv_b2i (x:Od):rdv e (.b2i x)=.non:=Eq.trans rfl rfl

@[simp] theorem ie_s2b (x:Od):isE (.s2b x)=true:=Eq.trans rfl rfl

@[simp] theorem rv_s2b (x:Od):rdv e (.s2b x)=.non:=Eq.trans rfl rfl

@[simp] theorem ie_mks (sz:Nat) (zs:List CV) (x:Od):isE (.mks sz zs x)=true:=Eq.trans rfl rfl

@[simp] theorem rv_mks (sz:Nat) (zs:List CV) (x:Od):rdv e (.mks sz zs x)=.non:=Eq.trans rfl rfl

@[simp] theorem ie_slc (sz:Nat) (x:Od) (lo hi:Option Od):isE (.slc sz x lo hi)=false:=Eq.trans rfl rfl

@[simp] theorem ie_fad (o:Nat) (x:Od):isE (.fad o x)=false:=rfl

@[simp] theorem rv_fad (o:Nat) (x:Od):rdv e (.fad o x)=.non:=Eq.trans rfl rfl

@[simp] theorem ie_idx (sz:Nat) (x i:Od):isE (.idx sz x i)=false:=Eq.trans rfl rfl

@[simp] theorem rv_idx (sz:Nat) (x i:Od):rdv e (.idx sz x i)=.non:=Eq.trans rfl rfl

@[simp] theorem ie_ext (k:Nat) (x:Od):isE (.ext k x)=false:=Eq.trans rfl rfl

@[simp] theorem rv_ext (k:Nat) (x:Od):rdv e (.ext k x)=.non:=Eq.trans rfl rfl

@[simp] theorem ie_mkf (f:Nat) (cs:List Od):isE (.mkf f cs)=false:=Eq.trans rfl rfl

@[simp] theorem rv_mkf (f:Nat) (cs:List Od):rdv e (.mkf f cs)=.non:=Eq.trans rfl rfl

@[simp] theorem ie_app (sz:Nat) (x y:Od):isE (.app sz x y)=true:=Eq.trans rfl rfl

@[simp] theorem rv_app (sz:Nat) (x y:Od):rdv e (.app sz x y)=.non:=Eq.trans rfl rfl

@[simp] theorem ie_len (x:Od):isE (.len x)=false:=Eq.trans rfl rfl

@[simp] theorem rv_len (x:Od):rdv e (.len x)=.non:=Eq.trans rfl rfl

@[simp] theorem ie_lens (x:Od):isE (.lens x)=false:=Eq.trans rfl rfl

@[simp] theorem rv_lens (x:Od):rdv e (.lens x)=.non:=Eq.trans rfl rfl

@[simp] theorem ie_mn (x y:Od):isE (.mn x y)=false:=Eq.trans rfl rfl

@[simp] theorem rv_mn (x y:Od):rdv e (.mn x y)=.non:=Eq.trans rfl rfl

@[simp] theorem ie_mx (x y:Od):isE (.mx x y)=false:=Eq.trans rfl rfl

@[simp] theorem rv_mx (x y:Od):rdv e (.mx x y)=.non:=Eq.trans rfl rfl

@[simp] theorem ie_clr (sz:Nat) (zs:List CV) (x:Od):isE (.clr sz zs x)=true:=Eq.trans rfl rfl

@[simp] theorem rv_clr (sz:Nat) (zs:List CV) (x:Od):rdv e (.clr sz zs x)=.non:=Eq.trans rfl rfl

end

section

variable {vars:List Nat} {e:Env} {H:Hp} {st:St}

@[simp] theorem setD_none (v:IV):setD e none v=e:=Eq.trans rfl rfl

@[simp] theorem setD_some (d:Nat) (v:IV):setD e (some d) v=(d,v) :: e:=Eq.trans rfl rfl

@[simp] theorem get_nil (n:Nat):Env.get [] n=.c .non:=Eq.trans rfl rfl

@[simp] theorem get_cons (k n:Nat) (v:IV):Env.get ((k,v) :: e) n=if k=n then v else Env.get e n:=Eq.trans rfl rfl

@[simp] theorem od_t (n:Nat):(Od.t n).get e=Env.get e n:=Eq.trans rfl rfl

@[simp] theorem od_k (v:IV):(Od.k v).get e=v:=Eq.trans rfl rfl

@[simp] theorem prune_h (vars:List Nat):prune vars st=⟨vars.map fun k=>(k,Env.get st.e k),st.h⟩:=Eq.trans rfl rfl

@[simp] theorem enter_eq (vars:List Nat) (args:List IV):enter vars args=vars.map fun k=>(k,args.getD k (.c .non)):=Eq.trans rfl rfl

@[simp] theorem fresh_eq (cs:List CV) (rw:Bool) (sz:Nat):fresh H cs rw sz=H++[⟨cs,0,rw,sz⟩]:=Eq.trans rfl rfl

@[simp] theorem natI (m n:Nat):((m:Int)=n)=(m=n):=by simp only[eq_iff_iff];omega

def lenOf:CV→Option Nat
 | .sl _ _ _ n=>some n
 | .ns=>some 0
 | _=>none

def idxOf (sz:Nat):CV→Int→Option CV
 | .sl id g off len,k=>if 0≤k∧k<len then some (.p id g (off+k.toNat * sz)) else none
 | _,_=>none

@[simp] theorem lenOf_sl (id g off n:Nat):lenOf (.sl id g off n)=some n:=Eq.trans rfl rfl

@[simp] theorem lenOf_ns:lenOf .ns=some 0:=Eq.trans rfl rfl

@[simp] theorem idxOf_sl (sz id g off n:Nat) (k:Int):idxOf sz (.sl id g off n) k=if 0≤k∧k<n then some (.p id g (off+k.toNat * sz)) else none:=Eq.trans rfl rfl

@[simp] theorem st_len (x:Od):stepV noK e H (.len x)=match x.get e with
  | .c v=>(lenOf v).bind fun n=>some (.c (.i n),H)
  | _=>none:=by
 simp only[stepV]
 cases x.get e with
 | c v=>cases v<;>rfl
 | _=>rfl

@[simp] theorem st_idx (sz:Nat) (x i:Od):stepV noK e H (.idx sz x i)=match x.get e,i.get e with
  | .c v,.c (.i k)=>(idxOf sz v k).bind fun q=>some (.c q,H)
  | _,_=>none:=by
 simp only[stepV]
 cases x.get e with
 | c v =>
  cases i.get e with
  | c k =>
   cases v<;>cases k<;>try rfl
   simp only[idxOf]
   split<;>rfl
  | _=>cases v<;>rfl
 | _=>rfl

@[simp] theorem st_mv (x:Od):stepV noK e H (.mv x)=some (x.get e,H):=Eq.trans rfl rfl

@[simp] theorem st_pick (c a b:Od):stepV noK e H (.pick c a b)=match c.get e with
  | .c (.b true)=>some (a.get e,H)
  | .c (.b false)=>some (b.get e,H)
  | _=>none:=Eq.trans rfl rfl

@[simp] theorem st_alloc (zs:List CV):stepV noK e H (.alloc zs)=some (.c (.p H.length 0 0),fresh H zs true zs.length):=Eq.trans rfl rfl

@[simp] theorem st_box (x:Od):stepV noK e H (.box x)=(cellsOf (x.get e)).bind fun cs=>some (.c (.p H.length 0 0),fresh H cs true cs.length):=Eq.trans rfl rfl

@[simp] theorem st_build (zs:List CV) (ps:List (Nat×Nat×Od)):stepV noK e H (.build zs ps)=(partsOf e ps).bind fun ps=>(lay zs ps).bind fun cs=>some (.agg cs,H):=Eq.trans rfl rfl

@[simp] theorem st_bsl (sz:Nat) (zs:List CV) (n:Nat) (ps:List (Nat×Nat×Od)):stepV noK e H (.bsl sz zs n ps)=(partsOf e ps).bind fun ps=>(lay (List.replicate n zs).flatten ps).bind fun cs =>
   some (.c (.sl H.length 0 0 n),fresh H cs true sz):=Eq.trans rfl rfl

@[simp] theorem st_ld1 (a:Od):stepV noK e H (.ld none a)=match a.get e with
  | .c (.p id g off)=>(rdC H id g off).bind fun v=>some (.c v,H)
  | _=>none:=by
 simp only[stepV,rdC]
 generalize a.get e=u
 cases u with
 | c v =>
  cases v with
  | p id g off=>simp only;cases rdOb H id g<;>rfl
  | _=>rfl
 | _=>rfl

@[simp] theorem st_ldn (n:Nat) (a:Od):stepV noK e H (.ld (some n) a)=match a.get e with
  | .c (.p id g off)=>(rdN H id g off n).bind fun cs=>some (.agg cs,H)
  | _=>none:=by
 simp only[stepV,rdN]
 generalize a.get e=u
 cases u with
 | c v =>
  cases v with
  | p id g off =>
   simp only
   cases rdOb H id g with
   | none=>rfl
   | some o=>simp only[Option.bind_some];by_cases h:off+n≤o.cells.length<;>simp[h]
  | _=>rfl
 | _=>rfl

@[simp] theorem st_st (n:Nat) (a x:Od):stepV noK e H (.st n a x)=match a.get e with
  | .c (.p id g off)=>(rdOb H id g).bind fun o=>(cellsOf (x.get e)).bind fun cs =>
    if o.rw=true∧cs.length=n∧off+n≤o.cells.length then some (.c .non,H.set id { o with cells:=putAt o.cells off cs }) else none
  | _=>none:=Eq.trans rfl rfl

@[simp] theorem st_nilc (x:Od):stepV noK e H (.nilc x)=match x.get e with
  | .c (.p id g off)=>some (.c (.p id g off),H)
  | _=>none:=Eq.trans rfl rfl

@[simp] theorem st_bin (o:Bo) (x y:Od):stepV noK e H (.bin o x y)=match x.get e,y.get e with
  | .c a,.c b=>(evalBin o a b).bind fun v=>some (.c v,H)
  | _,_=>none:=Eq.trans rfl rfl

@[simp] theorem st_shk (l:Bool) (n:Nat) (x:Od):stepV noK e H (.shk l n x)=match x.get e with
  | .c (.i a)=>if n≤64 then some (.c (.i (if l=true then wrap64 (a * 2 ^ n) else a / 2 ^ n)),H) else none
  | _=>none:=Eq.trans rfl rfl

@[simp] theorem st_bck (x lo hi mx:Od):stepV noK e H (.bck x lo hi mx)=match x.get e,lo.get e,hi.get e,mx.get e with
  | .c (.sl _ _ _ len),.c (.i l),.c (.i h),.c (.i m)=>if 0≤l∧l≤h∧h≤m∧m≤len then some (.c .non,H) else none
  | _,_,_,_=>none:=Eq.trans rfl rfl

@[simp] theorem st_eqa (n:Nat) (neg:Bool) (x y:Od):stepV noK e H (.eqa n neg x y)=match x.get e,y.get e with
  | .agg xs,.agg ys=>if xs.length=n∧ys.length=n∧allInt xs=true∧allInt ys=true then some (.c (.b (decide (xs=ys) != neg)),H) else none
  | _,_=>none:=Eq.trans rfl rfl

@[simp] theorem st_eqb (neg:Bool) (x y:Od):stepV noK e H (.eqb neg x y)=match x.get e,y.get e with
  | .c (.b a),.c (.b b)=>some (.c (.b ((a == b) != neg)),H)
  | _,_=>none:=Eq.trans rfl rfl

@[simp] theorem st_eqn (neg:Bool) (x:Od):stepV noK e H (.eqn neg x)=match x.get e with
  | .c .ns=>some (.c (.b (!neg)),H)
  | .c (.sl ..)=>some (.c (.b neg),H)
  | _=>none:=Eq.trans rfl rfl

@[simp] theorem st_not (x:Od):stepV noK e H (.not x)=match x.get e with
  | .c (.b v)=>some (.c (.b (!v)),H)
  | _=>none:=Eq.trans rfl rfl

@[simp] theorem st_b2i (x:Od):stepV noK e H (.b2i x)=match x.get e with
  | .c (.y n)=>some (.c (.i (wrap64 n)),H)
  | _=>none:=Eq.trans rfl rfl

@[simp] theorem st_s2b (x:Od):stepV noK e H (.s2b x)=match x.get e with
  | .c (.s v)=>if v.size≤LIM then some (.c (.sl H.length 0 0 v.size),fresh H (v.data.toList.map fun b=>.y b.toNat) false 1) else none
  | _=>none:=Eq.trans rfl rfl

@[simp] theorem st_mks (sz:Nat) (zs:List CV) (x:Od):stepV noK e H (.mks sz zs x)=match x.get e with
  | .c (.i n)=>if 0≤n∧n.toNat * sz≤LIM then some (.c (.sl H.length 0 0 n.toNat),fresh H (List.replicate n.toNat zs).flatten true sz) else none
  | _=>none:=Eq.trans rfl rfl

@[simp] theorem st_slc (sz:Nat) (x:Od) (lo hi:Option Od):stepV noK e H (.slc sz x lo hi)=match x.get e with
  | .c v=>(doSlice H sz v (lo.map (Od.get e)) (hi.map (Od.get e))).bind fun r=>some (r,H)
  | _=>none:=Eq.trans rfl rfl

@[simp] theorem st_fad (off:Nat) (x:Od):stepV noK e H (.fad off x)=match x.get e with
  | .c (.p id g o)=>some (.c (.p id g (o+off)),H)
  | _=>none:=Eq.trans rfl rfl

@[simp] theorem st_ext (k:Nat) (x:Od):stepV noK e H (.ext k x)=match x.get e with
  | .tup xs=>(xs[k]?).bind fun t=>(ivOf t).bind fun v=>some (v,H)
  | _=>none:=Eq.trans rfl rfl

@[simp] theorem st_mkf (f:Nat) (xs:List Od):stepV noK e H (.mkf f xs)=(capsOf e xs).bind fun vs=>some (.f f vs,H):=Eq.trans rfl rfl

@[simp] theorem st_app (sz:Nat) (x y:Od):stepV noK e H (.app sz x y)=match x.get e,y.get e with
  | .c a,.c b=>(srcOf H sz b).bind fun ms=>doApp H sz a ms.1 ms.2
  | _,_=>none:=Eq.trans rfl rfl

@[simp] theorem st_lens (x:Od):stepV noK e H (.lens x)=match x.get e with
  | .c (.s v)=>some (.c (.i v.size),H)
  | _=>none:=Eq.trans rfl rfl

@[simp] theorem st_mn (x y:Od):stepV noK e H (.mn x y)=match x.get e,y.get e with
  | .c (.i a),.c (.i b)=>some (.c (.i (if b<a then b else a)),H)
  | _,_=>none:=Eq.trans rfl rfl

@[simp] theorem st_mx (x y:Od):stepV noK e H (.mx x y)=match x.get e,y.get e with
  | .c (.i a),.c (.i b)=>some (.c (.i (if a<b then b else a)),H)
  | _,_=>none:=Eq.trans rfl rfl

@[simp] theorem st_clr (sz:Nat) (zs:List CV) (x:Od):stepV noK e H (.clr sz zs x)=match x.get e with
  | .c .ns=>some (.tup [],H)
  | .c (.sl id g off len)=>(rdOb H id g).bind fun o =>
    if o.rw=true∧off+len * sz≤o.cells.length then some (.tup [],H.set id { o with cells:=putAt o.cells off (List.replicate len zs).flatten }) else none
  | _=>none:=Eq.trans rfl rfl

section

variable (a b:Int) (x y:Bool) (s t:ByteArray)

@[simp] theorem ev_add:evalBin .add (.i a) (.i b)=some (.i (wrap64 (a+b))):=Eq.trans rfl rfl

@[simp] theorem ev_sub:evalBin .sub (.i a) (.i b)=some (.i (wrap64 (a - b))):=Eq.trans rfl rfl

@[simp] theorem ev_mul:evalBin .mul (.i a) (.i b)=some (.i (wrap64 (a * b))):=Eq.trans rfl rfl

@[simp] theorem ev_quo:evalBin .quo (.i a) (.i b)=if b=0 then none else some (.i (wrap64 (a.tdiv b))):=Eq.trans rfl rfl

@[simp] theorem ev_rem:evalBin .rem (.i a) (.i b)=if b=0 then none else some (.i (a.tmod b)):=Eq.trans rfl rfl

@[simp] theorem ev_and:evalBin .and (.i a) (.i b)=some (.i (bits .and .i64 a b)):=Eq.trans rfl rfl

@[simp] theorem ev_or:evalBin .or (.i a) (.i b)=some (.i (bits .or .i64 a b)):=Eq.trans rfl rfl

@[simp] theorem ev_xor:evalBin .xor (.i a) (.i b)=some (.i (bits .xor .i64 a b)):=Eq.trans rfl rfl

@[simp] theorem ev_shl:evalBin .shl (.i a) (.i b)=if 0≤b∧b≤64 then some (.i (wrap64 (a * 2 ^ b.toNat))) else none:=Eq.trans rfl rfl

@[simp] theorem ev_shr:evalBin .shr (.i a) (.i b)=if 0≤b∧b≤64 then some (.i (a / 2 ^ b.toNat)) else none:=Eq.trans rfl rfl

@[simp] theorem ev_eq:evalBin .eq (.i a) (.i b)=some (.b (decide (a=b))):=Eq.trans rfl rfl

@[simp] theorem ev_ne:evalBin .ne (.i a) (.i b)=some (.b (decide (a≠b))):=by simp only[evalBin];congr 2;by_cases h:a=b<;>simp[h]

@[simp] theorem ev_lt:evalBin .lt (.i a) (.i b)=some (.b (decide (a<b))):=Eq.trans rfl rfl

@[simp] theorem ev_le:evalBin .le (.i a) (.i b)=some (.b (decide (a≤b))):=Eq.trans rfl rfl

@[simp] theorem ev_gt:evalBin .gt (.i a) (.i b)=some (.b (decide (b<a))):=Eq.trans rfl rfl

@[simp] theorem ev_ge:evalBin .ge (.i a) (.i b)=some (.b (decide (b≤a))):=Eq.trans rfl rfl

@[simp] theorem ev_yeq:evalBin .eq (.y a) (.y b)=some (.b (decide (a=b))):=Eq.trans rfl rfl

@[simp] theorem ev_yne:evalBin .ne (.y a) (.y b)=some (.b (decide (a≠b))):=by simp only[evalBin];congr 2;by_cases h:a=b<;>simp[h]

@[simp] theorem ev_seq:evalBin .eq (.s s) (.s t)=some (.b (s == t)):=Eq.trans rfl rfl

@[simp] theorem ev_sne:evalBin .ne (.s s) (.s t)=some (.b (!(s == t))):=Eq.trans rfl rfl

end

attribute [simp] cellsOf tcOf ivOf partsOf capsOf lay resultOf ressOf flatV flatC allInt

@[simp] theorem resOf_none (st:St) (s:Nat):resOf st (s,none)=some (Env.get st.e s):=Eq.trans rfl rfl

@[simp] theorem resOf_one (st:St) (s:Nat):resOf st (s,some none)=match Env.get st.e s with
  | .c (.p id g off)=>(rdC st.h id g off).bind fun v=>some (.c v)
  | _=>none:=by
 show (stepV noK st.e st.h (.ld none (.t s))).bind (fun r=>some r.1)=_
 rw[st_ld1]
 simp only[od_t]
 generalize Env.get st.e s=u
 cases u with
 | c v =>
  cases v with
  | p id g off=>simp only;cases rdC st.h id g off<;>rfl
  | _=>rfl
 | _=>rfl

@[simp] theorem resOf_many (st:St) (s n:Nat):resOf st (s,some (some n))=match Env.get st.e s with
  | .c (.p id g off)=>(rdN st.h id g off n).bind fun v=>some (.agg v)
  | _=>none:=by
 show (stepV noK st.e st.h (.ld (some n) (.t s))).bind (fun r=>some r.1)=_
 rw[st_ldn]
 simp only[od_t]
 generalize Env.get st.e s=u
 cases u with
 | c v =>
  cases v with
  | p id g off=>simp only;cases rdN st.h id g off n<;>rfl
  | _=>rfl
 | _=>rfl

@[simp] theorem finD_norm (H:Hp) (res:List (Nat×Option (Option Nat))) (Q:IV×Hp→Prop) (s:St):finD H res Q (.norm,s)=WP (resultOf s res) fun v=>Q (gcRet H v s.h):=Eq.trans rfl rfl

@[simp] theorem finD_ret (H:Hp) (res:List (Nat×Option (Option Nat))) (Q:IV×Hp→Prop) (s:St):finD H res Q (.ret,s)=WP (resultOf s res) fun v=>Q (gcRet H v s.h):=Eq.trans rfl rfl

end

def NQ (Q:X×St→Prop) (r:X×St):Prop:=match r.1 with
 | .norm=>False
 | x=>Q (x,r.2)

@[simp] theorem NQ_norm (Q:X×St→Prop) (s:St):NQ Q (.norm,s)=False:=Eq.trans rfl rfl

@[simp] theorem NQ_exit (Q:X×St→Prop) (n:Nat) (s:St):NQ Q (.exit n,s)=Q (.exit n,s):=Eq.trans rfl rfl

@[simp] theorem NQ_ret (Q:X×St→Prop) (s:St):NQ Q (.ret,s)=Q (.ret,s):=Eq.trans rfl rfl

theorem exW_le {K:OrD} (hm:MonoK K) {vars:List Nat}:∀ {c:VC} {st:St} {Q Q':X×St→Prop},(∀ r,Q r→Q' r)→exW K vars c st Q→exW K vars c st Q':=by
 intro c
 induction c with
 | skip=>intro st Q Q' hq hs;exact hq _ hs
 | exit k=>intro st Q Q' hq hs;exact hq _ hs
 | ret=>intro st Q Q' hq hs;exact hq _ hs
 | rg ops=>intro st Q Q' hq hs;exact runOpsD_le hm.le (fun s=>hq _) hs
 | rd ops=>intro st Q Q' hq hs;exact runC_mono hm (fun s=>hq _) hs
 | rx ops t=>intro st Q Q' hq hs;exact treeW_mono hm (fun s=>hq _) hs
 | seq a b iha ihb=>intro st Q Q' hq hs;exact iha (fun r=>thenD_mono (fun s=>ihb hq) hq) hs
 | cond x a b iha ihb =>
  intro st Q Q' hq hs
  simp only[exW,cndP]at hs ⊢
  split at hs
  ·exact iha hq hs
  ·exact ihb hq hs
  ·exact hs
 | block k c ih=>intro st Q Q' hq hs;exact ih (fun r=>blockD_mono hq) hs
 | loop c ih=>intro st Q Q' hq hs;exact loopD_mono (f:=exW K vars c) (f':=exW K vars c) (fun s Q Q' hq=>ih hq) hq hs

theorem wp_loop {K:OrD} (hm:MonoK K) {vars:List Nat} {c:VC} {Q:X×St→Prop} (Inv:Nat→St→Prop) {k:Nat} {s:St} (h0:Inv k s)
  (h:∀ k s,Inv k s→exW K vars c s (thenD (fun t=>∃ k',k'<k∧Inv k' t) Q)):loopD (exW K vars c) s Q:=by
 intro I hI
 have key:∀ k s,Inv k s→I s:=by
  intro k
  induction k using Nat.strongRecOn with
  | _ k ih =>
   intro s hs
   exact hI s (exW_le hm (fun r=>thenD_mono (fun t ⟨k',h1,h2⟩=>ih k' h1 t h2) (fun _=>id)) (h k s hs))
 exact key k s h0

theorem wp_for {K:OrD} (hm:MonoK K) {vars:List Nat} {c:VC} {Q:X×St→Prop} (n:Nat) (I:Nat→St→Prop) {s:St} (h0:I 0 s)
  (step:∀ i s,i<n→I i s→exW K vars c s (thenD (I (i+1)) Q)) (done:∀ s,I n s→exW K vars c s (NQ Q)):loopD (exW K vars c) s Q:=by
 refine wp_loop hm (fun k s=>∃ i,i+k=n∧I i s) (k:=n) ⟨0,by omega,h0⟩ ?_
 rintro k s ⟨i,hi,hs⟩
 by_cases hin:i<n
 ·exact exW_le hm (fun r=>thenD_mono (fun t ht=>⟨k - 1,by omega,i+1,by omega,ht⟩) (fun _=>id)) (step i s hin hs)
 ·obtain rfl:i=n:=by omega
  refine exW_le hm (fun r hr=>?_) (done s hs)
  obtain⟨x,t⟩:=r
  cases x with
  | norm=>exact hr.elim
  | exit m=>exact hr
  | ret=>exact hr


theorem Sl.lenOf {H:Hp} {sz n:Nat} {v:CV} {cs:List CV} (h:Sl H sz v n cs):lenOf v=some n:=by
 rcases h with⟨rfl,rfl,_⟩ | ⟨id,g,off,o,rfl,_⟩<;>rfl

theorem Sl.get {H:Hp} {sz n:Nat} {v:CV} {cs:List CV} (h:Sl H sz v n cs) {k:Nat} (hk:k<n) :
  ∃ id g off o,idxOf sz v (k:Int)=some (.p id g off)∧rdOb H id g=some o∧off+sz≤o.cells.length∧∀ j,j<sz→o.cells[off+j]? = cs[k * sz+j]?:=by
 obtain⟨id,g,off,o,rfl,h1,h2⟩:=h.at_ (by omega)
 refine⟨id,g,off+k * sz,o,by simp[hk],h1,?_,fun j hj=>?_⟩
 ·by_cases h0:0<sz
  ·exact (h2 k 0 hk h0).1
  ·have hz:sz=0:=by omega
   subst hz
   rcases h with⟨h,_⟩ | ⟨id',g',off',o',h3,h4,h5,h6,h7⟩
   ·cases h
   ·cases h3;rw[h1]at h4;injection h4 with h4;subst h4;simpa using h6
 ·exact (h2 k j hk hj).2

theorem IsI.lenOf {H:Hp} {v:CV} {xs:List Int} (h:IsI H v xs):lenOf v=some xs.length:=Sl.lenOf h

theorem IsI.get {H:Hp} {v:CV} {xs:List Int} (h:IsI H v xs) {k:Nat} (hk:k<xs.length) :
  ∃ id g off o,idxOf 1 v (k:Int)=some (.p id g off)∧rdOb H id g=some o∧o.cells[off]? = some (.i xs[k]):=by
 obtain⟨id,g,off,o,h1,h2,_,h3⟩:=Sl.get h hk
 refine⟨id,g,off,o,h1,h2,?_⟩
 have:=h3 0 (by omega)
 simpa [hk] using this

theorem wrap64_id {n:Int} (h:-9223372036854775808≤n∧n≤9223372036854775807):wrap64 n=n:=by unfold wrap64;omega
section
open Go.Sort

open Go.RowKit (wrap64 Below)



abbrev sortI (xs:List Int):List Int:=xs.mergeSort fun x y=>decide (x≤y)

theorem sortI_len (xs:List Int):(sortI xs).length=xs.length:=by simp

def sortX (fs:Nat):OrD:=fun f args H Q=>f=fs ∧
 ((args=[.c .ns]∧Q (.tup [],H)) ∨
  ∃ id g off o xs,args=[.c (.sl id g off xs.length)]∧rdOb H id g=some o∧o.rw=true∧o.sz=1∧off+xs.length≤o.cells.length∧(o.cells.drop off).take xs.length=xs.map .i∧xs.length≤LIM ∧
   Q (.tup [],H.set id { o with cells:=putAt o.cells off ((sortI xs).map .i) }))

theorem sortX_mono (fs:Nat):MonoK (sortX fs):=by
 rintro f az H Q Q' hq ⟨hf,h⟩
 refine⟨hf,?_⟩
 rcases h with⟨h1,h2⟩ | ⟨id,g,off,o,xs,h1,h2,h3,h4,h5,h6,h7,h8⟩
 ·exact .inl ⟨h1,hq _ h2⟩
 ·exact .inr ⟨id,g,off,o,xs,h1,h2,h3,h4,h5,h6,h7,hq _ h8⟩

theorem sortX_nm (fs:Nat):NM (sortX fs):=by
 rintro f az H Q ⟨hf,h⟩
 rcases h with⟨h1,h2⟩ | ⟨id,g,off,o,xs,h1,h2,h3,h4,h5,h6,h7,h8⟩
 ·exact⟨_,h2⟩
 ·exact⟨_,h8⟩

theorem sortX_cj (fs:Nat):CJ (sortX fs):=by
 rintro f az H Q Q' ⟨hf,h⟩ ⟨_,k⟩
 refine⟨hf,?_⟩
 rcases h with⟨rfl,h2⟩ | ⟨id,g,off,o,xs,rfl,h2,h3,h4,h5,h6,h7,h8⟩
 ·rcases k with⟨_,k2⟩ | ⟨id',g',off',o',xs',k1,_⟩
  ·exact .inl ⟨rfl,h2,k2⟩
  ·simp at k1
 ·rcases k with⟨k1,_⟩ | ⟨id',g',off',o',xs',k1,k2,k3,k4,k5,k6,k7,k8⟩
  ·simp at k1
  ·simp only[List.cons.injEq,IV.c.injEq,CV.sl.injEq,and_true]at k1
   obtain⟨rfl,rfl,rfl,e⟩:=k1
   rw[h2]at k2;injection k2 with k2;subst k2
   rw[e,k6]at h6
   have ex:xs'=xs:=map_i_inj.1 h6
   subst ex
   exact .inr ⟨id,g,off,o,xs',rfl,h2,h3,h4,h5,k6,h7,h8,k8⟩

theorem Sim.congr {w0:World} {ρ:Rho} {H:Hp} {w w':World} (h:Sim w0 ρ H w) (h1:w'.os=w.os) (h2:w'.tape=w.tape) (h3:w'.output=w.output) (h4:w.heap.size≤w'.heap.size)
  (h5:∀ k,k<w.heap.size→w'.heap[k]? = w.heap[k]?):Sim w0 ρ H w':=by
 have hle:=h.bel.size
 refine⟨h.bel.trans ⟨h1,h2,h3,h4,fun k hk=>h5 k (by omega)⟩,?_,?_,h.inj,fun id o ho=>Nat.lt_of_lt_of_le (h.lt id o ho) h4,h.wf⟩
 ·intro id o j c ho hc
  obtain⟨v,a,b⟩:=h.cell id o j c ho hc
  refine⟨v,?_,b⟩
  rw[← a]
  have hb:((ρ id).1.add j).block<w.heap.size:=by rw[Addr.add_block];exact h.lt id o ho
  unfold World.cell?
  rw[h5 _ hb]
 ·intro id o ho hrw
  obtain⟨g,arr,ty,a,b,c,d⟩:=h.own id o ho hrw
  refine⟨g,arr,ty,a,b,?_,d⟩
  rw[h5 g (Array.getElem?_eq_some_iff.1 c).1]
  exact c

theorem map_int_get {zs:List Int} {j:Nat} (hj:j<zs.length):(zs.toArray)[j]! = zs[j]:=by
 rw[getElem!_pos _ j (by simpa using hj)]
 simp

theorem sort_sim {P : Program} {w0 : World} {fs : Nat} (hf : ∃ fn, P.funcs[fs]? = some fn ∧ fn.body.isNone = false ∧ (fn.name == "runtime.NumGoroutine") = false)
  (hs:∀ (blk off cap:Nat) (zs:List Int) (w:World),Holds (Value.int .i64) w blk off zs.toArray→blk<w.heap.size→zs.length<4611686018427387904 →
   Calls P fs #[.slice (some ⟨blk,off,none⟩) zs.length cap] w fun e w'=>e=.returned (.tuple #[])∧∃ n os,w'=grow (putRow (Value.int .i64) (Sort.ahead w n) blk off (sortI zs).toArray) os)
  (hn:∀ (p:Option Addr) (cap:Nat) (w:World),Calls P fs #[.slice p 0 cap] w fun e w'=>e=.returned (.tuple #[])∧w'=w):OrdSim P w0 (sortX fs):=by
 rintro f args H Q ⟨rfl,h⟩
 refine⟨hf,fun ρ w vs hS hR hw=>?_⟩
 have htup:IR ρ H (.tup []) (.tuple #[]):=⟨[],rfl,RL.nil _⟩
 rcases h with⟨rfl,hq⟩ | ⟨id,g,off,o,xs,rfl,ho,hrw,hsz,hl,hc,hlim,hq⟩
 ·obtain⟨b,bs,rfl,hb,hbs⟩:=hR.cons_inv
  obtain rfl:=hbs.nil_inv
  have hb:b=.slice none 0 0:=hb
  subst hb
  refine (hn none 0 w).mono ?_
  rintro e w' ⟨rfl,rfl⟩
  exact⟨_,hq,ρ,_,rfl,htup,by simp[wfI],hS,Ext.refl _ _⟩
 ·obtain⟨b,bs,rfl,hb,hbs⟩:=hR.cons_inv
  obtain rfl:=hbs.nil_inv
  obtain⟨a,cap,rfl,hlc,hcm,ha⟩:=hb
  obtain⟨ho1,ho2⟩:=rdOb_some.1 ho
  obtain⟨ha1,ha2,ha3⟩:=ha o ho1 ho2
  obtain⟨gb,arr,ty,q1,q2,q3,q4,q5⟩:=hS.own id o ho1 hrw
  by_cases h0:xs=[]
  ·subst h0
   refine (hn (some a) cap w).mono ?_
   rintro e w' ⟨rfl,rfl⟩
   have e0:H.set id { o with cells:=putAt o.cells off ((sortI []).map .i) }=H:=by
    have:putAt o.cells off ((sortI []).map .i)=o.cells:=by simp[putAt]
    rw[this]
    exact set_same H id o ho1
   rw[e0]at hq
   exact⟨_,hq,ρ,_,rfl,htup,by simp[wfI],hS,Ext.refl _ _⟩
  ·have hpos:0<xs.length:=List.length_pos_iff.2 h0
   have ha':a=⟨gb,off,none⟩:=by
    rcases ha1 with h | h
    ·omega
    ·rw[h,q1,add_own]
   subst ha'
   have hcell:∀ j (hj:j<xs.length),w.cell? ⟨gb,off+j,none⟩=some (.int .i64 xs[j]):=by
    intro j hj
    have hcj:o.cells[off+j]? = some (.i xs[j]):=by
     have:=congrArg (fun l=>l[j]?) hc
     simp only[List.getElem?_take,if_pos hj,List.getElem?_drop,List.getElem?_map,List.getElem?_eq_getElem hj,Option.map_some]at this
     exact this
    obtain⟨v,hv1,hv2⟩:=hS.cell id o (off+j) _ ho1 hcj
    rw[q1,add_own]at hv1
    rw[hv1,hv2.1]
   have hH:Holds (Value.int .i64) w gb off xs.toArray:=by
    intro j hj
    have hj:j<xs.length:=by simpa using hj
    refine⟨by rw[map_int_get hj];exact hcell j hj,?_⟩
    unfold World.frozen?
    rw[q3]
    simp
   refine (hs gb off cap xs w hH (Array.getElem?_eq_some_iff.1 q3).1 (by simp only[LIM]at hlim;omega)).mono ?_
   rintro e w' ⟨rfl,nn,os,rfl⟩
   have hxl:(sortI xs).length=xs.length:=sortI_len xs
   have hx:RL (CR ρ H) ((sortI xs).map .i) ((sortI xs).map (Value.int .i64)):=by
    refine⟨by simp,fun j c v h1 h2=>?_⟩
    rw[List.getElem?_map]at h1 h2
    cases hz:(sortI xs)[j]? with
    | none=>rw[hz]at h1;cases h1
    | some z =>
     rw[hz]at h1 h2
     injection h1 with h1;injection h2 with h2
     subst h1;subst h2
     exact⟨rfl,rfl⟩
   have hst:=hS.store ho1 hrw (off:=off) (xs:=(sortI xs).map .i) (vs:=(sortI xs).map (Value.int .i64)) (by simp;omega) hx (by
    intro c hc
    rw[List.mem_map]at hc
    obtain⟨z,_,rfl⟩:=hc
    trivial) q1 q3
   refine⟨_,hq,ρ,_,rfl,⟨[],rfl,RL.nil _⟩,by simp[wfI],?_,?_⟩
   ·refine hst.congr rfl rfl rfl (by simp) ?_
    intro k hk
    have hk:k<w.heap.size:=by simpa using hk
    have hglt:gb<w.heap.size:=(Array.getElem?_eq_some_iff.1 q3).1
    have e1:(grow (putRow (Value.int .i64) (Sort.ahead w nn) gb off (sortI xs).toArray) os).heap[k]? = (putRow (Value.int .i64) (Sort.ahead w nn) gb off (sortI xs).toArray).heap[k]?:=by
     unfold grow
     exact Array.getElem?_append_left (by simpa using hk)
    rw[e1]
    by_cases e:k=gb
    ·subst e
     have hm:(putRow (Value.int .i64) (Sort.ahead w nn) k off (sortI xs).toArray).heap[k]? = some (.cells (putCells (Value.int .i64) off (sortI xs).toArray arr) ty (0,0)):=by
      unfold putRow mapBlock
      simp only[Array.getElem?_modify,if_true,heap_ahead,q3,Option.map_some,onCells]
     rw[hm,setRow_heap _ _ _ _ _ _ q3]
     congr 2
     apply Array.ext_getElem?
     intro j
     have hxa:off+xs.length≤arr.size:=by omega
     unfold putCells
     rw[Array.getElem?_mapIdx]
     simp only[List.getElem?_toArray,List.size_toArray,hxl,List.length_map]
     by_cases h1:off≤j∧j<off+xs.length
     ·have hja:j<arr.size:=by omega
      rw[List.append_assoc,List.getElem?_append_right (by simp;omega),List.getElem?_append_left (by simp;omega)]
      simp only[List.length_take,Array.length_toList]
      rw[Nat.min_eq_left (by omega),List.getElem?_map,Array.getElem?_eq_getElem hja,Option.map_some,if_pos h1,map_int_get (by omega),List.getElem?_eq_getElem (by omega)]
      rfl
     ·by_cases h2:j<off
      ·rw[List.append_assoc,List.getElem?_append_left (by simp;omega),List.getElem?_take,if_pos h2,Array.getElem?_toList]
       cases hj:arr[j]? with
       | none=>rfl
       | some z=>simp only[Option.map_some,if_neg h1]
      ·rw[List.getElem?_append_right (by simp;omega)]
       simp only[List.length_append,List.length_take,List.length_map,Array.length_toList,hxl,List.getElem?_drop]
       rw[Nat.min_eq_left (by omega),show off+xs.length+(j - (off+xs.length))=j by omega,Array.getElem?_toList]
       cases hj:arr[j]? with
       | none=>rfl
       | some z=>simp only[Option.map_some,if_neg h1]
    ·unfold putRow mapBlock
     rw[setRow_other _ _ _ _ e]
     simp only[Array.getElem?_modify,heap_ahead,if_neg (Ne.symm e)]
   ·exact Ext.set_same ho1 rfl (putAt_length (by simp;omega)) rfl rfl
end
abbrev XK:OrD:=sortX 31

theorem XK_mono:MonoK XK:=sortX_mono 31

theorem XK_nm:NM XK:=sortX_nm 31

theorem XK_cj:CJ XK:=sortX_cj 31

abbrev CM:OrD:=callD M XK

theorem CM_mono:MonoK CM:=callD_mono XK_mono

theorem cw {f:Nat} (vf:VF) {ar:List IV} {H:Hp} {Q:IV×Hp→Prop} (hM:M f=some vf) (hd:drawsB vf.body=true)
  (h:exW CM vf.vars vf.body ⟨enter vf.vars ar,H⟩ (finD H vf.res Q)):CM f ar H Q:=call_wp XK_mono XK_nm XK_cj vf hM hd h

section

variable {ar:List IV} {H:Hp} {Q:IV×Hp→Prop}

theorem cw4 (h:exW CM [0,1,2,3,4,5,6,7,8,9,10,15,26,31,42,50,53,60,65,68] vf4c ⟨enter [0,1,2,3,4,5,6,7,8,9,10,15,26,31,42,50,53,60,65,68] ar,H⟩ (finD H [(2,none)] Q)):CM 4 ar H Q:=cw vf4 rfl dr4 h

theorem cw5 (h:exW CM [0,1,2,4,10] vf5c ⟨enter [0,1,2,4,10] ar,H⟩ (finD H [(4,none)] Q)):CM 5 ar H Q:=cw vf5 rfl dr5 h

theorem cw7 (h:exW CM [0,1,2,3] vf7c ⟨enter [0,1,2,3] ar,H⟩ (finD H [(2,(some (some 2)))] Q)):CM 7 ar H Q:=cw vf7 rfl dr7 h

theorem cw9 (h:exW CM [0,1,2,3,4,10,15] vf9c ⟨enter [0,1,2,3,4,10,15] ar,H⟩ (finD H [(4,none)] Q)):CM 9 ar H Q:=cw vf9 rfl dr9 h

theorem cw10 (h:exW CM [0,1,2,3,4,5,6,7,8,12,17,24,35,59] vf10c ⟨enter [0,1,2,3,4,5,6,7,8,12,17,24,35,59] ar,H⟩ (finD H [(2,none)] Q)):CM 10 ar H Q:=cw vf10 rfl dr10 h

theorem cw11 (h:exW CM [0,1,2,3,5,7,10,13,14,15,16,20,21,22,23,28] vf11c ⟨enter [0,1,2,3,5,7,10,13,14,15,16,20,21,22,23,28] ar,H⟩ (finD H [(2,none)] Q)):CM 11 ar H Q:=cw vf11 rfl dr11 h

theorem cw12 (h:exW CM [0,1,4,5,10,14,25] vf12c ⟨enter [0,1,4,5,10,14,25] ar,H⟩ (finD H [(4,none)] Q)):CM 12 ar H Q:=cw vf12 rfl dr12 h

theorem cw13 (h:exW CM [0,1,2,4] vf13c ⟨enter [0,1,2,4] ar,H⟩ (finD H [(4,none)] Q)):CM 13 ar H Q:=cw vf13 rfl dr13 h

theorem cw14 (h:exW CM [0,1,4,5,9] vf14c ⟨enter [0,1,4,5,9] ar,H⟩ (finD H [(4,none)] Q)):CM 14 ar H Q:=cw vf14 rfl dr14 h

theorem cw15 (h:exW CM [0,1,4,5,9,17] vf15c ⟨enter [0,1,4,5,9,17] ar,H⟩ (finD H [(4,none)] Q)):CM 15 ar H Q:=cw vf15 rfl dr15 h

theorem cw16 (h:exW CM [0,1,4,5,11,15,25] vf16c ⟨enter [0,1,4,5,11,15,25] ar,H⟩ (finD H [(4,none)] Q)):CM 16 ar H Q:=cw vf16 rfl dr16 h

theorem cw22 (h:exW CM [0,2,3,4,11] vf22c ⟨enter [0,2,3,4,11] ar,H⟩ (finD H [(2,none)] Q)):CM 22 ar H Q:=cw vf22 rfl dr22 h

theorem cw28 (h:exW CM [0,1,4,5,10,14,26] vf28c ⟨enter [0,1,4,5,10,14,26] ar,H⟩ (finD H [(4,none)] Q)):CM 28 ar H Q:=cw vf28 rfl dr28 h

theorem cw29 (h:exW CM [0,1,2,3,4,5,6,7,19,22,48,53,65,70,81] vf29c ⟨enter [0,1,2,3,4,5,6,7,19,22,48,53,65,70,81] ar,H⟩ (finD H [(2,none)] Q)):CM 29 ar H Q:=cw vf29 rfl dr29 h

theorem cw30 (h:exW CM [0,1,2,3,15] vf30c ⟨enter [0,1,2,3,15] ar,H⟩ (finD H [(2,none)] Q)):CM 30 ar H Q:=cw vf30 rfl dr30 h

theorem cw32 (h:exW CM [0,2,3,4,5,8,13,25,32,44] vf32c ⟨enter [0,2,3,4,5,8,13,25,32,44] ar,H⟩ (finD H [(2,none)] Q)):CM 32 ar H Q:=cw vf32 rfl dr32 h

theorem cw33 (h:exW CM [0,1,4,5,9] vf33c ⟨enter [0,1,4,5,9] ar,H⟩ (finD H [(4,none)] Q)):CM 33 ar H Q:=cw vf33 rfl dr33 h

theorem cw34 (h:exW CM [0,1,2,4,10,16] vf34c ⟨enter [0,1,2,4,10,16] ar,H⟩ (finD H [(4,none)] Q)):CM 34 ar H Q:=cw vf34 rfl dr34 h

theorem cw37 (h:exW CM [0,1,2,3] vf37c ⟨enter [0,1,2,3] ar,H⟩ (finD H [(2,(some (some 6)))] Q)):CM 37 ar H Q:=cw vf37 rfl dr37 h

theorem cw38 (h:exW CM [0,1,4] vf38c ⟨enter [0,1,4] ar,H⟩ (finD H [(4,none)] Q)):CM 38 ar H Q:=cw vf38 rfl dr38 h

theorem cw45 (h:exW CM [0,1,2,3,4,10,16,22] vf45c ⟨enter [0,1,2,3,4,10,16,22] ar,H⟩ (finD H [(4,none)] Q)):CM 45 ar H Q:=cw vf45 rfl dr45 h

theorem cw46 (h:exW CM [0,1,2,6] vf46c ⟨enter [0,1,2,6] ar,H⟩ (finD H [(6,none)] Q)):CM 46 ar H Q:=cw vf46 rfl dr46 h

theorem cw47 (h:exW CM [0,1,2,3,6,7,8,9,25,26,39,48] vf47c ⟨enter [0,1,2,3,6,7,8,9,25,26,39,48] ar,H⟩ (finD H [(6,none)] Q)):CM 47 ar H Q:=cw vf47 rfl dr47 h

theorem cw48 (h:exW CM [0,1,2,3,6,7,8,19,24,47,50,65] vf48c ⟨enter [0,1,2,3,6,7,8,19,24,47,50,65] ar,H⟩ (finD H [(6,none)] Q)):CM 48 ar H Q:=cw vf48 rfl dr48 h

theorem cw49 (h:exW CM [0,1,2,4,5,6,7,20,36,51,74,92,112] vf49c ⟨enter [0,1,2,4,5,6,7,20,36,51,74,92,112] ar,H⟩ (finD H [(4,none)] Q)):CM 49 ar H Q:=cw vf49 rfl dr49 h

theorem cw50 (h:exW CM [0,1,2,6] vf50c ⟨enter [0,1,2,6] ar,H⟩ (finD H [(6,none)] Q)):CM 50 ar H Q:=cw vf50 rfl dr50 h

theorem cw51 (h:exW CM [0,1,2,3,4,23] vf51c ⟨enter [0,1,2,3,4,23] ar,H⟩ (finD H [(4,none)] Q)):CM 51 ar H Q:=cw vf51 rfl dr51 h

theorem cw52 (h:exW CM [0,1,2,3,6,8,9,26,46] vf52c ⟨enter [0,1,2,3,6,8,9,26,46] ar,H⟩ (finD H [(6,none)] Q)):CM 52 ar H Q:=cw vf52 rfl dr52 h

theorem cw53 (h:exW CM [0,1,4] vf53c ⟨enter [0,1,4] ar,H⟩ (finD H [(4,none)] Q)):CM 53 ar H Q:=cw vf53 rfl dr53 h

theorem cw54 (h:exW CM [0,1,2,3,4] vf54c ⟨enter [0,1,2,3,4] ar,H⟩ (finD H [(4,none)] Q)):CM 54 ar H Q:=cw vf54 rfl dr54 h

theorem cw55 (h:exW CM [0,1,2,3,6,7,8,10,11,12,13,37] vf55c ⟨enter [0,1,2,3,6,7,8,10,11,12,13,37] ar,H⟩ (finD H [(6,none)] Q)):CM 55 ar H Q:=cw vf55 rfl dr55 h

theorem cw56 (h:exW CM [0,1,4] vf56c ⟨enter [0,1,4] ar,H⟩ (finD H [(4,none)] Q)):CM 56 ar H Q:=cw vf56 rfl dr56 h

theorem cw57 (h:exW CM [0,1,2,3] vf57c ⟨enter [0,1,2,3] ar,H⟩ (finD H [(3,none)] Q)):CM 57 ar H Q:=cw vf57 rfl dr57 h

theorem cw58 (h:exW CM [0,1,2,4,6] vf58c ⟨enter [0,1,2,4,6] ar,H⟩ (finD H [(4,none)] Q)):CM 58 ar H Q:=cw vf58 rfl dr58 h

theorem cw61 (h:exW CM [0,1,4,5,9] vf61c ⟨enter [0,1,4,5,9] ar,H⟩ (finD H [(4,none)] Q)):CM 61 ar H Q:=cw vf61 rfl dr61 h

theorem cw62 (h:exW CM [0,1,4,5,9] vf62c ⟨enter [0,1,4,5,9] ar,H⟩ (finD H [(4,none)] Q)):CM 62 ar H Q:=cw vf62 rfl dr62 h

theorem cw63 (h:exW CM [0,1,4,5,11,15,25] vf63c ⟨enter [0,1,4,5,11,15,25] ar,H⟩ (finD H [(4,none)] Q)):CM 63 ar H Q:=cw vf63 rfl dr63 h

theorem cw64 (h:exW CM [0,1,4,10] vf64c ⟨enter [0,1,4,10] ar,H⟩ (finD H [(4,none)] Q)):CM 64 ar H Q:=cw vf64 rfl dr64 h

theorem cw69 (h:exW CM [0,2,3,4,11] vf69c ⟨enter [0,2,3,4,11] ar,H⟩ (finD H [(2,none)] Q)):CM 69 ar H Q:=cw vf69 rfl dr69 h

theorem cw70 (h:exW CM [0,2,3,4,11] vf70c ⟨enter [0,2,3,4,11] ar,H⟩ (finD H [(2,none)] Q)):CM 70 ar H Q:=cw vf70 rfl dr70 h

theorem cw71 (h:exW CM [0,1,2,3] vf71c ⟨enter [0,1,2,3] ar,H⟩ (finD H [(2,(some (some 4)))] Q)):CM 71 ar H Q:=cw vf71 rfl dr71 h

theorem cw72 (h:exW CM [0,1,4,5,7,8,9,16] vf72c ⟨enter [0,1,4,5,7,8,9,16] ar,H⟩ (finD H [(4,none)] Q)):CM 72 ar H Q:=cw vf72 rfl dr72 h

theorem cw75 (h:exW CM [0,1,4,5,10,14,26] vf75c ⟨enter [0,1,4,5,10,14,26] ar,H⟩ (finD H [(4,none)] Q)):CM 75 ar H Q:=cw vf75 rfl dr75 h

theorem cw76 (h:exW CM [0,1,4,5,10,14,26] vf76c ⟨enter [0,1,4,5,10,14,26] ar,H⟩ (finD H [(4,none)] Q)):CM 76 ar H Q:=cw vf76 rfl dr76 h

theorem cw77 (h:exW CM [0,1,2,3,4,9,14,19,24] vf77c ⟨enter [0,1,2,3,4,9,14,19,24] ar,H⟩ (finD H [(4,none)] Q)):CM 77 ar H Q:=cw vf77 rfl dr77 h

theorem cw78 (h:exW CM [0,1,4] vf78c ⟨enter [0,1,4] ar,H⟩ (finD H [(4,none)] Q)):CM 78 ar H Q:=cw vf78 rfl dr78 h

theorem cw79 (h:exW CM [0,2] vf79c ⟨enter [0,2] ar,H⟩ (finD H [(2,none)] Q)):CM 79 ar H Q:=cw vf79 rfl dr79 h

theorem cw80 (h:exW CM [0,1,2,6,7] vf80c ⟨enter [0,1,2,6,7] ar,H⟩ (finD H [(6,none)] Q)):CM 80 ar H Q:=cw vf80 rfl dr80 h

theorem cw81 (h:exW CM [0,1,4,5,7,8,9,16] vf81c ⟨enter [0,1,4,5,7,8,9,16] ar,H⟩ (finD H [(4,none)] Q)):CM 81 ar H Q:=cw vf81 rfl dr81 h

theorem cw82 (h:exW CM [0,1,4] vf82c ⟨enter [0,1,4] ar,H⟩ (finD H [(4,none)] Q)):CM 82 ar H Q:=cw vf82 rfl dr82 h

theorem cw83 (h:exW CM [0,1,2,3] vf83c ⟨enter [0,1,2,3] ar,H⟩ (finD H [(3,none)] Q)):CM 83 ar H Q:=cw vf83 rfl dr83 h

theorem cw84 (h:exW CM [0,1,4,5,7,8,9,16] vf84c ⟨enter [0,1,4,5,7,8,9,16] ar,H⟩ (finD H [(4,none)] Q)):CM 84 ar H Q:=cw vf84 rfl dr84 h

theorem cw85 (h:exW CM [0,2,3,4,5,7,10,12,14] vf85c ⟨enter [0,2,3,4,5,7,10,12,14] ar,H⟩ (finD H [(2,none),(3,none)] Q)):CM 85 ar H Q:=cw vf85 rfl dr85 h

theorem cw86 (h:exW CM [0,1,4,5,6] vf86c ⟨enter [0,1,4,5,6] ar,H⟩ (finD H [(4,none)] Q)):CM 86 ar H Q:=cw vf86 rfl dr86 h

theorem cw98 (h:exW CM [0,1,4,5,9] vf98c ⟨enter [0,1,4,5,9] ar,H⟩ (finD H [(4,none)] Q)):CM 98 ar H Q:=cw vf98 rfl dr98 h

theorem cw99 (h:exW CM [0,1,2,4,10] vf99c ⟨enter [0,1,2,4,10] ar,H⟩ (finD H [(4,none)] Q)):CM 99 ar H Q:=cw vf99 rfl dr99 h

theorem cw102 (h:exW CM [0,1,2,3] vf102c ⟨enter [0,1,2,3] ar,H⟩ (finD H [(2,(some (some 2)))] Q)):CM 102 ar H Q:=cw vf102 rfl dr102 h

theorem cw103 (h:exW CM [0,1,2,3] vf103c ⟨enter [0,1,2,3] ar,H⟩ (finD H [(2,(some (some 5)))] Q)):CM 103 ar H Q:=cw vf103 rfl dr103 h

theorem cw104 (h:exW CM [0,1,2,3,4,9,15] vf104c ⟨enter [0,1,2,3,4,9,15] ar,H⟩ (finD H [(4,none)] Q)):CM 104 ar H Q:=cw vf104 rfl dr104 h

theorem cw105 (h:exW CM [0,1,2,3,4,9,14,19,24,29] vf105c ⟨enter [0,1,2,3,4,9,14,19,24,29] ar,H⟩ (finD H [(4,none)] Q)):CM 105 ar H Q:=cw vf105 rfl dr105 h

theorem cw106 (h:exW CM [0,1,4,5,7,8,9,16] vf106c ⟨enter [0,1,4,5,7,8,9,16] ar,H⟩ (finD H [(4,none)] Q)):CM 106 ar H Q:=cw vf106 rfl dr106 h

theorem cw107 (h:exW CM [0,2] vf107c ⟨enter [0,2] ar,H⟩ (finD H [(2,none)] Q)):CM 107 ar H Q:=cw vf107 rfl dr107 h

theorem cw108 (h:exW CM [0,1,4] vf108c ⟨enter [0,1,4] ar,H⟩ (finD H [(4,none)] Q)):CM 108 ar H Q:=cw vf108 rfl dr108 h

theorem cw115 (h:exW CM [0,1,4,10] vf115c ⟨enter [0,1,4,10] ar,H⟩ (finD H [(4,none)] Q)):CM 115 ar H Q:=cw vf115 rfl dr115 h

theorem cw116 (h:exW CM [0,2,3,4,11] vf116c ⟨enter [0,2,3,4,11] ar,H⟩ (finD H [(2,none)] Q)):CM 116 ar H Q:=cw vf116 rfl dr116 h

theorem cw117 (h:exW CM [0,1,4,5,10,14,26] vf117c ⟨enter [0,1,4,5,10,14,26] ar,H⟩ (finD H [(4,none)] Q)):CM 117 ar H Q:=cw vf117 rfl dr117 h

theorem cw118 (h:exW CM [0,1,4,5,7,8,9,16] vf118c ⟨enter [0,1,4,5,7,8,9,16] ar,H⟩ (finD H [(4,none)] Q)):CM 118 ar H Q:=cw vf118 rfl dr118 h

theorem cw120 (h:exW CM [0,1,2,3] vf120c ⟨enter [0,1,2,3] ar,H⟩ (finD H [(2,(some (some 2)))] Q)):CM 120 ar H Q:=cw vf120 rfl dr120 h

theorem cw121 (h:exW CM [0,1,2,3,4,9,14] vf121c ⟨enter [0,1,2,3,4,9,14] ar,H⟩ (finD H [(4,none)] Q)):CM 121 ar H Q:=cw vf121 rfl dr121 h

end
end Go.Proofs.Ytiecgmmaihckeaa.Vm
