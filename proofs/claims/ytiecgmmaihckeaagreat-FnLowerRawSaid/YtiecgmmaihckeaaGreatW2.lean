/- A part of the proof: the machine and the walks. No conditions. -/
import Derived.Test.YtiecgmmaihckeaaGreatW1
import Derived.Carry
import Derived.OpenShut
import Derived.Test.YtiecgmmaihckeaaGreatChecked
namespace Go.Proofs.YtiecgmmaihckeaaGreat.Vm
open Go.RowKit (wrap64)
set_option linter.unusedSimpArgs false
set_option linter.unusedVariables false
set_option maxRecDepth 100000
def leafTs (P:Program):Nat→TypeId→Option (List TypeId)
 | 0,_=>none
 | n+1,t =>
  match P.underlying t with
  | some (.struct fs)=>(fs.toList.mapM fun f=>leafTs P n f.type).map List.flatten
  | some _=>some [t]
  | none=>none

def Leaf (P:Program) (H:Hp) (t:TypeId) (c:CV):Prop:=∃ m,plainT P m t=true∧Ty P H m t [c]

section

variable {P:Program} {H:Hp}

theorem fields_leaves {n:Nat} {cs:List CV}
  (ih:∀ {t:TypeId} {cs:List CV} {ls:List TypeId},plainT P n t=true→Ty P H n t cs→leafTs P n t=some ls→cs.length=P.cellsOf t→cs.length=ls.length∧∀ (j:Nat) (t':TypeId) (c:CV),ls[j]? = some t'→cs[j]? = some c→Leaf P H t' c) :
  ∀ (fs:List Field) (k:Nat) (lss:List (List TypeId)),tiles P fs k cs.length=true→(∀ f∈fs,plainT P n f.type=true)→(∀ f∈fs,Ty P H n f.type ((cs.drop f.offset).take (P.cellsOf f.type))) →
   fs.mapM (fun f=>leafTs P n f.type)=some lss→(cs.drop k).length=lss.flatten.length∧∀ (j:Nat) (t':TypeId) (c:CV),lss.flatten[j]? = some t'→(cs.drop k)[j]? = some c→Leaf P H t' c:=by
 intro fs
 induction fs with
 | nil =>
  intro k lss ht _ _ hm
  simp at hm
  subst hm
  simp only[tiles,beq_iff_eq]at ht
  exact⟨by simp;omega,fun j t' c h=>by simp at h⟩
 | cons f r ihr =>
  intro k lss ht hp hty hm
  simp only[tiles,Bool.and_eq_true,beq_iff_eq]at ht
  obtain⟨ho,ht⟩:=ht
  have hle:=tiles_le ht
  simp only[List.mapM_cons,Option.pure_def,Option.bind_eq_bind,Option.bind_eq_some_iff]at hm
  obtain⟨ls,h1,lr,h2,h3⟩:=hm
  injection h3 with h3
  subst h3
  have hcl:((cs.drop f.offset).take (P.cellsOf f.type)).length=P.cellsOf f.type:=by simp;omega
  obtain⟨a1,a2⟩:=ih (hp f (by simp)) (hty f (by simp)) h1 hcl
  obtain⟨b1,b2⟩:=ihr (k+P.cellsOf f.type) lr ht (fun g hg=>hp g (by simp[hg])) (fun g hg=>hty g (by simp[hg])) h2
  rw[hcl]at a1
  simp only[List.length_drop]at b1 ⊢
  refine⟨by rw[List.flatten_cons,List.length_append];omega,fun j t' c hj hc=>?_⟩
  rw[List.flatten_cons]at hj
  rw[List.getElem?_drop]at hc
  by_cases hlt:j<ls.length
  ·rw[List.getElem?_append_left hlt]at hj
   refine a2 j t' c hj ?_
   rw[List.getElem?_take,if_pos (by omega),List.getElem?_drop,ho]
   exact hc
  ·rw[List.getElem?_append_right (by omega)]at hj
   refine b2 (j - ls.length) t' c hj ?_
   rw[List.getElem?_drop,show k+P.cellsOf f.type+(j - ls.length)=k+j by omega]
   exact hc

theorem Ty.leaves:∀ {n:Nat} {t:TypeId} {cs:List CV} {ls:List TypeId},plainT P n t=true→Ty P H n t cs→leafTs P n t=some ls→cs.length=P.cellsOf t →
  cs.length=ls.length∧∀ (j:Nat) (t':TypeId) (c:CV),ls[j]? = some t'→cs[j]? = some c→Leaf P H t' c:=by
 intro n
 induction n with
 | zero=>intro t cs ls hp;simp[plainT]at hp
 | succ n ih =>
  intro t cs ls hp hty hl hcs
  have hkeep:=hty
  have hpk:=hp
  have hone:∀ (c:CV),cs=[c]→ls=[t]→cs.length=ls.length∧∀ (j:Nat) (t':TypeId) (c:CV),ls[j]? = some t'→cs[j]? = some c→Leaf P H t' c:=by
   intro c h1 h2
   subst h1;subst h2
   refine⟨rfl,fun j t' c' hj hc=>?_⟩
   cases j with
   | zero=>simp at hj hc;subst hj;subst hc;exact⟨n+1,hpk,hkeep⟩
   | succ j=>simp at hj
  unfold plainT at hp
  unfold Ty at hty
  unfold leafTs at hl
  split at hp
  ·rename_i hu
   rw[hu]at hty hl
   obtain⟨b,rfl⟩:=hty
   injection hl with hl
   exact hone _ rfl hl.symm
  ·rename_i hu
   rw[hu]at hty hl
   obtain⟨b,rfl,_⟩:=hty
   injection hl with hl
   exact hone _ rfl hl.symm
  ·rename_i hu
   rw[hu]at hty hl
   obtain⟨b,rfl,_⟩:=hty
   injection hl with hl
   exact hone _ rfl hl.symm
  ·rename_i hu
   rw[hu]at hty hl
   obtain⟨b,rfl,_⟩:=hty
   injection hl with hl
   exact hone _ rfl hl.symm
  ·rename_i e hu
   rw[hu]at hty hl
   injection hl with hl
   rcases hty with rfl | ⟨id,len,o,rfl,_⟩
   ·exact hone _ rfl hl.symm
   ·exact hone _ rfl hl.symm
  ·rename_i fs hu
   rw[hu]at hty hl
   simp only[Bool.and_eq_true,List.all_eq_true]at hp
   simp only[Option.map_eq_some_iff]at hl
   obtain⟨lss,hm,rfl⟩:=hl
   have:=fields_leaves (P:=P) (H:=H) (n:=n) (cs:=cs) (fun h1 h2 h3 h4=>ih h1 h2 h3 h4) fs.toList 0 lss (by rw[hty.1];exact hp.1) hp.2 hty.2 hm
   simpa using this
  ·cases hp

theorem Leaf.int {t:TypeId} {c:CV} (hu:P.underlying t=some (.int .i64)) (h:Leaf P H t c):∃ m:Int,c=.i m∧-9223372036854775808≤m∧m≤9223372036854775807:=by
 obtain⟨n,hpl,h⟩:=h
 cases n with
 | zero=>exact False.elim h
 | succ n =>
  unfold Ty at h
  rw[hu]at h
  obtain⟨m,h1,h2⟩:=h
  injection h1 with h1
  exact⟨m,h1,h2⟩

theorem Leaf.byte {t:TypeId} {c:CV} (hu:P.underlying t=some (.int .u8)) (h:Leaf P H t c):∃ m:Int,c=.y m∧0≤m∧m≤255:=by
 obtain⟨n,hpl,h⟩:=h
 cases n with
 | zero=>exact False.elim h
 | succ n =>
  unfold Ty at h
  rw[hu]at h
  obtain⟨m,h1,h2⟩:=h
  injection h1 with h1
  exact⟨m,h1,h2⟩

theorem mapM_mono {α β:Type} {f g:α→Option β}:∀ {l:List α} {r:List β},(∀ a∈l,∀ b,f a=some b→g a=some b)→l.mapM f=some r→l.mapM g=some r:=by
 intro l
 induction l with
 | nil=>intro r _ h;exact h
 | cons a l ih =>
  intro r hfg h
  simp only[List.mapM_cons,Option.pure_def,Option.bind_eq_bind,Option.bind_eq_some_iff]at h ⊢
  obtain⟨b,h1,bs,h2,h3⟩:=h
  exact⟨b,hfg a (by simp) b h1,bs,ih (fun x hx=>hfg x (by simp[hx])) h2,h3⟩

theorem leafTs_succ:∀ {n:Nat} {t:TypeId} {ls:List TypeId},leafTs P n t=some ls→leafTs P (n+1) t=some ls:=by
 intro n
 induction n with
 | zero=>intro t ls h;cases h
 | succ n ih =>
  intro t ls h
  unfold leafTs at h ⊢
  split at h
  ·rename_i fs hu
   simp only[Option.map_eq_some_iff]at h ⊢
   obtain⟨lss,hm,rfl⟩:=h
   exact⟨lss,mapM_mono (fun f _ b hb=>ih hb) hm,rfl⟩
  ·rename_i hn hu;exact h
  ·cases h

theorem leafTs_le {n m:Nat} (h:n≤m) {t:TypeId} {ls:List TypeId} (hl:leafTs P n t=some ls):leafTs P m t=some ls:=by
 obtain⟨k,rfl⟩:=Nat.le.dest h
 induction k with
 | zero=>exact hl
 | succ k ih=>exact leafTs_succ (ih (by omega))

theorem leafTs_uniq {n m:Nat} {t:TypeId} {ls ls':List TypeId} (h:leafTs P n t=some ls) (h':leafTs P m t=some ls'):ls=ls':=by
 have a:=leafTs_le (Nat.le_max_left n m) h
 have b:=leafTs_le (Nat.le_max_right n m) h'
 rw[a]at b;injection b

theorem mapM_some {α β:Type} {f:α→Option β}:∀ {l:List α},(∀ a∈l,∃ b,f a=some b)→∃ r,l.mapM f=some r:=by
 intro l
 induction l with
 | nil=>intro _;exact⟨[],rfl⟩
 | cons a l ih =>
  intro h
  obtain⟨b,hb⟩:=h a (by simp)
  obtain⟨r,hr⟩:=ih (fun x hx=>h x (by simp[hx]))
  exact⟨b :: r,by simp[List.mapM_cons,hb,hr]⟩

theorem plain_leaf:∀ {n:Nat} {t:TypeId},plainT P n t=true→∃ ls,leafTs P n t=some ls:=by
 intro n
 induction n with
 | zero=>intro t h;simp[plainT]at h
 | succ n ih =>
  intro t h
  unfold plainT at h
  unfold leafTs
  split at h<;>first | (cases h;done) | skip
  ·rename_i hu;rw[hu];exact⟨_,rfl⟩
  ·rename_i hu;rw[hu];exact⟨_,rfl⟩
  ·rename_i hu;rw[hu];exact⟨_,rfl⟩
  ·rename_i hu;rw[hu];exact⟨_,rfl⟩
  ·rename_i e hu;rw[hu];exact⟨_,rfl⟩
  ·rename_i fs hu
   rw[hu]
   simp only[Bool.and_eq_true,List.all_eq_true]at h
   obtain⟨r,hr⟩:=mapM_some (f:=fun (f:Field)=>leafTs P n f.type) (l:=fs.toList) (fun f hf=>ih (h.2 f hf))
   exact⟨r.flatten,by simp only[hr];rfl⟩

theorem Leaf.row {t e:TypeId} {c:CV} {ls:List TypeId} (hu:P.underlying t=some (.slice e)) {m:Nat} (hls:leafTs P m e=some ls) (h:Leaf P H t c) :
  ∃ (n:Nat) (css:List (List CV)),n=css.length∧n≤maxLen∧Sl H (P.cellsOf e) c n css.flatten∧∀ cs∈css,cs.length=ls.length∧cs.length=P.cellsOf e∧∀ (j:Nat) (t':TypeId) (c:CV),ls[j]? = some t'→cs[j]? = some c→Leaf P H t' c:=by
 obtain⟨n,hpl,h⟩:=h
 cases n with
 | zero=>exact False.elim h
 | succ n =>
  unfold Ty at h
  rw[hu]at h
  rcases h with h | ⟨id,len,o,h1,h2,h3,h4,h5,h6,h7,h8⟩
  ·injection h with h
   subst h
   exact⟨0,[],rfl,by simp,.inl ⟨rfl,rfl,rfl⟩,by simp⟩
  ·injection h1 with h1
   subst h1
   rw[h5]at h6 h8
   have hlen:∀ i,i<len→((o.cells.drop (i * P.cellsOf e)).take (P.cellsOf e)).length=P.cellsOf e:=by
    intro i hi
    have:(i+1) * P.cellsOf e≤len * P.cellsOf e:=Nat.mul_le_mul_right _ hi
    rw[Nat.succ_mul]at this
    rw[List.length_take,List.length_drop];omega
   refine⟨len,(List.range len).map fun i=>(o.cells.drop (i * P.cellsOf e)).take (P.cellsOf e),by simp,h7,.inr ⟨id,0,0,o,rfl,rdOb_some.2 ⟨h2,h3⟩,h5,by omega,?_⟩,?_⟩
   ·have key:∀ k,k≤len→((List.range k).map fun i=>(o.cells.drop (i * P.cellsOf e)).take (P.cellsOf e)).flatten=o.cells.take (k * P.cellsOf e):=by
     intro k
     induction k with
     | zero=>intro _;simp
     | succ k ihk =>
      intro hk
      rw[List.range_succ,List.map_append,List.flatten_append,ihk (by omega),Nat.succ_mul,List.take_add]
      simp
    rw[List.drop_zero]
    exact (key len (Nat.le_refl _)).symm
   ·intro cs hcs
    rw[List.mem_map]at hcs
    obtain⟨i,hi,rfl⟩:=hcs
    rw[List.mem_range]at hi
    have hty:=h8 i hi
    have hpn:plainT P n e=true:=by
     unfold plainT at hpl
     rw[hu]at hpl
     simp only[Bool.and_eq_true]at hpl
     exact hpl.2
    obtain⟨ls',hls'⟩:=plain_leaf hpn
    obtain rfl:=leafTs_uniq hls hls'
    obtain⟨g1,g2⟩:=Ty.leaves hpn hty hls' (hlen i hi)
    exact⟨g1,hlen i hi,g2⟩

theorem Ty.len {n:Nat} {t:TypeId} {cs:List CV} (hp:plainT P n t=true) (h:Ty P H n t cs):cs.length=P.cellsOf t:=by
 cases n with
 | zero=>simp[plainT]at hp
 | succ n =>
  unfold plainT at hp
  unfold Ty at h
  split at hp
  ·rename_i hu;rw[hu]at h;obtain⟨b,rfl⟩:=h;simp at hp;simp[hp]
  ·rename_i hu;rw[hu]at h;obtain⟨b,rfl,_⟩:=h;simp at hp;simp[hp]
  ·rename_i hu;rw[hu]at h;obtain⟨b,rfl,_⟩:=h;simp at hp;simp[hp]
  ·rename_i hu;rw[hu]at h;obtain⟨b,rfl,_⟩:=h;simp at hp;simp[hp]
  ·rename_i e hu
   rw[hu]at h
   simp only[Bool.and_eq_true,beq_iff_eq]at hp
   rcases h with rfl | ⟨id,len,o,rfl,_⟩<;>simp[hp.1.1]
  ·rename_i fs hu;rw[hu]at h;exact h.1
  ·cases hp

theorem ArgTy.agg {n:Nat} {t:TypeId} {ls:List TypeId} {iv:IV} (hp:plainT P n t=true) (ha:aggOf P t=some true) (hl:leafTs P n t=some ls) (h:ArgTy P H n t iv) :
  ∃ cvs,iv=.agg cvs∧cvs.length=ls.length∧∀ (j:Nat) (t':TypeId) (c:CV),ls[j]? = some t'→cvs[j]? = some c→Leaf P H t' c:=by
 obtain⟨cvs,h1,h2⟩:=h
 rcases h2 with⟨_,rfl⟩ | ⟨h2,_⟩
 ·obtain⟨g1,g2⟩:=Ty.leaves hp h1 hl (Ty.len hp h1)
  exact⟨cvs,rfl,g1,g2⟩
 ·rw[ha]at h2;cases h2

theorem ArgTy.one {n:Nat} {t:TypeId} {iv:IV} (hp:plainT P n t=true) (ha:aggOf P t=some false) (h:ArgTy P H n t iv):∃ c,iv=.c c∧Leaf P H t c:=by
 obtain⟨cvs,h1,h2⟩:=h
 rcases h2 with⟨h2,_⟩ | ⟨_,c,rfl,rfl⟩
 ·rw[ha]at h2;cases h2
 ·exact⟨c,rfl,n,hp,h1⟩

theorem ArgsTy.nil_inv {n:Nat} {ivs:List IV} (h:ArgsTy P H n [] ivs):ivs=[]:=by
 cases ivs with
 | nil=>rfl
 | cons a r=>exact False.elim h

theorem ArgsTy.cons_inv {n:Nat} {t:TypeId} {ts:List TypeId} {ivs:List IV} (h:ArgsTy P H n (t :: ts) ivs):∃ iv r,ivs=iv :: r∧ArgTy P H n t iv∧ArgsTy P H n ts r:=by
 cases ivs with
 | nil=>exact False.elim h
 | cons a r=>exact⟨a,r,rfl,h.1,h.2⟩

end
section
open Go.RowKit (wrap64 Below)

open Go.ChangeShapes Go.WideShapes Go.RowKit



def AllOk (P:Program):List (Nat×VF)→Prop
 | []=>True
 | p :: r=>(∃ fn,P.funcs[p.1]? = some fn∧chkF P fn p.2=true)∧AllOk P r

theorem okCode_of {P:Program}:∀ {tab:List (Nat×VF)},AllOk P tab→OkCode P fun n=>tab.lookup n:=by
 intro tab
 induction tab with
 | nil=>intro _ f vf h;cases h
 | cons p r ih =>
  intro h f vf hf
  obtain⟨k,v⟩:=p
  simp only[List.lookup]at hf
  by_cases e:f=k
  ·subst e
   simp only[beq_self_eq_true]at hf
   injection hf with hf;subst hf
   exact h.1
  ·have:(f == k)=false:=by simpa using e
   rw[this]at hf
   exact ih h.2 f vf hf

section

variable {Q:Type} {enc:TypeId×Value→Q} {P:Program}

theorem calls_law {M:Code} {X0:OrD} (hm:P.follows .mixedOrders=true) (hM:OkCode P M) (hX:∀ w0,OrdSim P w0 X0) {f:FuncId} {n:Nat} {ts:List TypeId} (hp:∀ t∈ts,plainT P n t=true)
  (law:∀ (H:Hp) (ivs:List IV),(∀ o∈H,o.rw=false)→ArgsTy P H n ts ivs→callD M X0 f ivs H fun r=>r.1=.c (.b true))
  {W:World} {base:Nat} {args:Array Value} {ds:List (DataW Q)} {ps:List MemPlace}
  (hv:∀ (j:Nat) (t:TypeId) (v:Value),ts[j]? = some t→args[j]? = some v→Value.okWide P W .any base t v)
  (hA:DataW.TrodAll enc P W 0 (fun _=>true) true ts args.toList ds ps) :
  Calls P f args W fun e W'=>e=.returned (.bool true)∧Below W.heap.size W W':=by
 obtain⟨ρ,Y,ivs,hI,_,hR,hw,hT⟩:=open_args (Q:=Q) (enc:=enc) ts args.toList ds ps (fun _=>(⟨0,0,none⟩,0)) [] hp (fun j t v ht hj=>.inr ⟨base,hv j t v ht (by simpa using hj)⟩) hA (Ini.nil _ _)
 have hc:=law _ ivs hI.2 hT
 obtain⟨_,hcalls⟩:=callD_sim (w0:=W) hm hM (hX W) f ivs _ _ hc
 have:=hcalls ρ W args.toList hI.1 hR hw
 rw[Array.toArray_toList]at this
 refine Calls.mono this ?_
 rintro e W' ⟨⟨iv,H'⟩,hiv,ρ',v,rfl,h1,h2,h3,h4⟩
 simp only at hiv
 subst hiv
 have hv:v=.bool true:=h1
 subst hv
 exact⟨rfl,h3.bel⟩

theorem all_below (hl:laidOutB P=true) {W W':World} (hb:Below W.heap.size W W'):∀ {ts:List TypeId} {vs:List Value} {ds:List (DataW Q)} {ps:List MemPlace},(∀ t∈ts,P.readableRec t=true∧t<P.types.size) →
  DataW.TrodAll enc P W 0 (fun _=>true) true ts vs ds ps→DataW.TrodAll enc P W' 0 (fun b=>decide (b<W.heap.size)) true ts vs ds ps:=by
 intro ts
 induction ts with
 | nil =>
  intro vs ds ps _ h
  cases vs<;>cases ds<;>first | exact h | (simp[DataW.TrodAll]at h)
 | cons t ts ih =>
  intro vs ds ps hp h
  cases vs with
  | nil=>simp[DataW.TrodAll]at h
  | cons v vs =>
   cases ds with
   | nil=>simp[DataW.TrodAll]at h
   | cons d ds =>
    simp only[DataW.TrodAll]at h ⊢
    obtain⟨p,q,h1,h2,h3⟩:=h
    obtain⟨hr,hlt⟩:=hp t (by simp)
    refine⟨p,q,Below.trod hl hr hlt h1 hb ?_,ih (fun t ht=>hp t (by simp[ht])) h2,h3⟩
    obtain⟨m,hm⟩:=h1
    exact DataW.trod_lt m _ _ _ hm

end
end
@[simp] theorem rdOb_r (H L:Hp) (k g:Nat):rdOb (H++L) (H.length+k) g=rdOb L k g:=rdOb_right

@[simp] theorem rdOb_r0 (H L:Hp) (g:Nat):rdOb (H++L) H.length g=rdOb L 0 g:=by have:=@rdOb_right H L 0 g;simpa using this

@[simp] theorem rdOb_c0 (o:Ob) (L:Hp) (g:Nat):rdOb (o :: L) 0 g=if o.g=g then some o else none:=by unfold rdOb;simp

@[simp] theorem rdOb_cs (o:Ob) (L:Hp) (k g:Nat):rdOb (o :: L) (k+1) g=rdOb L k g:=by unfold rdOb;simp

@[simp] theorem set_r (H L:Hp) (k:Nat) (o:Ob):(H++L).set (H.length+k) o=H++L.set k o:=set_right

@[simp] theorem set_r0 (H L:Hp) (o:Ob):(H++L).set H.length o=H++L.set 0 o:=by rw[List.set_append_right _ _ (Nat.le_refl _),Nat.sub_self]

theorem gc_flat (H L:Hp) {r:IV} (h:flatV r=true):gcRet H r (H++L)=(r,H):=gcRet_flat ⟨L,rfl⟩ h

theorem gc_same (H:Hp) {r:IV} (h:flatV r=true):gcRet H r H=(r,H):=gcRet_flat (Pre.refl H) h

@[simp] theorem gc_same_b (H:Hp) (x:Bool):gcRet H (.c (.b x)) H=(.c (.b x),H):=gc_same H rfl

@[simp] theorem gc_flat_b (H L:Hp) (x:Bool):gcRet H (.c (.b x)) (H++L)=(.c (.b x),H):=gc_flat H L rfl

@[simp] theorem gc_same_i (H:Hp) (x:Int):gcRet H (.c (.i x)) H=(.c (.i x),H):=gc_same H rfl

@[simp] theorem gc_flat_i (H L:Hp) (x:Int):gcRet H (.c (.i x)) (H++L)=(.c (.i x),H):=gc_flat H L rfl

@[simp] theorem gc_same_y (H:Hp) (x:Int):gcRet H (.c (.y x)) H=(.c (.y x),H):=gc_same H rfl

@[simp] theorem gc_flat_y (H L:Hp) (x:Int):gcRet H (.c (.y x)) (H++L)=(.c (.y x),H):=gc_flat H L rfl

@[simp] theorem gc_same_s (H:Hp) (x:ByteArray):gcRet H (.c (.s x)) H=(.c (.s x),H):=gc_same H rfl

@[simp] theorem gc_flat_s (H L:Hp) (x:ByteArray):gcRet H (.c (.s x)) (H++L)=(.c (.s x),H):=gc_flat H L rfl

@[simp] theorem gc_same_ns (H:Hp) :gcRet H (.c .ns) H=(.c .ns,H):=gc_same H rfl

@[simp] theorem gc_flat_ns (H L:Hp) :gcRet H (.c .ns) (H++L)=(.c .ns,H):=gc_flat H L rfl

theorem gc_len {H H':Hp} {r:IV} (hl:H'.length=H.length) (hf:flatV r=true):gcRet H r H'=(r,H'):=by
 by_cases h:H'.take H.length=H
 ·rw[← hl,List.take_length]at h
  subst h
  exact gc_same _ hf
 ·unfold gcRet;rw[if_neg h]

theorem gc_row (H L:Hp) {k g len:Nat} {o:Ob} (ho:rdOb L k g=some o) (hrw:o.rw=true) (hf:o.cells.all flatC=true) :
  gcRet H (.c (.sl (H.length+k) g 0 len)) (H++L)=(.c (.sl H.length 0 0 len),H++[{ o with g:=0 }]):=
 gcRet_row ⟨L,rfl⟩ (by omega) (by rw[rdOb_right];exact ho) hrw hf


def IsI (H:Hp) (v:CV) (xs:List Int):Prop:=Sl H 1 v xs.length (xs.map .i)

theorem IsI.cases {H:Hp} {v:CV} {xs:List Int} (h:IsI H v xs):(v=.ns∧xs=[])∨∃ id g off o,v=.sl id g off xs.length∧rdOb H id g=some o∧o.sz=1∧off+xs.length≤o.cells.length ∧
  ∀ (k:Nat) (hk:k<xs.length),o.cells[off+k]? = some (.i xs[k]):=by
 rcases h with⟨h1,h2,h3⟩ | ⟨id,g,off,o,h1,h2,h3,h4,h5⟩
 ·exact .inl ⟨h1,List.eq_nil_of_length_eq_zero h2⟩
 ·refine .inr ⟨id,g,off,o,h1,h2,h3,by omega,fun k hk=>?_⟩
  have h6:((o.cells.drop off).take (xs.length * 1))[k]? = (xs.map CV.i)[k]?:=by rw[h5]
  rw[List.getElem?_take,if_pos (by omega),List.getElem?_drop,List.getElem?_map,List.getElem?_eq_getElem hk]at h6
  exact h6

theorem IsI.pre {H X:Hp} (hp:Pre H X) {v:CV} {xs:List Int} (h:IsI H v xs):IsI X v xs:=Sl.pre hp h

theorem IsI.app {H:Hp} (Y:Hp) {v:CV} {xs:List Int} (h:IsI H v xs):IsI (H++Y) v xs:=h.pre ⟨Y,rfl⟩

theorem IsI.ns (H:Hp):IsI H .ns []:=.inl ⟨rfl,rfl,rfl⟩

theorem IsI.mk {H:Hp} {id g off:Nat} {o:Ob} {xs:List Int} (h:rdOb H id g=some o) (hs:o.sz=1) (hl:off+xs.length≤o.cells.length) (hc:(o.cells.drop off).take xs.length=xs.map .i):IsI H (.sl id g off xs.length) xs:=
 .inr ⟨id,g,off,o,rfl,h,hs,by omega,by rw[Nat.mul_one];exact hc⟩
def Od.nums:Od→List Nat
 | .t n=>[n]
 | .k _=>[]

def opnds:VOp→List Nat
 | .mv x | .box x | .nilc x | .shk _ _ x | .eqn _ x | .not x | .b2i x | .s2b x | .mks _ _ x | .fad _ x | .ext _ x | .len x | .lens x | .clr _ _ x | .ld _ x=>x.nums
 | .pick c a b=>c.nums++a.nums++b.nums
 | .alloc _=>[]
 | .build _ ps=>ps.flatMap fun p=>p.2.2.nums
 | .bsl _ _ _ ps=>ps.flatMap fun p=>p.2.2.nums
 | .st _ x y | .bin _ x y | .eqa _ _ x y | .eqb _ x y | .idx _ x y | .app _ x y | .mn x y | .mx x y=>x.nums++y.nums
 | .bck x y z u=>x.nums++y.nums++z.nums++u.nums
 | .slc _ x lo hi=>x.nums++(lo.map Od.nums).getD []++(hi.map Od.nums).getD []
 | .mkf _ xs=>xs.flatMap Od.nums
 | .call _ xs=>xs.flatMap Od.nums
 | .clv x xs=>x.nums++xs.flatMap Od.nums

def reads (vo:VO):List Nat:=opnds vo.o++(match vo.gd with | some (s,_)=>[s] | none=>[])

theorem od_congr {e e':Env} {x:Od} (h:∀ n∈x.nums,Env.get e n=Env.get e' n):x.get e=x.get e':=by
 cases x with
 | t n=>exact h n (by simp[Od.nums])
 | k v=>rfl

theorem ods_congr {e e':Env}:∀ {xs:List Od},(∀ n∈xs.flatMap Od.nums,Env.get e n=Env.get e' n)→xs.map (Od.get e)=xs.map (Od.get e'):=by
 intro xs
 induction xs with
 | nil=>intro _;rfl
 | cons x xs ih =>
  intro h
  simp only[List.map_cons]
  rw[od_congr (e':=e') (fun n hn=>h n (by simp[hn])),ih (fun n hn=>h n (by rw[List.flatMap_cons];exact List.mem_append.2 (.inr hn)))]

theorem parts_congr {e e':Env}:∀ {xs:List (Nat×Nat×Od)},(∀ n∈xs.flatMap (fun p=>p.2.2.nums),Env.get e n=Env.get e' n)→partsOf e xs=partsOf e' xs:=by
 intro xs
 induction xs with
 | nil=>intro _;rfl
 | cons x xs ih =>
  intro h
  obtain⟨a,b,x⟩:=x
  simp only[partsOf]
  rw[od_congr (e':=e') (fun n hn=>h n (by simp[hn])),ih (fun n hn=>h n (by rw[List.flatMap_cons];exact List.mem_append.2 (.inr hn)))]

theorem caps_congr {e e':Env}:∀ {xs:List Od},(∀ n∈xs.flatMap Od.nums,Env.get e n=Env.get e' n)→capsOf e xs=capsOf e' xs:=by
 intro xs
 induction xs with
 | nil=>intro _;rfl
 | cons x xs ih =>
  intro h
  simp only[capsOf]
  rw[od_congr (e':=e') (fun n hn=>h n (by simp[hn])),ih (fun n hn=>h n (by rw[List.flatMap_cons];exact List.mem_append.2 (.inr hn)))]

theorem step_congr {K:Orc} {e e':Env} {H:Hp} {o:VOp} (h:∀ n∈opnds o,Env.get e n=Env.get e' n):stepV K e H o=stepV K e' H o:=by
 cases o with
 | alloc zs=>rfl
 | build zs ps=>simp only[stepV];rw[parts_congr h]
 | bsl sz zs n ps=>simp only[stepV];rw[parts_congr h]
 | mkf f xs=>simp only[stepV];rw[caps_congr h]
 | call f xs=>simp only[stepV];rw[ods_congr h]
 | clv x xs =>
  simp only[stepV]
  rw[od_congr (e':=e') (fun n hn=>h n (by simp[opnds,hn])),ods_congr (e':=e') (fun n hn=>h n (by unfold opnds;exact List.mem_append.2 (.inr hn)))]
 | ld n x =>
  have:=od_congr (e':=e') (fun m hm=>h m (by simp[opnds,hm]):∀ m∈x.nums,Env.get e m=Env.get e' m)
  cases n<;>simp only[stepV,this]
 | slc sz x lo hi =>
  have h1:=od_congr (e':=e') (fun m hm=>h m (by simp[opnds,hm]):∀ m∈x.nums,Env.get e m=Env.get e' m)
  have h2:lo.map (Od.get e)=lo.map (Od.get e'):=by
   cases lo with
   | none=>rfl
   | some y=>simp only[Option.map_some];rw[od_congr (e':=e') (fun m hm=>h m (by simp[opnds,hm]))]
  have h3:hi.map (Od.get e)=hi.map (Od.get e'):=by
   cases hi with
   | none=>rfl
   | some y=>simp only[Option.map_some];rw[od_congr (e':=e') (fun m hm=>h m (by simp[opnds,hm]))]
  simp only[stepV,h1,h2,h3]
 | pick c a b =>
  simp only[stepV]
  rw[od_congr (x:=c) (e':=e') (fun n hn=>h n (by simp[opnds,hn])),od_congr (x:=a) (e':=e') (fun n hn=>h n (by simp[opnds,hn])),od_congr (x:=b) (e':=e') (fun n hn=>h n (by simp[opnds,hn]))]
 | bck x y z u =>
  simp only[stepV]
  rw[od_congr (x:=x) (e':=e') (fun n hn=>h n (by simp[opnds,hn])),od_congr (x:=y) (e':=e') (fun n hn=>h n (by simp[opnds,hn])),od_congr (x:=z) (e':=e') (fun n hn=>h n (by simp[opnds,hn])),od_congr (x:=u) (e':=e') (fun n hn=>h n (by simp[opnds,hn]))]
 | st n x y | bin o x y | eqa n g x y | eqb g x y | idx sz x y | app sz x y | mn x y | mx x y =>
  simp only[stepV]
  rw[od_congr (x:=x) (e':=e') (fun n hn=>h n (by simp[opnds,hn])),od_congr (x:=y) (e':=e') (fun n hn=>h n (by simp[opnds,hn]))]
 | mv x | box x | nilc x | shk l n x | eqn g x | not x | b2i x | s2b x | mks sz zs x | fad o x | ext k x | len x | lens x | clr sz zs x =>
  simp only[stepV]
  rw[od_congr (x:=x) (e':=e') (fun n hn=>h n (by simp[opnds,hn]))]

theorem get_setD {e:Env} {d:Option Nat} {v:IV} {n:Nat}:Env.get (setD e d v) n=if d=some n then v else Env.get e n:=by
 cases d with
 | none=>simp[setD]
 | some m=>simp[setD,Env.get]

def ancB (ops:List VO):Nat→Nat→Nat→Bool
 | 0,_,_=>false
 | f+1,i,j=>match ops[i]? with
  | none=>false
  | some o=>o.dp.contains j || o.dp.any fun k=>ancB ops f k j

theorem mem_ready {ops:List VO} {listed:List Bool} {i:Nat} (h:i∈readyV ops listed):∃ o,ops[i]? = some o∧listed.getD i true=false∧∀ j∈o.dp,listed.getD j false=true:=by
 unfold readyV at h
 rw[List.mem_filter]at h
 obtain⟨h1,h2⟩:=h
 rw[List.mem_range]at h1
 simp only[Bool.and_eq_true,Bool.not_eq_true']at h2
 rw[List.getElem?_eq_getElem h1]at h2
 simp only[Option.map_some,Option.getD_some,List.all_eq_true]at h2
 exact⟨_,List.getElem?_eq_getElem h1,h2.1,h2.2⟩

theorem anc_listed {ops:List VO} {listed:List Bool} (hcl:∀ (i:Nat) (o:VO),ops[i]? = some o→listed.getD i false=true→∀ j∈o.dp,listed.getD j false=true) :
  ∀ (f i j:Nat) (o:VO),ops[i]? = some o→(∀ k∈o.dp,listed.getD k false=true)→ancB ops f i j=true→listed.getD j false=true:=by
 intro f
 induction f with
 | zero=>intro i j o _ _ h;cases h
 | succ f ih =>
  intro i j o ho hdp h
  simp only[ancB,ho,Bool.or_eq_true,List.contains_eq_mem,decide_eq_true_eq,List.any_eq_true]at h
  rcases h with h | ⟨k,hk,h⟩
  ·exact hdp j h
  ·cases hok:ops[k]? with
   | none=>cases f<;>simp[ancB,hok]at h
   | some o'=>exact ih k j o' hok (hcl k o' hok (hdp k hk)) h

theorem stepD_congr {K:OrD} {e e':Env} {H:Hp} {o:VOp} {Q:IV×Hp→Prop} (h:∀ n∈opnds o,Env.get e n=Env.get e' n) (hs:stepD K e H o Q):stepD K e' H o Q:=by
 by_cases h1:∃ f az,o=.call f az
 ·obtain⟨f,az,rfl⟩:=h1
  simp only[stepD]at hs ⊢
  rw[← ods_congr h];exact hs
 ·by_cases h2:∃ x az,o=.clv x az
  ·obtain⟨x,az,rfl⟩:=h2
   simp only[stepD]at hs ⊢
   rw[← od_congr (x:=x) (e:=e) (fun n hn=>h n (by simp[opnds,hn])),← ods_congr (e:=e) (fun n hn=>h n (by unfold opnds;exact List.mem_append.2 (.inr hn)))]
   exact hs
  ·unfold stepD at hs ⊢
   split at hs
   ·exact (h1 ⟨_,_,rfl⟩).elim
   ·exact (h2 ⟨_,_,rfl⟩).elim
   ·rw[← step_congr h];exact hs

theorem runOpD_congr {K:OrD} (hm:MonoK K) {vo:VO} {e e':Env} {H:Hp} {k k':St→Prop} (h:∀ n∈reads vo,Env.get e n=Env.get e' n)
  (hk:∀ v H',k ⟨setD e vo.d v,H'⟩→k' ⟨setD e' vo.d v,H'⟩) (hr:runOpD K vo ⟨e,H⟩ k):runOpD K vo ⟨e',H⟩ k':=by
 have ho:∀ n∈opnds vo.o,Env.get e n=Env.get e' n:=fun n hn=>h n (by simp[reads,hn])
 obtain⟨d,o,gd,dp,ck,rc⟩:=vo
 cases gd with
 | none=>exact stepD_le hm.le (fun r=>hk r.1 r.2) (stepD_congr ho hr)
 | some p =>
  obtain⟨g,w⟩:=p
  have hg:Env.get e g=Env.get e' g:=h g (by simp[reads])
  simp only[runOpD]at hr ⊢
  rw[← hg]
  split at hr
  ·split at hr
   ·rename_i hc;rw[if_pos hc];exact stepD_le hm.le (fun r=>hk r.1 r.2) (stepD_congr ho hr)
   ·rename_i hc;rw[if_neg hc];exact hk _ _ hr
  ·exact hk _ _ hr
  ·exact hr

def isE:VOp→Bool
 | .alloc _ | .box _ | .bsl .. | .s2b _ | .mks .. | .call .. | .clv .. | .app .. | .st .. | .clr ..=>true
 | _=>false

def isR:VOp→Bool
 | .ld .. | .slc ..=>true
 | _=>false

def rdv (e:Env):VOp→CV
 | .ld _ a=>match a.get e with
  | .c v=>v
  | _=>.non
 | .slc _ x _ _=>match x.get e with
  | .c v=>v
  | _=>.non
 | _=>.non

def sameAt (v:CV) (H H':Hp):Prop:=
 match v with
 | .p id g _=>rdOb H' id g=rdOb H id g
 | .sl id g _ _=>rdOb H' id g=rdOb H id g
 | _=>True

theorem sameAt.symm {v:CV} {H H':Hp} (h:sameAt v H H'):sameAt v H' H:=by
 cases v<;>first | exact trivial | exact Eq.symm h

theorem sameAt.trans {v:CV} {H H' H'':Hp} (h:sameAt v H H') (k:sameAt v H' H''):sameAt v H H'':=by
 cases v<;>first | exact trivial | exact Eq.trans k h

theorem rdv_pure {e:Env} {o:VOp} (h:isR o=false):rdv e o=.non:=by
 cases o<;>first | rfl | (simp[isR]at h)

theorem rdv_congr {e e':Env} {o:VOp} (h:∀ n∈opnds o,Env.get e n=Env.get e' n):rdv e o=rdv e' o:=by
 cases o<;>first | rfl | skip
 ·rename_i n a
  simp only[rdv];rw[od_congr (e':=e') (fun m hm=>h m (by simp[opnds,hm]))]
 ·rename_i sz x lo hi
  simp only[rdv];rw[od_congr (e':=e') (fun m hm=>h m (by simp[opnds,hm]))]

theorem det_step {e:Env} {H H':Hp} {o:VOp} (ho:isE o=false) (hs:sameAt (rdv e o) H H'):stepV noK e H' o=(stepV noK e H o).map fun r=>(r.1,H'):=by
 cases o<;>first | (simp[isE]at ho;done) | skip
 case ld n a =>
  cases n with
  | none =>
   simp only[stepV,rdv]at hs ⊢
   split
   ·rename_i id g off hu
    rw[hu]at hs
    have hs:rdOb H' id g=rdOb H id g:=hs
    simp only[hs]
    cases rdOb H id g with
    | none=>rfl
    | some o=>simp only[Option.bind_some];cases o.cells[off]?<;>rfl
   ·rfl
  | some n =>
   simp only[stepV,rdv]at hs ⊢
   split
   ·rename_i id g off hu
    rw[hu]at hs
    have hs:rdOb H' id g=rdOb H id g:=hs
    simp only[hs]
    cases rdOb H id g with
    | none=>rfl
    | some o=>simp only[Option.bind_some];split<;>rfl
   ·rfl
 case slc sz x lo hi =>
  simp only[stepV,rdv]at hs ⊢
  split
  ·rename_i v hu
   rw[hu]at hs
   have hd:doSlice H' sz v (lo.map (Od.get e)) (hi.map (Od.get e))=doSlice H sz v (lo.map (Od.get e)) (hi.map (Od.get e)):=by
    cases v<;>first | rfl | skip
    rename_i id g off len
    have hs:rdOb H' id g=rdOb H id g:=hs
    simp only[doSlice,hs]
   rw[hd]
   cases doSlice H sz v (lo.map (Od.get e)) (hi.map (Od.get e))<;>rfl
  ·rfl
 case mv x=>rfl
 case pick c a b=>simp only[stepV];split<;>rfl
 case build zs ps =>
  simp only[stepV]
  cases partsOf e ps with
  | none=>rfl
  | some qs=>simp only[Option.bind_some];cases lay zs qs<;>rfl
 case nilc x=>simp only[stepV];split<;>rfl
 case bin o x y =>
  simp only[stepV]
  split
  ·rename_i a b _ _;cases evalBin o a b<;>rfl
  ·rfl
 case shk l n x =>
  simp only[stepV]
  split
  ·split<;>rfl
  ·rfl
 case bck x lo hi mx =>
  simp only[stepV]
  split
  ·split<;>rfl
  ·rfl
 case eqa n neg x y =>
  simp only[stepV]
  split
  ·split<;>rfl
  ·rfl
 case eqb neg x y=>simp only[stepV];split<;>rfl
 case eqn neg x=>simp only[stepV];split<;>rfl
 case not x=>simp only[stepV];split<;>rfl
 case b2i x=>simp only[stepV];split<;>rfl
 case fad off x=>simp only[stepV];split<;>rfl
 case idx sz x i =>
  simp only[stepV]
  split
  ·split<;>rfl
  ·rfl
 case ext k x =>
  simp only[stepV]
  split
  ·rename_i xs _
   cases xs[k]? with
   | none=>rfl
   | some t=>simp only[Option.bind_some];cases ivOf t<;>rfl
  ·rfl
 case mkf f caps=>simp only[stepV];cases capsOf e caps<;>rfl
 case len x=>simp only[stepV];split<;>rfl
 case lens x=>simp only[stepV];split<;>rfl
 case mn x y=>simp only[stepV];split<;>rfl
 case mx x y=>simp only[stepV];split<;>rfl

def valO (vo:VO) (e:Env) (H:Hp):Option IV:=
 match vo.gd with
 | none=>(stepV noK e H vo.o).map (·.1)
 | some (s,w)=>match Env.get e s with
  | .c (.b x)=>if x=w then (stepV noK e H vo.o).map (·.1) else some (.c .und)
  | .c .und=>some (.c .und)
  | _=>none

theorem detD {K:OrD} {vo:VO} {e:Env} {H:Hp} {k:St→Prop} (ho:isE vo.o=false):runOpD K vo ⟨e,H⟩ k↔∃ v,valO vo e H=some v∧k ⟨setD e vo.d v,H⟩:=by
 have hst:∀ Q:IV×Hp→Prop,stepD K e H vo.o Q↔∃ v,(stepV noK e H vo.o).map (·.1)=some v∧Q (v,H):=by
  intro Q
  have h2:∀ r,stepV noK e H vo.o=some r→r.2=H:=by
   intro r hr
   have:=det_step (e:=e) (H:=H) (H':=H) ho (by cases rdv e vo.o<;>first | exact trivial | exact rfl)
   rw[hr]at this
   simp only[Option.map_some,Option.some.injEq]at this
   rw[this]
  have h3:stepD K e H vo.o Q=WP (stepV noK e H vo.o) Q:=by
   unfold stepD
   split
   ·rename_i h;rw[h]at ho;simp[isE]at ho
   ·rename_i h;rw[h]at ho;simp[isE]at ho
   ·rfl
  rw[h3]
  constructor
  ·rintro⟨⟨v,H'⟩,h4,h5⟩
   have:=h2 _ h4
   simp only at this
   subst this
   exact⟨v,by rw[h4];rfl,h5⟩
  ·rintro⟨v,h4,h5⟩
   rw[Option.map_eq_some_iff]at h4
   obtain⟨⟨v',H'⟩,h6,h7⟩:=h4
   have:=h2 _ h6
   simp only at this h7
   subst this;subst h7
   exact⟨_,h6,h5⟩
 unfold runOpD valO
 cases hg:vo.gd with
 | none=>exact hst _
 | some p =>
  obtain⟨s,w⟩:=p
  simp only
  cases hgs:Env.get e s with
  | c v =>
   cases v with
   | b x =>
    by_cases hc:x=w
    ·simp only[if_pos hc];exact hst _
    ·simp only[if_neg hc];simp
   | _=>simp
  | _=>simp

theorem valO_congr {vo:VO} {e e':Env} {H:Hp} (h:∀ n∈reads vo,Env.get e n=Env.get e' n):valO vo e H=valO vo e' H:=by
 have ho:∀ n∈opnds vo.o,Env.get e n=Env.get e' n:=fun n hn=>h n (by simp[reads,hn])
 obtain⟨d,o,gd,dp,ck,rc⟩:=vo
 cases gd with
 | none=>simp only[valO];rw[step_congr ho]
 | some p =>
  obtain⟨g,w⟩:=p
  have hg:Env.get e g=Env.get e' g:=h g (by simp[reads])
  simp only[valO]
  rw[hg,step_congr ho]

theorem valO_same {vo:VO} {e:Env} {H H':Hp} (ho:isE vo.o=false) (hs:sameAt (rdv e vo.o) H H'):valO vo e H'=valO vo e H:=by
 have h1:(stepV noK e H' vo.o).map (·.1)=(stepV noK e H vo.o).map (·.1):=by
  rw[det_step ho hs,Option.map_map];rfl
 unfold valO
 rw[h1]

def runL (K:OrD) (cx:Nat→Nat→Bool):List (Nat×VO)→List (Nat×CV)→List (Nat×Hp)→St→(St→Prop)→Prop
 | [],_,_,st,k=>k st
 | p :: r,rs,es,st,k =>
  if isE p.2.o=true then runOpD K p.2 st fun s=>(∀ q∈rs,cx p.1 q.1=true→sameAt q.2 st.h s.h)∧runL K cx r rs ((p.1,st.h) :: es) s k
  else runOpD K p.2 st fun s=>(∀ q∈es,cx p.1 q.1=true→sameAt (rdv st.e p.2.o) q.2 st.h)∧runL K cx r ((p.1,rdv st.e p.2.o) :: rs) es s k

def EqE (st st':St):Prop:=st.h=st'.h∧∀ n,Env.get st.e n=Env.get st'.e n

theorem EqE.setD {e e':Env} {d:Option Nat} {v:IV} {H:Hp} (h:∀ n,Env.get e n=Env.get e' n):EqE ⟨setD e d v,H⟩ ⟨Vm.setD e' d v,H⟩:=
 ⟨rfl,fun n=>by show Env.get (Vm.setD e d v) n=Env.get (Vm.setD e' d v) n;rw[get_setD,get_setD,h n]⟩

section

variable {K:OrD} {cx:Nat→Nat→Bool}

theorem runL_weak (hm:MonoK K):∀ {L:List (Nat×VO)} {rs rs':List (Nat×CV)} {es es':List (Nat×Hp)} {st:St} {k:St→Prop},(∀ q∈rs',q∈rs)→(∀ q∈es',q∈es)→runL K cx L rs es st k→runL K cx L rs' es' st k:=by
 intro L
 induction L with
 | nil=>intro rs rs' es es' st k _ _ h;exact h
 | cons p r ih =>
  intro rs rs' es es' st k h1 h2 h
  simp only[runL]at h ⊢
  split at h
  ·rename_i hc;rw[if_pos hc];exact runOpD_le hm.le (fun s hs=>⟨fun q hq=>hs.1 q (h1 q hq),ih h1 (fun q hq=>by rcases List.mem_cons.1 hq with rfl | hq;exact List.mem_cons_self;exact List.mem_cons_of_mem _ (h2 q hq)) hs.2⟩) h
  ·rename_i hc;rw[if_neg hc];exact runOpD_le hm.le (fun s hs=>⟨fun q hq=>hs.1 q (h2 q hq),ih (fun q hq=>by rcases List.mem_cons.1 hq with rfl | hq;exact List.mem_cons_self;exact List.mem_cons_of_mem _ (h1 q hq)) h2 hs.2⟩) h

theorem runL_eq (hm:MonoK K):∀ {L:List (Nat×VO)} {rs:List (Nat×CV)} {es:List (Nat×Hp)} {st st':St} {k:St→Prop},(∀ s s',EqE s s'→k s→k s')→EqE st st'→runL K cx L rs es st k→runL K cx L rs es st' k:=by
 intro L
 induction L with
 | nil=>intro rs es st st' k hk he h;exact hk _ _ he h
 | cons p r ih =>
  intro rs es st st' k hk he h
  obtain⟨e,H⟩:=st
  obtain⟨e',H'⟩:=st'
  obtain⟨rfl,he⟩:=he
  simp only[runL]at h ⊢
  split at h
  ·rename_i hc;rw[if_pos hc];exact runOpD_congr hm (fun n _=>he n) (fun v H' hs=>⟨hs.1,ih hk (EqE.setD he) hs.2⟩) h
  ·rename_i hc
   rw[if_neg hc,rdv_congr (e:=e') (e':=e) (fun n _=>(he n).symm)]
   exact runOpD_congr hm (fun n _=>he n) (fun v H' hs=>⟨hs.1,ih hk (EqE.setD he) hs.2⟩) h

theorem runL_cons (hm:MonoK K) {p:Nat×VO} {L L':List (Nat×VO)} {k:St→Prop} (hL:∀ rs es s,runL K cx L rs es s k→runL K cx L' rs es s k) {rs:List (Nat×CV)} {es:List (Nat×Hp)} {st:St} (h:runL K cx (p :: L) rs es st k):runL K cx (p :: L') rs es st k:=by
 simp only[runL]at h ⊢
 split at h
 ·rename_i hc;rw[if_pos hc];exact runOpD_le hm.le (fun s hs=>⟨hs.1,hL _ _ _ hs.2⟩) h
 ·rename_i hc;rw[if_neg hc];exact runOpD_le hm.le (fun s hs=>⟨hs.1,hL _ _ _ hs.2⟩) h

structure Ind (cx:Nat→Nat→Bool) (a b:Nat×VO):Prop where
 ab:∀ n,a.2.d=some n→n∉reads b.2
 ba:∀ n,b.2.d=some n→n∉reads a.2
 dd:∀ n,a.2.d=some n→b.2.d≠some n
 one:isE a.2.o=true→isE b.2.o=true→False
 ra:isE b.2.o=true→isR a.2.o=true→cx b.1 a.1=true
 rb:isE a.2.o=true→isR b.2.o=true→cx b.1 a.1=true

theorem get_ne {e:Env} {d:Option Nat} {v:IV} {n:Nat} (h:d≠some n):Env.get (setD e d v) n=Env.get e n:=by rw[get_setD,if_neg h]

theorem swapEq {e:Env} {d d':Option Nat} {v v':IV} {H:Hp} (h:∀ n,d=some n→d'≠some n):EqE ⟨setD (setD e d v) d' v',H⟩ ⟨setD (setD e d' v') d v,H⟩:=by
 refine⟨rfl,fun n=>?_⟩
 simp only[get_setD]
 by_cases h1:d=some n
 ·have:=h n h1
  simp[h1,this]
 ·simp[h1]

theorem mem_swap {α:Type} {x y:α} {l:List α}:∀ q∈x :: y :: l,q∈y :: x :: l:=by
 intro q hq
 simp only[List.mem_cons]at hq ⊢
 rcases hq with h | h | h
 ·exact .inr (.inl h)
 ·exact .inl h
 ·exact .inr (.inr h)

theorem runL_swap (hm:MonoK K) (hn:NM K) (hs:∀ i j,cx i j=cx j i) {a b:Nat×VO} (hI:Ind cx a b) {r:List (Nat×VO)} {k:St→Prop} (hk:∀ s s',EqE s s'→k s→k s') {rs:List (Nat×CV)} {es:List (Nat×Hp)} {st:St}
  (h:runL K cx (a :: b :: r) rs es st k):runL K cx (b :: a :: r) rs es st k:=by
 obtain⟨ia,oa⟩:=a
 obtain⟨ib,ob⟩:=b
 obtain⟨e,H⟩:=st
 have eb:∀ v n,n∈reads ob→Env.get (setD e oa.d v) n=Env.get e n:=fun v n hn'=>get_ne fun hc=>hI.ab n hc hn'
 have ea:∀ v n,n∈reads oa→Env.get (setD e ob.d v) n=Env.get e n:=fun v n hn'=>get_ne fun hc=>hI.ba n hc hn'
 have rob:∀ v,rdv (setD e oa.d v) ob.o=rdv e ob.o:=fun v=>rdv_congr fun n hn'=>eb v n (by simp[reads,hn'])
 have roa:∀ v,rdv (setD e ob.d v) oa.o=rdv e oa.o:=fun v=>rdv_congr fun n hn'=>ea v n (by simp[reads,hn'])
 by_cases hA:isE oa.o=true
 ·have hB:isE ob.o=false:=by
   cases hB:isE ob.o with
   | false=>rfl
   | true=>exact (hI.one hA hB).elim
  have hB':¬ isE ob.o=true:=by rw[hB];simp
  simp only[runL,hA,if_true,if_neg hB']at h ⊢
  have hb:∃ vb,valO ob e H=some vb∧∀ q∈es,cx ib q.1=true→sameAt (rdv e ob.o) q.2 H:=by
   obtain⟨va,H',hc1,h1⟩:=runOpD_nm hn h
   obtain⟨vb,h2,h3,h4⟩:=(detD hB).1 h1
   rw[rob]at h3
   have hsame:sameAt (rdv e ob.o) H H':=by
    by_cases hR:isR ob.o=true
    ·exact h3 (ia,H) List.mem_cons_self (hI.rb hA hR)
    ·rw[rdv_pure (by simpa using hR)];exact trivial
   refine⟨vb,?_,fun q hq hcq=>?_⟩
   ·rw[← h2,valO_congr (e:=setD e oa.d va) (e':=e) (eb va)]
    exact (valO_same hB hsame).symm
   ·exact sameAt.trans (h3 q (List.mem_cons_of_mem _ hq) hcq) hsame.symm
  obtain⟨vb,hvb,hcb⟩:=hb
  refine (detD hB).2 ⟨vb,hvb,hcb,?_⟩
  refine runOpD_congr hm (e:=e) (fun n hn'=>(ea vb n hn').symm) (fun va H' hq=>?_) h
  obtain⟨hc1,h1⟩:=hq
  obtain⟨vb',h2,h3,h4⟩:=(detD hB).1 h1
  rw[rob]at h3 h4
  have hsame:sameAt (rdv e ob.o) H H':=by
   by_cases hR:isR ob.o=true
   ·exact h3 (ia,H) List.mem_cons_self (hI.rb hA hR)
   ·rw[rdv_pure (by simpa using hR)];exact trivial
  have:vb'=vb:=by
   rw[valO_congr (e:=setD e oa.d va) (e':=e) (eb va),valO_same hB hsame,hvb]at h2
   injection h2 with h2;exact h2.symm
  subst this
  refine⟨fun q hq hcq=>?_,?_⟩
  ·rcases List.mem_cons.1 hq with rfl | hq
   ·exact hsame
   ·exact hc1 q hq hcq
  ·exact runL_eq hm hk (swapEq hI.dd) h4
 ·have hA':isE oa.o=false:=by simpa using hA
  by_cases hB:isE ob.o=true
  ·simp only[runL,hB,if_true,if_neg hA]at h ⊢
   obtain⟨va,hva,hca,h1⟩:=(detD hA').1 h
   refine runOpD_congr hm (e:=setD e oa.d va) (fun n hn'=>eb va n hn') (fun vb H' hq=>?_) h1
   obtain⟨hc1,h2⟩:=hq
   have hsame:sameAt (rdv e oa.o) H H':=by
    by_cases hR:isR oa.o=true
    ·exact hc1 (ia,rdv e oa.o) List.mem_cons_self (hI.ra hB hR)
    ·rw[rdv_pure (by simpa using hR)];exact trivial
   refine⟨fun q hq=>hc1 q (List.mem_cons_of_mem _ hq),(detD hA').2 ⟨va,?_,?_,?_⟩⟩
   ·rw[valO_congr (e:=setD e ob.d vb) (e':=e) (ea vb),valO_same hA' hsame];exact hva
   ·intro q hq hcq
    rw[roa]
    rcases List.mem_cons.1 hq with rfl | hq
    ·exact hsame
    ·exact sameAt.trans (hca q hq hcq) hsame
   ·rw[roa]
    exact runL_eq hm hk (swapEq hI.dd) h2
  ·have hB':isE ob.o=false:=by simpa using hB
   simp only[runL,if_neg hB,if_neg hA]at h ⊢
   obtain⟨va,hva,hca,h1⟩:=(detD hA').1 h
   obtain⟨vb,hvb,hcb,h2⟩:=(detD hB').1 h1
   refine (detD hB').2 ⟨vb,?_,?_,(detD hA').2 ⟨va,?_,?_,?_⟩⟩
   ·rw[← hvb];exact (valO_congr (eb va)).symm
   ·intro q hq hcq;have:=hcb q hq hcq;rwa [rob]at this
   ·rw[← hva];exact valO_congr (ea vb)
   ·intro q hq hcq;have:=hca q hq hcq;rwa [roa]
   ·rw[roa]
    rw[rob]at h2
    exact runL_weak hm mem_swap (fun q hq=>hq) (runL_eq hm hk (swapEq hI.dd) h2)

theorem runL_hoist (hm:MonoK K) (hn:NM K) (hs:∀ i j,cx i j=cx j i) {p:Nat×VO} {k:St→Prop} (hk:∀ s s',EqE s s'→k s→k s'):∀ {pre post:List (Nat×VO)} {rs:List (Nat×CV)} {es:List (Nat×Hp)} {st:St},(∀ q∈pre,Ind cx q p) →
  runL K cx (pre++p :: post) rs es st k→runL K cx (p :: (pre++post)) rs es st k:=by
 intro pre
 induction pre with
 | nil=>intro post rs es st _ h;exact h
 | cons q pre ih =>
  intro post rs es st hI h
  have h1:runL K cx (q :: p :: (pre++post)) rs es st k:=runL_cons hm (fun rs es s h=>ih (fun x hx=>hI x (List.mem_cons_of_mem _ hx)) h) h
  exact runL_swap hm hn hs (hI q List.mem_cons_self) hk h1

end
def SameRun (x o:VO):Prop:=x.d=o.d∧x.o=o.o∧x.gd=o.gd

theorem SameRun.run {x o:VO} (h:SameRun x o) {K:OrD} {st:St} {k:St→Prop}:runOpD K x st k=runOpD K o st k:=by
 obtain⟨d,o1,gd,dp,ck,rc⟩:=x
 obtain⟨d',o1',gd',dp',ck',rc'⟩:=o
 obtain⟨h1,h2,h3⟩:=h
 simp only at h1 h2 h3
 subst h1;subst h2;subst h3
 rfl

structure OrdOk (ops:List VO) (cx:Nat→Nat→Bool) (L0:List (Nat×VO)):Prop where
 mem:∀ i o,ops[i]? = some o→∃ x,(i,x)∈L0
 sub:∀ p∈L0,∃ o,ops[p.1]? = some o∧SameRun p.2 o
 nd:L0.Pairwise fun a b=>a.1≠b.1
 dp:∀ pre p post,L0=pre++p :: post→∀ o,ops[p.1]? = some o→∀ j∈o.dp,∃ q∈pre,q.1=j
 ind:L0.Pairwise fun a b=>(∃ f,ancB ops f b.1 a.1=true)∨Ind cx a b

def rem (L0:List (Nat×VO)) (listed:List Bool):List (Nat×VO):=L0.filter fun p=>!listed.getD p.1 true

theorem getD_set {l:List Bool} {i j:Nat}:(l.set i true).getD j true=if j=i then true else l.getD j true:=by
 by_cases e:j=i
 ·subst e
  rw[if_pos rfl,List.getD_eq_getElem?_getD,List.getElem?_set]
  simp
  split<;>rfl
 ·rw[if_neg e,List.getD_eq_getElem?_getD,List.getD_eq_getElem?_getD,List.getElem?_set_ne (by omega)]

theorem getD_setF {l:List Bool} {i j:Nat} (hi:i<l.length):(l.set i true).getD j false=if j=i then true else l.getD j false:=by
 by_cases e:j=i
 ·subst e
  rw[if_pos rfl,List.getD_eq_getElem?_getD,List.getElem?_set_self hi];rfl
 ·rw[if_neg e,List.getD_eq_getElem?_getD,List.getD_eq_getElem?_getD,List.getElem?_set_ne (by omega)]

theorem rem_split {L0:List (Nat×VO)} {listed:List Bool} {p:Nat×VO} {R:Nat×VO→Nat×VO→Prop} (hnd:L0.Pairwise fun a b=>a.1≠b.1) (hR:L0.Pairwise R) (hp:p∈L0) (hi:listed.getD p.1 true=false) :
  ∃ pre post,rem L0 listed=pre++p :: post∧rem L0 (listed.set p.1 true)=pre++post∧∀ q∈pre,R q p∧listed.getD q.1 true=false:=by
 have hmem:p∈rem L0 listed:=by
  unfold rem
  rw[List.mem_filter]
  exact⟨hp,by rw[hi];rfl⟩
 obtain⟨pre,post,h⟩:=List.append_of_mem hmem
 have hp1:(rem L0 listed).Pairwise fun a b=>a.1≠b.1:=List.Pairwise.filter _ hnd
 have hp2:(rem L0 listed).Pairwise R:=List.Pairwise.filter _ hR
 rw[h,List.pairwise_append,List.pairwise_cons]at hp1 hp2
 obtain⟨p1,⟨p2,p3⟩,p4⟩:=hp1
 refine⟨pre,post,h,?_,fun q hq=>⟨hp2.2.2 q hq p List.mem_cons_self,?_⟩⟩
 ·have h2:rem L0 (listed.set p.1 true)=(rem L0 listed).filter fun q=>!decide (q.1=p.1):=by
   unfold rem
   rw[List.filter_filter]
   apply List.filter_congr
   intro q _
   rw[getD_set]
   by_cases e:q.1=p.1<;>simp[e]
  rw[h2,h,List.filter_append,List.filter_cons_of_neg (by simp)]
  rw[List.filter_eq_self.2 (fun q hq=>?_),List.filter_eq_self.2 (fun q hq=>?_)]
  ·have:=p2 q hq
   simp[Ne.symm this]
  ·have:=p4 q hq p List.mem_cons_self
   simp[this]
 ·have hq2:q∈rem L0 listed:=by rw[h];exact List.mem_append.2 (.inl hq)
  unfold rem at hq2
  rw[List.mem_filter]at hq2
  simpa using hq2.2

theorem ready_rem {ops:List VO} {cx:Nat→Nat→Bool} {L0:List (Nat×VO)} {listed:List Bool} (ho:OrdOk ops cx L0) (hl:listed.length=ops.length) (h:readyV ops listed=[]):rem L0 listed=[]:=by
 cases hr:rem L0 listed with
 | nil=>rfl
 | cons p t =>
  exfalso
  unfold rem at hr
  rw[List.filter_eq_cons_iff]at hr
  obtain⟨l1,l2,h1,h2,h3,_⟩:=hr
  obtain⟨o,hop,_⟩:=ho.sub p (by rw[h1];simp)
  have hi:p.1<ops.length:=(List.getElem?_eq_some_iff.1 hop).1
  have:p.1∈readyV ops listed:=by
   unfold readyV
   rw[List.mem_filter,List.mem_range]
   refine⟨hi,?_⟩
   rw[hop]
   simp only[Bool.and_eq_true,Option.map_some,Option.getD_some,List.all_eq_true]
   refine⟨h3,fun j hj=>?_⟩
   obtain⟨q,hq,rfl⟩:=ho.dp l1 p l2 h1 o hop j hj
   have h4:=h2 q hq
   simp only[Bool.not_eq_true',Bool.not_eq_false]at h4
   obtain⟨oq,hoq,_⟩:=ho.sub q (by rw[h1];exact List.mem_append.2 (.inl hq))
   have hql:q.1<listed.length:=by rw[hl];exact (List.getElem?_eq_some_iff.1 hoq).1
   rw[List.getD_eq_getElem?_getD,List.getElem?_eq_getElem hql]at h4 ⊢
   exact h4
  rw[h]at this
  cases this

theorem runAll_of {K:OrD} (hm:MonoK K) (hn:NM K) {ops:List VO} {cx:Nat→Nat→Bool} (hs:∀ i j,cx i j=cx j i) {L0:List (Nat×VO)} (ho:OrdOk ops cx L0) {Q:St→Prop} (hQ:∀ s s',EqE s s'→Q s→Q s') :
  ∀ (n:Nat) {listed:List Bool} {st:St} {rs:List (Nat×CV)} {es:List (Nat×Hp)},listed.length=ops.length→n=(rem L0 listed).length →
   (∀ (i:Nat) (o:VO),ops[i]? = some o→listed.getD i false=true→∀ j∈o.dp,listed.getD j false=true) →
   runL K cx (rem L0 listed) rs es st Q→RunAllD K ops Q n listed st:=by
 intro n
 induction n with
 | zero =>
  intro listed st rs es hl hn0 hc h
  have h0:rem L0 listed=[]:=List.eq_nil_of_length_eq_zero hn0.symm
  rw[h0]at h
  refine⟨?_,h⟩
  cases hr:readyV ops listed with
  | nil=>rfl
  | cons i r =>
   exfalso
   obtain⟨o,hoi,hf,_⟩:=mem_ready (ops:=ops) (listed:=listed) (i:=i) (by rw[hr];simp)
   obtain⟨x,hx⟩:=ho.mem i o hoi
   obtain⟨pre,post,hs,_⟩:=rem_split ho.nd ho.nd hx hf
   rw[h0]at hs
   cases pre<;>simp at hs
 | succ n ih =>
  intro listed st rs es hl hn1 hc h
  refine⟨fun hr=>?_,fun i hi=>?_⟩
  ·rw[ready_rem ho hl hr]at h;exact h
  ·obtain⟨o,hoi,hf,hdp⟩:=mem_ready hi
   obtain⟨x,hx⟩:=ho.mem i o hoi
   obtain⟨o',hoi',hsame⟩:=ho.sub _ hx
   rw[hoi]at hoi';injection hoi' with hoi';subst hoi'
   obtain⟨pre,post,hsp,hsp',hpre⟩:=rem_split ho.nd ho.ind hx hf
   have hil:i<listed.length:=by rw[hl];exact (List.getElem?_eq_some_iff.1 hoi).1
   refine⟨o,hoi,?_⟩
   have hind:∀ q∈pre,Ind cx q (i,x):=by
    intro q hq
    obtain⟨q1,q3⟩:=hpre q hq
    rcases q1 with⟨f,hf'⟩ | hI
    ·exfalso
     have hqm:q∈rem L0 listed:=by rw[hsp];exact List.mem_append.2 (.inl hq)
     obtain⟨oq,hoq,_⟩:=ho.sub q (List.mem_filter.1 hqm).1
     have:=anc_listed hc f i q.1 o hoi hdp hf'
     have hjl:q.1<listed.length:=by rw[hl];exact (List.getElem?_eq_some_iff.1 hoq).1
     rw[List.getD_eq_getElem?_getD,List.getElem?_eq_getElem hjl]at this q3
     simp only[Option.getD_some]at this q3
     rw[q3]at this;cases this
    ·exact hI
   rw[hsp]at h
   have h1:=runL_hoist hm hn hs hQ hind h
   have hlen:n=(rem L0 (listed.set i true)).length:=by
    rw[hsp]at hn1
    rw[hsp']
    simp at hn1 ⊢
    omega
   have hcl:∀ (i':Nat) (o':VO),ops[i']? = some o'→(listed.set i true).getD i' false=true→∀ j∈o'.dp,(listed.set i true).getD j false=true:=by
    intro i' o' ho' hl' j hj
    rw[getD_setF hil]at hl' ⊢
    by_cases e:i'=i
    ·subst e
     rw[hoi]at ho';injection ho' with ho';subst ho'
     split
     ·rfl
     ·exact hdp j hj
    ·rw[if_neg e]at hl'
     split
     ·rfl
     ·exact hc i' o' ho' hl' j hj
   rw[← hsame.run]
   simp only[runL]at h1
   split at h1
   ·exact runOpD_le hm.le (fun s hs1=>ih (by simpa using hl) hlen hcl (by rw[hsp'];exact hs1.2)) h1
   ·exact runOpD_le hm.le (fun s hs1=>ih (by simpa using hl) hlen hcl (by rw[hsp'];exact hs1.2)) h1


def chkE (ck:List Nat) (H H':Hp):List (Nat×CV)→Prop
 | []=>True
 | q :: r=>(q.1∈ck→sameAt q.2 H H')∧chkE ck H H' r

def chkR (ck:List Nat) (v:CV) (H':Hp):List (Nat×Hp)→Prop
 | []=>True
 | q :: r=>(q.1∈ck→sameAt v q.2 H')∧chkR ck v H' r

def runC (K:OrD):List (Nat×VO)→List (Nat×CV)→List (Nat×Hp)→St→(St→Prop)→Prop
 | [],_,_,st,k=>k st
 | p :: r,rs,es,st,k =>
  if isE p.2.o=true then runOpD K p.2 st fun s=>chkE p.2.ck st.h s.h rs∧runC K r rs (if p.2.rc=true then (p.1,st.h) :: es else es) s k
  else runOpD K p.2 st fun s=>chkR p.2.ck (rdv st.e p.2.o) st.h es∧runC K r (if p.2.rc=true then (p.1,rdv st.e p.2.o) :: rs else rs) es s k

theorem chkE_at {ck:List Nat} {H H':Hp}:∀ {rs:List (Nat×CV)},chkE ck H H' rs→∀ q∈rs,q.1∈ck→sameAt q.2 H H':=by
 intro rs
 induction rs with
 | nil=>intro _ q hq;cases hq
 | cons p r ih =>
  intro h q hq
  rcases List.mem_cons.1 hq with rfl | hq
  ·exact h.1
  ·exact ih h.2 q hq

theorem chkR_at {ck:List Nat} {v:CV} {H':Hp}:∀ {rs:List (Nat×Hp)},chkR ck v H' rs→∀ q∈rs,q.1∈ck→sameAt v q.2 H':=by
 intro rs
 induction rs with
 | nil=>intro _ q hq;cases hq
 | cons p r ih =>
  intro h q hq
  rcases List.mem_cons.1 hq with rfl | hq
  ·exact h.1
  ·exact ih h.2 q hq

def ckL (L:List (Nat×VO)) (i:Nat):List Nat:=((L.lookup i).map (·.ck)).getD []

def rcL (L:List (Nat×VO)) (i:Nat):Bool:=((L.lookup i).map (·.rc)).getD false

def cxL (L:List (Nat×VO)) (i j:Nat):Bool:=(ckL L i).contains j || (ckL L j).contains i

def CkOk (L:List (Nat×VO)):Prop:=∀ pre p post,L=pre++p :: post→∀ j∈p.2.ck,rcL L j=true∧∃ q∈pre,q.1=j

theorem lookup_mem {L:List (Nat×VO)} (hnd:L.Pairwise fun a b=>a.1≠b.1) {p:Nat×VO} (hp:p∈L):L.lookup p.1=some p.2:=by
 induction L with
 | nil=>cases hp
 | cons q r ih =>
  rw[List.pairwise_cons]at hnd
  obtain⟨k,v⟩:=q
  simp only[List.lookup]
  rcases List.mem_cons.1 hp with rfl | hp
  ·simp
  ·have:(p.1 == k)=false:=by
    have:=hnd.1 p hp
    simp only[ne_eq]at this
    simpa using fun h=>this h.symm
   rw[this]
   exact ih hnd.2 hp

theorem runC_L {K:OrD} (hm:MonoK K) {L:List (Nat×VO)} (hnd:L.Pairwise fun a b=>a.1≠b.1) (hck:CkOk L) {k:St→Prop}:∀ {rest pre:List (Nat×VO)} {rs rs':List (Nat×CV)} {es es':List (Nat×Hp)} {st:St},L=pre++rest →
  (∀ q∈rs',(∃ p∈pre,p.1=q.1)∧(rcL L q.1=true→q∈rs))→(∀ q∈es',(∃ p∈pre,p.1=q.1)∧(rcL L q.1=true→q∈es))→runC K rest rs es st k→runL K (cxL L) rest rs' es' st k:=by
 intro rest
 induction rest with
 | nil=>intro pre rs rs' es es' st _ _ _ h;exact h
 | cons p r ih =>
  intro pre rs rs' es es' st hL hrs hes h
  have hp:p∈L:=by rw[hL];simp
  have hL':L=(pre++[p])++r:=by rw[hL];simp
  have hlk:=lookup_mem hnd hp
  have hcx:∀ q0∈pre,cxL L p.1 q0.1=true→q0.1∈p.2.ck∧rcL L q0.1=true:=by
   intro q0 hq0 hc
   unfold cxL at hc
   rw[Bool.or_eq_true]at hc
   rcases hc with hc | hc
   ·simp only[ckL,hlk,Option.map_some,Option.getD_some,List.contains_eq_mem,decide_eq_true_eq]at hc
    exact⟨hc,(hck pre p r hL _ hc).1⟩
   ·exfalso
    obtain⟨p1,p2,hpp⟩:=List.append_of_mem hq0
    have hq0L:q0∈L:=by rw[hL];exact List.mem_append.2 (.inl hq0)
    have hlk0:=lookup_mem hnd hq0L
    simp only[ckL,hlk0,Option.map_some,Option.getD_some,List.contains_eq_mem,decide_eq_true_eq]at hc
    have hL2:L=p1++q0 :: (p2++p :: r):=by rw[hL,hpp];simp
    obtain⟨_,q,hq,hqe⟩:=hck p1 q0 _ hL2 _ hc
    rw[hL2,List.pairwise_append]at hnd
    exact hnd.2.2 q hq p (by simp) hqe
  simp only[runC,runL]at h ⊢
  split at h
  ·rename_i hE
   rw[if_pos hE]
   refine runOpD_le hm.le (fun s hs=>⟨fun q hq hc=>?_,ih hL' (fun q hq=>?_) (fun q hq=>?_) hs.2⟩) h
   ·obtain⟨⟨q0,hq0,e0⟩,hb⟩:=hrs q hq
    rw[← e0]at hc
    obtain⟨a,b⟩:=hcx q0 hq0 hc
    rw[e0]at a b
    exact chkE_at hs.1 q (hb b) a
   ·obtain⟨⟨q0,hq0,e0⟩,hb⟩:=hrs q hq
    exact⟨⟨q0,by simp[hq0],e0⟩,hb⟩
   ·rcases List.mem_cons.1 hq with rfl | hq
    ·refine⟨⟨p,by simp,rfl⟩,fun hrc=>?_⟩
     have:p.2.rc=true:=by simpa [rcL,hlk] using hrc
     rw[if_pos this];exact List.mem_cons_self
    ·obtain⟨⟨q0,hq0,e0⟩,hb⟩:=hes q hq
     refine⟨⟨q0,by simp[hq0],e0⟩,fun hrc=>?_⟩
     split
     ·exact List.mem_cons_of_mem _ (hb hrc)
     ·exact hb hrc
  ·rename_i hE
   rw[if_neg hE]
   refine runOpD_le hm.le (fun s hs=>⟨fun q hq hc=>?_,ih hL' (fun q hq=>?_) (fun q hq=>?_) hs.2⟩) h
   ·obtain⟨⟨q0,hq0,e0⟩,hb⟩:=hes q hq
    rw[← e0]at hc
    obtain⟨a,b⟩:=hcx q0 hq0 hc
    rw[e0]at a b
    exact chkR_at hs.1 q (hb b) a
   ·rcases List.mem_cons.1 hq with rfl | hq
    ·refine⟨⟨p,by simp,rfl⟩,fun hrc=>?_⟩
     have:p.2.rc=true:=by simpa [rcL,hlk] using hrc
     rw[if_pos this];exact List.mem_cons_self
    ·obtain⟨⟨q0,hq0,e0⟩,hb⟩:=hrs q hq
     refine⟨⟨q0,by simp[hq0],e0⟩,fun hrc=>?_⟩
     split
     ·exact List.mem_cons_of_mem _ (hb hrc)
     ·exact hb hrc
   ·obtain⟨⟨q0,hq0,e0⟩,hb⟩:=hes q hq
    exact⟨⟨q0,by simp[hq0],e0⟩,hb⟩

theorem leaf_all {K:OrD} (hm:MonoK K) (hn:NM K) {ops:List VO} {L:List (Nat×VO)} (hlen:L.length=ops.length) (ho:OrdOk ops (cxL L) L) (hck:CkOk L) {Q:St→Prop} (hQ:∀ s s',EqE s s'→Q s→Q s') {st:St} (h:runC K L [] [] st Q) :
  RunAllD K ops Q ops.length (List.replicate ops.length false) st:=by
 have hrem:rem L (List.replicate ops.length false)=L:=by
  unfold rem
  rw[List.filter_eq_self]
  intro p hp
  obtain⟨o,hop,_⟩:=ho.sub p hp
  have hi:=(List.getElem?_eq_some_iff.1 hop).1
  simp[List.getD_eq_getElem?_getD,hi]
 refine runAll_of hm hn (fun i j=>Bool.or_comm _ _) ho hQ _ (rs:=[]) (es:=[]) (by simp) (by rw[hrem,hlen]) (fun i o hoi hl=>?_) ?_
 ·exfalso
  rw[List.getD_eq_getElem?_getD,List.getElem?_replicate]at hl
  split at hl<;>simp at hl
 ·rw[hrem]
  exact runC_L hm ho.nd hck (pre:=[]) rfl (fun q hq=>by cases hq) (fun q hq=>by cases hq) h


def enumF:Nat→List VO→List (Nat×VO)
 | _,[]=>[]
 | k,o :: r=>(k,o) :: enumF (k+1) r

def indB (ck:List Nat) (j:Nat) (a b:VO):Bool:=
 (match a.d with | none=>true | some n=>!(reads b).contains n && !decide (b.d=some n)) &&
 (match b.d with | none=>true | some n=>!(reads a).contains n) &&
 !(isE a.o && isE b.o) && (!((isE b.o && isR a.o) || (isE a.o && isR b.o)) || ck.contains j)

def sameB (x o:VO):Bool:=decide (x.d=o.d) && decide (x.o=o.o) && decide (x.gd=o.gd)

def goodB (ops:List VO) (L:List (Nat×VO)):List (Nat×VO)→List (Nat×VO)→Bool
 | _,[]=>true
 | pre,p :: post=>(match ops[p.1]? with
   | none=>false
   | some o=>o.dp.all fun j=>pre.any fun q=>q.1 == j) &&
  (p.2.ck.all fun j=>rcL L j && pre.any fun q=>q.1 == j) &&
  (pre.all fun q=>!(q.1 == p.1) && (ancB ops ops.length p.1 q.1 || indB p.2.ck q.1 q.2 p.2)) && goodB ops L (p :: pre) post

def leafB (ops:List VO) (L:List (Nat×VO)):Bool:=
 (L.length == ops.length) && (L.all fun p=>match ops[p.1]? with | none=>false | some o=>sameB p.2 o) && ((List.range ops.length).all fun i=>L.any fun p=>p.1 == i) && goodB ops L [] L

def drawOkB (ops:List VO):Bool:=goodB ops (enumF 0 ops) [] (enumF 0 ops)

theorem goodB_at {ops:List VO} {L:List (Nat×VO)}:∀ {post pre:List (Nat×VO)},goodB ops L pre post=true→∀ mid p rest,post=mid++p :: rest →
  (∃ o,ops[p.1]? = some o∧∀ j∈o.dp,∃ q∈mid.reverse++pre,q.1=j)∧(∀ j∈p.2.ck,rcL L j=true∧∃ q∈mid.reverse++pre,q.1=j) ∧
  ∀ q∈mid.reverse++pre,q.1≠p.1∧(ancB ops ops.length p.1 q.1=true∨indB p.2.ck q.1 q.2 p.2=true):=by
 intro post
 induction post with
 | nil=>intro pre h mid p rest e;cases mid<;>simp at e
 | cons x post ih =>
  intro pre h mid p rest e
  simp only[goodB,Bool.and_eq_true,List.all_eq_true,List.any_eq_true,beq_iff_eq,Bool.not_eq_true',beq_eq_false_iff_ne,Bool.or_eq_true]at h
  obtain⟨⟨⟨h1,h2⟩,h3⟩,h4⟩:=h
  cases mid with
  | nil =>
   simp only[List.nil_append,List.cons.injEq]at e
   obtain⟨rfl,rfl⟩:=e
   refine⟨?_,fun j hj=>?_,fun q hq=>h3 q (by simpa using hq)⟩
   ·cases ho:ops[x.1]? with
    | none=>rw[ho]at h1;cases h1
    | some o =>
     rw[ho]at h1
     simp only[List.all_eq_true,List.any_eq_true,beq_iff_eq]at h1
     exact⟨o,rfl,fun j hj=>by obtain⟨q,a,b⟩:=h1 j hj;exact⟨q,by simpa using a,b⟩⟩
   ·obtain⟨a,q,b,c⟩:=h2 j hj
    exact⟨a,q,by simpa using b,c⟩
  | cons y mid =>
   simp only[List.cons_append,List.cons.injEq]at e
   obtain⟨rfl,e⟩:=e
   have:=ih h4 mid p rest e
   simpa [List.reverse_cons,List.append_assoc] using this

theorem pairwise_of {L:List (Nat×VO)} {R:Nat×VO→Nat×VO→Prop} (h:∀ mid p rest,L=mid++p :: rest→∀ q∈mid,R q p):L.Pairwise R:=by
 have key:∀ (rest pre:List (Nat×VO)),L=pre++rest→rest.Pairwise R:=by
  intro rest
  induction rest with
  | nil=>intro _ _;exact List.Pairwise.nil
  | cons p r ih =>
   intro pre e
   refine List.Pairwise.cons (fun q hq=>?_) (ih (pre++[p]) (by rw[e];simp))
   obtain⟨a,b,hr⟩:=List.append_of_mem hq
   exact h (pre++p :: a) q b (by rw[e,hr];simp) p (by simp)
 exact key L [] rfl

theorem indB_ind {L:List (Nat×VO)} (hnd:L.Pairwise fun a b=>a.1≠b.1) {q p:Nat×VO} (hp:p∈L) (h2:indB p.2.ck q.1 q.2 p.2=true):Ind (cxL L) q p:=by
 obtain⟨j,o'⟩:=q
 obtain⟨i,o⟩:=p
 have hlk:=lookup_mem hnd hp
 simp only[indB,Bool.and_eq_true,Bool.not_eq_true',Bool.or_eq_true]at h2
 obtain⟨⟨⟨h3,h4⟩,h5⟩,h6⟩:=h2
 have hcx:(isE o.o=true∧isR o'.o=true)∨(isE o'.o=true∧isR o.o=true)→cxL L i j=true:=by
  intro hh
  unfold cxL
  rw[Bool.or_eq_true]
  left
  simp only at hlk
  simp only[ckL,hlk,Option.map_some,Option.getD_some]
  rcases h6 with h6 | h6
  ·rw[Bool.or_eq_false_iff]at h6
   rcases hh with⟨a,b⟩ | ⟨a,b⟩
   ·rw[a,b]at h6;simp at h6
   ·rw[a,b]at h6;simp at h6
  ·exact h6
 refine⟨fun n hn hr=>?_,fun n hn hr=>?_,fun n hn hr=>?_,fun a b=>?_,fun a b=>hcx (.inl ⟨a,b⟩),fun a b=>hcx (.inr ⟨a,b⟩)⟩
 ·simp only at hn;rw[hn]at h3;simp at h3;exact h3.1 hr
 ·simp only at hn;rw[hn]at h4;simp at h4;exact h4 hr
 ·simp only at hn hr;rw[hn]at h3;simp at h3;exact h3.2 hr
 ·simp only at a b;rw[a,b]at h5;simp at h5

theorem good_ok {ops:List VO} {L:List (Nat×VO)} (hm:∀ i o,ops[i]? = some o→∃ x,(i,x)∈L) (hs:∀ p∈L,∃ o,ops[p.1]? = some o∧SameRun p.2 o) (h:goodB ops L [] L=true):OrdOk ops (cxL L) L∧CkOk L:=by
 have hat:=goodB_at h
 have hnd:L.Pairwise fun a b=>a.1≠b.1:=pairwise_of fun mid p rest e q hq=>((hat mid p rest e).2.2 q (by simpa using hq)).1
 refine⟨⟨hm,hs,hnd,fun pre p post e o ho j hj=>?_,pairwise_of fun mid p rest e q hq=>?_⟩,fun pre p post e j hj=>?_⟩
 ·obtain⟨⟨o',ho',hd⟩,_⟩:=hat pre p post e
  rw[ho]at ho';injection ho' with ho';subst ho'
  obtain⟨q,a,b⟩:=hd j hj
  exact⟨q,by simpa using a,b⟩
 ·rcases ((hat mid p rest e).2.2 q (by simpa using hq)).2 with h1 | h1
  ·exact .inl ⟨_,h1⟩
  ·exact .inr (indB_ind hnd (by rw[e];simp) h1)
 ·obtain⟨a,q,b,c⟩:=(hat pre p post e).2.1 j hj
  exact⟨a,q,by simpa using b,c⟩

theorem mem_enumF:∀ {ops:List VO} {k:Nat} {p:Nat×VO},p∈enumF k ops↔k≤p.1∧ops[p.1 - k]? = some p.2:=by
 intro ops
 induction ops with
 | nil=>intro k p;simp[enumF]
 | cons o r ih =>
  intro k p
  obtain⟨i,x⟩:=p
  simp only[enumF,List.mem_cons,ih,Prod.mk.injEq]
  constructor
  ·rintro (⟨rfl,rfl⟩ | ⟨h1,h2⟩)
   ·simp
   ·refine⟨by omega,?_⟩
    rw[show i - k=(i - (k+1))+1 by omega,List.getElem?_cons_succ];exact h2
  ·rintro⟨h1,h2⟩
   by_cases e:i=k
   ·subst e;simp at h2;exact .inl ⟨rfl,h2.symm⟩
   ·refine .inr ⟨by omega,?_⟩
    rw[show i - k=(i - (k+1))+1 by omega,List.getElem?_cons_succ]at h2;exact h2

theorem enumF_length:∀ {ops:List VO} {k:Nat},(enumF k ops).length=ops.length:=by
 intro ops
 induction ops with
 | nil=>intro k;rfl
 | cons o r ih=>intro k;simp[enumF,ih]

theorem rd_all {K:OrD} (hm:MonoK K) (hn:NM K) {ops:List VO} (hd:drawOkB ops=true) {Q:St→Prop} (hQ:∀ s s',EqE s s'→Q s→Q s') {st:St} (h:runC K (enumF 0 ops) [] [] st Q) :
  RunAllD K ops Q ops.length (List.replicate ops.length false) st:=by
 obtain⟨h1,h2⟩:=good_ok (ops:=ops) (L:=enumF 0 ops) (fun i o ho=>⟨o,mem_enumF.2 ⟨Nat.zero_le _,by simpa using ho⟩⟩) (fun p hp=>⟨p.2,by simpa using (mem_enumF.1 hp).2,rfl,rfl,rfl⟩) hd
 exact leaf_all hm hn enumF_length h1 h2 hQ h


def addE (ops:List VO) (b a:Nat):List VO:=match ops[b]? with
 | none=>ops
 | some o=>ops.set b { o with dp:=a :: o.dp }

theorem addE_length (ops:List VO) (b a:Nat):(addE ops b a).length=ops.length:=by
 unfold addE;split<;>simp

theorem addE_at {ops:List VO} {b a i:Nat} {o:VO} (h:ops[i]? = some o):∃ o',(addE ops b a)[i]? = some o'∧SameRun o' o∧o'.dp=if i=b then a :: o.dp else o.dp:=by
 unfold addE
 cases hb:ops[b]? with
 | none =>
  simp only
  have:i≠b:=by rintro rfl;rw[h]at hb;cases hb
  exact⟨o,h,⟨rfl,rfl,rfl⟩,by rw[if_neg this]⟩
 | some ob =>
  simp only
  by_cases e:i=b
  ·subst e
   rw[h]at hb;injection hb with hb;subst hb
   have hi:=(List.getElem?_eq_some_iff.1 h).1
   exact⟨{ o with dp:=a :: o.dp },by rw[List.getElem?_set_self hi],⟨rfl,rfl,rfl⟩,by rw[if_pos rfl]⟩
  ·exact⟨o,by rw[List.getElem?_set_ne (Ne.symm e)];exact h,⟨rfl,rfl,rfl⟩,by rw[if_neg e]⟩

theorem addE_none {ops:List VO} {b a i:Nat} (h:ops[i]? = none):(addE ops b a)[i]? = none:=by
 rw[List.getElem?_eq_none_iff]at h ⊢
 rw[addE_length];exact h

theorem ready_add {ops:List VO} {b a i:Nat} {listed:List Bool}:i∈readyV (addE ops b a) listed↔i∈readyV ops listed∧(i=b→listed.getD a false=true):=by
 unfold readyV
 simp only[List.mem_filter,List.mem_range,addE_length,Bool.and_eq_true]
 cases h:ops[i]? with
 | none =>
  rw[addE_none h];simp
 | some o =>
  obtain⟨o',h1,_,h3⟩:=addE_at (b:=b) (a:=a) h
  rw[h1]
  simp only[Option.map_some,Option.getD_some,h3]
  by_cases e:i=b
  ·rw[if_pos e]
   simp only[List.all_cons,Bool.and_eq_true,e,forall_const]
   constructor
   ·rintro⟨x,y,z,u⟩;exact⟨⟨x,y,u⟩,z⟩
   ·rintro⟨⟨x,y,u⟩,z⟩;exact⟨x,y,z,u⟩
  ·rw[if_neg e]
   simp[e]

theorem unadd {K:OrD} (hm:MonoK K) {ops:List VO} {b a:Nat} {Q:St→Prop}:∀ {n:Nat} {listed:List Bool} {st:St},listed.getD a false=true→RunAllD K (addE ops b a) Q n listed st→RunAllD K ops Q n listed st:=by
 intro n
 induction n with
 | zero =>
  intro listed st ha h
  refine⟨?_,h.2⟩
  cases hr:readyV ops listed with
  | nil=>rfl
  | cons i r =>
   exfalso
   have:i∈readyV (addE ops b a) listed:=ready_add.2 ⟨by rw[hr];simp,fun _=>ha⟩
   rw[h.1]at this;cases this
 | succ n ih =>
  intro listed st ha h
  refine⟨fun hr=>h.1 ?_,fun i hi=>?_⟩
  ·cases hr2:readyV (addE ops b a) listed with
   | nil=>rfl
   | cons i r =>
    exfalso
    have:=(ready_add.1 (by rw[hr2];simp:i∈readyV (addE ops b a) listed)).1
    rw[hr]at this;cases this
  ·obtain⟨o',h1,h2⟩:=h.2 i (ready_add.2 ⟨hi,fun _=>ha⟩)
   obtain⟨o,ho,_⟩:=mem_ready hi
   obtain⟨o2,h3,h4,_⟩:=addE_at (b:=b) (a:=a) ho
   rw[h3]at h1;injection h1 with h1;subst h1
   refine⟨o,ho,?_⟩
   rw[← h4.run]
   refine runOpD_le hm.le (fun s hs=>ih ?_ hs) h2
   by_cases hil:i<listed.length
   ·rw[getD_setF hil];split
    ·rfl
    ·exact ha
   ·rw[List.set_eq_of_length_le (by omega)];exact ha

theorem split_all {K:OrD} (hm:MonoK K) (hc:CJ K) {ops:List VO} {a b:Nat} (hab:a≠b) (hb:b<ops.length) {Q:St→Prop}:∀ {n:Nat} {listed:List Bool} {st:St},listed.length=ops.length →
  listed.getD a true=false→listed.getD b true=false→RunAllD K (addE ops b a) Q n listed st→RunAllD K (addE ops a b) Q n listed st→RunAllD K ops Q n listed st:=by
 intro n
 induction n with
 | zero =>
  intro listed st hl ha hb h1 h2
  refine⟨?_,h1.2⟩
  cases hr:readyV ops listed with
  | nil=>rfl
  | cons i r =>
   exfalso
   by_cases e:i=b
   ·have:i∈readyV (addE ops a b) listed:=ready_add.2 ⟨by rw[hr];simp,fun h=>(hab (h.symm.trans e)).elim⟩
    rw[h2.1]at this;cases this
   ·have:i∈readyV (addE ops b a) listed:=ready_add.2 ⟨by rw[hr];simp,fun h=>(e h).elim⟩
    rw[h1.1]at this;cases this
 | succ n ih =>
  intro listed st hl ha hb h1 h2
  refine⟨fun hr=>h1.1 ?_,fun i hi=>?_⟩
  ·cases hr2:readyV (addE ops b a) listed with
   | nil=>rfl
   | cons i r =>
    exfalso
    have:=(ready_add.1 (by rw[hr2];simp:i∈readyV (addE ops b a) listed)).1
    rw[hr]at this;cases this
  ·obtain⟨o,ho,hf,_⟩:=mem_ready hi
   have hil:i<listed.length:=by rw[hl];exact (List.getElem?_eq_some_iff.1 ho).1
   refine⟨o,ho,?_⟩
   by_cases ea:i=a
   ·subst ea
    obtain⟨o',g1,g2⟩:=h1.2 i (ready_add.2 ⟨hi,fun h=>(hab h).elim⟩)
    obtain⟨o2,g3,g4,_⟩:=addE_at (b:=b) (a:=i) ho
    rw[g3]at g1;injection g1 with g1;subst g1
    rw[← g4.run]
    exact runOpD_le hm.le (fun s hs=>unadd hm (by rw[getD_setF hil,if_pos rfl]) hs) g2
   ·by_cases eb:i=b
    ·subst eb
     obtain⟨o',g1,g2⟩:=h2.2 i (ready_add.2 ⟨hi,fun h=>(ea h).elim⟩)
     obtain⟨o2,g3,g4,_⟩:=addE_at (b:=a) (a:=i) ho
     rw[g3]at g1;injection g1 with g1;subst g1
     rw[← g4.run]
     exact runOpD_le hm.le (fun s hs=>unadd hm (by rw[getD_setF hil,if_pos rfl]) hs) g2
    ·obtain⟨o',g1,g2⟩:=h1.2 i (ready_add.2 ⟨hi,fun h=>(eb h).elim⟩)
     obtain⟨o2,g3,g4,_⟩:=addE_at (b:=b) (a:=a) ho
     rw[g3]at g1;injection g1 with g1;subst g1
     obtain⟨o'',k1,k2⟩:=h2.2 i (ready_add.2 ⟨hi,fun h=>(ea h).elim⟩)
     obtain⟨o3,k3,k4,_⟩:=addE_at (b:=a) (a:=b) ho
     rw[k3]at k1;injection k1 with k1;subst k1
     rw[g4.run]at g2
     rw[k4.run]at k2
     refine runOpD_le hm.le (fun s hs=>ih (by simpa using hl) ?_ ?_ hs.1 hs.2) (runOpD_cj hc g2 k2)
     ·rw[getD_set,if_neg (Ne.symm ea)];exact ha
     ·rw[getD_set,if_neg (Ne.symm eb)];exact hb

def treeB (ops:List VO):VT→Bool
 | .leaf l=>leafB ops l
 | .split a b x y=>decide (a≠b) && decide (a<ops.length) && decide (b<ops.length) && treeB (addE ops b a) x && treeB (addE ops a b) y
 | .all os=>decide (ops=os)

def treeW (K:OrD):VT→St→(St→Prop)→Prop
 | .leaf l,st,k=>runC K l [] [] st k
 | .split _ _ x y,st,k=>treeW K x st k∧treeW K y st k
 | .all os,st,k=>RunAllD K os k os.length (List.replicate os.length false) st

theorem leafB_ok {ops:List VO} {L:List (Nat×VO)} (h:leafB ops L=true):L.length=ops.length∧OrdOk ops (cxL L) L∧CkOk L:=by
 simp only[leafB,Bool.and_eq_true,beq_iff_eq,List.all_eq_true,List.any_eq_true,List.mem_range]at h
 obtain⟨⟨⟨h1,h2⟩,h3⟩,h4⟩:=h
 refine⟨h1,good_ok (fun i o ho=>?_) (fun p hp=>?_) h4⟩
 ·obtain⟨p,hp,rfl⟩:=h3 i (List.getElem?_eq_some_iff.1 ho).1
  exact⟨p.2,hp⟩
 ·have:=h2 p hp
  split at this
  ·cases this
  ·rename_i o ho
   simp only[sameB,Bool.and_eq_true,decide_eq_true_eq]at this
   exact⟨o,ho,this.1.1,this.1.2,this.2⟩

theorem tree_all {K:OrD} (hm:MonoK K) (hn:NM K) (hc:CJ K) {Q:St→Prop} (hQ:∀ s s',EqE s s'→Q s→Q s') {st:St}:∀ {t:VT} {ops:List VO},treeB ops t=true→treeW K t st Q →
  RunAllD K ops Q ops.length (List.replicate ops.length false) st:=by
 intro t
 induction t with
 | leaf l =>
  intro ops h1 h2
  obtain⟨a,b,c⟩:=leafB_ok h1
  exact leaf_all hm hn a b c hQ h2
 | split a b x y ihx ihy =>
  intro ops h1 h2
  simp only[treeB,Bool.and_eq_true,decide_eq_true_eq]at h1
  obtain⟨⟨⟨⟨h3,h4⟩,h5⟩,h6⟩,h7⟩:=h1
  have e1:=ihx h6 h2.1
  have e2:=ihy h7 h2.2
  rw[addE_length]at e1 e2
  exact split_all hm hc h3 h5 (by simp) (by simp[List.getD_eq_getElem?_getD,h4]) (by simp[List.getD_eq_getElem?_getD,h5]) e1 e2
 | all os =>
  intro ops h1 h2
  simp only[treeB,decide_eq_true_eq]at h1
  subst h1
  exact h2


def drawsB:VC→Bool
 | .rd ops=>drawOkB ops
 | .rx ops t=>treeB ops t
 | .seq a b=>drawsB a && drawsB b
 | .cond _ a b=>drawsB a && drawsB b
 | .block _ c=>drawsB c
 | .loop c=>drawsB c
 | _=>true

def cndP (v:IV) (A B:Prop):Prop:=
 match v with
 | .c (.b true)=>A
 | .c (.b false)=>B
 | _=>False

def exW (K:OrD) (vars:List Nat):VC→St→(X×St→Prop)→Prop
 | .skip,st,Q=>Q (.norm,st)
 | .rg ops,st,Q=>runOpsD K ops st fun s=>Q (.norm,prune vars s)
 | .rd ops,st,Q=>runC K (enumF 0 ops) [] [] st fun s=>Q (.norm,prune vars s)
 | .rx _ t,st,Q=>treeW K t st fun s=>Q (.norm,prune vars s)
 | .seq a b,st,Q=>exW K vars a st (thenD (fun s=>exW K vars b s Q) Q)
 | .cond x a b,st,Q=>cndP (x.get st.e) (exW K vars a st Q) (exW K vars b st Q)
 | .block k c,st,Q=>exW K vars c st (blockD k Q)
 | .loop c,st,Q=>loopD (exW K vars c) st Q
 | .exit k,st,Q=>Q (.exit k,st)
 | .ret,st,Q=>Q (.ret,st)

theorem prune_eqE {vars:List Nat} {s s':St} (h:EqE s s'):prune vars s=prune vars s':=by
 obtain⟨h1,h2⟩:=h
 unfold prune
 rw[h1]
 congr 1
 exact List.map_congr_left fun k _=>by rw[h2 k]

theorem runC_mono {K:OrD} (hm:MonoK K):∀ {L:List (Nat×VO)} {rs:List (Nat×CV)} {es:List (Nat×Hp)} {st:St} {k k':St→Prop},(∀ s,k s→k' s)→runC K L rs es st k→runC K L rs es st k':=by
 intro L
 induction L with
 | nil=>intro rs es st k k' hk h;exact hk _ h
 | cons o r ih =>
  intro rs es st k k' hk h
  simp only[runC]at h ⊢
  split at h
  ·rename_i hc;rw[if_pos hc];exact runOpD_le hm.le (fun s hs=>⟨hs.1,ih hk hs.2⟩) h
  ·rename_i hc;rw[if_neg hc];exact runOpD_le hm.le (fun s hs=>⟨hs.1,ih hk hs.2⟩) h

theorem treeW_mono {K:OrD} (hm:MonoK K):∀ {t:VT} {st:St} {k k':St→Prop},(∀ s,k s→k' s)→treeW K t st k→treeW K t st k':=by
 intro t
 induction t with
 | leaf l=>intro st k k' hk h;exact runC_mono hm hk h
 | split a b x y ihx ihy=>intro st k k' hk h;exact⟨ihx hk h.1,ihy hk h.2⟩
 | all os=>intro st k k' hk h;exact RunAllD_le hm.le hk h

theorem exW_exD {K:OrD} (hm:MonoK K) (hn:NM K) (hc:CJ K) {vars:List Nat}:∀ {c:VC} {st:St} {Q Q':X×St→Prop},drawsB c=true→(∀ r,Q r→Q' r)→exW K vars c st Q→exD K vars c st Q':=by
 intro c
 induction c with
 | skip=>intro st Q Q' _ hq h;exact hq _ h
 | exit k=>intro st Q Q' _ hq h;exact hq _ h
 | ret=>intro st Q Q' _ hq h;exact hq _ h
 | rg ops=>intro st Q Q' _ hq h;exact runOpsD_le hm.le (fun s=>hq _) h
 | rd ops =>
  intro st Q Q' hd hq h
  refine rd_all hm hn hd (fun s s' he hs=>?_) (runC_mono hm (fun s=>hq _) h)
  rw[← prune_eqE he];exact hs
 | rx ops t =>
  intro st Q Q' hd hq h
  refine tree_all hm hn hc (fun s s' he hs=>?_) hd (treeW_mono hm (fun s=>hq _) h)
  rw[← prune_eqE he];exact hs
 | seq a b iha ihb =>
  intro st Q Q' hd hq h
  simp only[drawsB,Bool.and_eq_true]at hd
  exact iha hd.1 (fun r=>thenD_mono (fun s=>ihb hd.2 hq) hq) h
 | cond x a b iha ihb =>
  intro st Q Q' hd hq h
  simp only[drawsB,Bool.and_eq_true]at hd
  simp only[exW,exD,cndP]at h ⊢
  split at h
  ·rename_i hg;rw[hg];exact iha hd.1 hq h
  ·rename_i hg;rw[hg];exact ihb hd.2 hq h
  ·exact h.elim
 | block k c ih=>intro st Q Q' hd hq h;exact ih hd (fun r=>blockD_mono hq) h
 | loop c ih=>intro st Q Q' hd hq h;exact loopD_mono (f:=exW K vars c) (f':=exD K vars c) (fun s Q Q' hq=>ih hd hq) hq h

theorem call_wp {M:Code} {X0:OrD} (h0:MonoK X0) (h0':NM X0) (h0'':CJ X0) {f:Nat} (vf:VF) {az:List IV} {H:Hp} {Q:IV×Hp→Prop} (hM:M f=some vf) (hd:drawsB vf.body=true)
  (h:exW (callD M X0) vf.vars vf.body ⟨enter vf.vars az,H⟩ (finD H vf.res Q)):callD M X0 f az H Q:=by
 refine callD_of h0 ?_
 unfold bodyD
 rw[hM]
 exact exW_exD (callD_mono h0) (callD_nm h0') (callD_cj h0 h0'') hd (fun _=>id) h
def vf7v:List Nat:=[0,2,3,4,5,6,7,8,9,10,11,12,13,15,36,38,49,60,76,99]

def vf7b0:VC:=.seq (.seq (.rg [V 72 (.mv (.t 13)),
V 73 (.fad 1 (.t 11)),
V 74 (.ld none (.t 73)),
V 75 (.len (.t 74)),
V 76 (.bin .lt (.t 72) (.t 75))]) (.cond (.t 76) (.skip) (.exit 4))) (.seq (.block 5 (.rd [V 79 (.mv (.t 12)),
Vd [0] (V 80 (.mv (.t 79))),
Vd [1] (Vg 81 80 true (.fad 1 (.t 11))),
Vd [2] (Vg 82 80 true (.ld none (.t 81))),
Vd [1] (Vg 83 80 true (.mv (.t 13))),
Vd [3,4] (Vg 84 80 true (.idx 2 (.t 82) (.t 83))),
Vd [5] (Vg 85 80 true (.fad 1 (.t 84))),
Vd [6] (Vg 86 80 true (.ld none (.t 85))),
Vd [1] (Vg 87 80 true (.fad 0 (.t 11))),
Vd [8] (Vg 88 80 true (.ld none (.t 87))),
Vd [7,9] (Vg 89 80 true (.bin .eq (.t 86) (.t 88))),
Vd [10] (V 90 (.pick (.t 80) (.t 89) (.k (.c (.b false))))),
Vd [11] (V 12 (.mv (.t 90)))])) (.rg [V 77 (.mv (.t 13)),
V 78 (.bin .add (.t 77) (.k (.c (.i 1)))),
V 13 (.mv (.t 78))]))

def vf7b1:VC:=.seq (.seq (.rg [V 52 (.mv (.t 10)),
V 53 (.fad 0 (.t 3)),
V 54 (.ld none (.t 53)),
V 55 (.mv (.t 9)),
V 56 (.idx 6 (.t 54) (.t 55)),
V 57 (.fad 0 (.t 56)),
V 58 (.ld none (.t 57)),
V 59 (.len (.t 58)),
V 60 (.bin .lt (.t 52) (.t 59))]) (.cond (.t 60) (.skip) (.exit 2))) (.seq (.block 3 (.seq (.rg [V 63 (.fad 0 (.t 3)),
V 64 (.ld none (.t 63)),
V 65 (.mv (.t 9)),
V 66 (.idx 6 (.t 64) (.t 65)),
V 67 (.fad 0 (.t 66)),
V 68 (.ld none (.t 67)),
V 69 (.mv (.t 10)),
V 70 (.idx 2 (.t 68) (.t 69)),
V 71 (.ld (some 2) (.t 70)),
V 11 (.alloc [.i 0,.ns]),
Vn (.st 2 (.t 11) (.t 71))]) (.seq (.rg [V 12 (.mv (.k (.c (.b true))))]) (.seq (.seq (.rg [V 13 (.mv (.k (.c (.i 0))))]) (.block 4 (.loop vf7b0))) (.seq (.rg [V 91 (.mv (.t 12)),
V 92 (.not (.t 91)),
V 93 (.mv (.t 92)),
Vg 94 93 true (.mv (.t 8)),
Vg 95 93 true (.fad 0 (.t 11)),
Vg 96 93 true (.ld none (.t 95)),
Vg 97 93 true (.call 28 [(.t 94),(.t 96)]),
Vg 98 93 true (.not (.t 97)),
V 99 (.pick (.t 93) (.t 98) (.k (.c (.b false))))]) (.cond (.t 99) (.seq (.rg [V 2 (.mv (.k (.c (.b false))))]) (.ret)) (.skip))))))) (.rg [V 61 (.mv (.t 10)),
V 62 (.bin .add (.t 61) (.k (.c (.i 1)))),
V 10 (.mv (.t 62))]))

def vf7b2:VC:=.seq (.seq (.rg [V 45 (.mv (.t 9)),
V 46 (.fad 0 (.t 3)),
V 47 (.ld none (.t 46)),
V 48 (.len (.t 47)),
V 49 (.bin .lt (.t 45) (.t 48))]) (.cond (.t 49) (.skip) (.exit 0))) (.seq (.block 1 (.seq (.rg [V 10 (.mv (.k (.c (.i 0))))]) (.block 2 (.loop vf7b1)))) (.rg [V 50 (.mv (.t 9)),
V 51 (.bin .add (.t 50) (.k (.c (.i 1)))),
V 9 (.mv (.t 51))]))

def vf7c:VC:=.seq (.rg [V 2 (.mv (.k (.c (.b false))))]) (.seq (.seq (.rg [V 14 (.mv (.t 0)),
V 15 (.call 8 [(.t 14)])]) (.cond (.t 15) (.seq (.rg [V 2 (.mv (.k (.c (.b true))))]) (.ret)) (.skip))) (.seq (.rg [V 16 (.mv (.t 0)),
V 17 (.call 24 [(.t 16)]),
V 3 (.alloc [.ns,.i 0]),
Vn (.st 2 (.t 3) (.t 17))]) (.seq (.rg [V 19 (.ld (some 2) (.t 3)),
V 20 (.call 25 [(.t 19)]),
V 18 (.mv (.t 20)),
V 21 (.ext 0 (.t 18)),
V 22 (.ext 1 (.t 18)),
V 4 (.alloc [.ns,.i 0]),
Vn (.st 2 (.t 4) (.t 21)),
V 5 (.mv (.t 22))]) (.seq (.rg [V 24 (.ld (some 2) (.t 3)),
V 25 (.call 26 [(.t 24)]),
V 23 (.mv (.t 25)),
V 26 (.ext 0 (.t 23)),
V 27 (.ext 1 (.t 23)),
V 6 (.alloc [.ns,.i 0]),
Vn (.st 2 (.t 6) (.t 26)),
V 7 (.mv (.t 27))]) (.seq (.seq (.rg [V 28 (.mv (.t 5)),
V 29 (.mv (.t 7)),
V 30 (.eqb true (.t 28) (.t 29)),
V 31 (.mv (.t 30)),
Vg 32 31 false (.ld (some 2) (.t 4)),
Vg 33 31 false (.ld (some 2) (.t 6)),
Vg 34 31 false (.call 14 [(.t 32),(.t 33)]),
Vg 35 31 false (.not (.t 34)),
V 36 (.pick (.t 31) (.k (.c (.b true))) (.t 35))]) (.cond (.t 36) (.seq (.rg [V 2 (.mv (.k (.c (.b false))))]) (.ret)) (.skip))) (.seq (.seq (.rg [V 37 (.mv (.t 5)),
V 38 (.not (.t 37))]) (.cond (.t 38) (.seq (.rg [V 39 (.fad 0 (.t 4)),
V 40 (.ld none (.t 39)),
V 41 (.len (.t 40)),
V 42 (.bin .eq (.t 41) (.k (.c (.i 0)))),
V 2 (.mv (.t 42))]) (.ret)) (.skip))) (.seq (.rg [V 43 (.ld (some 2) (.t 4)),
V 44 (.call 27 [(.t 43)]),
V 8 (.mv (.t 44))]) (.seq (.seq (.rg [V 9 (.mv (.k (.c (.i 0))))]) (.block 0 (.loop vf7b2))) (.seq (.rg [V 100 (.ld (some 2) (.t 4)),
V 101 (.call 29 [(.t 100)]),
V 102 (.mv (.t 101)),
Vg 103 102 true (.fad 0 (.t 4)),
Vg 104 102 true (.ld none (.t 103)),
Vg 105 102 true (.len (.t 104)),
Vg 106 102 true (.fad 0 (.t 3)),
Vg 107 102 true (.ld none (.t 106)),
Vg 108 102 true (.len (.t 107)),
Vg 109 102 true (.bin .eq (.t 105) (.t 108)),
V 110 (.pick (.t 102) (.t 109) (.k (.c (.b false)))),
V 111 (.mv (.t 110)),
Vg 112 111 true (.fad 1 (.t 4)),
Vg 113 111 true (.ld none (.t 112)),
Vg 114 111 true (.fad 1 (.t 3)),
Vg 115 111 true (.ld none (.t 114)),
Vg 116 111 true (.bin .add (.t 115) (.k (.c (.i 1)))),
Vg 117 111 true (.bin .eq (.t 113) (.t 116)),
V 118 (.pick (.t 111) (.t 117) (.k (.c (.b false)))),
V 119 (.mv (.t 118)),
Vg 120 119 true (.ld (some 2) (.t 3)),
Vg 121 119 true (.call 18 [(.t 120)]),
Vg 122 119 true (.bin .eq (.t 121) (.k (.c (.i 0)))),
V 123 (.pick (.t 119) (.t 122) (.k (.c (.b false)))),
V 2 (.mv (.t 123))]) (.ret))))))))))

def vf7:VF:=⟨vf7c,vf7v,[(2,none)]⟩

theorem ok7:chkF Tryz.prog Tryz.f7 vf7=true:=by kernel_rfl

theorem dr7:drawsB vf7.body=true:=by kernel_rfl

def vf8v:List Nat:=[0,2]

def vf8c:VC:=.seq (.rg [V 2 (.mv (.k (.c (.b false))))]) (.seq (.rg [V 3 (.mv (.t 0)),
V 4 (.len (.t 3)),
V 5 (.bin .gt (.t 4) (.k (.c (.i 1048576)))),
V 2 (.mv (.t 5))]) (.ret))

def vf8:VF:=⟨vf8c,vf8v,[(2,none)]⟩

theorem ok8:chkF Tryz.prog Tryz.f8 vf8=true:=by kernel_rfl

theorem dr8:drawsB vf8.body=true:=by kernel_rfl

def vf14v:List Nat:=[0,1,2,3,4,5,19,24,38]

def vf14b0:VC:=.seq (.seq (.rg [V 20 (.mv (.t 5)),
V 21 (.fad 0 (.t 2)),
V 22 (.ld none (.t 21)),
V 23 (.len (.t 22)),
V 24 (.bin .lt (.t 20) (.t 23))]) (.cond (.t 24) (.skip) (.exit 0))) (.seq (.block 1 (.seq (.rd [V 27 (.fad 0 (.t 2)),
Vd [0] (V 28 (.ld none (.t 27))),
V 29 (.mv (.t 5)),
Vd [1,2] (V 30 (.idx 6 (.t 28) (.t 29))),
Vd [3] (V 31 (.ld (some 6) (.t 30))),
V 32 (.fad 0 (.t 3)),
Vd [5] (V 33 (.ld none (.t 32))),
V 34 (.mv (.t 5)),
Vd [6,7] (V 35 (.idx 6 (.t 33) (.t 34))),
Vd [8] (V 36 (.ld (some 6) (.t 35))),
Vd [4,9] (V 37 (.call 50 [(.t 31),(.t 36)])),
Vd [10] (V 38 (.not (.t 37)))]) (.cond (.t 38) (.seq (.rg [V 4 (.mv (.k (.c (.b false))))]) (.ret)) (.skip)))) (.rg [V 25 (.mv (.t 5)),
V 26 (.bin .add (.t 25) (.k (.c (.i 1)))),
V 5 (.mv (.t 26))]))

def vf14c:VC:=.seq (.rg [V 2 (.box (.t 0)),
V 3 (.box (.t 1)),
V 4 (.mv (.k (.c (.b false))))]) (.seq (.seq (.rg [V 6 (.fad 1 (.t 2)),
V 7 (.ld none (.t 6)),
V 8 (.fad 1 (.t 3)),
V 9 (.ld none (.t 8)),
V 10 (.bin .ne (.t 7) (.t 9)),
V 11 (.mv (.t 10)),
Vg 12 11 false (.fad 0 (.t 2)),
Vg 13 11 false (.ld none (.t 12)),
Vg 14 11 false (.len (.t 13)),
Vg 15 11 false (.fad 0 (.t 3)),
Vg 16 11 false (.ld none (.t 15)),
Vg 17 11 false (.len (.t 16)),
Vg 18 11 false (.bin .ne (.t 14) (.t 17)),
V 19 (.pick (.t 11) (.k (.c (.b true))) (.t 18))]) (.cond (.t 19) (.seq (.rg [V 4 (.mv (.k (.c (.b false))))]) (.ret)) (.skip))) (.seq (.seq (.rg [V 5 (.mv (.k (.c (.i 0))))]) (.block 0 (.loop vf14b0))) (.seq (.rg [V 4 (.mv (.k (.c (.b true))))]) (.ret))))

def vf14:VF:=⟨vf14c,vf14v,[(4,none)]⟩

theorem ok14:chkF Tryz.prog Tryz.f14 vf14=true:=by kernel_rfl

theorem dr14:drawsB vf14.body=true:=by kernel_rfl

def vf18v:List Nat:=[0,1,2,4,11,17,20,34,37,41]

def vf18c:VC:=.seq (.rg [V 1 (.box (.t 0)),
V 2 (.mv (.k (.c (.i 0))))]) (.seq (.seq (.rg [V 5 (.ld (some 2) (.t 1)),
V 6 (.call 51 [(.t 5)]),
V 7 (.not (.t 6)),
V 8 (.mv (.t 7)),
Vg 9 8 false (.ld (some 2) (.t 1)),
Vg 10 8 false (.call 54 [(.t 9)]),
V 11 (.pick (.t 8) (.k (.c (.b true))) (.t 10))]) (.cond (.t 11) (.seq (.rg [V 2 (.mv (.k (.c (.i 1))))]) (.ret)) (.skip))) (.seq (.rg [V 13 (.ld (some 2) (.t 1)),
V 14 (.call 55 [(.t 13)]),
V 12 (.mv (.t 14)),
V 15 (.ext 0 (.t 12)),
V 16 (.ext 1 (.t 12)),
V 3 (.mv (.t 15)),
V 4 (.mv (.t 16))]) (.seq (.block 0 (.seq (.rg [V 18 (.mv (.t 4)),
V 19 (.call 56 [(.t 18),(.k (.c (.b false)))]),
V 17 (.mv (.t 19))]) (.cond (.t 17) (.seq (.rg [V 2 (.mv (.k (.c (.i 2))))]) (.ret)) (.seq (.rg [V 21 (.fad 0 (.t 1)),
V 22 (.ld none (.t 21)),
V 23 (.idx 6 (.t 22) (.k (.c (.i 0)))),
V 24 (.fad 0 (.t 23)),
V 25 (.ld none (.t 24)),
V 26 (.len (.t 25)),
V 27 (.bin .gt (.t 26) (.k (.c (.i 0)))),
V 28 (.mv (.t 27)),
Vg 29 28 false (.ld (some 2) (.t 1)),
Vg 30 28 false (.call 57 [(.t 29),(.k (.c (.i 0)))]),
Vg 31 28 false (.len (.t 30)),
Vg 32 28 false (.bin .gt (.t 31) (.k (.c (.i 0)))),
V 33 (.pick (.t 28) (.k (.c (.b true))) (.t 32)),
V 20 (.mv (.t 33))]) (.cond (.t 20) (.seq (.rg [V 2 (.mv (.k (.c (.i 3))))]) (.ret)) (.seq (.rg [V 35 (.ld (some 2) (.t 1)),
V 36 (.call 58 [(.t 35)]),
V 34 (.mv (.t 36))]) (.cond (.t 34) (.seq (.rg [V 2 (.mv (.k (.c (.i 4))))]) (.ret)) (.seq (.rg [V 38 (.ld (some 2) (.t 1)),
V 39 (.call 60 [(.t 38)]),
V 40 (.call 59 [(.t 39),(.k (.f 61 []))]),
V 37 (.mv (.t 40))]) (.cond (.t 37) (.seq (.rg [V 2 (.mv (.k (.c (.i 5))))]) (.ret)) (.seq (.rg [V 42 (.ld (some 2) (.t 1)),
V 43 (.call 62 [(.t 42)]),
V 41 (.mv (.t 43))]) (.cond (.t 41) (.seq (.rg [V 2 (.mv (.k (.c (.i 6))))]) (.ret)) (.skip)))))))))))) (.seq (.rg [V 2 (.mv (.k (.c (.i 0))))]) (.ret)))))

def vf18:VF:=⟨vf18c,vf18v,[(2,none)]⟩

theorem ok18:chkF Tryz.prog Tryz.f18 vf18=true:=by kernel_rfl

theorem dr18:drawsB vf18.body=true:=by kernel_rfl

def vf22v:List Nat:=[0,1,2,3,4,5,6,7,8,9,10,11,12,17,27,32,62,69,89,99,113]

def vf22b0:VC:=.seq (.seq (.rg [V 92 (.mv (.t 12)),
V 93 (.mv (.t 10)),
V 94 (.mv (.t 11)),
V 95 (.idx 2 (.t 93) (.t 94)),
V 96 (.fad 1 (.t 95)),
V 97 (.ld none (.t 96)),
V 98 (.len (.t 97)),
V 99 (.bin .lt (.t 92) (.t 98))]) (.cond (.t 99) (.skip) (.exit 4))) (.seq (.block 5 (.seq (.rd [V 102 (.mv (.t 10)),
V 103 (.mv (.t 11)),
Vd [0,1] (V 104 (.idx 2 (.t 102) (.t 103))),
Vd [2] (V 105 (.fad 1 (.t 104))),
Vd [3] (V 106 (.ld none (.t 105))),
V 107 (.mv (.t 12)),
Vd [4,5] (V 108 (.idx 2 (.t 106) (.t 107))),
Vd [6] (V 109 (.fad 0 (.t 108))),
Vd [7] (V 110 (.ld none (.t 109))),
V 111 (.fad 0 (.t 7)),
Vd [9] (V 112 (.ld none (.t 111))),
Vd [8,10] (V 113 (.bin .eq (.t 110) (.t 112)))]) (.cond (.t 113) (.rg [V 114 (.mv (.t 10)),
V 115 (.mv (.t 11)),
V 116 (.idx 2 (.t 114) (.t 115)),
V 117 (.fad 1 (.t 116)),
V 118 (.ld none (.t 117)),
V 119 (.mv (.t 12)),
V 120 (.mv (.t 8)),
V 121 (.idx 2 (.t 118) (.t 119)),
V 122 (.fad 0 (.t 121)),
Vn (.st 1 (.t 122) (.t 120))]) (.skip)))) (.rg [V 100 (.mv (.t 12)),
V 101 (.bin .add (.t 100) (.k (.c (.i 1)))),
V 12 (.mv (.t 101))]))

def vf22b1:VC:=.seq (.seq (.rg [V 86 (.mv (.t 11)),
V 87 (.mv (.t 10)),
V 88 (.len (.t 87)),
V 89 (.bin .lt (.t 86) (.t 88))]) (.cond (.t 89) (.skip) (.exit 2))) (.seq (.block 3 (.seq (.rg [V 12 (.mv (.k (.c (.i 0))))]) (.block 4 (.loop vf22b0)))) (.rg [V 90 (.mv (.t 11)),
V 91 (.bin .add (.t 90) (.k (.c (.i 1)))),
V 11 (.mv (.t 91))]))

def vf22b2:VC:=.seq (.seq (.rg [V 29 (.mv (.t 6)),
V 30 (.mv (.t 5)),
V 31 (.len (.t 30)),
V 32 (.bin .lt (.t 29) (.t 31))]) (.cond (.t 32) (.skip) (.exit 0))) (.seq (.block 1 (.seq (.rg [V 35 (.mv (.t 5)),
V 36 (.mv (.t 6)),
V 37 (.idx 2 (.t 35) (.t 36)),
V 38 (.ld (some 2) (.t 37)),
V 7 (.alloc [.i 0,.i 0]),
Vn (.st 2 (.t 7) (.t 38))]) (.seq (.rg [V 39 (.fad 0 (.t 4)),
V 40 (.ld none (.t 39)),
V 41 (.len (.t 40)),
V 8 (.mv (.t 41))]) (.seq (.rg [V 42 (.fad 0 (.t 4)),
V 43 (.ld none (.t 42)),
V 44 (.fad 1 (.t 7)),
V 45 (.ld none (.t 44)),
V 46 (.build [.i 0,.i 0,.i 0,.i 0] [(0,1,(.k (.c (.i 1)))),(2,1,(.t 45))]),
V 47 (.build [.ns,.ns,.i 0,.i 0,.i 0,.i 0] [(2,4,(.t 46))]),
V 48 (.bsl 6 [.ns,.ns,.i 0,.i 0,.i 0,.i 0] 1 [(0,6,(.t 47))]),
V 49 (.app 6 (.t 43) (.t 48)),
V 50 (.fad 0 (.t 4)),
Vn (.st 1 (.t 50) (.t 49))]) (.seq (.rg [V 51 (.fad 0 (.t 4)),
V 52 (.ld none (.t 51)),
V 53 (.fad 0 (.t 7)),
V 54 (.ld none (.t 53)),
V 55 (.idx 6 (.t 52) (.t 54)),
V 56 (.fad 2 (.t 55)),
V 57 (.ld (some 4) (.t 56)),
V 9 (.alloc [.i 0,.i 0,.i 0,.i 0]),
Vn (.st 4 (.t 9) (.t 57))]) (.seq (.seq (.rg [V 58 (.fad 2 (.t 9)),
V 59 (.ld none (.t 58)),
V 60 (.fad 1 (.t 7)),
V 61 (.ld none (.t 60)),
V 62 (.bin .eq (.t 59) (.t 61))]) (.cond (.t 62) (.rg [V 63 (.mv (.t 8)),
V 64 (.fad 2 (.t 9)),
Vn (.st 1 (.t 64) (.t 63))]) (.skip))) (.seq (.seq (.rg [V 65 (.fad 3 (.t 9)),
V 66 (.ld none (.t 65)),
V 67 (.fad 1 (.t 7)),
V 68 (.ld none (.t 67)),
V 69 (.bin .eq (.t 66) (.t 68))]) (.cond (.t 69) (.rg [V 70 (.mv (.t 8)),
V 71 (.fad 3 (.t 9)),
Vn (.st 1 (.t 71) (.t 70))]) (.skip))) (.seq (.rg [V 72 (.fad 0 (.t 4)),
V 73 (.ld none (.t 72)),
V 74 (.fad 0 (.t 7)),
V 75 (.ld none (.t 74)),
V 76 (.ld (some 4) (.t 9)),
V 77 (.idx 6 (.t 73) (.t 75)),
V 78 (.fad 2 (.t 77)),
Vn (.st 4 (.t 78) (.t 76))]) (.seq (.rg [V 79 (.fad 0 (.t 4)),
V 80 (.ld none (.t 79)),
V 81 (.fad 1 (.t 7)),
V 82 (.ld none (.t 81)),
V 83 (.idx 6 (.t 80) (.t 82)),
V 84 (.fad 0 (.t 83)),
V 85 (.ld none (.t 84)),
V 10 (.mv (.t 85))]) (.seq (.rg [V 11 (.mv (.k (.c (.i 0))))]) (.block 2 (.loop vf22b1)))))))))))) (.rg [V 33 (.mv (.t 6)),
V 34 (.bin .add (.t 33) (.k (.c (.i 1)))),
V 6 (.mv (.t 34))]))

def vf22c:VC:=.seq (.rg [V 1 (.box (.t 0)),
V 2 (.alloc [.ns,.i 0]),
V 3 (.mv (.k (.c (.b false))))]) (.seq (.rg [V 13 (.ld (some 2) (.t 1)),
V 14 (.call 42 [(.t 13)]),
V 4 (.alloc [.ns,.i 0]),
Vn (.st 2 (.t 4) (.t 14))]) (.seq (.seq (.rg [V 15 (.ld (some 2) (.t 1)),
V 16 (.call 43 [(.t 15)]),
V 17 (.bin .ne (.t 16) (.k (.c (.i 0))))]) (.cond (.t 17) (.seq (.rg [V 18 (.ld (some 2) (.t 4)),
Vn (.st 2 (.t 2) (.t 18)),
V 3 (.mv (.k (.c (.b false))))]) (.ret)) (.skip))) (.seq (.rg [V 19 (.ld (some 2) (.t 1)),
V 20 (.call 64 [(.t 19)]),
V 5 (.mv (.t 20))]) (.seq (.seq (.rg [V 21 (.fad 0 (.t 1)),
V 22 (.ld none (.t 21)),
V 23 (.len (.t 22)),
V 24 (.mv (.t 5)),
V 25 (.len (.t 24)),
V 26 (.bin .add (.t 23) (.t 25)),
V 27 (.bin .gt (.t 26) (.k (.c (.i 16))))]) (.cond (.t 27) (.seq (.rg [V 28 (.ld (some 2) (.t 4)),
Vn (.st 2 (.t 2) (.t 28)),
V 3 (.mv (.k (.c (.b false))))]) (.ret)) (.skip))) (.seq (.seq (.rg [V 6 (.mv (.k (.c (.i 0))))]) (.block 0 (.loop vf22b2))) (.seq (.rg [V 123 (.ld (some 2) (.t 4)),
Vn (.st 2 (.t 2) (.t 123)),
V 3 (.mv (.k (.c (.b true))))]) (.ret)))))))

def vf22:VF:=⟨vf22c,vf22v,[(2,(some (some 2))),(3,none)]⟩

theorem ok22:chkF Tryz.prog Tryz.f22 vf22=true:=by kernel_rfl

theorem dr22:drawsB vf22.body=true:=by kernel_rfl

def vf23v:List Nat:=[0,1,2,3,4,5,7,10,14,15,16,23,24,25,26,27,44]

def vf23b0:VC:=.seq (.rg [V 27 (.bin .lt (.t 26) (.t 25))]) (.seq (.cond (.t 27) (.skip) (.exit 2)) (.seq (.block 3 (.seq (.rg [V 28 (.idx 1 (.t 24) (.t 26)),
V 29 (.ld none (.t 28)),
V 7 (.mv (.t 29))]) (.seq (.rg [V 30 (.ld (some 2) (.t 1)),
V 31 (.mv (.t 7)),
V 32 (.call 57 [(.t 30),(.t 31)]),
V 33 (.len (.t 32)),
V 34 (.bin .gt (.t 33) (.k (.c (.i 1)))),
V 35 (.mv (.t 34)),
Vg 36 35 false (.fad 0 (.t 1)),
Vg 37 35 false (.ld none (.t 36)),
Vg 38 35 false (.mv (.t 7)),
Vg 39 35 false (.idx 6 (.t 37) (.t 38)),
Vg 40 35 false (.fad 0 (.t 39)),
Vg 41 35 false (.ld none (.t 40)),
Vg 42 35 false (.len (.t 41)),
Vg 43 35 false (.bin .gt (.t 42) (.k (.c (.i 0)))),
V 44 (.pick (.t 35) (.k (.c (.b true))) (.t 43))]) (.cond (.t 44) (.rg [V 45 (.mv (.t 3)),
V 46 (.mv (.t 4)),
V 47 (.mv (.t 7)),
V 48 (.build [.i 0,.i 0] [(0,1,(.t 46)),(1,1,(.t 47))]),
V 49 (.bsl 2 [.i 0,.i 0] 1 [(0,2,(.t 48))]),
V 50 (.app 2 (.t 45) (.t 49)),
V 3 (.mv (.t 50))]) (.skip))))) (.rg [V 51 (.bin .add (.t 26) (.k (.c (.i 1)))),
V 26 (.mv (.t 51))])))

def vf23b1:VC:=.seq (.rg [V 16 (.bin .lt (.t 15) (.t 14))]) (.seq (.cond (.t 16) (.skip) (.exit 0)) (.seq (.block 1 (.seq (.rg [V 17 (.mv (.t 15)),
V 4 (.mv (.t 17))]) (.seq (.rg [V 18 (.ld (some 2) (.t 1)),
V 19 (.mv (.t 4)),
V 20 (.call 65 [(.t 18),(.t 19)]),
V 5 (.mv (.t 20))]) (.seq (.seq (.rg [V 21 (.mv (.t 5)),
V 22 (.len (.t 21)),
V 23 (.bin .ne (.t 22) (.k (.c (.i 2))))]) (.cond (.t 23) (.exit 1) (.skip))) (.seq (.rg [V 24 (.mv (.t 5)),
V 25 (.len (.t 24)),
V 26 (.mv (.k (.c (.i 0))))]) (.block 2 (.loop vf23b0))))))) (.rg [V 52 (.bin .add (.t 15) (.k (.c (.i 1)))),
V 15 (.mv (.t 52))])))

def vf23c:VC:=.seq (.rg [V 1 (.box (.t 0)),
V 2 (.mv (.k (.c .ns)))]) (.seq (.seq (.rg [V 8 (.ld (some 2) (.t 1)),
V 9 (.call 51 [(.t 8)]),
V 10 (.not (.t 9))]) (.cond (.t 10) (.seq (.rg [V 2 (.mv (.k (.c .ns)))]) (.ret)) (.skip))) (.seq (.rg [V 11 (.bsl 2 [.i 0,.i 0] 0 []),
V 3 (.mv (.t 11))]) (.seq (.seq (.rg [V 12 (.fad 0 (.t 1)),
V 13 (.ld none (.t 12)),
V 14 (.len (.t 13)),
V 15 (.mv (.k (.c (.i 0))))]) (.block 0 (.loop vf23b1))) (.seq (.rg [V 53 (.mv (.t 3)),
V 2 (.mv (.t 53))]) (.ret)))))

def vf23:VF:=⟨vf23c,vf23v,[(2,none)]⟩

theorem ok23:chkF Tryz.prog Tryz.f23 vf23=true:=by kernel_rfl

theorem dr23:drawsB vf23.body=true:=by kernel_rfl

def vf24v:List Nat:=[0,2,3,4,5,12]

def vf24c:VC:=.seq (.rg [V 2 (.alloc [.ns,.i 0])]) (.seq (.rg [V 7 (.mv (.t 0)),
V 8 (.call 31 [(.t 7)]),
V 3 (.mv (.t 8))]) (.seq (.rg [V 9 (.mv (.t 3)),
V 10 (.call 30 [(.t 9)]),
V 4 (.alloc [.ns,.i 0]),
Vn (.st 2 (.t 4) (.t 10))]) (.seq (.seq (.rg [V 11 (.mv (.t 3)),
V 12 (.call 66 [(.t 11),(.k (.c (.i 4)))])]) (.cond (.t 12) (.seq (.rg [V 13 (.ld (some 2) (.t 4)),
Vn (.st 2 (.t 2) (.t 13))]) (.ret)) (.skip))) (.seq (.rg [V 15 (.ld (some 2) (.t 4)),
V 16 (.call 22 [(.t 15)]),
V 14 (.mv (.t 16)),
V 17 (.ext 0 (.t 14)),
V 18 (.ext 1 (.t 14)),
V 5 (.alloc [.ns,.i 0]),
Vn (.st 2 (.t 5) (.t 17)),
V 6 (.mv (.t 18))]) (.seq (.rg [V 19 (.ld (some 2) (.t 5)),
Vn (.st 2 (.t 2) (.t 19))]) (.ret))))))

def vf24:VF:=⟨vf24c,vf24v,[(2,(some (some 2)))]⟩

theorem ok24:chkF Tryz.prog Tryz.f24 vf24=true:=by kernel_rfl

theorem dr24:drawsB vf24.body=true:=by kernel_rfl

def vf25v:List Nat:=[0,1,2,3,4,5,6,7,10,19,29,30,31,43,60,61,62,63,88]

def vf25b0:VC:=.seq (.rg [V 63 (.bin .lt (.t 62) (.t 61))]) (.seq (.cond (.t 63) (.skip) (.exit 2)) (.seq (.block 3 (.seq (.rg [V 64 (.idx 2 (.t 60) (.t 62)),
V 65 (.ld (some 2) (.t 64)),
V 10 (.alloc [.i 0,.i 0]),
Vn (.st 2 (.t 10) (.t 65))]) (.rd [V 66 (.fad 0 (.t 4)),
Vc [0] [] true (V 67 (.ld none (.t 66))),
V 68 (.mv (.t 5)),
V 69 (.fad 0 (.t 4)),
Vc [3] [] true (V 70 (.ld none (.t 69))),
V 71 (.mv (.t 5)),
Vd [4,5] (V 72 (.idx 6 (.t 70) (.t 71))),
Vd [6] (V 73 (.fad 1 (.t 72))),
Vc [7] [] true (V 74 (.ld none (.t 73))),
V 75 (.fad 0 (.t 10)),
Vd [9] (V 76 (.ld none (.t 75))),
V 77 (.fad 1 (.t 10)),
Vd [11] (V 78 (.ld none (.t 77))),
Vd [10,12] (V 79 (.build [.i 0,.i 0,.i 0,.i 0,.i 0] [(0,1,(.k (.c (.i 25)))),(1,1,(.t 76)),(2,1,(.t 78))])),
Vc [13] [1,4,8] false (V 80 (.bsl 5 [.i 0,.i 0,.i 0,.i 0,.i 0] 1 [(0,5,(.t 79))])),
Vc [8,14] [1] false (V 81 (.app 5 (.t 74) (.t 80))),
Vd [1,2,15] (V 82 (.idx 6 (.t 67) (.t 68))),
Vd [16] (V 83 (.fad 1 (.t 82))),
Vd [17] (Vn (.st 1 (.t 83) (.t 81)))]))) (.rg [V 84 (.bin .add (.t 62) (.k (.c (.i 1)))),
V 62 (.mv (.t 84))])))

def vf25b1:VC:=.seq (.rg [V 31 (.bin .lt (.t 30) (.t 29))]) (.seq (.cond (.t 31) (.skip) (.exit 0)) (.seq (.block 1 (.seq (.rg [V 32 (.mv (.t 30)),
V 5 (.mv (.t 32))]) (.seq (.rg [V 33 (.fad 0 (.t 4)),
V 34 (.ld none (.t 33)),
V 35 (.mv (.t 5)),
V 36 (.idx 6 (.t 34) (.t 35)),
V 37 (.fad 0 (.t 36)),
Vn (.st 1 (.t 37) (.k (.c .ns)))]) (.seq (.rg [V 38 (.ld (some 2) (.t 1)),
V 39 (.mv (.t 5)),
V 40 (.call 65 [(.t 38),(.t 39)]),
V 6 (.mv (.t 40))]) (.seq (.seq (.rg [V 41 (.mv (.t 6)),
V 42 (.len (.t 41)),
V 43 (.bin .ne (.t 42) (.k (.c (.i 1))))]) (.cond (.t 43) (.exit 1) (.skip))) (.seq (.rd [V 45 (.fad 0 (.t 1)),
Vd [0] (V 46 (.ld none (.t 45))),
V 47 (.mv (.t 6)),
Vd [2] (V 48 (.idx 1 (.t 47) (.k (.c (.i 0))))),
Vd [3] (V 49 (.ld none (.t 48))),
Vd [1,4] (V 50 (.idx 6 (.t 46) (.t 49))),
Vd [5] (V 51 (.fad 0 (.t 50))),
Vd [6] (V 52 (.ld none (.t 51))),
V 53 (.mv (.t 5)),
Vc [7,8] [] true (V 54 (.call 68 [(.t 52),(.t 53)])),
V 55 (.fad 1 (.t 1)),
Vc [10] [9] false (V 56 (.ld none (.t 55))),
Vd [9,11] (V 57 (.call 67 [(.t 54),(.t 56)])),
Vd [12] (V 44 (.mv (.t 57))),
Vd [13] (V 58 (.ext 0 (.t 44))),
Vd [13] (V 59 (.ext 1 (.t 44))),
Vd [14] (V 7 (.mv (.t 58))),
Vd [15,16] (V 8 (.mv (.t 59)))]) (.seq (.rg [V 60 (.mv (.t 7)),
V 61 (.len (.t 60)),
V 62 (.mv (.k (.c (.i 0))))]) (.block 2 (.loop vf25b0))))))))) (.rg [V 85 (.bin .add (.t 30) (.k (.c (.i 1)))),
V 30 (.mv (.t 85))])))

def vf25c:VC:=.seq (.rg [V 1 (.box (.t 0)),
V 2 (.alloc [.ns,.i 0]),
V 3 (.mv (.k (.c (.b false))))]) (.seq (.seq (.rg [V 11 (.ld (some 2) (.t 1)),
V 12 (.call 18 [(.t 11)]),
V 13 (.bin .ne (.t 12) (.k (.c (.i 0)))),
V 14 (.mv (.t 13)),
Vg 15 14 false (.ld (some 2) (.t 1)),
Vg 16 14 false (.call 23 [(.t 15)]),
Vg 17 14 false (.len (.t 16)),
Vg 18 14 false (.bin .gt (.t 17) (.k (.c (.i 0)))),
V 19 (.pick (.t 14) (.k (.c (.b true))) (.t 18))]) (.cond (.t 19) (.seq (.rg [V 20 (.build [.ns,.i 0] []),
Vn (.st 2 (.t 2) (.t 20)),
V 3 (.mv (.k (.c (.b false))))]) (.ret)) (.skip))) (.seq (.rg [V 21 (.ld (some 2) (.t 1)),
V 22 (.call 32 [(.t 21)]),
V 4 (.alloc [.ns,.i 0]),
Vn (.st 2 (.t 4) (.t 22))]) (.seq (.rg [V 23 (.fad 1 (.t 4)),
V 24 (.ld none (.t 23)),
V 25 (.bin .add (.t 24) (.k (.c (.i 1)))),
V 26 (.fad 1 (.t 4)),
Vn (.st 1 (.t 26) (.t 25))]) (.seq (.seq (.rg [V 27 (.fad 0 (.t 1)),
V 28 (.ld none (.t 27)),
V 29 (.len (.t 28)),
V 30 (.mv (.k (.c (.i 0))))]) (.block 0 (.loop vf25b1))) (.seq (.seq (.rg [V 86 (.ld (some 2) (.t 4)),
V 87 (.call 51 [(.t 86)]),
V 88 (.not (.t 87))]) (.cond (.t 88) (.seq (.rg [V 89 (.build [.ns,.i 0] []),
Vn (.st 2 (.t 2) (.t 89)),
V 3 (.mv (.k (.c (.b false))))]) (.ret)) (.skip))) (.seq (.rg [V 90 (.ld (some 2) (.t 4)),
Vn (.st 2 (.t 2) (.t 90)),
V 3 (.mv (.k (.c (.b true))))]) (.ret)))))))

def vf25:VF:=⟨vf25c,vf25v,[(2,(some (some 2))),(3,none)]⟩

theorem ok25:chkF Tryz.prog Tryz.f25 vf25=true:=by kernel_rfl

theorem dr25:drawsB vf25.body=true:=by kernel_rfl
def vf26v:List Nat:=[0,1,2,3,4,5,6,7,8,17,29,42,55,84]

def vf26b0:VC:=.seq (.seq (.rg [V 52 (.mv (.t 8)),
V 53 (.mv (.t 7)),
V 54 (.len (.t 53)),
V 55 (.bin .lt (.t 52) (.t 54))]) (.cond (.t 55) (.skip) (.exit 2))) (.seq (.block 3 (.rd [V 58 (.fad 0 (.t 4)),
Vc [0] [] true (V 59 (.ld none (.t 58))),
V 60 (.mv (.t 5)),
V 61 (.fad 0 (.t 4)),
Vc [3] [] true (V 62 (.ld none (.t 61))),
V 63 (.mv (.t 5)),
Vd [4,5] (V 64 (.idx 6 (.t 62) (.t 63))),
Vd [6] (V 65 (.fad 1 (.t 64))),
Vc [7] [] true (V 66 (.ld none (.t 65))),
V 67 (.mv (.t 7)),
V 68 (.mv (.t 8)),
Vd [9,10] (V 69 (.idx 2 (.t 67) (.t 68))),
Vd [11] (V 70 (.fad 0 (.t 69))),
Vd [12] (V 71 (.ld none (.t 70))),
V 72 (.mv (.t 7)),
V 73 (.mv (.t 8)),
Vd [14,15] (V 74 (.idx 2 (.t 72) (.t 73))),
Vd [16] (V 75 (.fad 1 (.t 74))),
Vd [17] (V 76 (.ld none (.t 75))),
Vd [13,18] (V 77 (.build [.i 0,.i 0,.i 0,.i 0,.i 0] [(0,1,(.k (.c (.i 25)))),(1,1,(.t 71)),(2,1,(.t 76))])),
Vc [19] [1,4,8] false (V 78 (.bsl 5 [.i 0,.i 0,.i 0,.i 0,.i 0] 1 [(0,5,(.t 77))])),
Vc [8,20] [1] false (V 79 (.app 5 (.t 66) (.t 78))),
Vd [1,2,21] (V 80 (.idx 6 (.t 59) (.t 60))),
Vd [22] (V 81 (.fad 1 (.t 80))),
Vd [23] (Vn (.st 1 (.t 81) (.t 79)))])) (.rg [V 56 (.mv (.t 8)),
V 57 (.bin .add (.t 56) (.k (.c (.i 1)))),
V 8 (.mv (.t 57))]))

def vf26b1:VC:=.seq (.seq (.rg [V 25 (.mv (.t 5)),
V 26 (.fad 0 (.t 1)),
V 27 (.ld none (.t 26)),
V 28 (.len (.t 27)),
V 29 (.bin .lt (.t 25) (.t 28))]) (.cond (.t 29) (.skip) (.exit 0))) (.seq (.block 1 (.seq (.rg [V 32 (.fad 0 (.t 4)),
V 33 (.ld none (.t 32)),
V 34 (.mv (.t 5)),
V 35 (.idx 6 (.t 33) (.t 34)),
V 36 (.fad 0 (.t 35)),
Vn (.st 1 (.t 36) (.k (.c .ns)))]) (.seq (.rg [V 37 (.ld (some 2) (.t 1)),
V 38 (.mv (.t 5)),
V 39 (.call 69 [(.t 37),(.t 38)]),
V 6 (.mv (.t 39))]) (.seq (.seq (.rg [V 40 (.mv (.t 6)),
V 41 (.len (.t 40)),
V 42 (.bin .ne (.t 41) (.k (.c (.i 1))))]) (.cond (.t 42) (.exit 1) (.skip))) (.seq (.rd [V 43 (.ld (some 2) (.t 1)),
V 44 (.mv (.t 5)),
V 45 (.mv (.t 6)),
Vd [2] (V 46 (.idx 1 (.t 45) (.k (.c (.i 0))))),
Vd [3] (V 47 (.ld none (.t 46))),
Vc [0,1,4] [] true (V 48 (.call 71 [(.t 43),(.t 44),(.t 47)])),
V 49 (.fad 1 (.t 1)),
Vc [6] [5] false (V 50 (.ld none (.t 49))),
Vd [5,7] (V 51 (.call 70 [(.t 48),(.t 50)])),
Vd [8] (V 7 (.mv (.t 51)))]) (.seq (.rg [V 8 (.mv (.k (.c (.i 0))))]) (.block 2 (.loop vf26b0)))))))) (.rg [V 30 (.mv (.t 5)),
V 31 (.bin .add (.t 30) (.k (.c (.i 1)))),
V 5 (.mv (.t 31))]))

def vf26c:VC:=.seq (.rg [V 1 (.box (.t 0)),
V 2 (.alloc [.ns,.i 0]),
V 3 (.mv (.k (.c (.b false))))]) (.seq (.seq (.rg [V 9 (.ld (some 2) (.t 1)),
V 10 (.call 43 [(.t 9)]),
V 11 (.bin .ne (.t 10) (.k (.c (.i 0)))),
V 12 (.mv (.t 11)),
Vg 13 12 false (.ld (some 2) (.t 1)),
Vg 14 12 false (.call 64 [(.t 13)]),
Vg 15 12 false (.len (.t 14)),
Vg 16 12 false (.bin .gt (.t 15) (.k (.c (.i 0)))),
V 17 (.pick (.t 12) (.k (.c (.b true))) (.t 16))]) (.cond (.t 17) (.seq (.rg [V 18 (.build [.ns,.i 0] []),
Vn (.st 2 (.t 2) (.t 18)),
V 3 (.mv (.k (.c (.b false))))]) (.ret)) (.skip))) (.seq (.rg [V 19 (.ld (some 2) (.t 1)),
V 20 (.call 42 [(.t 19)]),
V 4 (.alloc [.ns,.i 0]),
Vn (.st 2 (.t 4) (.t 20))]) (.seq (.rg [V 21 (.fad 1 (.t 1)),
V 22 (.ld none (.t 21)),
V 23 (.bin .add (.t 22) (.k (.c (.i 1)))),
V 24 (.fad 1 (.t 4)),
Vn (.st 1 (.t 24) (.t 23))]) (.seq (.seq (.rg [V 5 (.mv (.k (.c (.i 0))))]) (.block 0 (.loop vf26b1))) (.seq (.seq (.rg [V 82 (.ld (some 2) (.t 4)),
V 83 (.call 52 [(.t 82)]),
V 84 (.not (.t 83))]) (.cond (.t 84) (.seq (.rg [V 85 (.build [.ns,.i 0] []),
Vn (.st 2 (.t 2) (.t 85)),
V 3 (.mv (.k (.c (.b false))))]) (.ret)) (.skip))) (.seq (.rg [V 86 (.ld (some 2) (.t 4)),
Vn (.st 2 (.t 2) (.t 86)),
V 3 (.mv (.k (.c (.b true))))]) (.ret)))))))

def vf26:VF:=⟨vf26c,vf26v,[(2,(some (some 2))),(3,none)]⟩

theorem ok26:chkF Tryz.prog Tryz.f26 vf26=true:=by kernel_rfl

theorem dr26:drawsB vf26.body=true:=by kernel_rfl

def vf27v:List Nat:=[0,1,2,3,5,7,10,13,14,15,16,20,21,22,23,28]

def vf27b0:VC:=.seq (.rg [V 23 (.bin .lt (.t 22) (.t 21))]) (.seq (.cond (.t 23) (.skip) (.exit 2)) (.seq (.block 3 (.seq (.rg [V 24 (.idx 5 (.t 20) (.t 22)),
V 25 (.ld (some 5) (.t 24)),
V 7 (.alloc [.i 0,.i 0,.i 0,.i 0,.i 0]),
Vn (.st 5 (.t 7) (.t 25))]) (.seq (.rg [V 26 (.fad 0 (.t 7)),
V 27 (.ld none (.t 26)),
V 28 (.bin .eq (.t 27) (.k (.c (.i 25))))]) (.cond (.t 28) (.rg [V 29 (.mv (.t 3)),
V 30 (.fad 1 (.t 7)),
V 31 (.ld none (.t 30)),
V 32 (.bsl 1 [.i 0] 1 [(0,1,(.t 31))]),
V 33 (.app 1 (.t 29) (.t 32)),
V 3 (.mv (.t 33))]) (.skip))))) (.rg [V 34 (.bin .add (.t 22) (.k (.c (.i 1)))),
V 22 (.mv (.t 34))])))

def vf27b1:VC:=.seq (.rg [V 16 (.bin .lt (.t 15) (.t 14))]) (.seq (.cond (.t 16) (.skip) (.exit 0)) (.seq (.block 1 (.seq (.rg [V 17 (.idx 6 (.t 13) (.t 15)),
V 18 (.ld (some 6) (.t 17)),
V 5 (.alloc [.ns,.ns,.i 0,.i 0,.i 0,.i 0]),
Vn (.st 6 (.t 5) (.t 18))]) (.seq (.rg [V 19 (.fad 1 (.t 5)),
V 20 (.ld none (.t 19)),
V 21 (.len (.t 20)),
V 22 (.mv (.k (.c (.i 0))))]) (.block 2 (.loop vf27b0))))) (.rg [V 35 (.bin .add (.t 15) (.k (.c (.i 1)))),
V 15 (.mv (.t 35))])))

def vf27c:VC:=.seq (.rg [V 1 (.box (.t 0)),
V 2 (.mv (.k (.c .ns)))]) (.seq (.seq (.rg [V 8 (.ld (some 2) (.t 1)),
V 9 (.call 51 [(.t 8)]),
V 10 (.not (.t 9))]) (.cond (.t 10) (.seq (.rg [V 2 (.mv (.k (.c .ns)))]) (.ret)) (.skip))) (.seq (.rg [V 11 (.bsl 1 [.i 0] 0 []),
V 3 (.mv (.t 11))]) (.seq (.seq (.rg [V 12 (.fad 0 (.t 1)),
V 13 (.ld none (.t 12)),
V 14 (.len (.t 13)),
V 15 (.mv (.k (.c (.i 0))))]) (.block 0 (.loop vf27b1))) (.seq (.rg [V 36 (.mv (.t 3)),
V 37 (.call 72 [(.t 36)])]) (.seq (.rg [V 38 (.mv (.t 3)),
V 39 (.call 73 [(.t 38)]),
V 2 (.mv (.t 39))]) (.ret))))))

def vf27:VF:=⟨vf27c,vf27v,[(2,none)]⟩

theorem ok27:chkF Tryz.prog Tryz.f27 vf27=true:=by kernel_rfl

theorem dr27:drawsB vf27.body=true:=by kernel_rfl

def vf28v:List Nat:=[0,1,4,5,9,17]

def vf28b0:VC:=.seq (.seq (.rg [V 6 (.mv (.t 5)),
V 7 (.mv (.t 0)),
V 8 (.len (.t 7)),
V 9 (.bin .lt (.t 6) (.t 8))]) (.cond (.t 9) (.skip) (.exit 0))) (.seq (.block 1 (.seq (.rg [V 12 (.mv (.t 0)),
V 13 (.mv (.t 5)),
V 14 (.idx 1 (.t 12) (.t 13)),
V 15 (.ld none (.t 14)),
V 16 (.mv (.t 1)),
V 17 (.bin .eq (.t 15) (.t 16))]) (.cond (.t 17) (.seq (.rg [V 4 (.mv (.k (.c (.b true))))]) (.ret)) (.skip)))) (.rg [V 10 (.mv (.t 5)),
V 11 (.bin .add (.t 10) (.k (.c (.i 1)))),
V 5 (.mv (.t 11))]))

def vf28c:VC:=.seq (.rg [V 4 (.mv (.k (.c (.b false))))]) (.seq (.seq (.rg [V 5 (.mv (.k (.c (.i 0))))]) (.block 0 (.loop vf28b0))) (.seq (.rg [V 4 (.mv (.k (.c (.b false))))]) (.ret)))

def vf28:VF:=⟨vf28c,vf28v,[(4,none)]⟩

theorem ok28:chkF Tryz.prog Tryz.f28 vf28=true:=by kernel_rfl

theorem dr28:drawsB vf28.body=true:=by kernel_rfl

def vf29v:List Nat:=[0,1,2]

def vf29c:VC:=.seq (.rg [V 1 (.box (.t 0)),
V 2 (.mv (.k (.c (.b false))))]) (.seq (.rg [V 3 (.ld (some 2) (.t 1)),
V 4 (.call 51 [(.t 3)]),
V 5 (.mv (.t 4)),
Vg 6 5 true (.fad 0 (.t 1)),
Vg 7 5 true (.ld none (.t 6)),
Vg 8 5 true (.call 74 [(.t 7),(.k (.f 75 []))]),
Vg 9 5 true (.not (.t 8)),
V 10 (.pick (.t 5) (.t 9) (.k (.c (.b false)))),
V 2 (.mv (.t 10))]) (.ret))

def vf29:VF:=⟨vf29c,vf29v,[(2,none)]⟩

theorem ok29:chkF Tryz.prog Tryz.f29 vf29=true:=by kernel_rfl

theorem dr29:drawsB vf29.body=true:=by kernel_rfl

def vf30v:List Nat:=[0,2,3,4,5,21,22,31,42,64,67,84,87,105,108,123,132,151]

def vf30r0:List VO:=[V 109 (.fad 0 (.t 3)),Vd [0] (V 110 (.ld none (.t 109))),V 111 (.mv (.t 4)),Vd [1,2] (V 112 (.idx 6 (.t 110) (.t 111))),Vd [3] (V 113 (.fad 1 (.t 112))),Vd [4] (V 114 (.ld none (.t 113))),V 115 (.mv (.t 0)),V 116 (.mv (.t 5)),Vd [6,7] (V 117 (.call 77 [(.t 115),(.t 116)])),V 118 (.mv (.t 0)),V 119 (.bsl 1 [.i 0] 10 [(0,1,(.k (.c (.i 0)))),(1,1,(.k (.c (.i 1)))),(2,1,(.k (.c (.i 11)))),(3,1,(.k (.c (.i 20)))),(4,1,(.k (.c (.i 21)))),(5,1,(.k (.c (.i 22)))),(6,1,(.k (.c (.i 23)))),(7,1,(.k (.c (.i 24)))),(8,1,(.k (.c (.i 25)))),(9,1,(.k (.c (.i 26))))]),Vd [8,9,10] (V 120 (.call 78 [(.t 118),(.t 119)])),Vd [5,11] (V 121 (.idx 5 (.t 114) (.t 117))),Vd [12] (V 122 (.fad 0 (.t 121))),Vd [13] (Vn (.st 1 (.t 122) (.t 120)))]

def vf30t0:VT:=.split 8 10 (.leaf [(0,Vc [] [] false (V 109 (.fad 0 (.t 3)))),
(1,Vc [0] [] true (V 110 (.ld none (.t 109)))),
(2,Vc [] [] false (V 111 (.mv (.t 4)))),
(3,Vc [1,2] [] false (V 112 (.idx 6 (.t 110) (.t 111)))),
(4,Vc [3] [] false (V 113 (.fad 1 (.t 112)))),
(5,Vc [4] [] true (V 114 (.ld none (.t 113)))),
(6,Vc [] [] false (V 115 (.mv (.t 0)))),
(7,Vc [] [] false (V 116 (.mv (.t 5)))),
(8,Vc [6,7] [1,5] false (V 117 (.call 77 [(.t 115),(.t 116)]))),
(9,Vc [] [] false (V 118 (.mv (.t 0)))),
(10,Vc [] [1,5] false (V 119 (.bsl 1 [.i 0] 10 [(0,1,(.k (.c (.i 0)))),(1,1,(.k (.c (.i 1)))),(2,1,(.k (.c (.i 11)))),(3,1,(.k (.c (.i 20)))),(4,1,(.k (.c (.i 21)))),(5,1,(.k (.c (.i 22)))),(6,1,(.k (.c (.i 23)))),(7,1,(.k (.c (.i 24)))),(8,1,(.k (.c (.i 25)))),(9,1,(.k (.c (.i 26))))]))),
(11,Vc [8,9,10] [1,5] false (V 120 (.call 78 [(.t 118),(.t 119)]))),
(12,Vc [5,11] [] false (V 121 (.idx 5 (.t 114) (.t 117)))),
(13,Vc [12] [] false (V 122 (.fad 0 (.t 121)))),
(14,Vc [13] [] false (Vn (.st 1 (.t 122) (.t 120))))]) (.leaf [(0,Vc [] [] false (V 109 (.fad 0 (.t 3)))),
(1,Vc [0] [] true (V 110 (.ld none (.t 109)))),
(2,Vc [] [] false (V 111 (.mv (.t 4)))),
(3,Vc [1,2] [] false (V 112 (.idx 6 (.t 110) (.t 111)))),
(4,Vc [3] [] false (V 113 (.fad 1 (.t 112)))),
(5,Vc [4] [] true (V 114 (.ld none (.t 113)))),
(6,Vc [] [] false (V 115 (.mv (.t 0)))),
(7,Vc [] [] false (V 116 (.mv (.t 5)))),
(9,Vc [] [] false (V 118 (.mv (.t 0)))),
(10,Vc [] [1,5] false (V 119 (.bsl 1 [.i 0] 10 [(0,1,(.k (.c (.i 0)))),(1,1,(.k (.c (.i 1)))),(2,1,(.k (.c (.i 11)))),(3,1,(.k (.c (.i 20)))),(4,1,(.k (.c (.i 21)))),(5,1,(.k (.c (.i 22)))),(6,1,(.k (.c (.i 23)))),(7,1,(.k (.c (.i 24)))),(8,1,(.k (.c (.i 25)))),(9,1,(.k (.c (.i 26))))]))),
(8,Vc [6,7] [1,5] false (V 117 (.call 77 [(.t 115),(.t 116)]))),
(11,Vc [8,9,10] [1,5] false (V 120 (.call 78 [(.t 118),(.t 119)]))),
(12,Vc [5,11] [] false (V 121 (.idx 5 (.t 114) (.t 117)))),
(13,Vc [12] [] false (V 122 (.fad 0 (.t 121)))),
(14,Vc [13] [] false (Vn (.st 1 (.t 122) (.t 120))))])

def vf30c:VC:=.seq (.rg [V 2 (.alloc [.ns,.i 0])]) (.seq (.rg [V 6 (.mv (.t 0)),
V 7 (.call 76 [(.t 6)]),
V 3 (.alloc [.ns,.i 0]),
Vn (.st 2 (.t 3) (.t 7))]) (.seq (.rg [V 8 (.mv (.t 0)),
V 9 (.fad 0 (.t 3)),
V 10 (.ld none (.t 9)),
V 11 (.len (.t 10)),
V 12 (.call 77 [(.t 8),(.t 11)]),
V 4 (.mv (.t 12))]) (.seq (.rg [V 13 (.fad 0 (.t 3)),
V 14 (.ld none (.t 13)),
V 15 (.mv (.t 4)),
V 16 (.idx 6 (.t 14) (.t 15)),
V 17 (.fad 1 (.t 16)),
V 18 (.ld none (.t 17)),
V 19 (.len (.t 18)),
V 5 (.mv (.t 19))]) (.seq (.seq (.rg [V 20 (.mv (.t 0)),
V 21 (.call 77 [(.t 20),(.k (.c (.i 16)))])]) (.block 0 (.seq (.rg [V 23 (.bin .eq (.t 21) (.k (.c (.i 0)))),
V 22 (.mv (.t 23))]) (.cond (.t 22) (.rg [V 24 (.mv (.t 0)),
V 25 (.fad 1 (.t 3)),
V 26 (.ld none (.t 25)),
V 27 (.bin .sub (.t 26) (.k (.c (.i 1)))),
V 28 (.bsl 1 [.i 0] 5 [(0,1,(.k (.c (.i (-1))))),(1,1,(.k (.c (.i 0)))),(2,1,(.t 27)),(3,1,(.k (.c (.i 80)))),(4,1,(.k (.c (.i 81))))]),
V 29 (.call 78 [(.t 24),(.t 28)]),
V 30 (.fad 1 (.t 3)),
Vn (.st 1 (.t 30) (.t 29))]) (.seq (.rg [V 32 (.bin .eq (.t 21) (.k (.c (.i 1)))),
V 31 (.mv (.t 32))]) (.cond (.t 31) (.rd [V 33 (.fad 0 (.t 3)),
Vc [0] [] true (V 34 (.ld none (.t 33))),
V 35 (.mv (.t 4)),
V 36 (.mv (.t 0)),
Vc [3] [1] false (V 37 (.call 77 [(.t 36),(.k (.c (.i 18)))])),
Vd [4] (V 38 (.bin .sub (.t 37) (.k (.c (.i 1))))),
Vd [1,2,5] (V 39 (.idx 6 (.t 34) (.t 35))),
Vd [6] (V 40 (.fad 2 (.t 39))),
Vd [7] (V 41 (.fad 2 (.t 40))),
Vd [8] (Vn (.st 1 (.t 41) (.t 38)))]) (.seq (.rg [V 43 (.bin .eq (.t 21) (.k (.c (.i 2)))),
V 42 (.mv (.t 43))]) (.cond (.t 42) (.rd [V 44 (.fad 0 (.t 3)),
Vc [0] [] true (V 45 (.ld none (.t 44))),
V 46 (.mv (.t 4)),
V 47 (.mv (.t 0)),
Vc [3] [1] true (V 48 (.call 77 [(.t 47),(.k (.c (.i 5)))])),
V 49 (.mv (.t 0)),
Vc [4,5] [1] true (V 50 (.call 77 [(.t 49),(.k (.c (.i 5)))])),
V 51 (.mv (.t 0)),
V 52 (.fad 0 (.t 3)),
Vc [8] [4,6] false (V 53 (.ld none (.t 52))),
Vd [9] (V 54 (.len (.t 53))),
Vc [6,7,10] [1] true (V 55 (.call 77 [(.t 51),(.t 54)])),
V 56 (.mv (.t 0)),
V 57 (.fad 0 (.t 3)),
Vc [13] [4,6,11] false (V 58 (.ld none (.t 57))),
Vd [14] (V 59 (.len (.t 58))),
Vc [11,12,15] [1] false (V 60 (.call 77 [(.t 56),(.t 59)])),
Vd [16] (V 61 (.build [.i 0,.i 0,.i 0,.i 0] [(0,1,(.t 48)),(1,1,(.t 50)),(2,1,(.t 55)),(3,1,(.t 60))])),
Vd [1,2,17] (V 62 (.idx 6 (.t 45) (.t 46))),
Vd [18] (V 63 (.fad 2 (.t 62))),
Vd [19] (Vn (.st 4 (.t 63) (.t 61)))]) (.seq (.rg [V 65 (.bin .eq (.t 21) (.k (.c (.i 3)))),
V 64 (.mv (.t 65))]) (.cond (.t 64) (.seq (.rg [V 66 (.mv (.t 5)),
V 67 (.bin .gt (.t 66) (.k (.c (.i 0))))]) (.cond (.t 67) (.rd [V 68 (.fad 0 (.t 3)),
Vc [0] [] true (V 69 (.ld none (.t 68))),
V 70 (.mv (.t 4)),
Vd [1,2] (V 71 (.idx 6 (.t 69) (.t 70))),
Vd [3] (V 72 (.fad 1 (.t 71))),
Vc [4] [] true (V 73 (.ld none (.t 72))),
V 74 (.mv (.t 0)),
V 75 (.mv (.t 5)),
Vc [6,7] [1,5] true (V 76 (.call 77 [(.t 74),(.t 75)])),
V 77 (.mv (.t 0)),
V 78 (.fad 1 (.t 3)),
Vc [10] [8] false (V 79 (.ld none (.t 78))),
Vd [11] (V 80 (.bin .add (.t 79) (.k (.c (.i 1))))),
Vc [8,9,12] [1,5] false (V 81 (.call 77 [(.t 77),(.t 80)])),
Vd [5,13] (V 82 (.idx 5 (.t 73) (.t 76))),
Vd [14] (V 83 (.fad 2 (.t 82))),
Vd [15] (Vn (.st 1 (.t 83) (.t 81)))]) (.skip))) (.seq (.rg [V 85 (.bin .eq (.t 21) (.k (.c (.i 4)))),
V 84 (.mv (.t 85))]) (.cond (.t 84) (.seq (.rg [V 86 (.mv (.t 5)),
V 87 (.bin .gt (.t 86) (.k (.c (.i 0))))]) (.cond (.t 87) (.rd [V 88 (.fad 0 (.t 3)),
Vc [0] [] true (V 89 (.ld none (.t 88))),
V 90 (.mv (.t 4)),
Vd [1,2] (V 91 (.idx 6 (.t 89) (.t 90))),
Vd [3] (V 92 (.fad 1 (.t 91))),
Vc [4] [] true (V 93 (.ld none (.t 92))),
V 94 (.mv (.t 0)),
V 95 (.mv (.t 5)),
Vc [6,7] [1,5] true (V 96 (.call 77 [(.t 94),(.t 95)])),
V 97 (.mv (.t 0)),
V 98 (.fad 1 (.t 3)),
Vc [10] [8] false (V 99 (.ld none (.t 98))),
Vd [11] (V 100 (.bin .add (.t 99) (.k (.c (.i 1))))),
Vc [8,9,12] [1,5] false (V 101 (.call 77 [(.t 97),(.t 100)])),
Vd [13] (V 102 (.bin .sub (.t 101) (.k (.c (.i 1))))),
Vd [5,14] (V 103 (.idx 5 (.t 93) (.t 96))),
Vd [15] (V 104 (.fad 1 (.t 103))),
Vd [16] (Vn (.st 1 (.t 104) (.t 102)))]) (.skip))) (.seq (.rg [V 106 (.bin .eq (.t 21) (.k (.c (.i 5)))),
V 105 (.mv (.t 106))]) (.cond (.t 105) (.seq (.rg [V 107 (.mv (.t 5)),
V 108 (.bin .gt (.t 107) (.k (.c (.i 0))))]) (.cond (.t 108) (.rx vf30r0 vf30t0) (.skip))) (.seq (.rg [V 124 (.bin .eq (.t 21) (.k (.c (.i 6)))),
V 123 (.mv (.t 124))]) (.cond (.t 123) (.seq (.rg [V 125 (.fad 0 (.t 3)),
V 126 (.ld none (.t 125)),
V 127 (.mv (.t 4)),
V 128 (.idx 6 (.t 126) (.t 127)),
V 129 (.fad 0 (.t 128)),
V 130 (.ld none (.t 129)),
V 131 (.len (.t 130)),
V 132 (.bin .gt (.t 131) (.k (.c (.i 0))))]) (.cond (.t 132) (.rd [V 133 (.fad 0 (.t 3)),
Vd [0] (V 134 (.ld none (.t 133))),
V 135 (.mv (.t 4)),
Vd [1,2] (V 136 (.idx 6 (.t 134) (.t 135))),
Vd [3] (V 137 (.fad 0 (.t 136))),
Vd [4] (V 138 (.ld none (.t 137))),
V 139 (.fad 0 (.t 3)),
Vd [6] (V 140 (.ld none (.t 139))),
V 141 (.mv (.t 4)),
Vd [7,8] (V 142 (.idx 6 (.t 140) (.t 141))),
Vd [9] (V 143 (.fad 0 (.t 142))),
Vd [10] (V 144 (.ld none (.t 143))),
Vd [11] (V 145 (.idx 2 (.t 144) (.k (.c (.i 0))))),
Vd [12] (V 146 (.fad 1 (.t 145))),
Vd [13] (V 147 (.ld none (.t 146))),
Vd [14] (V 148 (.slc 2 (.t 147) (some (.k (.c (.i 1)))) none)),
Vd [5,15] (V 149 (.idx 2 (.t 138) (.k (.c (.i 0))))),
Vd [16] (V 150 (.fad 1 (.t 149))),
Vd [17] (Vn (.st 1 (.t 150) (.t 148)))]) (.skip))) (.seq (.rg [V 152 (.bin .eq (.t 21) (.k (.c (.i 7)))),
V 151 (.mv (.t 152))]) (.cond (.t 151) (.rd [V 153 (.fad 0 (.t 3)),
Vc [0] [] true (V 154 (.ld none (.t 153))),
V 155 (.mv (.t 4)),
V 156 (.fad 0 (.t 3)),
Vc [3] [] true (V 157 (.ld none (.t 156))),
V 158 (.mv (.t 4)),
Vd [4,5] (V 159 (.idx 6 (.t 157) (.t 158))),
Vd [6] (V 160 (.fad 0 (.t 159))),
Vc [7] [] true (V 161 (.ld none (.t 160))),
V 162 (.mv (.t 0)),
V 163 (.fad 1 (.t 3)),
Vd [10] (V 164 (.ld none (.t 163))),
Vc [11] [1,4,8] false (V 165 (.call 79 [(.t 164),(.k (.c (.i 1)))])),
Vc [9,12] [1,4,8] false (V 166 (.call 77 [(.t 162),(.t 165)])),
Vd [13] (V 167 (.build [.i 0,.ns] [(0,1,(.t 166))])),
Vc [14] [1,4,8] false (V 168 (.bsl 2 [.i 0,.ns] 1 [(0,2,(.t 167))])),
Vc [8,15] [1] false (V 169 (.app 2 (.t 161) (.t 168))),
Vd [1,2,16] (V 170 (.idx 6 (.t 154) (.t 155))),
Vd [17] (V 171 (.fad 0 (.t 170))),
Vd [18] (Vn (.st 1 (.t 171) (.t 169)))]) (.skip))))))))))))))))))) (.seq (.rg [V 172 (.ld (some 2) (.t 3)),
Vn (.st 2 (.t 2) (.t 172))]) (.ret))))))

def vf30:VF:=⟨vf30c,vf30v,[(2,(some (some 2)))]⟩

theorem ok30:chkF Tryz.prog Tryz.f30 vf30=true:=by kernel_rfl

theorem dr30:drawsB vf30.body=true:=by kernel_rfl

def vf31v:List Nat:=[0,2,3,4,15]

def vf31b0:VC:=.seq (.seq (.rg [V 8 (.mv (.t 4)),
V 9 (.mv (.t 0)),
V 10 (.len (.t 9)),
V 11 (.bin .lt (.t 8) (.t 10)),
V 12 (.mv (.t 11)),
Vg 13 12 true (.mv (.t 4)),
Vg 14 12 true (.bin .lt (.t 13) (.k (.c (.i 4000)))),
V 15 (.pick (.t 12) (.t 14) (.k (.c (.b false))))]) (.cond (.t 15) (.skip) (.exit 0))) (.seq (.block 1 (.rg [V 18 (.mv (.t 3)),
V 19 (.bin .mul (.t 18) (.k (.c (.i 131)))),
V 20 (.mv (.t 0)),
V 21 (.mv (.t 4)),
V 22 (.idx 1 (.t 20) (.t 21)),
V 23 (.ld none (.t 22)),
V 24 (.b2i (.t 23)),
V 25 (.bin .add (.t 19) (.t 24)),
V 26 (.bin .add (.t 25) (.k (.c (.i 7)))),
V 27 (.bin .and (.t 26) (.k (.c (.i 1073741823)))),
V 3 (.mv (.t 27))])) (.rg [V 16 (.mv (.t 4)),
V 17 (.bin .add (.t 16) (.k (.c (.i 1)))),
V 4 (.mv (.t 17))]))

def vf31c:VC:=.seq (.rg [V 2 (.mv (.k (.c .np)))]) (.seq (.rg [V 5 (.mv (.t 0)),
V 6 (.len (.t 5)),
V 7 (.bin .add (.k (.c (.i 17111))) (.t 6)),
V 3 (.mv (.t 7))]) (.seq (.seq (.rg [V 4 (.mv (.k (.c (.i 0))))]) (.block 0 (.loop vf31b0))) (.seq (.rg [V 28 (.mv (.t 0)),
V 29 (.mv (.t 3)),
V 30 (.build [.ns,.i 0,.i 0] [(0,1,(.t 28)),(2,1,(.t 29))]),
V 31 (.box (.t 30)),
V 2 (.mv (.t 31))]) (.ret))))

def vf31:VF:=⟨vf31c,vf31v,[(2,none)]⟩

theorem ok31:chkF Tryz.prog Tryz.f31 vf31=true:=by kernel_rfl

theorem dr31:drawsB vf31.body=true:=by kernel_rfl

def vf32v:List Nat:=[0,1,2,3,5,6,8,13,14,15,16,26,27,28,29]

def vf32r0:List VO:=[V 19 (.fad 1 (.t 5)),Vd [0] (V 20 (.ld none (.t 19))),Vd [1] (V 21 (.call 80 [(.t 20)])),V 22 (.fad 2 (.t 5)),Vd [3] (V 23 (.ld (some 4) (.t 22))),Vd [2,4] (V 24 (.build [.ns,.ns,.i 0,.i 0,.i 0,.i 0] [(1,1,(.t 21)),(2,4,(.t 23))])),V 6 (.alloc [.ns,.ns,.i 0,.i 0,.i 0,.i 0]),Vd [5,6] (Vn (.st 6 (.t 6) (.t 24)))]

def vf32t0:VT:=.split 2 6 (.leaf [(0,Vc [] [] false (V 19 (.fad 1 (.t 5)))),
(1,Vc [0] [] false (V 20 (.ld none (.t 19)))),
(2,Vc [1] [] true (V 21 (.call 80 [(.t 20)]))),
(3,Vc [] [] false (V 22 (.fad 2 (.t 5)))),
(4,Vc [3] [2] true (V 23 (.ld (some 4) (.t 22)))),
(5,Vc [2,4] [] false (V 24 (.build [.ns,.ns,.i 0,.i 0,.i 0,.i 0] [(1,1,(.t 21)),(2,4,(.t 23))]))),
(6,Vc [] [4] false (V 6 (.alloc [.ns,.ns,.i 0,.i 0,.i 0,.i 0]))),
(7,Vc [5,6] [] false (Vn (.st 6 (.t 6) (.t 24))))]) (.leaf [(0,Vc [] [] false (V 19 (.fad 1 (.t 5)))),
(1,Vc [0] [] true (V 20 (.ld none (.t 19)))),
(3,Vc [] [] false (V 22 (.fad 2 (.t 5)))),
(4,Vc [3] [] true (V 23 (.ld (some 4) (.t 22)))),
(6,Vc [] [1,4] false (V 6 (.alloc [.ns,.ns,.i 0,.i 0,.i 0,.i 0]))),
(2,Vc [1] [4] false (V 21 (.call 80 [(.t 20)]))),
(5,Vc [2,4] [] false (V 24 (.build [.ns,.ns,.i 0,.i 0,.i 0,.i 0] [(1,1,(.t 21)),(2,4,(.t 23))]))),
(7,Vc [5,6] [] false (Vn (.st 6 (.t 6) (.t 24))))])

def vf32b0:VC:=.seq (.rg [V 29 (.bin .lt (.t 28) (.t 27))]) (.seq (.cond (.t 29) (.skip) (.exit 2)) (.seq (.block 3 (.seq (.rg [V 30 (.idx 2 (.t 26) (.t 28)),
V 31 (.ld (some 2) (.t 30)),
V 8 (.alloc [.i 0,.ns]),
Vn (.st 2 (.t 8) (.t 31))]) (.rd [V 32 (.fad 0 (.t 6)),
Vc [0] [] true (V 33 (.ld none (.t 32))),
V 34 (.fad 0 (.t 8)),
Vc [2] [] true (V 35 (.ld none (.t 34))),
V 36 (.fad 1 (.t 8)),
Vd [4] (V 37 (.ld none (.t 36))),
Vc [5] [1,3] false (V 38 (.call 81 [(.t 37)])),
Vd [3,6] (V 39 (.build [.i 0,.ns] [(0,1,(.t 35)),(1,1,(.t 38))])),
Vc [7] [1] false (V 40 (.bsl 2 [.i 0,.ns] 1 [(0,2,(.t 39))])),
Vd [1,8] (V 41 (.app 2 (.t 33) (.t 40))),
Vd [9] (V 42 (.fad 0 (.t 6))),
Vd [10] (Vn (.st 1 (.t 42) (.t 41)))]))) (.rg [V 43 (.bin .add (.t 28) (.k (.c (.i 1)))),
V 28 (.mv (.t 43))])))

def vf32b1:VC:=.seq (.rg [V 16 (.bin .lt (.t 15) (.t 14))]) (.seq (.cond (.t 16) (.skip) (.exit 0)) (.seq (.block 1 (.seq (.rg [V 17 (.idx 6 (.t 13) (.t 15)),
V 18 (.ld (some 6) (.t 17)),
V 5 (.alloc [.ns,.ns,.i 0,.i 0,.i 0,.i 0]),
Vn (.st 6 (.t 5) (.t 18))]) (.seq (.rx vf32r0 vf32t0) (.seq (.seq (.rg [V 25 (.fad 0 (.t 5)),
V 26 (.ld none (.t 25)),
V 27 (.len (.t 26)),
V 28 (.mv (.k (.c (.i 0))))]) (.block 2 (.loop vf32b0))) (.rg [V 44 (.fad 0 (.t 3)),
V 45 (.ld none (.t 44)),
V 46 (.ld (some 6) (.t 6)),
V 47 (.bsl 6 [.ns,.ns,.i 0,.i 0,.i 0,.i 0] 1 [(0,6,(.t 46))]),
V 48 (.app 6 (.t 45) (.t 47)),
V 49 (.fad 0 (.t 3)),
Vn (.st 1 (.t 49) (.t 48))]))))) (.rg [V 50 (.bin .add (.t 15) (.k (.c (.i 1)))),
V 15 (.mv (.t 50))])))

def vf32c:VC:=.seq (.rg [V 1 (.box (.t 0)),
V 2 (.alloc [.ns,.i 0])]) (.seq (.rg [V 9 (.fad 1 (.t 1)),
V 10 (.ld none (.t 9)),
V 11 (.build [.ns,.i 0] [(1,1,(.t 10))]),
V 3 (.alloc [.ns,.i 0]),
Vn (.st 2 (.t 3) (.t 11))]) (.seq (.seq (.rg [V 12 (.fad 0 (.t 1)),
V 13 (.ld none (.t 12)),
V 14 (.len (.t 13)),
V 15 (.mv (.k (.c (.i 0))))]) (.block 0 (.loop vf32b1))) (.seq (.rg [V 51 (.ld (some 2) (.t 3)),
Vn (.st 2 (.t 2) (.t 51))]) (.ret))))

def vf32:VF:=⟨vf32c,vf32v,[(2,(some (some 2)))]⟩

theorem ok32:chkF Tryz.prog Tryz.f32 vf32=true:=by kernel_rfl

theorem dr32:drawsB vf32.body=true:=by kernel_rfl

def vf38v:List Nat:=[0,1,2,5]

def vf38c:VC:=.seq (.rg [V 1 (.box (.t 0)),
V 2 (.mv (.k (.c (.i 0))))]) (.seq (.seq (.rg [V 3 (.fad 0 (.t 1)),
V 4 (.ld none (.t 3)),
V 5 (.call 85 [(.t 4),(.k (.c (.y 68)))])]) (.cond (.t 5) (.seq (.rg [V 6 (.fad 1 (.t 1)),
V 7 (.ld none (.t 6)),
V 2 (.mv (.t 7))]) (.ret)) (.skip))) (.seq (.rg [V 2 (.mv (.k (.c (.i (-1)))))]) (.ret)))

def vf38:VF:=⟨vf38c,vf38v,[(2,none)]⟩

theorem ok38:chkF Tryz.prog Tryz.f38 vf38=true:=by kernel_rfl

theorem dr38:drawsB vf38.body=true:=by kernel_rfl

def vf40v:List Nat:=[0,2]

def vf40c:VC:=.seq (.rg [V 2 (.mv (.k (.c (.b false))))]) (.seq (.rg [V 3 (.mv (.t 0)),
V 4 (.call 86 [(.t 3),(.k (.c (.i 1))),(.k (.c (.i 10)))]),
V 2 (.mv (.t 4))]) (.ret))

def vf40:VF:=⟨vf40c,vf40v,[(2,none)]⟩

theorem ok40:chkF Tryz.prog Tryz.f40 vf40=true:=by kernel_rfl

theorem dr40:drawsB vf40.body=true:=by kernel_rfl

def vf42v:List Nat:=[0,1,2,3,4,5,6,7,15,41]

def vf42r0:List VO:=[V 18 (.bsl 5 [.i 0,.i 0,.i 0,.i 0,.i 0] 0 []),V 19 (.fad 0 (.t 1)),Vd [1] (V 20 (.ld none (.t 19))),V 21 (.mv (.t 4)),Vd [2,3] (V 22 (.idx 6 (.t 20) (.t 21))),Vd [4] (V 23 (.fad 1 (.t 22))),Vd [5] (V 24 (.ld none (.t 23))),Vd [0,6] (V 25 (.app 5 (.t 18) (.t 24))),V 26 (.fad 0 (.t 1)),Vd [8] (V 27 (.ld none (.t 26))),V 28 (.mv (.t 4)),Vd [9,10] (V 29 (.idx 6 (.t 27) (.t 28))),Vd [11] (V 30 (.fad 2 (.t 29))),Vd [12] (V 31 (.ld (some 4) (.t 30))),Vd [7,13] (V 32 (.build [.ns,.ns,.i 0,.i 0,.i 0,.i 0] [(1,1,(.t 25)),(2,4,(.t 31))])),V 5 (.alloc [.ns,.ns,.i 0,.i 0,.i 0,.i 0]),Vd [14,15] (Vn (.st 6 (.t 5) (.t 32)))]

def vf42t0:VT:=.split 0 15 (.split 7 15 (.leaf [(0,Vc [] [] true (V 18 (.bsl 5 [.i 0,.i 0,.i 0,.i 0,.i 0] 0 []))),
(1,Vc [] [] false (V 19 (.fad 0 (.t 1)))),
(2,Vc [1] [0] false (V 20 (.ld none (.t 19)))),
(3,Vc [] [] false (V 21 (.mv (.t 4)))),
(4,Vc [2,3] [] false (V 22 (.idx 6 (.t 20) (.t 21)))),
(5,Vc [4] [] false (V 23 (.fad 1 (.t 22)))),
(6,Vc [5] [0] false (V 24 (.ld none (.t 23)))),
(7,Vc [0,6] [] true (V 25 (.app 5 (.t 18) (.t 24)))),
(8,Vc [] [] false (V 26 (.fad 0 (.t 1)))),
(9,Vc [8] [0,7] true (V 27 (.ld none (.t 26)))),
(10,Vc [] [] false (V 28 (.mv (.t 4)))),
(11,Vc [9,10] [] false (V 29 (.idx 6 (.t 27) (.t 28)))),
(12,Vc [11] [] false (V 30 (.fad 2 (.t 29)))),
(13,Vc [12] [0,7] true (V 31 (.ld (some 4) (.t 30)))),
(14,Vc [7,13] [] false (V 32 (.build [.ns,.ns,.i 0,.i 0,.i 0,.i 0] [(1,1,(.t 25)),(2,4,(.t 31))]))),
(15,Vc [] [9,13] false (V 5 (.alloc [.ns,.ns,.i 0,.i 0,.i 0,.i 0]))),
(16,Vc [14,15] [] false (Vn (.st 6 (.t 5) (.t 32))))]) (.leaf [(0,Vc [] [] true (V 18 (.bsl 5 [.i 0,.i 0,.i 0,.i 0,.i 0] 0 []))),
(1,Vc [] [] false (V 19 (.fad 0 (.t 1)))),
(2,Vc [1] [0] true (V 20 (.ld none (.t 19)))),
(3,Vc [] [] false (V 21 (.mv (.t 4)))),
(4,Vc [2,3] [] false (V 22 (.idx 6 (.t 20) (.t 21)))),
(5,Vc [4] [] false (V 23 (.fad 1 (.t 22)))),
(6,Vc [5] [0] true (V 24 (.ld none (.t 23)))),
(8,Vc [] [] false (V 26 (.fad 0 (.t 1)))),
(9,Vc [8] [0] true (V 27 (.ld none (.t 26)))),
(10,Vc [] [] false (V 28 (.mv (.t 4)))),
(11,Vc [9,10] [] false (V 29 (.idx 6 (.t 27) (.t 28)))),
(12,Vc [11] [] false (V 30 (.fad 2 (.t 29)))),
(13,Vc [12] [0] true (V 31 (.ld (some 4) (.t 30)))),
(15,Vc [] [2,6,9,13] false (V 5 (.alloc [.ns,.ns,.i 0,.i 0,.i 0,.i 0]))),
(7,Vc [0,6] [9,13] false (V 25 (.app 5 (.t 18) (.t 24)))),
(14,Vc [7,13] [] false (V 32 (.build [.ns,.ns,.i 0,.i 0,.i 0,.i 0] [(1,1,(.t 25)),(2,4,(.t 31))]))),
(16,Vc [14,15] [] false (Vn (.st 6 (.t 5) (.t 32))))])) (.leaf [(1,Vc [] [] false (V 19 (.fad 0 (.t 1)))),
(2,Vc [1] [] true (V 20 (.ld none (.t 19)))),
(3,Vc [] [] false (V 21 (.mv (.t 4)))),
(4,Vc [2,3] [] false (V 22 (.idx 6 (.t 20) (.t 21)))),
(5,Vc [4] [] false (V 23 (.fad 1 (.t 22)))),
(6,Vc [5] [] true (V 24 (.ld none (.t 23)))),
(8,Vc [] [] false (V 26 (.fad 0 (.t 1)))),
(9,Vc [8] [] true (V 27 (.ld none (.t 26)))),
(10,Vc [] [] false (V 28 (.mv (.t 4)))),
(11,Vc [9,10] [] false (V 29 (.idx 6 (.t 27) (.t 28)))),
(12,Vc [11] [] false (V 30 (.fad 2 (.t 29)))),
(13,Vc [12] [] true (V 31 (.ld (some 4) (.t 30)))),
(15,Vc [] [2,6,9,13] false (V 5 (.alloc [.ns,.ns,.i 0,.i 0,.i 0,.i 0]))),
(0,Vc [] [2,6,9,13] false (V 18 (.bsl 5 [.i 0,.i 0,.i 0,.i 0,.i 0] 0 []))),
(7,Vc [0,6] [9,13] false (V 25 (.app 5 (.t 18) (.t 24)))),
(14,Vc [7,13] [] false (V 32 (.build [.ns,.ns,.i 0,.i 0,.i 0,.i 0] [(1,1,(.t 25)),(2,4,(.t 31))]))),
(16,Vc [14,15] [] false (Vn (.st 6 (.t 5) (.t 32))))])

def vf42b0:VC:=.seq (.seq (.rg [V 33 (.mv (.t 6)),
V 34 (.fad 0 (.t 1)),
V 35 (.ld none (.t 34)),
V 36 (.mv (.t 4)),
V 37 (.idx 6 (.t 35) (.t 36)),
V 38 (.fad 0 (.t 37)),
V 39 (.ld none (.t 38)),
V 40 (.len (.t 39)),
V 41 (.bin .lt (.t 33) (.t 40))]) (.cond (.t 41) (.skip) (.exit 2))) (.seq (.block 3 (.seq (.rg [V 44 (.fad 0 (.t 1)),
V 45 (.ld none (.t 44)),
V 46 (.mv (.t 4)),
V 47 (.idx 6 (.t 45) (.t 46)),
V 48 (.fad 0 (.t 47)),
V 49 (.ld none (.t 48)),
V 50 (.mv (.t 6)),
V 51 (.idx 2 (.t 49) (.t 50)),
V 52 (.ld (some 2) (.t 51)),
V 7 (.alloc [.i 0,.ns]),
Vn (.st 2 (.t 7) (.t 52))]) (.rd [V 53 (.fad 0 (.t 5)),
Vc [0] [] true (V 54 (.ld none (.t 53))),
V 55 (.fad 0 (.t 7)),
Vc [2] [] true (V 56 (.ld none (.t 55))),
Vc [] [1,3] true (V 57 (.bsl 2 [.i 0,.i 0] 0 [])),
V 58 (.fad 1 (.t 7)),
Vc [5] [4] false (V 59 (.ld none (.t 58))),
Vc [4,6] [1,3] false (V 60 (.app 2 (.t 57) (.t 59))),
Vd [3,7] (V 61 (.build [.i 0,.ns] [(0,1,(.t 56)),(1,1,(.t 60))])),
Vc [8] [1] false (V 62 (.bsl 2 [.i 0,.ns] 1 [(0,2,(.t 61))])),
Vd [1,9] (V 63 (.app 2 (.t 54) (.t 62))),
Vd [10] (V 64 (.fad 0 (.t 5))),
Vd [11] (Vn (.st 1 (.t 64) (.t 63)))]))) (.rg [V 42 (.mv (.t 6)),
V 43 (.bin .add (.t 42) (.k (.c (.i 1)))),
V 6 (.mv (.t 43))]))

def vf42b1:VC:=.seq (.seq (.rg [V 11 (.mv (.t 4)),
V 12 (.fad 0 (.t 1)),
V 13 (.ld none (.t 12)),
V 14 (.len (.t 13)),
V 15 (.bin .lt (.t 11) (.t 14))]) (.cond (.t 15) (.skip) (.exit 0))) (.seq (.block 1 (.seq (.rx vf42r0 vf42t0) (.seq (.seq (.rg [V 6 (.mv (.k (.c (.i 0))))]) (.block 2 (.loop vf42b0))) (.rg [V 65 (.fad 0 (.t 3)),
V 66 (.ld none (.t 65)),
V 67 (.ld (some 6) (.t 5)),
V 68 (.bsl 6 [.ns,.ns,.i 0,.i 0,.i 0,.i 0] 1 [(0,6,(.t 67))]),
V 69 (.app 6 (.t 66) (.t 68)),
V 70 (.fad 0 (.t 3)),
Vn (.st 1 (.t 70) (.t 69))])))) (.rg [V 16 (.mv (.t 4)),
V 17 (.bin .add (.t 16) (.k (.c (.i 1)))),
V 4 (.mv (.t 17))]))

def vf42c:VC:=.seq (.rg [V 1 (.box (.t 0)),
V 2 (.alloc [.ns,.i 0])]) (.seq (.rg [V 8 (.fad 1 (.t 1)),
V 9 (.ld none (.t 8)),
V 10 (.build [.ns,.i 0] [(1,1,(.t 9))]),
V 3 (.alloc [.ns,.i 0]),
Vn (.st 2 (.t 3) (.t 10))]) (.seq (.seq (.rg [V 4 (.mv (.k (.c (.i 0))))]) (.block 0 (.loop vf42b1))) (.seq (.rg [V 71 (.ld (some 2) (.t 3)),
Vn (.st 2 (.t 2) (.t 71))]) (.ret))))

def vf42:VF:=⟨vf42c,vf42v,[(2,(some (some 2)))]⟩

theorem ok42:chkF Tryz.prog Tryz.f42 vf42=true:=by kernel_rfl

theorem dr42:drawsB vf42.body=true:=by kernel_rfl

def vf43v:List Nat:=[0,1,2,3,4,11,18,31,34,40,47,50]

def vf43b0:VC:=.seq (.seq (.rg [V 37 (.mv (.t 4)),
V 38 (.mv (.t 3)),
V 39 (.len (.t 38)),
V 40 (.bin .lt (.t 37) (.t 39))]) (.cond (.t 40) (.skip) (.exit 0))) (.seq (.block 1 (.seq (.rg [V 43 (.mv (.t 3)),
V 44 (.mv (.t 4)),
V 45 (.idx 1 (.t 43) (.t 44)),
V 46 (.ld none (.t 45)),
V 47 (.bin .gt (.t 46) (.k (.c (.i 1))))]) (.cond (.t 47) (.seq (.rg [V 2 (.mv (.k (.c (.i 5))))]) (.ret)) (.skip)))) (.rg [V 41 (.mv (.t 4)),
V 42 (.bin .add (.t 41) (.k (.c (.i 1)))),
V 4 (.mv (.t 42))]))

def vf43c:VC:=.seq (.rg [V 1 (.box (.t 0)),
V 2 (.mv (.k (.c (.i 0))))]) (.seq (.seq (.rg [V 5 (.ld (some 2) (.t 1)),
V 6 (.call 52 [(.t 5)]),
V 7 (.not (.t 6)),
V 8 (.mv (.t 7)),
Vg 9 8 false (.ld (some 2) (.t 1)),
Vg 10 8 false (.call 88 [(.t 9)]),
V 11 (.pick (.t 8) (.k (.c (.b true))) (.t 10))]) (.cond (.t 11) (.seq (.rg [V 2 (.mv (.k (.c (.i 1))))]) (.ret)) (.skip))) (.seq (.seq (.rd [V 12 (.ld (some 2) (.t 1)),
Vc [0] [] true (V 13 (.call 47 [(.t 12)])),
Vd [1] (V 14 (.len (.t 13))),
V 15 (.fad 0 (.t 1)),
Vc [3] [1] false (V 16 (.ld none (.t 15))),
Vd [4] (V 17 (.len (.t 16))),
Vd [2,5] (V 18 (.bin .ne (.t 14) (.t 17)))]) (.cond (.t 18) (.seq (.rg [V 2 (.mv (.k (.c (.i 2))))]) (.ret)) (.skip))) (.seq (.seq (.rg [V 19 (.fad 0 (.t 1)),
V 20 (.ld none (.t 19)),
V 21 (.idx 6 (.t 20) (.k (.c (.i 0)))),
V 22 (.fad 0 (.t 21)),
V 23 (.ld none (.t 22)),
V 24 (.len (.t 23)),
V 25 (.bin .gt (.t 24) (.k (.c (.i 0)))),
V 26 (.mv (.t 25)),
Vg 27 26 false (.ld (some 2) (.t 1)),
Vg 28 26 false (.call 89 [(.t 27),(.k (.c (.i 0)))]),
Vg 29 26 false (.len (.t 28)),
Vg 30 26 false (.bin .gt (.t 29) (.k (.c (.i 0)))),
V 31 (.pick (.t 26) (.k (.c (.b true))) (.t 30))]) (.cond (.t 31) (.seq (.rg [V 2 (.mv (.k (.c (.i 3))))]) (.ret)) (.skip))) (.seq (.seq (.rg [V 32 (.ld (some 2) (.t 1)),
V 33 (.call 90 [(.t 32)]),
V 34 (.not (.t 33))]) (.cond (.t 34) (.seq (.rg [V 2 (.mv (.k (.c (.i 4))))]) (.ret)) (.skip))) (.seq (.rg [V 35 (.ld (some 2) (.t 1)),
V 36 (.call 91 [(.t 35)]),
V 3 (.mv (.t 36))]) (.seq (.seq (.rg [V 4 (.mv (.k (.c (.i 0))))]) (.block 0 (.loop vf43b0))) (.seq (.seq (.rg [V 48 (.ld (some 2) (.t 1)),
V 49 (.call 92 [(.t 48)]),
V 50 (.not (.t 49))]) (.cond (.t 50) (.seq (.rg [V 2 (.mv (.k (.c (.i 6))))]) (.ret)) (.skip))) (.seq (.rg [V 2 (.mv (.k (.c (.i 0))))]) (.ret)))))))))

def vf43:VF:=⟨vf43c,vf43v,[(2,none)]⟩

theorem ok43:chkF Tryz.prog Tryz.f43 vf43=true:=by kernel_rfl

theorem dr43:drawsB vf43.body=true:=by kernel_rfl

def vf46v:List Nat:=[0,1,2,5]

def vf46c:VC:=.seq (.rg [V 1 (.box (.t 0)),
V 2 (.mv (.k (.c (.i 0))))]) (.seq (.seq (.rg [V 3 (.fad 0 (.t 1)),
V 4 (.ld none (.t 3)),
V 5 (.call 94 [(.t 4)])]) (.cond (.t 5) (.seq (.rg [V 6 (.fad 1 (.t 1)),
V 7 (.ld none (.t 6)),
V 2 (.mv (.t 7))]) (.ret)) (.skip))) (.seq (.rg [V 2 (.mv (.k (.c (.i (-1)))))]) (.ret)))

def vf46:VF:=⟨vf46c,vf46v,[(2,none)]⟩

theorem ok46:chkF Tryz.prog Tryz.f46 vf46=true:=by kernel_rfl

theorem dr46:drawsB vf46.body=true:=by kernel_rfl

def vf47v:List Nat:=[0,1,2,3,4,5,18]

def vf47r0:List VO:=[V 6 (.ld (some 2) (.t 1)),V 7 (.fad 0 (.t 1)),Vd [1] (V 8 (.ld none (.t 7))),Vd [2] (V 9 (.len (.t 8))),Vd [3] (V 10 (.mks 1 [.b false] (.t 9))),V 11 (.bsl 1 [.i 0] 0 []),Vd [0,4,5] (V 12 (.call 95 [(.t 6),(.k (.c (.i 0))),(.t 10),(.t 11)])),Vd [6] (V 3 (.mv (.t 12)))]

def vf47t0:VT:=.split 4 5 (.leaf [(0,Vc [] [] true (V 6 (.ld (some 2) (.t 1)))),
(1,Vc [] [] false (V 7 (.fad 0 (.t 1)))),
(2,Vc [1] [] false (V 8 (.ld none (.t 7)))),
(3,Vc [2] [] false (V 9 (.len (.t 8)))),
(4,Vc [3] [0] false (V 10 (.mks 1 [.b false] (.t 9)))),
(5,Vc [] [0] false (V 11 (.bsl 1 [.i 0] 0 []))),
(6,Vc [0,4,5] [] false (V 12 (.call 95 [(.t 6),(.k (.c (.i 0))),(.t 10),(.t 11)]))),
(7,Vc [6] [] false (V 3 (.mv (.t 12))))]) (.leaf [(0,Vc [] [] true (V 6 (.ld (some 2) (.t 1)))),
(1,Vc [] [] false (V 7 (.fad 0 (.t 1)))),
(2,Vc [1] [] true (V 8 (.ld none (.t 7)))),
(3,Vc [2] [] false (V 9 (.len (.t 8)))),
(5,Vc [] [0,2] false (V 11 (.bsl 1 [.i 0] 0 []))),
(4,Vc [3] [0] false (V 10 (.mks 1 [.b false] (.t 9)))),
(6,Vc [0,4,5] [] false (V 12 (.call 95 [(.t 6),(.k (.c (.i 0))),(.t 10),(.t 11)]))),
(7,Vc [6] [] false (V 3 (.mv (.t 12))))])

def vf47b0:VC:=.seq (.seq (.rg [V 17 (.mv (.t 5)),
V 18 (.bin .ge (.t 17) (.k (.c (.i 0))))]) (.cond (.t 18) (.skip) (.exit 0))) (.seq (.block 1 (.rg [V 21 (.mv (.t 4)),
V 22 (.mv (.t 3)),
V 23 (.mv (.t 5)),
V 24 (.idx 1 (.t 22) (.t 23)),
V 25 (.ld none (.t 24)),
V 26 (.bsl 1 [.i 0] 1 [(0,1,(.t 25))]),
V 27 (.app 1 (.t 21) (.t 26)),
V 4 (.mv (.t 27))])) (.rg [V 19 (.mv (.t 5)),
V 20 (.bin .sub (.t 19) (.k (.c (.i 1)))),
V 5 (.mv (.t 20))]))

def vf47c:VC:=.seq (.rg [V 1 (.box (.t 0)),
V 2 (.mv (.k (.c .ns)))]) (.seq (.rx vf47r0 vf47t0) (.seq (.rg [V 13 (.bsl 1 [.i 0] 0 []),
V 4 (.mv (.t 13))]) (.seq (.seq (.rg [V 14 (.mv (.t 3)),
V 15 (.len (.t 14)),
V 16 (.bin .sub (.t 15) (.k (.c (.i 1)))),
V 5 (.mv (.t 16))]) (.block 0 (.loop vf47b0))) (.seq (.rg [V 28 (.mv (.t 4)),
V 2 (.mv (.t 28))]) (.ret)))))

def vf47:VF:=⟨vf47c,vf47v,[(2,none)]⟩

theorem ok47:chkF Tryz.prog Tryz.f47 vf47=true:=by kernel_rfl

theorem dr47:drawsB vf47.body=true:=by kernel_rfl

def vf48v:List Nat:=[0,2]

def vf48c:VC:=.seq (.rg [V 2 (.mv (.k (.c (.b false))))]) (.seq (.rg [V 3 (.mv (.t 0)),
V 4 (.call 96 [(.t 3),(.k (.c (.i 1))),(.k (.c (.i 10)))]),
V 2 (.mv (.t 4))]) (.ret))

def vf48:VF:=⟨vf48c,vf48v,[(2,none)]⟩

theorem ok48:chkF Tryz.prog Tryz.f48 vf48=true:=by kernel_rfl

theorem dr48:drawsB vf48.body=true:=by kernel_rfl

def vf50v:List Nat:=[0,1,2,3,4,5,27,32,63]

def vf50b0:VC:=.seq (.seq (.rg [V 28 (.mv (.t 5)),
V 29 (.fad 0 (.t 2)),
V 30 (.ld none (.t 29)),
V 31 (.len (.t 30)),
V 32 (.bin .lt (.t 28) (.t 31))]) (.cond (.t 32) (.skip) (.exit 0))) (.seq (.block 1 (.seq (.rd [V 35 (.fad 0 (.t 2)),
Vd [0] (V 36 (.ld none (.t 35))),
V 37 (.mv (.t 5)),
Vd [1,2] (V 38 (.idx 2 (.t 36) (.t 37))),
Vd [3] (V 39 (.fad 0 (.t 38))),
Vd [4] (V 40 (.ld none (.t 39))),
V 41 (.fad 0 (.t 3)),
Vd [6] (V 42 (.ld none (.t 41))),
V 43 (.mv (.t 5)),
Vd [7,8] (V 44 (.idx 2 (.t 42) (.t 43))),
Vd [9] (V 45 (.fad 0 (.t 44))),
Vd [10] (V 46 (.ld none (.t 45))),
Vd [5,11] (V 47 (.bin .ne (.t 40) (.t 46))),
Vd [12] (V 48 (.mv (.t 47))),
Vd [13] (Vg 49 48 false (.fad 0 (.t 2))),
Vd [14] (Vg 50 48 false (.ld none (.t 49))),
Vd [13] (Vg 51 48 false (.mv (.t 5))),
Vd [15,16] (Vg 52 48 false (.idx 2 (.t 50) (.t 51))),
Vd [17] (Vg 53 48 false (.fad 1 (.t 52))),
Vd [18] (Vg 54 48 false (.ld none (.t 53))),
Vd [13] (Vg 55 48 false (.fad 0 (.t 3))),
Vd [20] (Vg 56 48 false (.ld none (.t 55))),
Vd [13] (Vg 57 48 false (.mv (.t 5))),
Vd [21,22] (Vg 58 48 false (.idx 2 (.t 56) (.t 57))),
Vd [23] (Vg 59 48 false (.fad 1 (.t 58))),
Vd [24] (Vg 60 48 false (.ld none (.t 59))),
Vd [19,25] (Vg 61 48 false (.call 99 [(.t 54),(.t 60)])),
Vd [26] (Vg 62 48 false (.not (.t 61))),
Vd [27] (V 63 (.pick (.t 48) (.k (.c (.b true))) (.t 62)))]) (.cond (.t 63) (.seq (.rg [V 4 (.mv (.k (.c (.b false))))]) (.ret)) (.skip)))) (.rg [V 33 (.mv (.t 5)),
V 34 (.bin .add (.t 33) (.k (.c (.i 1)))),
V 5 (.mv (.t 34))]))

def vf50c:VC:=.seq (.rg [V 2 (.box (.t 0)),
V 3 (.box (.t 1)),
V 4 (.mv (.k (.c (.b false))))]) (.seq (.seq (.rg [V 6 (.fad 0 (.t 2)),
V 7 (.ld none (.t 6)),
V 8 (.len (.t 7)),
V 9 (.fad 0 (.t 3)),
V 10 (.ld none (.t 9)),
V 11 (.len (.t 10)),
V 12 (.bin .ne (.t 8) (.t 11)),
V 13 (.mv (.t 12)),
Vg 14 13 false (.fad 1 (.t 2)),
Vg 15 13 false (.ld none (.t 14)),
Vg 16 13 false (.fad 1 (.t 3)),
Vg 17 13 false (.ld none (.t 16)),
Vg 18 13 false (.call 98 [(.t 15),(.t 17)]),
Vg 19 13 false (.not (.t 18)),
V 20 (.pick (.t 13) (.k (.c (.b true))) (.t 19)),
V 21 (.mv (.t 20)),
Vg 22 21 false (.fad 2 (.t 2)),
Vg 23 21 false (.ld (some 4) (.t 22)),
Vg 24 21 false (.fad 2 (.t 3)),
Vg 25 21 false (.ld (some 4) (.t 24)),
Vg 26 21 false (.eqa 4 true (.t 23) (.t 25)),
V 27 (.pick (.t 21) (.k (.c (.b true))) (.t 26))]) (.cond (.t 27) (.seq (.rg [V 4 (.mv (.k (.c (.b false))))]) (.ret)) (.skip))) (.seq (.seq (.rg [V 5 (.mv (.k (.c (.i 0))))]) (.block 0 (.loop vf50b0))) (.seq (.rg [V 4 (.mv (.k (.c (.b true))))]) (.ret))))

def vf50:VF:=⟨vf50c,vf50v,[(4,none)]⟩

theorem ok50:chkF Tryz.prog Tryz.f50 vf50=true:=by kernel_rfl

theorem dr50:drawsB vf50.body=true:=by kernel_rfl

def vf51v:List Nat:=[0,1,2,3,15]

def vf51c:VC:=.seq (.rg [V 1 (.box (.t 0)),
V 2 (.mv (.k (.c (.b false))))]) (.seq (.rg [V 4 (.fad 0 (.t 1)),
V 5 (.ld none (.t 4)),
V 6 (.len (.t 5)),
V 3 (.alloc [.i 0]),
Vn (.st 1 (.t 3) (.t 6))]) (.seq (.seq (.rg [V 7 (.ld none (.t 3)),
V 8 (.call 86 [(.t 7),(.k (.c (.i 1))),(.k (.c (.i 16)))]),
V 9 (.not (.t 8)),
V 10 (.mv (.t 9)),
Vg 11 10 false (.fad 1 (.t 1)),
Vg 12 10 false (.ld none (.t 11)),
Vg 13 10 false (.call 86 [(.t 12),(.k (.c (.i 0))),(.k (.c (.i 80)))]),
Vg 14 10 false (.not (.t 13)),
V 15 (.pick (.t 10) (.k (.c (.b true))) (.t 14))]) (.cond (.t 15) (.seq (.rg [V 2 (.mv (.k (.c (.b false))))]) (.ret)) (.skip))) (.seq (.rg [V 16 (.fad 0 (.t 1)),
V 17 (.ld none (.t 16)),
V 18 (.mkf 100 [(.t 3),(.t 1)]),
V 19 (.call 74 [(.t 17),(.t 18)]),
V 20 (.not (.t 19)),
V 2 (.mv (.t 20))]) (.ret))))

def vf51:VF:=⟨vf51c,vf51v,[(2,none)]⟩

theorem ok51:chkF Tryz.prog Tryz.f51 vf51=true:=by kernel_rfl

theorem dr51:drawsB vf51.body=true:=by kernel_rfl

def vf52v:List Nat:=[0,1,2,3,4,5,6,7,19,22,48,53,65,70,81]

def vf52b0:VC:=.seq (.seq (.rg [V 49 (.mv (.t 6)),
V 50 (.fad 0 (.t 5)),
V 51 (.ld none (.t 50)),
V 52 (.len (.t 51)),
V 53 (.bin .lt (.t 49) (.t 52))]) (.cond (.t 53) (.skip) (.exit 2))) (.seq (.block 3 (.seq (.rd [V 56 (.fad 0 (.t 5)),
Vd [0] (V 57 (.ld none (.t 56))),
V 58 (.mv (.t 6)),
Vd [1,2] (V 59 (.idx 2 (.t 57) (.t 58))),
Vd [3] (V 60 (.ld (some 2) (.t 59))),
V 61 (.mv (.t 3)),
V 62 (.fad 1 (.t 1)),
Vd [6] (V 63 (.ld none (.t 62))),
Vd [4,5,7] (V 64 (.call 109 [(.t 60),(.t 61),(.t 63)])),
Vd [8] (V 65 (.not (.t 64)))]) (.cond (.t 65) (.seq (.rg [V 2 (.mv (.k (.c (.b false))))]) (.ret)) (.skip)))) (.rg [V 54 (.mv (.t 6)),
V 55 (.bin .add (.t 54) (.k (.c (.i 1)))),
V 6 (.mv (.t 55))]))

def vf52b1:VC:=.seq (.seq (.rg [V 66 (.mv (.t 7)),
V 67 (.fad 1 (.t 5)),
V 68 (.ld none (.t 67)),
V 69 (.len (.t 68)),
V 70 (.bin .lt (.t 66) (.t 69))]) (.cond (.t 70) (.skip) (.exit 4))) (.seq (.block 5 (.seq (.rd [V 73 (.fad 1 (.t 5)),
Vd [0] (V 74 (.ld none (.t 73))),
V 75 (.mv (.t 7)),
Vd [1,2] (V 76 (.idx 5 (.t 74) (.t 75))),
Vd [3] (V 77 (.ld (some 5) (.t 76))),
V 78 (.fad 1 (.t 1)),
Vd [5] (V 79 (.ld none (.t 78))),
Vd [4,6] (V 80 (.call 110 [(.t 77),(.t 79)])),
Vd [7] (V 81 (.not (.t 80)))]) (.cond (.t 81) (.seq (.rg [V 2 (.mv (.k (.c (.b false))))]) (.ret)) (.skip)))) (.rg [V 71 (.mv (.t 7)),
V 72 (.bin .add (.t 71) (.k (.c (.i 1)))),
V 7 (.mv (.t 72))]))

def vf52b2:VC:=.seq (.seq (.rg [V 20 (.mv (.t 4)),
V 21 (.mv (.t 3)),
V 22 (.bin .lt (.t 20) (.t 21))]) (.cond (.t 22) (.skip) (.exit 0))) (.seq (.block 1 (.seq (.rg [V 25 (.fad 0 (.t 1)),
V 26 (.ld none (.t 25)),
V 27 (.mv (.t 4)),
V 28 (.idx 6 (.t 26) (.t 27)),
V 29 (.ld (some 6) (.t 28)),
V 5 (.alloc [.ns,.ns,.i 0,.i 0,.i 0,.i 0]),
Vn (.st 6 (.t 5) (.t 29))]) (.seq (.seq (.rg [V 30 (.fad 0 (.t 5)),
V 31 (.ld none (.t 30)),
V 32 (.len (.t 31)),
V 33 (.bin .gt (.t 32) (.k (.c (.i 24)))),
V 34 (.mv (.t 33)),
Vg 35 34 false (.fad 1 (.t 5)),
Vg 36 34 false (.ld none (.t 35)),
Vg 37 34 false (.len (.t 36)),
Vg 38 34 false (.bin .gt (.t 37) (.k (.c (.i 24)))),
V 39 (.pick (.t 34) (.k (.c (.b true))) (.t 38)),
V 40 (.mv (.t 39)),
Vg 41 40 false (.fad 2 (.t 5)),
Vg 42 40 false (.ld (some 4) (.t 41)),
Vg 43 40 false (.mv (.t 3)),
Vg 44 40 false (.fad 1 (.t 1)),
Vg 45 40 false (.ld none (.t 44)),
Vg 46 40 false (.call 108 [(.t 42),(.t 43),(.t 45)]),
Vg 47 40 false (.not (.t 46)),
V 48 (.pick (.t 40) (.k (.c (.b true))) (.t 47))]) (.cond (.t 48) (.seq (.rg [V 2 (.mv (.k (.c (.b false))))]) (.ret)) (.skip))) (.seq (.seq (.rg [V 6 (.mv (.k (.c (.i 0))))]) (.block 2 (.loop vf52b0))) (.seq (.rg [V 7 (.mv (.k (.c (.i 0))))]) (.block 4 (.loop vf52b1))))))) (.rg [V 23 (.mv (.t 4)),
V 24 (.bin .add (.t 23) (.k (.c (.i 1)))),
V 4 (.mv (.t 24))]))

def vf52c:VC:=.seq (.rg [V 1 (.box (.t 0)),
V 2 (.mv (.k (.c (.b false))))]) (.seq (.rg [V 8 (.fad 0 (.t 1)),
V 9 (.ld none (.t 8)),
V 10 (.len (.t 9)),
V 3 (.mv (.t 10))]) (.seq (.seq (.rg [V 11 (.mv (.t 3)),
V 12 (.call 96 [(.t 11),(.k (.c (.i 1))),(.k (.c (.i 16)))]),
V 13 (.not (.t 12)),
V 14 (.mv (.t 13)),
Vg 15 14 false (.fad 1 (.t 1)),
Vg 16 14 false (.ld none (.t 15)),
Vg 17 14 false (.call 96 [(.t 16),(.k (.c (.i 0))),(.k (.c (.i 80)))]),
Vg 18 14 false (.not (.t 17)),
V 19 (.pick (.t 14) (.k (.c (.b true))) (.t 18))]) (.cond (.t 19) (.seq (.rg [V 2 (.mv (.k (.c (.b false))))]) (.ret)) (.skip))) (.seq (.seq (.rg [V 4 (.mv (.k (.c (.i 0))))]) (.block 0 (.loop vf52b2))) (.seq (.rg [V 2 (.mv (.k (.c (.b true))))]) (.ret)))))

def vf52:VF:=⟨vf52c,vf52v,[(2,none)]⟩

theorem ok52:chkF Tryz.prog Tryz.f52 vf52=true:=by kernel_rfl

theorem dr52:drawsB vf52.body=true:=by kernel_rfl

def vf54v:List Nat:=[0,1,2]

def vf54c:VC:=.seq (.rg [V 1 (.box (.t 0)),
V 2 (.mv (.k (.c (.b false))))]) (.seq (.rg [V 3 (.fad 0 (.t 1)),
V 4 (.ld none (.t 3)),
V 5 (.call 74 [(.t 4),(.k (.f 113 []))]),
V 2 (.mv (.t 5))]) (.ret))

def vf54:VF:=⟨vf54c,vf54v,[(2,none)]⟩

theorem ok54:chkF Tryz.prog Tryz.f54 vf54=true:=by kernel_rfl

theorem dr54:drawsB vf54.body=true:=by kernel_rfl

def vf55v:List Nat:=[0,1,2,3,4,5]

def vf55c:VC:=.seq (.rg [V 1 (.box (.t 0)),
V 2 (.mv (.k (.c .ns))),
V 3 (.mv (.k (.c .ns)))]) (.seq (.rg [V 6 (.fad 0 (.t 1)),
V 7 (.ld none (.t 6)),
V 8 (.len (.t 7)),
V 9 (.mks 1 [.b false] (.t 8)),
V 4 (.mv (.t 9))]) (.seq (.rg [V 10 (.ld (some 2) (.t 1)),
V 11 (.mv (.t 4)),
V 12 (.call 115 [(.t 10),(.k (.c (.i 0))),(.t 11),(.k (.c .ns))]),
V 5 (.mv (.t 12))]) (.seq (.rg [V 13 (.mv (.t 5)),
V 14 (.call 116 [(.t 13)])]) (.seq (.rg [V 15 (.mv (.t 5)),
V 16 (.mv (.t 4)),
V 2 (.mv (.t 15)),
V 3 (.mv (.t 16))]) (.ret)))))

def vf55:VF:=⟨vf55c,vf55v,[(2,none),(3,none)]⟩

theorem ok55:chkF Tryz.prog Tryz.f55 vf55=true:=by kernel_rfl

theorem dr55:drawsB vf55.body=true:=by kernel_rfl

def vf56v:List Nat:=[0,1,4]

def vf56c:VC:=.seq (.rg [V 4 (.mv (.k (.c (.b false))))]) (.seq (.rg [V 5 (.mv (.t 0)),
V 6 (.mv (.t 1)),
V 7 (.call 117 [(.t 5),(.t 6)]),
V 8 (.bin .ge (.t 7) (.k (.c (.i 0)))),
V 4 (.mv (.t 8))]) (.ret))

def vf56:VF:=⟨vf56c,vf56v,[(4,none)]⟩

theorem ok56:chkF Tryz.prog Tryz.f56 vf56=true:=by kernel_rfl

theorem dr56:drawsB vf56.body=true:=by kernel_rfl

def vf57v:List Nat:=[0,1,2,4,5,6,10,11,12,18]

def vf57b0:VC:=.seq (.rg [V 12 (.bin .lt (.t 11) (.t 10))]) (.seq (.cond (.t 12) (.skip) (.exit 0)) (.seq (.block 1 (.seq (.rg [V 13 (.mv (.t 11)),
V 6 (.mv (.t 13))]) (.seq (.rg [V 14 (.ld (some 2) (.t 2)),
V 15 (.mv (.t 6)),
V 16 (.call 65 [(.t 14),(.t 15)]),
V 17 (.mv (.t 1)),
V 18 (.call 118 [(.t 16),(.t 17)])]) (.cond (.t 18) (.rg [V 19 (.mv (.t 5)),
V 20 (.mv (.t 6)),
V 21 (.bsl 1 [.i 0] 1 [(0,1,(.t 20))]),
V 22 (.app 1 (.t 19) (.t 21)),
V 5 (.mv (.t 22))]) (.skip))))) (.rg [V 23 (.bin .add (.t 11) (.k (.c (.i 1)))),
V 11 (.mv (.t 23))])))

def vf57c:VC:=.seq (.rg [V 2 (.box (.t 0)),
V 4 (.mv (.k (.c .ns)))]) (.seq (.rg [V 7 (.bsl 1 [.i 0] 0 []),
V 5 (.mv (.t 7))]) (.seq (.seq (.rg [V 8 (.fad 0 (.t 2)),
V 9 (.ld none (.t 8)),
V 10 (.len (.t 9)),
V 11 (.mv (.k (.c (.i 0))))]) (.block 0 (.loop vf57b0))) (.seq (.rg [V 24 (.mv (.t 5)),
V 4 (.mv (.t 24))]) (.ret))))

def vf57:VF:=⟨vf57c,vf57v,[(4,none)]⟩

theorem ok57:chkF Tryz.prog Tryz.f57 vf57=true:=by kernel_rfl

theorem dr57:drawsB vf57.body=true:=by kernel_rfl

def vf58v:List Nat:=[0,1,2,3,4,5,7,8,10,12,13,14,15,23,24,25,26,31,32,33,34,48]

def vf58b0:VC:=.seq (.rg [V 34 (.bin .lt (.t 33) (.t 32))]) (.seq (.cond (.t 34) (.skip) (.exit 4)) (.seq (.block 5 (.seq (.rg [V 35 (.idx 2 (.t 31) (.t 33)),
V 36 (.ld (some 2) (.t 35)),
V 10 (.alloc [.i 0,.i 0]),
Vn (.st 2 (.t 10) (.t 36))]) (.rg [V 37 (.mv (.t 8)),
V 38 (.fad 0 (.t 10)),
V 39 (.ld none (.t 38)),
V 40 (.bsl 1 [.i 0] 1 [(0,1,(.t 39))]),
V 41 (.app 1 (.t 37) (.t 40)),
V 8 (.mv (.t 41))]))) (.rg [V 42 (.bin .add (.t 33) (.k (.c (.i 1)))),
V 33 (.mv (.t 42))])))

def vf58b1:VC:=.seq (.rg [V 26 (.bin .lt (.t 25) (.t 24))]) (.seq (.cond (.t 26) (.skip) (.exit 2)) (.seq (.block 3 (.seq (.rg [V 27 (.idx 2 (.t 23) (.t 25)),
V 28 (.ld (some 2) (.t 27)),
V 7 (.alloc [.i 0,.ns]),
Vn (.st 2 (.t 7) (.t 28))]) (.seq (.rg [V 29 (.bsl 1 [.i 0] 0 []),
V 8 (.mv (.t 29))]) (.seq (.seq (.rg [V 30 (.fad 1 (.t 7)),
V 31 (.ld none (.t 30)),
V 32 (.len (.t 31)),
V 33 (.mv (.k (.c (.i 0))))]) (.block 4 (.loop vf58b0))) (.seq (.rg [V 43 (.mv (.t 8)),
V 44 (.call 72 [(.t 43)])]) (.seq (.rg [V 45 (.mv (.t 8)),
V 46 (.mv (.t 5)),
V 47 (.call 119 [(.t 45),(.t 46)]),
V 48 (.not (.t 47))]) (.cond (.t 48) (.seq (.rg [V 2 (.mv (.k (.c (.b true))))]) (.ret)) (.skip)))))))) (.rg [V 49 (.bin .add (.t 25) (.k (.c (.i 1)))),
V 25 (.mv (.t 49))])))

def vf58b2:VC:=.seq (.rg [V 15 (.bin .lt (.t 14) (.t 13))]) (.seq (.cond (.t 15) (.skip) (.exit 0)) (.seq (.block 1 (.seq (.rg [V 16 (.mv (.t 14)),
V 17 (.idx 6 (.t 12) (.t 14)),
V 18 (.ld (some 6) (.t 17)),
V 4 (.alloc [.ns,.ns,.i 0,.i 0,.i 0,.i 0]),
V 3 (.mv (.t 16)),
Vn (.st 6 (.t 4) (.t 18))]) (.seq (.rg [V 19 (.ld (some 2) (.t 1)),
V 20 (.mv (.t 3)),
V 21 (.call 57 [(.t 19),(.t 20)]),
V 5 (.mv (.t 21))]) (.seq (.rg [V 22 (.fad 0 (.t 4)),
V 23 (.ld none (.t 22)),
V 24 (.len (.t 23)),
V 25 (.mv (.k (.c (.i 0))))]) (.block 2 (.loop vf58b1)))))) (.rg [V 50 (.bin .add (.t 14) (.k (.c (.i 1)))),
V 14 (.mv (.t 50))])))

def vf58c:VC:=.seq (.rg [V 1 (.box (.t 0)),
V 2 (.mv (.k (.c (.b false))))]) (.seq (.seq (.rg [V 11 (.fad 0 (.t 1)),
V 12 (.ld none (.t 11)),
V 13 (.len (.t 12)),
V 14 (.mv (.k (.c (.i 0))))]) (.block 0 (.loop vf58b2))) (.seq (.rg [V 2 (.mv (.k (.c (.b false))))]) (.ret)))

def vf58:VF:=⟨vf58c,vf58v,[(2,none)]⟩

theorem ok58:chkF Tryz.prog Tryz.f58 vf58=true:=by kernel_rfl

theorem dr58:drawsB vf58.body=true:=by kernel_rfl

def vf59v:List Nat:=[0,1,4]

def vf59c:VC:=.seq (.rg [V 4 (.mv (.k (.c (.b false))))]) (.seq (.rg [V 5 (.mv (.t 0)),
V 6 (.mv (.t 1)),
V 7 (.call 120 [(.t 5),(.t 6)]),
V 8 (.bin .ge (.t 7) (.k (.c (.i 0)))),
V 4 (.mv (.t 8))]) (.ret))

def vf59:VF:=⟨vf59c,vf59v,[(4,none)]⟩

theorem ok59:chkF Tryz.prog Tryz.f59 vf59=true:=by kernel_rfl

theorem dr59:drawsB vf59.body=true:=by kernel_rfl

def vf60v:List Nat:=[0,1,2,3,5,7,9,10,15,16,17,18,22,23,24,25,37,38,39,40,46]

def vf60b0:VC:=.seq (.rg [V 25 (.bin .lt (.t 24) (.t 23))]) (.seq (.cond (.t 25) (.skip) (.exit 2)) (.seq (.block 3 (.seq (.rg [V 26 (.idx 2 (.t 22) (.t 24)),
V 27 (.ld (some 2) (.t 26)),
V 7 (.alloc [.i 0,.ns]),
Vn (.st 2 (.t 7) (.t 27))]) (.rg [V 28 (.mv (.t 3)),
V 29 (.fad 0 (.t 7)),
V 30 (.ld none (.t 29)),
V 31 (.idx 1 (.t 28) (.t 30)),
V 32 (.ld none (.t 31)),
V 33 (.bin .add (.t 32) (.k (.c (.i 1)))),
V 34 (.idx 1 (.t 28) (.t 30)),
Vn (.st 1 (.t 34) (.t 33))]))) (.rg [V 35 (.bin .add (.t 24) (.k (.c (.i 1)))),
V 24 (.mv (.t 35))])))

def vf60b1:VC:=.seq (.rg [V 40 (.bin .lt (.t 39) (.t 38))]) (.seq (.cond (.t 40) (.skip) (.exit 4)) (.seq (.block 5 (.seq (.rg [V 41 (.idx 5 (.t 37) (.t 39)),
V 42 (.ld (some 5) (.t 41)),
V 9 (.alloc [.i 0,.i 0,.i 0,.i 0,.i 0]),
Vn (.st 5 (.t 9) (.t 42))]) (.seq (.rg [V 43 (.ld (some 5) (.t 9)),
V 44 (.call 38 [(.t 43)]),
V 10 (.mv (.t 44))]) (.seq (.rg [V 45 (.mv (.t 10)),
V 46 (.bin .ge (.t 45) (.k (.c (.i 0))))]) (.cond (.t 46) (.rg [V 47 (.mv (.t 3)),
V 48 (.mv (.t 10)),
V 49 (.idx 1 (.t 47) (.t 48)),
V 50 (.ld none (.t 49)),
V 51 (.bin .add (.t 50) (.k (.c (.i 1)))),
V 52 (.idx 1 (.t 47) (.t 48)),
Vn (.st 1 (.t 52) (.t 51))]) (.skip)))))) (.rg [V 53 (.bin .add (.t 39) (.k (.c (.i 1)))),
V 39 (.mv (.t 53))])))

def vf60b2:VC:=.seq (.rg [V 18 (.bin .lt (.t 17) (.t 16))]) (.seq (.cond (.t 18) (.skip) (.exit 0)) (.seq (.block 1 (.seq (.rg [V 19 (.idx 6 (.t 15) (.t 17)),
V 20 (.ld (some 6) (.t 19)),
V 5 (.alloc [.ns,.ns,.i 0,.i 0,.i 0,.i 0]),
Vn (.st 6 (.t 5) (.t 20))]) (.seq (.seq (.rg [V 21 (.fad 0 (.t 5)),
V 22 (.ld none (.t 21)),
V 23 (.len (.t 22)),
V 24 (.mv (.k (.c (.i 0))))]) (.block 2 (.loop vf60b0))) (.seq (.rg [V 36 (.fad 1 (.t 5)),
V 37 (.ld none (.t 36)),
V 38 (.len (.t 37)),
V 39 (.mv (.k (.c (.i 0))))]) (.block 4 (.loop vf60b1)))))) (.rg [V 54 (.bin .add (.t 17) (.k (.c (.i 1)))),
V 17 (.mv (.t 54))])))

def vf60c:VC:=.seq (.rg [V 1 (.box (.t 0)),
V 2 (.mv (.k (.c .ns)))]) (.seq (.rg [V 11 (.fad 1 (.t 1)),
V 12 (.ld none (.t 11)),
V 13 (.mks 1 [.i 0] (.t 12)),
V 3 (.mv (.t 13))]) (.seq (.seq (.rg [V 14 (.fad 0 (.t 1)),
V 15 (.ld none (.t 14)),
V 16 (.len (.t 15)),
V 17 (.mv (.k (.c (.i 0))))]) (.block 0 (.loop vf60b2))) (.seq (.rg [V 55 (.mv (.t 3)),
V 2 (.mv (.t 55))]) (.ret))))

def vf60:VF:=⟨vf60c,vf60v,[(2,none)]⟩

theorem ok60:chkF Tryz.prog Tryz.f60 vf60=true:=by kernel_rfl

theorem dr60:drawsB vf60.body=true:=by kernel_rfl
def vf61v:List Nat:=[0,2]

def vf61c:VC:=.seq (.rg [V 2 (.mv (.k (.c (.b false))))]) (.seq (.rg [V 3 (.mv (.t 0)),
V 4 (.bin .gt (.t 3) (.k (.c (.i 1)))),
V 2 (.mv (.t 4))]) (.ret))

def vf61:VF:=⟨vf61c,vf61v,[(2,none)]⟩

theorem ok61:chkF Tryz.prog Tryz.f61 vf61=true:=by kernel_rfl

theorem dr61:drawsB vf61.body=true:=by kernel_rfl

def vf62v:List Nat:=[0,1,2,3,4,11,12,13,18]

def vf62r0:List VO:=[V 5 (.ld (some 2) (.t 1)),V 6 (.ld (some 2) (.t 1)),Vd [1] (V 7 (.call 121 [(.t 6)])),Vd [0,2] (V 8 (.build [.ns,.i 0,.ns] [(0,2,(.t 5)),(2,1,(.t 7))])),V 3 (.alloc [.ns,.i 0,.ns]),Vd [3,4] (Vn (.st 3 (.t 3) (.t 8)))]

def vf62t0:VT:=.split 2 4 (.leaf [(0,Vc [] [] true (V 5 (.ld (some 2) (.t 1)))),
(1,Vc [] [] false (V 6 (.ld (some 2) (.t 1)))),
(2,Vc [1] [0] false (V 7 (.call 121 [(.t 6)]))),
(3,Vc [0,2] [] false (V 8 (.build [.ns,.i 0,.ns] [(0,2,(.t 5)),(2,1,(.t 7))]))),
(4,Vc [] [0] false (V 3 (.alloc [.ns,.i 0,.ns]))),
(5,Vc [3,4] [] false (Vn (.st 3 (.t 3) (.t 8))))]) (.leaf [(0,Vc [] [] true (V 5 (.ld (some 2) (.t 1)))),
(1,Vc [] [] true (V 6 (.ld (some 2) (.t 1)))),
(4,Vc [] [0,1] false (V 3 (.alloc [.ns,.i 0,.ns]))),
(2,Vc [1] [0] false (V 7 (.call 121 [(.t 6)]))),
(3,Vc [0,2] [] false (V 8 (.build [.ns,.i 0,.ns] [(0,2,(.t 5)),(2,1,(.t 7))]))),
(5,Vc [3,4] [] false (Vn (.st 3 (.t 3) (.t 8))))])

def vf62b0:VC:=.seq (.rg [V 13 (.bin .lt (.t 12) (.t 11))]) (.seq (.cond (.t 13) (.skip) (.exit 0)) (.seq (.block 1 (.seq (.rg [V 14 (.mv (.t 12)),
V 4 (.mv (.t 14))]) (.seq (.rg [V 15 (.ld (some 3) (.t 3)),
V 16 (.mv (.t 4)),
V 17 (.call 122 [(.t 15),(.t 16)]),
V 18 (.not (.t 17))]) (.cond (.t 18) (.seq (.rg [V 2 (.mv (.k (.c (.b true))))]) (.ret)) (.skip))))) (.rg [V 19 (.bin .add (.t 12) (.k (.c (.i 1)))),
V 12 (.mv (.t 19))])))

def vf62c:VC:=.seq (.rg [V 1 (.box (.t 0)),
V 2 (.mv (.k (.c (.b false))))]) (.seq (.rx vf62r0 vf62t0) (.seq (.seq (.rg [V 9 (.fad 0 (.t 1)),
V 10 (.ld none (.t 9)),
V 11 (.len (.t 10)),
V 12 (.mv (.k (.c (.i 0))))]) (.block 0 (.loop vf62b0))) (.seq (.rg [V 2 (.mv (.k (.c (.b false))))]) (.ret))))

def vf62:VF:=⟨vf62c,vf62v,[(2,none)]⟩

theorem ok62:chkF Tryz.prog Tryz.f62 vf62=true:=by kernel_rfl

theorem dr62:drawsB vf62.body=true:=by kernel_rfl

def vf64v:List Nat:=[0,1,2,3,4,5,6,12,26,49]

def vf64b0:VC:=.seq (.seq (.rg [V 18 (.mv (.t 6)),
V 19 (.mv (.t 5)),
V 20 (.len (.t 19)),
V 21 (.bin .lt (.t 18) (.t 20)),
V 22 (.mv (.t 21)),
Vg 23 22 true (.mv (.t 5)),
Vg 24 22 true (.len (.t 23)),
Vg 25 22 true (.bin .gt (.t 24) (.k (.c (.i 1)))),
V 26 (.pick (.t 22) (.t 25) (.k (.c (.b false))))]) (.cond (.t 26) (.skip) (.exit 2))) (.seq (.block 3 (.seq (.rd [V 29 (.ld (some 2) (.t 1)),
V 30 (.mv (.t 5)),
V 31 (.mv (.t 6)),
Vd [1,2] (V 32 (.idx 1 (.t 30) (.t 31))),
Vd [3] (V 33 (.ld none (.t 32))),
Vd [0,4] (V 34 (.call 89 [(.t 29),(.t 33)])),
Vd [5] (V 35 (.len (.t 34))),
Vd [6] (V 36 (.bin .gt (.t 35) (.k (.c (.i 1))))),
Vd [7] (V 37 (.mv (.t 36))),
Vd [8] (Vg 38 37 false (.fad 0 (.t 1))),
Vd [9] (Vg 39 37 false (.ld none (.t 38))),
Vd [8] (Vg 40 37 false (.mv (.t 5))),
Vd [8] (Vg 41 37 false (.mv (.t 6))),
Vd [11,12] (Vg 42 37 false (.idx 1 (.t 40) (.t 41))),
Vd [13] (Vg 43 37 false (.ld none (.t 42))),
Vd [10,14] (Vg 44 37 false (.idx 6 (.t 39) (.t 43))),
Vd [15] (Vg 45 37 false (.fad 0 (.t 44))),
Vd [16] (Vg 46 37 false (.ld none (.t 45))),
Vd [17] (Vg 47 37 false (.len (.t 46))),
Vd [18] (Vg 48 37 false (.bin .gt (.t 47) (.k (.c (.i 0))))),
Vd [19] (V 49 (.pick (.t 37) (.k (.c (.b true))) (.t 48)))]) (.cond (.t 49) (.rg [V 50 (.mv (.t 3)),
V 51 (.mv (.t 4)),
V 52 (.mv (.t 5)),
V 53 (.mv (.t 6)),
V 54 (.idx 1 (.t 52) (.t 53)),
V 55 (.ld none (.t 54)),
V 56 (.build [.i 0,.i 0] [(0,1,(.t 51)),(1,1,(.t 55))]),
V 57 (.bsl 2 [.i 0,.i 0] 1 [(0,2,(.t 56))]),
V 58 (.app 2 (.t 50) (.t 57)),
V 3 (.mv (.t 58))]) (.skip)))) (.rg [V 27 (.mv (.t 6)),
V 28 (.bin .add (.t 27) (.k (.c (.i 1)))),
V 6 (.mv (.t 28))]))

def vf64b1:VC:=.seq (.seq (.rg [V 8 (.mv (.t 4)),
V 9 (.fad 0 (.t 1)),
V 10 (.ld none (.t 9)),
V 11 (.len (.t 10)),
V 12 (.bin .lt (.t 8) (.t 11))]) (.cond (.t 12) (.skip) (.exit 0))) (.seq (.block 1 (.seq (.rg [V 15 (.ld (some 2) (.t 1)),
V 16 (.mv (.t 4)),
V 17 (.call 69 [(.t 15),(.t 16)]),
V 5 (.mv (.t 17))]) (.seq (.rg [V 6 (.mv (.k (.c (.i 0))))]) (.block 2 (.loop vf64b0))))) (.rg [V 13 (.mv (.t 4)),
V 14 (.bin .add (.t 13) (.k (.c (.i 1)))),
V 4 (.mv (.t 14))]))

def vf64c:VC:=.seq (.rg [V 1 (.box (.t 0)),
V 2 (.mv (.k (.c .ns)))]) (.seq (.rg [V 7 (.bsl 2 [.i 0,.i 0] 0 []),
V 3 (.mv (.t 7))]) (.seq (.seq (.rg [V 4 (.mv (.k (.c (.i 0))))]) (.block 0 (.loop vf64b1))) (.seq (.rg [V 59 (.mv (.t 3)),
V 2 (.mv (.t 59))]) (.ret))))

def vf64:VF:=⟨vf64c,vf64v,[(2,none)]⟩

theorem ok64:chkF Tryz.prog Tryz.f64 vf64=true:=by kernel_rfl

theorem dr64:drawsB vf64.body=true:=by kernel_rfl

def vf65v:List Nat:=[0,1,2,4,5,12,31]

def vf65c:VC:=.seq (.rg [V 2 (.box (.t 0)),
V 4 (.mv (.k (.c .ns)))]) (.seq (.rg [V 6 (.fad 0 (.t 2)),
V 7 (.ld none (.t 6)),
V 8 (.mv (.t 1)),
V 9 (.idx 6 (.t 7) (.t 8)),
V 10 (.fad 2 (.t 9)),
V 11 (.ld (some 4) (.t 10)),
V 5 (.alloc [.i 0,.i 0,.i 0,.i 0]),
Vn (.st 4 (.t 5) (.t 11))]) (.seq (.block 0 (.seq (.rg [V 13 (.fad 0 (.t 5)),
V 14 (.ld none (.t 13)),
V 15 (.bin .eq (.t 14) (.k (.c (.i 1)))),
V 16 (.mv (.t 15)),
Vg 17 16 false (.fad 0 (.t 5)),
Vg 18 16 false (.ld none (.t 17)),
Vg 19 16 false (.bin .eq (.t 18) (.k (.c (.i 2)))),
Vg 20 16 false (.mv (.t 19)),
Vg 21 20 true (.fad 2 (.t 5)),
Vg 22 20 true (.ld none (.t 21)),
Vg 23 20 true (.fad 3 (.t 5)),
Vg 24 20 true (.ld none (.t 23)),
Vg 25 20 true (.bin .eq (.t 22) (.t 24)),
Vg 26 16 false (.pick (.t 20) (.t 25) (.k (.c (.b false)))),
V 27 (.pick (.t 16) (.k (.c (.b true))) (.t 26)),
V 12 (.mv (.t 27))]) (.cond (.t 12) (.seq (.rg [V 28 (.fad 2 (.t 5)),
V 29 (.ld none (.t 28)),
V 30 (.bsl 1 [.i 0] 1 [(0,1,(.t 29))]),
V 4 (.mv (.t 30))]) (.ret)) (.seq (.rg [V 32 (.fad 0 (.t 5)),
V 33 (.ld none (.t 32)),
V 34 (.bin .eq (.t 33) (.k (.c (.i 2)))),
V 31 (.mv (.t 34))]) (.cond (.t 31) (.seq (.rg [V 35 (.fad 2 (.t 5)),
V 36 (.ld none (.t 35)),
V 37 (.fad 3 (.t 5)),
V 38 (.ld none (.t 37)),
V 39 (.bsl 1 [.i 0] 2 [(0,1,(.t 36)),(1,1,(.t 38))]),
V 4 (.mv (.t 39))]) (.ret)) (.skip)))))) (.seq (.rg [V 4 (.mv (.k (.c .ns)))]) (.ret))))

def vf65:VF:=⟨vf65c,vf65v,[(4,none)]⟩

theorem ok65:chkF Tryz.prog Tryz.f65 vf65=true:=by kernel_rfl

theorem dr65:drawsB vf65.body=true:=by kernel_rfl

def vf66v:List Nat:=[0,1,4]

def vf66c:VC:=.seq (.rg [V 4 (.mv (.k (.c (.b false))))]) (.seq (.rg [V 5 (.mv (.t 0)),
V 6 (.mv (.t 1)),
V 7 (.call 77 [(.t 5),(.t 6)]),
V 8 (.bin .eq (.t 7) (.k (.c (.i 0)))),
V 4 (.mv (.t 8))]) (.ret))

def vf66:VF:=⟨vf66c,vf66v,[(4,none)]⟩

theorem ok66:chkF Tryz.prog Tryz.f66 vf66=true:=by kernel_rfl

theorem dr66:drawsB vf66.body=true:=by kernel_rfl

def vf67v:List Nat:=[0,1,4,5,6,7,8,9,10,11,15,22,26,49,50,51,52,59]

def vf67b0:VC:=.seq (.rg [V 52 (.bin .lt (.t 51) (.t 50))]) (.seq (.cond (.t 52) (.skip) (.exit 2)) (.seq (.block 3 (.seq (.rg [V 53 (.mv (.t 51)),
V 54 (.idx 2 (.t 49) (.t 51)),
V 55 (.ld (some 2) (.t 54)),
V 11 (.alloc [.i 0,.i 0]),
V 10 (.mv (.t 53)),
Vn (.st 2 (.t 11) (.t 55))]) (.seq (.rg [V 56 (.fad 1 (.t 11)),
V 57 (.ld none (.t 56)),
V 58 (.mv (.t 9)),
V 59 (.bin .eq (.t 57) (.t 58))]) (.cond (.t 59) (.rg [V 60 (.mv (.t 6)),
V 61 (.mv (.t 10)),
V 62 (.mv (.t 1)),
V 63 (.idx 2 (.t 60) (.t 61)),
V 64 (.fad 1 (.t 63)),
Vn (.st 1 (.t 64) (.t 62))]) (.skip))))) (.rg [V 65 (.bin .add (.t 51) (.k (.c (.i 1)))),
V 51 (.mv (.t 65))])))

def vf67b1:VC:=.seq (.seq (.rg [V 20 (.mv (.t 6)),
V 21 (.len (.t 20)),
V 22 (.bin .gt (.t 21) (.k (.c (.i 0))))]) (.cond (.t 22) (.skip) (.exit 0))) (.block 1 (.seq (.seq (.rg [V 23 (.mv (.t 6)),
V 24 (.call 128 [(.t 23)]),
V 8 (.mv (.t 24))]) (.seq (.rg [V 25 (.mv (.t 8)),
V 26 (.bin .ge (.t 25) (.k (.c (.i 0))))]) (.cond (.t 26) (.seq (.rg [V 27 (.mv (.t 7)),
V 28 (.mv (.t 6)),
V 29 (.mv (.t 8)),
V 30 (.idx 2 (.t 28) (.t 29)),
V 31 (.ld (some 2) (.t 30)),
V 32 (.bsl 2 [.i 0,.i 0] 1 [(0,2,(.t 31))]),
V 33 (.app 2 (.t 27) (.t 32)),
V 7 (.mv (.t 33))]) (.seq (.rg [V 34 (.mv (.t 6)),
V 35 (.mv (.t 8)),
V 36 (.mv (.t 8)),
V 37 (.bin .add (.t 36) (.k (.c (.i 1)))),
V 38 (.call 129 [(.t 34),(.t 35),(.t 37)]),
V 6 (.mv (.t 38))]) (.exit 1))) (.skip)))) (.seq (.rg [V 39 (.mv (.t 6)),
V 40 (.idx 2 (.t 39) (.k (.c (.i 0)))),
V 41 (.fad 0 (.t 40)),
V 42 (.ld none (.t 41)),
V 9 (.mv (.t 42))]) (.seq (.rg [V 43 (.mv (.t 7)),
V 44 (.mv (.t 1)),
V 45 (.mv (.t 9)),
V 46 (.build [.i 0,.i 0] [(0,1,(.t 44)),(1,1,(.t 45))]),
V 47 (.bsl 2 [.i 0,.i 0] 1 [(0,2,(.t 46))]),
V 48 (.app 2 (.t 43) (.t 47)),
V 7 (.mv (.t 48))]) (.seq (.rg [V 49 (.mv (.t 6)),
V 50 (.len (.t 49)),
V 51 (.mv (.k (.c (.i 0))))]) (.block 2 (.loop vf67b0)))))))

def vf67c:VC:=.seq (.rg [V 4 (.mv (.k (.c .ns))),
V 5 (.mv (.k (.c (.b false))))]) (.seq (.seq (.rg [V 12 (.mv (.t 0)),
V 13 (.mv (.t 1)),
V 14 (.call 124 [(.t 12),(.t 13)]),
V 15 (.not (.t 14))]) (.cond (.t 15) (.seq (.rg [V 4 (.mv (.k (.c .ns))),
V 5 (.mv (.k (.c (.b false))))]) (.ret)) (.skip))) (.seq (.rg [V 16 (.mv (.t 0)),
V 17 (.call 126 [(.t 16)]),
V 18 (.call 125 [(.t 17),(.k (.f 127 []))]),
V 6 (.mv (.t 18))]) (.seq (.rg [V 19 (.bsl 2 [.i 0,.i 0] 0 []),
V 7 (.mv (.t 19))]) (.seq (.block 0 (.loop vf67b1)) (.seq (.rg [V 66 (.mv (.t 7)),
V 4 (.mv (.t 66)),
V 5 (.mv (.k (.c (.b true))))]) (.ret))))))

def vf67:VF:=⟨vf67c,vf67v,[(4,none),(5,none)]⟩

theorem ok67:chkF Tryz.prog Tryz.f67 vf67=true:=by kernel_rfl

theorem dr67:drawsB vf67.body=true:=by kernel_rfl

def vf68v:List Nat:=[0,1,4,5,7,9,11,12,13,14,18,19,20,21,27]

def vf68b0:VC:=.seq (.rg [V 21 (.bin .lt (.t 20) (.t 19))]) (.seq (.cond (.t 21) (.skip) (.exit 2)) (.seq (.block 3 (.seq (.rg [V 22 (.idx 2 (.t 18) (.t 20)),
V 23 (.ld (some 2) (.t 22)),
V 9 (.alloc [.i 0,.i 0]),
Vn (.st 2 (.t 9) (.t 23))]) (.seq (.rg [V 24 (.fad 0 (.t 9)),
V 25 (.ld none (.t 24)),
V 26 (.mv (.t 1)),
V 27 (.bin .eq (.t 25) (.t 26))]) (.cond (.t 27) (.rg [V 28 (.mv (.t 5)),
V 29 (.fad 0 (.t 7)),
V 30 (.ld none (.t 29)),
V 31 (.fad 1 (.t 9)),
V 32 (.ld none (.t 31)),
V 33 (.build [.i 0,.i 0] [(0,1,(.t 30)),(1,1,(.t 32))]),
V 34 (.bsl 2 [.i 0,.i 0] 1 [(0,2,(.t 33))]),
V 35 (.app 2 (.t 28) (.t 34)),
V 5 (.mv (.t 35))]) (.skip))))) (.rg [V 36 (.bin .add (.t 20) (.k (.c (.i 1)))),
V 20 (.mv (.t 36))])))

def vf68b1:VC:=.seq (.rg [V 14 (.bin .lt (.t 13) (.t 12))]) (.seq (.cond (.t 14) (.skip) (.exit 0)) (.seq (.block 1 (.seq (.rg [V 15 (.idx 2 (.t 11) (.t 13)),
V 16 (.ld (some 2) (.t 15)),
V 7 (.alloc [.i 0,.ns]),
Vn (.st 2 (.t 7) (.t 16))]) (.seq (.rg [V 17 (.fad 1 (.t 7)),
V 18 (.ld none (.t 17)),
V 19 (.len (.t 18)),
V 20 (.mv (.k (.c (.i 0))))]) (.block 2 (.loop vf68b0))))) (.rg [V 37 (.bin .add (.t 13) (.k (.c (.i 1)))),
V 13 (.mv (.t 37))])))

def vf68c:VC:=.seq (.rg [V 4 (.mv (.k (.c .ns)))]) (.seq (.rg [V 10 (.bsl 2 [.i 0,.i 0] 0 []),
V 5 (.mv (.t 10))]) (.seq (.seq (.rg [V 11 (.mv (.t 0)),
V 12 (.len (.t 11)),
V 13 (.mv (.k (.c (.i 0))))]) (.block 0 (.loop vf68b1))) (.seq (.rg [V 38 (.mv (.t 5)),
V 4 (.mv (.t 38))]) (.ret))))

def vf68:VF:=⟨vf68c,vf68v,[(4,none)]⟩

theorem ok68:chkF Tryz.prog Tryz.f68 vf68=true:=by kernel_rfl

theorem dr68:drawsB vf68.body=true:=by kernel_rfl

def vf69v:List Nat:=[0,1,2,4,5,13,14,19,25]

def vf69c:VC:=.seq (.rg [V 2 (.box (.t 0)),
V 4 (.mv (.k (.c .ns)))]) (.seq (.rg [V 6 (.fad 0 (.t 2)),
V 7 (.ld none (.t 6)),
V 8 (.mv (.t 1)),
V 9 (.idx 6 (.t 7) (.t 8)),
V 10 (.fad 2 (.t 9)),
V 11 (.ld (some 4) (.t 10)),
V 5 (.alloc [.i 0,.i 0,.i 0,.i 0]),
Vn (.st 4 (.t 5) (.t 11))]) (.seq (.seq (.rg [V 12 (.fad 0 (.t 5)),
V 13 (.ld none (.t 12))]) (.block 0 (.seq (.rg [V 15 (.bin .eq (.t 13) (.k (.c (.i 1)))),
V 14 (.mv (.t 15))]) (.cond (.t 14) (.seq (.rg [V 16 (.fad 2 (.t 5)),
V 17 (.ld none (.t 16)),
V 18 (.bsl 1 [.i 0] 1 [(0,1,(.t 17))]),
V 4 (.mv (.t 18))]) (.ret)) (.seq (.rg [V 20 (.bin .eq (.t 13) (.k (.c (.i 2)))),
V 19 (.mv (.t 20))]) (.cond (.t 19) (.seq (.seq (.rg [V 21 (.fad 2 (.t 5)),
V 22 (.ld none (.t 21)),
V 23 (.fad 3 (.t 5)),
V 24 (.ld none (.t 23)),
V 25 (.bin .eq (.t 22) (.t 24))]) (.cond (.t 25) (.seq (.rg [V 26 (.fad 2 (.t 5)),
V 27 (.ld none (.t 26)),
V 28 (.bsl 1 [.i 0] 1 [(0,1,(.t 27))]),
V 4 (.mv (.t 28))]) (.ret)) (.skip))) (.seq (.rg [V 29 (.fad 2 (.t 5)),
V 30 (.ld none (.t 29)),
V 31 (.fad 3 (.t 5)),
V 32 (.ld none (.t 31)),
V 33 (.bsl 1 [.i 0] 2 [(0,1,(.t 30)),(1,1,(.t 32))]),
V 4 (.mv (.t 33))]) (.ret))) (.skip))))))) (.seq (.rg [V 34 (.bsl 1 [.i 0] 0 []),
V 4 (.mv (.t 34))]) (.ret))))

def vf69:VF:=⟨vf69c,vf69v,[(4,none)]⟩

theorem ok69:chkF Tryz.prog Tryz.f69 vf69=true:=by kernel_rfl

theorem dr69:drawsB vf69.body=true:=by kernel_rfl

def vf70v:List Nat:=[0,1,4,5,6,7,8,9,10,15,28,39,43,57,66]

def vf70b0:VC:=.seq (.seq (.rg [V 12 (.mv (.t 6)),
V 13 (.mv (.t 0)),
V 14 (.len (.t 13)),
V 15 (.bin .lt (.t 12) (.t 14))]) (.cond (.t 15) (.skip) (.exit 0))) (.seq (.block 1 (.seq (.rd [V 18 (.mv (.t 0)),
V 19 (.mv (.t 6)),
Vd [0,1] (V 20 (.idx 2 (.t 18) (.t 19))),
Vd [2] (V 21 (.fad 0 (.t 20))),
Vd [3] (V 22 (.ld none (.t 21))),
V 23 (.mv (.t 0)),
V 24 (.mv (.t 6)),
Vd [5,6] (V 25 (.idx 2 (.t 23) (.t 24))),
Vd [7] (V 26 (.fad 1 (.t 25))),
Vd [8] (V 27 (.ld none (.t 26))),
Vd [4,9] (V 28 (.bin .ne (.t 22) (.t 27)))]) (.cond (.t 28) (.rg [V 29 (.mv (.t 5)),
V 30 (.mv (.t 0)),
V 31 (.mv (.t 6)),
V 32 (.idx 2 (.t 30) (.t 31)),
V 33 (.ld (some 2) (.t 32)),
V 34 (.bsl 2 [.i 0,.i 0] 1 [(0,2,(.t 33))]),
V 35 (.app 2 (.t 29) (.t 34)),
V 5 (.mv (.t 35))]) (.skip)))) (.rg [V 16 (.mv (.t 6)),
V 17 (.bin .add (.t 16) (.k (.c (.i 1)))),
V 6 (.mv (.t 17))]))

def vf70b1:VC:=.seq (.seq (.rg [V 54 (.mv (.t 10)),
V 55 (.mv (.t 5)),
V 56 (.len (.t 55)),
V 57 (.bin .lt (.t 54) (.t 56))]) (.cond (.t 57) (.skip) (.exit 4))) (.seq (.block 5 (.seq (.rg [V 60 (.mv (.t 5)),
V 61 (.mv (.t 10)),
V 62 (.idx 2 (.t 60) (.t 61)),
V 63 (.fad 1 (.t 62)),
V 64 (.ld none (.t 63)),
V 65 (.mv (.t 9)),
V 66 (.bin .eq (.t 64) (.t 65))]) (.cond (.t 66) (.rg [V 67 (.mv (.t 5)),
V 68 (.mv (.t 10)),
V 69 (.mv (.t 1)),
V 70 (.idx 2 (.t 67) (.t 68)),
V 71 (.fad 1 (.t 70)),
Vn (.st 1 (.t 71) (.t 69))]) (.skip)))) (.rg [V 58 (.mv (.t 10)),
V 59 (.bin .add (.t 58) (.k (.c (.i 1)))),
V 10 (.mv (.t 59))]))

def vf70b2:VC:=.seq (.seq (.rg [V 37 (.mv (.t 5)),
V 38 (.len (.t 37)),
V 39 (.bin .gt (.t 38) (.k (.c (.i 0))))]) (.cond (.t 39) (.skip) (.exit 2))) (.block 3 (.seq (.rg [V 40 (.mv (.t 5)),
V 41 (.call 130 [(.t 40)]),
V 8 (.mv (.t 41))]) (.seq (.seq (.rg [V 42 (.mv (.t 8)),
V 43 (.bin .lt (.t 42) (.k (.c (.i 0))))]) (.cond (.t 43) (.seq (.rg [V 44 (.mv (.t 5)),
V 45 (.idx 2 (.t 44) (.k (.c (.i 0)))),
V 46 (.fad 0 (.t 45)),
V 47 (.ld none (.t 46)),
V 9 (.mv (.t 47))]) (.seq (.rg [V 48 (.mv (.t 7)),
V 49 (.mv (.t 1)),
V 50 (.mv (.t 9)),
V 51 (.build [.i 0,.i 0] [(0,1,(.t 49)),(1,1,(.t 50))]),
V 52 (.bsl 2 [.i 0,.i 0] 1 [(0,2,(.t 51))]),
V 53 (.app 2 (.t 48) (.t 52)),
V 7 (.mv (.t 53))]) (.seq (.seq (.rg [V 10 (.mv (.k (.c (.i 0))))]) (.block 4 (.loop vf70b1))) (.exit 3)))) (.skip))) (.seq (.rg [V 72 (.mv (.t 7)),
V 73 (.mv (.t 5)),
V 74 (.mv (.t 8)),
V 75 (.idx 2 (.t 73) (.t 74)),
V 76 (.ld (some 2) (.t 75)),
V 77 (.bsl 2 [.i 0,.i 0] 1 [(0,2,(.t 76))]),
V 78 (.app 2 (.t 72) (.t 77)),
V 7 (.mv (.t 78))]) (.rd [Vc [] [] true (V 79 (.bsl 2 [.i 0,.i 0] 0 [])),
V 80 (.mv (.t 5)),
V 81 (.mv (.t 8)),
Vc [1,2] [0] false (V 82 (.slc 2 (.t 80) none (some (.t 81)))),
Vc [0,3] [] true (V 83 (.app 2 (.t 79) (.t 82))),
V 84 (.mv (.t 5)),
V 85 (.mv (.t 8)),
Vd [6] (V 86 (.bin .add (.t 85) (.k (.c (.i 1))))),
Vc [5,7] [0,4] false (V 87 (.slc 2 (.t 84) (some (.t 86)) none)),
Vd [4,8] (V 88 (.app 2 (.t 83) (.t 87))),
Vd [9] (V 5 (.mv (.t 88)))])))))

def vf70c:VC:=.seq (.rg [V 4 (.mv (.k (.c .ns)))]) (.seq (.rg [V 11 (.bsl 2 [.i 0,.i 0] 0 []),
V 5 (.mv (.t 11))]) (.seq (.seq (.rg [V 6 (.mv (.k (.c (.i 0))))]) (.block 0 (.loop vf70b0))) (.seq (.rg [V 36 (.bsl 2 [.i 0,.i 0] 0 []),
V 7 (.mv (.t 36))]) (.seq (.block 2 (.loop vf70b2)) (.seq (.rg [V 89 (.mv (.t 7)),
V 4 (.mv (.t 89))]) (.ret))))))

def vf70:VF:=⟨vf70c,vf70v,[(4,none)]⟩

theorem ok70:chkF Tryz.prog Tryz.f70 vf70=true:=by kernel_rfl

theorem dr70:drawsB vf70.body=true:=by kernel_rfl

def vf71v:List Nat:=[0,1,2,3,6,7,8,9,10,20,36,46]

def vf71b0:VC:=.seq (.seq (.rg [V 32 (.mv (.t 10)),
V 33 (.fad 1 (.t 9)),
V 34 (.ld none (.t 33)),
V 35 (.len (.t 34)),
V 36 (.bin .lt (.t 32) (.t 35))]) (.cond (.t 36) (.skip) (.exit 2))) (.seq (.block 3 (.seq (.rg [V 39 (.fad 1 (.t 9)),
V 40 (.ld none (.t 39)),
V 41 (.mv (.t 10)),
V 42 (.idx 2 (.t 40) (.t 41)),
V 43 (.fad 0 (.t 42)),
V 44 (.ld none (.t 43)),
V 45 (.mv (.t 1)),
V 46 (.bin .eq (.t 44) (.t 45))]) (.cond (.t 46) (.rd [V 47 (.mv (.t 7)),
V 48 (.fad 0 (.t 9)),
Vd [1] (V 49 (.ld none (.t 48))),
V 50 (.fad 1 (.t 9)),
Vd [3] (V 51 (.ld none (.t 50))),
V 52 (.mv (.t 10)),
Vd [4,5] (V 53 (.idx 2 (.t 51) (.t 52))),
Vd [6] (V 54 (.fad 1 (.t 53))),
Vd [7] (V 55 (.ld none (.t 54))),
Vd [2,8] (V 56 (.build [.i 0,.i 0] [(0,1,(.t 49)),(1,1,(.t 55))])),
Vd [9] (V 57 (.bsl 2 [.i 0,.i 0] 1 [(0,2,(.t 56))])),
Vd [0,10] (V 58 (.app 2 (.t 47) (.t 57))),
Vd [11] (V 7 (.mv (.t 58)))]) (.skip)))) (.rg [V 37 (.mv (.t 10)),
V 38 (.bin .add (.t 37) (.k (.c (.i 1)))),
V 10 (.mv (.t 38))]))

def vf71b1:VC:=.seq (.seq (.rg [V 12 (.mv (.t 8)),
V 13 (.fad 0 (.t 3)),
V 14 (.ld none (.t 13)),
V 15 (.mv (.t 2)),
V 16 (.idx 6 (.t 14) (.t 15)),
V 17 (.fad 0 (.t 16)),
V 18 (.ld none (.t 17)),
V 19 (.len (.t 18)),
V 20 (.bin .lt (.t 12) (.t 19))]) (.cond (.t 20) (.skip) (.exit 0))) (.seq (.block 1 (.seq (.rg [V 23 (.fad 0 (.t 3)),
V 24 (.ld none (.t 23)),
V 25 (.mv (.t 2)),
V 26 (.idx 6 (.t 24) (.t 25)),
V 27 (.fad 0 (.t 26)),
V 28 (.ld none (.t 27)),
V 29 (.mv (.t 8)),
V 30 (.idx 2 (.t 28) (.t 29)),
V 31 (.ld (some 2) (.t 30)),
V 9 (.alloc [.i 0,.ns]),
Vn (.st 2 (.t 9) (.t 31))]) (.seq (.rg [V 10 (.mv (.k (.c (.i 0))))]) (.block 2 (.loop vf71b0))))) (.rg [V 21 (.mv (.t 8)),
V 22 (.bin .add (.t 21) (.k (.c (.i 1)))),
V 8 (.mv (.t 22))]))

def vf71c:VC:=.seq (.rg [V 3 (.box (.t 0)),
V 6 (.mv (.k (.c .ns)))]) (.seq (.rg [V 11 (.bsl 2 [.i 0,.i 0] 0 []),
V 7 (.mv (.t 11))]) (.seq (.seq (.rg [V 8 (.mv (.k (.c (.i 0))))]) (.block 0 (.loop vf71b1))) (.seq (.rg [V 59 (.mv (.t 7)),
V 6 (.mv (.t 59))]) (.ret))))

def vf71:VF:=⟨vf71c,vf71v,[(6,none)]⟩

theorem ok71:chkF Tryz.prog Tryz.f71 vf71=true:=by kernel_rfl

theorem dr71:drawsB vf71.body=true:=by kernel_rfl

def vf73v:List Nat:=[0,2,3,4,5,8,13,25,32,44]

def vf73b0:VC:=.seq (.seq (.rg [V 29 (.mv (.t 5)),
V 30 (.mv (.t 4)),
V 31 (.len (.t 30)),
V 32 (.bin .lt (.t 29) (.t 31))]) (.cond (.t 32) (.skip) (.exit 2))) (.seq (.block 3 (.seq (.rd [V 35 (.mv (.t 4)),
V 36 (.mv (.t 5)),
Vd [0,1] (V 37 (.idx 1 (.t 35) (.t 36))),
Vd [2] (V 38 (.ld none (.t 37))),
V 39 (.mv (.t 4)),
V 40 (.mv (.t 5)),
Vd [5] (V 41 (.bin .sub (.t 40) (.k (.c (.i 1))))),
Vd [4,6] (V 42 (.idx 1 (.t 39) (.t 41))),
Vd [7] (V 43 (.ld none (.t 42))),
Vd [3,8] (V 44 (.bin .ne (.t 38) (.t 43)))]) (.cond (.t 44) (.seq (.rg [V 45 (.mv (.t 0)),
V 46 (.mv (.t 3)),
V 47 (.mv (.t 4)),
V 48 (.mv (.t 5)),
V 49 (.idx 1 (.t 47) (.t 48)),
V 50 (.ld none (.t 49)),
V 51 (.idx 1 (.t 45) (.t 46)),
Vn (.st 1 (.t 51) (.t 50))]) (.rg [V 52 (.mv (.t 3)),
V 53 (.bin .add (.t 52) (.k (.c (.i 1)))),
V 3 (.mv (.t 53))])) (.skip)))) (.rg [V 33 (.mv (.t 5)),
V 34 (.bin .add (.t 33) (.k (.c (.i 1)))),
V 5 (.mv (.t 34))]))

def vf73b1:VC:=.seq (.seq (.rg [V 10 (.mv (.t 3)),
V 11 (.mv (.t 0)),
V 12 (.len (.t 11)),
V 13 (.bin .lt (.t 10) (.t 12))]) (.cond (.t 13) (.skip) (.exit 0))) (.seq (.block 1 (.seq (.rd [V 16 (.mv (.t 0)),
V 17 (.mv (.t 3)),
Vd [0,1] (V 18 (.idx 1 (.t 16) (.t 17))),
Vd [2] (V 19 (.ld none (.t 18))),
V 20 (.mv (.t 0)),
V 21 (.mv (.t 3)),
Vd [5] (V 22 (.bin .sub (.t 21) (.k (.c (.i 1))))),
Vd [4,6] (V 23 (.idx 1 (.t 20) (.t 22))),
Vd [7] (V 24 (.ld none (.t 23))),
Vd [3,8] (V 25 (.bin .eq (.t 19) (.t 24)))]) (.cond (.t 25) (.seq (.rg [V 26 (.mv (.t 0)),
V 27 (.mv (.t 3)),
V 28 (.slc 1 (.t 26) (some (.t 27)) none),
V 4 (.mv (.t 28))]) (.seq (.seq (.rg [V 5 (.mv (.k (.c (.i 1))))]) (.block 2 (.loop vf73b0))) (.seq (.rg [V 54 (.mv (.t 0)),
V 55 (.mv (.t 3)),
V 56 (.slc 1 (.t 54) (some (.t 55)) none),
Vn (.clr 1 [.i 0] (.t 56))]) (.seq (.rg [V 57 (.mv (.t 0)),
V 58 (.mv (.t 3)),
V 59 (.slc 1 (.t 57) none (some (.t 58))),
V 2 (.mv (.t 59))]) (.ret))))) (.skip)))) (.rg [V 14 (.mv (.t 3)),
V 15 (.bin .add (.t 14) (.k (.c (.i 1)))),
V 3 (.mv (.t 15))]))

def vf73c:VC:=.seq (.rg [V 2 (.mv (.k (.c .ns)))]) (.seq (.seq (.rg [V 6 (.mv (.t 0)),
V 7 (.len (.t 6)),
V 8 (.bin .lt (.t 7) (.k (.c (.i 2))))]) (.cond (.t 8) (.seq (.rg [V 9 (.mv (.t 0)),
V 2 (.mv (.t 9))]) (.ret)) (.skip))) (.seq (.seq (.rg [V 3 (.mv (.k (.c (.i 1))))]) (.block 0 (.loop vf73b1))) (.seq (.rg [V 60 (.mv (.t 0)),
V 2 (.mv (.t 60))]) (.ret))))

def vf73:VF:=⟨vf73c,vf73v,[(2,none)]⟩

theorem ok73:chkF Tryz.prog Tryz.f73 vf73=true:=by kernel_rfl

theorem dr73:drawsB vf73.body=true:=by kernel_rfl

def vf74v:List Nat:=[0,1,4]

def vf74c:VC:=.seq (.rg [V 4 (.mv (.k (.c (.b false))))]) (.seq (.rg [V 5 (.mv (.t 0)),
V 6 (.mv (.t 1)),
V 7 (.call 133 [(.t 5),(.t 6)]),
V 8 (.bin .ge (.t 7) (.k (.c (.i 0)))),
V 4 (.mv (.t 8))]) (.ret))

def vf74:VF:=⟨vf74c,vf74v,[(4,none)]⟩

theorem ok74:chkF Tryz.prog Tryz.f74 vf74=true:=by kernel_rfl

theorem dr74:drawsB vf74.body=true:=by kernel_rfl

def vf75v:List Nat:=[0,1,2]

def vf75c:VC:=.seq (.rg [V 1 (.box (.t 0)),
V 2 (.mv (.k (.c (.b false))))]) (.seq (.rg [V 3 (.fad 0 (.t 1)),
V 4 (.ld none (.t 3)),
V 5 (.len (.t 4)),
V 6 (.bin .gt (.t 5) (.k (.c (.i 0)))),
V 2 (.mv (.t 6))]) (.ret))

def vf75:VF:=⟨vf75c,vf75v,[(2,none)]⟩

theorem ok75:chkF Tryz.prog Tryz.f75 vf75=true:=by kernel_rfl

theorem dr75:drawsB vf75.body=true:=by kernel_rfl

def vf76v:List Nat:=[0,2,3,4,5,6,7]

def vf76c:VC:=.seq (.rg [V 2 (.alloc [.ns,.i 0])]) (.seq (.rg [V 8 (.mv (.t 0)),
V 9 (.build [.np,.ns,.i 0] [(0,1,(.t 8))]),
V 10 (.box (.t 9)),
V 3 (.mv (.t 10))]) (.seq (.rg [V 11 (.mv (.t 3)),
V 12 (.call 134 [(.t 11)]),
V 4 (.mv (.t 12))]) (.seq (.rg [V 13 (.mv (.t 3)),
V 14 (.call 135 [(.t 13)]),
V 5 (.mv (.t 14))]) (.seq (.rg [V 15 (.mv (.t 3)),
V 16 (.mv (.t 4)),
V 17 (.mv (.t 5)),
V 18 (.build [.i 0,.i 0,.i 0,.i 0,.i 0] [(0,1,(.k (.c (.i 24)))),(1,1,(.t 17))]),
V 19 (.call 136 [(.t 15),(.t 16),(.t 18)])]) (.seq (.rg [V 21 (.mv (.t 3)),
V 22 (.mv (.t 4)),
V 23 (.mv (.t 5)),
V 24 (.bsl 1 [.i 0] 1 [(0,1,(.t 23))]),
V 25 (.call 137 [(.t 21),(.t 22),(.t 24),(.k (.c (.i 2)))]),
V 20 (.mv (.t 25)),
V 26 (.ext 0 (.t 20)),
V 27 (.ext 1 (.t 20)),
V 6 (.mv (.t 26)),
V 7 (.mv (.t 27))]) (.seq (.rd [V 28 (.mv (.t 3)),
Vd [0] (V 29 (.nilc (.t 28))),
Vd [1] (V 30 (.fad 1 (.t 29))),
Vd [2] (V 31 (.fad 0 (.t 30))),
Vc [3] [] true (V 32 (.ld none (.t 31))),
V 33 (.mv (.t 6)),
V 34 (.mv (.t 3)),
V 35 (.mv (.t 7)),
Vc [6,7] [4] false (V 36 (.call 138 [(.t 34),(.t 35)])),
Vd [8] (V 37 (.build [.i 0,.i 0,.i 0,.i 0] [(0,1,(.k (.c (.i 3)))),(1,1,(.t 36))])),
Vd [4,5,9] (V 38 (.idx 6 (.t 32) (.t 33))),
Vd [10] (V 39 (.fad 2 (.t 38))),
Vd [11] (Vn (.st 4 (.t 39) (.t 37)))]) (.seq (.rg [V 40 (.mv (.t 3)),
V 41 (.nilc (.t 40)),
V 42 (.fad 1 (.t 41)),
V 43 (.ld (some 2) (.t 42)),
Vn (.st 2 (.t 2) (.t 43))]) (.ret))))))))

def vf76:VF:=⟨vf76c,vf76v,[(2,(some (some 2)))]⟩

theorem ok76:chkF Tryz.prog Tryz.f76 vf76=true:=by kernel_rfl

theorem dr76:drawsB vf76.body=true:=by kernel_rfl

def vf77v:List Nat:=[0,1,4,5,6,7,8,10,12]

def vf77c:VC:=.seq (.rg [V 4 (.mv (.k (.c (.i 0))))]) (.seq (.seq (.rg [V 9 (.mv (.t 1)),
V 10 (.bin .le (.t 9) (.k (.c (.i 0))))]) (.cond (.t 10) (.seq (.rg [V 4 (.mv (.k (.c (.i 0))))]) (.ret)) (.skip))) (.seq (.seq (.rg [V 11 (.mv (.t 1)),
V 12 (.bin .le (.t 11) (.k (.c (.i 256))))]) (.cond (.t 12) (.seq (.rg [V 13 (.mv (.t 0)),
V 14 (.call 139 [(.t 13)]),
V 15 (.mv (.t 1)),
V 16 (.bin .rem (.t 14) (.t 15)),
V 4 (.mv (.t 16))]) (.ret)) (.skip))) (.seq (.rg [V 17 (.mv (.t 0)),
V 18 (.call 139 [(.t 17)]),
V 5 (.mv (.t 18))]) (.seq (.rg [V 19 (.mv (.t 0)),
V 20 (.call 139 [(.t 19)]),
V 6 (.mv (.t 20))]) (.seq (.rg [V 21 (.mv (.t 0)),
V 22 (.call 139 [(.t 21)]),
V 7 (.mv (.t 22))]) (.seq (.rg [V 23 (.mv (.t 0)),
V 24 (.call 139 [(.t 23)]),
V 8 (.mv (.t 24))]) (.seq (.rg [V 25 (.mv (.t 5)),
V 26 (.bin .mul (.t 25) (.k (.c (.i 16777216)))),
V 27 (.mv (.t 6)),
V 28 (.bin .mul (.t 27) (.k (.c (.i 65536)))),
V 29 (.bin .add (.t 26) (.t 28)),
V 30 (.mv (.t 7)),
V 31 (.bin .mul (.t 30) (.k (.c (.i 256)))),
V 32 (.bin .add (.t 29) (.t 31)),
V 33 (.mv (.t 8)),
V 34 (.bin .add (.t 32) (.t 33)),
V 35 (.mv (.t 1)),
V 36 (.bin .rem (.t 34) (.t 35)),
V 4 (.mv (.t 36))]) (.ret))))))))

def vf77:VF:=⟨vf77c,vf77v,[(4,none)]⟩

theorem ok77:chkF Tryz.prog Tryz.f77 vf77=true:=by kernel_rfl

theorem dr77:drawsB vf77.body=true:=by kernel_rfl

def vf78v:List Nat:=[0,1,4]

def vf78c:VC:=.seq (.rg [V 4 (.mv (.k (.c (.i 0))))]) (.seq (.rg [V 5 (.mv (.t 1)),
V 6 (.mv (.t 0)),
V 7 (.mv (.t 1)),
V 8 (.len (.t 7)),
V 9 (.call 77 [(.t 6),(.t 8)]),
V 10 (.idx 1 (.t 5) (.t 9)),
V 11 (.ld none (.t 10)),
V 4 (.mv (.t 11))]) (.ret))

def vf78:VF:=⟨vf78c,vf78v,[(4,none)]⟩

theorem ok78:chkF Tryz.prog Tryz.f78 vf78=true:=by kernel_rfl

theorem dr78:drawsB vf78.body=true:=by kernel_rfl

def vf79v:List Nat:=[0,1,4,7]

def vf79c:VC:=.seq (.rg [V 4 (.mv (.k (.c (.i 0))))]) (.seq (.seq (.rg [V 5 (.mv (.t 0)),
V 6 (.mv (.t 1)),
V 7 (.bin .gt (.t 5) (.t 6))]) (.cond (.t 7) (.seq (.rg [V 8 (.mv (.t 0)),
V 4 (.mv (.t 8))]) (.ret)) (.skip))) (.seq (.rg [V 9 (.mv (.t 1)),
V 4 (.mv (.t 9))]) (.ret)))

def vf79:VF:=⟨vf79c,vf79v,[(4,none)]⟩

theorem ok79:chkF Tryz.prog Tryz.f79 vf79=true:=by kernel_rfl

theorem dr79:drawsB vf79.body=true:=by kernel_rfl

def vf80v:List Nat:=[0,2,4]

def vf80c:VC:=.seq (.rg [V 2 (.mv (.k (.c .ns)))]) (.seq (.seq (.rg [V 3 (.mv (.t 0)),
V 4 (.eqn false (.t 3))]) (.cond (.t 4) (.seq (.rg [V 2 (.mv (.k (.c .ns)))]) (.ret)) (.skip))) (.seq (.rg [V 5 (.bsl 5 [.i 0,.i 0,.i 0,.i 0,.i 0] 0 []),
V 6 (.mv (.t 0)),
V 7 (.app 5 (.t 5) (.t 6)),
V 2 (.mv (.t 7))]) (.ret)))

def vf80:VF:=⟨vf80c,vf80v,[(2,none)]⟩

theorem ok80:chkF Tryz.prog Tryz.f80 vf80=true:=by kernel_rfl

theorem dr80:drawsB vf80.body=true:=by kernel_rfl

def vf81v:List Nat:=[0,2,4]

def vf81c:VC:=.seq (.rg [V 2 (.mv (.k (.c .ns)))]) (.seq (.seq (.rg [V 3 (.mv (.t 0)),
V 4 (.eqn false (.t 3))]) (.cond (.t 4) (.seq (.rg [V 2 (.mv (.k (.c .ns)))]) (.ret)) (.skip))) (.seq (.rg [V 5 (.bsl 2 [.i 0,.i 0] 0 []),
V 6 (.mv (.t 0)),
V 7 (.app 2 (.t 5) (.t 6)),
V 2 (.mv (.t 7))]) (.ret)))

def vf81:VF:=⟨vf81c,vf81v,[(2,none)]⟩

theorem ok81:chkF Tryz.prog Tryz.f81 vf81=true:=by kernel_rfl

theorem dr81:drawsB vf81.body=true:=by kernel_rfl

def vf83v:List Nat:=[0,1,4,5,7,8,9,16]

def vf83b0:VC:=.seq (.rg [V 9 (.bin .lt (.t 8) (.t 7))]) (.seq (.cond (.t 9) (.skip) (.exit 0)) (.seq (.block 1 (.seq (.rg [V 10 (.mv (.t 8)),
V 5 (.mv (.t 10))]) (.seq (.rg [V 11 (.mv (.t 1)),
V 12 (.mv (.t 0)),
V 13 (.mv (.t 5)),
V 14 (.idx 2 (.t 12) (.t 13)),
V 15 (.ld (some 2) (.t 14)),
V 16 (.clv (.t 11) [(.t 15)])]) (.cond (.t 16) (.seq (.rg [V 17 (.mv (.t 5)),
V 4 (.mv (.t 17))]) (.ret)) (.skip))))) (.rg [V 18 (.bin .add (.t 8) (.k (.c (.i 1)))),
V 8 (.mv (.t 18))])))

def vf83c:VC:=.seq (.rg [V 4 (.mv (.k (.c (.i 0))))]) (.seq (.seq (.rg [V 6 (.mv (.t 0)),
V 7 (.len (.t 6)),
V 8 (.mv (.k (.c (.i 0))))]) (.block 0 (.loop vf83b0))) (.seq (.rg [V 4 (.mv (.k (.c (.i (-1)))))]) (.ret)))

def vf83:VF:=⟨vf83c,vf83v,[(4,none)]⟩

theorem ok83:chkF Tryz.prog Tryz.f83 vf83=true:=by kernel_rfl

theorem dr83:drawsB vf83.body=true:=by kernel_rfl

def vf84v:List Nat:=[0,1,4,5,7,8,9,16]

def vf84b0:VC:=.seq (.rg [V 9 (.bin .lt (.t 8) (.t 7))]) (.seq (.cond (.t 9) (.skip) (.exit 0)) (.seq (.block 1 (.seq (.rg [V 10 (.mv (.t 8)),
V 5 (.mv (.t 10))]) (.seq (.rg [V 11 (.mv (.t 1)),
V 12 (.mv (.t 0)),
V 13 (.mv (.t 5)),
V 14 (.idx 5 (.t 12) (.t 13)),
V 15 (.ld (some 5) (.t 14)),
V 16 (.clv (.t 11) [(.t 15)])]) (.cond (.t 16) (.seq (.rg [V 17 (.mv (.t 5)),
V 4 (.mv (.t 17))]) (.ret)) (.skip))))) (.rg [V 18 (.bin .add (.t 8) (.k (.c (.i 1)))),
V 8 (.mv (.t 18))])))

def vf84c:VC:=.seq (.rg [V 4 (.mv (.k (.c (.i 0))))]) (.seq (.seq (.rg [V 6 (.mv (.t 0)),
V 7 (.len (.t 6)),
V 8 (.mv (.k (.c (.i 0))))]) (.block 0 (.loop vf84b0))) (.seq (.rg [V 4 (.mv (.k (.c (.i (-1)))))]) (.ret)))

def vf84:VF:=⟨vf84c,vf84v,[(4,none)]⟩

theorem ok84:chkF Tryz.prog Tryz.f84 vf84=true:=by kernel_rfl

theorem dr84:drawsB vf84.body=true:=by kernel_rfl

def vf85v:List Nat:=[0,1,4,5,6]

def vf85c:VC:=.seq (.rg [V 4 (.mv (.k (.c (.b false))))]) (.seq (.rg [V 8 (.mv (.t 0)),
V 9 (.call 144 [(.t 8)]),
V 7 (.mv (.t 9)),
V 10 (.ext 0 (.t 7)),
V 11 (.ext 1 (.t 7)),
V 5 (.mv (.t 10)),
V 6 (.mv (.t 11))]) (.seq (.rg [V 12 (.mv (.t 6)),
V 13 (.mv (.t 12)),
Vg 14 13 true (.mv (.t 5)),
Vg 15 13 true (.s2b (.t 14)),
Vg 16 13 true (.mv (.t 1)),
Vg 17 13 true (.call 145 [(.t 15),(.t 16)]),
V 18 (.pick (.t 13) (.t 17) (.k (.c (.b false)))),
V 4 (.mv (.t 18))]) (.ret)))

def vf85:VF:=⟨vf85c,vf85v,[(4,none)]⟩

theorem ok85:chkF Tryz.prog Tryz.f85 vf85=true:=by kernel_rfl

theorem dr85:drawsB vf85.body=true:=by kernel_rfl

def vf86v:List Nat:=[0,1,2,6]

def vf86c:VC:=.seq (.rg [V 6 (.mv (.k (.c (.b false))))]) (.seq (.rg [V 7 (.mv (.t 0)),
V 8 (.mv (.t 1)),
V 9 (.bin .ge (.t 7) (.t 8)),
V 10 (.mv (.t 9)),
Vg 11 10 true (.mv (.t 0)),
Vg 12 10 true (.mv (.t 2)),
Vg 13 10 true (.bin .le (.t 11) (.t 12)),
V 14 (.pick (.t 10) (.t 13) (.k (.c (.b false)))),
V 6 (.mv (.t 14))]) (.ret))

def vf86:VF:=⟨vf86c,vf86v,[(6,none)]⟩

theorem ok86:chkF Tryz.prog Tryz.f86 vf86=true:=by kernel_rfl

theorem dr86:drawsB vf86.body=true:=by kernel_rfl

def vf88v:List Nat:=[0,1,2,3,4,9,20,33]

def vf88b0:VC:=.seq (.seq (.rg [V 12 (.mv (.t 4)),
V 13 (.fad 0 (.t 1)),
V 14 (.ld none (.t 13)),
V 15 (.mv (.t 3)),
V 16 (.idx 6 (.t 14) (.t 15)),
V 17 (.fad 1 (.t 16)),
V 18 (.ld none (.t 17)),
V 19 (.len (.t 18)),
V 20 (.bin .lt (.t 12) (.t 19))]) (.cond (.t 20) (.skip) (.exit 2))) (.seq (.block 3 (.seq (.rg [V 23 (.fad 0 (.t 1)),
V 24 (.ld none (.t 23)),
V 25 (.mv (.t 3)),
V 26 (.idx 6 (.t 24) (.t 25)),
V 27 (.fad 1 (.t 26)),
V 28 (.ld none (.t 27)),
V 29 (.mv (.t 4)),
V 30 (.idx 5 (.t 28) (.t 29)),
V 31 (.fad 0 (.t 30)),
V 32 (.ld none (.t 31)),
V 33 (.bin .eq (.t 32) (.k (.c (.i 25))))]) (.cond (.t 33) (.seq (.rg [V 2 (.mv (.k (.c (.b true))))]) (.ret)) (.skip)))) (.rg [V 21 (.mv (.t 4)),
V 22 (.bin .add (.t 21) (.k (.c (.i 1)))),
V 4 (.mv (.t 22))]))

def vf88b1:VC:=.seq (.seq (.rg [V 5 (.mv (.t 3)),
V 6 (.fad 0 (.t 1)),
V 7 (.ld none (.t 6)),
V 8 (.len (.t 7)),
V 9 (.bin .lt (.t 5) (.t 8))]) (.cond (.t 9) (.skip) (.exit 0))) (.seq (.block 1 (.seq (.rg [V 4 (.mv (.k (.c (.i 0))))]) (.block 2 (.loop vf88b0)))) (.rg [V 10 (.mv (.t 3)),
V 11 (.bin .add (.t 10) (.k (.c (.i 1)))),
V 3 (.mv (.t 11))]))

def vf88c:VC:=.seq (.rg [V 1 (.box (.t 0)),
V 2 (.mv (.k (.c (.b false))))]) (.seq (.seq (.rg [V 3 (.mv (.k (.c (.i 0))))]) (.block 0 (.loop vf88b1))) (.seq (.rg [V 2 (.mv (.k (.c (.b false))))]) (.ret)))

def vf88:VF:=⟨vf88c,vf88v,[(2,none)]⟩

theorem ok88:chkF Tryz.prog Tryz.f88 vf88=true:=by kernel_rfl

theorem dr88:drawsB vf88.body=true:=by kernel_rfl

def vf89v:List Nat:=[0,1,2,4,5,6,12,19]

def vf89b0:VC:=.seq (.seq (.rg [V 8 (.mv (.t 6)),
V 9 (.fad 0 (.t 2)),
V 10 (.ld none (.t 9)),
V 11 (.len (.t 10)),
V 12 (.bin .lt (.t 8) (.t 11))]) (.cond (.t 12) (.skip) (.exit 0))) (.seq (.block 1 (.seq (.rg [V 15 (.ld (some 2) (.t 2)),
V 16 (.mv (.t 6)),
V 17 (.call 69 [(.t 15),(.t 16)]),
V 18 (.mv (.t 1)),
V 19 (.call 146 [(.t 17),(.t 18)])]) (.cond (.t 19) (.rg [V 20 (.mv (.t 5)),
V 21 (.mv (.t 6)),
V 22 (.bsl 1 [.i 0] 1 [(0,1,(.t 21))]),
V 23 (.app 1 (.t 20) (.t 22)),
V 5 (.mv (.t 23))]) (.skip)))) (.rg [V 13 (.mv (.t 6)),
V 14 (.bin .add (.t 13) (.k (.c (.i 1)))),
V 6 (.mv (.t 14))]))

def vf89c:VC:=.seq (.rg [V 2 (.box (.t 0)),
V 4 (.mv (.k (.c .ns)))]) (.seq (.rg [V 7 (.bsl 1 [.i 0] 0 []),
V 5 (.mv (.t 7))]) (.seq (.seq (.rg [V 6 (.mv (.k (.c (.i 0))))]) (.block 0 (.loop vf89b0))) (.seq (.rg [V 24 (.mv (.t 5)),
V 4 (.mv (.t 24))]) (.ret))))

def vf89:VF:=⟨vf89c,vf89v,[(4,none)]⟩

theorem ok89:chkF Tryz.prog Tryz.f89 vf89=true:=by kernel_rfl

theorem dr89:drawsB vf89.body=true:=by kernel_rfl

def vf90v:List Nat:=[0,1,2,3,4,5,6,7,12,26,43,47,57]

def vf90b0:VC:=.seq (.seq (.rg [V 44 (.mv (.t 7)),
V 45 (.mv (.t 6)),
V 46 (.len (.t 45)),
V 47 (.bin .lt (.t 44) (.t 46))]) (.cond (.t 47) (.skip) (.exit 4))) (.seq (.block 5 (.seq (.rg [V 50 (.mv (.t 4)),
V 51 (.mv (.t 6)),
V 52 (.mv (.t 7)),
V 53 (.idx 2 (.t 51) (.t 52)),
V 54 (.fad 0 (.t 53)),
V 55 (.ld none (.t 54)),
V 56 (.call 146 [(.t 50),(.t 55)]),
V 57 (.not (.t 56))]) (.cond (.t 57) (.seq (.rg [V 2 (.mv (.k (.c (.b false))))]) (.ret)) (.skip)))) (.rg [V 48 (.mv (.t 7)),
V 49 (.bin .add (.t 48) (.k (.c (.i 1)))),
V 7 (.mv (.t 49))]))

def vf90b1:VC:=.seq (.seq (.rg [V 18 (.mv (.t 5)),
V 19 (.fad 0 (.t 1)),
V 20 (.ld none (.t 19)),
V 21 (.mv (.t 3)),
V 22 (.idx 6 (.t 20) (.t 21)),
V 23 (.fad 0 (.t 22)),
V 24 (.ld none (.t 23)),
V 25 (.len (.t 24)),
V 26 (.bin .lt (.t 18) (.t 25))]) (.cond (.t 26) (.skip) (.exit 2))) (.seq (.block 3 (.seq (.rg [V 29 (.fad 0 (.t 1)),
V 30 (.ld none (.t 29)),
V 31 (.mv (.t 3)),
V 32 (.idx 6 (.t 30) (.t 31)),
V 33 (.fad 0 (.t 32)),
V 34 (.ld none (.t 33)),
V 35 (.mv (.t 5)),
V 36 (.idx 2 (.t 34) (.t 35)),
V 37 (.fad 1 (.t 36)),
V 38 (.ld none (.t 37)),
V 6 (.mv (.t 38))]) (.seq (.seq (.rg [V 39 (.mv (.t 6)),
V 40 (.len (.t 39)),
V 41 (.mv (.t 4)),
V 42 (.len (.t 41)),
V 43 (.bin .ne (.t 40) (.t 42))]) (.cond (.t 43) (.seq (.rg [V 2 (.mv (.k (.c (.b false))))]) (.ret)) (.skip))) (.seq (.rg [V 7 (.mv (.k (.c (.i 0))))]) (.block 4 (.loop vf90b0)))))) (.rg [V 27 (.mv (.t 5)),
V 28 (.bin .add (.t 27) (.k (.c (.i 1)))),
V 5 (.mv (.t 28))]))

def vf90b2:VC:=.seq (.seq (.rg [V 8 (.mv (.t 3)),
V 9 (.fad 0 (.t 1)),
V 10 (.ld none (.t 9)),
V 11 (.len (.t 10)),
V 12 (.bin .lt (.t 8) (.t 11))]) (.cond (.t 12) (.skip) (.exit 0))) (.seq (.block 1 (.seq (.rg [V 15 (.ld (some 2) (.t 1)),
V 16 (.mv (.t 3)),
V 17 (.call 89 [(.t 15),(.t 16)]),
V 4 (.mv (.t 17))]) (.seq (.rg [V 5 (.mv (.k (.c (.i 0))))]) (.block 2 (.loop vf90b1))))) (.rg [V 13 (.mv (.t 3)),
V 14 (.bin .add (.t 13) (.k (.c (.i 1)))),
V 3 (.mv (.t 14))]))

def vf90c:VC:=.seq (.rg [V 1 (.box (.t 0)),
V 2 (.mv (.k (.c (.b false))))]) (.seq (.seq (.rg [V 3 (.mv (.k (.c (.i 0))))]) (.block 0 (.loop vf90b2))) (.seq (.rg [V 2 (.mv (.k (.c (.b true))))]) (.ret)))

def vf90:VF:=⟨vf90c,vf90v,[(2,none)]⟩

theorem ok90:chkF Tryz.prog Tryz.f90 vf90=true:=by kernel_rfl

theorem dr90:drawsB vf90.body=true:=by kernel_rfl

def vf91v:List Nat:=[0,1,2,3,4,5,6,7,15,26,52,66]

def vf91b0:VC:=.seq (.seq (.rg [V 18 (.mv (.t 5)),
V 19 (.fad 0 (.t 1)),
V 20 (.ld none (.t 19)),
V 21 (.mv (.t 4)),
V 22 (.idx 6 (.t 20) (.t 21)),
V 23 (.fad 0 (.t 22)),
V 24 (.ld none (.t 23)),
V 25 (.len (.t 24)),
V 26 (.bin .lt (.t 18) (.t 25))]) (.cond (.t 26) (.skip) (.exit 2))) (.seq (.block 3 (.rg [V 29 (.mv (.t 3)),
V 30 (.fad 0 (.t 1)),
V 31 (.ld none (.t 30)),
V 32 (.mv (.t 4)),
V 33 (.idx 6 (.t 31) (.t 32)),
V 34 (.fad 0 (.t 33)),
V 35 (.ld none (.t 34)),
V 36 (.mv (.t 5)),
V 37 (.idx 2 (.t 35) (.t 36)),
V 38 (.fad 0 (.t 37)),
V 39 (.ld none (.t 38)),
V 40 (.idx 1 (.t 29) (.t 39)),
V 41 (.ld none (.t 40)),
V 42 (.bin .add (.t 41) (.k (.c (.i 1)))),
V 43 (.idx 1 (.t 29) (.t 39)),
Vn (.st 1 (.t 43) (.t 42))])) (.rg [V 27 (.mv (.t 5)),
V 28 (.bin .add (.t 27) (.k (.c (.i 1)))),
V 5 (.mv (.t 28))]))

def vf91b1:VC:=.seq (.seq (.rg [V 44 (.mv (.t 6)),
V 45 (.fad 0 (.t 1)),
V 46 (.ld none (.t 45)),
V 47 (.mv (.t 4)),
V 48 (.idx 6 (.t 46) (.t 47)),
V 49 (.fad 1 (.t 48)),
V 50 (.ld none (.t 49)),
V 51 (.len (.t 50)),
V 52 (.bin .lt (.t 44) (.t 51))]) (.cond (.t 52) (.skip) (.exit 4))) (.seq (.block 5 (.seq (.rg [V 55 (.fad 0 (.t 1)),
V 56 (.ld none (.t 55)),
V 57 (.mv (.t 4)),
V 58 (.idx 6 (.t 56) (.t 57)),
V 59 (.fad 1 (.t 58)),
V 60 (.ld none (.t 59)),
V 61 (.mv (.t 6)),
V 62 (.idx 5 (.t 60) (.t 61)),
V 63 (.ld (some 5) (.t 62)),
V 64 (.call 46 [(.t 63)]),
V 7 (.mv (.t 64))]) (.seq (.rg [V 65 (.mv (.t 7)),
V 66 (.bin .ge (.t 65) (.k (.c (.i 0))))]) (.cond (.t 66) (.rg [V 67 (.mv (.t 3)),
V 68 (.mv (.t 7)),
V 69 (.idx 1 (.t 67) (.t 68)),
V 70 (.ld none (.t 69)),
V 71 (.bin .add (.t 70) (.k (.c (.i 1)))),
V 72 (.idx 1 (.t 67) (.t 68)),
Vn (.st 1 (.t 72) (.t 71))]) (.skip))))) (.rg [V 53 (.mv (.t 6)),
V 54 (.bin .add (.t 53) (.k (.c (.i 1)))),
V 6 (.mv (.t 54))]))

def vf91b2:VC:=.seq (.seq (.rg [V 11 (.mv (.t 4)),
V 12 (.fad 0 (.t 1)),
V 13 (.ld none (.t 12)),
V 14 (.len (.t 13)),
V 15 (.bin .lt (.t 11) (.t 14))]) (.cond (.t 15) (.skip) (.exit 0))) (.seq (.block 1 (.seq (.seq (.rg [V 5 (.mv (.k (.c (.i 0))))]) (.block 2 (.loop vf91b0))) (.seq (.rg [V 6 (.mv (.k (.c (.i 0))))]) (.block 4 (.loop vf91b1))))) (.rg [V 16 (.mv (.t 4)),
V 17 (.bin .add (.t 16) (.k (.c (.i 1)))),
V 4 (.mv (.t 17))]))

def vf91c:VC:=.seq (.rg [V 1 (.box (.t 0)),
V 2 (.mv (.k (.c .ns)))]) (.seq (.rg [V 8 (.fad 1 (.t 1)),
V 9 (.ld none (.t 8)),
V 10 (.mks 1 [.i 0] (.t 9)),
V 3 (.mv (.t 10))]) (.seq (.seq (.rg [V 4 (.mv (.k (.c (.i 0))))]) (.block 0 (.loop vf91b2))) (.seq (.rg [V 73 (.mv (.t 3)),
V 2 (.mv (.t 73))]) (.ret))))

def vf91:VF:=⟨vf91c,vf91v,[(2,none)]⟩

theorem ok91:chkF Tryz.prog Tryz.f91 vf91=true:=by kernel_rfl

theorem dr91:drawsB vf91.body=true:=by kernel_rfl

def vf92v:List Nat:=[0,1,2,3,4,5,6,7,8,9,10,11,12,13,20,32,44,56,63,77,82,93,120]

def vf92b0:VC:=.seq (.seq (.rg [V 41 (.mv (.t 8)),
V 42 (.mv (.t 7)),
V 43 (.len (.t 42)),
V 44 (.bin .lt (.t 41) (.t 43))]) (.cond (.t 44) (.skip) (.exit 4))) (.seq (.block 5 (.seq (.rd [V 47 (.ld (some 2) (.t 1)),
V 48 (.mv (.t 3)),
V 49 (.mv (.t 7)),
V 50 (.mv (.t 8)),
Vd [2,3] (V 51 (.idx 1 (.t 49) (.t 50))),
Vd [4] (V 52 (.ld none (.t 51))),
V 53 (.mv (.t 4)),
V 54 (.mv (.t 6)),
Vd [0,1,5,6,7] (V 55 (.call 149 [(.t 47),(.t 48),(.t 52),(.t 53),(.t 54)])),
Vd [8] (V 56 (.not (.t 55)))]) (.cond (.t 56) (.seq (.rg [V 2 (.mv (.k (.c (.b false))))]) (.ret)) (.skip)))) (.rg [V 45 (.mv (.t 8)),
V 46 (.bin .add (.t 45) (.k (.c (.i 1)))),
V 8 (.mv (.t 46))]))

def vf92b1:VC:=.seq (.seq (.rg [V 28 (.mv (.t 6)),
V 29 (.fad 1 (.t 5)),
V 30 (.ld none (.t 29)),
V 31 (.len (.t 30)),
V 32 (.bin .lt (.t 28) (.t 31))]) (.cond (.t 32) (.skip) (.exit 2))) (.seq (.block 3 (.seq (.rg [V 35 (.fad 1 (.t 5)),
V 36 (.ld none (.t 35)),
V 37 (.mv (.t 6)),
V 38 (.idx 5 (.t 36) (.t 37)),
V 39 (.ld (some 5) (.t 38)),
V 40 (.call 148 [(.t 39)]),
V 7 (.mv (.t 40))]) (.seq (.rg [V 8 (.mv (.k (.c (.i 0))))]) (.block 4 (.loop vf92b0))))) (.rg [V 33 (.mv (.t 6)),
V 34 (.bin .add (.t 33) (.k (.c (.i 1)))),
V 6 (.mv (.t 34))]))

def vf92b2:VC:=.seq (.seq (.rg [V 60 (.mv (.t 10)),
V 61 (.mv (.t 9)),
V 62 (.len (.t 61)),
V 63 (.bin .lt (.t 60) (.t 62))]) (.cond (.t 63) (.skip) (.exit 6))) (.seq (.block 7 (.seq (.rd [V 66 (.ld (some 2) (.t 1)),
V 67 (.mv (.t 3)),
V 68 (.mv (.t 9)),
V 69 (.mv (.t 10)),
Vd [2,3] (V 70 (.idx 1 (.t 68) (.t 69))),
Vd [4] (V 71 (.ld none (.t 70))),
V 72 (.mv (.t 4)),
V 73 (.fad 1 (.t 5)),
Vd [7] (V 74 (.ld none (.t 73))),
Vd [8] (V 75 (.len (.t 74))),
Vd [0,1,5,6,9] (V 76 (.call 149 [(.t 66),(.t 67),(.t 71),(.t 72),(.t 75)])),
Vd [10] (V 77 (.not (.t 76)))]) (.cond (.t 77) (.seq (.rg [V 2 (.mv (.k (.c (.b false))))]) (.ret)) (.skip)))) (.rg [V 64 (.mv (.t 10)),
V 65 (.bin .add (.t 64) (.k (.c (.i 1)))),
V 10 (.mv (.t 65))]))

def vf92b3:VC:=.seq (.seq (.rg [V 85 (.mv (.t 12)),
V 86 (.fad 0 (.t 5)),
V 87 (.ld none (.t 86)),
V 88 (.mv (.t 11)),
V 89 (.idx 2 (.t 87) (.t 88)),
V 90 (.fad 1 (.t 89)),
V 91 (.ld none (.t 90)),
V 92 (.len (.t 91)),
V 93 (.bin .lt (.t 85) (.t 92))]) (.cond (.t 93) (.skip) (.exit 10))) (.seq (.block 11 (.seq (.rg [V 96 (.fad 0 (.t 5)),
V 97 (.ld none (.t 96)),
V 98 (.mv (.t 11)),
V 99 (.idx 2 (.t 97) (.t 98)),
V 100 (.fad 1 (.t 99)),
V 101 (.ld none (.t 100)),
V 102 (.mv (.t 12)),
V 103 (.idx 2 (.t 101) (.t 102)),
V 104 (.ld (some 2) (.t 103)),
V 13 (.alloc [.i 0,.i 0]),
Vn (.st 2 (.t 13) (.t 104))]) (.seq (.rd [V 105 (.ld (some 2) (.t 1)),
V 106 (.mv (.t 3)),
V 107 (.fad 1 (.t 13)),
Vd [2] (V 108 (.ld none (.t 107))),
V 109 (.fad 0 (.t 13)),
Vd [4] (V 110 (.ld none (.t 109))),
V 111 (.fad 0 (.t 1)),
Vd [6] (V 112 (.ld none (.t 111))),
V 113 (.fad 0 (.t 13)),
Vd [8] (V 114 (.ld none (.t 113))),
Vd [7,9] (V 115 (.idx 6 (.t 112) (.t 114))),
Vd [10] (V 116 (.fad 1 (.t 115))),
Vd [11] (V 117 (.ld none (.t 116))),
Vd [12] (V 118 (.len (.t 117))),
Vd [0,1,3,5,13] (V 119 (.call 149 [(.t 105),(.t 106),(.t 108),(.t 110),(.t 118)])),
Vd [14] (V 120 (.not (.t 119)))]) (.cond (.t 120) (.seq (.rg [V 2 (.mv (.k (.c (.b false))))]) (.ret)) (.skip))))) (.rg [V 94 (.mv (.t 12)),
V 95 (.bin .add (.t 94) (.k (.c (.i 1)))),
V 12 (.mv (.t 95))]))

def vf92b4:VC:=.seq (.seq (.rg [V 78 (.mv (.t 11)),
V 79 (.fad 0 (.t 5)),
V 80 (.ld none (.t 79)),
V 81 (.len (.t 80)),
V 82 (.bin .lt (.t 78) (.t 81))]) (.cond (.t 82) (.skip) (.exit 8))) (.seq (.block 9 (.seq (.rg [V 12 (.mv (.k (.c (.i 0))))]) (.block 10 (.loop vf92b3)))) (.rg [V 83 (.mv (.t 11)),
V 84 (.bin .add (.t 83) (.k (.c (.i 1)))),
V 11 (.mv (.t 84))]))

def vf92b5:VC:=.seq (.seq (.rg [V 16 (.mv (.t 4)),
V 17 (.fad 0 (.t 1)),
V 18 (.ld none (.t 17)),
V 19 (.len (.t 18)),
V 20 (.bin .lt (.t 16) (.t 19))]) (.cond (.t 20) (.skip) (.exit 0))) (.seq (.block 1 (.seq (.rg [V 23 (.fad 0 (.t 1)),
V 24 (.ld none (.t 23)),
V 25 (.mv (.t 4)),
V 26 (.idx 6 (.t 24) (.t 25)),
V 27 (.ld (some 6) (.t 26)),
V 5 (.alloc [.ns,.ns,.i 0,.i 0,.i 0,.i 0]),
Vn (.st 6 (.t 5) (.t 27))]) (.seq (.seq (.rg [V 6 (.mv (.k (.c (.i 0))))]) (.block 2 (.loop vf92b1))) (.seq (.rg [V 57 (.fad 2 (.t 5)),
V 58 (.ld (some 4) (.t 57)),
V 59 (.call 150 [(.t 58)]),
V 9 (.mv (.t 59))]) (.seq (.seq (.rg [V 10 (.mv (.k (.c (.i 0))))]) (.block 6 (.loop vf92b2))) (.seq (.rg [V 11 (.mv (.k (.c (.i 0))))]) (.block 8 (.loop vf92b4)))))))) (.rg [V 21 (.mv (.t 4)),
V 22 (.bin .add (.t 21) (.k (.c (.i 1)))),
V 4 (.mv (.t 22))]))

def vf92c:VC:=.seq (.rg [V 1 (.box (.t 0)),
V 2 (.mv (.k (.c (.b false))))]) (.seq (.rg [V 14 (.ld (some 2) (.t 1)),
V 15 (.call 147 [(.t 14)]),
V 3 (.mv (.t 15))]) (.seq (.seq (.rg [V 4 (.mv (.k (.c (.i 0))))]) (.block 0 (.loop vf92b5))) (.seq (.rg [V 2 (.mv (.k (.c (.b true))))]) (.ret))))

def vf92:VF:=⟨vf92c,vf92v,[(2,none)]⟩

theorem ok92:chkF Tryz.prog Tryz.f92 vf92=true:=by kernel_rfl

theorem dr92:drawsB vf92.body=true:=by kernel_rfl

def vf94v:List Nat:=[0,2]

def vf94c:VC:=.seq (.rg [V 2 (.mv (.k (.c (.b false))))]) (.seq (.rg [V 3 (.mv (.t 0)),
V 4 (.call 48 [(.t 3)]),
V 5 (.mv (.t 4)),
Vg 6 5 false (.mv (.t 0)),
Vg 7 5 false (.bin .eq (.t 6) (.k (.c (.i 20)))),
V 8 (.pick (.t 5) (.k (.c (.b true))) (.t 7)),
V 9 (.mv (.t 8)),
Vg 10 9 false (.mv (.t 0)),
Vg 11 9 false (.bin .eq (.t 10) (.k (.c (.i 21)))),
V 12 (.pick (.t 9) (.k (.c (.b true))) (.t 11)),
V 13 (.mv (.t 12)),
Vg 14 13 false (.mv (.t 0)),
Vg 15 13 false (.bin .eq (.t 14) (.k (.c (.i 24)))),
V 16 (.pick (.t 13) (.k (.c (.b true))) (.t 15)),
V 17 (.mv (.t 16)),
Vg 18 17 false (.mv (.t 0)),
Vg 19 17 false (.bin .eq (.t 18) (.k (.c (.i 25)))),
V 20 (.pick (.t 17) (.k (.c (.b true))) (.t 19)),
V 2 (.mv (.t 20))]) (.ret))

def vf94:VF:=⟨vf94c,vf94v,[(2,none)]⟩

theorem ok94:chkF Tryz.prog Tryz.f94 vf94=true:=by kernel_rfl

theorem dr94:drawsB vf94.body=true:=by kernel_rfl

def vf95v:List Nat:=[0,1,2,3,4,8,9,10,20,30]

def vf95b0:VC:=.seq (.seq (.rg [V 17 (.mv (.t 10)),
V 18 (.mv (.t 9)),
V 19 (.len (.t 18)),
V 20 (.bin .lt (.t 17) (.t 19))]) (.cond (.t 20) (.skip) (.exit 0))) (.seq (.block 1 (.seq (.rg [V 23 (.mv (.t 2)),
V 24 (.mv (.t 9)),
V 25 (.mv (.t 10)),
V 26 (.idx 1 (.t 24) (.t 25)),
V 27 (.ld none (.t 26)),
V 28 (.idx 1 (.t 23) (.t 27)),
V 29 (.ld none (.t 28)),
V 30 (.not (.t 29))]) (.cond (.t 30) (.rd [V 31 (.ld (some 2) (.t 4)),
V 32 (.mv (.t 9)),
V 33 (.mv (.t 10)),
Vd [1,2] (V 34 (.idx 1 (.t 32) (.t 33))),
Vd [3] (V 35 (.ld none (.t 34))),
V 36 (.mv (.t 2)),
V 37 (.mv (.t 3)),
Vd [0,4,5,6] (V 38 (.call 95 [(.t 31),(.t 35),(.t 36),(.t 37)])),
Vd [7] (V 3 (.mv (.t 38)))]) (.skip)))) (.rg [V 21 (.mv (.t 10)),
V 22 (.bin .add (.t 21) (.k (.c (.i 1)))),
V 10 (.mv (.t 22))]))

def vf95c:VC:=.seq (.rg [V 4 (.box (.t 0)),
V 8 (.mv (.k (.c .ns)))]) (.seq (.rg [V 11 (.mv (.t 2)),
V 12 (.mv (.t 1)),
V 13 (.idx 1 (.t 11) (.t 12)),
Vn (.st 1 (.t 13) (.k (.c (.b true))))]) (.seq (.rg [V 14 (.ld (some 2) (.t 4)),
V 15 (.mv (.t 1)),
V 16 (.call 69 [(.t 14),(.t 15)]),
V 9 (.mv (.t 16))]) (.seq (.seq (.rg [V 10 (.mv (.k (.c (.i 0))))]) (.block 0 (.loop vf95b0))) (.seq (.rg [V 39 (.mv (.t 3)),
V 40 (.mv (.t 1)),
V 41 (.bsl 1 [.i 0] 1 [(0,1,(.t 40))]),
V 42 (.app 1 (.t 39) (.t 41)),
V 8 (.mv (.t 42))]) (.ret)))))

def vf95:VF:=⟨vf95c,vf95v,[(8,none)]⟩

theorem ok95:chkF Tryz.prog Tryz.f95 vf95=true:=by kernel_rfl

theorem dr95:drawsB vf95.body=true:=by kernel_rfl

def vf96v:List Nat:=[0,1,2,6]

def vf96c:VC:=.seq (.rg [V 6 (.mv (.k (.c (.b false))))]) (.seq (.rg [V 7 (.mv (.t 0)),
V 8 (.mv (.t 1)),
V 9 (.bin .ge (.t 7) (.t 8)),
V 10 (.mv (.t 9)),
Vg 11 10 true (.mv (.t 0)),
Vg 12 10 true (.mv (.t 2)),
Vg 13 10 true (.bin .le (.t 11) (.t 12)),
V 14 (.pick (.t 10) (.t 13) (.k (.c (.b false)))),
V 6 (.mv (.t 14))]) (.ret))

def vf96:VF:=⟨vf96c,vf96v,[(6,none)]⟩

theorem ok96:chkF Tryz.prog Tryz.f96 vf96=true:=by kernel_rfl

theorem dr96:drawsB vf96.body=true:=by kernel_rfl

def vf98v:List Nat:=[0,1,4,5,10,14,25]

def vf98b0:VC:=.seq (.seq (.rg [V 11 (.mv (.t 5)),
V 12 (.mv (.t 0)),
V 13 (.len (.t 12)),
V 14 (.bin .lt (.t 11) (.t 13))]) (.cond (.t 14) (.skip) (.exit 0))) (.seq (.block 1 (.seq (.rd [V 17 (.mv (.t 0)),
V 18 (.mv (.t 5)),
Vd [0,1] (V 19 (.idx 5 (.t 17) (.t 18))),
Vd [2] (V 20 (.ld (some 5) (.t 19))),
V 21 (.mv (.t 1)),
V 22 (.mv (.t 5)),
Vd [4,5] (V 23 (.idx 5 (.t 21) (.t 22))),
Vd [6] (V 24 (.ld (some 5) (.t 23))),
Vd [3,7] (V 25 (.eqa 5 true (.t 20) (.t 24)))]) (.cond (.t 25) (.seq (.rg [V 4 (.mv (.k (.c (.b false))))]) (.ret)) (.skip)))) (.rg [V 15 (.mv (.t 5)),
V 16 (.bin .add (.t 15) (.k (.c (.i 1)))),
V 5 (.mv (.t 16))]))

def vf98c:VC:=.seq (.rg [V 4 (.mv (.k (.c (.b false))))]) (.seq (.seq (.rg [V 6 (.mv (.t 0)),
V 7 (.len (.t 6)),
V 8 (.mv (.t 1)),
V 9 (.len (.t 8)),
V 10 (.bin .ne (.t 7) (.t 9))]) (.cond (.t 10) (.seq (.rg [V 4 (.mv (.k (.c (.b false))))]) (.ret)) (.skip))) (.seq (.seq (.rg [V 5 (.mv (.k (.c (.i 0))))]) (.block 0 (.loop vf98b0))) (.seq (.rg [V 4 (.mv (.k (.c (.b true))))]) (.ret))))

def vf98:VF:=⟨vf98c,vf98v,[(4,none)]⟩

theorem ok98:chkF Tryz.prog Tryz.f98 vf98=true:=by kernel_rfl

theorem dr98:drawsB vf98.body=true:=by kernel_rfl

def vf99v:List Nat:=[0,1,4,5,10,14,25]

def vf99b0:VC:=.seq (.seq (.rg [V 11 (.mv (.t 5)),
V 12 (.mv (.t 0)),
V 13 (.len (.t 12)),
V 14 (.bin .lt (.t 11) (.t 13))]) (.cond (.t 14) (.skip) (.exit 0))) (.seq (.block 1 (.seq (.rd [V 17 (.mv (.t 0)),
V 18 (.mv (.t 5)),
Vd [0,1] (V 19 (.idx 2 (.t 17) (.t 18))),
Vd [2] (V 20 (.ld (some 2) (.t 19))),
V 21 (.mv (.t 1)),
V 22 (.mv (.t 5)),
Vd [4,5] (V 23 (.idx 2 (.t 21) (.t 22))),
Vd [6] (V 24 (.ld (some 2) (.t 23))),
Vd [3,7] (V 25 (.eqa 2 true (.t 20) (.t 24)))]) (.cond (.t 25) (.seq (.rg [V 4 (.mv (.k (.c (.b false))))]) (.ret)) (.skip)))) (.rg [V 15 (.mv (.t 5)),
V 16 (.bin .add (.t 15) (.k (.c (.i 1)))),
V 5 (.mv (.t 16))]))

def vf99c:VC:=.seq (.rg [V 4 (.mv (.k (.c (.b false))))]) (.seq (.seq (.rg [V 6 (.mv (.t 0)),
V 7 (.len (.t 6)),
V 8 (.mv (.t 1)),
V 9 (.len (.t 8)),
V 10 (.bin .ne (.t 7) (.t 9))]) (.cond (.t 10) (.seq (.rg [V 4 (.mv (.k (.c (.b false))))]) (.ret)) (.skip))) (.seq (.seq (.rg [V 5 (.mv (.k (.c (.i 0))))]) (.block 0 (.loop vf99b0))) (.seq (.rg [V 4 (.mv (.k (.c (.b true))))]) (.ret))))

def vf99:VF:=⟨vf99c,vf99v,[(4,none)]⟩

theorem ok99:chkF Tryz.prog Tryz.f99 vf99=true:=by kernel_rfl

theorem dr99:drawsB vf99.body=true:=by kernel_rfl

def vf100v:List Nat:=[0,1,2,3,4,23]

def vf100c:VC:=.seq (.rg [V 3 (.box (.t 0)),
V 4 (.mv (.k (.c (.b false))))]) (.seq (.seq (.rg [V 5 (.fad 0 (.t 3)),
V 6 (.ld none (.t 5)),
V 7 (.len (.t 6)),
V 8 (.bin .gt (.t 7) (.k (.c (.i 24)))),
V 9 (.mv (.t 8)),
Vg 10 9 false (.fad 1 (.t 3)),
Vg 11 9 false (.ld none (.t 10)),
Vg 12 9 false (.len (.t 11)),
Vg 13 9 false (.bin .gt (.t 12) (.k (.c (.i 24)))),
V 14 (.pick (.t 9) (.k (.c (.b true))) (.t 13)),
V 15 (.mv (.t 14)),
Vg 16 15 false (.fad 2 (.t 3)),
Vg 17 15 false (.ld (some 4) (.t 16)),
Vg 18 15 false (.ld none (.t 1)),
Vg 19 15 false (.fad 1 (.t 2)),
Vg 20 15 false (.ld none (.t 19)),
Vg 21 15 false (.call 101 [(.t 17),(.t 18),(.t 20)]),
Vg 22 15 false (.not (.t 21)),
V 23 (.pick (.t 15) (.k (.c (.b true))) (.t 22))]) (.cond (.t 23) (.seq (.rg [V 4 (.mv (.k (.c (.b true))))]) (.ret)) (.skip))) (.seq (.rg [V 24 (.fad 0 (.t 3)),
V 25 (.ld none (.t 24)),
V 26 (.mkf 103 [(.t 1),(.t 2)]),
V 27 (.call 102 [(.t 25),(.t 26)]),
V 28 (.mv (.t 27)),
Vg 29 28 false (.fad 1 (.t 3)),
Vg 30 28 false (.ld none (.t 29)),
Vg 31 28 false (.mkf 106 [(.t 2)]),
Vg 32 28 false (.call 105 [(.t 30),(.t 31)]),
V 33 (.pick (.t 28) (.k (.c (.b true))) (.t 32)),
V 4 (.mv (.t 33))]) (.ret)))

def vf100:VF:=⟨vf100c,vf100v,[(4,none)]⟩

theorem ok100:chkF Tryz.prog Tryz.f100 vf100=true:=by kernel_rfl

theorem dr100:drawsB vf100.body=true:=by kernel_rfl

def vf101v:List Nat:=[0,1,2,3,6,8,9,26,46]

def vf101c:VC:=.seq (.rg [V 3 (.box (.t 0)),
V 6 (.mv (.k (.c (.b false))))]) (.seq (.seq (.rg [V 7 (.fad 0 (.t 3)),
V 8 (.ld none (.t 7))]) (.block 0 (.seq (.rg [V 10 (.bin .eq (.t 8) (.k (.c (.i 1)))),
V 9 (.mv (.t 10))]) (.cond (.t 9) (.seq (.rg [V 11 (.fad 2 (.t 3)),
V 12 (.ld none (.t 11)),
V 13 (.mv (.t 1)),
V 14 (.bin .sub (.t 13) (.k (.c (.i 1)))),
V 15 (.call 86 [(.t 12),(.k (.c (.i 0))),(.t 14)]),
V 16 (.mv (.t 15)),
Vg 17 16 true (.fad 1 (.t 3)),
Vg 18 16 true (.ld none (.t 17)),
Vg 19 16 true (.bin .eq (.t 18) (.k (.c (.i 0)))),
V 20 (.pick (.t 16) (.t 19) (.k (.c (.b false)))),
V 21 (.mv (.t 20)),
Vg 22 21 true (.fad 3 (.t 3)),
Vg 23 21 true (.ld none (.t 22)),
Vg 24 21 true (.bin .eq (.t 23) (.k (.c (.i 0)))),
V 25 (.pick (.t 21) (.t 24) (.k (.c (.b false)))),
V 6 (.mv (.t 25))]) (.ret)) (.seq (.rg [V 27 (.bin .eq (.t 8) (.k (.c (.i 2)))),
V 26 (.mv (.t 27))]) (.cond (.t 26) (.seq (.rg [V 28 (.fad 2 (.t 3)),
V 29 (.ld none (.t 28)),
V 30 (.mv (.t 1)),
V 31 (.bin .sub (.t 30) (.k (.c (.i 1)))),
V 32 (.call 86 [(.t 29),(.k (.c (.i 0))),(.t 31)]),
V 33 (.mv (.t 32)),
Vg 34 33 true (.fad 3 (.t 3)),
Vg 35 33 true (.ld none (.t 34)),
Vg 36 33 true (.mv (.t 1)),
Vg 37 33 true (.bin .sub (.t 36) (.k (.c (.i 1)))),
Vg 38 33 true (.call 86 [(.t 35),(.k (.c (.i 0))),(.t 37)]),
V 39 (.pick (.t 33) (.t 38) (.k (.c (.b false)))),
V 40 (.mv (.t 39)),
Vg 41 40 true (.fad 1 (.t 3)),
Vg 42 40 true (.ld none (.t 41)),
Vg 43 40 true (.mv (.t 2)),
Vg 44 40 true (.call 152 [(.t 42),(.k (.c (.b true))),(.t 43)]),
V 45 (.pick (.t 40) (.t 44) (.k (.c (.b false)))),
V 6 (.mv (.t 45))]) (.ret)) (.seq (.rg [V 47 (.bin .eq (.t 8) (.k (.c (.i 3)))),
V 46 (.mv (.t 47))]) (.cond (.t 46) (.seq (.rg [V 48 (.fad 1 (.t 3)),
V 49 (.ld none (.t 48)),
V 50 (.mv (.t 2)),
V 51 (.call 152 [(.t 49),(.k (.c (.b true))),(.t 50)]),
V 52 (.mv (.t 51)),
Vg 53 52 true (.fad 2 (.t 3)),
Vg 54 52 true (.ld none (.t 53)),
Vg 55 52 true (.bin .eq (.t 54) (.k (.c (.i 0)))),
V 56 (.pick (.t 52) (.t 55) (.k (.c (.b false)))),
V 57 (.mv (.t 56)),
Vg 58 57 true (.fad 3 (.t 3)),
Vg 59 57 true (.ld none (.t 58)),
Vg 60 57 true (.bin .eq (.t 59) (.k (.c (.i 0)))),
V 61 (.pick (.t 57) (.t 60) (.k (.c (.b false)))),
V 6 (.mv (.t 61))]) (.ret)) (.skip))))))))) (.seq (.rg [V 6 (.mv (.k (.c (.b false))))]) (.ret)))

def vf101:VF:=⟨vf101c,vf101v,[(6,none)]⟩

theorem ok101:chkF Tryz.prog Tryz.f101 vf101=true:=by kernel_rfl

theorem dr101:drawsB vf101.body=true:=by kernel_rfl

def vf102v:List Nat:=[0,1,4]

def vf102c:VC:=.seq (.rg [V 4 (.mv (.k (.c (.b false))))]) (.seq (.rg [V 5 (.mv (.t 0)),
V 6 (.mv (.t 1)),
V 7 (.call 83 [(.t 5),(.t 6)]),
V 8 (.bin .ge (.t 7) (.k (.c (.i 0)))),
V 4 (.mv (.t 8))]) (.ret))

def vf102:VF:=⟨vf102c,vf102v,[(4,none)]⟩

theorem ok102:chkF Tryz.prog Tryz.f102 vf102=true:=by kernel_rfl

theorem dr102:drawsB vf102.body=true:=by kernel_rfl
def vf103v:List Nat:=[0,1,2,3,4]

def vf103c:VC:=.seq (.rg [V 3 (.box (.t 0)),
V 4 (.mv (.k (.c (.b false))))]) (.seq (.rg [V 5 (.ld (some 2) (.t 3)),
V 6 (.ld none (.t 1)),
V 7 (.fad 1 (.t 2)),
V 8 (.ld none (.t 7)),
V 9 (.call 104 [(.t 5),(.t 6),(.t 8)]),
V 10 (.not (.t 9)),
V 4 (.mv (.t 10))]) (.ret))

def vf103:VF:=⟨vf103c,vf103v,[(4,none)]⟩

theorem ok103:chkF Tryz.prog Tryz.f103 vf103=true:=by kernel_rfl

theorem dr103:drawsB vf103.body=true:=by kernel_rfl

def vf104v:List Nat:=[0,1,2,3,6,7,8,10,11,12,13,37]

def vf104b0:VC:=.seq (.rg [V 13 (.bin .lt (.t 12) (.t 11))]) (.seq (.cond (.t 13) (.skip) (.exit 0)) (.seq (.block 1 (.seq (.rg [V 14 (.mv (.t 12)),
V 15 (.idx 2 (.t 10) (.t 12)),
V 16 (.ld (some 2) (.t 15)),
V 8 (.alloc [.i 0,.i 0]),
V 7 (.mv (.t 14)),
Vn (.st 2 (.t 8) (.t 16))]) (.seq (.rg [V 17 (.fad 0 (.t 8)),
V 18 (.ld none (.t 17)),
V 19 (.mv (.t 1)),
V 20 (.bin .sub (.t 19) (.k (.c (.i 1)))),
V 21 (.call 86 [(.t 18),(.k (.c (.i 0))),(.t 20)]),
V 22 (.not (.t 21)),
V 23 (.mv (.t 22)),
Vg 24 23 false (.fad 1 (.t 8)),
Vg 25 23 false (.ld none (.t 24)),
Vg 26 23 false (.mv (.t 2)),
Vg 27 23 false (.call 152 [(.t 25),(.k (.c (.b true))),(.t 26)]),
Vg 28 23 false (.not (.t 27)),
V 29 (.pick (.t 23) (.k (.c (.b true))) (.t 28)),
V 30 (.mv (.t 29)),
Vg 31 30 false (.fad 1 (.t 3)),
Vg 32 30 false (.ld none (.t 31)),
Vg 33 30 false (.mv (.t 7)),
Vg 34 30 false (.slc 2 (.t 32) none (some (.t 33))),
Vg 35 30 false (.mkf 154 [(.t 8)]),
Vg 36 30 false (.call 153 [(.t 34),(.t 35)]),
V 37 (.pick (.t 30) (.k (.c (.b true))) (.t 36))]) (.cond (.t 37) (.seq (.rg [V 6 (.mv (.k (.c (.b false))))]) (.ret)) (.skip))))) (.rg [V 38 (.bin .add (.t 12) (.k (.c (.i 1)))),
V 12 (.mv (.t 38))])))

def vf104c:VC:=.seq (.rg [V 3 (.box (.t 0)),
V 6 (.mv (.k (.c (.b false))))]) (.seq (.seq (.rg [V 9 (.fad 1 (.t 3)),
V 10 (.ld none (.t 9)),
V 11 (.len (.t 10)),
V 12 (.mv (.k (.c (.i 0))))]) (.block 0 (.loop vf104b0))) (.seq (.rg [V 39 (.fad 0 (.t 3)),
V 40 (.ld none (.t 39)),
V 41 (.mv (.t 2)),
V 42 (.call 152 [(.t 40),(.k (.c (.b true))),(.t 41)]),
V 43 (.mv (.t 42)),
Vg 44 43 true (.fad 1 (.t 3)),
Vg 45 43 true (.ld none (.t 44)),
Vg 46 43 true (.len (.t 45)),
Vg 47 43 true (.bin .le (.t 46) (.k (.c (.i 16)))),
V 48 (.pick (.t 43) (.t 47) (.k (.c (.b false)))),
V 6 (.mv (.t 48))]) (.ret)))

def vf104:VF:=⟨vf104c,vf104v,[(6,none)]⟩

theorem ok104:chkF Tryz.prog Tryz.f104 vf104=true:=by kernel_rfl

theorem dr104:drawsB vf104.body=true:=by kernel_rfl

def vf105v:List Nat:=[0,1,4]

def vf105c:VC:=.seq (.rg [V 4 (.mv (.k (.c (.b false))))]) (.seq (.rg [V 5 (.mv (.t 0)),
V 6 (.mv (.t 1)),
V 7 (.call 84 [(.t 5),(.t 6)]),
V 8 (.bin .ge (.t 7) (.k (.c (.i 0)))),
V 4 (.mv (.t 8))]) (.ret))

def vf105:VF:=⟨vf105c,vf105v,[(4,none)]⟩

theorem ok105:chkF Tryz.prog Tryz.f105 vf105=true:=by kernel_rfl

theorem dr105:drawsB vf105.body=true:=by kernel_rfl

def vf106v:List Nat:=[0,1,2,3]

def vf106c:VC:=.seq (.rg [V 2 (.box (.t 0)),
V 3 (.mv (.k (.c (.b false))))]) (.seq (.rg [V 4 (.ld (some 5) (.t 2)),
V 5 (.fad 1 (.t 1)),
V 6 (.ld none (.t 5)),
V 7 (.call 107 [(.t 4),(.t 6)]),
V 8 (.not (.t 7)),
V 3 (.mv (.t 8))]) (.ret))

def vf106:VF:=⟨vf106c,vf106v,[(3,none)]⟩

theorem ok106:chkF Tryz.prog Tryz.f106 vf106=true:=by kernel_rfl

theorem dr106:drawsB vf106.body=true:=by kernel_rfl

def vf107v:List Nat:=[0,1,2,4,6]

def vf107c:VC:=.seq (.rg [V 2 (.box (.t 0)),
V 4 (.mv (.k (.c (.b false))))]) (.seq (.rg [V 8 (.fad 0 (.t 2)),
V 9 (.ld none (.t 8)),
V 10 (.call 144 [(.t 9)]),
V 7 (.mv (.t 10)),
V 11 (.ext 0 (.t 7)),
V 12 (.ext 1 (.t 7)),
V 5 (.mv (.t 11)),
V 6 (.mv (.t 12))]) (.seq (.rd [V 13 (.mv (.t 6)),
Vd [0] (V 14 (.mv (.t 13))),
Vd [1] (Vg 15 14 true (.fad 1 (.t 2))),
Vc [2] [] true (Vg 16 14 true (.ld none (.t 15))),
Vd [1] (Vg 17 14 true (.fad 0 (.t 2))),
Vd [4] (Vg 18 14 true (.ld none (.t 17))),
Vc [5] [3] false (Vg 19 14 true (.call 85 [(.t 18),(.k (.c (.y 68)))])),
Vd [1] (Vg 20 14 true (.mv (.t 1))),
Vd [3,6,7] (Vg 21 14 true (.call 152 [(.t 16),(.t 19),(.t 20)])),
Vd [8] (V 22 (.pick (.t 14) (.t 21) (.k (.c (.b false))))),
Vd [9] (V 23 (.mv (.t 22))),
Vd [10] (Vg 24 23 true (.fad 2 (.t 2))),
Vc [11] [] true (Vg 25 23 true (.ld none (.t 24))),
Vd [10] (Vg 26 23 true (.fad 0 (.t 2))),
Vd [13] (Vg 27 23 true (.ld none (.t 26))),
Vc [14] [12] false (Vg 28 23 true (.call 85 [(.t 27),(.k (.c (.y 65)))])),
Vd [10] (Vg 29 23 true (.mv (.t 1))),
Vd [12,15,16] (Vg 30 23 true (.call 152 [(.t 25),(.t 28),(.t 29)])),
Vd [17] (V 31 (.pick (.t 23) (.t 30) (.k (.c (.b false))))),
Vd [18] (V 32 (.mv (.t 31))),
Vd [19] (Vg 33 32 true (.fad 3 (.t 2))),
Vc [20] [] true (Vg 34 32 true (.ld none (.t 33))),
Vd [19] (Vg 35 32 true (.fad 0 (.t 2))),
Vd [22] (Vg 36 32 true (.ld none (.t 35))),
Vc [23] [21] false (Vg 37 32 true (.call 85 [(.t 36),(.k (.c (.y 66)))])),
Vd [19] (Vg 38 32 true (.mv (.t 1))),
Vd [21,24,25] (Vg 39 32 true (.call 152 [(.t 34),(.t 37),(.t 38)])),
Vd [26] (V 40 (.pick (.t 32) (.t 39) (.k (.c (.b false))))),
Vd [27] (V 41 (.mv (.t 40))),
Vd [28] (Vg 42 41 true (.fad 4 (.t 2))),
Vd [29] (Vg 43 41 true (.ld none (.t 42))),
Vd [30] (Vg 44 41 true (.bin .eq (.t 43) (.k (.c (.i 0))))),
Vd [31] (Vg 45 41 true (.mv (.t 44))),
Vd [32] (Vg 46 45 false (.fad 0 (.t 2))),
Vd [33] (Vg 47 45 false (.ld none (.t 46))),
Vd [34] (Vg 48 45 false (.call 85 [(.t 47),(.k (.c (.y 78)))])),
Vd [35] (Vg 49 41 true (.pick (.t 45) (.k (.c (.b true))) (.t 48))),
Vd [36] (V 50 (.pick (.t 41) (.t 49) (.k (.c (.b false))))),
Vd [37] (V 4 (.mv (.t 50)))]) (.ret)))

def vf107:VF:=⟨vf107c,vf107v,[(4,none)]⟩

theorem ok107:chkF Tryz.prog Tryz.f107 vf107=true:=by kernel_rfl

theorem dr107:drawsB vf107.body=true:=by kernel_rfl

def vf108v:List Nat:=[0,1,2,3,6,7,8,9,25,26,39,48]

def vf108c:VC:=.seq (.rg [V 3 (.box (.t 0)),
V 6 (.mv (.k (.c (.b false))))]) (.seq (.rg [V 10 (.fad 2 (.t 3)),
V 11 (.ld none (.t 10)),
V 12 (.mv (.t 1)),
V 13 (.bin .sub (.t 12) (.k (.c (.i 1)))),
V 14 (.call 96 [(.t 11),(.k (.c (.i 0))),(.t 13)]),
V 7 (.mv (.t 14))]) (.seq (.rg [V 15 (.fad 3 (.t 3)),
V 16 (.ld none (.t 15)),
V 17 (.mv (.t 1)),
V 18 (.bin .sub (.t 17) (.k (.c (.i 1)))),
V 19 (.call 96 [(.t 16),(.k (.c (.i 0))),(.t 18)]),
V 8 (.mv (.t 19))]) (.seq (.rg [V 20 (.fad 1 (.t 3)),
V 21 (.ld none (.t 20)),
V 22 (.mv (.t 2)),
V 23 (.call 155 [(.t 21),(.t 22)]),
V 9 (.mv (.t 23))]) (.seq (.seq (.rg [V 24 (.fad 0 (.t 3)),
V 25 (.ld none (.t 24))]) (.block 0 (.seq (.rg [V 27 (.bin .eq (.t 25) (.k (.c (.i 1)))),
V 26 (.mv (.t 27))]) (.cond (.t 26) (.seq (.rg [V 28 (.mv (.t 7)),
V 29 (.mv (.t 28)),
Vg 30 29 true (.fad 1 (.t 3)),
Vg 31 29 true (.ld none (.t 30)),
Vg 32 29 true (.bin .eq (.t 31) (.k (.c (.i 0)))),
V 33 (.pick (.t 29) (.t 32) (.k (.c (.b false)))),
V 34 (.mv (.t 33)),
Vg 35 34 true (.fad 3 (.t 3)),
Vg 36 34 true (.ld none (.t 35)),
Vg 37 34 true (.bin .eq (.t 36) (.k (.c (.i 0)))),
V 38 (.pick (.t 34) (.t 37) (.k (.c (.b false)))),
V 6 (.mv (.t 38))]) (.ret)) (.seq (.rg [V 40 (.bin .eq (.t 25) (.k (.c (.i 2)))),
V 39 (.mv (.t 40))]) (.cond (.t 39) (.seq (.rg [V 41 (.mv (.t 7)),
V 42 (.mv (.t 41)),
Vg 43 42 true (.mv (.t 8)),
V 44 (.pick (.t 42) (.t 43) (.k (.c (.b false)))),
V 45 (.mv (.t 44)),
Vg 46 45 true (.mv (.t 9)),
V 47 (.pick (.t 45) (.t 46) (.k (.c (.b false)))),
V 6 (.mv (.t 47))]) (.ret)) (.seq (.rg [V 49 (.bin .eq (.t 25) (.k (.c (.i 3)))),
V 48 (.mv (.t 49))]) (.cond (.t 48) (.seq (.rg [V 50 (.mv (.t 9)),
V 51 (.mv (.t 50)),
Vg 52 51 true (.fad 2 (.t 3)),
Vg 53 51 true (.ld none (.t 52)),
Vg 54 51 true (.bin .eq (.t 53) (.k (.c (.i 0)))),
V 55 (.pick (.t 51) (.t 54) (.k (.c (.b false)))),
V 56 (.mv (.t 55)),
Vg 57 56 true (.fad 3 (.t 3)),
Vg 58 56 true (.ld none (.t 57)),
Vg 59 56 true (.bin .eq (.t 58) (.k (.c (.i 0)))),
V 60 (.pick (.t 56) (.t 59) (.k (.c (.b false)))),
V 6 (.mv (.t 60))]) (.ret)) (.skip))))))))) (.seq (.rg [V 6 (.mv (.k (.c (.b false))))]) (.ret))))))

def vf108:VF:=⟨vf108c,vf108v,[(6,none)]⟩

theorem ok108:chkF Tryz.prog Tryz.f108 vf108=true:=by kernel_rfl

theorem dr108:drawsB vf108.body=true:=by kernel_rfl

def vf109v:List Nat:=[0,1,2,3,6,7,8,19,24,47,50,65]

def vf109b0:VC:=.seq (.seq (.rg [V 48 (.mv (.t 8)),
V 49 (.mv (.t 7)),
V 50 (.bin .lt (.t 48) (.t 49))]) (.cond (.t 50) (.skip) (.exit 2))) (.seq (.block 3 (.seq (.rd [V 53 (.fad 1 (.t 3)),
Vd [0] (V 54 (.ld none (.t 53))),
V 55 (.mv (.t 8)),
Vd [1,2] (V 56 (.idx 2 (.t 54) (.t 55))),
Vd [3] (V 57 (.fad 0 (.t 56))),
Vd [4] (V 58 (.ld none (.t 57))),
V 59 (.fad 1 (.t 3)),
Vd [6] (V 60 (.ld none (.t 59))),
V 61 (.mv (.t 7)),
Vd [7,8] (V 62 (.idx 2 (.t 60) (.t 61))),
Vd [9] (V 63 (.fad 0 (.t 62))),
Vd [10] (V 64 (.ld none (.t 63))),
Vd [5,11] (V 65 (.bin .eq (.t 58) (.t 64)))]) (.cond (.t 65) (.seq (.rg [V 6 (.mv (.k (.c (.b false))))]) (.ret)) (.skip)))) (.rg [V 51 (.mv (.t 8)),
V 52 (.bin .add (.t 51) (.k (.c (.i 1)))),
V 8 (.mv (.t 52))]))

def vf109b1:VC:=.seq (.seq (.rg [V 20 (.mv (.t 7)),
V 21 (.fad 1 (.t 3)),
V 22 (.ld none (.t 21)),
V 23 (.len (.t 22)),
V 24 (.bin .lt (.t 20) (.t 23))]) (.cond (.t 24) (.skip) (.exit 0))) (.seq (.block 1 (.seq (.seq (.rg [V 27 (.fad 1 (.t 3)),
V 28 (.ld none (.t 27)),
V 29 (.mv (.t 7)),
V 30 (.idx 2 (.t 28) (.t 29)),
V 31 (.fad 0 (.t 30)),
V 32 (.ld none (.t 31)),
V 33 (.mv (.t 1)),
V 34 (.bin .sub (.t 33) (.k (.c (.i 1)))),
V 35 (.call 96 [(.t 32),(.k (.c (.i 0))),(.t 34)]),
V 36 (.not (.t 35)),
V 37 (.mv (.t 36)),
Vg 38 37 false (.fad 1 (.t 3)),
Vg 39 37 false (.ld none (.t 38)),
Vg 40 37 false (.mv (.t 7)),
Vg 41 37 false (.idx 2 (.t 39) (.t 40)),
Vg 42 37 false (.fad 1 (.t 41)),
Vg 43 37 false (.ld none (.t 42)),
Vg 44 37 false (.mv (.t 2)),
Vg 45 37 false (.call 155 [(.t 43),(.t 44)]),
Vg 46 37 false (.not (.t 45)),
V 47 (.pick (.t 37) (.k (.c (.b true))) (.t 46))]) (.cond (.t 47) (.seq (.rg [V 6 (.mv (.k (.c (.b false))))]) (.ret)) (.skip))) (.seq (.rg [V 8 (.mv (.k (.c (.i 0))))]) (.block 2 (.loop vf109b0))))) (.rg [V 25 (.mv (.t 7)),
V 26 (.bin .add (.t 25) (.k (.c (.i 1)))),
V 7 (.mv (.t 26))]))

def vf109c:VC:=.seq (.rg [V 3 (.box (.t 0)),
V 6 (.mv (.k (.c (.b false))))]) (.seq (.seq (.rg [V 9 (.fad 0 (.t 3)),
V 10 (.ld none (.t 9)),
V 11 (.mv (.t 2)),
V 12 (.call 155 [(.t 10),(.t 11)]),
V 13 (.not (.t 12)),
V 14 (.mv (.t 13)),
Vg 15 14 false (.fad 1 (.t 3)),
Vg 16 14 false (.ld none (.t 15)),
Vg 17 14 false (.len (.t 16)),
Vg 18 14 false (.bin .gt (.t 17) (.k (.c (.i 16)))),
V 19 (.pick (.t 14) (.k (.c (.b true))) (.t 18))]) (.cond (.t 19) (.seq (.rg [V 6 (.mv (.k (.c (.b false))))]) (.ret)) (.skip))) (.seq (.seq (.rg [V 7 (.mv (.k (.c (.i 0))))]) (.block 0 (.loop vf109b1))) (.seq (.rg [V 6 (.mv (.k (.c (.b true))))]) (.ret))))

def vf109:VF:=⟨vf109c,vf109v,[(6,none)]⟩

theorem ok109:chkF Tryz.prog Tryz.f109 vf109=true:=by kernel_rfl

theorem dr109:drawsB vf109.body=true:=by kernel_rfl

def vf110v:List Nat:=[0,1,2,4,5,6,7,20,36,51,74,92,112]

def vf110c:VC:=.seq (.rg [V 2 (.box (.t 0)),
V 4 (.mv (.k (.c (.b false))))]) (.seq (.rg [V 8 (.fad 1 (.t 2)),
V 9 (.ld none (.t 8)),
V 10 (.mv (.t 1)),
V 11 (.call 155 [(.t 9),(.t 10)]),
V 5 (.mv (.t 11))]) (.seq (.rg [V 12 (.fad 2 (.t 2)),
V 13 (.ld none (.t 12)),
V 14 (.mv (.t 1)),
V 15 (.call 155 [(.t 13),(.t 14)]),
V 6 (.mv (.t 15))]) (.seq (.rg [V 16 (.fad 3 (.t 2)),
V 17 (.ld none (.t 16)),
V 18 (.mv (.t 1)),
V 19 (.call 155 [(.t 17),(.t 18)]),
V 7 (.mv (.t 19))]) (.seq (.block 0 (.seq (.rg [V 21 (.fad 0 (.t 2)),
V 22 (.ld none (.t 21)),
V 23 (.call 48 [(.t 22)]),
V 20 (.mv (.t 23))]) (.cond (.t 20) (.seq (.rg [V 24 (.mv (.t 5)),
V 25 (.mv (.t 24)),
Vg 26 25 true (.mv (.t 6)),
V 27 (.pick (.t 25) (.t 26) (.k (.c (.b false)))),
V 28 (.mv (.t 27)),
Vg 29 28 true (.mv (.t 7)),
V 30 (.pick (.t 28) (.t 29) (.k (.c (.b false)))),
V 31 (.mv (.t 30)),
Vg 32 31 true (.fad 4 (.t 2)),
Vg 33 31 true (.ld none (.t 32)),
Vg 34 31 true (.bin .eq (.t 33) (.k (.c (.i 0)))),
V 35 (.pick (.t 31) (.t 34) (.k (.c (.b false)))),
V 4 (.mv (.t 35))]) (.ret)) (.seq (.rg [V 37 (.fad 0 (.t 2)),
V 38 (.ld none (.t 37)),
V 39 (.bin .eq (.t 38) (.k (.c (.i 20)))),
V 36 (.mv (.t 39))]) (.cond (.t 36) (.seq (.rg [V 40 (.mv (.t 5)),
V 41 (.mv (.t 40)),
Vg 42 41 true (.fad 2 (.t 2)),
Vg 43 41 true (.ld none (.t 42)),
Vg 44 41 true (.bin .eq (.t 43) (.k (.c (.i 0)))),
V 45 (.pick (.t 41) (.t 44) (.k (.c (.b false)))),
V 46 (.mv (.t 45)),
Vg 47 46 true (.fad 3 (.t 2)),
Vg 48 46 true (.ld none (.t 47)),
Vg 49 46 true (.bin .eq (.t 48) (.k (.c (.i 0)))),
V 50 (.pick (.t 46) (.t 49) (.k (.c (.b false)))),
V 4 (.mv (.t 50))]) (.ret)) (.seq (.rg [V 52 (.fad 0 (.t 2)),
V 53 (.ld none (.t 52)),
V 54 (.bin .eq (.t 53) (.k (.c (.i 21)))),
V 55 (.mv (.t 54)),
Vg 56 55 false (.fad 0 (.t 2)),
Vg 57 55 false (.ld none (.t 56)),
Vg 58 55 false (.bin .eq (.t 57) (.k (.c (.i 25)))),
V 59 (.pick (.t 55) (.k (.c (.b true))) (.t 58)),
V 51 (.mv (.t 59))]) (.cond (.t 51) (.seq (.rg [V 60 (.mv (.t 5)),
V 61 (.mv (.t 60)),
Vg 62 61 true (.mv (.t 6)),
V 63 (.pick (.t 61) (.t 62) (.k (.c (.b false)))),
V 64 (.mv (.t 63)),
Vg 65 64 true (.fad 3 (.t 2)),
Vg 66 64 true (.ld none (.t 65)),
Vg 67 64 true (.bin .eq (.t 66) (.k (.c (.i 0)))),
V 68 (.pick (.t 64) (.t 67) (.k (.c (.b false)))),
V 69 (.mv (.t 68)),
Vg 70 69 true (.fad 4 (.t 2)),
Vg 71 69 true (.ld none (.t 70)),
Vg 72 69 true (.bin .eq (.t 71) (.k (.c (.i 0)))),
V 73 (.pick (.t 69) (.t 72) (.k (.c (.b false)))),
V 4 (.mv (.t 73))]) (.ret)) (.seq (.rg [V 75 (.fad 0 (.t 2)),
V 76 (.ld none (.t 75)),
V 77 (.bin .eq (.t 76) (.k (.c (.i 22)))),
V 74 (.mv (.t 77))]) (.cond (.t 74) (.seq (.rg [V 78 (.mv (.t 6)),
V 79 (.mv (.t 78)),
Vg 80 79 true (.mv (.t 7)),
V 81 (.pick (.t 79) (.t 80) (.k (.c (.b false)))),
V 82 (.mv (.t 81)),
Vg 83 82 true (.fad 1 (.t 2)),
Vg 84 82 true (.ld none (.t 83)),
Vg 85 82 true (.bin .eq (.t 84) (.k (.c (.i 0)))),
V 86 (.pick (.t 82) (.t 85) (.k (.c (.b false)))),
V 87 (.mv (.t 86)),
Vg 88 87 true (.fad 4 (.t 2)),
Vg 89 87 true (.ld none (.t 88)),
Vg 90 87 true (.bin .eq (.t 89) (.k (.c (.i 0)))),
V 91 (.pick (.t 87) (.t 90) (.k (.c (.b false)))),
V 4 (.mv (.t 91))]) (.ret)) (.seq (.rg [V 93 (.fad 0 (.t 2)),
V 94 (.ld none (.t 93)),
V 95 (.bin .eq (.t 94) (.k (.c (.i 23)))),
V 92 (.mv (.t 95))]) (.cond (.t 92) (.seq (.rg [V 96 (.mv (.t 6)),
V 97 (.mv (.t 96)),
Vg 98 97 true (.fad 1 (.t 2)),
Vg 99 97 true (.ld none (.t 98)),
Vg 100 97 true (.bin .eq (.t 99) (.k (.c (.i 0)))),
V 101 (.pick (.t 97) (.t 100) (.k (.c (.b false)))),
V 102 (.mv (.t 101)),
Vg 103 102 true (.fad 3 (.t 2)),
Vg 104 102 true (.ld none (.t 103)),
Vg 105 102 true (.bin .eq (.t 104) (.k (.c (.i 0)))),
V 106 (.pick (.t 102) (.t 105) (.k (.c (.b false)))),
V 107 (.mv (.t 106)),
Vg 108 107 true (.fad 4 (.t 2)),
Vg 109 107 true (.ld none (.t 108)),
Vg 110 107 true (.bin .eq (.t 109) (.k (.c (.i 0)))),
V 111 (.pick (.t 107) (.t 110) (.k (.c (.b false)))),
V 4 (.mv (.t 111))]) (.ret)) (.seq (.rg [V 113 (.fad 0 (.t 2)),
V 114 (.ld none (.t 113)),
V 115 (.bin .eq (.t 114) (.k (.c (.i 24)))),
V 112 (.mv (.t 115))]) (.cond (.t 112) (.seq (.rg [V 116 (.mv (.t 5)),
V 117 (.mv (.t 116)),
Vg 118 117 true (.fad 2 (.t 2)),
Vg 119 117 true (.ld none (.t 118)),
Vg 120 117 true (.bin .eq (.t 119) (.k (.c (.i 0)))),
V 121 (.pick (.t 117) (.t 120) (.k (.c (.b false)))),
V 122 (.mv (.t 121)),
Vg 123 122 true (.fad 3 (.t 2)),
Vg 124 122 true (.ld none (.t 123)),
Vg 125 122 true (.bin .eq (.t 124) (.k (.c (.i 0)))),
V 126 (.pick (.t 122) (.t 125) (.k (.c (.b false)))),
V 127 (.mv (.t 126)),
Vg 128 127 true (.fad 4 (.t 2)),
Vg 129 127 true (.ld none (.t 128)),
Vg 130 127 true (.bin .eq (.t 129) (.k (.c (.i 0)))),
V 131 (.pick (.t 127) (.t 130) (.k (.c (.b false)))),
V 4 (.mv (.t 131))]) (.ret)) (.skip)))))))))))))) (.seq (.rg [V 4 (.mv (.k (.c (.b false))))]) (.ret))))))

def vf110:VF:=⟨vf110c,vf110v,[(4,none)]⟩

theorem ok110:chkF Tryz.prog Tryz.f110 vf110=true:=by kernel_rfl

theorem dr110:drawsB vf110.body=true:=by kernel_rfl

def vf113v:List Nat:=[0,1,2]

def vf113c:VC:=.seq (.rg [V 1 (.box (.t 0)),
V 2 (.mv (.k (.c (.b false))))]) (.seq (.rg [V 3 (.fad 1 (.t 1)),
V 4 (.ld none (.t 3)),
V 5 (.call 105 [(.t 4),(.k (.f 114 []))]),
V 2 (.mv (.t 5))]) (.ret))

def vf113:VF:=⟨vf113c,vf113v,[(2,none)]⟩

theorem ok113:chkF Tryz.prog Tryz.f113 vf113=true:=by kernel_rfl

theorem dr113:drawsB vf113.body=true:=by kernel_rfl

def vf114v:List Nat:=[0,1,2]

def vf114c:VC:=.seq (.rg [V 1 (.box (.t 0)),
V 2 (.mv (.k (.c (.b false))))]) (.seq (.rg [V 3 (.fad 0 (.t 1)),
V 4 (.ld none (.t 3)),
V 5 (.bin .eq (.t 4) (.k (.c (.i 25)))),
V 2 (.mv (.t 5))]) (.ret))

def vf114:VF:=⟨vf114c,vf114v,[(2,none)]⟩

theorem ok114:chkF Tryz.prog Tryz.f114 vf114=true:=by kernel_rfl

theorem dr114:drawsB vf114.body=true:=by kernel_rfl

def vf115v:List Nat:=[0,1,2,3,4,8,10,16,17,18,19,26]

def vf115b0:VC:=.seq (.rg [V 19 (.bin .lt (.t 18) (.t 17))]) (.seq (.cond (.t 19) (.skip) (.exit 0)) (.seq (.block 1 (.seq (.rg [V 20 (.idx 1 (.t 16) (.t 18)),
V 21 (.ld none (.t 20)),
V 10 (.mv (.t 21))]) (.seq (.rg [V 22 (.mv (.t 2)),
V 23 (.mv (.t 10)),
V 24 (.idx 1 (.t 22) (.t 23)),
V 25 (.ld none (.t 24)),
V 26 (.not (.t 25))]) (.cond (.t 26) (.rg [V 27 (.ld (some 2) (.t 4)),
V 28 (.mv (.t 10)),
V 29 (.mv (.t 2)),
V 30 (.mv (.t 3)),
V 31 (.call 115 [(.t 27),(.t 28),(.t 29),(.t 30)]),
V 3 (.mv (.t 31))]) (.skip))))) (.rg [V 32 (.bin .add (.t 18) (.k (.c (.i 1)))),
V 18 (.mv (.t 32))])))

def vf115c:VC:=.seq (.rg [V 4 (.box (.t 0)),
V 8 (.mv (.k (.c .ns)))]) (.seq (.rg [V 11 (.mv (.t 2)),
V 12 (.mv (.t 1)),
V 13 (.idx 1 (.t 11) (.t 12)),
Vn (.st 1 (.t 13) (.k (.c (.b true))))]) (.seq (.seq (.rg [V 14 (.ld (some 2) (.t 4)),
V 15 (.mv (.t 1)),
V 16 (.call 65 [(.t 14),(.t 15)]),
V 17 (.len (.t 16)),
V 18 (.mv (.k (.c (.i 0))))]) (.block 0 (.loop vf115b0))) (.seq (.rg [V 33 (.mv (.t 3)),
V 34 (.mv (.t 1)),
V 35 (.bsl 1 [.i 0] 1 [(0,1,(.t 34))]),
V 36 (.app 1 (.t 33) (.t 35)),
V 8 (.mv (.t 36))]) (.ret))))

def vf115:VF:=⟨vf115c,vf115v,[(8,none)]⟩

theorem ok115:chkF Tryz.prog Tryz.f115 vf115=true:=by kernel_rfl

theorem dr115:drawsB vf115.body=true:=by kernel_rfl

def vf116v:List Nat:=[0,2,3,9]

def vf116b0:VC:=.seq (.seq (.rg [V 7 (.mv (.t 2)),
V 8 (.mv (.t 3)),
V 9 (.bin .lt (.t 7) (.t 8))]) (.cond (.t 9) (.skip) (.exit 0))) (.seq (.block 1 (.rd [V 14 (.mv (.t 0)),
V 15 (.mv (.t 2)),
V 16 (.mv (.t 0)),
V 17 (.mv (.t 3)),
V 18 (.mv (.t 0)),
V 19 (.mv (.t 3)),
Vd [4,5] (V 20 (.idx 1 (.t 18) (.t 19))),
Vd [6] (V 21 (.ld none (.t 20))),
V 22 (.mv (.t 0)),
V 23 (.mv (.t 2)),
Vd [8,9] (V 24 (.idx 1 (.t 22) (.t 23))),
Vd [10] (V 25 (.ld none (.t 24))),
Vd [0,1,7,11] (V 26 (.idx 1 (.t 14) (.t 15))),
Vd [12] (Vn (.st 1 (.t 26) (.t 21))),
Vd [2,3,13] (V 27 (.idx 1 (.t 16) (.t 17))),
Vd [14] (Vn (.st 1 (.t 27) (.t 25)))])) (.rg [V 10 (.mv (.t 2)),
V 11 (.bin .add (.t 10) (.k (.c (.i 1)))),
V 12 (.mv (.t 3)),
V 13 (.bin .sub (.t 12) (.k (.c (.i 1)))),
V 2 (.mv (.t 11)),
V 3 (.mv (.t 13))]))

def vf116c:VC:=.seq (.rg [V 4 (.mv (.t 0)),
V 5 (.len (.t 4)),
V 6 (.bin .sub (.t 5) (.k (.c (.i 1)))),
V 2 (.mv (.k (.c (.i 0)))),
V 3 (.mv (.t 6))]) (.block 0 (.loop vf116b0))

def vf116:VF:=⟨vf116c,vf116v,[]⟩

theorem ok116:chkF Tryz.prog Tryz.f116 vf116=true:=by kernel_rfl

theorem dr116:drawsB vf116.body=true:=by kernel_rfl

def vf117v:List Nat:=[0,1,4,5,7,8,9,16]

def vf117b0:VC:=.seq (.rg [V 9 (.bin .lt (.t 8) (.t 7))]) (.seq (.cond (.t 9) (.skip) (.exit 0)) (.seq (.block 1 (.seq (.rg [V 10 (.mv (.t 8)),
V 5 (.mv (.t 10))]) (.seq (.rg [V 11 (.mv (.t 1)),
V 12 (.mv (.t 0)),
V 13 (.mv (.t 5)),
V 14 (.idx 1 (.t 12) (.t 13)),
V 15 (.ld none (.t 14)),
V 16 (.eqb false (.t 11) (.t 15))]) (.cond (.t 16) (.seq (.rg [V 17 (.mv (.t 5)),
V 4 (.mv (.t 17))]) (.ret)) (.skip))))) (.rg [V 18 (.bin .add (.t 8) (.k (.c (.i 1)))),
V 8 (.mv (.t 18))])))

def vf117c:VC:=.seq (.rg [V 4 (.mv (.k (.c (.i 0))))]) (.seq (.seq (.rg [V 6 (.mv (.t 0)),
V 7 (.len (.t 6)),
V 8 (.mv (.k (.c (.i 0))))]) (.block 0 (.loop vf117b0))) (.seq (.rg [V 4 (.mv (.k (.c (.i (-1)))))]) (.ret)))

def vf117:VF:=⟨vf117c,vf117v,[(4,none)]⟩

theorem ok117:chkF Tryz.prog Tryz.f117 vf117=true:=by kernel_rfl

theorem dr117:drawsB vf117.body=true:=by kernel_rfl

def vf118v:List Nat:=[0,1,4]

def vf118c:VC:=.seq (.rg [V 4 (.mv (.k (.c (.b false))))]) (.seq (.rg [V 5 (.mv (.t 0)),
V 6 (.mv (.t 1)),
V 7 (.call 157 [(.t 5),(.t 6)]),
V 8 (.bin .ge (.t 7) (.k (.c (.i 0)))),
V 4 (.mv (.t 8))]) (.ret))

def vf118:VF:=⟨vf118c,vf118v,[(4,none)]⟩

theorem ok118:chkF Tryz.prog Tryz.f118 vf118=true:=by kernel_rfl

theorem dr118:drawsB vf118.body=true:=by kernel_rfl

def vf119v:List Nat:=[0,1,4,5,10,12,13,14,24]

def vf119b0:VC:=.seq (.rg [V 14 (.bin .lt (.t 13) (.t 12))]) (.seq (.cond (.t 14) (.skip) (.exit 0)) (.seq (.block 1 (.seq (.rg [V 15 (.mv (.t 13)),
V 5 (.mv (.t 15))]) (.seq (.rd [V 16 (.mv (.t 0)),
V 17 (.mv (.t 5)),
Vd [0,1] (V 18 (.idx 1 (.t 16) (.t 17))),
Vd [2] (V 19 (.ld none (.t 18))),
V 20 (.mv (.t 1)),
V 21 (.mv (.t 5)),
Vd [4,5] (V 22 (.idx 1 (.t 20) (.t 21))),
Vd [6] (V 23 (.ld none (.t 22))),
Vd [3,7] (V 24 (.bin .ne (.t 19) (.t 23)))]) (.cond (.t 24) (.seq (.rg [V 4 (.mv (.k (.c (.b false))))]) (.ret)) (.skip))))) (.rg [V 25 (.bin .add (.t 13) (.k (.c (.i 1)))),
V 13 (.mv (.t 25))])))

def vf119c:VC:=.seq (.rg [V 4 (.mv (.k (.c (.b false))))]) (.seq (.seq (.rg [V 6 (.mv (.t 0)),
V 7 (.len (.t 6)),
V 8 (.mv (.t 1)),
V 9 (.len (.t 8)),
V 10 (.bin .ne (.t 7) (.t 9))]) (.cond (.t 10) (.seq (.rg [V 4 (.mv (.k (.c (.b false))))]) (.ret)) (.skip))) (.seq (.seq (.rg [V 11 (.mv (.t 0)),
V 12 (.len (.t 11)),
V 13 (.mv (.k (.c (.i 0))))]) (.block 0 (.loop vf119b0))) (.seq (.rg [V 4 (.mv (.k (.c (.b true))))]) (.ret))))

def vf119:VF:=⟨vf119c,vf119v,[(4,none)]⟩

theorem ok119:chkF Tryz.prog Tryz.f119 vf119=true:=by kernel_rfl

theorem dr119:drawsB vf119.body=true:=by kernel_rfl

def vf120v:List Nat:=[0,1,4,5,7,8,9,16]

def vf120b0:VC:=.seq (.rg [V 9 (.bin .lt (.t 8) (.t 7))]) (.seq (.cond (.t 9) (.skip) (.exit 0)) (.seq (.block 1 (.seq (.rg [V 10 (.mv (.t 8)),
V 5 (.mv (.t 10))]) (.seq (.rg [V 11 (.mv (.t 1)),
V 12 (.mv (.t 0)),
V 13 (.mv (.t 5)),
V 14 (.idx 1 (.t 12) (.t 13)),
V 15 (.ld none (.t 14)),
V 16 (.clv (.t 11) [(.t 15)])]) (.cond (.t 16) (.seq (.rg [V 17 (.mv (.t 5)),
V 4 (.mv (.t 17))]) (.ret)) (.skip))))) (.rg [V 18 (.bin .add (.t 8) (.k (.c (.i 1)))),
V 8 (.mv (.t 18))])))

def vf120c:VC:=.seq (.rg [V 4 (.mv (.k (.c (.i 0))))]) (.seq (.seq (.rg [V 6 (.mv (.t 0)),
V 7 (.len (.t 6)),
V 8 (.mv (.k (.c (.i 0))))]) (.block 0 (.loop vf120b0))) (.seq (.rg [V 4 (.mv (.k (.c (.i (-1)))))]) (.ret)))

def vf120:VF:=⟨vf120c,vf120v,[(4,none)]⟩

theorem ok120:chkF Tryz.prog Tryz.f120 vf120=true:=by kernel_rfl

theorem dr120:drawsB vf120.body=true:=by kernel_rfl

def vf121v:List Nat:=[0,1,2,4,5,6,7,8,9,12,24,25,26,31,32,33,34,51]

def vf121b0:VC:=.seq (.rg [V 34 (.bin .lt (.t 33) (.t 32))]) (.seq (.cond (.t 34) (.skip) (.exit 2)) (.seq (.block 3 (.seq (.rg [V 35 (.mv (.t 33)),
V 36 (.idx 1 (.t 31) (.t 33)),
V 37 (.ld none (.t 36)),
V 8 (.mv (.t 35)),
V 9 (.mv (.t 37))]) (.seq (.rg [V 38 (.mv (.t 9)),
V 39 (.mv (.t 38)),
Vg 40 39 true (.mv (.t 7)),
Vg 41 39 true (.mv (.t 8)),
Vg 42 39 true (.idx 1 (.t 40) (.t 41)),
Vg 43 39 true (.ld none (.t 42)),
Vg 44 39 true (.not (.t 43)),
V 45 (.pick (.t 39) (.t 44) (.k (.c (.b false)))),
V 46 (.mv (.t 45)),
Vg 47 46 true (.mv (.t 4)),
Vg 48 46 true (.mv (.t 6)),
Vg 49 46 true (.idx 1 (.t 47) (.t 48)),
Vg 50 46 true (.ld none (.t 49)),
V 51 (.pick (.t 46) (.t 50) (.k (.c (.b false))))]) (.cond (.t 51) (.rg [V 52 (.mv (.t 5)),
V 53 (.mv (.t 8)),
V 54 (.mv (.t 5)),
V 55 (.mv (.t 8)),
V 56 (.idx 1 (.t 54) (.t 55)),
V 57 (.ld none (.t 56)),
V 58 (.mv (.t 6)),
V 59 (.bsl 1 [.i 0] 1 [(0,1,(.t 58))]),
V 60 (.app 1 (.t 57) (.t 59)),
V 61 (.idx 1 (.t 52) (.t 53)),
Vn (.st 1 (.t 61) (.t 60))]) (.skip))))) (.rg [V 62 (.bin .add (.t 33) (.k (.c (.i 1)))),
V 33 (.mv (.t 62))])))

def vf121b1:VC:=.seq (.rg [V 26 (.bin .lt (.t 25) (.t 24))]) (.seq (.cond (.t 26) (.skip) (.exit 0)) (.seq (.block 1 (.seq (.rg [V 27 (.mv (.t 25)),
V 6 (.mv (.t 27))]) (.seq (.rg [V 28 (.ld (some 2) (.t 1)),
V 29 (.mv (.t 6)),
V 30 (.call 158 [(.t 28),(.t 29)]),
V 7 (.mv (.t 30))]) (.seq (.rg [V 31 (.mv (.t 4)),
V 32 (.len (.t 31)),
V 33 (.mv (.k (.c (.i 0))))]) (.block 2 (.loop vf121b0)))))) (.rg [V 63 (.bin .add (.t 25) (.k (.c (.i 1)))),
V 25 (.mv (.t 63))])))

def vf121c:VC:=.seq (.rg [V 1 (.box (.t 0)),
V 2 (.mv (.k (.c .ns)))]) (.seq (.seq (.rg [V 10 (.ld (some 2) (.t 1)),
V 11 (.call 51 [(.t 10)]),
V 12 (.not (.t 11))]) (.cond (.t 12) (.seq (.rg [V 2 (.mv (.k (.c .ns)))]) (.ret)) (.skip))) (.seq (.rg [V 14 (.ld (some 2) (.t 1)),
V 15 (.call 55 [(.t 14)]),
V 13 (.mv (.t 15)),
V 16 (.ext 0 (.t 13)),
V 17 (.ext 1 (.t 13)),
V 3 (.mv (.t 16)),
V 4 (.mv (.t 17))]) (.seq (.rg [V 18 (.fad 0 (.t 1)),
V 19 (.ld none (.t 18)),
V 20 (.len (.t 19)),
V 21 (.mks 1 [.ns] (.t 20)),
V 5 (.mv (.t 21))]) (.seq (.seq (.rg [V 22 (.fad 0 (.t 1)),
V 23 (.ld none (.t 22)),
V 24 (.len (.t 23)),
V 25 (.mv (.k (.c (.i 0))))]) (.block 0 (.loop vf121b1))) (.seq (.rg [V 64 (.mv (.t 5)),
V 2 (.mv (.t 64))]) (.ret))))))

def vf121:VF:=⟨vf121c,vf121v,[(2,none)]⟩

theorem ok121:chkF Tryz.prog Tryz.f121 vf121=true:=by kernel_rfl

theorem dr121:drawsB vf121.body=true:=by kernel_rfl

def vf122v:List Nat:=[0,1,2,3,4,5,7,9,10,12,13,21,22,23,24,28,29,30,31,48,52,53,54,55,62]

def vf122b0:VC:=.seq (.rg [V 31 (.bin .lt (.t 30) (.t 29))]) (.seq (.cond (.t 31) (.skip) (.exit 2)) (.seq (.block 3 (.seq (.rg [V 32 (.idx 2 (.t 28) (.t 30)),
V 33 (.ld (some 2) (.t 32)),
V 9 (.alloc [.i 0,.i 0]),
Vn (.st 2 (.t 9) (.t 33))]) (.seq (.rg [V 35 (.fad 0 (.t 2)),
V 36 (.ld (some 2) (.t 35)),
V 37 (.fad 1 (.t 9)),
V 38 (.ld none (.t 37)),
V 39 (.call 159 [(.t 36),(.t 38)]),
V 34 (.mv (.t 39)),
V 40 (.ext 0 (.t 34)),
V 41 (.ext 1 (.t 34)),
V 10 (.mv (.t 40)),
V 11 (.mv (.t 41))]) (.seq (.rg [V 42 (.fad 2 (.t 2)),
V 43 (.ld none (.t 42)),
V 44 (.mv (.t 10)),
V 45 (.fad 0 (.t 9)),
V 46 (.ld none (.t 45)),
V 47 (.call 160 [(.t 43),(.t 44),(.t 46)]),
V 48 (.not (.t 47))]) (.cond (.t 48) (.seq (.rg [V 4 (.mv (.k (.c (.b false))))]) (.ret)) (.skip)))))) (.rg [V 49 (.bin .add (.t 30) (.k (.c (.i 1)))),
V 30 (.mv (.t 49))])))

def vf122b1:VC:=.seq (.rg [V 24 (.bin .lt (.t 23) (.t 22))]) (.seq (.cond (.t 24) (.skip) (.exit 0)) (.seq (.block 1 (.seq (.rg [V 25 (.idx 2 (.t 21) (.t 23)),
V 26 (.ld (some 2) (.t 25)),
V 7 (.alloc [.i 0,.ns]),
Vn (.st 2 (.t 7) (.t 26))]) (.seq (.rg [V 27 (.fad 1 (.t 7)),
V 28 (.ld none (.t 27)),
V 29 (.len (.t 28)),
V 30 (.mv (.k (.c (.i 0))))]) (.block 2 (.loop vf122b0))))) (.rg [V 50 (.bin .add (.t 23) (.k (.c (.i 1)))),
V 23 (.mv (.t 50))])))

def vf122b2:VC:=.seq (.rg [V 55 (.bin .lt (.t 54) (.t 53))]) (.seq (.cond (.t 55) (.skip) (.exit 4)) (.seq (.block 5 (.seq (.rg [V 56 (.mv (.t 54)),
V 57 (.idx 5 (.t 52) (.t 54)),
V 58 (.ld (some 5) (.t 57)),
V 12 (.alloc [.i 0]),
V 13 (.alloc [.i 0,.i 0,.i 0,.i 0,.i 0]),
Vn (.st 1 (.t 12) (.t 56)),
Vn (.st 5 (.t 13) (.t 58))]) (.seq (.rg [V 59 (.ld (some 5) (.t 13)),
V 60 (.call 143 [(.t 59)]),
V 61 (.mkf 161 [(.t 2),(.t 3),(.t 12)]),
V 62 (.call 59 [(.t 60),(.t 61)])]) (.cond (.t 62) (.seq (.rg [V 4 (.mv (.k (.c (.b false))))]) (.ret)) (.skip))))) (.rg [V 63 (.bin .add (.t 54) (.k (.c (.i 1)))),
V 54 (.mv (.t 63))])))

def vf122c:VC:=.seq (.rg [V 2 (.box (.t 0)),
V 3 (.box (.t 1)),
V 4 (.mv (.k (.c (.b false))))]) (.seq (.rg [V 14 (.fad 0 (.t 2)),
V 15 (.fad 0 (.t 14)),
V 16 (.ld none (.t 15)),
V 17 (.ld none (.t 3)),
V 18 (.idx 6 (.t 16) (.t 17)),
V 19 (.ld (some 6) (.t 18)),
V 5 (.alloc [.ns,.ns,.i 0,.i 0,.i 0,.i 0]),
Vn (.st 6 (.t 5) (.t 19))]) (.seq (.seq (.rg [V 20 (.fad 0 (.t 5)),
V 21 (.ld none (.t 20)),
V 22 (.len (.t 21)),
V 23 (.mv (.k (.c (.i 0))))]) (.block 0 (.loop vf122b1))) (.seq (.seq (.rg [V 51 (.fad 1 (.t 5)),
V 52 (.ld none (.t 51)),
V 53 (.len (.t 52)),
V 54 (.mv (.k (.c (.i 0))))]) (.block 4 (.loop vf122b2))) (.seq (.rg [V 64 (.fad 2 (.t 5)),
V 65 (.ld (some 4) (.t 64)),
V 66 (.call 141 [(.t 65)]),
V 67 (.mkf 163 [(.t 2),(.t 3),(.t 5)]),
V 68 (.call 59 [(.t 66),(.t 67)]),
V 69 (.not (.t 68)),
V 4 (.mv (.t 69))]) (.ret)))))

def vf122:VF:=⟨vf122c,vf122v,[(4,none)]⟩

theorem ok122:chkF Tryz.prog Tryz.f122 vf122=true:=by kernel_rfl

theorem dr122:drawsB vf122.body=true:=by kernel_rfl

def vf124v:List Nat:=[0,1,4,5,6,7,8,9,10,40]

def vf124b0:VC:=.seq (.rg [V 10 (.bin .lt (.t 9) (.t 8))]) (.seq (.cond (.t 10) (.skip) (.exit 0)) (.seq (.block 1 (.seq (.rg [V 11 (.mv (.t 9)),
V 12 (.idx 2 (.t 7) (.t 9)),
V 13 (.ld (some 2) (.t 12)),
V 6 (.alloc [.i 0,.i 0]),
V 5 (.mv (.t 11)),
Vn (.st 2 (.t 6) (.t 13))]) (.seq (.rg [V 14 (.fad 0 (.t 6)),
V 15 (.ld none (.t 14)),
V 16 (.bin .lt (.t 15) (.k (.c (.i 0)))),
V 17 (.mv (.t 16)),
Vg 18 17 false (.fad 0 (.t 6)),
Vg 19 17 false (.ld none (.t 18)),
Vg 20 17 false (.mv (.t 1)),
Vg 21 17 false (.bin .ge (.t 19) (.t 20)),
V 22 (.pick (.t 17) (.k (.c (.b true))) (.t 21)),
V 23 (.mv (.t 22)),
Vg 24 23 false (.fad 1 (.t 6)),
Vg 25 23 false (.ld none (.t 24)),
Vg 26 23 false (.bin .lt (.t 25) (.k (.c (.i 0)))),
V 27 (.pick (.t 23) (.k (.c (.b true))) (.t 26)),
V 28 (.mv (.t 27)),
Vg 29 28 false (.fad 1 (.t 6)),
Vg 30 28 false (.ld none (.t 29)),
Vg 31 28 false (.mv (.t 1)),
Vg 32 28 false (.bin .ge (.t 30) (.t 31)),
V 33 (.pick (.t 28) (.k (.c (.b true))) (.t 32)),
V 34 (.mv (.t 33)),
Vg 35 34 false (.mv (.t 0)),
Vg 36 34 false (.mv (.t 5)),
Vg 37 34 false (.slc 2 (.t 35) none (some (.t 36))),
Vg 38 34 false (.mkf 168 [(.t 6)]),
Vg 39 34 false (.call 167 [(.t 37),(.t 38)]),
V 40 (.pick (.t 34) (.k (.c (.b true))) (.t 39))]) (.cond (.t 40) (.seq (.rg [V 4 (.mv (.k (.c (.b false))))]) (.ret)) (.skip))))) (.rg [V 41 (.bin .add (.t 9) (.k (.c (.i 1)))),
V 9 (.mv (.t 41))])))

def vf124c:VC:=.seq (.rg [V 4 (.mv (.k (.c (.b false))))]) (.seq (.seq (.rg [V 7 (.mv (.t 0)),
V 8 (.len (.t 7)),
V 9 (.mv (.k (.c (.i 0))))]) (.block 0 (.loop vf124b0))) (.seq (.rg [V 42 (.mv (.t 0)),
V 43 (.len (.t 42)),
V 44 (.bin .le (.t 43) (.k (.c (.i 24)))),
V 4 (.mv (.t 44))]) (.ret)))

def vf124:VF:=⟨vf124c,vf124v,[(4,none)]⟩

theorem ok124:chkF Tryz.prog Tryz.f124 vf124=true:=by kernel_rfl

theorem dr124:drawsB vf124.body=true:=by kernel_rfl

def vf125v:List Nat:=[0,1,4,5,6,7,12,19,29]

def vf125b0:VC:=.seq (.seq (.rg [V 16 (.mv (.t 6)),
V 17 (.mv (.t 0)),
V 18 (.len (.t 17)),
V 19 (.bin .lt (.t 16) (.t 18))]) (.cond (.t 19) (.skip) (.exit 0))) (.seq (.block 1 (.seq (.rg [V 22 (.mv (.t 0)),
V 23 (.mv (.t 6)),
V 24 (.idx 2 (.t 22) (.t 23)),
V 25 (.ld (some 2) (.t 24)),
V 7 (.alloc [.i 0,.i 0]),
Vn (.st 2 (.t 7) (.t 25))]) (.seq (.rg [V 26 (.mv (.t 1)),
V 27 (.ld (some 2) (.t 7)),
V 28 (.clv (.t 26) [(.t 27)]),
V 29 (.not (.t 28))]) (.cond (.t 29) (.seq (.rg [V 30 (.mv (.t 0)),
V 31 (.mv (.t 5)),
V 32 (.ld (some 2) (.t 7)),
V 33 (.idx 2 (.t 30) (.t 31)),
Vn (.st 2 (.t 33) (.t 32))]) (.rg [V 34 (.mv (.t 5)),
V 35 (.bin .add (.t 34) (.k (.c (.i 1)))),
V 5 (.mv (.t 35))])) (.skip))))) (.rg [V 20 (.mv (.t 6)),
V 21 (.bin .add (.t 20) (.k (.c (.i 1)))),
V 6 (.mv (.t 21))]))

def vf125c:VC:=.seq (.rg [V 4 (.mv (.k (.c .ns)))]) (.seq (.rg [V 8 (.mv (.t 0)),
V 9 (.mv (.t 1)),
V 10 (.call 169 [(.t 8),(.t 9)]),
V 5 (.mv (.t 10))]) (.seq (.seq (.rg [V 11 (.mv (.t 5)),
V 12 (.bin .eq (.t 11) (.k (.c (.i (-1)))))]) (.cond (.t 12) (.seq (.rg [V 13 (.mv (.t 0)),
V 4 (.mv (.t 13))]) (.ret)) (.skip))) (.seq (.seq (.rg [V 14 (.mv (.t 5)),
V 15 (.bin .add (.t 14) (.k (.c (.i 1)))),
V 6 (.mv (.t 15))]) (.block 0 (.loop vf125b0))) (.seq (.rg [V 36 (.mv (.t 0)),
V 37 (.mv (.t 5)),
V 38 (.slc 2 (.t 36) (some (.t 37)) none),
Vn (.clr 2 [.i 0,.i 0] (.t 38))]) (.seq (.rg [V 39 (.mv (.t 0)),
V 40 (.mv (.t 5)),
V 41 (.slc 2 (.t 39) none (some (.t 40))),
V 4 (.mv (.t 41))]) (.ret))))))

def vf125:VF:=⟨vf125c,vf125v,[(4,none)]⟩

theorem ok125:chkF Tryz.prog Tryz.f125 vf125=true:=by kernel_rfl

theorem dr125:drawsB vf125.body=true:=by kernel_rfl

def vf126v:List Nat:=[0,2,4]

def vf126c:VC:=.seq (.rg [V 2 (.mv (.k (.c .ns)))]) (.seq (.seq (.rg [V 3 (.mv (.t 0)),
V 4 (.eqn false (.t 3))]) (.cond (.t 4) (.seq (.rg [V 2 (.mv (.k (.c .ns)))]) (.ret)) (.skip))) (.seq (.rg [V 5 (.bsl 2 [.i 0,.i 0] 0 []),
V 6 (.mv (.t 0)),
V 7 (.app 2 (.t 5) (.t 6)),
V 2 (.mv (.t 7))]) (.ret)))

def vf126:VF:=⟨vf126c,vf126v,[(2,none)]⟩

theorem ok126:chkF Tryz.prog Tryz.f126 vf126=true:=by kernel_rfl

theorem dr126:drawsB vf126.body=true:=by kernel_rfl

def vf127v:List Nat:=[0,1,2]

def vf127c:VC:=.seq (.rg [V 1 (.box (.t 0)),
V 2 (.mv (.k (.c (.b false))))]) (.seq (.rg [V 3 (.fad 0 (.t 1)),
V 4 (.ld none (.t 3)),
V 5 (.fad 1 (.t 1)),
V 6 (.ld none (.t 5)),
V 7 (.bin .eq (.t 4) (.t 6)),
V 2 (.mv (.t 7))]) (.ret))

def vf127:VF:=⟨vf127c,vf127v,[(2,none)]⟩

theorem ok127:chkF Tryz.prog Tryz.f127 vf127=true:=by kernel_rfl

theorem dr127:drawsB vf127.body=true:=by kernel_rfl

def vf128v:List Nat:=[0,1,2]

def vf128c:VC:=.seq (.rg [V 1 (.box (.t 0)),
V 2 (.mv (.k (.c (.i 0))))]) (.seq (.rg [V 3 (.ld none (.t 1)),
V 4 (.mkf 170 [(.t 1)]),
V 5 (.call 169 [(.t 3),(.t 4)]),
V 2 (.mv (.t 5))]) (.ret))

def vf128:VF:=⟨vf128c,vf128v,[(2,none)]⟩

theorem ok128:chkF Tryz.prog Tryz.f128 vf128=true:=by kernel_rfl

theorem dr128:drawsB vf128.body=true:=by kernel_rfl

def vf129v:List Nat:=[0,1,2,6,7,16]

def vf129c:VC:=.seq (.rg [V 6 (.mv (.k (.c .ns)))]) (.seq (.rg [V 8 (.mv (.t 0)),
V 9 (.mv (.t 1)),
V 10 (.mv (.t 2)),
V 11 (.mv (.t 0)),
V 12 (.len (.t 11)),
V 13 (.bck (.t 8) (.t 9) (.t 10) (.t 12))]) (.seq (.seq (.rg [V 14 (.mv (.t 1)),
V 15 (.mv (.t 2)),
V 16 (.bin .eq (.t 14) (.t 15))]) (.cond (.t 16) (.seq (.rg [V 17 (.mv (.t 0)),
V 6 (.mv (.t 17))]) (.ret)) (.skip))) (.seq (.rg [V 18 (.mv (.t 0)),
V 19 (.len (.t 18)),
V 7 (.mv (.t 19))]) (.seq (.rd [V 20 (.mv (.t 0)),
V 21 (.mv (.t 1)),
Vd [0,1] (V 22 (.slc 2 (.t 20) none (some (.t 21)))),
V 23 (.mv (.t 0)),
V 24 (.mv (.t 2)),
Vd [3,4] (V 25 (.slc 2 (.t 23) (some (.t 24)) none)),
Vd [2,5] (V 26 (.app 2 (.t 22) (.t 25))),
Vd [6] (V 0 (.mv (.t 26)))]) (.seq (.rg [V 27 (.mv (.t 0)),
V 28 (.mv (.t 0)),
V 29 (.len (.t 28)),
V 30 (.mv (.t 7)),
V 31 (.slc 2 (.t 27) (some (.t 29)) (some (.t 30))),
Vn (.clr 2 [.i 0,.i 0] (.t 31))]) (.seq (.rg [V 32 (.mv (.t 0)),
V 6 (.mv (.t 32))]) (.ret)))))))

def vf129:VF:=⟨vf129c,vf129v,[(6,none)]⟩

theorem ok129:chkF Tryz.prog Tryz.f129 vf129=true:=by kernel_rfl

theorem dr129:drawsB vf129.body=true:=by kernel_rfl

def vf130v:List Nat:=[0,2,3,4,5,9,15,38]

def vf130b0:VC:=.seq (.seq (.rg [V 12 (.mv (.t 5)),
V 13 (.mv (.t 0)),
V 14 (.len (.t 13)),
V 15 (.bin .lt (.t 12) (.t 14))]) (.cond (.t 15) (.skip) (.exit 2))) (.seq (.block 3 (.rd [V 18 (.mv (.t 4)),
Vd [0] (V 19 (.mv (.t 18))),
Vd [1] (Vg 20 19 false (.mv (.t 5))),
Vd [1] (Vg 21 19 false (.mv (.t 3))),
Vd [2,3] (Vg 22 19 false (.bin .ne (.t 20) (.t 21))),
Vd [4] (Vg 23 19 false (.mv (.t 22))),
Vd [5] (Vg 24 23 true (.mv (.t 0))),
Vd [5] (Vg 25 23 true (.mv (.t 5))),
Vd [6,7] (Vg 26 23 true (.idx 2 (.t 24) (.t 25))),
Vd [8] (Vg 27 23 true (.fad 1 (.t 26))),
Vd [9] (Vg 28 23 true (.ld none (.t 27))),
Vd [5] (Vg 29 23 true (.mv (.t 0))),
Vd [5] (Vg 30 23 true (.mv (.t 3))),
Vd [11,12] (Vg 31 23 true (.idx 2 (.t 29) (.t 30))),
Vd [13] (Vg 32 23 true (.fad 0 (.t 31))),
Vd [14] (Vg 33 23 true (.ld none (.t 32))),
Vd [10,15] (Vg 34 23 true (.bin .eq (.t 28) (.t 33))),
Vd [16] (Vg 35 19 false (.pick (.t 23) (.t 34) (.k (.c (.b false))))),
Vd [17] (V 36 (.pick (.t 19) (.k (.c (.b true))) (.t 35))),
Vd [18] (V 4 (.mv (.t 36)))])) (.rg [V 16 (.mv (.t 5)),
V 17 (.bin .add (.t 16) (.k (.c (.i 1)))),
V 5 (.mv (.t 17))]))

def vf130b1:VC:=.seq (.seq (.rg [V 6 (.mv (.t 3)),
V 7 (.mv (.t 0)),
V 8 (.len (.t 7)),
V 9 (.bin .lt (.t 6) (.t 8))]) (.cond (.t 9) (.skip) (.exit 0))) (.seq (.block 1 (.seq (.rg [V 4 (.mv (.k (.c (.b false))))]) (.seq (.seq (.rg [V 5 (.mv (.k (.c (.i 0))))]) (.block 2 (.loop vf130b0))) (.seq (.rg [V 37 (.mv (.t 4)),
V 38 (.not (.t 37))]) (.cond (.t 38) (.seq (.rg [V 39 (.mv (.t 3)),
V 2 (.mv (.t 39))]) (.ret)) (.skip)))))) (.rg [V 10 (.mv (.t 3)),
V 11 (.bin .add (.t 10) (.k (.c (.i 1)))),
V 3 (.mv (.t 11))]))

def vf130c:VC:=.seq (.rg [V 2 (.mv (.k (.c (.i 0))))]) (.seq (.seq (.rg [V 3 (.mv (.k (.c (.i 0))))]) (.block 0 (.loop vf130b1))) (.seq (.rg [V 2 (.mv (.k (.c (.i (-1)))))]) (.ret)))

def vf130:VF:=⟨vf130c,vf130v,[(2,none)]⟩

theorem ok130:chkF Tryz.prog Tryz.f130 vf130=true:=by kernel_rfl

theorem dr130:drawsB vf130.body=true:=by kernel_rfl

def vf133v:List Nat:=[0,1,4,5,7,8,9,16]

def vf133b0:VC:=.seq (.rg [V 9 (.bin .lt (.t 8) (.t 7))]) (.seq (.cond (.t 9) (.skip) (.exit 0)) (.seq (.block 1 (.seq (.rg [V 10 (.mv (.t 8)),
V 5 (.mv (.t 10))]) (.seq (.rg [V 11 (.mv (.t 1)),
V 12 (.mv (.t 0)),
V 13 (.mv (.t 5)),
V 14 (.idx 6 (.t 12) (.t 13)),
V 15 (.ld (some 6) (.t 14)),
V 16 (.clv (.t 11) [(.t 15)])]) (.cond (.t 16) (.seq (.rg [V 17 (.mv (.t 5)),
V 4 (.mv (.t 17))]) (.ret)) (.skip))))) (.rg [V 18 (.bin .add (.t 8) (.k (.c (.i 1)))),
V 8 (.mv (.t 18))])))

def vf133c:VC:=.seq (.rg [V 4 (.mv (.k (.c (.i 0))))]) (.seq (.seq (.rg [V 6 (.mv (.t 0)),
V 7 (.len (.t 6)),
V 8 (.mv (.k (.c (.i 0))))]) (.block 0 (.loop vf133b0))) (.seq (.rg [V 4 (.mv (.k (.c (.i (-1)))))]) (.ret)))

def vf133:VF:=⟨vf133c,vf133v,[(4,none)]⟩

theorem ok133:chkF Tryz.prog Tryz.f133 vf133=true:=by kernel_rfl

theorem dr133:drawsB vf133.body=true:=by kernel_rfl

def vf134v:List Nat:=[0,2]

def vf134c:VC:=.seq (.rg [V 2 (.mv (.k (.c (.i 0))))]) (.seq (.rg [V 3 (.mv (.t 0)),
V 4 (.mv (.t 0)),
V 5 (.nilc (.t 4)),
V 6 (.fad 1 (.t 5)),
V 7 (.fad 0 (.t 6)),
V 8 (.ld none (.t 7)),
V 9 (.build [.ns,.ns,.i 0,.i 0,.i 0,.i 0] []),
V 10 (.bsl 6 [.ns,.ns,.i 0,.i 0,.i 0,.i 0] 1 [(0,6,(.t 9))]),
V 11 (.app 6 (.t 8) (.t 10)),
V 12 (.nilc (.t 3)),
V 13 (.fad 1 (.t 12)),
V 14 (.fad 0 (.t 13)),
Vn (.st 1 (.t 14) (.t 11))]) (.seq (.rg [V 15 (.mv (.t 0)),
V 16 (.nilc (.t 15)),
V 17 (.fad 1 (.t 16)),
V 18 (.fad 0 (.t 17)),
V 19 (.ld none (.t 18)),
V 20 (.len (.t 19)),
V 21 (.bin .sub (.t 20) (.k (.c (.i 1)))),
V 2 (.mv (.t 21))]) (.ret)))

def vf134:VF:=⟨vf134c,vf134v,[(2,none)]⟩

theorem ok134:chkF Tryz.prog Tryz.f134 vf134=true:=by kernel_rfl

theorem dr134:drawsB vf134.body=true:=by kernel_rfl

def vf135v:List Nat:=[0,2]

def vf135c:VC:=.seq (.rg [V 2 (.mv (.k (.c (.i 0))))]) (.seq (.rg [V 3 (.mv (.t 0)),
V 4 (.mv (.t 0)),
V 5 (.nilc (.t 4)),
V 6 (.fad 1 (.t 5)),
V 7 (.fad 1 (.t 6)),
V 8 (.ld none (.t 7)),
V 9 (.bin .add (.t 8) (.k (.c (.i 1)))),
V 10 (.nilc (.t 3)),
V 11 (.fad 1 (.t 10)),
V 12 (.fad 1 (.t 11)),
Vn (.st 1 (.t 12) (.t 9))]) (.seq (.rg [V 13 (.mv (.t 0)),
V 14 (.nilc (.t 13)),
V 15 (.fad 1 (.t 14)),
V 16 (.fad 1 (.t 15)),
V 17 (.ld none (.t 16)),
V 18 (.bin .sub (.t 17) (.k (.c (.i 1)))),
V 2 (.mv (.t 18))]) (.ret)))

def vf135:VF:=⟨vf135c,vf135v,[(2,none)]⟩

theorem ok135:chkF Tryz.prog Tryz.f135 vf135=true:=by kernel_rfl

theorem dr135:drawsB vf135.body=true:=by kernel_rfl

def vf136v:List Nat:=[0,1,2,5,16]

def vf136c:VC:=.seq (.rg [V 5 (.box (.t 2))]) (.seq (.rg [V 6 (.mv (.t 0)),
V 7 (.nilc (.t 6)),
V 8 (.fad 1 (.t 7)),
V 9 (.fad 0 (.t 8)),
V 10 (.ld none (.t 9)),
V 11 (.mv (.t 1)),
V 12 (.idx 6 (.t 10) (.t 11)),
V 13 (.fad 1 (.t 12)),
V 14 (.ld none (.t 13)),
V 15 (.len (.t 14)),
V 16 (.bin .lt (.t 15) (.k (.c (.i 24))))]) (.cond (.t 16) (.rd [V 17 (.mv (.t 0)),
Vd [0] (V 18 (.nilc (.t 17))),
Vd [1] (V 19 (.fad 1 (.t 18))),
Vd [2] (V 20 (.fad 0 (.t 19))),
Vc [3] [] true (V 21 (.ld none (.t 20))),
V 22 (.mv (.t 1)),
V 23 (.mv (.t 0)),
Vd [6] (V 24 (.nilc (.t 23))),
Vd [7] (V 25 (.fad 1 (.t 24))),
Vd [8] (V 26 (.fad 0 (.t 25))),
Vc [9] [] true (V 27 (.ld none (.t 26))),
V 28 (.mv (.t 1)),
Vd [10,11] (V 29 (.idx 6 (.t 27) (.t 28))),
Vd [12] (V 30 (.fad 1 (.t 29))),
Vc [13] [] true (V 31 (.ld none (.t 30))),
V 32 (.ld (some 5) (.t 5)),
Vc [15] [4,10,14] false (V 33 (.bsl 5 [.i 0,.i 0,.i 0,.i 0,.i 0] 1 [(0,5,(.t 32))])),
Vc [14,16] [4] false (V 34 (.app 5 (.t 31) (.t 33))),
Vd [4,5,17] (V 35 (.idx 6 (.t 21) (.t 22))),
Vd [18] (V 36 (.fad 1 (.t 35))),
Vd [19] (Vn (.st 1 (.t 36) (.t 34)))]) (.skip)))

def vf136:VF:=⟨vf136c,vf136v,[]⟩

theorem ok136:chkF Tryz.prog Tryz.f136 vf136=true:=by kernel_rfl

theorem dr136:drawsB vf136.body=true:=by kernel_rfl

def vf137v:List Nat:=[0,1,2,3,8,9,10,11,20,36,45,55,66]

def vf137b0:VC:=.seq (.seq (.rg [V 18 (.mv (.t 11)),
V 19 (.mv (.t 10)),
V 20 (.bin .lt (.t 18) (.t 19))]) (.cond (.t 20) (.skip) (.exit 0))) (.seq (.block 1 (.seq (.seq (.rg [V 23 (.mv (.t 3)),
V 24 (.bin .le (.t 23) (.k (.c (.i 0)))),
V 25 (.mv (.t 24)),
Vg 26 25 false (.mv (.t 0)),
Vg 27 25 false (.call 183 [(.t 26)]),
V 28 (.pick (.t 25) (.k (.c (.b true))) (.t 27)),
V 29 (.mv (.t 28)),
Vg 30 29 false (.mv (.t 0)),
Vg 31 29 false (.nilc (.t 30)),
Vg 32 29 false (.fad 0 (.t 31)),
Vg 33 29 false (.ld none (.t 32)),
Vg 34 29 false (.call 66 [(.t 33),(.k (.c (.i 3)))]),
Vg 35 29 false (.not (.t 34)),
V 36 (.pick (.t 29) (.k (.c (.b true))) (.t 35))]) (.cond (.t 36) (.seq (.rg [V 37 (.mv (.t 0)),
V 38 (.mv (.t 1)),
V 39 (.mv (.t 2)),
V 40 (.call 184 [(.t 37),(.t 38),(.t 39)]),
V 2 (.mv (.t 40))]) (.exit 1)) (.skip))) (.seq (.rg [V 41 (.mv (.t 0)),
V 42 (.nilc (.t 41)),
V 43 (.fad 0 (.t 42)),
V 44 (.ld none (.t 43)),
V 45 (.call 77 [(.t 44),(.k (.c (.i 4)))])]) (.block 2 (.seq (.rg [V 56 (.bin .eq (.t 45) (.k (.c (.i 0)))),
V 55 (.mv (.t 56))]) (.cond (.t 55) (.rg [V 58 (.mv (.t 0)),
V 59 (.mv (.t 1)),
V 60 (.mv (.t 2)),
V 61 (.mv (.t 3)),
V 62 (.bin .sub (.t 61) (.k (.c (.i 1)))),
V 63 (.call 185 [(.t 58),(.t 59),(.t 60),(.t 62)]),
V 57 (.mv (.t 63)),
V 64 (.ext 0 (.t 57)),
V 65 (.ext 1 (.t 57)),
V 1 (.mv (.t 64)),
V 2 (.mv (.t 65))]) (.seq (.rg [V 67 (.bin .eq (.t 45) (.k (.c (.i 1)))),
V 66 (.mv (.t 67))]) (.cond (.t 66) (.rg [V 69 (.mv (.t 0)),
V 70 (.mv (.t 1)),
V 71 (.mv (.t 2)),
V 72 (.mv (.t 3)),
V 73 (.bin .sub (.t 72) (.k (.c (.i 1)))),
V 74 (.call 186 [(.t 69),(.t 70),(.t 71),(.t 73)]),
V 68 (.mv (.t 74)),
V 75 (.ext 0 (.t 68)),
V 76 (.ext 1 (.t 68)),
V 1 (.mv (.t 75)),
V 2 (.mv (.t 76))]) (.rg [V 47 (.mv (.t 0)),
V 48 (.mv (.t 1)),
V 49 (.mv (.t 2)),
V 50 (.mv (.t 3)),
V 51 (.bin .sub (.t 50) (.k (.c (.i 1)))),
V 52 (.call 187 [(.t 47),(.t 48),(.t 49),(.t 51)]),
V 46 (.mv (.t 52)),
V 53 (.ext 0 (.t 46)),
V 54 (.ext 1 (.t 46)),
V 1 (.mv (.t 53)),
V 2 (.mv (.t 54))]))))))))) (.rg [V 21 (.mv (.t 11)),
V 22 (.bin .add (.t 21) (.k (.c (.i 1)))),
V 11 (.mv (.t 22))]))

def vf137c:VC:=.seq (.rg [V 8 (.mv (.k (.c (.i 0)))),
V 9 (.mv (.k (.c .ns)))]) (.seq (.rg [V 12 (.mv (.t 0)),
V 13 (.nilc (.t 12)),
V 14 (.fad 0 (.t 13)),
V 15 (.ld none (.t 14)),
V 16 (.call 77 [(.t 15),(.k (.c (.i 5)))]),
V 17 (.bin .add (.k (.c (.i 1))) (.t 16)),
V 10 (.mv (.t 17))]) (.seq (.seq (.rg [V 11 (.mv (.k (.c (.i 0))))]) (.block 0 (.loop vf137b0))) (.seq (.rg [V 77 (.mv (.t 1)),
V 78 (.mv (.t 2)),
V 8 (.mv (.t 77)),
V 9 (.mv (.t 78))]) (.ret))))

def vf137:VF:=⟨vf137c,vf137v,[(8,none),(9,none)]⟩

theorem ok137:chkF Tryz.prog Tryz.f137 vf137=true:=by kernel_rfl

theorem dr137:drawsB vf137.body=true:=by kernel_rfl

def vf138v:List Nat:=[0,1,4]

def vf138c:VC:=.seq (.rg [V 4 (.mv (.k (.c (.i 0))))]) (.seq (.rg [V 5 (.mv (.t 1)),
V 6 (.mv (.t 0)),
V 7 (.nilc (.t 6)),
V 8 (.fad 0 (.t 7)),
V 9 (.ld none (.t 8)),
V 10 (.mv (.t 1)),
V 11 (.len (.t 10)),
V 12 (.call 77 [(.t 9),(.t 11)]),
V 13 (.idx 1 (.t 5) (.t 12)),
V 14 (.ld none (.t 13)),
V 4 (.mv (.t 14))]) (.ret))

def vf138:VF:=⟨vf138c,vf138v,[(4,none)]⟩

theorem ok138:chkF Tryz.prog Tryz.f138 vf138=true:=by kernel_rfl

theorem dr138:drawsB vf138.body=true:=by kernel_rfl

def vf139v:List Nat:=[0,2,3,34]

def vf139c:VC:=.seq (.rg [V 2 (.mv (.k (.c (.i 0))))]) (.seq (.rg [V 4 (.mv (.t 0)),
V 5 (.mv (.t 0)),
V 6 (.nilc (.t 5)),
V 7 (.fad 2 (.t 6)),
V 8 (.ld none (.t 7)),
V 9 (.bin .mul (.t 8) (.k (.c (.i 6364136223846793005)))),
V 10 (.bin .add (.t 9) (.k (.c (.i 1442695040888963407)))),
V 11 (.nilc (.t 4)),
V 12 (.fad 2 (.t 11)),
Vn (.st 1 (.t 12) (.t 10))]) (.seq (.rd [V 13 (.mv (.t 0)),
Vd [0] (V 14 (.nilc (.t 13))),
Vd [1] (V 15 (.fad 2 (.t 14))),
Vd [2] (V 16 (.ld none (.t 15))),
Vd [3] (V 17 (.shk false 33 (.t 16))),
V 18 (.mv (.t 0)),
Vd [5] (V 19 (.nilc (.t 18))),
Vd [6] (V 20 (.fad 2 (.t 19))),
Vd [7] (V 21 (.ld none (.t 20))),
Vd [8] (V 22 (.shk false 45 (.t 21))),
Vd [4,9] (V 23 (.bin .xor (.t 17) (.t 22))),
Vd [10] (V 24 (.bin .and (.t 23) (.k (.c (.i 255))))),
Vd [11] (V 3 (.mv (.t 24)))]) (.seq (.seq (.rd [V 25 (.mv (.t 0)),
Vd [0] (V 26 (.nilc (.t 25))),
Vd [1] (V 27 (.fad 1 (.t 26))),
Vd [2] (V 28 (.ld none (.t 27))),
V 29 (.mv (.t 0)),
Vd [4] (V 30 (.nilc (.t 29))),
Vd [5] (V 31 (.fad 0 (.t 30))),
Vd [6] (V 32 (.ld none (.t 31))),
Vd [7] (V 33 (.len (.t 32))),
Vd [3,8] (V 34 (.bin .lt (.t 28) (.t 33)))]) (.cond (.t 34) (.seq (.rd [V 35 (.mv (.t 3)),
V 36 (.mv (.t 0)),
Vd [1] (V 37 (.nilc (.t 36))),
Vd [2] (V 38 (.fad 0 (.t 37))),
Vd [3] (V 39 (.ld none (.t 38))),
V 40 (.mv (.t 0)),
Vd [5] (V 41 (.nilc (.t 40))),
Vd [6] (V 42 (.fad 1 (.t 41))),
Vd [7] (V 43 (.ld none (.t 42))),
Vd [4,8] (V 44 (.idx 1 (.t 39) (.t 43))),
Vd [9] (V 45 (.ld none (.t 44))),
Vd [10] (V 46 (.b2i (.t 45))),
Vd [0,11] (V 47 (.bin .add (.t 35) (.t 46))),
Vd [12] (V 48 (.bin .and (.t 47) (.k (.c (.i 255))))),
Vd [13] (V 3 (.mv (.t 48)))]) (.rg [V 49 (.mv (.t 0)),
V 50 (.mv (.t 0)),
V 51 (.nilc (.t 50)),
V 52 (.fad 1 (.t 51)),
V 53 (.ld none (.t 52)),
V 54 (.bin .add (.t 53) (.k (.c (.i 1)))),
V 55 (.nilc (.t 49)),
V 56 (.fad 1 (.t 55)),
Vn (.st 1 (.t 56) (.t 54))])) (.skip))) (.seq (.rg [V 57 (.mv (.t 3)),
V 2 (.mv (.t 57))]) (.ret)))))

def vf139:VF:=⟨vf139c,vf139v,[(2,none)]⟩

theorem ok139:chkF Tryz.prog Tryz.f139 vf139=true:=by kernel_rfl

theorem dr139:drawsB vf139.body=true:=by kernel_rfl

def vf141v:List Nat:=[0,1,2,10]

def vf141c:VC:=.seq (.rg [V 1 (.box (.t 0)),
V 2 (.mv (.k (.c .ns)))]) (.seq (.seq (.rg [V 3 (.fad 0 (.t 1)),
V 4 (.ld none (.t 3)),
V 5 (.bin .eq (.t 4) (.k (.c (.i 2)))),
V 6 (.mv (.t 5)),
Vg 7 6 false (.fad 0 (.t 1)),
Vg 8 6 false (.ld none (.t 7)),
Vg 9 6 false (.bin .eq (.t 8) (.k (.c (.i 3)))),
V 10 (.pick (.t 6) (.k (.c (.b true))) (.t 9))]) (.cond (.t 10) (.seq (.rg [V 11 (.fad 1 (.t 1)),
V 12 (.ld none (.t 11)),
V 13 (.bsl 1 [.i 0] 1 [(0,1,(.t 12))]),
V 2 (.mv (.t 13))]) (.ret)) (.skip))) (.seq (.rg [V 2 (.mv (.k (.c .ns)))]) (.ret)))

def vf141:VF:=⟨vf141c,vf141v,[(2,none)]⟩

theorem ok141:chkF Tryz.prog Tryz.f141 vf141=true:=by kernel_rfl

theorem dr141:drawsB vf141.body=true:=by kernel_rfl

def vf143v:List Nat:=[0,1,2,3,7,15]

def vf143c:VC:=.seq (.rg [V 1 (.box (.t 0)),
V 2 (.mv (.k (.c .ns)))]) (.seq (.rg [V 4 (.bsl 1 [.i 0] 0 []),
V 3 (.mv (.t 4))]) (.seq (.seq (.rg [V 5 (.fad 0 (.t 1)),
V 6 (.ld none (.t 5)),
V 7 (.call 85 [(.t 6),(.k (.c (.y 65)))])]) (.cond (.t 7) (.rg [V 8 (.mv (.t 3)),
V 9 (.fad 2 (.t 1)),
V 10 (.ld none (.t 9)),
V 11 (.bsl 1 [.i 0] 1 [(0,1,(.t 10))]),
V 12 (.app 1 (.t 8) (.t 11)),
V 3 (.mv (.t 12))]) (.skip))) (.seq (.seq (.rg [V 13 (.fad 0 (.t 1)),
V 14 (.ld none (.t 13)),
V 15 (.call 85 [(.t 14),(.k (.c (.y 66)))])]) (.cond (.t 15) (.rg [V 16 (.mv (.t 3)),
V 17 (.fad 3 (.t 1)),
V 18 (.ld none (.t 17)),
V 19 (.bsl 1 [.i 0] 1 [(0,1,(.t 18))]),
V 20 (.app 1 (.t 16) (.t 19)),
V 3 (.mv (.t 20))]) (.skip))) (.seq (.rg [V 21 (.mv (.t 3)),
V 2 (.mv (.t 21))]) (.ret)))))

def vf143:VF:=⟨vf143c,vf143v,[(2,none)]⟩

theorem ok143:chkF Tryz.prog Tryz.f143 vf143=true:=by kernel_rfl

theorem dr143:drawsB vf143.body=true:=by kernel_rfl

def vf144v:List Nat:=[0,2,3,4,5,7,10,12,14]

def vf144c:VC:=.seq (.rg [V 2 (.mv (.k (.c (.s ⟨#[]⟩)))),
V 3 (.mv (.k (.c (.b false))))]) (.seq (.seq (.rg [V 4 (.mv (.t 0))]) (.block 0 (.seq (.rg [V 6 (.bin .eq (.t 4) (.k (.c (.i 20)))),
V 5 (.mv (.t 6))]) (.cond (.t 5) (.seq (.rg [V 2 (.mv (.k (.c (.s ⟨#[68,78]⟩)))),
V 3 (.mv (.k (.c (.b true))))]) (.ret)) (.seq (.seq (.rg [V 8 (.bin .eq (.t 4) (.k (.c (.i 21)))),
V 7 (.mv (.t 8))]) (.cond (.t 7) (.skip) (.rg [V 9 (.bin .eq (.t 4) (.k (.c (.i 25)))),
V 7 (.mv (.t 9))]))) (.cond (.t 7) (.seq (.rg [V 2 (.mv (.k (.c (.s ⟨#[68,65]⟩)))),
V 3 (.mv (.k (.c (.b true))))]) (.ret)) (.seq (.rg [V 11 (.bin .eq (.t 4) (.k (.c (.i 22)))),
V 10 (.mv (.t 11))]) (.cond (.t 10) (.seq (.rg [V 2 (.mv (.k (.c (.s ⟨#[65,66]⟩)))),
V 3 (.mv (.k (.c (.b true))))]) (.ret)) (.seq (.rg [V 13 (.bin .eq (.t 4) (.k (.c (.i 23)))),
V 12 (.mv (.t 13))]) (.cond (.t 12) (.seq (.rg [V 2 (.mv (.k (.c (.s ⟨#[65]⟩)))),
V 3 (.mv (.k (.c (.b true))))]) (.ret)) (.seq (.rg [V 15 (.bin .eq (.t 4) (.k (.c (.i 24)))),
V 14 (.mv (.t 15))]) (.cond (.t 14) (.seq (.rg [V 2 (.mv (.k (.c (.s ⟨#[68]⟩)))),
V 3 (.mv (.k (.c (.b true))))]) (.ret)) (.skip))))))))))))) (.seq (.rg [V 16 (.mv (.t 0)),
V 17 (.call 40 [(.t 16)]),
V 2 (.mv (.k (.c (.s ⟨#[68,65,66]⟩)))),
V 3 (.mv (.t 17))]) (.ret)))

def vf144:VF:=⟨vf144c,vf144v,[(2,none),(3,none)]⟩

theorem ok144:chkF Tryz.prog Tryz.f144 vf144=true:=by kernel_rfl

theorem dr144:drawsB vf144.body=true:=by kernel_rfl

def vf145v:List Nat:=[0,1,4]

def vf145c:VC:=.seq (.rg [V 4 (.mv (.k (.c (.b false))))]) (.seq (.rg [V 5 (.mv (.t 0)),
V 6 (.mv (.t 1)),
V 7 (.call 188 [(.t 5),(.t 6)]),
V 8 (.bin .ge (.t 7) (.k (.c (.i 0)))),
V 4 (.mv (.t 8))]) (.ret))

def vf145:VF:=⟨vf145c,vf145v,[(4,none)]⟩

theorem ok145:chkF Tryz.prog Tryz.f145 vf145=true:=by kernel_rfl

theorem dr145:drawsB vf145.body=true:=by kernel_rfl

def vf146v:List Nat:=[0,1,4,5,9,17]

def vf146b0:VC:=.seq (.seq (.rg [V 6 (.mv (.t 5)),
V 7 (.mv (.t 0)),
V 8 (.len (.t 7)),
V 9 (.bin .lt (.t 6) (.t 8))]) (.cond (.t 9) (.skip) (.exit 0))) (.seq (.block 1 (.seq (.rg [V 12 (.mv (.t 0)),
V 13 (.mv (.t 5)),
V 14 (.idx 1 (.t 12) (.t 13)),
V 15 (.ld none (.t 14)),
V 16 (.mv (.t 1)),
V 17 (.bin .eq (.t 15) (.t 16))]) (.cond (.t 17) (.seq (.rg [V 4 (.mv (.k (.c (.b true))))]) (.ret)) (.skip)))) (.rg [V 10 (.mv (.t 5)),
V 11 (.bin .add (.t 10) (.k (.c (.i 1)))),
V 5 (.mv (.t 11))]))

def vf146c:VC:=.seq (.rg [V 4 (.mv (.k (.c (.b false))))]) (.seq (.seq (.rg [V 5 (.mv (.k (.c (.i 0))))]) (.block 0 (.loop vf146b0))) (.seq (.rg [V 4 (.mv (.k (.c (.b false))))]) (.ret)))

def vf146:VF:=⟨vf146c,vf146v,[(4,none)]⟩

theorem ok146:chkF Tryz.prog Tryz.f146 vf146=true:=by kernel_rfl

theorem dr146:drawsB vf146.body=true:=by kernel_rfl

def vf147v:List Nat:=[0,1,2,3,4,5,6,7,24,34,53]

def vf147b0:VC:=.seq (.seq (.rg [V 30 (.mv (.t 7)),
V 31 (.fad 0 (.t 1)),
V 32 (.ld none (.t 31)),
V 33 (.len (.t 32)),
V 34 (.bin .lt (.t 30) (.t 33))]) (.cond (.t 34) (.skip) (.exit 2))) (.seq (.block 3 (.seq (.rg [V 37 (.mv (.t 4)),
V 38 (.mv (.t 5)),
V 39 (.idx 1 (.t 37) (.t 38)),
V 40 (.ld none (.t 39)),
V 41 (.mv (.t 40)),
Vg 42 41 true (.mv (.t 4)),
Vg 43 41 true (.mv (.t 7)),
Vg 44 41 true (.idx 1 (.t 42) (.t 43)),
Vg 45 41 true (.ld none (.t 44)),
V 46 (.pick (.t 41) (.t 45) (.k (.c (.b false)))),
V 47 (.mv (.t 46)),
Vg 48 47 true (.mv (.t 6)),
Vg 49 47 true (.mv (.t 7)),
Vg 50 47 true (.idx 1 (.t 48) (.t 49)),
Vg 51 47 true (.ld none (.t 50)),
Vg 52 47 true (.not (.t 51)),
V 53 (.pick (.t 47) (.t 52) (.k (.c (.b false))))]) (.cond (.t 53) (.rg [V 54 (.mv (.t 3)),
V 55 (.mv (.t 7)),
V 56 (.mv (.t 3)),
V 57 (.mv (.t 7)),
V 58 (.idx 1 (.t 56) (.t 57)),
V 59 (.ld none (.t 58)),
V 60 (.mv (.t 5)),
V 61 (.bsl 1 [.i 0] 1 [(0,1,(.t 60))]),
V 62 (.app 1 (.t 59) (.t 61)),
V 63 (.idx 1 (.t 54) (.t 55)),
Vn (.st 1 (.t 63) (.t 62))]) (.skip)))) (.rg [V 35 (.mv (.t 7)),
V 36 (.bin .add (.t 35) (.k (.c (.i 1)))),
V 7 (.mv (.t 36))]))

def vf147b1:VC:=.seq (.seq (.rg [V 20 (.mv (.t 5)),
V 21 (.fad 0 (.t 1)),
V 22 (.ld none (.t 21)),
V 23 (.len (.t 22)),
V 24 (.bin .lt (.t 20) (.t 23))]) (.cond (.t 24) (.skip) (.exit 0))) (.seq (.block 1 (.seq (.rg [V 27 (.ld (some 2) (.t 1)),
V 28 (.mv (.t 5)),
V 29 (.call 189 [(.t 27),(.t 28)]),
V 6 (.mv (.t 29))]) (.seq (.rg [V 7 (.mv (.k (.c (.i 0))))]) (.block 2 (.loop vf147b0))))) (.rg [V 25 (.mv (.t 5)),
V 26 (.bin .add (.t 25) (.k (.c (.i 1)))),
V 5 (.mv (.t 26))]))

def vf147c:VC:=.seq (.rg [V 1 (.box (.t 0)),
V 2 (.mv (.k (.c .ns)))]) (.seq (.rg [V 8 (.fad 0 (.t 1)),
V 9 (.ld none (.t 8)),
V 10 (.len (.t 9)),
V 11 (.mks 1 [.ns] (.t 10)),
V 3 (.mv (.t 11))]) (.seq (.rg [V 12 (.fad 0 (.t 1)),
V 13 (.ld none (.t 12)),
V 14 (.len (.t 13)),
V 15 (.mks 1 [.b false] (.t 14)),
V 4 (.mv (.t 15))]) (.seq (.rg [V 16 (.ld (some 2) (.t 1)),
V 17 (.mv (.t 4)),
V 18 (.bsl 1 [.i 0] 0 []),
V 19 (.call 95 [(.t 16),(.k (.c (.i 0))),(.t 17),(.t 18)])]) (.seq (.seq (.rg [V 5 (.mv (.k (.c (.i 0))))]) (.block 0 (.loop vf147b1))) (.seq (.rg [V 64 (.mv (.t 3)),
V 2 (.mv (.t 64))]) (.ret))))))

def vf147:VF:=⟨vf147c,vf147v,[(2,none)]⟩

theorem ok147:chkF Tryz.prog Tryz.f147 vf147=true:=by kernel_rfl

theorem dr147:drawsB vf147.body=true:=by kernel_rfl

def vf148v:List Nat:=[0,1,2,3,17]

def vf148c:VC:=.seq (.rg [V 1 (.box (.t 0)),
V 2 (.mv (.k (.c .ns)))]) (.seq (.block 0 (.seq (.rg [V 4 (.fad 0 (.t 1)),
V 5 (.ld none (.t 4)),
V 6 (.call 48 [(.t 5)]),
V 7 (.mv (.t 6)),
Vg 8 7 false (.fad 0 (.t 1)),
Vg 9 7 false (.ld none (.t 8)),
Vg 10 7 false (.bin .eq (.t 9) (.k (.c (.i 22)))),
V 11 (.pick (.t 7) (.k (.c (.b true))) (.t 10)),
V 3 (.mv (.t 11))]) (.cond (.t 3) (.seq (.rg [V 12 (.fad 2 (.t 1)),
V 13 (.ld none (.t 12)),
V 14 (.fad 3 (.t 1)),
V 15 (.ld none (.t 14)),
V 16 (.bsl 1 [.i 0] 2 [(0,1,(.t 13)),(1,1,(.t 15))]),
V 2 (.mv (.t 16))]) (.ret)) (.seq (.rg [V 18 (.fad 0 (.t 1)),
V 19 (.ld none (.t 18)),
V 20 (.bin .eq (.t 19) (.k (.c (.i 21)))),
V 21 (.mv (.t 20)),
Vg 22 21 false (.fad 0 (.t 1)),
Vg 23 21 false (.ld none (.t 22)),
Vg 24 21 false (.bin .eq (.t 23) (.k (.c (.i 23)))),
V 25 (.pick (.t 21) (.k (.c (.b true))) (.t 24)),
V 26 (.mv (.t 25)),
Vg 27 26 false (.fad 0 (.t 1)),
Vg 28 26 false (.ld none (.t 27)),
Vg 29 26 false (.bin .eq (.t 28) (.k (.c (.i 25)))),
V 30 (.pick (.t 26) (.k (.c (.b true))) (.t 29)),
V 17 (.mv (.t 30))]) (.cond (.t 17) (.seq (.rg [V 31 (.fad 2 (.t 1)),
V 32 (.ld none (.t 31)),
V 33 (.bsl 1 [.i 0] 1 [(0,1,(.t 32))]),
V 2 (.mv (.t 33))]) (.ret)) (.skip)))))) (.seq (.rg [V 34 (.bsl 1 [.i 0] 0 []),
V 2 (.mv (.t 34))]) (.ret)))

def vf148:VF:=⟨vf148c,vf148v,[(2,none)]⟩

theorem ok148:chkF Tryz.prog Tryz.f148 vf148=true:=by kernel_rfl

theorem dr148:drawsB vf148.body=true:=by kernel_rfl

def vf149v:List Nat:=[0,1,2,3,4,5,10,11,12,21]

def vf149c:VC:=.seq (.rg [V 5 (.box (.t 0)),
V 10 (.mv (.k (.c (.b false))))]) (.seq (.rg [V 14 (.ld (some 2) (.t 5)),
V 15 (.mv (.t 2)),
V 16 (.call 190 [(.t 14),(.t 15)]),
V 13 (.mv (.t 16)),
V 17 (.ext 0 (.t 13)),
V 18 (.ext 1 (.t 13)),
V 11 (.mv (.t 17)),
V 12 (.mv (.t 18))]) (.seq (.seq (.rg [V 19 (.mv (.t 11)),
V 20 (.mv (.t 3)),
V 21 (.bin .eq (.t 19) (.t 20))]) (.cond (.t 21) (.seq (.rg [V 22 (.mv (.t 12)),
V 23 (.mv (.t 4)),
V 24 (.bin .lt (.t 22) (.t 23)),
V 10 (.mv (.t 24))]) (.ret)) (.skip))) (.seq (.rg [V 25 (.mv (.t 11)),
V 26 (.bin .ge (.t 25) (.k (.c (.i 0)))),
V 27 (.mv (.t 26)),
Vg 28 27 true (.mv (.t 1)),
Vg 29 27 true (.mv (.t 3)),
Vg 30 27 true (.idx 1 (.t 28) (.t 29)),
Vg 31 27 true (.ld none (.t 30)),
Vg 32 27 true (.mv (.t 11)),
Vg 33 27 true (.call 146 [(.t 31),(.t 32)]),
V 34 (.pick (.t 27) (.t 33) (.k (.c (.b false)))),
V 10 (.mv (.t 34))]) (.ret))))

def vf149:VF:=⟨vf149c,vf149v,[(10,none)]⟩

theorem ok149:chkF Tryz.prog Tryz.f149 vf149=true:=by kernel_rfl

theorem dr149:drawsB vf149.body=true:=by kernel_rfl

def vf150v:List Nat:=[0,1,2,10]

def vf150c:VC:=.seq (.rg [V 1 (.box (.t 0)),
V 2 (.mv (.k (.c .ns)))]) (.seq (.seq (.rg [V 3 (.fad 0 (.t 1)),
V 4 (.ld none (.t 3)),
V 5 (.bin .eq (.t 4) (.k (.c (.i 2)))),
V 6 (.mv (.t 5)),
Vg 7 6 false (.fad 0 (.t 1)),
Vg 8 6 false (.ld none (.t 7)),
Vg 9 6 false (.bin .eq (.t 8) (.k (.c (.i 3)))),
V 10 (.pick (.t 6) (.k (.c (.b true))) (.t 9))]) (.cond (.t 10) (.seq (.rg [V 11 (.fad 1 (.t 1)),
V 12 (.ld none (.t 11)),
V 13 (.bsl 1 [.i 0] 1 [(0,1,(.t 12))]),
V 2 (.mv (.t 13))]) (.ret)) (.skip))) (.seq (.rg [V 14 (.bsl 1 [.i 0] 0 []),
V 2 (.mv (.t 14))]) (.ret)))

def vf150:VF:=⟨vf150c,vf150v,[(2,none)]⟩

theorem ok150:chkF Tryz.prog Tryz.f150 vf150=true:=by kernel_rfl

theorem dr150:drawsB vf150.body=true:=by kernel_rfl

def vf152v:List Nat:=[0,1,2,6,7]

def vf152c:VC:=.seq (.rg [V 6 (.mv (.k (.c (.b false))))]) (.seq (.seq (.rg [V 7 (.mv (.t 1))]) (.cond (.t 7) (.seq (.rg [V 8 (.mv (.t 0)),
V 9 (.bin .ge (.t 8) (.k (.c (.i 0)))),
V 10 (.mv (.t 9)),
Vg 11 10 true (.mv (.t 0)),
Vg 12 10 true (.mv (.t 2)),
Vg 13 10 true (.bin .lt (.t 11) (.t 12)),
V 14 (.pick (.t 10) (.t 13) (.k (.c (.b false)))),
V 6 (.mv (.t 14))]) (.ret)) (.skip))) (.seq (.rg [V 15 (.mv (.t 0)),
V 16 (.bin .eq (.t 15) (.k (.c (.i 0)))),
V 6 (.mv (.t 16))]) (.ret)))

def vf152:VF:=⟨vf152c,vf152v,[(6,none)]⟩

theorem ok152:chkF Tryz.prog Tryz.f152 vf152=true:=by kernel_rfl

theorem dr152:drawsB vf152.body=true:=by kernel_rfl

def vf153v:List Nat:=[0,1,4]

def vf153c:VC:=.seq (.rg [V 4 (.mv (.k (.c (.b false))))]) (.seq (.rg [V 5 (.mv (.t 0)),
V 6 (.mv (.t 1)),
V 7 (.call 191 [(.t 5),(.t 6)]),
V 8 (.bin .ge (.t 7) (.k (.c (.i 0)))),
V 4 (.mv (.t 8))]) (.ret))

def vf153:VF:=⟨vf153c,vf153v,[(4,none)]⟩

theorem ok153:chkF Tryz.prog Tryz.f153 vf153=true:=by kernel_rfl

theorem dr153:drawsB vf153.body=true:=by kernel_rfl

def vf154v:List Nat:=[0,1,2,3]

def vf154c:VC:=.seq (.rg [V 2 (.box (.t 0)),
V 3 (.mv (.k (.c (.b false))))]) (.seq (.rg [V 4 (.fad 0 (.t 2)),
V 5 (.ld none (.t 4)),
V 6 (.fad 0 (.t 1)),
V 7 (.ld none (.t 6)),
V 8 (.bin .eq (.t 5) (.t 7)),
V 3 (.mv (.t 8))]) (.ret))

def vf154:VF:=⟨vf154c,vf154v,[(3,none)]⟩

theorem ok154:chkF Tryz.prog Tryz.f154 vf154=true:=by kernel_rfl

theorem dr154:drawsB vf154.body=true:=by kernel_rfl
end Go.Proofs.YtiecgmmaihckeaaGreat.Vm
