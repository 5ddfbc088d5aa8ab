import Derived.Test.YtcaokpglbolkcaaGreatNfD
import Derived.Below
import Derived.Deep.Draws
import Derived.Laws.AppendOwn
import Derived.Laws.MakeOwn
namespace Go.Nf
open Go Go.RowKit
/-! ### Blocks of cells -/
def Row (w:World) (b:Nat) (T:TypeId) (l:List Value):Prop:=w.heap[b]?=some (.cells l.toArray T (0,0))
theorem Row.lt {w:World} {b:Nat} {T:TypeId} {l:List Value} (h:Row w b T l):b<hs w:=by
 rcases Nat.lt_or_ge b w.heap.size with hb | hb
 ·exact hb
 ·unfold Row at h;rw [Array.getElem?_eq_none hb] at h;cases h
theorem Row.cell {w:World} {b:Nat} {T:TypeId} {l:List Value} {o:Nat} {v:Value} (h:Row w b T l) (hv:l[o]?=some v):w.cell? ⟨b,o,none⟩=some v:=by
 unfold Row at h
 simp only [World.cell?,h]
 simpa using hv
theorem Row.cellAdd {w:World} {b:Nat} {T:TypeId} {l:List Value} {o:Nat} {v:Value} (h:Row w b T l) (hv:l[o]?=some v):w.cell? ((⟨b,0,none⟩:Addr).add o)=some v:=by
 rw [Addr.add_lit]
 exact h.cell (by simpa using hv)
theorem Row.cellAdd2 {w:World} {b:Nat} {T:TypeId} {l:List Value} {o k:Nat} {v:Value} (h:Row w b T l) (hv:l[o+k]?=some v):w.cell? (((⟨b,0,none⟩:Addr).add o).add k)=some v:=by
 rw [Addr.add_lit,Addr.add_lit]
 exact h.cell (by simpa using hv)
theorem Row.inj {w:World} {b:Nat} {T T':TypeId} {l l':List Value} (h:Row w b T l) (h':Row w b T' l'):l=l'/\T=T':=by
 unfold Row at h h'
 rw [h] at h'
 simp only [Option.some.injEq,Obj.cells.injEq] at h'
 exact ⟨by simpa using h'.1,h'.2.1⟩
theorem Row.there {w:World} {b:Nat} {T:TypeId} {l:List Value} {o n:Nat} (h:Row w b T l) (ho:o+n<=l.length):There w ⟨b,o,none⟩ n:=fun i hi=>by
 rw [Addr.add_lit]
 refine ⟨⟨l[o+i]'(by omega),h.cell (by simp)⟩,?_⟩
 unfold Row at h
 simp [World.frozen?,h]
theorem Row.thereAdd {w:World} {b:Nat} {T:TypeId} {l:List Value} {o n:Nat} (h:Row w b T l) (ho:o+n<=l.length):There w ((⟨b,0,none⟩:Addr).add o) n:=by
 rw [Addr.add_lit]
 exact h.there (by omega)
theorem Row.new {w w1:World} {T:TypeId} {l:List Value} (e:w1=w.alloc (.cells l.toArray T (0,0))):Row w1 (hs w) T l:=by
 subst e
 show (w.heap.push _)[w.heap.size]?=_
 simp
theorem hs_alloc {w w1:World} {o:Obj} (e:w1=w.alloc o):hs w1=hs w+1:=by subst e;simp [hs]
theorem hs_drew {w w1:World} (e:w1=w.drew):hs w1=hs w:=by subst e;rfl
/-! ### What a step leaves alone -/
structure Only (S:Nat->Prop) (w w':World):Prop where
 os:w'.os=w.os
 tape:w'.tape=w.tape
 output:w'.output=w.output
 size:hs w<=hs w'
 block:∀ k,k<hs w->¬S k->w'.heap[k]?=w.heap[k]?
theorem Only.refl (S:Nat->Prop) (w:World):Only S w w:=⟨rfl,rfl,rfl,Nat.le_refl _,fun _ _ _=>rfl⟩
theorem Only.trans {S S':Nat->Prop} {a b c:World} (h:Only S a b) (k:Only S' b c) (hS:∀ i,i<hs a->S' i->S i):Only S a c:=
 ⟨k.os.trans h.os,k.tape.trans h.tape,k.output.trans h.output,Nat.le_trans h.size k.size,fun i hi hn=>(k.block i (Nat.lt_of_lt_of_le hi h.size) (fun h'=>hn (hS i hi h'))).trans (h.block i hi hn)⟩
theorem Only.trans' {S:Nat->Prop} {a b c:World} (h:Only S a b) (k:Only S b c):Only S a c:=h.trans k fun _ _ h=>h
theorem Only.mono {S S':Nat->Prop} {a b:World} (h:Only S a b) (hS:∀ i,i<hs a->S i->S' i):Only S' a b:=
 ⟨h.os,h.tape,h.output,h.size,fun i hi hn=>h.block i hi fun h'=>hn (hS i hi h')⟩
abbrev none':Nat->Prop:=fun _=>False
abbrev Grow (w w':World):Prop:=Only none' w w'
theorem Only.grow {S:Nat->Prop} {a b c:World} (h:Only S a b) (k:Grow b c):Only S a c:=h.trans k fun _ _ h=>h.elim
theorem Grow.only {S:Nat->Prop} {a b:World} (h:Grow a b):Only S a b:=h.mono fun _ _ h=>h.elim
theorem Only.toGrow {S:Nat->Prop} {a b:World} (h:Only S a b) (hS:∀ i,S i->hs a<=i):Grow a b:=h.mono fun i hi h'=>by have:=hS i h';omega
theorem Only.below {S:Nat->Prop} {a b:World} {B:Nat} (h:Only S a b) (hB:B<=hs a) (hS:∀ i,S i->B<=i):Below B a b:=
 ⟨h.os,h.tape,h.output,h.size,fun i hi=>h.block i (Nat.lt_of_lt_of_le hi hB) fun h'=>by have:=hS i h';omega⟩
theorem grow_below {a b:World} (h:Grow a b):Below a.heap.size a b:=h.below (Nat.le_refl _) fun _ h=>h.elim
theorem only_alloc {S:Nat->Prop} {w w1:World} {o:Obj} (e:w1=w.alloc o):Only S w w1:=by
 subst e
 exact ⟨rfl,rfl,rfl,by simp [hs],fun k hk _=>Below.heap_alloc w o k hk⟩
theorem only_drew {S:Nat->Prop} {w w1:World} (e:w1=w.drew):Only S w w1:=by
 subst e
 exact ⟨rfl,rfl,rfl,Nat.le_refl _,fun k hk _=>rfl⟩
theorem setCells_facts (a:Addr):∀ (l:List Value) (i:Nat) (w:World),(setCells w a l i).os=w.os/\(setCells w a l i).tape=w.tape/\(setCells w a l i).output=w.output/\(setCells w a l i).heap.size=w.heap.size/\∀ k,k≠a.block->(setCells w a l i).heap[k]?=w.heap[k]?
 | [],_,_=>⟨rfl,rfl,rfl,rfl,fun _ _=>rfl⟩
 | v::l,i,w=>by
  obtain ⟨h1,h2,h3,h4,h5⟩:=setCells_facts a l (i+1) (w.setCell (a.add i) v)
  refine ⟨h1,h2,h3,by rw [setCells,h4];simp,fun k hk=>?_⟩
  rw [setCells,h5 k hk]
  refine Below.heap_setCell w _ v k ?_
  unfold Addr.add
  split <;> exact hk
theorem only_set {w w1:World} {b o:Nat} {l:List Value} (e:w1=setCells w ⟨b,o,none⟩ l 0):Only (fun k=>k=b) w w1:=by
 subst e
 obtain ⟨h1,h2,h3,h4,h5⟩:=setCells_facts ⟨b,o,none⟩ l 0 w
 exact ⟨h1,h2,h3,by unfold hs;omega,fun k _ hk=>h5 k hk⟩
theorem only_setAdd {w w1:World} {b o:Nat} {l:List Value} (e:w1=setCells w ((⟨b,0,none⟩:Addr).add o) l 0):Only (fun k=>k=b) w w1:=by
 rw [Addr.add_lit] at e
 exact only_set e
theorem Row.keep {w w':World} {b:Nat} {T:TypeId} {l:List Value} {S:Nat->Prop} (h:Row w b T l) (o:Only S w w') (hb:¬S b):Row w' b T l:=by
 have hl:=h.lt
 unfold Row at*
 rw [o.block b hl hb]
 exact h
theorem Row.grow {w w':World} {b:Nat} {T:TypeId} {l:List Value} (h:Row w b T l) (o:Grow w w'):Row w' b T l:=h.keep o fun h=>h
theorem set_toArray_step {w:World} {b:Nat} {T:TypeId} {l:List Value} (h:Row w b T l) (o:Nat) (v:Value):Row (w.setCell ⟨b,o,none⟩ v) b T (l.set o v):=by
 unfold Row at*
 simp only [World.setCell,Array.getElem?_modify,if_true,h,Option.map_some]
 simp
theorem row_setCells {b o:Nat} {T:TypeId}:∀ (vs:List Value) (i:Nat) (l:List Value) (w:World),Row w b T l->Row (setCells w ⟨b,o,none⟩ vs i) b T (setFrom l (o+i) vs)
 | [],_,_,_,h=>h
 | v::vs,i,l,w,h=>by
  rw [setCells,Addr.add_lit,setFrom]
  have:=row_setCells (o:=o) vs (i+1) _ _ (set_toArray_step h (o+i) v)
  rw [<- Nat.add_assoc] at this
  exact this
theorem Row.set {w w1:World} {b o:Nat} {T:TypeId} {l vs:List Value} (h:Row w b T l) (e:w1=setCells w ⟨b,o,none⟩ vs 0):Row w1 b T (setFrom l o vs):=by
 subst e
 exact row_setCells vs 0 l w h
theorem Row.setAdd {w w1:World} {b o:Nat} {T:TypeId} {l vs:List Value} (h:Row w b T l) (e:w1=setCells w ((⟨b,0,none⟩:Addr).add o) vs 0):Row w1 b T (setFrom l o vs):=by
 rw [Addr.add_lit,Nat.zero_add] at e
 exact h.set e
theorem kept_only {S:Nat->Prop} {w w':World} {b o n:Nat} (h:Only S w w') (hb:b<hs w) (hn:¬S b):Kept w w' ⟨b,o,none⟩ n:=fun i _=>by
 rw [Addr.add_lit]
 exact World.cell?_of_block (h.block b hb hn)
theorem kept_same {w w':World} {a:Addr} {n:Nat} (h:w'.heap=w.heap):Kept w w' a n:=fun i _=>by
 exact World.cell?_of_block (by rw [h])
/-! ### Slices that a call owns -/
abbrev Own (w:World) (B:Nat) (T size:Nat) (o:Option Addr) (n c:Nat) (xs:List Value):Prop:=w.ownsRow B T size (.slice o n c) n xs
def inBlock (o:Option Addr) (k:Nat):Prop:=∃ a,o=some a/\a.block=k
theorem Own.keep {S:Nat->Prop} {w w':World} {B T size:Nat} {o:Option Addr} {n c:Nat} {xs:List Value} (h:Own w B T size o n c xs) (k:Only S w w') (hS:∀ b,inBlock o b->¬S b):Own w' B T size o n c xs:=by
 obtain ⟨h1,h2⟩:=h
 refine ⟨h1,?_⟩
 rcases h2 with h2 | ⟨g,cap,cur,hv,hb,hg,r⟩
 ·exact .inl h2
 ·refine .inr ⟨g,cap,cur,hv,hb,?_,r⟩
  simp only [Value.slice.injEq] at hv
  rw [k.block g ?_ (hS g ⟨_,hv.1,rfl⟩)]
  ·exact hg
  ·rcases Nat.lt_or_ge g w.heap.size with hgl | hgl
   ·exact hgl
   ·rw [Array.getElem?_eq_none hgl] at hg;cases hg
theorem Own.grow {w w':World} {B T size:Nat} {o:Option Addr} {n c:Nat} {xs:List Value} (h:Own w B T size o n c xs) (k:Grow w w'):Own w' B T size o n c xs:=h.keep k fun _ _ h=>h
theorem Own.base {w:World} {B T size:Nat} {o:Option Addr} {n c:Nat} {xs:List Value} (h:Own w B T size o n c xs):∀ b,inBlock o b->B<=b/\b<hs w:=by
 rintro b ⟨a,rfl,rfl⟩
 obtain ⟨_,h2⟩:=h
 rcases h2 with ⟨h2,_⟩ | ⟨g,cap,cur,hv,hb,hg,_⟩
 ·cases h2
 ·simp only [Value.slice.injEq,Option.some.injEq] at hv
  obtain ⟨rfl,_⟩:=hv
  refine ⟨hb,?_⟩
  rcases Nat.lt_or_ge g w.heap.size with hgl | hgl
  ·exact hgl
  ·rw [Array.getElem?_eq_none hgl] at hg;cases hg
theorem Own.length {w:World} {B T size:Nat} {o:Option Addr} {n c:Nat} {xs:List Value} (h:Own w B T size o n c xs):xs.length=n*size:=h.1
theorem Own.head {w:World} {B T size:Nat} {o:Option Addr} {n c:Nat} {xs:List Value} (h:Own w B T size o n c xs) (hn:0<n):∃ g l,o=some ⟨g,0,none⟩/\Row w g T l/\l.take (n*size)=xs/\n*size<=l.length/\B<=g:=by
 obtain ⟨h1,h2⟩:=h
 rcases h2 with ⟨_,h2⟩ | ⟨g,cap,cur,hv,hb,hg,hnc,hm,hcs,ht⟩
 ·omega
 ·simp only [Value.slice.injEq] at hv
  refine ⟨g,cur.toList,hv.1,hg,ht,?_,hb⟩
  have:=Nat.mul_le_mul_right size hnc
  simp only [Array.length_toList]
  omega
theorem own_nil (w:World) (B T size:Nat):Own w B T size none 0 0 []:=World.ownsRow_nil w B T size
theorem Own.mono {w:World} {B B' T size:Nat} {o:Option Addr} {n c:Nat} {xs:List Value} (h:Own w B T size o n c xs) (hb:B'<=B):Own w B' T size o n c xs:=by
 obtain ⟨h1,h2⟩:=h
 refine ⟨h1,?_⟩
 rcases h2 with h2 | ⟨g,cap,cur,hv,hg,r⟩
 ·exact .inl h2
 ·exact .inr ⟨g,cap,cur,hv,Nat.le_trans hb hg,r⟩
theorem Row.own {w:World} {b B T size n:Nat} {l:List Value} (h:Row w b T l) (hB:B<=b) (hl:l.length=n*size) (hm:n<=maxLen):Own w B T size (some ⟨b,0,none⟩) n n l:=
 ⟨hl,.inr ⟨b,n,l.toArray,rfl,hB,h,Nat.le_refl _,hm,by simpa using hl,by rw [<- hl];simp⟩⟩
theorem grownBy_only {w w':World} {o:Option Addr} {n c:Nat} (h:w.grownBy w' (Value.slice o n c).ownBlock):Only (inBlock o) w w':=
 ⟨h.os,h.tape,h.output,h.size,fun k hk hn=>h.block k hk fun e=>hn (by
  unfold Value.ownBlock at e
  split at e
  ·rename_i a _ _ hv
   simp only [Value.slice.injEq] at hv
   simp only [Option.some.injEq] at e
   exact ⟨a,hv.1,e.symm⟩
  ·cases e)⟩
structure Elem (P:Program) (t T size bytes:Nat):Prop where
 ex:∃ (i:TypeInfo) (z:Value),P.underlying t=some (.slice T)/\P.info? T=some i/\i.zero=some z/\i.size=size/\i.bytes=bytes/\z.cells.size=size/\0<size
theorem run_append {P:Program} {w:World} {B t ty T size bytes:Nat} {o:Option Addr} {n c:Nat} {xs:List Value} {a:Addr} {m cx:Nat} {news:List Value} {K:Value->World->Prop}
  (he:Elem P t T size bytes) (hown:Own w B T size o n c xs) (hl:news.length=m*size) (hnews:∀ j u,news[j]?=some u->w.cell? (a.add j)=some u) (h1:∀ u∈news,u.oneCell'=true)
  (h63:n+m<=maxLen) (hbytes:(n+m)*bytes<=140737488355328) (hbase:B<=hs w)
  (h:∀ o' c' w',Own w' B T size o' (n+m) c' (xs++news)->Only (inBlock o) w w'->(o'=none↔o=none/\m=0)->K (.slice o' (n+m) c') w'):
  RunOk P (Hold (Builtin.append_ #[t,t] ty #[.slice o n c,.slice (some a) m cx])) w K:=by
 obtain ⟨i,z,ht,hi,hz,hsize,hby,hzs,hsz⟩:=he.ex
 obtain ⟨v',w',hr,h2,h3,h4⟩:=run_append_own (P:=P) w B t ty T i z size bytes ht hi hz hsize hby hzs hsz _ n xs hown a m cx news hl hnews h1 h63 hbytes hbase
 have hv:∃ o' c',v'=.slice o' (n+m) c':=by
  rcases h2.2 with ⟨e,e2⟩ | ⟨g,cap,cur,e,_⟩
  ·exact ⟨none,0,by rw [e,e2]⟩
  ·exact ⟨_,_,e⟩
 obtain ⟨o',c',rfl⟩:=hv
 refine ⟨_,w',hr,h o' c' w' h2 (grownBy_only h3) ?_⟩
 constructor
 ·rintro rfl
  rcases h2.2 with ⟨e,e2⟩ | ⟨g,cap,cur,e,_⟩
  ·have:=(h4.1 e)
   simp only [Value.slice.injEq] at this
   exact ⟨this.1.1,this.2⟩
  ·cases e
 ·rintro ⟨rfl,rfl⟩
  have hn:n=0/\c=0:=by
   rcases hown.2 with ⟨e,_⟩ | ⟨g,cap,cur,e,_⟩
   ·simp only [Value.slice.injEq] at e;exact e.2
   ·cases e
  have:=h4.2 ⟨by rw [hn.1,hn.2],rfl⟩
  simp only [Value.slice.injEq] at this
  exact this.1
/-! ### Rows of records -/
theorem setFrom_left:∀ (vs a b:List Value) (o:Nat),o+vs.length<=a.length->setFrom (a++b) o vs=setFrom a o vs++b
 | [],_,_,_,_=>rfl
 | v::vs,a,b,o,h=>by
  simp only [List.length_cons] at h
  rw [setFrom,setFrom,List.set_append_left _ _ (by omega),setFrom_left vs _ b (o+1) (by simp;omega)]
theorem setFrom_right:∀ (vs a b:List Value) (o:Nat),setFrom (a++b) (a.length+o) vs=a++setFrom b o vs
 | [],_,_,_=>rfl
 | v::vs,a,b,o=>by
  rw [setFrom,setFrom,List.set_append_right _ _ (by omega),show a.length+o - a.length=o from by omega]
  have:=setFrom_right vs a (b.set o v) (o+1)
  rw [<- Nat.add_assoc] at this
  exact this
theorem setFrom_all:∀ (vs b:List Value),vs.length=b.length->setFrom b 0 vs=vs:=by
 have key:∀ (vs a b:List Value),vs.length=b.length->setFrom (a++b) a.length vs=a++vs:=by
  intro vs
  induction vs with
  | nil=>intro a b h;cases b with
   | nil=>rfl
   | cons=>simp at h
  | cons v vs ih=>
   intro a b h
   cases b with
   | nil=>simp at h
   | cons u b=>
    rw [setFrom,List.set_append_right _ _ (by omega),Nat.sub_self,List.set_cons_zero]
    have:=ih (a++[v]) b (by simpa using h)
    simp only [List.length_append,List.length_cons,List.length_nil,Nat.zero_add,List.append_assoc,List.cons_append,List.nil_append] at this
    exact this
 intro vs b h
 exact key vs [] b h
section
variable {α:Type} {f:α->List Value} {k:Nat} (hk:∀ m,(f m).length=k)
include hk
theorem flat_length (l:List α):(l.flatMap f).length=l.length*k:=by
 induction l with
 | nil=>simp
 | cons m l ih=>rw [List.flatMap_cons,List.length_append,hk,ih,List.length_cons,Nat.succ_mul];omega
theorem flat_get:∀ (l:List α) (i j:Nat),j<k->(l.flatMap f)[i*k+j]?=(l[i]?).bind fun m=>(f m)[j]?
 | [],_,_,_=>by simp
 | m::l,0,j,hj=>by
  rw [List.flatMap_cons,Nat.zero_mul,Nat.zero_add,List.getElem?_append_left (by rw [hk];exact hj)]
  simp
 | m::l,i+1,j,hj=>by
  rw [List.flatMap_cons,List.getElem?_append_right (by rw [hk,Nat.succ_mul];omega),hk,show (i+1)*k+j - k=i*k+j from by rw [Nat.succ_mul];omega,flat_get l i j hj]
  simp
theorem flat_set:∀ (l:List α) (i j:Nat) (vs:List Value) (m':α) (hi:i<l.length),j+vs.length<=k->setFrom (f l[i]) j vs=f m'->setFrom (l.flatMap f) (i*k+j) vs=(l.set i m').flatMap f
 | [],_,_,_,_,hi,_,_=>absurd hi (by simp)
 | m::l,0,j,vs,m',_,hj,h=>by
  simp only [List.getElem_cons_zero] at h
  rw [List.flatMap_cons,Nat.zero_mul,Nat.zero_add,setFrom_left _ _ _ _ (by rw [hk];exact hj),h,List.set_cons_zero,List.flatMap_cons]
 | m::l,i+1,j,vs,m',hi,hj,h=>by
  simp only [List.getElem_cons_succ] at h
  have e:(i+1)*k+j=(f m).length+(i*k+j):=by rw [hk,Nat.succ_mul];omega
  rw [List.flatMap_cons,e,setFrom_right,flat_set l i j vs m' (by simpa using hi) hj h,List.set_cons_succ,List.flatMap_cons]
end
theorem made_eq (z:List Value) (hz:0<z.length):∀ (n:Nat),(madeCells z.toArray (n*z.length)).toList=(List.replicate n z).flatten:=by
 intro n
 apply List.ext_getElem?
 intro i
 have hz':z.length≠0:=by omega
 by_cases hi:i<n*z.length
 ·have h1:(madeCells z.toArray (n*z.length)).toList[i]?=z[i % z.length]?:=by
   simp only [madeCells,Array.toList_map,Array.toList_range,List.getElem?_map,List.getElem?_range hi,Option.map_some]
   have hlt:=Nat.mod_lt i hz
   simp [hlt]
  rw [h1]
  have h2:=flat_get (f:=fun (_:Unit)=>z) (k:=z.length) (fun _=>rfl) (List.replicate n ()) (i / z.length) (i % z.length) (Nat.mod_lt i hz)
  rw [Nat.mul_comm,Nat.div_add_mod] at h2
  have e:(List.replicate n ()).flatMap (fun _=>z)=(List.replicate n z).flatten:=by
   rw [List.flatMap_def,List.map_replicate]
  rw [e] at h2
  rw [h2,List.getElem?_replicate,if_pos (by rw [Nat.div_lt_iff_lt_mul hz];exact hi)]
  simp
 ·rw [List.getElem?_eq_none,List.getElem?_eq_none]
  ·simp [List.length_flatten];omega
  ·simp [madeCells];omega
theorem run_make_row {P:Program} {w:World} {t T size bytes:Nat} {zl:List Value} {kl kc:IntKind} {l c:Int} {K:Value->World->Prop} (he:Elem P t T size bytes) (hz:zeroL P T=some zl) (h0:0<=l) (hlc:l<=c) (hbytes:(bytes:Int)*c<=281474976710656) (h63:c<=9223372036854775807)
  (h:∀ w1,w1=w.alloc (.cells ((List.replicate c.toNat zl).flatten).toArray T (0,0))->K (.slice (some ⟨hs w,0,none⟩) l.toNat c.toNat) w1):
  RunOk P (Hold (Instr.makeSlice t (.int kl l) (.int kc c))) w K:=by
 obtain ⟨i,z,ht,hi,hzz,hsize,hby,hzs,hsz⟩:=he.ex
 have hr:=run_make (P:=P) w t T i z ht hi hzz kl kc l c h0 hlc (by rw [hby];exact hbytes) h63
 have hzl:z.cells.toList=zl:=by
  unfold zeroL at hz
  rw [hi] at hz
  simp only [Option.bind_some,hzz,Option.map_some,Option.some.injEq] at hz
  exact hz
 refine ⟨_,_,hr,h _ ?_⟩
 have:=made_eq zl (by rw [<- hzl];simp;omega) c.toNat
 rw [<- this,<- hzl,hsize,<- hzs]
 simp
def elemB (P:Program) (t T size bytes:Nat):Bool:=
 match P.underlying t,P.info? T with
 | some (.slice e),some i=>Nat.beq e T && Nat.beq i.size size && Nat.beq i.bytes bytes && Nat.blt 0 size && (match i.zero with
  | some z=>Nat.beq z.cells.toList.length size
  | none=>false)
 | _,_=>false
theorem elem_of {P:Program} {t T size bytes:Nat} (h:elemB P t T size bytes=true):Elem P t T size bytes:=by
 unfold elemB at h
 split at h
 ·rename_i e i hu hi
  simp only [Bool.and_eq_true] at h
  obtain ⟨⟨⟨⟨h1,h2⟩,h3⟩,h4⟩,h5⟩:=h
  split at h5
  ·rename_i z hz
   obtain rfl:=Nat.eq_of_beq_eq_true h1
   exact ⟨⟨i,z,hu,hi,hz,Nat.eq_of_beq_eq_true h2,Nat.eq_of_beq_eq_true h3,by simpa using Nat.eq_of_beq_eq_true h5,by simpa [Nat.blt_eq] using h4⟩⟩
  ·cases h5
 ·cases h
theorem get_of_take {l xs:List Value} {k j:Nat} {v:Value} (h:l.take k=xs) (hj:xs[j]?=some v):l[j]?=some v:=by
 subst h
 rw [List.getElem?_take] at hj
 split at hj
 ·exact hj
 ·cases hj
theorem setFrom_take:∀ (vs l:List Value) (o k:Nat),o+vs.length<=k->(setFrom l o vs).take k=setFrom (l.take k) o vs
 | [],_,_,_,_=>rfl
 | v::vs,l,o,k,h=>by
  simp only [List.length_cons] at h
  rw [setFrom,setFrom,setFrom_take vs _ (o+1) k (by omega),List.take_set]
theorem Own.cell {w:World} {B T size:Nat} {g n c:Nat} {xs:List Value} {j:Nat} {v:Value} (h:Own w B T size (some ⟨g,0,none⟩) n c xs) (hj:xs[j]?=some v):w.cell? ((⟨g,0,none⟩:Addr).add j)=some v:=by
 obtain ⟨h1,h2⟩:=h
 rcases h2 with ⟨h2,_⟩ | ⟨g',cap,cur,hv,hb,hg,hnc,hm,hcs,ht⟩
 ·cases h2
 ·simp only [Value.slice.injEq,Option.some.injEq,Addr.mk.injEq] at hv
  obtain ⟨⟨rfl,_⟩,_⟩:=hv
  exact Row.cellAdd (l:=cur.toList) hg (get_of_take ht hj)
theorem Own.cell2 {w:World} {B T size:Nat} {g n c:Nat} {xs:List Value} {j k:Nat} {v:Value} (h:Own w B T size (some ⟨g,0,none⟩) n c xs) (hj:xs[j+k]?=some v):w.cell? (((⟨g,0,none⟩:Addr).add j).add k)=some v:=by
 have:=h.cell hj
 rw [Addr.add_lit] at this
 rw [Addr.add_lit,Addr.add_lit]
 rw [<- Nat.add_assoc] at this
 exact this
theorem Own.there {w:World} {B T size:Nat} {g n c:Nat} {xs:List Value} {j m:Nat} (h:Own w B T size (some ⟨g,0,none⟩) n c xs) (hj:j+m<=n*size):There w ((⟨g,0,none⟩:Addr).add j) m:=by
 obtain ⟨h1,h2⟩:=h
 rcases h2 with ⟨h2,_⟩ | ⟨g',cap,cur,hv,hb,hg,hnc,hm,hcs,ht⟩
 ·cases h2
 ·simp only [Value.slice.injEq,Option.some.injEq,Addr.mk.injEq] at hv
  obtain ⟨⟨rfl,_⟩,_⟩:=hv
  refine Row.thereAdd (l:=cur.toList) hg ?_
  have:=Nat.mul_le_mul_right size hnc
  simp only [Array.length_toList]
  omega
theorem Own.set {w w1:World} {B T size:Nat} {g n c:Nat} {xs vs:List Value} {j:Nat} (h:Own w B T size (some ⟨g,0,none⟩) n c xs) (e:w1=setCells w ((⟨g,0,none⟩:Addr).add j) vs 0) (hj:j+vs.length<=n*size):Own w1 B T size (some ⟨g,0,none⟩) n c (setFrom xs j vs):=by
 obtain ⟨h1,h2⟩:=h
 refine ⟨by rw [setFrom_length];exact h1,?_⟩
 rcases h2 with ⟨h2,_⟩ | ⟨g',cap,cur,hv,hb,hg,hnc,hm,hcs,ht⟩
 ·cases h2
 ·have hv':=hv
  simp only [Value.slice.injEq,Option.some.injEq,Addr.mk.injEq] at hv'
  obtain ⟨⟨rfl,_⟩,_,rfl⟩:=hv'
  refine .inr ⟨g,c,(setFrom cur.toList j vs).toArray,rfl,hb,Row.setAdd (l:=cur.toList) hg e,hnc,hm,by simp [setFrom_length,hcs],?_⟩
  rw [<- ht]
  exact setFrom_take vs _ j _ hj
end Go.Nf
