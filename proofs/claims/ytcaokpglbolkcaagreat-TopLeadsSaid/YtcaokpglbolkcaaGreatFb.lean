import Derived.Test.YtcaokpglbolkcaaGreatFa
import Derived.Test.YtcaokpglbolkcaaGreatOg
import Derived.Test.YtcaokpglbolkcaaGreatNfX
namespace Go.Proofs.YtcaokpglbolkcaaGreat
open Go Go.Nf Go.RowKit Go.MapKept
structure Nd where
 p:Nat
 t:Nat
 N:Nat->Prop
 D:Nat->Prop
 s:PN
 k:Nat
def updN (nd:Nat->Nd) (i:Nat) (x:Nd):Nat->Nd:=fun j=>if j=i then x else nd j
theorem updN_self (nd:Nat->Nd) (i:Nat) (x:Nd):updN nd i x i=x:=if_pos rfl
theorem updN_ne (nd:Nat->Nd) {i j:Nat} (x:Nd) (h:j≠i):updN nd i x j=nd j:=if_neg h
structure Net (w:World) (B nn:Nat) (W E:Nat->Prop) (nd:Nat->Nd):Prop where
 node:∀ i,i<nn->NodeAt w (nd i).N (nd i).D (nd i).p (nd i).t (nd i).s false [] (nd i).k
 np:∀ i j,i<nn->j<nn->i≠j->∀ b,(nd i).N b->¬(nd j).N b/\¬(nd j).D b
 nz:∀ i,i<nn->∀ b,(nd i).N b->B<=b/\¬W b/\¬E b
 dz:∀ i,i<nn->∀ b,(nd i).D b->¬W b
 wz:∀ b,W b->B<=b/\b<hs w/\¬E b
 ez:∀ b,E b->b<hs w
section
variable {w w':World} {B nn:Nat} {W E:Nat->Prop} {nd:Nat->Nd}
theorem Net.grow (h:Net w B nn W E nd) (g:Grow w w'):Net w' B nn W E nd:=
 ⟨fun i hi=>(h.node i hi).grow g,h.np,h.nz,h.dz,fun b hb=>⟨(h.wz b hb).1,Nat.lt_of_lt_of_le (h.wz b hb).2.1 g.size,(h.wz b hb).2.2⟩,fun b hb=>Nat.lt_of_lt_of_le (h.ez b hb) g.size⟩
theorem Net.lt (h:Net w B nn W E nd) {i:Nat} (hi:i<nn):∀ b,(nd i).N b\/(nd i).D b->b<hs w:=(h.node i hi).lt
theorem Net.own {W':Nat->Prop} (h:Net w B nn W E nd) (o:Only W w w') (hW:∀ b,W' b->W b\/(B<=b/\hs w<=b/\b<hs w')):Net w' B nn W' E nd:=by
 have z:=o.size
 refine ⟨fun i hi=>(h.node i hi).keep o (fun b hb k=>(h.nz i hi b hb).2.1 k) (fun b hb k=>h.dz i hi b hb k),h.np,fun i hi b hb=>⟨(h.nz i hi b hb).1,fun k=>?_,(h.nz i hi b hb).2.2⟩,fun i hi b hb k=>?_,fun b hb=>?_,fun b hb=>Nat.lt_of_lt_of_le (h.ez b hb) z⟩
 ·rcases hW b k with k | k
  ·exact (h.nz i hi b hb).2.1 k
  ·have:=h.lt hi b (.inl hb);omega
 ·rcases hW b k with k | k
  ·exact h.dz i hi b hb k
  ·have:=h.lt hi b (.inr hb);omega
 ·rcases hW b hb with k | k
  ·have:=h.wz b k
   exact ⟨this.1,by omega,this.2.2⟩
  ·exact ⟨k.1,k.2.2,fun e=>by have:=h.ez b e;omega⟩
theorem Net.read {E':Nat->Prop} (h:Net w B nn W E nd) (hE:∀ b,E' b->E b\/(b<hs w/\¬W b/\∀ i,i<nn->¬(nd i).N b)):Net w B nn W E' nd:=
 ⟨h.node,h.np,fun i hi b hb=>⟨(h.nz i hi b hb).1,(h.nz i hi b hb).2.1,fun k=>(hE b k).elim (h.nz i hi b hb).2.2 fun k=>k.2.2 i hi hb⟩,h.dz,fun b hb=>⟨(h.wz b hb).1,(h.wz b hb).2.1,fun k=>(hE b k).elim (h.wz b hb).2.2 fun k=>k.2.1 hb⟩,fun b hb=>(hE b hb).elim (h.ez b) fun k=>k.1⟩
theorem Net.replace {i:Nat} {x:Nd} {A:Nat->Prop} (h:Net w B nn W E nd) (hi:i<nn) (hB:B<=hs w) (o:Only (nd i).N w w') (n:NodeAt w' x.N x.D x.p x.t x.s false [] x.k) (hN:∀ b,x.N b->(nd i).N b\/hs w<=b) (hD:∀ b,x.D b->(nd i).D b\/hs w<=b)
  (hA:∀ b,A b->¬x.N b/\b<hs w'/\((nd i).D b\/(nd i).N b\/hs w<=b)):Net w' B nn W (fun b=>E b\/A b) (updN nd i x):=by
 have z:=o.size
 have old:∀ j,j<nn->j≠i->NodeAt w' (nd j).N (nd j).D (nd j).p (nd j).t (nd j).s false [] (nd j).k:=fun j hj hji=>(h.node j hj).keep o (fun b hb k=>(h.np j i hj hi hji b hb).1 k) (fun b hb k=>(h.np i j hi hj (Ne.symm hji) b k).2 hb)
 refine ⟨fun j hj=>?_,fun a b' ha hb' hab b hb=>?_,fun j hj b hb=>?_,fun j hj b hb=>?_,fun b hb=>?_,fun b hb=>?_⟩
 ·by_cases e:j=i
  ·subst e;rw [updN_self];exact n
  ·rw [updN_ne nd x e];exact old j hj e
 ·by_cases ea:a=i
  ·subst ea
   rw [updN_self] at hb
   rw [updN_ne nd x (Ne.symm hab)]
   rcases hN b hb with k | k
   ·exact h.np a b' ha hb' hab b k
   ·exact ⟨fun e=>by have:=h.lt hb' b (.inl e);omega,fun e=>by have:=h.lt hb' b (.inr e);omega⟩
  ·rw [updN_ne nd x ea] at hb
   by_cases eb:b'=i
   ·subst eb
    rw [updN_self]
    have hl:=h.lt ha b (.inl hb)
    have:=h.np a b' ha hb' hab b hb
    exact ⟨fun e=>(hN b e).elim this.1 fun k=>by omega,fun e=>(hD b e).elim this.2 fun k=>by omega⟩
   ·rw [updN_ne nd x eb]
    exact h.np a b' ha hb' hab b hb
 ·by_cases e:j=i
  ·subst e
   rw [updN_self] at hb
   rcases hN b hb with k | k
   ·have:=h.nz j hj b k
    exact ⟨this.1,this.2.1,fun e=>e.elim this.2.2 fun e=>(hA b e).1 hb⟩
   ·exact ⟨by omega,fun e=>by have:=(h.wz b e).2.1;omega,fun e=>e.elim (fun e=>by have:=h.ez b e;omega) fun e=>(hA b e).1 hb⟩
  ·rw [updN_ne nd x e] at hb
   have:=h.nz j hj b hb
   refine ⟨this.1,this.2.1,fun k=>k.elim this.2.2 fun k=>?_⟩
   have hnp:=h.np j i hj hi e b hb
   have hl:=h.lt hj b (.inl hb)
   rcases (hA b k).2.2 with k | k | k
   ·exact hnp.2 k
   ·exact hnp.1 k
   ·omega
 ·by_cases e:j=i
  ·subst e
   rw [updN_self] at hb
   rcases hD b hb with k | k
   ·exact h.dz j hj b k
   ·exact fun e=>by have:=(h.wz b e).2.1;omega
  ·rw [updN_ne nd x e] at hb
   exact h.dz j hj b hb
 ·have:=h.wz b hb
  refine ⟨this.1,by omega,fun k=>k.elim this.2.2 fun k=>?_⟩
  rcases (hA b k).2.2 with k | k | k
  ·exact h.dz i hi b k hb
  ·exact (h.nz i hi b k).2.1 hb
  ·omega
 ·rcases hb with hb | hb
  ·have:=h.ez b hb;omega
  ·exact (hA b hb).2.1
theorem Net.calm (h:Net w B nn W E nd) {i:Nat} (hi:i<nn) (o:Only (nd i).N w w'):Only (fun b=>B<=b/\¬W b/\¬E b) w w':=o.mono fun b _ hb=>h.nz i hi b hb
theorem Net.did {i:Nat} {s':PN} {ms:List Msg} {kk:Nat} {o:Option Addr} {c:Nat} (h:Net w B nn W E nd) (hi:i<nn) (hB:B<=hs w) (hd:Did w (nd i).N (nd i).D (nd i).p (nd i).t s' ms kk o c w'):
  ∃ x E',Net w' B nn W E' (updN nd i x)/\x.p=(nd i).p/\x.t=(nd i).t/\x.s=s'/\x.k=kk/\(∀ b,E b->E' b)/\MsgsAt w' E' o ms/\ms.length<=c/\Only (fun b=>B<=b/\¬W b/\¬E b) w w':=by
 obtain ⟨N',D',A,n,mv,hm,hc,hA⟩:=hd
 exact ⟨⟨(nd i).p,(nd i).t,N',D',s',kk⟩,fun b=>E b\/A b,h.replace hi hB mv.o (x:=⟨(nd i).p,(nd i).t,N',D',s',kk⟩) n mv.n mv.d hA,rfl,rfl,rfl,rfl,fun b hb=>.inl hb,hm.mono fun b hb=>.inr hb,hc,h.calm hi mv.o⟩
/-! ### what flies -/
def FlyAt (w:World) (W E:Nat->Prop) (o:Option Addr) (n c:Nat) (ms:List Msg):Prop:=
 ∃ ps:List MP,ps.map (·.1)=ms/\n=ms.length/\Fly w 45 9 o n c (ps.flatMap msgV)/\(∀ x∈ps,Ents w E x.2.1 x.1.ents/\x.1.ents.length<=x.2.2)/\∀ b,inBlock o b->W b
theorem fly0 (w:World) (W E:Nat->Prop):FlyAt w W E none 0 0 []:=⟨[],rfl,rfl,fly_nil _ _ _,fun x hx=>(by cases hx),fun b ⟨a,ha,_⟩=>(by cases ha)⟩
theorem FlyAt.keep {S:Nat->Prop} {o:Option Addr} {n c:Nat} {ms:List Msg} (h:FlyAt w W E o n c ms) (g:Only S w w') (hS:∀ b,W b\/E b->¬S b):FlyAt w' W E o n c ms:=by
 obtain ⟨ps,h1,h2,h3,h4,h5⟩:=h
 exact ⟨ps,h1,h2,h3.keep g fun b hb=>hS b (.inl (h5 b hb)),fun x hx=>⟨(h4 x hx).1.keep g fun b hb=>hS b (.inr hb),(h4 x hx).2⟩,h5⟩
theorem FlyAt.keepB {S:Nat->Prop} {o:Option Addr} {n c:Nat} {ms:List Msg} (h:FlyAt w W E o n c ms) (g:Only S w w') (hS:∀ b,inBlock o b\/E b->¬S b):FlyAt w' W E o n c ms:=by
 obtain ⟨ps,h1,h2,h3,h4,h5⟩:=h
 exact ⟨ps,h1,h2,h3.keep g fun b hb=>hS b (.inl hb),fun x hx=>⟨(h4 x hx).1.keep g fun b hb=>hS b (.inr hb),(h4 x hx).2⟩,h5⟩
theorem FlyAt.mono {W' E':Nat->Prop} {o:Option Addr} {n c:Nat} {ms:List Msg} (h:FlyAt w W E o n c ms) (hW:∀ b,W b->W' b) (hE:∀ b,E b->E' b):FlyAt w W' E' o n c ms:=by
 obtain ⟨ps,h1,h2,h3,h4,h5⟩:=h
 exact ⟨ps,h1,h2,h3,fun x hx=>⟨(h4 x hx).1.mono hE,(h4 x hx).2⟩,fun b hb=>hW b (h5 b hb)⟩
theorem FlyAt.inW {o:Option Addr} {n c:Nat} {ms:List Msg} (h:FlyAt w W E o n c ms):∀ b,inBlock o b->W b:=by
 obtain ⟨ps,h1,h2,h3,h4,h5⟩:=h
 exact h5
theorem FlyAt.apart {o:Option Addr} {n c b T:Nat} {ms:List Msg} {l:List Value} (h:FlyAt w W E o n c ms) (r:Row w b T l) (hT:T≠45):¬inBlock o b:=fun hb=>by
 obtain ⟨ps,h1,h2,h3,h4,h5⟩:=h
 obtain ⟨l',r'⟩:=h3.row b hb
 exact hT (r.inj r').2
theorem FlyAt.grow {o:Option Addr} {n c:Nat} {ms:List Msg} (h:FlyAt w W E o n c ms) (g:Grow w w'):FlyAt w' W E o n c ms:=h.keep g fun _ _ h=>h
theorem flat_at {α:Type} {f:α->List Value} {k:Nat} (hf:∀ a,(f a).length=k) {l:List α} {j i:Nat} {a:α} {v:Value} (hj:l[j]?=some a) (hi:(f a)[i]?=some v):(l.flatMap f)[j*k+i]?=some v:=by
 have hil:=(List.getElem?_eq_some_iff.1 hi).1
 rw [hf] at hil
 rw [flat_get hf l j i hil,hj];exact hi
theorem FlyAt.at {o:Option Addr} {n c:Nat} {ms:List Msg} (h:FlyAt w W E o n c ms) {j:Nat} {m:Msg} (hj:ms[j]?=some m):
  ∃ a oe ce,o=some a/\w.cell? (a.add (j*9))=some (.int .i64 (m.kind:Int))/\(∀ i v,0<i->(msgV (m,(oe,ce)))[i]?=some v->w.cell? ((a.add (j*9)).add i)=some v)/\Ents w E oe m.ents/\m.ents.length<=ce:=by
 obtain ⟨ps,h1,h2,h3,h4,h5⟩:=h
 rw [<- h1,List.getElem?_map] at hj
 cases hp:ps[j]? with
 | none=>rw [hp] at hj;cases hj
 | some x=>
  rw [hp] at hj
  cases hj
  obtain ⟨m,oe,ce⟩:=x
  have h0:∀ i v,(msgV (m,(oe,ce)))[i]?=some v->(ps.flatMap msgV)[j*9+i]?=some v:=fun i v hv=>flat_at msgV_len hp hv
  obtain ⟨a,ha,hb,hc⟩:=h3.at (h0 0 _ rfl)
  refine ⟨a,oe,ce,ha,?_,fun i v _ hv=>?_,(h4 _ (List.mem_of_getElem? hp)).1,(h4 _ (List.mem_of_getElem? hp)).2⟩
  ·have:=hc _ _ (h0 0 _ rfl)
   rwa [Nat.add_zero] at this
  ·have:=hc _ _ (h0 i v hv)
   rwa [Addr.add_add]
theorem flat_drop {α:Type} {f:α->List Value} {k:Nat} (hf:∀ a,(f a).length=k) (l:List α) (j:Nat) (hj:j<=l.length):(l.flatMap f).drop (j*k)=(l.drop j).flatMap f:=by
 have e:l.flatMap f=(l.take j).flatMap f++(l.drop j).flatMap f:=by rw [<- List.flatMap_append,List.take_append_drop]
 have hl:((l.take j).flatMap f).length=j*k:=by rw [flat_length hf,List.length_take,Nat.min_eq_left hj]
 rw [e,<- hl,List.drop_left]
theorem inBlock_drop {o:Option Addr} {p:Prop} [Decidable p] {x b:Nat} (h:inBlock (if p then o else Option.map (fun a=>Addr.add a x) o) b):inBlock o b:=by
 split at h
 ·exact h
 ·obtain ⟨a,ha,rfl⟩:=h
  cases o with
  | none=>cases ha
  | some a'=>
   cases ha
   exact ⟨a',rfl,by show a'.block=(a'.add x).block;unfold Addr.add;split <;> rfl⟩
theorem FlyAt.drop {o:Option Addr} {n c:Nat} {ms:List Msg} (h:FlyAt w W E o n c ms) {j:Nat} (hj:j<=n):FlyAt w W E (if c=j then o else Option.map (fun x=>Addr.add x (j*9)) o) (n - j) (c - j) (ms.drop j):=by
 obtain ⟨ps,h1,h2,h3,h4,h5⟩:=h
 have hl:ps.length=ms.length:=by rw [<- h1,List.length_map]
 refine ⟨ps.drop j,by rw [List.map_drop,h1],by rw [List.length_drop,h2],?_,fun x hx=>h4 x (List.mem_of_mem_drop hx),fun b hb=>h5 b (inBlock_drop hb)⟩
 have:=h3.drop hj
 rwa [flat_drop msgV_len ps j (by omega)] at this
theorem FlyAt.cut {o:Option Addr} {n c:Nat} {ms:List Msg} (h:FlyAt w W E o n c ms) {j:Nat} (hj:j<=n):FlyAt w W E o j j (ms.take j):=by
 obtain ⟨ps,h1,h2,h3,h4,h5⟩:=h
 have hl:ps.length=ms.length:=by rw [<- h1,List.length_map]
 refine ⟨ps.take j,by rw [List.map_take,h1],by rw [List.length_take];omega,?_,fun x hx=>h4 x (List.mem_of_mem_take hx),h5⟩
 have:=h3.cut hj
 rwa [flat_take msgV_len ps j (by omega)] at this
theorem FlyAt.push {o o2:Option Addr} {n c c2 m2:Nat} {ms ms2:List Msg} {K:Value->World->Prop} (h:FlyAt w W E o n c ms) (hWE:∀ b,W b->¬E b) {qs:List MP} (hq:qs.map (·.1)=ms2) (hm2:m2=ms2.length) (hqe:∀ x∈qs,Ents w E x.2.1 x.1.ents/\x.1.ents.length<=x.2.2)
  (hcells:qs=[]\/∃ a2,o2=some a2/\∀ j u,(qs.flatMap msgV)[j]?=some u->w.cell? (a2.add j)=some u) (hl:n+m2<=100000)
  (hK:∀ o' c' w',FlyAt w' (fun b=>W b\/inBlock o' b) E o' (n+m2) c' (ms++ms2)->Only (inBlock o) w w'->(∀ b,inBlock o' b->W b\/(hs w<=b/\b<hs w'))->K (.slice o' (n+m2) c') w'):
  RunOk Tryz.prog (Hold (Builtin.append_ #[35,35] 35 #[.slice o n c,.slice o2 m2 c2])) w K:=by
 obtain ⟨ps,h1,h2,h3,h4,h5⟩:=h
 subst hm2
 have hql:qs.length=ms2.length:=by rw [<- hq,List.length_map]
 rcases hcells with hn | ⟨a2,rfl,hcells⟩
 ·subst hn
  have hm:ms2=[]:=by rw [<- hq];rfl
  subst hm
  rw [List.append_nil,List.length_nil,Nat.add_zero] at hK
  exact run_append_nothing' elem35 h3.2.1 (hK o c w ⟨ps,h1,h2,h3,h4,fun b hb=>.inl (h5 b hb)⟩ (Only.refl _ _) fun b hb=>.inl (h5 b hb))
 ·refine h3.app elem35 (news:=qs.flatMap msgV) (by rw [flat_length msgV_len,hql]) hcells (msgV_one qs) (by simp only [maxLen];omega) (by omega) fun o' c' w' p1 p2 p3=>?_
  have hO:Only W w w':=p2.mono fun b _ hb=>h5 b hb
  have hlt:=p1.lt
  refine hK o' c' w' ⟨ps++qs,by rw [List.map_append,h1,hq],by rw [List.length_append];omega,by rw [List.flatMap_append];exact p1,fun x hx=>?_,fun b hb=>.inr hb⟩ p2 fun b hb=>(p3 b hb).imp (h5 b) fun k=>⟨k,hlt b hb⟩
  rcases List.mem_append.1 hx with hx | hx
  ·exact ⟨(h4 x hx).1.keep hO fun b hb k=>hWE b k hb,(h4 x hx).2⟩
  ·exact ⟨(hqe x hx).1.keep hO fun b hb k=>hWE b k hb,(hqe x hx).2⟩
theorem Net.more {o o2:Option Addr} {n c c2:Nat} {ms ms2:List Msg} {K:Value->World->Prop} (h:Net w B nn W E nd) (hB:B<=hs w) (hf:FlyAt w W E o n c ms) (hm:MsgsAt w E o2 ms2) (hl:n+ms2.length<=100000)
  (hK:∀ o' c' w' W',Net w' B nn W' E nd->FlyAt w' W' E o' (n+ms2.length) c' (ms++ms2)->Only (inBlock o) w w'->(∀ b,W b->W' b)->K (.slice o' (n+ms2.length) c') w'):
  RunOk Tryz.prog (Hold (Builtin.append_ #[35,35] 35 #[.slice o n c,.slice o2 ms2.length c2])) w K:=by
 obtain ⟨qs,q1,q2,q3⟩:=hm
 have hfW:=hf.inW
 refine hf.push (fun b hb=>(h.wz b hb).2.2) q1 rfl q3 ?_ hl fun o' c' w' p1 p2 p3=>hK o' c' w' (fun b=>W b\/inBlock o' b) (h.own (p2.mono fun b _ hb=>hfW b hb) fun b hb=>?_) p1 p2 fun b hb=>.inl hb
 ·cases qs with
  | nil=>exact .inl rfl
  | cons x qs=>
   right
   cases o2 with
   | none=>
    obtain ⟨a,ha,-⟩:=Recs.atE q2 (i:=0) (x:=x) rfl
    cases ha
   | some a=>exact ⟨a,rfl,recs_flat' msgV_len (by decide) q2⟩
 ·rcases hb with hb | hb
  ·exact .inl hb
  ·rcases p3 b hb with k | k
   ·exact .inl k
   ·exact .inr ⟨by omega,k.1,k.2⟩
theorem Net.less {o:Option Addr} {n c j:Nat} {ms:List Msg} {K:Value->World->Prop} (h:Net w B nn W E nd) (hB:B<=hs w) (hf:FlyAt w W E o n c ms) (hj:j<n) (hl:n<=100000)
  (hK:∀ o' c' w' W',Net w' B nn W' E nd->FlyAt w' W' E o' (n - 1) c' (ms.take j++ms.drop (j+1))->Only (inBlock o) w w'->(∀ b,W b->W' b)->K (.slice o' (n - 1) c') w'):
  RunOk Tryz.prog (Hold (Builtin.append_ #[35,35] 35 #[.slice o j j,.slice (if c=j+1 then o else Option.map (fun x=>Addr.add x ((j+1)*9)) o) (n - (j+1)) (c - (j+1))])) w K:=by
 have hfW:=hf.inW
 have hd:=hf.drop (j:=j+1) (by omega)
 have hn:=hf
 obtain ⟨-,-,hnl,-⟩:=hn
 obtain ⟨qs,q1,q2,q3,q4,q5⟩:=hd
 have key:=FlyAt.push (K:=K) (c2:=c - (j+1)) (m2:=n - (j+1)) (hf.cut (j:=j) (by omega)) (fun b hb=>(h.wz b hb).2.2) q1 q2 q4 (o2:=if c=j+1 then o else Option.map (fun x=>Addr.add x ((j+1)*9)) o)
 refine key ?_ (by omega) fun o' c' w' p1 p2 p3=>?_
 ·cases qs with
  | nil=>exact .inl rfl
  | cons x qs=>
   right
   obtain ⟨a,ha,-,hc⟩:=q3.at (j:=0) (u:=.int .i64 (x.1.kind:Int)) rfl
   exact ⟨a,ha,hc⟩
 ·have e:j+(n - (j+1))=n - 1:=by omega
  rw [e] at p1 ⊢
  refine hK o' c' w' (fun b=>W b\/inBlock o' b) (h.own (p2.mono fun b _ hb=>hfW b hb) fun b hb=>?_) p1 p2 fun b hb=>.inl hb
  rcases hb with hb | hb
  ·exact .inl hb
  ·rcases p3 b hb with k | k
   ·exact .inl k
   ·exact .inr ⟨by omega,k.1,k.2⟩
/-! ### what is agreed on -/
end
/-! ### who led which term -/
section
variable {w w':World} {r:Nat} {Q:Nat->Nat->Prop}
end
end Go.Proofs.YtcaokpglbolkcaaGreat
