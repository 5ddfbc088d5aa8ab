namespace Go.Proofs.YtcaokpglbolkcaaGreat
section
structure Memb where
 old:List Nat
 new:List Nat
def Most (l:List Nat) (S:Nat->Prop):Prop:=∃ k:List Nat,k.Sublist l/\(∀ x∈k,S x)/\l.length<2*k.length
def Quo (c:Memb) (S:Nat->Prop):Prop:=Most c.old S/\(c.new=[]\/Most c.new S)
def OkM (c:Memb):Prop:=c.old.Nodup/\c.new.Nodup
theorem nodup_sub_len:∀ {a l:List Nat},a.Nodup->(∀ x∈a,x∈l)->a.length<=l.length
 | [],l,_,_=>Nat.zero_le _
 | x::a,l,h,hs=>by
  rw [List.nodup_cons] at h
  have hx:=hs x (.head _)
  have ih:=nodup_sub_len (a:=a) (l:=l.erase x) h.2 fun y hy=>by
   refine (List.mem_erase_of_ne fun e=>h.1 (by rw [<- e];exact hy)).2 (hs y (.tail _ hy))
  rw [List.length_erase_of_mem hx] at ih
  have:0<l.length:=List.length_pos_of_mem hx
  rw [List.length_cons]
  omega
theorem most_meet {l:List Nat} {S S':Nat->Prop} (hn:l.Nodup) (h:Most l S) (h':Most l S'):∃ x,S x/\S' x:=by
 obtain ⟨k,k1,k2,k3⟩:=h
 obtain ⟨k',k1',k2',k3'⟩:=h'
 by_cases hd:∃ x∈k,x∈k'
 ·obtain ⟨x,h1,h2⟩:=hd
  exact ⟨x,k2 x h1,k2' x h2⟩
 ·have h1:(k++k').Nodup:=by
   rw [List.nodup_append]
   exact ⟨k1.nodup hn,k1'.nodup hn,fun a ha b hb e=>hd ⟨a,ha,by rw [e];exact hb⟩⟩
  have:=nodup_sub_len h1 fun x hx=>(List.mem_append.1 hx).elim (fun h=>k1.subset h) fun h=>k1'.subset h
  rw [List.length_append] at this
  omega
def Succ (c d:Memb):Prop:=(c.new=[]/\d.old=c.old/\d.new≠[])\/(c.new≠[]/\d.old=c.new/\d.new=[])
def Meet (c d:Memb):Prop:=∀ S S':Nat->Prop,Quo c S->Quo d S'->∃ x,S x/\S' x
theorem Meet.symm {c d:Memb} (h:Meet c d):Meet d c:=fun S S' a b=>by
 obtain ⟨x,h1,h2⟩:=h S' S b a
 exact ⟨x,h2,h1⟩
theorem meet_self {c:Memb} (h:OkM c):Meet c c:=fun _ _ a b=>most_meet h.1 a.1 b.1
theorem meet_succ {c d:Memb} (h:OkM c) (hs:Succ c d):Meet c d:=fun S S' a b=>by
 rcases hs with ⟨h1,h2,h3⟩ | ⟨h1,h2,h3⟩
 ·exact most_meet h.1 a.1 (h2 ▸ b.1)
 ·exact most_meet h.2 (a.2.resolve_left h1) (h2 ▸ b.1)
theorem meet_both {c d d':Memb} (h:OkM c) (hs:Succ c d) (hs':Succ c d'):Meet d d':=fun S S' a b=>by
 rcases hs with ⟨h1,h2,h3⟩ | ⟨h1,h2,h3⟩
 ·rcases hs' with ⟨k1,k2,k3⟩ | ⟨k1,k2,k3⟩
  ·exact most_meet h.1 (h2 ▸ a.1) (k2 ▸ b.1)
  ·exact absurd h1 k1
 ·rcases hs' with ⟨k1,k2,k3⟩ | ⟨k1,k2,k3⟩
  ·exact absurd k1 h1
  ·exact most_meet h.2 (h2 ▸ a.1) (k2 ▸ b.1)
end
section
structure Ent where
 term:Nat
 kind:Nat
 body:List UInt8
deriving DecidableEq
section
variable (mb:Ent->Option Memb) (init:Memb)
def cfgs (l:List Ent):List Memb:=init::l.filterMap mb
def cfg (l:List Ent):Memb:=(cfgs mb init l).getLast (by simp [cfgs])
end
def Chain:List Memb->Prop
 | c::d::l=>Succ c d/\Chain (d::l)
 | _=>True
theorem chain_last:∀ {l:List Memb} {c d:Memb},Chain (l++[c,d])->Succ c d
 | [],c,d,h=>h.1
 | [x],c,d,h=>h.2.1
 | x::y::l,c,d,h=>chain_last (l:=y::l) h.2
theorem split2 {l:List Memb} (h:2<=l.length):∃ k c d,l=k++[c,d]:=by
 rcases List.eq_nil_or_concat l with rfl | ⟨k,d,rfl⟩
 ·simp at h
 ·rcases List.eq_nil_or_concat k with rfl | ⟨k',c,rfl⟩
  ·simp at h
  ·exact ⟨k',c,d,by simp⟩
theorem chains_meet {A B:List Memb} (hA:A≠[]) (hB:B≠[]) (h0:A.head hA=B.head hB) (cA:Chain A) (cB:Chain B) (oA:∀ c∈A,OkM c) (h1:A.dropLast <+: B) (h2:B.dropLast <+: A) (oB:∀ c∈B,OkM c):Meet (A.getLast hA) (B.getLast hB):=by
 have l1:=h1.length_le
 have l2:=h2.length_le
 rw [List.length_dropLast] at l1 l2
 have pA:=List.length_pos_iff.2 hA
 have pB:=List.length_pos_iff.2 hB
 rcases Nat.lt_trichotomy A.length B.length with hl | hl | hl
 ·have e:B.dropLast=A:=h2.eq_of_length (by rw [List.length_dropLast];omega)
  obtain ⟨k,c,d,rfl⟩:=split2 (l:=B) (by omega)
  have e':A=k++[c]:=by rw [<- e];simp
  subst e'
  have hs:=chain_last cB
  simp only [List.getLast_append,List.getLast_cons,List.getLast_singleton,ne_eq,reduceCtorEq,not_false_eq_true]
  simpa using meet_succ (oA c (by simp)) hs
 ·have e:A.dropLast=B.dropLast:=by
   obtain ⟨r,hr⟩:=h1
   have:B.dropLast=(A.dropLast++r).dropLast:=by rw [hr]
   have lr:r.length=1:=by
    have:=congrArg List.length hr
    rw [List.length_append,List.length_dropLast] at this
    omega
   obtain ⟨x,rfl⟩:=List.length_eq_one_iff.1 lr
   rw [this];simp
  by_cases h1':A.length=1
  ·obtain ⟨x,rfl⟩:=List.length_eq_one_iff.1 h1'
   obtain ⟨y,rfl⟩:=List.length_eq_one_iff.1 (hl ▸ h1')
   simp only [List.head_cons] at h0
   subst h0
   simpa using meet_self (oA x (by simp))
  ·obtain ⟨k,c,d,rfl⟩:=split2 (l:=A) (by omega)
   obtain ⟨k',c',d',rfl⟩:=split2 (l:=B) (by omega)
   have e':k++[c]=k'++[c']:=by simpa using e
   have ec:c=c':=by
    have:=congrArg List.getLast? e'
    simpa using this
   subst ec
   simpa using meet_both (oA c (by simp)) (chain_last cA) (chain_last cB)
 ·have e:A.dropLast=B:=h1.eq_of_length (by rw [List.length_dropLast];omega)
  obtain ⟨k,c,d,rfl⟩:=split2 (l:=A) (by omega)
  have e':B=k++[c]:=by rw [<- e];simp
  subst e'
  have hs:=chain_last cA
  simpa using (meet_succ (oB c (by simp)) hs).symm
end
section
def Has (l:List Ent) (n:Nat) (l':List Ent):Prop:=n<=l'.length/\l'.take n=l.take n
theorem Has.less {l l':List Ent} {n k:Nat} (h:Has l n l') (hk:k<=n):Has l k l':=by
 refine ⟨Nat.le_trans hk h.1,?_⟩
 have:=congrArg (List.take k) h.2
 rwa [List.take_take,List.take_take,Nat.min_eq_left hk] at this
theorem Has.pre {l l' l'':List Ent} {n:Nat} (h:Has l n l') (hp:l' <+: l''):Has l n l'':=by
 obtain ⟨r,rfl⟩:=hp
 exact ⟨by rw [List.length_append];have:=h.1;omega,by rw [List.take_append_of_le_length h.1];exact h.2⟩
theorem Has.trans {l l' l'':List Ent} {n:Nat} (h:Has l n l') (k:Has l' n l''):Has l n l'':=⟨k.1,k.2.trans h.2⟩
theorem Has.self {l:List Ent} {n:Nat} (h:n<=l.length):Has l n l:=⟨h,rfl⟩
theorem Has.at {l l':List Ent} {n i:Nat} (h:Has l n l') (hi:i<n):l'[i]?=l[i]?:=by
 have:=congrArg (fun x=>x[i]?) h.2
 simpa [List.getElem?_take,hi] using this
def lastT (l:List Ent):Nat:=(l.getLast?.map (·.term)).getD 0
def UpTo (E V:List Ent):Prop:=lastT V<lastT E\/(lastT E=lastT V/\V.length<=E.length)
structure G where
 el:Nat->Option Nat
 E:Nat->List Ent
 ll:Nat->List Ent
 vl:Nat->Nat->Option (Nat × List Ent)
 ack:Nat->Nat->Nat
 ev:Nat->Nat->Prop
section
variable (mb:Ent->Option Memb) (init:Memb)
def LogOk (g:G) (l:List Ent):Prop:=∀ (i:Nat) e,l[i]?=some e->g.el e.term≠none/\Has l (i+1) (g.ll e.term)
def ConfOk (g:G) (T:Nat) (L:List Ent) (R:Nat->Nat->Prop):Prop:=∀ (p:Nat) e c,L[p]?=some e->mb e=some c->cfgs mb init (L.take p)=[init]\/
 ∃ T0 n0,g.ev T0 n0/\n0<=p/\T0<=T/\R T0 n0/\Has (g.ll T0) n0 L/\cfgs mb init (L.take n0)=cfgs mb init (L.take p)
structure GOk (g:G):Prop where
 pos:∀ T,g.el T≠none->1<=T
 pre:∀ T,g.el T≠none->g.E T <+: g.ll T/\(g.E T).length<(g.ll T).length
 old:∀ T,g.el T≠none->∀ e∈g.E T,e.term<T
 own:∀ T,g.el T≠none->∀ (i:Nat) e,(g.E T).length<=i->(g.ll T)[i]?=some e->e.term=T
 lm:∀ T,g.el T≠none->LogOk g (g.ll T)
 elq:∀ T c,g.el T=some c->∃ Q,Quo (cfg mb init (g.E T)) Q/\∀ v,Q v->∃ V,g.vl v T=some (c,V)/\∀ T1 n,T1<T->n<=g.ack v T1->g.el T1≠none->(∀ T'',T1<T''->T''<T->g.el T''≠none->Has (g.ll T1) n (g.ll T''))->Has (g.ll T1) n V
 elc:∀ T c,g.el T=some c->g.vl c T=some (c,g.E T)
 vote:∀ v T c V,g.vl v T=some (c,V)->(∃ F,g.vl c T=some (c,F)/\UpTo F V)/\LogOk g V/\∀ e∈V,e.term<T
 evs:∀ T n,g.ev T n->g.el T≠none/\(g.E T).length<n/\n<=(g.ll T).length/\∃ m Q,n<=m/\m<=(g.ll T).length/\Quo (cfg mb init ((g.ll T).take m)) Q/\(∀ v,Q v->n<=g.ack v T)/\
  ConfOk mb init g T ((g.ll T).take m) fun T0 n0=>T0=T->n0<n
 conf:∀ T,g.el T≠none->ConfOk mb init g T (g.ll T) fun _ _=>True
 chain:∀ T,g.el T≠none->Chain (cfgs mb init (g.ll T))/\∀ c∈cfgs mb init (g.ll T),OkM c
 okI:OkM init
 ackd:∀ v T,g.ack v T<=(g.ll T).length
 held:∀ v T' c V,g.vl v T'=some (c,V)->∀ T n,T<T'->n<=g.ack v T->g.el T≠none->(∀ T'',T<T''->T''<=T'->g.el T''≠none->Has (g.ll T) n (g.ll T''))->Has (g.ll T) n V
theorem cfgs_last (L:List Ent):cfgs mb init L=[init]\/∃ (p:Nat) (e:Ent) (c:Memb),L[p]?=some e/\mb e=some c/\cfgs mb init L=cfgs mb init (L.take p)++[c]:=by
 have key:∀ k (L:List Ent),L.length=k->cfgs mb init L=[init]\/∃ (p:Nat) (e:Ent) (c:Memb),L[p]?=some e/\mb e=some c/\cfgs mb init L=cfgs mb init (L.take p)++[c]:=by
  intro k
  induction k with
  | zero=>intro L h;rw [List.eq_nil_of_length_eq_zero h];exact .inl rfl
  | succ k ih=>
   intro L h
   rcases List.eq_nil_or_concat L with rfl | ⟨L',e,rfl⟩
   ·simp at h
   ·have hl:L'.length=k:=by simpa using h
    cases hm:mb e with
    | some c=>
     refine .inr ⟨L'.length,e,c,by simp,hm,?_⟩
     simp [cfgs,hm]
    | none=>
     have e1:cfgs mb init (L'.concat e)=cfgs mb init L':=by simp [cfgs,hm]
     rw [e1]
     rcases ih L' hl with h1 | ⟨p,e',c,h1,h2,h3⟩
     ·exact .inl h1
     ·have hp:=(List.getElem?_eq_some_iff.1 h1).1
      refine .inr ⟨p,e',c,?_,h2,?_⟩
      ·rw [List.concat_eq_append,List.getElem?_append_left hp];exact h1
      ·rw [List.concat_eq_append,List.take_append_of_le_length (Nat.le_of_lt hp)];exact h3
 exact key _ L rfl
theorem cfgs_pre {l l':List Ent} (h:l <+: l'):cfgs mb init l <+: cfgs mb init l':=by
 obtain ⟨r,rfl⟩:=h
 exact ⟨r.filterMap mb,by simp [cfgs]⟩
theorem chain_pre:∀ {l l':List Memb},l <+: l'->Chain l'->Chain l
 | [],_,_,_=>trivial
 | [_],_,_,_=>trivial
 | c::d::l,l',hp,h=>by
  obtain ⟨r,rfl⟩:=hp
  exact ⟨h.1,chain_pre (l:=d::l) (l':=d::l++r) ⟨r,rfl⟩ h.2⟩
end
end
section
section
variable {mb:Ent->Option Memb} {init:Memb} {g:G}
theorem last_at {l:List Ent} (h:l≠[]):∃ e,l[l.length - 1]?=some e/\lastT l=e.term:=by
 have hl:=List.length_pos_iff.2 h
 refine ⟨l[l.length - 1],List.getElem?_eq_getElem (by omega),?_⟩
 unfold lastT
 rw [List.getLast?_eq_getElem?,List.getElem?_eq_getElem (by omega)]
 rfl
theorem LogOk.whole {l:List Ent} (h:LogOk g l) (hn:l≠[]):g.el (lastT l)≠none/\Has l l.length (g.ll (lastT l))/\Has (g.ll (lastT l)) l.length l:=by
 obtain ⟨e,he,ht⟩:=last_at hn
 have hl:=List.length_pos_iff.2 hn
 obtain ⟨h1,h2⟩:=h _ e he
 rw [ht]
 rw [Nat.sub_add_cancel hl] at h2
 exact ⟨h1,h2,⟨Nat.le_refl _,h2.2.symm⟩⟩
theorem GOk.mono (G:GOk mb init g) {T:Nat} (hT:g.el T≠none) {i:Nat} {e:Ent} (he:(g.ll T)[i]?=some e):e.term<=T:=by
 rcases Nat.lt_or_ge i (g.E T).length with h | h
 ·have hi:(g.E T)[i]?=some e:=by
   obtain ⟨r,hr⟩:=(G.pre T hT).1
   rw [<- hr,List.getElem?_append_left h] at he
   exact he
  exact Nat.le_of_lt (G.old T hT e (List.mem_of_getElem? hi))
 ·exact Nat.le_of_eq (G.own T hT i e h he)
theorem LogOk.mono (G:GOk mb init g) {l:List Ent} (h:LogOk g l) {i j:Nat} {e f:Ent} (hi:l[i]?=some e) (hj:l[j]?=some f) (hij:i<=j):e.term<=f.term:=by
 obtain ⟨h1,h2⟩:=h j f hj
 refine G.mono h1 (i:=i) ?_
 rw [h2.at (by omega)]
 exact hi
theorem GOk.behind (G:GOk mb init g) {T:Nat} (hT:g.el T≠none) {i:Nat} {e:Ent} (he:(g.ll T)[i]?=some e) (ht:e.term=T):(g.E T).length<=i:=by
 rcases Nat.lt_or_ge i (g.E T).length with h | h
 ·have hi:(g.E T)[i]?=some e:=by
   obtain ⟨r,hr⟩:=(G.pre T hT).1
   rw [<- hr,List.getElem?_append_left h] at he
   exact he
  have:=G.old T hT e (List.mem_of_getElem? hi)
  omega
 ·exact h
def Won (mb:Ent->Option Memb) (init:Memb) (g:G) (T c:Nat) (F:List Ent):Prop:=g.vl c T=some (c,F)/\∃ Q,Quo (cfg mb init F) Q/\∀ v,Q v->∃ V,g.vl v T=some (c,V)
theorem GOk.won (G:GOk mb init g) {T c:Nat} (h:g.el T=some c):Won mb init g T c (g.E T):=⟨G.elc T c h,by
 obtain ⟨Q,h1,h2⟩:=G.elq T c h
 exact ⟨Q,h1,fun v hv=>by
  obtain ⟨V,h3,-⟩:=h2 v hv
  exact ⟨V,h3⟩⟩⟩
theorem complete_core (G:GOk mb init g) (T':Nat) (IH1:∀ T1,T1<T'->∀ T n,g.ev T n->T<T1->g.el T1≠none->Has (g.ll T) n (g.E T1)) (c:Nat) (F:List Ent) (hcF:g.vl c T'=some (c,F)) (Q':Nat->Prop) (hQ':Quo (cfg mb init F) Q')
  (hvote:∀ v,Q' v->∃ V,g.vl v T'=some (c,V)/\∀ T n,g.ev T n->T<T'->n<=g.ack v T->Has (g.ll T) n V):∀ T n,g.ev T n->T<T'->Has (g.ll T) n F:=by
 obtain ⟨-,logE,oldF⟩:=G.vote c T' c F hcF
 intro T
 induction T using Nat.strongRecOn with
 | _ T IH2=>
 intro n
 induction n using Nat.strongRecOn with
 | _ n IH3=>
 intro hev hTT
 obtain ⟨elT,en,nl,m,Q,nm,ml,hQ,hack,hconf⟩:=G.evs T n hev
 have pT:=G.pre T elT
 have hmeet:Has (g.ll T) n F\/Meet (cfg mb init ((g.ll T).take m)) (cfg mb init F):=by
  have ltm:((g.ll T).take m).length=m:=by rw [List.length_take];omega
  obtain ⟨chT,okT⟩:=G.chain T elT
  have preT:=cfgs_pre mb init (List.take_prefix m (g.ll T))
  have h1:(cfgs mb init ((g.ll T).take m)).dropLast <+: cfgs mb init F:=by
   rcases cfgs_last mb init ((g.ll T).take m) with e | ⟨p,e,d,hp,hd,hs⟩
   ·rw [e];exact List.nil_prefix
   ·rw [hs,List.dropLast_concat]
    rcases hconf p e d hp hd with h | ⟨T0,n0,k1,k2,k3,k4,k5,k6⟩
    ·rw [h];exact ⟨F.filterMap mb,rfl⟩
    ·have hh:Has (g.ll T0) n0 F:=by
      rcases Nat.lt_or_ge T0 T with h | h
      ·exact IH2 T0 h n0 k1 (by omega)
      ·obtain rfl:T0=T:=by omega
       exact IH3 n0 (k4 rfl) k1 hTT
     rw [<- k6,k5.2,<- hh.2]
     exact cfgs_pre mb init (List.take_prefix _ _)
  by_cases hE:F=[]
  ·right
   have eB:cfgs mb init F=[init]:=by rw [hE];rfl
   refine chains_meet (A:=cfgs mb init ((g.ll T).take m)) (B:=cfgs mb init F) (by simp [cfgs]) (by simp [cfgs]) (by simp [cfgs]) (chain_pre preT chT) (by rw [eB];trivial) (fun x hx=>okT x (preT.subset hx)) h1 (by rw [eB];exact List.nil_prefix) (fun x hx=>by
    rw [eB,List.mem_singleton] at hx
    rw [hx];exact G.okI)
  obtain ⟨elL,hw1,hw2⟩:=logE.whole hE
  obtain ⟨eL,heL,htL⟩:=last_at hE
  have hTl:lastT F<T':=by rw [htL];exact oldF eL (List.mem_of_getElem? heL)
  generalize lastT F=Tl at*
  have eqE:F=(g.ll Tl).take F.length:=by have:=hw1.2;rw [List.take_length] at this;exact this.symm
  obtain ⟨chL,okL⟩:=G.chain Tl elL
  have preL:cfgs mb init F <+: cfgs mb init (g.ll Tl):=by
   have:=cfgs_pre mb init (List.take_prefix F.length (g.ll Tl))
   rwa [<- eqE] at this
  have h2:Has (g.ll T) n F\/(cfgs mb init F).dropLast <+: cfgs mb init ((g.ll T).take m):=by
   rcases cfgs_last mb init F with e | ⟨p,e,d,hp,hd,hs⟩
   ·right;rw [e];exact List.nil_prefix
   ·have hpl:=(List.getElem?_eq_some_iff.1 hp).1
    have hp':(g.ll Tl)[p]?=some e:=by rw [hw1.at hpl];exact hp
    have etk:F.take p=(g.ll Tl).take p:=(hw2.less (Nat.le_of_lt hpl)).2
    rw [hs,List.dropLast_concat,etk]
    rcases G.conf Tl elL p e d hp' hd with h | ⟨T0,n0,k1,k2,k3,-,k5,k6⟩
    ·right;rw [h];exact ⟨((g.ll T).take m).filterMap mb,rfl⟩
    ·have hin:n0<=F.length:=by omega
     have hEn:Has (g.ll T0) n0 F:=k5.trans ((hw2.less hin))
     obtain ⟨elT0,en0,nl0,-⟩:=G.evs T0 n0 k1
     have fin:Has (g.ll T0) n0 ((g.ll T).take m)->cfgs mb init ((g.ll Tl).take p) <+: cfgs mb init ((g.ll T).take m):=fun hh=>by
      rw [<- k6,k5.2,<- hh.2]
      exact cfgs_pre mb init (List.take_prefix _ _)
     have cut:∀ {k:Nat},Has (g.ll T0) k (g.ll T)->k<=m->Has (g.ll T0) k ((g.ll T).take m):=fun {k} hh hk=>⟨by rw [ltm];exact hk,by rw [List.take_take,Nat.min_eq_left hk];exact hh.2⟩
     rcases Nat.lt_trichotomy T0 T with h | h | h
     ·right
      have hh:=IH1 T hTT T0 n0 k1 h elT
      exact fin (cut (hh.pre pT.1) (by have:=hh.1;omega))
     ·subst h
      rcases Nat.lt_or_ge n0 n with h | h
      ·right;exact fin (cut (Has.self nl0) (by omega))
      ·left;exact hEn.less h
     ·left
      have hh:=IH1 T0 (by omega) T n hev h elT0
      have h3:=hh.pre (G.pre T0 elT0).1
      exact h3.trans (hEn.less (by have:=hh.1;omega))
  rcases h2 with h2 | h2
  ·exact .inl h2
  ·exact .inr (chains_meet (A:=cfgs mb init ((g.ll T).take m)) (B:=cfgs mb init F) (by simp [cfgs]) (by simp [cfgs]) (by simp [cfgs]) (chain_pre preT chT) (chain_pre preL chL) (fun x hx=>okT x (preT.subset hx)) h1 h2 (fun x hx=>okL x (preL.subset hx)))
 rcases hmeet with h | hmeet
 ·exact h
 obtain ⟨v,hv,hv'⟩:=hmeet Q Q' hQ hQ'
 obtain ⟨V,hvl,hVh⟩:=hvote v hv'
 have hV:=hVh T n hev hTT (hack v hv)
 obtain ⟨⟨F',hF,hup⟩,logV,-⟩:=G.vote v T' c V hvl
 rw [hcF] at hF
 simp only [Option.some.injEq,Prod.mk.injEq,true_and] at hF
 subst hF
 have hn0:0<n:=by omega
 have hVne:V≠[]:=fun e=>by have:=hV.1;rw [e] at this;simp at this;omega
 obtain ⟨eV,heV,htV⟩:=last_at hVne
 have hVn:V[n - 1]?=(g.ll T)[n - 1]?:=hV.at (by omega)
 have hTn:∃ f,(g.ll T)[n - 1]?=some f/\f.term=T:=⟨_,List.getElem?_eq_getElem (by omega),G.own T elT (n - 1) _ (by omega) (List.getElem?_eq_getElem (by omega))⟩
 obtain ⟨f,hf,hfT⟩:=hTn
 have hTV:T<=lastT V:=by
  rw [htV,<- hfT]
  exact logV.mono G (hVn.trans hf) heV (by have:=hV.1;omega)
 have hpos:=G.pos T elT
 have hTE:T<=lastT F:=by
  rcases hup with h | h
  ·omega
  ·omega
 have hE:F≠[]:=fun e=>by rw [e] at hTE;simp [lastT] at hTE;omega
 obtain ⟨elL,hw1,hw2⟩:=logE.whole hE
 obtain ⟨eL,heL,htL⟩:=last_at hE
 have hTl:lastT F<T':=by rw [htL];exact oldF eL (List.mem_of_getElem? heL)
 have lE:=List.length_pos_iff.2 hE
 rcases Nat.lt_or_ge T (lastT F) with h | h
 ·have hh:=IH1 _ hTl T n hev h elL
  have hat:(g.ll (lastT F))[F.length - 1]?=some eL:=by rw [hw1.at (by omega)];exact heL
  have:=G.behind elL hat htL.symm
  exact (hh.pre (G.pre _ elL).1).trans (hw2.less (by have:=hh.1;omega))
 ·have e:lastT F=T:=by omega
  rw [e] at hw2
  rcases hup with h' | ⟨h1,h2⟩
  ·omega
  ·exact hw2.less (by have:=hV.1;omega)
theorem complete (G:GOk mb init g):∀ T' T n,g.ev T n->T<T'->g.el T'≠none->Has (g.ll T) n (g.E T'):=by
 intro T'
 induction T' using Nat.strongRecOn with
 | _ T' IH0=>
 intro T n h hT he
 cases hc:g.el T' with
 | none=>exact absurd hc he
 | some c=>
  obtain ⟨Q',hQ',hv⟩:=G.elq T' c hc
  exact complete_core G T' (fun T1 h1=>IH0 T1 h1) c _ (G.elc T' c hc) Q' hQ' (fun v hv'=>by
   obtain ⟨V,h1,h2⟩:=hv v hv'
   exact ⟨V,h1,fun T1 n1 k1 k2 k3=>h2 T1 n1 k2 k3 (G.evs T1 n1 k1).1 fun T'' q1 q2 q3=>(IH0 T'' q2 T1 n1 k1 q1 q3).pre (G.pre T'' q3).1⟩) T n h hT
theorem completeC (G:GOk mb init g) (T' c:Nat) (F:List Ent) (hw:Won mb init g T' c F) (T n:Nat) (h:g.ev T n) (hT:T<T'):Has (g.ll T) n F:=by
 obtain ⟨hcF,Q',hQ',hv⟩:=hw
 exact complete_core G T' (fun T1 _=>complete G T1) c F hcF Q' hQ' (fun v hv'=>by
  obtain ⟨V,h1⟩:=hv v hv'
  exact ⟨V,h1,fun T1 n1 k1 k2 k3=>G.held v T' c V h1 T1 n1 k2 k3 (G.evs T1 n1 k1).1 fun T'' q1 q2 q3=>(complete G T'' T1 n1 k1 q1 q3).pre (G.pre T'' q3).1⟩) T n h hT
theorem won_pre (G:GOk mb init g) {T c d:Nat} {F F':List Ent} (h:Won mb init g T c F) (h':Won mb init g T d F'):(cfgs mb init F).dropLast <+: cfgs mb init F':=by
 rcases cfgs_last mb init F with e | ⟨p,e,x,hp,hx,hs⟩
 ·rw [e];exact List.nil_prefix
 ·obtain ⟨-,logF,oldF⟩:=G.vote c T c F h.1
  have hpl:=(List.getElem?_eq_some_iff.1 hp).1
  have hF:F≠[]:=fun e=>by rw [e] at hpl;simp at hpl
  obtain ⟨elL,hw1,hw2⟩:=logF.whole hF
  obtain ⟨eL,heL,htL⟩:=last_at hF
  have hTl:lastT F<T:=by rw [htL];exact oldF eL (List.mem_of_getElem? heL)
  have hp':(g.ll (lastT F))[p]?=some e:=by rw [hw1.at hpl];exact hp
  have etk:F.take p=(g.ll (lastT F)).take p:=(hw2.less (Nat.le_of_lt hpl)).2
  rw [hs,List.dropLast_concat,etk]
  rcases G.conf _ elL p e x hp' hx with h1 | ⟨T0,n0,k1,k2,k3,-,k5,k6⟩
  ·rw [h1];exact ⟨F'.filterMap mb,rfl⟩
  ·have hh:=completeC G T d F' h' T0 n0 k1 (by omega)
   rw [<- k6,k5.2,<- hh.2]
   exact cfgs_pre mb init (List.take_prefix _ _)
theorem won_chain (G:GOk mb init g) {T c:Nat} {F:List Ent} (h:Won mb init g T c F):Chain (cfgs mb init F)/\∀ x∈cfgs mb init F,OkM x:=by
 by_cases hF:F=[]
 ·subst hF
  exact ⟨trivial,fun x hx=>by
   have:x=init:=by simpa [cfgs] using hx
   rw [this];exact G.okI⟩
 ·obtain ⟨-,logF,-⟩:=G.vote c T c F h.1
  obtain ⟨elL,hw1,hw2⟩:=logF.whole hF
  obtain ⟨chL,okL⟩:=G.chain _ elL
  have eqF:F=(g.ll (lastT F)).take F.length:=by have:=hw1.2;rw [List.take_length] at this;exact this.symm
  have preL:cfgs mb init F <+: cfgs mb init (g.ll (lastT F)):=by
   have:=cfgs_pre mb init (List.take_prefix F.length (g.ll (lastT F)))
   rwa [<- eqF] at this
  exact ⟨chain_pre preL chL,fun x hx=>okL x (preL.subset hx)⟩
theorem won_one (G:GOk mb init g) {T c d:Nat} {F F':List Ent} (h:Won mb init g T c F) (h':Won mb init g T d F'):c=d:=by
 have m:=chains_meet (A:=cfgs mb init F) (B:=cfgs mb init F') (by simp [cfgs]) (by simp [cfgs]) (by simp [cfgs]) (won_chain G h).1 (won_chain G h').1 (won_chain G h).2 (won_pre G h h') (won_pre G h' h) (won_chain G h').2
 obtain ⟨-,Q,hQ,hv⟩:=h
 obtain ⟨-,Q',hQ',hv'⟩:=h'
 obtain ⟨x,hx,hx'⟩:=m Q Q' hQ hQ'
 obtain ⟨V,e1⟩:=hv x hx
 obtain ⟨V',e2⟩:=hv' x hx'
 rw [e1] at e2
 simp only [Option.some.injEq,Prod.mk.injEq] at e2
 exact e2.1
end
end
section
structure Le (g g':G):Prop where
 el:∀ T,g.el T≠none->g'.el T=g.el T/\g'.E T=g.E T/\g.ll T <+: g'.ll T
 vl:∀ v T x,g.vl v T=some x->g'.vl v T=some x
 ack:∀ v T,g.ack v T<=g'.ack v T
 ev:∀ T n,g.ev T n->g'.ev T n
theorem Le.refl (g:G):Le g g:=⟨fun _ _=>⟨rfl,rfl,List.prefix_refl _⟩,fun _ _ _ h=>h,fun _ _=>Nat.le_refl _,fun _ _ h=>h⟩
theorem Le.elne {g g':G} (h:Le g g') {T:Nat} (k:g.el T≠none):g'.el T≠none:=by rw [(h.el T k).1];exact k
theorem Le.trans {g g' g'':G} (h:Le g g') (k:Le g' g''):Le g g'':=
 ⟨fun T e=>⟨((k.el T (h.elne e)).1).trans (h.el T e).1,((k.el T (h.elne e)).2.1).trans (h.el T e).2.1,(h.el T e).2.2.trans (k.el T (h.elne e)).2.2⟩,
  fun v T x e=>k.vl v T x (h.vl v T x e),fun v T=>Nat.le_trans (h.ack v T) (k.ack v T),fun T n e=>k.ev T n (h.ev T n e)⟩
theorem has_ext {l l' X:List Ent} {n:Nat} (hp:l <+: l') (hn:n<=l.length):Has l' n X↔Has l n X:=by
 obtain ⟨r,rfl⟩:=hp
 unfold Has
 rw [List.take_append_of_le_length hn]
section
variable {mb:Ent->Option Memb} {init:Memb} {g g':G}
theorem LogOk.le (h:Le g g') {l:List Ent} (k:LogOk g l):LogOk g' l:=fun i e he=>by
 obtain ⟨k1,k2⟩:=k i e he
 obtain ⟨-,-,h3⟩:=h.el _ k1
 refine ⟨h.elne k1,?_⟩
 have hi:=(List.getElem?_eq_some_iff.1 he).1
 obtain ⟨r,hr⟩:=h3
 refine ⟨by rw [<- hr,List.length_append];have:=k2.1;omega,?_⟩
 rw [<- hr,List.take_append_of_le_length k2.1]
 exact k2.2
theorem LogOk.take {l:List Ent} (h:LogOk g l) (n:Nat):LogOk g (l.take n):=fun i e he=>by
 rw [List.getElem?_take] at he
 split at he
 ·rename_i hi
  obtain ⟨k1,k2⟩:=h i e he
  exact ⟨k1,k2.1,by rw [List.take_take,Nat.min_eq_left (by omega)];exact k2.2⟩
 ·cases he
theorem at_snoc {l:List Ent} {e x:Ent} {i:Nat} (h:(l++[e])[i]?=some x):(i<l.length/\l[i]?=some x)\/(i=l.length/\e=x):=by
 rcases Nat.lt_trichotomy i l.length with hi | hi | hi
 ·rw [List.getElem?_append_left hi] at h
  exact .inl ⟨hi,h⟩
 ·subst hi
  simp only [List.getElem?_concat_length,Option.some.injEq] at h
  exact .inr ⟨rfl,h⟩
 ·rw [List.getElem?_eq_none (by rw [List.length_append,List.length_singleton];omega)] at h
  cases h
theorem LogOk.append1 {l:List Ent} {e:Ent} (h:LogOk g l) (he:g.el e.term≠none) (hh:Has (l++[e]) (l.length+1) (g.ll e.term)):LogOk g (l++[e]):=fun i x hx=>by
 rcases at_snoc hx with ⟨hi,hx⟩ | ⟨rfl,rfl⟩
 ·obtain ⟨k1,k2⟩:=h i x hx
  exact ⟨k1,k2.1,by rw [List.take_append_of_le_length (by omega)];exact k2.2⟩
 ·exact ⟨he,hh⟩
theorem prem_back (G:GOk mb init g) (h:Le g g') (own':∀ T,g.el T≠none->∀ (i:Nat) e,(g.ll T).length<=i->(g'.ll T)[i]?=some e->e.term=T) {T T'' n:Nat} (hT:g.el T≠none) (hT'':g.el T''≠none) (hn:n<=(g.ll T).length) (hlt:T<T'') (k:Has (g'.ll T) n (g'.ll T'')):Has (g.ll T) n (g.ll T''):=by
 have p1:=(h.el T hT).2.2
 have p2:=(h.el T'' hT'').2.2
 have k':=(has_ext p1 hn).1 k
 have hl:n<=(g.ll T'').length:=by
  rcases Nat.lt_or_ge (g.ll T'').length n with hl | hl
  ·exfalso
   have e1:=k'.at hl
   have hx:(g.ll T)[(g.ll T'').length]?=some (g.ll T)[(g.ll T'').length]:=List.getElem?_eq_getElem (by omega)
   have t1:=G.mono hT hx
   rw [hx] at e1
   have:=own' T'' hT'' _ _ (Nat.le_refl _) e1
   omega
  ·exact hl
 refine ⟨hl,?_⟩
 obtain ⟨r,hr⟩:=p2
 rw [<- k'.2,<- hr,List.take_append_of_le_length hl]
def Holds (g:G) (v t:Nat) (X:List Ent):Prop:=∀ T n,T<=t->n<=g.ack v T->g.el T≠none->(∀ T'',T<T''->T''<=t->g.el T''≠none->Has (g.ll T) n (g.ll T''))->Has (g.ll T) n X
theorem Holds.le (G:GOk mb init g) (h:Le g g') (own':∀ T,g.el T≠none->∀ (i:Nat) e,(g.ll T).length<=i->(g'.ll T)[i]?=some e->e.term=T) {v t:Nat} {X:List Ent} (hv:∀ T,T<=t->g.el T≠none->g'.ack v T=g.ack v T) (hel:∀ T,T<=t->g'.el T≠none->g.el T=none->g'.ack v T=0) (k:Holds g v t X):Holds g' v t X:=fun T n hT hn he hp=>by
 by_cases h0:g.el T=none
 ·have:=hel T hT he h0
  have:n=0:=by omega
  subst this
  exact ⟨Nat.zero_le _,by simp⟩
 ·rw [hv T hT h0] at hn
  have hl:=Nat.le_trans hn (G.ackd v T)
  refine (has_ext (h.el T h0).2.2 hl).2 (k T n hT hn h0 fun T'' q1 q2 q3=>?_)
  exact prem_back G h own' h0 q3 hl q1 (hp T'' q1 q2 (h.elne q3))
theorem Holds.up {v t t':Nat} {X:List Ent} (ht:t<=t') (hz:∀ T,t<T->T<=t'->g.ack v T=0) (k:Holds g v t X):Holds g v t' X:=fun T n hT hn he hp=>by
 rcases Nat.lt_or_ge t T with h | h
 ·have:=hz T h hT
  have:n=0:=by omega
  subst this
  exact ⟨Nat.zero_le _,by simp⟩
 ·exact k T n h hn he fun T'' q1 q2 q3=>hp T'' q1 (by omega) q3
theorem ConfOk.le (G:GOk mb init g) (h:Le g g') {T:Nat} {L:List Ent} {R:Nat->Nat->Prop} (k:ConfOk mb init g T L R):ConfOk mb init g' T L R:=fun p e c h1 h2=>by
 rcases k p e c h1 h2 with k | ⟨T0,n0,k1,k2,k3,k4,k5,k6⟩
 ·exact .inl k
 ·obtain ⟨elT,-,nl,-⟩:=G.evs T0 n0 k1
  exact .inr ⟨T0,n0,h.ev _ _ k1,k2,k3,k4,(has_ext (h.el T0 elT).2.2 nl).2 k5,k6⟩
theorem ConfOk.weak {T T':Nat} {L:List Ent} {R R':Nat->Nat->Prop} (hT:T<=T') (hR:∀ T0 n0,T0<=T->R T0 n0->R' T0 n0) (k:ConfOk mb init g T L R):ConfOk mb init g T' L R':=fun p e c h1 h2=>by
 rcases k p e c h1 h2 with k | ⟨T0,n0,k1,k2,k3,k4,k5,k6⟩
 ·exact .inl k
 ·exact .inr ⟨T0,n0,k1,k2,by omega,hR _ _ k3 k4,k5,k6⟩
theorem ConfOk.take {T:Nat} {L:List Ent} {R:Nat->Nat->Prop} (m:Nat) (k:ConfOk mb init g T L R):ConfOk mb init g T (L.take m) R:=fun p e c h1 h2=>by
 rw [List.getElem?_take] at h1
 split at h1
 ·rename_i hp
  have e1:(L.take m).take p=L.take p:=by rw [List.take_take,Nat.min_eq_left (by omega)]
  rcases k p e c h1 h2 with k | ⟨T0,n0,k1,k2,k3,k4,k5,k6⟩
  ·exact .inl (by rw [e1];exact k)
  ·have e2:(L.take m).take n0=L.take n0:=by rw [List.take_take,Nat.min_eq_left (by omega)]
   have hL:=(List.getElem?_eq_some_iff.1 h1).1
   exact .inr ⟨T0,n0,k1,k2,k3,k4,⟨by rw [List.length_take];omega,by rw [e2];exact k5.2⟩,by rw [e1,e2];exact k6⟩
 ·cases h1
theorem ConfOk.append1 {T:Nat} {L:List Ent} {e:Ent} {R:Nat->Nat->Prop} (k:ConfOk mb init g T L R) (hlast:∀ c,mb e=some c->cfgs mb init L=[init]\/∃ T0 n0,g.ev T0 n0/\n0<=L.length/\T0<=T/\R T0 n0/\Has (g.ll T0) n0 L/\cfgs mb init (L.take n0)=cfgs mb init L):ConfOk mb init g T (L++[e]) R:=fun p x c h1 h2=>by
 rcases at_snoc h1 with ⟨hp,h1⟩ | ⟨rfl,rfl⟩
 ·have e1:(L++[e]).take p=L.take p:=List.take_append_of_le_length (by omega)
  rcases k p x c h1 h2 with k | ⟨T0,n0,k1,k2,k3,k4,k5,k6⟩
  ·exact .inl (by rw [e1];exact k)
  ·have e2:(L++[e]).take n0=L.take n0:=List.take_append_of_le_length (by omega)
   exact .inr ⟨T0,n0,k1,k2,k3,k4,k5.pre ⟨[e],rfl⟩,by rw [e1,e2];exact k6⟩
 ·have e1:(L++[e]).take L.length=L:=by simp
  rcases hlast c h2 with k | ⟨T0,n0,k1,k2,k3,k4,k5,k6⟩
  ·exact .inl (by rw [e1];exact k)
  ·have e2:(L++[e]).take n0=L.take n0:=List.take_append_of_le_length (by omega)
   exact .inr ⟨T0,n0,k1,k2,k3,k4,k5.pre ⟨[e],rfl⟩,by rw [e1,e2];exact k6⟩
end
end
section
section
variable {mb:Ent->Option Memb} {init:Memb} {g:G}
/-! ### a vote -/
def gvote (g:G) (v T c:Nat) (V:List Ent):G:={ g with vl:=fun v' T'=>if v'=v/\T'=T then some (c,V) else g.vl v' T' }
theorem vote_self {v T c:Nat} {V:List Ent}:(gvote g v T c V).vl v T=some (c,V):=if_pos ⟨rfl,rfl⟩
theorem vote_le {v T c:Nat} {V:List Ent} (h:g.vl v T=none):Le g (gvote g v T c V):=⟨fun _ _=>⟨rfl,rfl,List.prefix_refl _⟩,fun v' T' x e=>by
 show (if _ then _ else _)=_
 split
 ·rename_i hc
  rw [hc.1,hc.2,h] at e;cases e
 ·exact e,fun _ _=>Nat.le_refl _,fun _ _ h=>h⟩
theorem GOk.voted (G:GOk mb init g) {v T c:Nat} {V:List Ent} (hn:g.vl v T=none) (hc:∃ F,(gvote g v T c V).vl c T=some (c,F)/\UpTo F V) (hlog:LogOk g V) (hold:∀ e∈V,e.term<T) (hh:Holds g v T V) (h1:1<=T):GOk mb init (gvote g v T c V):=by
 have le:=vote_le (c:=c) (V:=V) hn
 have inv:∀ {v' T' x},(gvote g v T c V).vl v' T'=some x->(v'=v/\T'=T/\x=(c,V))\/g.vl v' T'=some x:=fun {v' T' x} e=>by
  unfold gvote at e
  simp only at e
  split at e
  ·rename_i h
   simp only [Option.some.injEq] at e
   exact .inl ⟨h.1,h.2,e.symm⟩
  ·exact .inr e
 refine { pos:=G.pos,pre:=G.pre,old:=G.old,own:=G.own,lm:=fun T' h=>(G.lm T' h).le le,elq:=fun T' c' h=>?_,elc:=fun T' c' h=>le.vl _ _ _ (G.elc T' c' h),vote:=fun v' T' c' V' h=>?_,evs:=fun T' n h=>?_,conf:=fun T' h=>(G.conf T' h).le G le,chain:=G.chain,okI:=G.okI,ackd:=G.ackd,held:=fun v' T' c' V' h T1 n k1 k2 k3 k4=>?_ }
 ·obtain ⟨Q,q1,q2⟩:=G.elq T' c' h
  refine ⟨Q,q1,fun v hv=>?_⟩
  obtain ⟨V',h1,h2⟩:=q2 v hv
  exact ⟨V',le.vl _ _ _ h1,h2⟩
 ·rcases inv h with ⟨rfl,rfl,e⟩ | h
  ·cases e
   exact ⟨hc,hlog.le le,hold⟩
  ·obtain ⟨⟨F,h1,h2⟩,h3,h4⟩:=G.vote v' T' c' V' h
   exact ⟨⟨F,le.vl _ _ _ h1,h2⟩,h3.le le,h4⟩
 ·obtain ⟨e1,e2,e3,m,Q,e4,e5,e6,e7,e8⟩:=G.evs T' n h
  exact ⟨e1,e2,e3,m,Q,e4,e5,e6,e7,e8.le G le⟩
 ·rcases inv h with ⟨rfl,rfl,e⟩ | h
  ·cases e
   exact hh T1 n (Nat.le_of_lt k1) k2 k3 k4
  ·exact G.held v' T' c' V' h T1 n k1 k2 k3 k4
/-! ### an acknowledgement -/
def gacks (g:G) (v T n:Nat):G:={ g with ack:=fun v' T'=>if v'=v/\T'=T then max (g.ack v T) n else g.ack v' T' }
theorem acks_le {v T n:Nat}:Le g (gacks g v T n):=⟨fun _ _=>⟨rfl,rfl,List.prefix_refl _⟩,fun _ _ _ e=>e,fun v' T'=>by
 show _<=(if _ then _ else _)
 split
 ·rename_i h
  rw [h.1,h.2];exact Nat.le_max_left _ _
 ·exact Nat.le_refl _,fun _ _ h=>h⟩
theorem GOk.acked (G:GOk mb init g) {v T n:Nat} (hn:n<=(g.ll T).length) (hv:∀ T',T<T'->g.vl v T'=none):GOk mb init (gacks g v T n):=by
 have le:=acks_le (g:=g) (v:=v) (T:=T) (n:=n)
 have off:∀ {v' T' x T1},g.vl v' T'=some x->T1<T'->(gacks g v T n).ack v' T1=g.ack v' T1:=fun {v' T' x T1} e h=>by
  show (if _ then _ else _)=_
  split
  ·rename_i k
   rw [k.1,hv T' (by omega)] at e;cases e
  ·rfl
 refine { pos:=G.pos,pre:=G.pre,old:=G.old,own:=G.own,lm:=fun T' h=>(G.lm T' h).le le,elq:=fun T' c' h=>?_,elc:=G.elc,vote:=fun v' T' c' V' h=>?_,evs:=fun T' n h=>?_,conf:=fun T' h=>(G.conf T' h).le G le,chain:=G.chain,okI:=G.okI,ackd:=fun v' T'=>?_,held:=fun v' T' c' V' h T1 n k1 k2 k3 k4=>?_ }
 ·obtain ⟨Q,q1,q2⟩:=G.elq T' c' h
  refine ⟨Q,q1,fun v hv=>?_⟩
  obtain ⟨V',h1,h2⟩:=q2 v hv
  exact ⟨V',h1,fun T1 n k1 k2 k3 k4=>h2 T1 n k1 (by rwa [off h1 k1] at k2) k3 k4⟩
 ·obtain ⟨h2,h3,h4⟩:=G.vote v' T' c' V' h
  exact ⟨h2,h3.le le,h4⟩
 ·obtain ⟨e1,e2,e3,m,Q,e4,e5,e6,e7,e8⟩:=G.evs T' n h
  exact ⟨e1,e2,e3,m,Q,e4,e5,e6,fun v hv=>Nat.le_trans (e7 v hv) (le.ack _ _),e8.le G le⟩
 ·show (if _ then _ else _)<=_
  split
  ·rename_i k
   have:=G.ackd v' T'
   rw [k.2] at*
   rw [k.1] at this
   exact Nat.max_le.2 ⟨this,hn⟩
  ·exact G.ackd v' T'
 ·exact G.held v' T' c' V' h T1 n k1 (by rwa [off h k1] at k2) k3 k4
/-! ### a commit -/
def gcommits (g:G) (T n:Nat):G:={ g with ev:=fun T' n'=>g.ev T' n'\/(T'=T/\n'=n) }
theorem commits_le {T n:Nat}:Le g (gcommits g T n):=⟨fun _ _=>⟨rfl,rfl,List.prefix_refl _⟩,fun _ _ _ e=>e,fun _ _=>Nat.le_refl _,fun _ _ h=>.inl h⟩
theorem GOk.committed (G:GOk mb init g) {T n:Nat} (e1:g.el T≠none) (e2:(g.E T).length<n) (e3:n<=(g.ll T).length) {Q:Nat->Prop} (e6:Quo (cfg mb init (g.ll T)) Q) (e7:∀ v,Q v->n<=g.ack v T) (hev:∀ n',g.ev T n'->n'<n):GOk mb init (gcommits g T n):=by
 have le:=commits_le (g:=g) (T:=T) (n:=n)
 refine { pos:=G.pos,pre:=G.pre,old:=G.old,own:=G.own,lm:=fun T' h=>(G.lm T' h).le le,elq:=G.elq,elc:=G.elc,vote:=fun v' T' c' V' h=>?_,evs:=fun T' n' h=>?_,conf:=fun T' h=>(G.conf T' h).le G le,chain:=G.chain,okI:=G.okI,ackd:=G.ackd,held:=G.held }
 ·obtain ⟨h2,h3,h4⟩:=G.vote v' T' c' V' h
  exact ⟨h2,h3.le le,h4⟩
 ·rcases h with h | ⟨rfl,rfl⟩
  ·obtain ⟨e1,e2,e3,m,Q,e4,e5,e6,e7,e8⟩:=G.evs T' n' h
   exact ⟨e1,e2,e3,m,Q,e4,e5,e6,e7,e8.le G le⟩
  ·refine ⟨e1,e2,e3,(g.ll T').length,Q,e3,Nat.le_refl _,(by rw [show (gcommits g T' n').ll T'=g.ll T' from rfl,List.take_length];exact e6),e7,?_⟩
   have hc:ConfOk mb init g T' (g.ll T') fun T0 n0=>T0=T'->n0<n':=fun p e c h1 h2=>by
    rcases G.conf T' e1 p e c h1 h2 with k | ⟨T0,n0,k1,k2,k3,k4,k5,k6⟩
    ·exact .inl k
    ·exact .inr ⟨T0,n0,k1,k2,k3,fun e=>hev n0 (e ▸ k1),k5,k6⟩
   have:=(hc.le G le).take (g.ll T').length
   exact this
/-! ### a leader's log grows -/
def gextend (g:G) (c T:Nat) (e:Ent):G:={ g with ll:=fun T'=>if T'=T then g.ll T++[e] else g.ll T',ack:=fun v' T'=>if v'=c/\T'=T then (g.ll T).length+1 else g.ack v' T' }
theorem extend_ll {c T:Nat} {e:Ent}:(gextend g c T e).ll T=g.ll T++[e]:=if_pos rfl
theorem extend_ll_ne {c T T':Nat} {e:Ent} (h:T'≠T):(gextend g c T e).ll T'=g.ll T':=if_neg h
theorem extend_ack {c T:Nat} {e:Ent}:(gextend g c T e).ack c T=(g.ll T).length+1:=if_pos ⟨rfl,rfl⟩
theorem extend_pre (g:G) (c T:Nat) (e:Ent) (T':Nat):g.ll T' <+: (gextend g c T e).ll T':=by
 by_cases h:T'=T
 ·subst h;rw [extend_ll];exact ⟨[e],rfl⟩
 ·rw [extend_ll_ne h];exact List.prefix_refl _
theorem extend_le (G:GOk mb init g) {c T:Nat} {e:Ent}:Le g (gextend g c T e):=⟨fun T' _=>⟨rfl,rfl,extend_pre g c T e T'⟩,fun _ _ _ e=>e,fun v' T'=>by
 show _<=(if _ then _ else _)
 split
 ·rename_i h
  rw [h.1,h.2];exact Nat.le_succ_of_le (G.ackd c T)
 ·exact Nat.le_refl _,fun _ _ h=>h⟩
theorem extend_own {c T:Nat} {e:Ent} (het:e.term=T):∀ T',g.el T'≠none->∀ (i:Nat) x,(g.ll T').length<=i->((gextend g c T e).ll T')[i]?=some x->x.term=T':=fun T' _ i x hi hx=>by
 by_cases h:T'=T
 ·subst h
  rw [extend_ll] at hx
  rcases at_snoc hx with ⟨h,_⟩ | ⟨_,rfl⟩
  ·omega
  ·exact het
 ·rw [extend_ll_ne h,List.getElem?_eq_none hi] at hx;cases hx
theorem GOk.extended (G:GOk mb init g) {c T:Nat} {e:Ent} (hel:g.el T=some c) (het:e.term=T) (hv:∀ T',T<T'->g.vl c T'=none)
  (hmb:∀ d,mb e=some d->Succ (cfg mb init (g.ll T)) d/\OkM d/\(cfgs mb init (g.ll T)=[init]\/∃ T0 n0,g.ev T0 n0/\n0<=(g.ll T).length/\T0<=T/\Has (g.ll T0) n0 (g.ll T)/\cfgs mb init ((g.ll T).take n0)=cfgs mb init (g.ll T))):GOk mb init (gextend g c T e):=by
 have le:=extend_le G (c:=c) (T:=T) (e:=e)
 have hne:g.el T≠none:=by rw [hel];exact fun h=>by cases h
 have own':=extend_own (g:=g) (c:=c) het
 have off:∀ {v' T' x T1},g.vl v' T'=some x->T1<T'->(gextend g c T e).ack v' T1=g.ack v' T1:=fun {v' T' x T1} e' h=>by
  show (if _ then _ else _)=_
  split
  ·rename_i k
   rw [k.1,hv T' (by omega)] at e';cases e'
  ·rfl
 have lenT:(g.ll T).length<=((gextend g c T e).ll T).length:=(extend_pre g c T e T).length_le
 refine { pos:=G.pos,pre:=fun T' h=>?_,old:=G.old,own:=fun T' h i x hi hx=>?_,lm:=fun T' h=>?_,elq:=fun T' c' h=>?_,elc:=G.elc,vote:=fun v' T' c' V' h=>?_,evs:=fun T' n h=>?_,conf:=fun T' h=>?_,chain:=fun T' h=>?_,okI:=G.okI,ackd:=fun v' T'=>?_,held:=fun v' T' c' V' h T1 n k1 k2 k3 k4=>?_ }
 ·obtain ⟨p1,p2⟩:=G.pre T' h
  exact ⟨p1.trans (extend_pre g c T e T'),Nat.lt_of_lt_of_le p2 (extend_pre g c T e T').length_le⟩
 ·rcases Nat.lt_or_ge i (g.ll T').length with hl | hl
  ·refine G.own T' h i x hi ?_
   obtain ⟨r,hr⟩:=extend_pre g c T e T'
   rw [<- hr,List.getElem?_append_left hl] at hx
   exact hx
  ·exact own' T' h i x hl hx
 ·by_cases hT:T'=T
  ·subst hT
   rw [extend_ll]
   refine LogOk.append1 ((G.lm T' h).le le) (by rw [het];exact h) ?_
   rw [het,extend_ll]
   exact Has.self (by simp)
  ·rw [extend_ll_ne hT]
   exact (G.lm T' h).le le
 ·obtain ⟨Q,q1,q2⟩:=G.elq T' c' h
  refine ⟨Q,q1,fun v hv=>?_⟩
  obtain ⟨V',h1,h2⟩:=q2 v hv
  refine ⟨V',h1,fun T1 n k1 k2 k3 k4=>?_⟩
  rw [off h1 k1] at k2
  have hl:=Nat.le_trans k2 (G.ackd v T1)
  exact (has_ext (extend_pre g c T e T1) hl).2 (h2 T1 n k1 k2 k3 fun T'' q1 q2 q3=>prem_back G le own' k3 q3 hl q1 (k4 T'' q1 q2 q3))
 ·obtain ⟨h2,h3,h4⟩:=G.vote v' T' c' V' h
  exact ⟨h2,h3.le le,h4⟩
 ·obtain ⟨e1,e2,e3,m,Q,e4,e5,e6,e7,e8⟩:=G.evs T' n h
  have hp:=extend_pre g c T e T'
  have ht:((gextend g c T e).ll T').take m=(g.ll T').take m:=by
   obtain ⟨r,hr⟩:=hp
   rw [<- hr,List.take_append_of_le_length e5]
  refine ⟨e1,e2,Nat.le_trans e3 hp.length_le,m,Q,e4,Nat.le_trans e5 hp.length_le,by rw [ht];exact e6,fun v hv=>Nat.le_trans (e7 v hv) (le.ack _ _),by rw [ht];exact e8.le G le⟩
 ·by_cases hT:T'=T
  ·subst hT
   rw [extend_ll]
   refine ((G.conf T' h).le G le).append1 fun d hd=>?_
   obtain ⟨-,-,h3⟩:=hmb d hd
   rcases h3 with h3 | ⟨T0,n0,k1,k2,k3,k4,k5⟩
   ·exact .inl h3
   ·obtain ⟨elT,-,nl,-⟩:=G.evs T0 n0 k1
    exact .inr ⟨T0,n0,k1,k2,k3,trivial,(has_ext (extend_pre g c T' e T0) nl).2 k4,k5⟩
  ·rw [extend_ll_ne hT]
   exact (G.conf T' h).le G le
 ·by_cases hT:T'=T
  ·subst hT
   rw [extend_ll]
   obtain ⟨h1,h2⟩:=G.chain T' h
   cases hm:mb e with
   | none=>
    have:cfgs mb init (g.ll T'++[e])=cfgs mb init (g.ll T'):=by simp [cfgs,hm]
    rw [this];exact ⟨h1,h2⟩
   | some d=>
    have:cfgs mb init (g.ll T'++[e])=cfgs mb init (g.ll T')++[d]:=by simp [cfgs,hm]
    rw [this]
    obtain ⟨h3,h4,-⟩:=hmb d hm
    refine ⟨?_,fun x hx=>(List.mem_append.1 hx).elim (h2 x) fun h=>by rw [List.mem_singleton.1 h];exact h4⟩
    have key:∀ (l:List Memb) (hl:l≠[]),Chain l->Succ (l.getLast hl) d->Chain (l++[d]):=by
     intro l
     induction l with
     | nil=>intro hl;exact absurd rfl hl
     | cons a l ih=>
      intro hl hc hs
      cases l with
      | nil=>exact ⟨hs,trivial⟩
      | cons b l=>exact ⟨hc.1,ih (by simp) hc.2 (by simpa using hs)⟩
    exact key _ (by simp [cfgs]) h1 h3
  ·rw [extend_ll_ne hT]
   exact G.chain T' h
 ·show (if _ then _ else _)<=_
  split
  ·rename_i k
   rw [k.2,extend_ll];simp
  ·exact Nat.le_trans (G.ackd v' T') (extend_pre g c T e T').length_le
 ·rw [off h k1] at k2
  have hl:=Nat.le_trans k2 (G.ackd v' T1)
  exact (has_ext (extend_pre g c T e T1) hl).2 (G.held v' T' c' V' h T1 n k1 k2 k3 fun T'' q1 q2 q3=>prem_back G le own' k3 q3 hl q1 (k4 T'' q1 q2 q3))
end
end
section
section
variable {mb:Ent->Option Memb} {init:Memb} {g:G}
def gelect (g:G) (T c:Nat) (F:List Ent) (nop:Ent):G:={ g with el:=fun T'=>if T'=T then some c else g.el T',E:=fun T'=>if T'=T then F else g.E T',ll:=fun T'=>if T'=T then F++[nop] else g.ll T',ack:=fun v' T'=>if v'=c/\T'=T then F.length+1 else g.ack v' T' }
section
variable {T c:Nat} {F:List Ent} {nop:Ent}
theorem elect_el:(gelect g T c F nop).el T=some c:=if_pos rfl
theorem elect_el_ne {T':Nat} (h:T'≠T):(gelect g T c F nop).el T'=g.el T':=if_neg h
theorem elect_E:(gelect g T c F nop).E T=F:=if_pos rfl
theorem elect_E_ne {T':Nat} (h:T'≠T):(gelect g T c F nop).E T'=g.E T':=if_neg h
theorem elect_ll:(gelect g T c F nop).ll T=F++[nop]:=if_pos rfl
theorem elect_ll_ne {T':Nat} (h:T'≠T):(gelect g T c F nop).ll T'=g.ll T':=if_neg h
theorem elect_ack:(gelect g T c F nop).ack c T=F.length+1:=if_pos ⟨rfl,rfl⟩
theorem elect_ack_ne {v T':Nat} (h:¬(v=c/\T'=T)):(gelect g T c F nop).ack v T'=g.ack v T':=if_neg h
theorem elect_le (h0:g.el T=none) (hz:∀ v,g.ack v T=0):Le g (gelect g T c F nop):=by
 have ne:∀ {T'},g.el T'≠none->T'≠T:=fun {T'} h e=>h (e ▸ h0)
 refine ⟨fun T' h=>⟨elect_el_ne (ne h),elect_E_ne (ne h),by rw [elect_ll_ne (ne h)];exact List.prefix_refl _⟩,fun _ _ _ e=>e,fun v' T'=>?_,fun _ _ h=>h⟩
 by_cases h:v'=c/\T'=T
 ·obtain ⟨rfl,rfl⟩:=h
  rw [hz];exact Nat.zero_le _
 ·rw [elect_ack_ne h];exact Nat.le_refl _
theorem cfgs_snoc_none {l:List Ent} {e:Ent} (h:mb e=none):cfgs mb init (l++[e])=cfgs mb init l:=by simp [cfgs,h]
theorem cfgs_snoc {l:List Ent} {e:Ent} {d:Memb} (h:mb e=some d):cfgs mb init (l++[e])=cfgs mb init l++[d]:=by simp [cfgs,h]
theorem LogOk.conf (G:GOk mb init g) {F:List Ent} {T:Nat} (h:LogOk g F) (hT:∀ e∈F,e.term<=T):ConfOk mb init g T F fun _ _=>True:=by
 by_cases hF:F=[]
 ·subst hF
  intro p e c h1;simp at h1
 ·obtain ⟨elL,hw1,hw2⟩:=h.whole hF
  obtain ⟨eL,heL,htL⟩:=last_at hF
  have hTl:lastT F<=T:=by rw [htL];exact hT eL (List.mem_of_getElem? heL)
  have eqF:F=(g.ll (lastT F)).take F.length:=by have:=hw1.2;rw [List.take_length] at this;exact this.symm
  have:=(G.conf _ elL).take F.length
  rw [<- eqF] at this
  exact this.weak hTl fun _ _ _ h=>h
theorem LogOk.chain (G:GOk mb init g) {F:List Ent} (h:LogOk g F):Chain (cfgs mb init F)/\∀ x∈cfgs mb init F,OkM x:=by
 by_cases hF:F=[]
 ·subst hF
  exact ⟨trivial,fun x hx=>by
   have:x=init:=by simpa [cfgs] using hx
   rw [this];exact G.okI⟩
 ·obtain ⟨elL,hw1,hw2⟩:=h.whole hF
  obtain ⟨chL,okL⟩:=G.chain _ elL
  have eqF:F=(g.ll (lastT F)).take F.length:=by have:=hw1.2;rw [List.take_length] at this;exact this.symm
  have preL:cfgs mb init F <+: cfgs mb init (g.ll (lastT F)):=by
   have:=cfgs_pre mb init (List.take_prefix F.length (g.ll (lastT F)))
   rwa [<- eqF] at this
  exact ⟨chain_pre preL chL,fun x hx=>okL x (preL.subset hx)⟩
theorem GOk.elected (G:GOk mb init g) (h0:g.el T=none) (hw:Won mb init g T c F) (h1:1<=T) (hnt:nop.term=T) (hmb:mb nop=none) (hv:∀ T',T<T'->g.vl c T'=none) (hz:∀ v,g.ack v T=0):GOk mb init (gelect g T c F nop):=by
 have le:=elect_le (c:=c) (F:=F) (nop:=nop) h0 hz
 have ne:∀ {T'},g.el T'≠none->T'≠T:=fun {T'} h e=>h (e ▸ h0)
 obtain ⟨hcF,Q0,hQ0,hvote⟩:=hw
 obtain ⟨-,logF,oldF⟩:=G.vote c T c F hcF
 have back:∀ {v T1 T' n X} {x:Nat × List Ent},T1<T'->g.vl v T'=some x->n<=(gelect g T c F nop).ack v T1->(gelect g T c F nop).el T1≠none->
   (n<=g.ack v T1->g.el T1≠none->T1≠T->Has ((gelect g T c F nop).ll T1) n X)->Has ((gelect g T c F nop).ll T1) n X:=fun {v T1 T' n X x} hlt hx hn he k=>by
  by_cases e:T1=T
  ·subst e
   by_cases ec:v=c
   ·subst ec;rw [hv T' hlt] at hx;cases hx
   ·rw [elect_ack_ne (fun h=>ec h.1),hz] at hn
    have:n=0:=by omega
    subst this
    exact ⟨Nat.zero_le _,by simp⟩
  ·rw [elect_ack_ne (fun h=>e h.2)] at hn
   rw [elect_el_ne e] at he
   exact k hn he e
 refine { pos:=fun T' h=>?_,pre:=fun T' h=>?_,old:=fun T' h=>?_,own:=fun T' h i x hi hx=>?_,lm:=fun T' h=>?_,elq:=fun T' c' h=>?_,elc:=fun T' c' h=>?_,vote:=fun v' T' c' V' h=>?_,evs:=fun T' n h=>?_,conf:=fun T' h=>?_,chain:=fun T' h=>?_,okI:=G.okI,ackd:=fun v' T'=>?_,held:=fun v' T' c' V' h T1 n k1 k2 k3 k4=>?_ }
 ·by_cases e:T'=T
  ·rw [e];exact h1
  ·rw [elect_el_ne e] at h;exact G.pos T' h
 ·by_cases e:T'=T
  ·subst e
   rw [elect_E,elect_ll]
   exact ⟨⟨[nop],rfl⟩,by simp⟩
  ·rw [elect_el_ne e] at h;rw [elect_E_ne e,elect_ll_ne e];exact G.pre T' h
 ·by_cases e:T'=T
  ·subst e
   rw [elect_E];exact oldF
  ·rw [elect_el_ne e] at h;rw [elect_E_ne e];exact G.old T' h
 ·by_cases e:T'=T
  ·subst e
   rw [elect_E] at hi
   rw [elect_ll] at hx
   rcases at_snoc hx with ⟨h,_⟩ | ⟨_,rfl⟩
   ·omega
   ·exact hnt
  ·rw [elect_el_ne e] at h;rw [elect_E_ne e] at hi;rw [elect_ll_ne e] at hx;exact G.own T' h i x hi hx
 ·by_cases e:T'=T
  ·subst e
   rw [elect_ll]
   refine (logF.le le).append1 (by rw [hnt];exact h) ?_
   rw [hnt,elect_ll]
   exact Has.self (by simp)
  ·rw [elect_el_ne e] at h;rw [elect_ll_ne e];exact (G.lm T' h).le le
 ·by_cases e:T'=T
  ·subst e
   rw [elect_el] at h
   cases h
   rw [elect_E]
   refine ⟨Q0,hQ0,fun v hvQ=>?_⟩
   obtain ⟨V,hV⟩:=hvote v hvQ
   refine ⟨V,hV,fun T1 n k1 k2 k3 k4=>back k1 hV k2 k3 fun k2 k3 e1=>?_⟩
   rw [elect_ll_ne e1]
   refine G.held v T' c V hV T1 n k1 k2 k3 fun T'' q1 q2 q3=>?_
   have q4:=ne q3
   have:=k4 T'' q1 (by omega) (le.elne q3)
   rwa [elect_ll_ne e1,elect_ll_ne q4] at this
  ·rw [elect_el_ne e] at h
   rw [elect_E_ne e]
   obtain ⟨Q,q1,q2⟩:=G.elq T' c' h
   refine ⟨Q,q1,fun v hvQ=>?_⟩
   obtain ⟨V,h1,h2⟩:=q2 v hvQ
   refine ⟨V,h1,fun T1 n k1 k2 k3 k4=>back k1 h1 k2 k3 fun k2 k3 e1=>?_⟩
   rw [elect_ll_ne e1]
   refine h2 T1 n k1 k2 k3 fun T'' q1 q2 q3=>?_
   have:=k4 T'' q1 q2 (le.elne q3)
   rwa [elect_ll_ne e1,elect_ll_ne (ne q3)] at this
 ·by_cases e:T'=T
  ·subst e
   rw [elect_el] at h
   cases h
   rw [elect_E];exact hcF
  ·rw [elect_el_ne e] at h;rw [elect_E_ne e];exact G.elc T' c' h
 ·obtain ⟨h2,h3,h4⟩:=G.vote v' T' c' V' h
  exact ⟨h2,h3.le le,h4⟩
 ·obtain ⟨e1,e2,e3,m,Q,e4,e5,e6,e7,e8⟩:=G.evs T' n h
  have e:=ne e1
  rw [elect_E_ne e,elect_ll_ne e,elect_el_ne e]
  exact ⟨e1,e2,e3,m,Q,e4,e5,e6,fun v hv=>Nat.le_trans (e7 v hv) (le.ack _ _),e8.le G le⟩
 ·by_cases e:T'=T
  ·subst e
   rw [elect_ll]
   exact ((logF.conf G fun x hx=>Nat.le_of_lt (oldF x hx)).le G le).append1 fun d hd=>by rw [hmb] at hd;cases hd
  ·rw [elect_el_ne e] at h;rw [elect_ll_ne e];exact (G.conf T' h).le G le
 ·by_cases e:T'=T
  ·subst e
   rw [elect_ll,cfgs_snoc_none hmb]
   exact logF.chain G
  ·rw [elect_el_ne e] at h;rw [elect_ll_ne e];exact G.chain T' h
 ·by_cases e:T'=T
  ·subst e
   rw [elect_ll]
   by_cases ec:v'=c
   ·subst ec;rw [elect_ack];simp
   ·rw [elect_ack_ne (fun h=>ec h.1),hz];exact Nat.zero_le _
  ·rw [elect_ll_ne e,elect_ack_ne (fun h=>e h.2)];exact G.ackd v' T'
 ·refine back k1 h k2 k3 fun k2 k3 e1=>?_
  rw [elect_ll_ne e1]
  refine G.held v' T' c' V' h T1 n k1 k2 k3 fun T'' q1 q2 q3=>?_
  have:=k4 T'' q1 q2 (le.elne q3)
  rwa [elect_ll_ne e1,elect_ll_ne (ne q3)] at this
end
end
end
section
/-! ### encodings -/
def encF:Nat->Nat->List UInt8
 | 0,_=>[]
 | f+1,u=>if u<128 then [UInt8.ofNat u] else UInt8.ofNat (u % 128+128)::encF f (u / 128)
def encI (n:Nat):List UInt8:=encF 10 (2*n)
def encInts (l:List Nat):List UInt8:=encI l.length++l.flatMap encI
def encM (c:Memb):List UInt8:=encInts c.old++encInts c.new
def PermL (l:List Nat):Prop:=l≠[]/\l.Pairwise (·<·)/\∀ x∈l,x<9
structure Permit (c:Memb):Prop where
 old:PermL c.old
 new:c.new=[]\/PermL c.new
open Classical in
noncomputable def mbOf (e:Ent):Option Memb:=if h:e.kind=3/\∃ c,Permit c/\encM c=e.body then some h.2.choose else none
theorem PermL.len {l:List Nat} (h:PermL l):l.length<=9:=by
 have:=nodup_sub_len (a:=l) (l:=List.range 9) (h.2.1.imp fun h=>Nat.ne_of_lt h) fun x hx=>List.mem_range.2 (h.2.2 x hx)
 simpa using this
theorem encI_small {n:Nat} (h:n<64):encI n=[UInt8.ofNat (2*n)]:=by
 unfold encI encF
 rw [if_pos (by omega)]
theorem encInts_small {l:List Nat} (h:l.length<64) (hl:∀ x∈l,x<64):encInts l=UInt8.ofNat (2*l.length)::l.map fun n=>UInt8.ofNat (2*n):=by
 unfold encInts
 rw [encI_small h]
 have:∀ l:List Nat,(∀ x∈l,x<64)->l.flatMap encI=l.map fun n=>UInt8.ofNat (2*n):=by
  intro l
  induction l with
  | nil=>intro _;rfl
  | cons a l ih=>intro h;rw [List.flatMap_cons,encI_small (h a (.head _)),ih fun x hx=>h x (.tail _ hx)];rfl
 rw [this l hl];rfl
theorem u8_inj {a b:Nat} (ha:a<64) (hb:b<64) (h:UInt8.ofNat (2*a)=UInt8.ofNat (2*b)):a=b:=by
 have:=congrArg UInt8.toNat h
 simp only [UInt8.toNat_ofNat'] at this
 omega
theorem map_inj8:∀ {l l':List Nat},(∀ x∈l,x<64)->(∀ x∈l',x<64)->(l.map fun n=>UInt8.ofNat (2*n))=(l'.map fun n=>UInt8.ofNat (2*n))->l=l'
 | [],[],_,_,_=>rfl
 | [],_::_,_,_,h=>by cases h
 | _::_,[],_,_,h=>by cases h
 | a::l,b::l',h1,h2,h=>by
  simp only [List.map_cons,List.cons.injEq] at h
  rw [u8_inj (h1 a (.head _)) (h2 b (.head _)) h.1,map_inj8 (fun x hx=>h1 x (.tail _ hx)) (fun x hx=>h2 x (.tail _ hx)) h.2]
theorem encInts_inj {a b:List Nat} {r r':List UInt8} (ha:a.length<64) (hb:b.length<64) (h1:∀ x∈a,x<64) (h2:∀ x∈b,x<64) (h:encInts a++r=encInts b++r'):a=b/\r=r':=by
 rw [encInts_small ha h1,encInts_small hb h2] at h
 simp only [List.cons_append,List.cons.injEq] at h
 have hl:=u8_inj ha hb h.1
 obtain ⟨e1,e2⟩:=List.append_inj h.2 (by simp [hl])
 exact ⟨map_inj8 h1 h2 e1,e2⟩
theorem Permit.lens {c:Memb} (h:Permit c):(c.old.length<64/\∀ x∈c.old,x<64)/\(c.new.length<64/\∀ x∈c.new,x<64):=by
 have a:=h.old.len
 refine ⟨⟨by omega,fun x hx=>by have:=h.old.2.2 x hx;omega⟩,?_⟩
 rcases h.new with e | e
 ·rw [e];exact ⟨by simp,fun x hx=>by cases hx⟩
 ·have b:=e.len
  exact ⟨by omega,fun x hx=>by have:=e.2.2 x hx;omega⟩
theorem encM_inj {c d:Memb} (hc:Permit c) (hd:Permit d) (h:encM c=encM d):c=d:=by
 obtain ⟨⟨a1,a2⟩,a3,a4⟩:=hc.lens
 obtain ⟨⟨b1,b2⟩,b3,b4⟩:=hd.lens
 obtain ⟨e1,e2⟩:=encInts_inj a1 b1 a2 b2 h
 obtain ⟨e3,-⟩:=encInts_inj (r:=[]) (r':=[]) a3 b3 a4 b4 (by simpa using e2)
 cases c;cases d
 simp only at e1 e3
 rw [e1,e3]
theorem encInts_len {l:List Nat} (h:l.length<=9) (hl:∀ x∈l,x<64):(encInts l).length<=10:=by
 rw [encInts_small (by omega) hl]
 simp;omega
theorem encM_len {c:Memb} (h:Permit c):(encM c).length<=20:=by
 obtain ⟨⟨a1,a2⟩,a3,a4⟩:=h.lens
 have x:=encInts_len h.old.len a2
 have y:(encInts c.new).length<=10:=encInts_len (h.new.elim (fun e=>by simp [e]) PermL.len) a4
 unfold encM
 rw [List.length_append];omega
theorem mbOf_memb {T:Nat} {c:Memb} (h:Permit c):mbOf ⟨T,3,encM c⟩=some c:=by
 have hx:(⟨T,3,encM c⟩:Ent).kind=3/\∃ d,Permit d/\encM d=(⟨T,3,encM c⟩:Ent).body:=⟨rfl,c,h,rfl⟩
 unfold mbOf
 rw [dif_pos hx]
 obtain ⟨h1,h2⟩:=hx.2.choose_spec
 rw [encM_inj h1 h h2]
theorem mbOf_not {e:Ent} (h:e.kind≠3):mbOf e=none:=dif_neg fun k=>h k.1
theorem mbOf_some {e:Ent} {c:Memb} (h:mbOf e=some c):e.kind=3/\Permit c/\encM c=e.body:=by
 unfold mbOf at h
 split at h
 ·rename_i k
  cases h
  exact ⟨k.1,k.2.choose_spec⟩
 ·cases h
theorem PermL.nodup {l:List Nat} (h:PermL l):l.Nodup:=h.2.1.imp fun h=>Nat.ne_of_lt h
theorem Permit.ok {c:Memb} (h:Permit c):OkM c:=⟨h.old.nodup,h.new.elim (fun e=>by rw [e];exact List.nodup_nil) PermL.nodup⟩
/-! ### nodes -/
structure Msg where
 kind:Nat
 src:Nat
 dst:Nat
 term:Nat
 prev:Nat
 prevTerm:Nat
 commit:Nat
 granted:Bool
 ents:List Ent
structure PN where
 id:Nat
 wait:Nat
 beat:Nat
 init:Memb
 term:Nat
 voted:Option Nat
 log:List Ent
 role:Nat
 leader:Option Nat
 commit:Nat
 since:Nat
 hb:Nat
 latest:Nat
 votes:List Bool
 next:List Nat
 mtch:List Nat
noncomputable def PN.memb (s:PN):Memb:=cfg mbOf s.init s.log
noncomputable def membAt (l:List Ent):Nat:=l.length - l.reverse.findIdx fun e=>(mbOf e).isSome
theorem membAt_snoc (l:List Ent) (e:Ent):membAt (l++[e])=if (mbOf e).isSome=true then l.length+1 else membAt l:=by
 unfold membAt
 rw [List.reverse_append,List.reverse_singleton,List.singleton_append,List.findIdx_cons,List.length_append,List.length_singleton]
 cases (mbOf e).isSome
 ·simp only [cond_false,Bool.false_eq_true,if_false];omega
 ·simp
def members (c:Memb):List Nat:=(List.range 9).filter fun x=>decide (x∈c.old\/x∈c.new)
noncomputable def PN.others (s:PN):List Nat:=(members s.memb).filter fun x=>decide (x≠s.id)
def mergeL (log:List Ent):Nat->List Ent->List Ent
 | _,[]=>log
 | n,e::l=>if log[n]?=some e then mergeL log (n+1) l else log.take n++e::l
def termAt (l:List Ent) (n:Nat):Option Nat:=if n=0 then some 0 else l[n - 1]?.map (·.term)
def cmt (l:List Nat) (f:Nat->Nat):Nat:=((l.map f).mergeSort (fun a b=>decide (a<=b))).getD (l.length - (l.length / 2+1)) 0
def committedS (c:Memb) (f:Nat->Nat):Nat:=if c.new=[] then cmt c.old f else min (cmt c.old f) (cmt c.new f)
def PN.reach (s:PN) (m:Nat):Nat:=if m=s.id then s.log.length else s.mtch.getD m 0
open Classical in
noncomputable def advC (s:PN):PN:=if termAt s.log (committedS s.memb s.reach)=some s.term/\s.commit<committedS s.memb s.reach then { s with commit:=committedS s.memb s.reach } else s
open Classical in
noncomputable def advS (s:PN):PN:=
 if membAt s.log=0\/(advC s).commit<membAt s.log then advC s
 else if s.memb.new≠[] then { advC s with log:=s.log++[⟨s.term,3,encM ⟨s.memb.new,[]⟩⟩] }
 else if s.id∈members s.memb then advC s else { advC s with role:=1,leader:=none }
def sendAppendS (s:PN) (to:Nat):Msg:=⟨3,s.id,to,s.term,s.next.getD to 0 - 1,(termAt s.log (s.next.getD to 0 - 1)).getD 0,s.commit,false,(s.log.drop (s.next.getD to 0 - 1)).take 16⟩
noncomputable def sendAll (s:PN):List Msg:=s.others.map (sendAppendS s)
def leadB (s:PN):PN:={ s with role:=3,leader:=some s.id,next:=List.replicate 9 (s.log.length+1),mtch:=List.replicate 9 0,log:=s.log++[⟨s.term,1,[]⟩] }
noncomputable def leadS (s:PN) (now:Nat):PN × List Msg:=({ advS (leadB s) with hb:=now },sendAll (advS (leadB s)))
def majV (l:List Nat) (v:List Bool):Prop:=l.length / 2+1<=(l.filter fun m=>v.getD m false).length
def Elected (s:PN):Prop:=majV s.memb.old s.votes/\(s.memb.new=[]\/majV s.memb.new s.votes)
def startB (s:PN) (now:Nat):PN:={ s with term:=s.term+1,voted:=some s.id,role:=2,leader:=none,since:=now,votes:=(List.replicate 9 false).set s.id true }
open Classical in
noncomputable def startS (s:PN) (now:Nat):PN × List Msg:=
 if Elected (startB s now) then leadS (startB s now) now
 else (startB s now,(startB s now).others.map fun to=>⟨1,s.id,to,s.term+1,s.log.length,lastT s.log,0,false,[]⟩)
def PN.at (s:PN) (now:Nat):PN:={ s with latest:=max s.latest now }
open Classical in
noncomputable def tickT (s:PN) (now:Nat):PN × List Msg:=
 if s.role=3 then (if s.hb+s.beat<=now then ({ s with hb:=now },sendAll s) else (s,[]))
 else if s.since+s.wait<=now/\s.id∈members s.memb then startS s now else (s,[])
noncomputable def tickS (s:PN) (now:Nat):PN × List Msg:=tickT (s.at now) (s.at now).latest
def enterS (s:PN) (T:Nat):PN:={ s with term:=T,voted:=none,role:=1,leader:=none }
def refuseS (s:PN) (m:Msg):List Msg:=if m.kind=1 then [⟨2,s.id,m.src,s.term,0,0,0,false,[]⟩] else if m.kind=3 then [⟨4,s.id,m.src,s.term,0,0,0,false,[]⟩] else []
def upToDate (l:List Ent) (n t:Nat):Prop:=lastT l<t\/(t=lastT l/\l.length<=n)
open Classical in
noncomputable def requestedS (s:PN) (m:Msg) (now:Nat):PN × List Msg:=
 if (s.voted=none\/s.voted=some m.src)/\upToDate s.log m.prev m.prevTerm then ({ s with voted:=some m.src,since:=now },[⟨2,s.id,m.src,s.term,0,0,0,true,[]⟩])
 else (s,[⟨2,s.id,m.src,s.term,0,0,0,false,[]⟩])
def matchesS (s:PN) (m:Msg):Prop:=termAt s.log m.prev=some m.prevTerm/\∀ (i:Nat) e,m.ents[i]?=some e->m.prev+1+i<=s.commit->s.log[m.prev+i]?=some e
def recvB (s:PN) (m:Msg) (now:Nat):PN:={ s with role:=1,leader:=some m.src,since:=now }
open Classical in
noncomputable def receiveS (s:PN) (m:Msg) (now:Nat):PN × List Msg:=
 if matchesS s m then ({ recvB s m now with log:=mergeL s.log m.prev m.ents,commit:=max s.commit (min m.commit (m.prev+m.ents.length)) },[⟨4,s.id,m.src,s.term,m.prev+m.ents.length,0,0,true,[]⟩])
 else (recvB s m now,[⟨4,s.id,m.src,s.term,min s.log.length (m.prev - 1),0,0,false,[]⟩])
def backS (s:PN) (m:Msg):PN:={ s with next:=s.next.set m.src (max (min (s.next.getD m.src 0 - 1) (m.prev+1)) 1) }
def matchS (s:PN) (m:Msg):PN:={ s with mtch:=s.mtch.set m.src (max (s.mtch.getD m.src 0) m.prev),next:=s.next.set m.src (max (s.mtch.getD m.src 0) m.prev+1) }
open Classical in
noncomputable def repliedS (s:PN) (m:Msg):PN × List Msg:=
 if m.granted=false then (backS s m,[sendAppendS (backS s m) m.src])
 else if s.log.length<m.prev then (s,[])
 else if (advS (matchS s m)).role≠3 then (advS (matchS s m),[])
 else if s.commit<(advS (matchS s m)).commit then (advS (matchS s m),sendAll (advS (matchS s m)))
 else if (advS (matchS s m)).next.getD m.src 0<=(advS (matchS s m)).log.length then (advS (matchS s m),[sendAppendS (advS (matchS s m)) m.src])
 else (advS (matchS s m),[])
open Classical in
noncomputable def handleS (s:PN) (m:Msg) (now:Nat):PN × List Msg:=
 if m.kind=1 then requestedS s m now
 else if m.kind=2 then (if m.granted=true/\s.role=2 then
   (if Elected { s with votes:=s.votes.set m.src true } then leadS { s with votes:=s.votes.set m.src true } now else ({ s with votes:=s.votes.set m.src true },[])) else (s,[]))
 else if m.kind=3 then (if s.role=3 then (s,[]) else receiveS s m now)
 else (if s.role=3/\m.src∈s.others then repliedS s m else (s,[]))
def deaf (s:PN) (m:Msg) (now:Nat):Prop:=m.kind=1/\(s.role=3\/(s.leader≠none/\now<s.since+s.wait))
open Classical in
noncomputable def stepT (s:PN) (m:Msg) (now:Nat):PN × List Msg:=
 if deaf s m now then (s,[])
 else if m.term<s.term then (s,refuseS s m)
 else if s.term<m.term then handleS (enterS s m.term) m now else handleS s m now
noncomputable def stepS (s:PN) (m:Msg) (now:Nat):PN × List Msg:=stepT (s.at now) m (s.at now).latest
def addS (s:PN) (e:Ent):PN:={ s with log:=s.log++[e] }
noncomputable def submitS (s:PN) (kind:Nat) (body:List UInt8):PN × List Msg:=(advS (addS s ⟨s.term,kind,body⟩),sendAll (advS (addS s ⟨s.term,kind,body⟩)))
noncomputable def proposeS (s:PN) (body:List UInt8):PN × List Msg:=if s.role=3 then submitS s 2 body else (s,[])
def openS (id wait beat:Nat) (init:Memb) (term:Nat) (voted:Option Nat) (log:List Ent) (now:Nat):PN:=
 {id:=id,wait:=wait,beat:=beat,init:=init,term:=term,voted:=voted,log:=log,role:=1,leader:=none,commit:=0,since:=now,hb:=0,latest:=now,
  votes:=List.replicate 9 false,next:=List.replicate 9 0,mtch:=List.replicate 9 0 }
end
section
structure NodeOk (g:G) (s:PN):Prop where
 logok:LogOk g s.log
 logT:∀ e∈s.log,e.term<=s.term
 holds:Holds g s.id s.term s.log
 ackT:∀ T,s.term<T->g.ack s.id T=0
 vlT:∀ T,s.term<T->g.vl s.id T=none
 vote0:s.voted=none->g.vl s.id s.term=none
 vote1:∀ c,s.voted=some c->∃ V,g.vl s.id s.term=some (c,V)
 elT:∀ T,g.el T=some s.id->T<=s.term
 com:s.commit=0\/∃ T0 n0,g.ev T0 n0/\T0<=s.term/\s.commit<=n0/\Has (g.ll T0) s.commit s.log
 cand:s.role=2->1<=s.term/\g.vl s.id s.term=some (s.id,s.log)/\g.el s.term≠some s.id/\∀ u,s.votes.getD u false=true->∃ V,g.vl u s.term=some (s.id,V)
 lead:s.role=3->g.el s.term=some s.id/\g.ll s.term=s.log/\g.ack s.id s.term=s.log.length/\(∀ n,g.ev s.term n->n<=s.commit)/\∀ u,u≠s.id->s.mtch.getD u 0<=g.ack u s.term
structure MsgOk (g:G) (m:Msg):Prop where
 ne:m.src≠m.dst
 t1:1<=m.term
 ask:m.kind=1->∃ E,g.vl m.src m.term=some (m.src,E)/\m.prev=E.length/\m.prevTerm=lastT E
 vote:m.kind=2->m.granted=true->∃ V,g.vl m.src m.term=some (m.dst,V)
 app:m.kind=3->g.el m.term=some m.src/\m.prev<=(g.ll m.term).length/\termAt (g.ll m.term) m.prev=some m.prevTerm/\m.ents <+: (g.ll m.term).drop m.prev/\
  (m.commit=0\/∃ T0 n0,g.ev T0 n0/\T0<=m.term/\m.commit<=n0/\Has (g.ll T0) m.commit (g.ll m.term))
 rep:m.kind=4->m.granted=true->m.prev<=g.ack m.src m.term
structure Act (v:Nat) (g g':G):Prop where
 le:Le g g'
 own:∀ T,g.el T≠none->∀ (i:Nat) e,(g.ll T).length<=i->(g'.ll T)[i]?=some e->e.term=T
 vl:∀ u T,u≠v->g'.vl u T=g.vl u T
 ack:∀ u T,u≠v->g'.ack u T=g.ack u T
 el:∀ T,g'.el T≠g.el T->g.el T=none/\g'.el T=some v
 ll:∀ T,g'.ll T≠g.ll T->g'.el T=some v
 ev:∀ T n,g'.ev T n->g.ev T n\/g'.el T=some v
structure Zero (g:G):Prop where
 ack:∀ v T,g.el T=none->g.ack v T=0
section
variable {init:Memb} {g g':G}
theorem Act.refl (v:Nat) (g:G):Act v g g:=⟨Le.refl g,fun T _ i e hi he=>(by rw [List.getElem?_eq_none hi] at he;cases he),fun _ _ _=>rfl,fun _ _ _=>rfl,fun T h=>absurd rfl h,fun T h=>absurd rfl h,fun _ _ h=>.inl h⟩
theorem Act.trans {v:Nat} {a b c:G} (Gb:GOk mbOf init b) (h:Act v a b) (k:Act v b c):Act v a c:=by
 refine ⟨h.le.trans k.le,fun T hT i e hi he=>?_,fun u T hu=>(k.vl u T hu).trans (h.vl u T hu),fun u T hu=>(k.ack u T hu).trans (h.ack u T hu),fun T hT=>?_,fun T hT=>?_,fun T n hn=>?_⟩
 ·have hb:=h.le.elne hT
  rcases Nat.lt_or_ge i (b.ll T).length with hl | hl
  ·refine h.own T hT i e hi ?_
   obtain ⟨r,hr⟩:=(k.le.el T hb).2.2
   rw [<- hr,List.getElem?_append_left hl] at he
   exact he
  ·exact k.own T hb i e hl he
 ·by_cases e1:b.el T=a.el T
  ·have e2:c.el T≠b.el T:=fun e=>hT (e.trans e1)
   obtain ⟨q1,q2⟩:=k.el T e2
   exact ⟨e1 ▸ q1,q2⟩
  ·obtain ⟨q1,q2⟩:=h.el T e1
   refine ⟨q1,?_⟩
   rw [(k.le.el T (by rw [q2];exact fun h=>by cases h)).1,q2]
 ·by_cases e1:b.ll T=a.ll T
  ·exact k.ll T fun e=>hT (e.trans e1)
  ·have q:=h.ll T e1
   rw [(k.le.el T (by rw [q];exact fun h=>by cases h)).1,q]
 ·rcases k.ev T n hn with h' | h'
  ·rcases h.ev T n h' with h' | h'
   ·exact .inl h'
   ·right
    rw [(k.le.el T (by rw [h'];exact fun h=>by cases h)).1,h']
  ·exact .inr h'
theorem NodeOk.other (G:GOk mbOf init g) (z:Zero g) {v:Nat} (h:Act v g g') {s:PN} (k:NodeOk g s) (hv:s.id≠v):NodeOk g' s:=by
 have elb:∀ {T},g'.el T=some s.id->g.el T=some s.id:=fun {T} e=>by
  by_cases e':g'.el T=g.el T
  ·rw [<- e'];exact e
  ·have:=(h.el T e').2
   rw [e] at this
   exact absurd (Option.some.inj this) hv
 refine ⟨k.logok.le h.le,k.logT,?_,fun T hT=>by rw [h.ack _ _ hv];exact k.ackT T hT,fun T hT=>by rw [h.vl _ _ hv];exact k.vlT T hT,fun e=>by rw [h.vl _ _ hv];exact k.vote0 e,fun c e=>by rw [h.vl _ _ hv];exact k.vote1 c e,fun T hT=>k.elT T (elb hT),?_,fun hr=>?_,fun hr=>?_⟩
 ·exact k.holds.le G h.le h.own (fun T _ _=>h.ack _ _ hv) fun T _ _ e=>by rw [h.ack _ _ hv];exact z.ack _ _ e
 ·rcases k.com with e | ⟨T0,n0,e1,e2,e3,e4⟩
  ·exact .inl e
  ·obtain ⟨elT,-,nl,-⟩:=G.evs T0 n0 e1
   exact .inr ⟨T0,n0,h.le.ev _ _ e1,e2,e3,(has_ext (h.le.el T0 elT).2.2 (by omega)).2 e4⟩
 ·obtain ⟨q1,q2,q3,q4⟩:=k.cand hr
  exact ⟨q1,by rw [h.vl _ _ hv];exact q2,fun e=>q3 (elb e),fun u hu=>by
   obtain ⟨V,hV⟩:=q4 u hu
   exact ⟨V,h.le.vl _ _ _ hV⟩⟩
 ·obtain ⟨q1,q2,q2',q3,q4⟩:=k.lead hr
  have e1:g'.el s.term=some s.id:=by rw [(h.le.el _ (by rw [q1];exact fun h=>by cases h)).1,q1]
  refine ⟨e1,?_,by rw [h.ack _ _ hv];exact q2',fun n hn=>?_,fun u hu=>Nat.le_trans (q4 u hu) (h.le.ack _ _)⟩
  ·by_cases e:g'.ll s.term=g.ll s.term
   ·rw [e];exact q2
   ·have:=h.ll _ e
    rw [e1] at this
    exact absurd (Option.some.inj this) hv
  ·rcases h.ev _ _ hn with h' | h'
   ·exact q3 n h'
   ·rw [e1] at h'
    exact absurd (Option.some.inj h') hv
theorem termAt_pre {l l':List Ent} (hp:l <+: l') {n:Nat} (hn:n<=l.length):termAt l' n=termAt l n:=by
 unfold termAt
 split
 ·rfl
 ·obtain ⟨r,rfl⟩:=hp
  rw [List.getElem?_append_left (by omega)]
theorem drop_pre {l l' x:List Ent} {n:Nat} (hp:l <+: l') (hn:n<=l.length) (h:x <+: l.drop n):x <+: l'.drop n:=by
 obtain ⟨r,rfl⟩:=hp
 rw [List.drop_append_of_le_length hn]
 exact h.trans ⟨r,rfl⟩
theorem MsgOk.le (G:GOk mbOf init g) (h:Le g g') {m:Msg} (k:MsgOk g m):MsgOk g' m:=by
 refine ⟨k.ne,k.t1,fun e=>?_,fun e e'=>?_,fun e=>?_,fun e e'=>Nat.le_trans (k.rep e e') (h.ack _ _)⟩
 ·obtain ⟨E,h1,h2⟩:=k.ask e
  exact ⟨E,h.vl _ _ _ h1,h2⟩
 ·obtain ⟨V,h1⟩:=k.vote e e'
  exact ⟨V,h.vl _ _ _ h1⟩
 ·obtain ⟨h1,h2,h3,h4,h5⟩:=k.app e
  have he:g.el m.term≠none:=by rw [h1];exact fun h=>by cases h
  obtain ⟨q1,q2,q3⟩:=h.el _ he
  refine ⟨q1.trans h1,Nat.le_trans h2 q3.length_le,by rw [termAt_pre q3 h2];exact h3,drop_pre q3 h2 h4,?_⟩
  rcases h5 with e | ⟨T0,n0,e1,e2,e3,e4⟩
  ·exact .inl e
  ·obtain ⟨elT,-,nl,-⟩:=G.evs T0 n0 e1
   exact .inr ⟨T0,n0,h.ev _ _ e1,e2,e3,(has_ext (h.el T0 elT).2.2 (by omega)).2 (e4.pre q3)⟩
end
end
section
/-! ### quorums of numbers -/
theorem cmt_most {l:List Nat} (hl:l≠[]) {f:Nat->Nat} {n:Nat} (h:n<=cmt l f):Most l fun u=>n<=f u:=by
 have hp:=List.length_pos_iff.2 hl
 have perm:=List.mergeSort_perm (l.map f) (fun a b=>decide (a<=b))
 have sorted:=List.pairwise_mergeSort (le:=fun a b=>decide (a<=b)) (fun a b c h1 h2=>by simp at *;omega) (fun a b=>by simp;omega) (l.map f)
 have len:((l.map f).mergeSort (fun a b=>decide (a<=b))).length=l.length:=by rw [perm.length_eq,List.length_map]
 unfold cmt at h
 have hc:=perm.countP_eq fun x=>decide (n<=x)
 generalize (l.map f).mergeSort (fun a b=>decide (a<=b))=S at*
 have hi:l.length - (l.length / 2+1)<S.length:=by omega
 rw [List.getD_eq_getElem?_getD,List.getElem?_eq_getElem hi,Option.getD_some] at h
 refine ⟨l.filter fun u=>decide (n<=f u),List.filter_sublist,fun x hx=>by simpa using (List.mem_filter.1 hx).2,?_⟩
 have e1:(l.filter fun u=>decide (n<=f u)).length=S.countP fun x=>decide (n<=x):=by
  rw [hc,List.countP_map,List.countP_eq_length_filter]
  rfl
 have e2:(S.drop (l.length - (l.length / 2+1))).countP (fun x=>decide (n<=x))=(S.drop (l.length - (l.length / 2+1))).length:=by
  rw [List.countP_eq_length]
  intro x hx
  obtain ⟨j,hj,rfl⟩:=List.getElem_of_mem hx
  rw [List.getElem_drop]
  rw [List.length_drop] at hj
  rcases Nat.eq_zero_or_pos j with rfl | hj0
  ·simpa using h
  ·have:=List.pairwise_iff_getElem.1 sorted (l.length - (l.length / 2+1)) (l.length - (l.length / 2+1)+j) hi (by omega) (by omega)
   simp only [decide_eq_true_eq] at this ⊢
   omega
 have e3:(S.drop (l.length - (l.length / 2+1))).countP (fun x=>decide (n<=x))<=S.countP fun x=>decide (n<=x):=(List.drop_sublist _ _).countP_le
 rw [List.length_drop] at e2
 omega
theorem committed_quo {c:Memb} (h:c.old≠[]) {f:Nat->Nat} {n:Nat} (hn:n<=committedS c f):Quo c fun u=>n<=f u:=by
 unfold committedS at hn
 split at hn
 ·rename_i e
  exact ⟨cmt_most h hn,.inl e⟩
 ·rename_i e
  exact ⟨cmt_most h (by omega),.inr (cmt_most e (by omega))⟩
theorem maj_most {l:List Nat} {v:List Bool} (h:majV l v):Most l fun u=>v.getD u false=true:=by
 unfold majV at h
 exact ⟨l.filter fun m=>v.getD m false,List.filter_sublist,fun x hx=>(List.mem_filter.1 hx).2,by omega⟩
theorem elected_quo {s:PN} (h:Elected s):Quo s.memb fun u=>s.votes.getD u false=true:=⟨maj_most h.1,h.2.imp id maj_most⟩
/-! ### the last configuration -/
theorem membAt_cfgs {init:Memb}:∀ (l:List Ent) (n:Nat),membAt l<=n->cfgs mbOf init (l.take n)=cfgs mbOf init l:=by
 have key:∀ k (l:List Ent),l.length=k->∀ n,membAt l<=n->cfgs mbOf init (l.take n)=cfgs mbOf init l:=by
  intro k
  induction k with
  | zero=>intro l h n _;rw [List.eq_nil_of_length_eq_zero h];simp
  | succ k ih=>
   intro l h n hn
   rcases List.eq_nil_or_concat l with rfl | ⟨l',e,rfl⟩
   ·simp
   ·rw [List.concat_eq_append] at*
    rw [membAt_snoc] at hn
    have hl:l'.length=k:=by simpa using h
    rcases Nat.lt_or_ge n (l'.length+1) with hlt | hge
    ·split at hn
     ·omega
     ·rename_i hm
      rw [List.take_append_of_le_length (by omega),cfgs_snoc_none (by simpa using hm)]
      exact ih l' hl n hn
    ·rw [List.take_of_length_le (by rw [List.length_append,List.length_singleton];omega)]
 exact fun l=>key _ l rfl
theorem membAt_zero {init:Memb} {l:List Ent} (h:membAt l=0):cfgs mbOf init l=[init]:=by
 rw [<- membAt_cfgs l 0 (by omega)];rfl
theorem permit_cfg {init:Memb} (h:Permit init) (l:List Ent):Permit (cfg mbOf init l):=by
 unfold cfg
 have:=List.getLast_mem (l:=cfgs mbOf init l) (by simp [cfgs])
 generalize List.getLast (cfgs mbOf init l) (by simp [cfgs])=c at this ⊢
 unfold cfgs at this
 rcases List.mem_cons.1 this with e | e
 ·rw [e];exact h
 ·obtain ⟨x,-,hx⟩:=List.mem_filterMap.1 e
  exact (mbOf_some hx).2.1
/-! ### a node that lives -/
structure Live (init:Memb) (g:G) (s:PN):Prop where
 ok:GOk mbOf init g
 z:Zero g
 n:NodeOk g s
 i:s.init=init
 p:Permit init
 nx:s.role=3->∀ u,s.next.getD u 0<=s.log.length+1
 rl:s.role=1\/s.role=2\/s.role=3
def Steps (init:Memb) (g:G) (s s':PN) (out:List Msg):Prop:=∃ g',Act s.id g g'/\Live init g' s'/\s'.id=s.id/\∀ m∈out,MsgOk g' m
section
variable {init:Memb} {g g':G} {s s' s'':PN}
theorem Steps.stay (h:Live init g s') (hid:s'.id=s.id):Steps init g s s' []:=⟨g,Act.refl _ _,h,hid,fun _ h=>by cases h⟩
theorem Steps.msgs (h:Live init g s') (hid:s'.id=s.id) {out:List Msg} (ho:∀ m∈out,MsgOk g m):Steps init g s s' out:=⟨g,Act.refl _ _,h,hid,ho⟩
theorem Steps.bind {o o':List Msg} (h:Steps init g s s' o) (k:∀ g1,Act s.id g g1->Live init g1 s'->s'.id=s.id->Steps init g1 s' s'' o'):Steps init g s s'' o':=by
 obtain ⟨g1,a1,l1,i1,-⟩:=h
 obtain ⟨g2,a2,l2,i2,m2⟩:=k g1 a1 l1 i1
 rw [i1] at a2
 exact ⟨g2,a1.trans l1.ok a2,l2,i2.trans i1,m2⟩
theorem lead_voted (h:Live init g s) (hr:s.role=3):∃ V,g.vl s.id s.term=some (s.id,V):=⟨_,h.ok.elc _ _ (h.n.lead hr).1⟩
theorem Live.follow (h:Live init g s) (e1:s'.id=s.id) (e2:s'.init=s.init) (e3:s'.term=s.term) (e4:s'.voted=s.voted) (e5:s'.log=s.log) (e6:s'.commit=s.commit) (e7:s'.role=1):Live init g s':=by
 refine ⟨h.ok,h.z,⟨?_,?_,?_,?_,?_,?_,?_,?_,?_,fun e=>(by rw [e7] at e;cases e),fun e=>(by rw [e7] at e;cases e)⟩,e2.trans h.i,h.p,fun e=>(by rw [e7] at e;cases e),.inl e7⟩
 ·rw [e5];exact h.n.logok
 ·rw [e5,e3];exact h.n.logT
 ·rw [e1,e3,e5];exact h.n.holds
 ·rw [e1,e3];exact h.n.ackT
 ·rw [e1,e3];exact h.n.vlT
 ·rw [e1,e3,e4];exact h.n.vote0
 ·rw [e1,e3,e4];exact h.n.vote1
 ·rw [e1,e3];exact h.n.elT
 ·rw [e3,e5,e6];exact h.n.com
theorem Live.same (h:Live init g s) (e1:s'.id=s.id) (e2:s'.init=s.init) (e3:s'.term=s.term) (e4:s'.voted=s.voted) (e5:s'.log=s.log) (e6:s'.commit=s.commit) (e7:s'.role=s.role) (e8:s'.votes=s.votes) (e9:s'.mtch=s.mtch) (e10:s.role=3->∀ u,s'.next.getD u 0<=s.log.length+1):Live init g s':=by
 refine ⟨h.ok,h.z,⟨?_,?_,?_,?_,?_,?_,?_,?_,?_,?_,?_⟩,e2.trans h.i,h.p,by rw [e7,e5];exact e10,by rw [e7];exact h.rl⟩
 ·rw [e5];exact h.n.logok
 ·rw [e5,e3];exact h.n.logT
 ·rw [e1,e3,e5];exact h.n.holds
 ·rw [e1,e3];exact h.n.ackT
 ·rw [e1,e3];exact h.n.vlT
 ·rw [e1,e3,e4];exact h.n.vote0
 ·rw [e1,e3,e4];exact h.n.vote1
 ·rw [e1,e3];exact h.n.elT
 ·rw [e3,e5,e6];exact h.n.com
 ·rw [e1,e3,e5,e7,e8];exact h.n.cand
 ·rw [e1,e3,e5,e6,e7,e9];exact h.n.lead
theorem Live.enter (h:Live init g s) {T:Nat} (hT:s.term<T):Live init g (enterS s T):=by
 refine ⟨h.ok,h.z,⟨h.n.logok,fun e he=>Nat.le_trans (h.n.logT e he) (Nat.le_of_lt hT),h.n.holds.up (Nat.le_of_lt hT) fun T' h1 _=>h.n.ackT T' h1,fun T' h1=>h.n.ackT T' (Nat.lt_trans hT h1),fun T' h1=>h.n.vlT T' (Nat.lt_trans hT h1),fun _=>h.n.vlT T hT,fun c hc=>(by cases hc),fun T' h1=>Nat.le_trans (h.n.elT T' h1) (Nat.le_of_lt hT),?_,fun e=>(by cases e),fun e=>(by cases e)⟩,h.i,h.p,fun e=>(by cases e),.inl rfl⟩
 rcases h.n.com with e | ⟨T0,n0,e1,e2,e3,e4⟩
 ·exact .inl e
 ·exact .inr ⟨T0,n0,e1,Nat.le_trans e2 (Nat.le_of_lt hT),e3,e4⟩
theorem Live.cast (h:Live init g s) (hn:g.vl s.id s.term=none) {c:Nat} (hc:∃ F,(gvote g s.id s.term c s.log).vl c s.term=some (c,F)/\UpTo F s.log) (hlt:∀ e∈s.log,e.term<s.term) (h1:1<=s.term)
  (e1:s'.id=s.id) (e2:s'.init=s.init) (e3:s'.term=s.term) (e4:s'.voted=some c) (e5:s'.log=s.log) (e6:s'.commit=s.commit) (e7:s'.role=1\/(s'.role=2/\c=s.id/\g.el s.term≠some s.id/\∀ u,s'.votes.getD u false=true->u=s.id)):
  Act s.id g (gvote g s.id s.term c s.log)/\Live init (gvote g s.id s.term c s.log) s':=by
 have le:=vote_le (c:=c) (V:=s.log) hn
 have a:Act s.id g (gvote g s.id s.term c s.log):=⟨le,fun T _ i e hi he=>(by rw [show (gvote g s.id s.term c s.log).ll T=g.ll T from rfl,List.getElem?_eq_none hi] at he;cases he),fun u T hu=>if_neg fun k=>hu k.1,fun _ _ _=>rfl,fun T h=>absurd rfl h,fun T h=>absurd rfl h,fun _ _ h=>.inl h⟩
 have G':=h.ok.voted (c:=c) hn hc h.n.logok hlt h.n.holds h1
 have hv:(gvote g s.id s.term c s.log).vl s.id s.term=some (c,s.log):=if_pos ⟨rfl,rfl⟩
 refine ⟨a,G',⟨h.z.ack⟩,⟨?_,?_,?_,?_,?_,?_,?_,?_,?_,fun e=>?_,fun e=>by rcases e7 with e7 | e7 <;> omega⟩,e2.trans h.i,h.p,(fun e=>by rcases e7 with e7 | e7 <;> omega),by rcases e7 with e7 | e7 <;> omega⟩
 ·rw [e5];exact h.n.logok.le le
 ·rw [e5,e3];exact h.n.logT
 ·rw [e1,e3,e5]
  exact h.n.holds
 ·rw [e1,e3];exact h.n.ackT
 ·rw [e1,e3]
  intro T hT
  rw [show (gvote g s.id s.term c s.log).vl s.id T=g.vl s.id T from if_neg fun k=>by omega]
  exact h.n.vlT T hT
 ·rw [e4];intro e;cases e
 ·rw [e1,e3,e4];intro c' e;cases e;exact ⟨_,hv⟩
 ·rw [e1,e3];exact h.n.elT
 ·rw [e3,e5,e6];exact h.n.com
 ·rcases e7 with e7 | ⟨e7,rfl,e8,e9⟩
  ·omega
  ·rw [e1,e3,e5]
   exact ⟨h1,hv,e8,fun u hu=>⟨s.log,by rw [e9 u hu];exact hv⟩⟩
end
end
section
section
variable {init:Memb} {g g':G} {s s':PN}
theorem UpTo.refl (l:List Ent):UpTo l l:=.inr ⟨rfl,Nat.le_refl _⟩
theorem Live.start (h:Live init g s) (now:Nat):Steps init g s (startB s now) []:=by
 have h1:=h.enter (Nat.lt_succ_self s.term)
 have hn:=h.n.vlT (s.term+1) (Nat.lt_succ_self _)
 obtain ⟨a,l⟩:=h1.cast (s':=startB s now) (c:=s.id) hn ⟨s.log,vote_self,UpTo.refl _⟩ (fun e he=>Nat.lt_succ_of_le (h.n.logT e he)) (Nat.succ_pos _) rfl rfl rfl rfl rfl rfl
  (.inr ⟨rfl,rfl,fun e=>by have:=h.n.elT _ e;simp [enterS] at this;omega,fun u hu=>by
   have:((List.replicate 9 false).set s.id true).getD u false=true:=hu
   by_cases e:u=s.id
   ·exact e
   ·rw [List.getD_eq_getElem?_getD,List.getElem?_set_ne (fun k=>e k.symm),List.getElem?_replicate] at this
    split at this <;> cases this⟩)
 exact ⟨_,a,l,rfl,fun _ h=>by cases h⟩
structure Head (g:G) (s:PN):Prop where
 el:g.el s.term=some s.id
 ll:g.ll s.term=s.log
 nx:∀ u,s.next.getD u 0<=s.log.length+1
theorem Live.head (h:Live init g s) (hr:s.role=3):Head g s:=⟨(h.n.lead hr).1,(h.n.lead hr).2.1,h.nx hr⟩
theorem Live.append (h:Live init g s) (k:Head g s) {to:Nat} (ht:to≠s.id):MsgOk g (sendAppendS s to):=by
 have hp:s.next.getD to 0 - 1<=s.log.length:=by have:=k.nx to;omega
 refine ⟨fun e=>ht e.symm,h.ok.pos _ (by rw [show (sendAppendS s to).term=s.term from rfl,k.el];exact fun h=>by cases h),fun e=>(by cases e),fun e=>(by cases e),fun _=>⟨k.el,?_,?_,?_,?_⟩,fun e=>(by cases e)⟩
 ·show _<=(g.ll s.term).length
  rw [k.ll];exact hp
 ·show termAt (g.ll s.term) _=_
  rw [k.ll]
  show termAt s.log (s.next.getD to 0 - 1)=some ((termAt s.log (s.next.getD to 0 - 1)).getD 0)
  unfold termAt
  split
  ·rfl
  ·rw [List.getElem?_eq_getElem (by omega)];rfl
 ·show _ <+: (g.ll s.term).drop _
  rw [k.ll]
  exact List.take_prefix _ _
 ·rcases h.n.com with e | ⟨T0,n0,e1,e2,e3,e4⟩
  ·exact .inl e
  ·exact .inr ⟨T0,n0,e1,e2,e3,by show Has _ _ (g.ll s.term);rw [k.ll];exact e4⟩
theorem Live.all (h:Live init g s) (k:Head g s):∀ m∈sendAll s,MsgOk g m:=fun m hm=>by
 obtain ⟨to,h1,rfl⟩:=List.mem_map.1 hm
 exact h.append k (by simpa using (List.mem_filter.1 h1).2)
theorem Live.lead (h:Live init g s) (hr:s.role=2) (hq:Elected s):Steps init g s (leadB s) []:=by
 obtain ⟨h1,hv,hne,hvotes⟩:=h.n.cand hr
 have hw:Won mbOf init g s.term s.id s.log:=⟨hv,_,by have:=elected_quo hq;unfold PN.memb at this;rw [h.i] at this;exact this,hvotes⟩
 have h0:g.el s.term=none:=by
  cases hc:g.el s.term with
  | none=>rfl
  | some c=>
   have:=won_one h.ok (h.ok.won hc) hw
   rw [this] at hc
   exact absurd hc hne
 have hz:∀ v,g.ack v s.term=0:=fun v=>h.z.ack v _ h0
 have le:=elect_le (c:=s.id) (F:=s.log) (nop:=⟨s.term,1,[]⟩) h0 hz
 have G':=h.ok.elected (nop:=⟨s.term,1,[]⟩) h0 hw h1 rfl (mbOf_not (by show (1:Nat)≠3;decide)) h.n.vlT hz
 have ne:∀ {T'},g.el T'≠none->T'≠s.term:=fun {T'} h e=>h (e ▸ h0)
 have el':=elect_el (g:=g) (T:=s.term) (c:=s.id) (F:=s.log) (nop:=⟨s.term,1,[]⟩)
 have ll':=elect_ll (g:=g) (T:=s.term) (c:=s.id) (F:=s.log) (nop:=⟨s.term,1,[]⟩)
 have elne:(gelect g s.term s.id s.log ⟨s.term,1,[]⟩).el s.term≠none:=by rw [el'];exact fun h=>by cases h
 refine ⟨_,⟨le,fun T hT i e hi he=>?_,fun _ _ _=>rfl,fun u T hu=>elect_ack_ne fun k=>hu k.1,fun T hT=>?_,fun T hT=>?_,fun _ _ h=>.inl h⟩,⟨G',⟨fun v T hT=>?_⟩,⟨?_,?_,?_,?_,h.n.vlT,h.n.vote0,h.n.vote1,?_,?_,fun e=>(by cases e),fun _=>⟨el',ll',?_,?_,?_⟩⟩,h.i,h.p,fun _ u=>?_,.inr (.inr rfl)⟩,rfl,fun _ h=>by cases h⟩
 ·rw [elect_ll_ne (ne hT),List.getElem?_eq_none hi] at he;cases he
 ·by_cases e:T=s.term
  ·subst e;exact ⟨h0,el'⟩
  ·exact absurd (elect_el_ne e) hT
 ·by_cases e:T=s.term
  ·subst e;exact el'
  ·exact absurd (elect_ll_ne e) hT
 ·by_cases e:T=s.term
  ·subst e;rw [el'] at hT;cases hT
  ·rw [elect_el_ne e] at hT
   rw [elect_ack_ne fun k=>e k.2];exact h.z.ack v T hT
 ·have:=G'.lm s.term elne
  rw [ll'] at this
  exact this
 ·intro e he
  rcases List.mem_append.1 he with he | he
  ·exact h.n.logT e he
  ·rw [List.mem_singleton.1 he];exact Nat.le_refl _
 ·intro T n hT hn he hp
  by_cases e:T=s.term
  ·subst e
   have:n<=s.log.length+1:=by rw [show (leadB s).id=s.id from rfl,elect_ack] at hn;exact hn
   rw [ll']
   exact Has.self (by simp;omega)
  ·rw [elect_ack_ne fun k=>e k.2] at hn
   rw [elect_el_ne e] at he
   rw [elect_ll_ne e]
   refine (h.n.holds T n hT hn he fun T'' q1 q2 q3=>?_).pre ⟨[⟨s.term,1,[]⟩],rfl⟩
   have:=hp T'' q1 q2 (le.elne q3)
   rwa [elect_ll_ne e,elect_ll_ne (ne q3)] at this
 ·intro T hT
  have e:T≠s.term:=by have:(leadB s).term=s.term:=rfl;omega
  rw [elect_ack_ne fun k=>e k.2];exact h.n.ackT T hT
 ·intro T hT
  by_cases e:T=s.term
  ·rw [e];exact Nat.le_refl _
  ·rw [elect_el_ne e] at hT;exact h.n.elT T hT
 ·rcases h.n.com with e | ⟨T0,n0,e1,e2,e3,e4⟩
  ·exact .inl e
  ·have:T0≠s.term:=ne (h.ok.evs T0 n0 e1).1
   exact .inr ⟨T0,n0,e1,e2,e3,by rw [elect_ll_ne this];exact e4.pre ⟨[⟨s.term,1,[]⟩],rfl⟩⟩
 ·show (gelect g s.term s.id s.log ⟨s.term,1,[]⟩).ack s.id s.term=(s.log++[_]).length
  rw [elect_ack];simp
 ·exact fun n hn=>absurd h0 (h.ok.evs _ n hn).1
 ·intro u _
  show (List.replicate 9 0).getD u 0<=_
  rw [List.getD_eq_getElem?_getD,List.getElem?_replicate]
  split <;> exact Nat.zero_le _
 ·show (List.replicate 9 (s.log.length+1)).getD u 0<=(s.log++[_]).length+1
  rw [List.getD_eq_getElem?_getD,List.getElem?_replicate]
  split
  ·simp
  ·exact Nat.zero_le _
theorem Live.grow (h:Live init g s) (hr:s.role=3) {e:Ent} (ht:e.term=s.term) (hmb:∀ d,mbOf e=some d->Succ s.memb d/\OkM d/\membAt s.log<=s.commit):Steps init g s (addS s e) []:=by
 obtain ⟨q1,q2,q3,q4,q5⟩:=h.n.lead hr
 have ne:g.el s.term≠none:=by rw [q1];exact fun h=>by cases h
 have le:=extend_le h.ok (c:=s.id) (T:=s.term) (e:=e)
 have G':=h.ok.extended (e:=e) q1 ht h.n.vlT fun d hd=>by
  obtain ⟨k1,k2,k3⟩:=hmb d hd
  rw [q2]
  refine ⟨by unfold PN.memb at k1;rw [h.i] at k1;exact k1,k2,?_⟩
  rcases h.n.com with e | ⟨T0,n0,e1,e2,e3,e4⟩
  ·exact .inl (membAt_zero (by omega))
  ·have hh:Has (g.ll T0) n0 s.log:=by
    rw [<- q2]
    rcases Nat.lt_or_ge T0 s.term with hl | hl
    ·exact (complete h.ok s.term T0 n0 e1 hl ne).pre (h.ok.pre _ ne).1
    ·obtain rfl:T0=s.term:=by omega
     exact Has.self (h.ok.evs _ _ e1).2.2.1
   exact .inr ⟨T0,n0,e1,hh.1,e2,hh,membAt_cfgs _ _ (by omega)⟩
 have ll':=extend_ll (g:=g) (c:=s.id) (T:=s.term) (e:=e)
 have own':=extend_own (g:=g) (c:=s.id) ht
 refine ⟨_,⟨le,own',fun _ _ _=>rfl,fun u T hu=>if_neg fun k=>hu k.1,fun T hT=>absurd rfl hT,fun T hT=>?_,fun _ _ h=>.inl h⟩,⟨G',⟨fun v T hT=>?_⟩,⟨?_,?_,?_,?_,h.n.vlT,h.n.vote0,h.n.vote1,h.n.elT,?_,fun hr2=>?_,fun _=>⟨q1,(by show _=s.log++[e];rw [<- q2];exact ll'),?_,q4,fun u hu=>?_⟩⟩,h.i,h.p,fun _ u=>?_,h.rl⟩,rfl,fun _ h=>by cases h⟩
 ·by_cases e':T=s.term
  ·subst e';exact q1
  ·exact absurd (extend_ll_ne e') hT
 ·have hT':g.el T=none:=hT
  have e':T≠s.term:=fun k=>ne (k ▸ hT')
  show (if _ then _ else _)=_
  rw [if_neg fun k=>e' k.2];exact h.z.ack v T hT'
 ·have:=G'.lm s.term ne
  rw [ll',q2] at this
  exact this
 ·intro x hx
  rcases List.mem_append.1 hx with hx | hx
  ·exact h.n.logT x hx
  ·rw [List.mem_singleton.1 hx,ht];exact Nat.le_refl _
 ·intro T n hT hn he hp
  by_cases e':T=s.term
  ·subst e'
   rw [ll',q2]
   have:n<=(g.ll s.term).length+1:=by rw [show (addS s e).id=s.id from rfl,extend_ack] at hn;exact hn
   rw [q2] at this
   exact Has.self (by simp;omega)
  ·have hn':n<=g.ack s.id T:=by
    have:(gextend g s.id s.term e).ack s.id T=g.ack s.id T:=if_neg fun k=>e' k.2
    rw [show (addS s e).id=s.id from rfl,this] at hn;exact hn
   have hl:=Nat.le_trans hn' (h.ok.ackd _ T)
   refine (has_ext (extend_pre g s.id s.term e T) hl).2 ?_
   refine (h.n.holds T n hT hn' he fun T'' r1 r2 r3=>?_).pre ⟨[e],rfl⟩
   exact prem_back h.ok le own' he r3 hl r1 (hp T'' r1 r2 r3)
 ·intro T hT
  have e':T≠s.term:=by have:(addS s e).term=s.term:=rfl;omega
  show (if _ then _ else _)=_
  rw [if_neg fun k=>e' k.2];exact h.n.ackT T hT
 ·rcases h.n.com with e' | ⟨T0,n0,e1,e2,e3,e4⟩
  ·exact .inl e'
  ·obtain ⟨elT,-,nl,-⟩:=h.ok.evs T0 n0 e1
   exact .inr ⟨T0,n0,e1,e2,e3,(has_ext (extend_pre g s.id s.term e T0) (Nat.le_trans e3 nl)).2 (e4.pre ⟨[e],rfl⟩)⟩
 ·have:(addS s e).role=s.role:=rfl
  omega
 ·show (gextend g s.id s.term e).ack s.id s.term=(s.log++[e]).length
  rw [extend_ack,q2];simp
 ·have:=q5 u hu
  have e2:(gextend g s.id s.term e).ack u s.term=g.ack u s.term:=if_neg fun k=>hu k.1
  show s.mtch.getD u 0<=(gextend g s.id s.term e).ack u s.term
  rw [e2];exact this
 ·have:=h.nx hr u
  show s.next.getD u 0<=(s.log++[e]).length+1
  rw [List.length_append,List.length_singleton];omega
end
end
section
section
variable {init:Memb} {g g':G} {s s':PN}
theorem termAt_some {l:List Ent} {n t:Nat} (h:termAt l n=some t):n<=l.length/\(n=0\/∃ e,l[n - 1]?=some e/\e.term=t):=by
 unfold termAt at h
 split at h
 ·rename_i e
  exact ⟨by omega,.inl e⟩
 ·rename_i e
  obtain ⟨x,h1,h2⟩:=Option.map_eq_some_iff.1 h
  have:=(List.getElem?_eq_some_iff.1 h1).1
  exact ⟨by omega,.inr ⟨x,h1,h2⟩⟩
theorem Live.commit (h:Live init g s) (hr:s.role=3) {n:Nat} (hn:n<=committedS s.memb s.reach) (ht:termAt s.log n=some s.term) (hc:s.commit<n):Steps init g s { s with commit:=n } []:=by
 obtain ⟨q1,q2,q3,q4,q5⟩:=h.n.lead hr
 have ne:g.el s.term≠none:=by rw [q1];exact fun h=>by cases h
 obtain ⟨t1,t2⟩:=termAt_some ht
 obtain ⟨e,he,het⟩:=t2.resolve_left (by omega)
 have hb:=h.ok.behind ne (i:=n - 1) (e:=e) (by rw [q2];exact he) het
 have hp:Permit s.memb:=by have:=permit_cfg h.p s.log;unfold PN.memb;rw [h.i];exact this
 have hq:=committed_quo hp.old.1 hn
 have G':=h.ok.committed (n:=n) ne (by omega) (by rw [q2];exact t1) (Q:=fun u=>n<=s.reach u) (by rw [q2];unfold PN.memb at hq;rw [h.i] at hq;exact hq) (fun v hv=>by
  unfold PN.reach at hv
  split at hv
  ·rename_i e;rw [e,q3];exact hv
  ·rename_i e;exact Nat.le_trans hv (q5 v e)) fun n' hn'=>by have:=q4 n' hn';omega
 refine ⟨_,⟨commits_le,fun T hT i e hi he=>?_,fun _ _ _=>rfl,fun _ _ _=>rfl,fun T hT=>absurd rfl hT,fun T hT=>absurd rfl hT,fun T n' hn'=>?_⟩,⟨G',⟨h.z.ack⟩,⟨h.n.logok.le commits_le,h.n.logT,h.n.holds,h.n.ackT,h.n.vlT,h.n.vote0,h.n.vote1,h.n.elT,?_,fun hr2=>?_,fun _=>⟨q1,q2,q3,fun n' hn'=>?_,q5⟩⟩,h.i,h.p,h.nx,h.rl⟩,rfl,fun _ h=>by cases h⟩
 ·rw [show (gcommits g s.term n).ll T=g.ll T from rfl,List.getElem?_eq_none hi] at he;cases he
 ·rcases hn' with h' | ⟨rfl,-⟩
  ·exact .inl h'
  ·exact .inr q1
 ·exact .inr ⟨s.term,n,.inr ⟨rfl,rfl⟩,Nat.le_refl _,Nat.le_refl _,by show Has (g.ll s.term) n s.log;rw [q2];exact Has.self t1⟩
 ·have:s.role=2:=hr2
  omega
 ·rcases hn' with h' | ⟨-,rfl⟩
  ·exact Nat.le_trans (q4 n' h') (Nat.le_of_lt hc)
  ·exact Nat.le_refl _
theorem advC_same (s:PN):(advC s).id=s.id/\(advC s).init=s.init/\(advC s).term=s.term/\(advC s).voted=s.voted/\(advC s).log=s.log/\(advC s).role=s.role/\(advC s).next=s.next/\(advC s).mtch=s.mtch/\s.commit<=(advC s).commit:=by
 unfold advC
 split
 ·rename_i h
  exact ⟨rfl,rfl,rfl,rfl,rfl,rfl,rfl,rfl,Nat.le_of_lt h.2⟩
 ·exact ⟨rfl,rfl,rfl,rfl,rfl,rfl,rfl,rfl,Nat.le_refl _⟩
theorem Live.advC (h:Live init g s) (hr:s.role=3):Steps init g s (advC s) []:=by
 unfold Go.Proofs.YtcaokpglbolkcaaGreat.advC
 split
 ·rename_i k
  exact h.commit hr (Nat.le_refl _) k.1 k.2
 ·exact Steps.stay h rfl
def HSteps (init:Memb) (g:G) (s s':PN):Prop:=∃ g',Act s.id g g'/\Live init g' s'/\s'.id=s.id/\Head g' s'
theorem Live.advance (h:Live init g s) (hr:s.role=3):HSteps init g s (advS s):=by
 obtain ⟨g1,a1,l1,i1,-⟩:=h.advC hr
 obtain ⟨s1,s2,s3,s4,s5,s6,s7,s8,s9⟩:=advC_same s
 have hr1:(Go.Proofs.YtcaokpglbolkcaaGreat.advC s).role=3:=by rw [s6];exact hr
 have hm:(Go.Proofs.YtcaokpglbolkcaaGreat.advC s).memb=s.memb:=by unfold PN.memb;rw [s2,s5]
 have hp:Permit s.memb:=by have:=permit_cfg h.p s.log;unfold PN.memb;rw [h.i];exact this
 unfold advS
 split
 ·exact ⟨g1,a1,l1,i1,l1.head hr1⟩
 ·rename_i hc
  split
  ·rename_i hnew
   have hpm:Permit ⟨s.memb.new,[]⟩:=⟨hp.new.resolve_left hnew,.inl rfl⟩
   obtain ⟨g2,a2,l2,i2,-⟩:=l1.grow hr1 (e:=⟨s.term,3,encM ⟨s.memb.new,[]⟩⟩) s3.symm fun d hd=>by
    rw [mbOf_memb hpm] at hd
    cases hd
    rw [hm,s5]
    exact ⟨.inr ⟨hnew,rfl,rfl⟩,hpm.ok,by omega⟩
   rw [i1] at a2
   have e:addS (Go.Proofs.YtcaokpglbolkcaaGreat.advC s) ⟨s.term,3,encM ⟨s.memb.new,[]⟩⟩={ Go.Proofs.YtcaokpglbolkcaaGreat.advC s with log:=s.log++[⟨s.term,3,encM ⟨s.memb.new,[]⟩⟩] }:=by unfold addS;rw [s5]
   rw [e] at l2 i2
   exact ⟨g2,a1.trans l1.ok a2,l2,i2.trans i1,l2.head hr1⟩
  ·split
   ·exact ⟨g1,a1,l1,i1,l1.head hr1⟩
   ·have hd:=l1.head hr1
    exact ⟨g1,a1,l1.follow rfl rfl rfl rfl rfl rfl rfl,i1,hd.el,hd.ll,hd.nx⟩
theorem Live.sends (h:Live init g s) (hr:s.role=3) (hb:Nat):Steps init g s { advS s with hb:=hb } (sendAll (advS s)):=by
 obtain ⟨g1,a1,l1,i1,h1⟩:=h.advance hr
 refine ⟨g1,a1,l1.same rfl rfl rfl rfl rfl rfl rfl rfl rfl l1.nx,i1,l1.all h1⟩
theorem Live.sends' (h:Live init g s) (hr:s.role=3):Steps init g s (advS s) (sendAll (advS s)):=by
 obtain ⟨g1,a1,l1,i1,h1⟩:=h.advance hr
 exact ⟨g1,a1,l1,i1,l1.all h1⟩
theorem Live.leads (h:Live init g s) (hr:s.role=2) (hq:Elected s) (now:Nat):Steps init g s (leadS s now).1 (leadS s now).2:=
 (h.lead hr hq).bind fun g1 _ l1 _=>l1.sends rfl now
theorem Live.starts (h:Live init g s) (now:Nat):Steps init g s (startS s now).1 (startS s now).2:=by
 unfold startS
 refine (h.start now).bind fun g1 _ l1 _=>?_
 split
 ·rename_i hq
  exact l1.leads rfl hq now
 ·refine Steps.msgs l1 rfl fun m hm=>?_
  obtain ⟨to,h1,rfl⟩:=List.mem_map.1 hm
  have ht:to≠(startB s now).id:=by simpa using (List.mem_filter.1 h1).2
  have ht:to≠s.id:=ht
  obtain ⟨q1,q2,-⟩:=l1.n.cand rfl
  exact ⟨fun e=>ht e.symm,Nat.succ_pos _,fun _=>⟨s.log,q2,rfl,rfl⟩,fun e=>(by cases e),fun e=>(by cases e),fun e=>(by cases e)⟩
theorem Live.clock (h:Live init g s) (now:Nat):Live init g (s.at now):=h.same rfl rfl rfl rfl rfl rfl rfl rfl rfl h.nx
theorem Steps.clock {o:List Msg} {now:Nat} (h:Steps init g (s.at now) s' o):Steps init g s s' o:=h
theorem Live.ticks (h:Live init g s) (now:Nat):Steps init g s (tickS s now).1 (tickS s now).2:=by
 have h1:=h.clock now
 refine Steps.clock (now:=now) ?_
 unfold tickS
 generalize s.at now=s at*
 generalize s.latest=now at*
 unfold tickT
 split
 ·rename_i hr
  split
  ·exact Steps.msgs (s':={ s with hb:=now }) (h1.same rfl rfl rfl rfl rfl rfl rfl rfl rfl h1.nx) rfl (h1.all (h1.head hr))
  ·exact Steps.stay h1 rfl
 ·split
  ·exact h1.starts now
  ·exact Steps.stay h1 rfl
/-! ### receipt -/
theorem take_snoc {l:List Ent} {n:Nat} {e:Ent} (h:l[n]?=some e):l.take (n+1)=l.take n++[e]:=by
 obtain ⟨h1,h2⟩:=List.getElem?_eq_some_iff.1 h
 rw [List.take_succ_eq_append_getElem h1,h2]
theorem merge_cases {P:List Ent}:∀ (l:List Ent) (log:List Ent) (n:Nat),log.take n=P.take n->n<=log.length->l <+: P.drop n->
  (mergeL log n l=log/\Has P (n+l.length) log)\/(mergeL log n l=P.take (n+l.length)/\∃ c,c<n+l.length/\log[c]?≠P[c]?)
 | [],log,n,h1,h2,_=>.inl ⟨rfl,h2,h1⟩
 | e::l,log,n,h1,h2,h3=>by
  have hP:P[n]?=some e:=by
   obtain ⟨r,hr⟩:=h3
   have:=congrArg (fun x=>x[0]?) hr
   simp only [List.cons_append,List.getElem?_cons_zero,List.getElem?_drop,Nat.add_zero] at this
   exact this.symm
  have hd:l <+: P.drop (n+1):=by
   obtain ⟨r,hr⟩:=h3
   have:=congrArg (List.drop 1) hr
   simp only [List.cons_append,List.drop_succ_cons,List.drop_zero,List.drop_drop] at this
   exact ⟨r,this⟩
  unfold mergeL
  split
  ·rename_i he
   have hl:=(List.getElem?_eq_some_iff.1 he).1
   have:=merge_cases l log (n+1) (by rw [take_snoc he,take_snoc hP,h1]) hl hd
   rw [List.length_cons,show n+(l.length+1)=n+1+l.length from by omega]
   exact this
  ·rename_i he
   refine .inr ⟨?_,n,by rw [List.length_cons];omega,fun k=>he (k.trans hP)⟩
   obtain ⟨r,hr⟩:=h3
   rw [h1,List.take_add,<- hr,List.take_left]
theorem log_match (G:GOk mbOf init g) {l P:List Ent} (hl:LogOk g l) (hP:LogOk g P) {n t:Nat} (h1:termAt l n=some t) (h2:termAt P n=some t):l.take n=P.take n:=by
 obtain ⟨-,a⟩:=termAt_some h1
 obtain ⟨-,b⟩:=termAt_some h2
 rcases a with e | ⟨e,he,het⟩
 ·subst e;simp
 ·rcases b with e' | ⟨f,hf,hft⟩
  ·subst e';simp
  ·by_cases h0:n=0
   ·subst h0;simp
   ·obtain ⟨-,x⟩:=hl _ e he
    obtain ⟨-,y⟩:=hP _ f hf
    have:=x.2
    rw [het,<- hft,y.2,Nat.sub_add_cancel (by omega)] at this
    exact this.symm
theorem Live.accept (h:Live init g s) {m:Msg} (hm:MsgOk g m) (hk:m.kind=3) (ht:m.term=s.term) (hd:m.dst=s.id) (hmt:matchesS s m) {s':PN} (e1:s'.id=s.id) (e2:s'.init=s.init) (e3:s'.term=s.term) (e4:s'.voted=s.voted) (e7:s'.role=1)
  (e5:s'.log=mergeL s.log m.prev m.ents) (e6:s'.commit=max s.commit (min m.commit (m.prev+m.ents.length))):∃ g',Act s.id g g'/\Live init g' s'/\m.prev+m.ents.length<=g'.ack s.id s.term:=by
 obtain ⟨a1,a2,a3,a4,a5⟩:=hm.app hk
 rw [ht] at a1 a2 a3 a4 a5
 have ne:g.el s.term≠none:=by rw [a1];exact fun h=>by cases h
 have lmP:=h.ok.lm _ ne
 have hsrc:m.src≠s.id:=by rw [<- hd];exact hm.ne
 obtain ⟨tl,tx⟩:=termAt_some hmt.1
 have htk:=log_match h.ok h.n.logok lmP hmt.1 a3
 have hlen:m.prev+m.ents.length<=(g.ll s.term).length:=by have:=a4.length_le;rw [List.length_drop] at this;omega
 have hc:=merge_cases m.ents s.log m.prev htk tl a4
 have hcom:∀ {T0 n0 k},g.ev T0 n0->T0<=s.term->k<=n0->Has (g.ll T0) k (g.ll s.term):=fun {T0 n0 k} h1 h2 h3=>by
  rcases Nat.lt_or_ge T0 s.term with hl | hl
  ·exact ((complete h.ok s.term T0 n0 h1 hl ne).pre (h.ok.pre _ ne).1).less h3
  ·obtain rfl:T0=s.term:=by omega
   have:=(h.ok.evs _ _ h1).2.2.1
   exact Has.self (by omega)
 generalize hP:g.ll s.term=P at*
 generalize hL:mergeL s.log m.prev m.ents=L at*
 have m1:Has P (m.prev+m.ents.length) L:=by
  rcases hc with ⟨rfl,h2⟩ | ⟨rfl,-⟩
  ·exact h2
  ·exact ⟨by rw [List.length_take];omega,by rw [List.take_take,Nat.min_self]⟩
 have m2:∀ {k},k<=s.log.length->s.log.take k=P.take k->k<=L.length/\L.take k=P.take k:=fun {k} h1 h2=>by
  rcases hc with ⟨rfl,-⟩ | ⟨rfl,c,hc1,hc2⟩
  ·exact ⟨h1,h2⟩
  ·have hk:k<=c:=by
    rcases Nat.lt_or_ge c k with hk | hk
    ·have:=congrArg (fun x=>x[c]?) h2
     simp only [List.getElem?_take,hk,if_true] at this
     exact absurd this hc2
    ·exact hk
   exact ⟨by rw [List.length_take];omega,by rw [List.take_take,Nat.min_eq_left (by omega)]⟩
 have m2':∀ {Q:List Ent} {k},Has Q k s.log->Has Q k P->Has Q k L:=fun {Q k} h1 h2=>by
  obtain ⟨q1,q2⟩:=m2 h1.1 (h1.2.trans h2.2.symm)
  exact ⟨q1,q2.trans h2.2⟩
 have le:=acks_le (g:=g) (v:=s.id) (T:=s.term) (n:=m.prev+m.ents.length)
 have G':=h.ok.acked (v:=s.id) (T:=s.term) (n:=m.prev+m.ents.length) (by rw [hP];exact hlen) h.n.vlT
 have ackne:∀ {T},T≠s.term->(gacks g s.id s.term (m.prev+m.ents.length)).ack s.id T=g.ack s.id T:=fun {T} e=>if_neg fun k=>e k.2
 have ackeq:(gacks g s.id s.term (m.prev+m.ents.length)).ack s.id s.term=max (g.ack s.id s.term) (m.prev+m.ents.length):=if_pos ⟨rfl,rfl⟩
 refine ⟨_,⟨le,fun T hT i e hi he=>?_,fun _ _ _=>rfl,fun u T hu=>if_neg fun k=>hu k.1,fun T hT=>absurd rfl hT,fun T hT=>absurd rfl hT,fun _ _ h=>.inl h⟩,⟨G',⟨fun v T hT=>?_⟩,⟨?_,?_,?_,?_,?_,?_,?_,?_,?_,fun e=>(by rw [e7] at e;cases e),fun e=>(by rw [e7] at e;cases e)⟩,e2.trans h.i,h.p,fun e=>(by rw [e7] at e;cases e),.inl e7⟩,by rw [ackeq];exact Nat.le_max_right _ _⟩
 ·rw [show (gacks g s.id s.term (m.prev+m.ents.length)).ll T=g.ll T from rfl,List.getElem?_eq_none hi] at he;cases he
 ·have hT':g.el T=none:=hT
  show (if _ then _ else _)=_
  rw [if_neg (fun k:v=s.id/\T=s.term=>ne (k.2 ▸ hT'))]
  exact h.z.ack v T hT'
 ·rw [e5]
  rcases hc with ⟨rfl,-⟩ | ⟨rfl,-⟩
  ·exact h.n.logok.le le
  ·exact (lmP.take _).le le
 ·rw [e5,e3]
  rcases hc with ⟨rfl,-⟩ | ⟨rfl,-⟩
  ·exact h.n.logT
  ·intro e he
   obtain ⟨i,hi⟩:=List.getElem?_of_mem (List.take_subset _ _ he)
   rw [<- hP] at hi
   exact h.ok.mono ne hi
 ·rw [e1,e3,e5]
  intro T n hT hn he hp
  by_cases e:T=s.term
  ·subst e
   show Has (g.ll s.term) n L
   rw [hP]
   rw [ackeq] at hn
   rcases Nat.le_total n (m.prev+m.ents.length) with h' | h'
   ·exact m1.less h'
   ·by_cases e':n<=m.prev+m.ents.length
    ·exact m1.less e'
    ·have h1:n<=g.ack s.id s.term:=by omega
     have h2:=h.n.holds s.term n (Nat.le_refl _) h1 ne fun T'' q1 q2=>by omega
     rw [hP] at h2
     exact m2' h2 (Has.self (by have:=h.ok.ackd s.id s.term;rw [hP] at this;omega))
  ·rw [ackne e] at hn
   have h2:=h.n.holds T n hT hn he hp
   have h3:=hp s.term (by omega) (Nat.le_refl _) ne
   have h3':Has (g.ll T) n P:=by rw [<- hP];exact h3
   exact m2' h2 h3'
 ·rw [e1,e3]
  intro T hT
  rw [ackne (by omega)];exact h.n.ackT T hT
 ·rw [e1,e3];exact h.n.vlT
 ·rw [e1,e3,e4];exact h.n.vote0
 ·rw [e1,e3,e4];exact h.n.vote1
 ·rw [e1,e3];exact h.n.elT
 ·rw [e3,e5,e6]
  by_cases hc:min m.commit (m.prev+m.ents.length)<=s.commit
  ·rw [Nat.max_eq_left hc]
   rcases h.n.com with e | ⟨T0,n0,k1,k2,k3,k4⟩
   ·exact .inl e
   ·exact .inr ⟨T0,n0,k1,k2,k3,m2' k4 (hcom k1 k2 k3)⟩
  ·rw [Nat.max_eq_right (by omega)]
   rcases a5 with e | ⟨T0,n0,k1,k2,k3,k4⟩
   ·omega
   ·exact .inr ⟨T0,n0,k1,k2,by omega,(k4.less (Nat.min_le_left _ _)).trans (m1.less (Nat.min_le_right _ _))⟩
end
end
section
section
variable {init:Memb} {g g':G} {s s':PN} {m:Msg}
theorem plain_msg {k src dst term prev:Nat} (hk:k=2\/k=4) (h:src≠dst) (h1:1<=term):MsgOk g ⟨k,src,dst,term,prev,0,0,false,[]⟩:=by
 refine ⟨h,h1,fun e=>?_,fun _ e=>(by cases e),fun e=>?_,fun _ e=>(by cases e)⟩
 ·have:k=1:=e
  omega
 ·have:k=3:=e
  omega
theorem Live.asks (h:Live init g s) (hm:MsgOk g m) (hk:m.kind=1) (ht:m.term=s.term) (hd:m.dst=s.id) (now:Nat):Steps init g s (requestedS s m now).1 (requestedS s m now).2:=by
 have hsrc:s.id≠m.src:=by rw [<- hd];exact hm.ne.symm
 have ht1:1<=s.term:=by rw [<- ht];exact hm.t1
 unfold requestedS
 split
 ·rename_i k
  obtain ⟨k,hup⟩:=k
  by_cases hv:s.voted=some m.src
  ·refine Steps.msgs (s':={ s with voted:=some m.src,since:=now }) (h.same rfl rfl rfl hv.symm rfl rfl rfl rfl rfl h.nx) rfl fun x hx=>?_
   rw [List.mem_singleton.1 hx]
   exact ⟨hsrc,ht1,fun e=>(by cases e),fun _ _=>h.n.vote1 _ hv,fun e=>(by cases e),fun e=>(by cases e)⟩
  ·have hn:=k.resolve_right hv
   have hn':=h.n.vote0 hn
   obtain ⟨E,a1,a2,a3⟩:=hm.ask hk
   rw [ht] at a1
   rw [a2,a3] at hup
   have hE:=(h.ok.vote _ _ _ _ a1).2.2
   have hrole:s.role=1:=by
    rcases h.rl with e | e | e
    ·exact e
    ·have:=(h.n.cand e).2.1
     rw [hn'] at this;cases this
    ·obtain ⟨V,hV⟩:=lead_voted h e
     rw [hn'] at hV;cases hV
   have hlt:∀ e∈s.log,e.term<s.term:=fun e he=>by
    rcases Nat.lt_or_ge e.term s.term with h' | h'
    ·exact h'
    ·exfalso
     obtain ⟨i,hi⟩:=List.getElem?_of_mem he
     have hne:s.log≠[]:=fun k=>by rw [k] at he;cases he
     obtain ⟨f,hf,hft⟩:=last_at hne
     have hil:=(List.getElem?_eq_some_iff.1 hi).1
     have h2:=h.n.logok.mono h.ok hi hf (by omega)
     have h3:s.term<=lastT E:=by
      rcases hup with h' | h' <;> omega
     by_cases hE0:E=[]
     ·rw [hE0] at h3;simp [lastT] at h3;omega
     ·obtain ⟨f',hf',hft'⟩:=last_at hE0
      have:=hE f' (List.mem_of_getElem? hf')
      omega
   obtain ⟨a,l⟩:=h.cast (s':={ s with voted:=some m.src,since:=now }) hn' ⟨E,(vote_le hn').vl _ _ _ a1,hup.imp id fun ⟨x,y⟩=>⟨x,y⟩⟩ hlt ht1 rfl rfl rfl rfl rfl rfl (.inl hrole)
   refine ⟨_,a,l,rfl,fun x hx=>?_⟩
   rw [List.mem_singleton.1 hx]
   exact ⟨hsrc,ht1,fun e=>(by cases e),fun _ _=>⟨s.log,vote_self⟩,fun e=>(by cases e),fun e=>(by cases e)⟩
 ·refine Steps.msgs h rfl fun x hx=>?_
  rw [List.mem_singleton.1 hx]
  exact plain_msg (.inl rfl) hsrc ht1
theorem set_getD {α:Type} (l:List α) (i j:Nat) (x d:α):(l.set i x).getD j d=if i=j/\j<l.length then x else l.getD j d:=by
 rw [List.getD_eq_getElem?_getD,List.getD_eq_getElem?_getD,List.getElem?_set]
 by_cases e:i=j
 ·subst e
  by_cases h:i<l.length
  ·simp [h]
  ·simp [h]
 ·simp [e]
theorem Live.voted (h:Live init g s) (hm:MsgOk g m) (hk:m.kind=2) (ht:m.term=s.term) (hd:m.dst=s.id) (hg:m.granted=true) (hr:s.role=2):Live init g { s with votes:=s.votes.set m.src true }:=by
 refine ⟨h.ok,h.z,⟨h.n.logok,h.n.logT,h.n.holds,h.n.ackT,h.n.vlT,h.n.vote0,h.n.vote1,h.n.elT,h.n.com,fun _=>?_,fun e=>?_⟩,h.i,h.p,h.nx,h.rl⟩
 ·obtain ⟨q1,q2,q3,q4⟩:=h.n.cand hr
  refine ⟨q1,q2,q3,fun u hu=>?_⟩
  rw [show ({ s with votes:=s.votes.set m.src true }:PN).votes=s.votes.set m.src true from rfl,set_getD] at hu
  split at hu
  ·rename_i e
   have:=hm.vote hk hg
   rw [hd,ht,e.1] at this
   exact this
  ·exact q4 u hu
 ·have:s.role=3:=e
  omega
theorem Live.back (h:Live init g s) (hr:s.role=3) (m:Msg):Live init g (backS s m):=by
 refine h.same rfl rfl rfl rfl rfl rfl rfl rfl rfl fun _ u=>?_
 have h1:=h.nx hr
 rw [show (backS s m).next=s.next.set m.src (max (min (s.next.getD m.src 0 - 1) (m.prev+1)) 1) from rfl,set_getD]
 split
 ·have:=h1 m.src
  omega
 ·exact h1 u
theorem Live.matched (h:Live init g s) (hr:s.role=3) (hm:MsgOk g m) (hk:m.kind=4) (ht:m.term=s.term) (hd:m.dst=s.id) (hg:m.granted=true) (hp:m.prev<=s.log.length):Live init g (matchS s m):=by
 obtain ⟨q1,q2,q3,q4,q5⟩:=h.n.lead hr
 have hsrc:m.src≠s.id:=by rw [<- hd];exact hm.ne
 have hrep:=hm.rep hk hg
 rw [ht] at hrep
 refine ⟨h.ok,h.z,⟨h.n.logok,h.n.logT,h.n.holds,h.n.ackT,h.n.vlT,h.n.vote0,h.n.vote1,h.n.elT,h.n.com,fun e=>?_,fun _=>⟨q1,q2,q3,q4,fun u hu=>?_⟩⟩,h.i,h.p,fun _ u=>?_,h.rl⟩
 ·have:s.role=2:=e
  omega
 ·show (s.mtch.set m.src _).getD u 0<=_
  rw [set_getD]
  split
  ·rename_i e
   have:=q5 m.src hsrc
   show _<=g.ack u s.term
   rw [<- e.1];omega
  ·exact q5 u hu
 ·show (s.next.set m.src _).getD u 0<=s.log.length+1
  rw [set_getD]
  split
  ·have:=q5 m.src hsrc
   have h2:=h.ok.ackd m.src s.term
   rw [q2] at h2
   omega
  ·exact h.nx hr u
theorem Live.replies (h:Live init g s) (hr:s.role=3) (hm:MsgOk g m) (hk:m.kind=4) (ht:m.term=s.term) (hd:m.dst=s.id):Steps init g s (repliedS s m).1 (repliedS s m).2:=by
 have hsrc:m.src≠s.id:=by rw [<- hd];exact hm.ne
 unfold repliedS
 split
 ·have l1:=h.back hr m
  refine Steps.msgs l1 rfl fun x hx=>?_
  rw [List.mem_singleton.1 hx]
  exact l1.append (l1.head hr) hsrc
 ·rename_i hg
  split
  ·exact Steps.stay h rfl
  ·have l1:=h.matched hr hm hk ht hd (by simpa using hg) (by omega)
   obtain ⟨g1,a1,l2,i2,h2⟩:=l1.advance hr
   have mk:∀ {out:List Msg},(∀ x∈out,MsgOk g1 x)->Steps init g s (advS (matchS s m)) out:=fun {out} ho=>⟨g1,a1,l2,i2,ho⟩
   have hid:(advS (matchS s m)).id=s.id:=i2
   split
   ·exact mk fun x hx=>by cases hx
   ·split
    ·exact mk (l2.all h2)
    ·split
     ·refine mk fun x hx=>?_
      rw [List.mem_singleton.1 hx]
      exact l2.append h2 (by rw [hid];exact hsrc)
     ·exact mk fun x hx=>by cases hx
theorem Live.receives (h:Live init g s) (hm:MsgOk g m) (hk:m.kind=3) (ht:m.term=s.term) (hd:m.dst=s.id) (now:Nat):Steps init g s (receiveS s m now).1 (receiveS s m now).2:=by
 have hsrc:s.id≠m.src:=by rw [<- hd];exact hm.ne.symm
 have ht1:1<=s.term:=by rw [<- ht];exact hm.t1
 unfold receiveS
 split
 ·rename_i k
  obtain ⟨g',a,l,r⟩:=h.accept hm hk ht hd k (s':={ recvB s m now with log:=mergeL s.log m.prev m.ents,commit:=max s.commit (min m.commit (m.prev+m.ents.length)) }) rfl rfl rfl rfl rfl rfl rfl
  refine ⟨g',a,l,rfl,fun x hx=>?_⟩
  rw [List.mem_singleton.1 hx]
  exact ⟨hsrc,ht1,fun e=>(by cases e),fun e=>(by cases e),fun e=>(by cases e),fun _ _=>r⟩
 ·refine Steps.msgs (s':=recvB s m now) (h.follow rfl rfl rfl rfl rfl rfl rfl) rfl fun x hx=>?_
  rw [List.mem_singleton.1 hx]
  exact plain_msg (.inr rfl) hsrc ht1
theorem Live.handles (h:Live init g s) (hm:MsgOk g m) (hk:1<=m.kind/\m.kind<=4) (ht:m.term=s.term) (hd:m.dst=s.id) (now:Nat):Steps init g s (handleS s m now).1 (handleS s m now).2:=by
 unfold handleS
 split
 ·rename_i k
  exact h.asks hm k ht hd now
 ·split
  ·rename_i k
   split
   ·rename_i hc
    have l1:=h.voted hm k ht hd hc.1 hc.2
    split
    ·rename_i hq
     have:=l1.leads hc.2 hq now
     exact this
    ·exact Steps.stay l1 rfl
   ·exact Steps.stay h rfl
  ·split
   ·rename_i k
    split
    ·exact Steps.stay h rfl
    ·exact h.receives hm k ht hd now
   ·split
    ·rename_i hc
     exact h.replies hc.1 hm (by omega) ht hd
    ·exact Steps.stay h rfl
theorem Live.steps (h:Live init g s) (hm:MsgOk g m) (hk:1<=m.kind/\m.kind<=4) (hd:m.dst=s.id) (now:Nat):Steps init g s (stepS s m now).1 (stepS s m now).2:=by
 have h1:=h.clock now
 refine Steps.clock (now:=now) ?_
 unfold stepS
 have hd:m.dst=(s.at now).id:=hd
 generalize s.at now=s at*
 generalize s.latest=now at*
 have hsrc:s.id≠m.src:=by rw [<- hd];exact hm.ne.symm
 unfold stepT
 split
 ·exact Steps.stay h1 rfl
 ·split
  ·rename_i hlt
   refine Steps.msgs h1 rfl fun x hx=>?_
   unfold refuseS at hx
   split at hx
   ·rw [List.mem_singleton.1 hx]
    exact plain_msg (.inl rfl) hsrc (by have:=hm.t1;omega)
   ·split at hx
    ·rw [List.mem_singleton.1 hx]
     exact plain_msg (.inr rfl) hsrc (by have:=hm.t1;omega)
    ·cases hx
  ·split
   ·rename_i hlt
    exact (h1.enter hlt).handles hm hk rfl hd now
   ·exact h1.handles hm hk (by omega) hd now
theorem Live.submits (h:Live init g s) (hr:s.role=3) {kind:Nat} {body:List UInt8} (hmb:∀ d,mbOf ⟨s.term,kind,body⟩=some d->Succ s.memb d/\OkM d/\membAt s.log<=s.commit):Steps init g s (submitS s kind body).1 (submitS s kind body).2:=
 (h.grow hr (e:=⟨s.term,kind,body⟩) rfl hmb).bind fun g1 _ l1 _=>l1.sends' hr
theorem Live.proposes (h:Live init g s) (body:List UInt8):Steps init g s (proposeS s body).1 (proposeS s body).2:=by
 unfold proposeS
 split
 ·rename_i hr
  exact h.submits hr fun d hd=>by rw [mbOf_not (by show (2:Nat)≠3;decide)] at hd;cases hd
 ·exact Steps.stay h rfl
theorem Live.open (h:Live init g s) (wait beat now:Nat):Live init g (openS s.id wait beat s.init s.term s.voted s.log now):=
 ⟨h.ok,h.z,⟨h.n.logok,h.n.logT,h.n.holds,h.n.ackT,h.n.vlT,h.n.vote0,h.n.vote1,h.n.elT,.inl rfl,fun e=>(by cases e),fun e=>(by cases e)⟩,h.i,h.p,fun e=>(by cases e),.inl rfl⟩
/-! ### the whole system -/
structure Sys (init:Memb) (g:G) (N:Nat->PN) (k:Nat) (F:List Msg):Prop where
 live:∀ i,i<k->Live init g (N i)/\(N i).id=i
 msg:∀ m∈F,MsgOk g m
theorem Sys.step {N:Nat->PN} {k:Nat} {F:List Msg} (h:Sys init g N k F) {i:Nat} (hi:i<k) {s':PN} {out:List Msg} (hs:Steps init g (N i) s' out) {F':List Msg} (hF:∀ m∈F',m∈F\/m∈out):
  ∃ g',Le g g'/\Sys init g' (fun j=>if j=i then s' else N j) k F':=by
 obtain ⟨li,ii⟩:=h.live i hi
 obtain ⟨g',a,l,i',o⟩:=hs
 refine ⟨g',a.le,fun j hj=>?_,fun m hm=>(hF m hm).elim (fun h'=>(h.msg m h').le li.ok a.le) (o m)⟩
 by_cases e:j=i
 ·subst e
  rw [if_pos rfl]
  exact ⟨l,i'.trans ii⟩
 ·rw [if_neg e]
  obtain ⟨lj,ij⟩:=h.live j hj
  exact ⟨⟨l.ok,l.z,lj.n.other li.ok li.z a (by rw [ij,ii];exact e),lj.i,lj.p,lj.nx,lj.rl⟩,ij⟩
def G0:G:=⟨fun _=>none,fun _=>[],fun _=>[],fun _ _=>none,fun _ _=>0,fun _ _=>False⟩
theorem gok0 (h:OkM init):GOk mbOf init G0:=
 ⟨fun _ h=>absurd rfl h,fun _ h=>absurd rfl h,fun _ h=>absurd rfl h,fun _ h=>absurd rfl h,fun _ h=>absurd rfl h,fun _ _ h=>(by cases h),fun _ _ h=>(by cases h),fun _ _ _ _ h=>(by cases h),fun _ _ h=>h.elim,fun _ h=>absurd rfl h,fun _ h=>absurd rfl h,h,fun _ _=>Nat.zero_le _,fun _ _ _ _ h=>(by cases h)⟩
theorem live0 (h:Permit init) (id wait beat:Nat):Live init G0 (openS id wait beat init 0 none [] 0):=
 ⟨gok0 h.ok,⟨fun _ _ _=>rfl⟩,⟨fun i e he=>(by simp [openS] at he),fun e he=>(by cases he),fun T n _ hn he=>absurd rfl he,fun _ _=>rfl,fun _ _=>rfl,fun _=>rfl,fun _ e=>(by cases e),fun _ e=>(by cases e),.inl rfl,fun e=>(by cases e),fun e=>(by cases e)⟩,rfl,h,fun e=>(by cases e),.inl rfl⟩
theorem Live.el (h:Live init g s) (hr:s.role=3):g.el s.term=some s.id:=(h.n.lead hr).1
theorem Live.comLe (h:Live init g s):s.commit<=s.log.length:=by
 rcases h.n.com with e | ⟨T0,n0,-,-,-,e⟩
 ·omega
 ·exact e.1
end
end
end Go.Proofs.YtcaokpglbolkcaaGreat
