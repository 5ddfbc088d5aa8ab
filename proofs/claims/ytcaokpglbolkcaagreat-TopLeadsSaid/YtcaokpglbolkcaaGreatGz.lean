import Derived.Test.YtcaokpglbolkcaaGreatOh
import Derived.Test.YtcaokpglbolkcaaGreatLz
import Derived.Test.YtcaokpglbolkcaaGreatFb
import Derived.Test.YtcaokpglbolkcaaGreatNf7
import Derived.Lib.SlBytesConst
namespace Go.Proofs.YtcaokpglbolkcaaGreat
section
variable {g g':G} {now i:Nat} {s s':PN} {m:Msg} {out:List Msg}
theorem newE_have:∀ (l log:List Ent) (n c:Nat),(∀ i,i<c->log[n+i]?=l[i]?)->c<=l.length->newE log n l<=l.length - c
 | [],_,_,_,_,_=>Nat.zero_le _
 | e::l,log,n,0,_,_=>newE_le log n (e::l)
 | e::l,log,n,c+1,h,hc=>by
  have h0:log[n]?=some e:=h 0 (by omega)
  unfold newE
  rw [if_pos h0]
  have:=newE_have l log (n+1) c (fun i hi=>by
   have:=h (i+1) (by omega)
   rw [show n+1+i=n+(i+1) by omega]
   simpa using this) (by simp at hc;omega)
  simp
  omega
def kw (s:PN):Nat:=(if s.role=2 then 45 else 0)+(if s.voted=none then 1 else 0)
def kr (g:G) (s:PN):Nat:=400*s.term+g.ack s.id s.term
theorem ack_log (l:Live init3 g s):g.ack s.id s.term<=s.log.length:=by
 by_cases e:g.el s.term=none
 ·rw [l.z.ack _ _ e];exact Nat.zero_le _
 ·exact (l.n.holds s.term _ (Nat.le_refl _) (Nat.le_refl _) e fun T h1 h2=>by omega).1
theorem newE_ack (l:Live init3 g s) (hm:MsgOk g m) (hk:m.kind=3) (ht:m.term=s.term) (hg:m.prev+m.ents.length<=g'.ack s.id s.term) (hle:Le g g'):newE s.log m.prev m.ents+g.ack s.id s.term<=g'.ack s.id s.term:=by
 have h0:=hle.ack s.id s.term
 obtain ⟨a1,a2,a3,a4,-⟩:=hm.app hk
 have ne:g.el s.term≠none:=by rw [<- ht,a1];exact fun h=>by cases h
 have hh:=l.n.holds s.term _ (Nat.le_refl _) (Nat.le_refl _) ne fun T h1 h2=>by omega
 have:=newE_have m.ents s.log m.prev (min m.ents.length (g.ack s.id s.term - m.prev)) (fun i hi=>by
  rw [hh.at (by omega)]
  obtain ⟨r,hr⟩:=a4
  have:=congrArg (fun x=>x[i]?) hr
  simp only [List.getElem?_drop] at this
  rw [List.getElem?_append_left (by omega),ht] at this
  exact this.symm) (Nat.min_le_left _ _)
 omega
open Classical in
theorem kb_step (h:Sh now i s) (hi:i<3) (l:Live init3 g s) (hL:s.log.length<=320) (ms:MSh m) (hd:m.dst=i) (hm:MsgOk g m) (mv:Mv now s m s' out) (hle:Le g g') (ho:∀ x∈out,MsgOk g' x):
  (if deaf s m now then 0 else opT s m)+kw s'+kr g s<=kw s+kr g' s':=by
 have ha:=ack_log l
 have hk0:kr g s<=400*s.term+320:=by unfold kr;omega
 have hmono:kr g s<=kr g' s:=by have:=hle.ack s.id s.term;unfold kr;omega
 have hA:opA s=0:=if_pos (membAt_plain _ h.pl)
 have hAe:opA (enterS s m.term)=0:=if_pos (membAt_plain _ h.pl)
 have ne:m.src≠i:=by rw [<- hd];exact ms.ne
 have eid:(ent s m).id=s.id:=(ent_same s m).1
 have up:∀ {t:PN} {c:Nat},s.term<m.term->¬deaf s m now->t.term=m.term->kw t<=1->opH (enterS s m.term) m<=c+g'.ack t.id t.term->c<=1->(if deaf s m now then 0 else opT s m)+kw t+kr g s<=kw s+kr g' t:=fun {t c} h1 h2 h3 h4 h5 h6=>by
  rw [if_neg h2,show opT s m=1+opH (enterS s m.term) m by unfold opT;rw [if_neg (by omega),if_pos h1]]
  have:kr g' t=400*t.term+g'.ack t.id t.term:=rfl
  omega
 have flat:¬s.term<m.term->s.term<=m.term->¬deaf s m now->(if deaf s m now then 0 else opT s m)=opH s m:=fun h1 h2 h3=>by
  rw [if_neg h3]
  unfold opT
  rw [if_neg (by omega),if_neg h1]
 have nd:m.kind≠1->¬deaf s m now:=fun h k=>h k.1
 have kwE:∀ {t:PN},t.role=1->kw t<=1:=fun {t} h=>by unfold kw;rw [if_neg (by omega)];split <;> omega
 have kw2:s.role=2->kw s=45:=fun h2=>by
  unfold kw
  rw [if_pos h2,(h.c2 h2).1,if_neg (fun e=>by cases e)]
 have r1:∀ t:PN,opR t m<=1:=fun t=>by unfold opR;split <;> omega
 have e1:m.kind=1->∀ t,opH t m=opR t m:=fun k t=>if_pos k
 have e4:m.kind=4->∀ t,opH t m=opA t:=fun k t=>by unfold opH;rw [if_neg (by omega),if_neg (by omega),if_neg (by omega)]
 have e2:m.kind=2->∀ t,opH t m=if m.granted=true/\t.role=2 then 40 else 0:=fun k t=>by unfold opH;rw [if_neg (by omega),if_pos k]
 have e3:m.kind=3->∀ t,opH t m=if t.role=3 then 0 else opV t m:=fun k t=>by unfold opH;rw [if_neg (by omega),if_neg (by omega),if_pos k]
 have hh:=heard_same s m
 have heardk:kw (advC (matchS s m))=kw s/\kr g s<=kr g' (advC (matchS s m)):=by
  constructor
  ·unfold kw;rw [hh.2.2.1,hh.2.2.2.2.2.2.2]
  ·unfold kr;rw [hh.1,hh.2.1];exact hmono
 have old:m.term<s.term->(if deaf s m now then 0 else opT s m)=0:=fun hl=>by
  split
  ·rfl
  ·unfold opT;rw [if_pos hl]
 cases mv with
 | deaf k hdf=>rw [if_pos ⟨k,hdf⟩];omega
 | old1 k hl=>rw [old hl];omega
 | old3 k hl=>rw [old hl];omega
 | old k hl=>rw [old hl];omega
 | grant k hle2 hdf hv hup=>
  by_cases hr:s.term<m.term
  ·have ee:=ent_up hr
   refine up (c:=1) hr hdf (ent_term hle2) ?_ (by rw [e1 k];have:=r1 (enterS s m.term);omega) (Nat.le_refl _)
   refine kwE ?_
   show (ent s m).role=1
   rw [ee];rfl
  ·have ee:ent s m=s:=ent_eq (by omega)
   rw [ee] at hv ⊢
   rw [flat hr hle2 hdf,e1 k]
   have key:∀ t:PN,t.role=s.role->t.voted=some m.src->t.term=s.term->t.id=s.id->opR s m+kw t+kr g s<=kw s+kr g' t:=fun t t1 t2 t3 t4=>by
    have q:kr g' t=kr g' s:=by unfold kr;rw [t3,t4]
    have q2:kw t=if s.role=2 then 45 else 0:=by unfold kw;rw [t1,t2,if_neg (fun e:some m.src=none=>by cases e)];rfl
    have q3:kw s=(if s.role=2 then 45 else 0)+(if s.voted=none then 1 else 0):=rfl
    rw [q,q2,q3]
    by_cases hvn:s.voted=none
    ·have:=r1 s
     rw [if_pos hvn]
     omega
    ·have:opR s m=0:=if_neg fun a=>hvn a.1
     omega
   exact key _ rfl rfl rfl rfl
 | deny k hle2 hdf hv=>
  by_cases hr:s.term<m.term
  ·have ee:=ent_up hr
   refine up (c:=1) hr hdf (ent_term hle2) (kwE (by rw [ee];rfl)) (by rw [e1 k];have:=r1 (enterS s m.term);omega) (Nat.le_refl _)
  ·have ee:ent s m=s:=ent_eq (by omega)
   rw [ee] at hv ⊢
   rw [flat hr hle2 hdf,e1 k]
   have:opR s m=0:=if_neg fun a=>hv ⟨.inl a.1,a.2⟩
   omega
 | idle hle2 hq=>
  have hdf:¬deaf s m now:=nd (by omega)
  by_cases hr:s.term<m.term
  ·have ee:=ent_up hr
   refine up (c:=0) hr hdf (ent_term hle2) (kwE (by rw [ee];rfl)) ?_ (by omega)
   rw [ee] at hq
   rcases hq with ⟨k,-⟩ | ⟨k,hq⟩ | ⟨k,-⟩
   ·rw [e2 k,if_neg fun a=>absurd a.2 (by show ¬((1:Nat)=2);decide)];exact Nat.zero_le _
   ·exact absurd hq (by show ¬((1:Nat)=3);decide)
   ·rw [e4 k,hAe];exact Nat.zero_le _
  ·have ee:ent s m=s:=ent_eq (by omega)
   rw [ee] at hq ⊢
   rw [flat hr hle2 hdf]
   have:opH s m=0:=by
    rcases hq with ⟨k,hq⟩ | ⟨k,hq⟩ | ⟨k,-⟩
    ·rw [e2 k,if_neg hq]
    ·rw [e3 k,if_pos hq]
    ·rw [e4 k,hA]
   omega
 | count k hg ht hr he=>exact absurd (votes_two (N:=fun _=>s) h hi hr ms.src ne) he
 | lead k hg ht hr he=>
  rw [flat (by omega) (by omega) (nd (by omega)),e2 k,if_pos ⟨hg,hr⟩,mv_lead3 h hi,kw2 hr]
  have key:∀ t:PN,t.role=3->t.voted=s.voted->t.term=s.term->t.id=s.id->40+kw t+kr g s<=45+kr g' t:=fun t t1 t2 t3 t4=>by
   have e:s.voted≠none:=by rw [(h.c2 hr).1];exact fun e=>by cases e
   have q:kr g' t=kr g' s:=by unfold kr;rw [t3,t4]
   have q2:kw t=0:=by unfold kw;rw [t2,if_neg (by omega),if_neg e]
   omega
  exact key _ rfl rfl rfl rfl
 | fol k hle2 hr hmt=>
  have hrep:=(ho _ (.head _)).rep rfl rfl
  have hrep:m.prev+m.ents.length<=g'.ack (ent s m).id (ent s m).term:=hrep
  by_cases hr2:s.term<m.term
  ·have ee:=ent_up hr2
   refine up (c:=0) hr2 (nd (by omega)) (ent_term hle2) (kwE rfl) ?_ (by omega)
   rw [e3 k]
   split
   ·exact Nat.zero_le _
   ·have:=newE_le (enterS s m.term).log m.prev m.ents
    show opV (enterS s m.term) m<=0+g'.ack (ent s m).id (ent s m).term
    unfold opV
    split <;> omega
  ·have ee:ent s m=s:=ent_eq (by omega)
   rw [ee] at hr hrep ⊢
   rw [flat hr2 hle2 (nd (by omega)),e3 k,if_neg hr,show opV s m=newE s.log m.prev m.ents from if_pos hmt]
   have:=newE_ack l hm k (by omega) hrep hle
   have b:kr g' ({ recvB s m now with log:=mergeL s.log m.prev m.ents,commit:=max s.commit (min m.commit (m.prev+m.ents.length)) }:PN)=400*s.term+g'.ack s.id s.term:=rfl
   have c:kw ({ recvB s m now with log:=mergeL s.log m.prev m.ents,commit:=max s.commit (min m.commit (m.prev+m.ents.length)) }:PN)<=kw s:=by
    unfold kw
    rw [if_neg (by show ¬((1:Nat)=2);decide)]
    show 0+(if s.voted=none then 1 else 0)<=_
    omega
   rw [b]
   unfold kr
   omega
 | nofol k hle2 hr hmt=>
  by_cases hr2:s.term<m.term
  ·have ee:=ent_up hr2
   refine up (c:=0) hr2 (nd (by omega)) (ent_term hle2) (kwE rfl) ?_ (by omega)
   rw [e3 k]
   split
   ·exact Nat.zero_le _
   ·have:opV (enterS s m.term) m=0:=if_neg hmt
    omega
  ·have ee:ent s m=s:=ent_eq (by omega)
   rw [ee] at hr ⊢
   rw [flat hr2 hle2 (nd (by omega)),e3 k,if_neg hr,show opV s m=0 from if_neg hmt]
   have b:kr g s<=kr g' (recvB s m now):=hmono
   have c:kw (recvB s m now)<=kw s:=by
    unfold kw
    rw [if_neg (by show ¬((1:Nat)=2);decide)]
    show 0+(if s.voted=none then 1 else 0)<=_
    omega
   omega
 | back k ht hr hg=>
  rw [flat (by omega) (by omega) (nd (by omega)),e4 k,hA]
  have a:kw (backS s m)=kw s:=rfl
  have b:kr g s<=kr g' (backS s m):=hmono
  omega
 | more k ht hr=>
  rw [flat (by omega) (by omega) (nd (by omega)),e4 k,hA,heardk.1]
  omega
 | next k ht hr=>
  rw [flat (by omega) (by omega) (nd (by omega)),e4 k,hA,heardk.1]
  omega
 | done k ht hr=>
  rw [flat (by omega) (by omega) (nd (by omega)),e4 k,hA,heardk.1]
  omega
theorem mv_nm (h:Sh now i s) (hi:i<3) (l:Live init3 g s) (ms:MSh m) (hd:m.dst=i) (mv:Mv now s m s' out) (u:Nat):s'.next.getD u 0<=max (s.next.getD u 0) (s'.log.length+1)/\s'.mtch.getD u 0<=max (s.mtch.getD u 0) s'.log.length:=by
 obtain ⟨-,-,-,-,-,-,-,-,-,-,f11,f12⟩:=ent_same s m
 have same:∀ t:PN,t.next=s.next->t.mtch=s.mtch->t.next.getD u 0<=max (s.next.getD u 0) (t.log.length+1)/\t.mtch.getD u 0<=max (s.mtch.getD u 0) t.log.length:=fun t h1 h2=>by
  rw [h1,h2];omega
 have ne:m.src≠i:=by rw [<- hd];exact ms.ne
 have heard:s.role=3->m.prev<=s.log.length->(advC (matchS s m)).next.getD u 0<=max (s.next.getD u 0) ((advC (matchS s m)).log.length+1)/\(advC (matchS s m)).mtch.getD u 0<=max (s.mtch.getD u 0) (advC (matchS s m)).log.length:=fun hr hp=>by
  obtain ⟨c,ec,-⟩:=advC_ex (matchS s m)
  rw [ec]
  have l2:=l.mle hr m.src (by rw [h.id];exact ne)
  show (matchS s m).next.getD u 0<=max _ (s.log.length+1)/\(matchS s m).mtch.getD u 0<=max _ s.log.length
  rw [matchS_n h.nl ms.src,matchS_m h.ml ms.src]
  split
  ·rename_i e;subst e;omega
  ·omega
 cases mv with
 | deaf=>exact same _ rfl rfl
 | old1=>exact same _ rfl rfl
 | old3=>exact same _ rfl rfl
 | old=>exact same _ rfl rfl
 | grant=>exact same _ f11 f12
 | deny=>exact same _ f11 f12
 | idle=>exact same _ f11 f12
 | count=>exact same _ rfl rfl
 | lead=>
  rw [mv_lead3 h hi]
  have r9:∀ x:Nat,(List.replicate 9 x).getD u 0<=x:=fun x=>by
   rw [List.getD_eq_getElem?_getD,List.getElem?_replicate]
   split
   ·exact Nat.le_refl _
   ·exact Nat.zero_le _
  have e:(s.log++[(⟨s.term,1,[]⟩:Ent)]).length=s.log.length+1:=by simp
  show (List.replicate 9 (s.log.length+1)).getD u 0<=max _ ((s.log++[(⟨s.term,1,[]⟩:Ent)]).length+1)/\(List.replicate 9 0).getD u 0<=max _ (s.log++[(⟨s.term,1,[]⟩:Ent)]).length
  rw [e]
  have a1:=r9 (s.log.length+1)
  have a2:=r9 0
  omega
 | fol=>exact same _ f11 f12
 | nofol=>exact same _ f11 f12
 | back k ht hr hg=>
  show (backS s m).next.getD u 0<=max _ (s.log.length+1)/\s.mtch.getD u 0<=max _ s.log.length
  rw [backS_n h.nl ms.src]
  split
  ·rename_i e;subst e;omega
  ·omega
 | more k ht hr hg hpl=>exact heard hr hpl
 | next k ht hr hg hpl=>exact heard hr hpl
 | done k ht hr hg hpl=>exact heard hr hpl
end
end Go.Proofs.YtcaokpglbolkcaaGreat
namespace Go.Proofs.YtcaokpglbolkcaaGreat
open Go Go.Nf Go.RowKit Go.MapKept
theorem permit3:Permit init3:=⟨⟨by decide,by decide,by decide⟩,.inl rfl⟩
def prow (n:Nat) (f:Nat->Nat):List Value:=(List.range n).map fun j=>.pointer (some ⟨f j,0,none⟩)
theorem prow_at {n:Nat} {f:Nat->Nat} {i:Nat} (h:i<n):(prow n f)[i]?=some (.pointer (some ⟨f i,0,none⟩)):=by
 unfold prow
 rw [List.getElem?_map,List.getElem?_range h];rfl
theorem prow_len (n:Nat) (f:Nat->Nat):(prow n f).length=n:=by unfold prow;simp
theorem prow_set {n:Nat} {f:Nat->Nat} {i x:Nat} (h:i<n):setFrom (prow n f) i [.pointer (some ⟨x,0,none⟩)]=prow n fun j=>if j=i then x else f j:=by
 rw [setFrom_one]
 apply List.ext_getElem?
 intro j
 rw [List.getElem?_set]
 by_cases hj:j<n
 ·rw [prow_at hj,prow_at hj]
  by_cases e:i=j
  ·subst e
   rw [if_pos rfl,if_pos (by rw [prow_len];exact h),if_pos rfl]
  ·rw [if_neg e,if_neg (fun k=>e k.symm)]
 ·rw [List.getElem?_eq_none (l:=prow n f) (by rw [prow_len];omega),List.getElem?_eq_none (l:=prow n _) (by rw [prow_len];omega),prow_len]
  by_cases e:i=j
  ·omega
  ·rw [if_neg e]
theorem cell_arr {w:World} {b T:Nat} {l:List Value} {i:Nat} {v:Value} (r:Row w b T l) (h:l[i]?=some v):w.cell? (Addr.add (⟨b,0,none⟩:Addr) ((i:Int).toNat*1))=some v:=by
 rw [Addr.add_lit,toNat_cast,Nat.mul_one,Nat.zero_add]
 exact r.cell h
section
variable {w w':World} {B nn:Nat} {W E:Nat->Prop} {nd:Nat->Nd}
theorem Net.add {x:Nd} (h:Net w B nn W E nd) (hB:B<=hs w) (o:Only W w w') (n:NodeAt w' x.N x.D x.p x.t x.s false [] x.k) (hN:∀ b,x.N b->hs w<=b) (hD:∀ b,x.D b->hs w<=b):Net w' B (nn+1) W E (updN nd nn x):=by
 have h':=h.own o fun b hb=>.inl hb
 have lt:=fun {i} (hi:i<nn) b hb=>h.lt hi b hb
 refine ⟨fun i hi=>?_,fun i j hi hj hij b hb=>?_,fun i hi b hb=>?_,fun i hi b hb=>?_,h'.wz,h'.ez⟩
 ·by_cases e:i=nn
  ·subst e;rw [updN_self];exact n
  ·rw [updN_ne nd x e];exact h'.node i (by omega)
 ·by_cases ei:i=nn
  ·subst ei
   rw [updN_self] at hb
   rw [updN_ne nd x (Ne.symm hij)]
   have:=hN b hb
   exact ⟨fun k=>by have:=lt (show j<i by omega) b (.inl k);omega,fun k=>by have:=lt (show j<i by omega) b (.inr k);omega⟩
  ·rw [updN_ne nd x ei] at hb
   have hl:=lt (show i<nn by omega) b (.inl hb)
   by_cases ej:j=nn
   ·subst ej
    rw [updN_self]
    exact ⟨fun k=>by have:=hN b k;omega,fun k=>by have:=hD b k;omega⟩
   ·rw [updN_ne nd x ej]
    exact h.np i j (by omega) (by omega) hij b hb
 ·by_cases e:i=nn
  ·subst e
   rw [updN_self] at hb
   have:=hN b hb
   exact ⟨by omega,fun k=>by have:=(h.wz b k).2.1;omega,fun k=>by have:=h.ez b k;omega⟩
  ·rw [updN_ne nd x e] at hb
   exact h.nz i (by omega) b hb
 ·by_cases e:i=nn
  ·subst e
   rw [updN_self] at hb
   have:=hD b hb
   exact fun k=>by have:=(h.wz b k).2.1;omega
  ·rw [updN_ne nd x e] at hb
   exact h.dz i (by omega) b hb
theorem Net.re {W' E':Nat->Prop} (h:Net w B nn W E nd) (hW:∀ b,W' b->W b) (hE:∀ b,E' b->E b\/W b) (hd:∀ b,W' b->¬E' b):Net w B nn W' E' nd:=
 ⟨h.node,h.np,fun i hi b hb=>⟨(h.nz i hi b hb).1,fun k=>(h.nz i hi b hb).2.1 (hW b k),fun k=>(hE b k).elim (h.nz i hi b hb).2.2 (h.nz i hi b hb).2.1⟩,fun i hi b hb k=>h.dz i hi b hb (hW b k),fun b hb=>⟨(h.wz b (hW b hb)).1,(h.wz b (hW b hb)).2.1,hd b hb⟩,fun b hb=>(hE b hb).elim (h.ez b) fun k=>(h.wz b k).2.1⟩
end
def prowP (n j:Nat) (f:Nat->Nat):List Value:=prow j f++List.replicate (n - j) (.pointer none)
theorem prowP_full (n:Nat) (f:Nat->Nat):prowP n n f=prow n f:=by unfold prowP;rw [Nat.sub_self];simp
theorem prowP_len {n j:Nat} (h:j<=n) (f:Nat->Nat):(prowP n j f).length=n:=by unfold prowP;rw [List.length_append,prow_len,List.length_replicate];omega
theorem prowP_set {n j x:Nat} {f:Nat->Nat} (h:j<n):setFrom (prowP n j f) j [.pointer (some ⟨x,0,none⟩)]=prowP n (j+1) fun i=>if i=j then x else f i:=by
 unfold prowP
 have h1:=setFrom_right [.pointer (some ⟨x,0,none⟩)] (prow j f) (List.replicate (n - j) (Value.pointer none)) 0
 rw [prow_len,Nat.add_zero] at h1
 rw [h1,show n - j=n - (j+1)+1 by omega,List.replicate_succ]
 have e:prow (j+1) (fun i=>if i=j then x else f i)=prow j f++[.pointer (some ⟨x,0,none⟩)]:=by
  unfold prow
  rw [List.range_succ,List.map_append]
  congr 1
  ·refine List.map_congr_left fun a ha=>?_
   show Value.pointer (some ⟨(if a=j then x else f a),0,none⟩)=.pointer (some ⟨f a,0,none⟩)
   rw [if_neg (by have:=List.mem_range.1 ha;omega)]
  ·simp
 rw [e,List.append_assoc];rfl
theorem prowP_upd {n j p:Nat} {nd:Nat->Nd} {x:Nd} (e:x.p=p):(prowP n (j+1) fun i=>if i=j then p else (nd i).p)=prowP n (j+1) fun i=>(updN nd j x i).p:=by
 unfold prowP prow
 congr 1
 refine List.map_congr_left fun a _=>?_
 show Value.pointer (some ⟨(if a=j then p else (nd a).p),0,none⟩)=.pointer (some ⟨(updN nd j x a).p,0,none⟩)
 by_cases h:a=j
 ·subst h;rw [updN_self,if_pos rfl,e]
 ·rw [updN_ne nd x h,if_neg h]
theorem prowP_updT {n j t:Nat} {nd:Nat->Nd} {x:Nd} (e:x.t=t):(prowP n (j+1) fun i=>if i=j then t else (nd i).t)=prowP n (j+1) fun i=>(updN nd j x i).t:=by
 unfold prowP prow
 congr 1
 refine List.map_congr_left fun a _=>?_
 show Value.pointer (some ⟨(if a=j then t else (nd a).t),0,none⟩)=.pointer (some ⟨(updN nd j x a).t,0,none⟩)
 by_cases h:a=j
 ·subst h;rw [updN_self,if_pos rfl,e]
 ·rw [updN_ne nd x h,if_neg h]
theorem prowP_at {n j i:Nat} {f:Nat->Nat} (h:i<j):(prowP n j f)[i]?=some (.pointer (some ⟨f i,0,none⟩)):=by
 unfold prowP
 rw [List.getElem?_append_left (by rw [prow_len];exact h),prow_at h]
theorem arr_set {w w1:World} {b T i:Nat} {l:List Value} {v:Value} (r:Row w b T l) (e:w1=setCells w (Addr.add (⟨b,0,none⟩:Addr) ((i:Int).toNat*1)) [v] 0):Row w1 b T (setFrom l i [v])/\Only (fun k=>k=b) w w1:=by
 rw [Addr.add_lit,toNat_cast,Nat.mul_one,Nat.zero_add] at e
 exact ⟨r.set e,only_set e⟩
theorem arr_there {w:World} {b T i:Nat} {l:List Value} (r:Row w b T l) (h:i<l.length):There w (Addr.add (⟨b,0,none⟩:Addr) ((i:Int).toNat*1)) 1:=by
 rw [Addr.add_lit,toNat_cast,Nat.mul_one,Nat.zero_add];exact r.there (by omega)
/-! ### the turns -/
abbrev TV:=Nat × Nat × Nat
def turnV (t:TV):List Value:=[.int .u8 (t.1:Int),.int .u8 (t.2.1:Int),.int .u8 (t.2.2:Int)]
def TurnsAt (w:World) (A:Nat->Prop) (o:Option Addr) (n:Nat):Prop:=∃ ts:List TV,ts.length=n/\(∀ t∈ts,t.1<256/\t.2.1<256/\t.2.2<256)/\Recs w A o 3 (ts.map turnV)
theorem TurnsAt.keep {w w':World} {A S:Nat->Prop} {o:Option Addr} {n:Nat} (h:TurnsAt w A o n) (g:Only S w w') (hS:∀ b,A b->¬S b):TurnsAt w' A o n:=by
 obtain ⟨ts,h1,h2,h3⟩:=h
 exact ⟨ts,h1,h2,h3.keep g hS⟩
theorem TurnsAt.grow {w w':World} {A:Nat->Prop} {o:Option Addr} {n:Nat} (h:TurnsAt w A o n) (g:Grow w w'):TurnsAt w' A o n:=h.keep g fun _ _ h=>h
theorem TurnsAt.at {w:World} {A:Nat->Prop} {o:Option Addr} {n i:Nat} (h:TurnsAt w A o n) (hi:i<n):
  ∃ a x y z,o=some a/\x<256/\y<256/\z<256/\w.cell? (a.add ((i:Int).toNat*3))=some (.int .u8 ((x:Nat):Int))/\w.cell? ((a.add ((i:Int).toNat*3)).add 1)=some (.int .u8 ((y:Nat):Int))/\w.cell? ((a.add ((i:Int).toNat*3)).add 2)=some (.int .u8 ((z:Nat):Int)):=by
 obtain ⟨ts,rfl,h2,h3⟩:=h
 have hat:=List.getElem?_eq_getElem hi
 obtain ⟨q1,q2,q3⟩:=h2 _ (List.getElem_mem hi)
 generalize ts[i]=t at*
 obtain ⟨a,ha,-,hc,hc0⟩:=Recs.atE h3 hat
 exact ⟨a,t.1,t.2.1,t.2.2,ha,q1,q2,q3,hc0 _ rfl,hc 1 _ rfl,hc 2 _ rfl⟩
theorem tmodN (a c:Nat):Int.tmod (a:Int) (c:Int)=((a % c:Nat):Int):=rfl
end Go.Proofs.YtcaokpglbolkcaaGreat
namespace Go.Proofs.YtcaokpglbolkcaaGreat
open Go Go.Nf Go.RowKit Go.MapKept
structure LT (w0 w:World) (c0 fb now b:Nat) (PB:Nat->Nat) (W E:Nat->Prop) (nd:Nat->Nd) (al ms:List Msg) (fo:Option Addr) (fn fc:Nat):Prop where
 net:Net w (hs w0) 3 W E nd
 gw:Grow w0 w
 conf:Row w (c0+1) 26 [.slice (some ⟨c0,0,none⟩) 3 3,.slice none 0 0]/\E (c0+1)
 old:Row w c0 3 [.int .i64 0,.int .i64 1,.int .i64 2]/\E c0
 pr:Row w (c0+2) 28 (prow 3 fun j=>(nd j).p)/\W (c0+2)
 tr:Row w (c0+3) 30 (prow 3 fun j=>(nd j).t)/\E (c0+3)
 nw:Row w (c0+4) 2 [.int .i64 (now:Int)]/\W (c0+4)
 fv:Row w fb 35 [.slice fo fn fc]/\W fb
 fly:FlyAt w W E fo fn fc ms
 j:J now (fun i=>(nd i).s) al
 good:∀ i,i<3->Good (nd i).s 400 (PB i)/\400<=(nd i).k
 lg:∀ i,i<3->(nd i).s.log.length<=320
 msg:∀ m∈al,WfMsg m/\m.term<=b
 kb:∃ g,Sys init3 g (fun i=>(nd i).s) 3 al/\∀ i,i<3->(nd i).k+kw (nd i).s<=900+kr g (nd i).s+50*PB i
theorem Good.cap {s:PN} {k b:Nat} (h:Good s k b) (h1:s.log.length<=320) (h2:∀ u,s.next.getD u 0<=401) (h3:∀ u,s.mtch.getD u 0<=400):Good s 400 b:=⟨{ h.w with ll:=by omega,nx:=h2,mt:=h3 },h.t,h.r⟩
section
variable {w0 w w':World} {c0 fb now b:Nat} {PB:Nat->Nat} {W E:Nat->Prop} {nd:Nat->Nd} {al ms:List Msg} {fo:Option Addr} {fn fc:Nat}
theorem LT.grow (h:LT w0 w c0 fb now b PB W E nd al ms fo fn fc) (k:Grow w w'):LT w0 w' c0 fb now b PB W E nd al ms fo fn fc:=
 {h with net:=h.net.grow k,gw:=h.gw.trans' k,conf:=⟨h.conf.1.grow k,h.conf.2⟩,old:=⟨h.old.1.grow k,h.old.2⟩,pr:=⟨h.pr.1.grow k,h.pr.2⟩,tr:=⟨h.tr.1.grow k,h.tr.2⟩,nw:=⟨h.nw.1.grow k,h.nw.2⟩,fv:=⟨h.fv.1.grow k,h.fv.2⟩,fly:=h.fly.grow k }
theorem LT.base (h:LT w0 w c0 fb now b PB W E nd al ms fo fn fc):hs w0<=hs w:=h.gw.size
theorem LT.up {b':Nat} {PB':Nat->Nat} (h:LT w0 w c0 fb now b PB W E nd al ms fo fn fc) (hb:b<=b') (hc:∀ i,i<3->PB i<=PB' i):LT w0 w c0 fb now b' PB' W E nd al ms fo fn fc:=
 {h with good:=fun i hi=>⟨(h.good i hi).1.up (Nat.le_refl _) (hc i hi),(h.good i hi).2⟩,msg:=fun m hm=>⟨(h.msg m hm).1,Nat.le_trans (h.msg m hm).2 hb⟩,kb:=(by
  obtain ⟨g,s,k⟩:=h.kb
  exact ⟨g,s,fun i hi=>(by have:=k i hi;have:=hc i hi;omega)⟩) }
theorem LT.mark {bb:Nat} (h:LT w0 w c0 fb now b PB W E nd al ms fo fn fc) {w1:World} (g1:Grow w w1) (h1:hs w<=bb) (h2:bb<hs w1):LT w0 w1 c0 fb now b PB W (fun x=>E x\/x=bb) nd al ms fo fn fc:=by
 have h':=h.grow g1
 have hE:∀ x,(E x\/x=bb)->E x\/(x<hs w1/\¬W x/\∀ i,i<3->¬(nd i).N x):=fun x hx=>hx.imp id fun e=>by subst e;exact ⟨h2,fun k=>by have:=(h.net.wz x k).2.1;omega,fun j hj k=>by have:=h.net.lt hj x (.inl k);omega⟩
 exact { h' with net:=h'.net.read hE,conf:=⟨h'.conf.1,.inl h'.conf.2⟩,old:=⟨h'.old.1,.inl h'.old.2⟩,tr:=⟨h'.tr.1,.inl h'.tr.2⟩,fly:=h'.fly.mono (fun _ h=>h) fun _ h=>.inl h }
theorem LT.pcell (h:LT w0 w c0 fb now b PB W E nd al ms fo fn fc) {i:Nat} (hi:i<3):w.cell? (Addr.add (⟨c0+2,0,none⟩:Addr) ((i:Int).toNat*1))=some (.pointer (some ⟨(nd i).p,0,none⟩)):=cell_arr h.pr.1 (prow_at hi)
theorem LT.tcell (h:LT w0 w c0 fb now b PB W E nd al ms fo fn fc) {i:Nat} (hi:i<3):w.cell? (Addr.add (⟨c0+3,0,none⟩:Addr) ((i:Int).toNat*1))=some (.pointer (some ⟨(nd i).t,0,none⟩)):=cell_arr h.tr.1 (prow_at hi)
theorem LT.apN (h:LT w0 w c0 fb now b PB W E nd al ms fo fn fc) {i:Nat} (hi:i<3):∀ b,E b->¬(nd i).N b/\b<hs w:=fun b hb=>⟨fun k=>(h.net.nz i hi b k).2.2 hb,h.net.ez b hb⟩
theorem LT.kle (h:LT w0 w c0 fb now b PB W E nd al ms fo fn fc) {i:Nat} (hi:i<3) (hb:PB i<=180):(nd i).k<=89900:=by
 obtain ⟨g,s,k⟩:=h.kb
 have k:=k i hi
 have t:=(h.good i hi).1.t
 have hk:kr g (nd i).s<=400*(nd i).s.term+320:=by
  have:=ack_log (s.live i hi).1
  have hl:=h.lg i hi
  unfold kr
  omega
 omega
theorem LT.fnl (h:LT w0 w c0 fb now b PB W E nd al ms fo fn fc):fn=ms.length:=by
 obtain ⟨ps,q1,q2,-⟩:=h.fly
 exact q2
theorem cell0 {w w1:World} {b T:Nat} {v v':Value} (r:Row w b T [v]) (e:w1=setCells w ⟨b,0,none⟩ [v'] 0):Row w1 b T [v']/\Only (fun k=>k=b) w w1:=by
 have e1:(⟨b,0,none⟩:Addr)=Addr.add (⟨b,0,none⟩:Addr) ((0:Nat):Int).toNat:=rfl
 refine ⟨?_,only_set e⟩
 have:=r.set (o:=0) (vs:=[v']) e
 rw [setFrom_one] at this
 exact this
theorem LT.setFly {w1:World} {o':Option Addr} {n' c':Nat} {ms':List Msg} (h:LT w0 w c0 fb now b PB W E nd al ms fo fn fc) (hf:FlyAt w W E o' n' c' ms') (e:w1=setCells w ⟨fb,0,none⟩ [.slice o' n' c'] 0):LT w0 w1 c0 fb now b PB W E nd al ms' o' n' c':=by
 obtain ⟨r,o⟩:=cell0 h.fv.1 e
 have oW:Only W w w1:=o.mono fun k _ hk=>hk ▸ h.fv.2
 have nE:∀ k,E k->¬k=fb:=fun k hk e=>(h.net.wz _ h.fv.2).2.2 (e ▸ hk)
 have dif:∀ {c T:Nat} {l:List Value},Row w c T l->T≠35->¬c=fb:=fun {c T l} hr hT e=>hT ((e ▸ hr:Row w fb T l).inj h.fv.1).2
 refine ⟨h.net.own oW fun k hk=>.inl hk,h.gw.trans o fun k hk e=>by have:=(h.net.wz _ h.fv.2).1;omega,⟨h.conf.1.keep o (nE _ h.conf.2),h.conf.2⟩,⟨h.old.1.keep o (nE _ h.old.2),h.old.2⟩,⟨h.pr.1.keep o (dif h.pr.1 (by decide)),h.pr.2⟩,⟨h.tr.1.keep o (nE _ h.tr.2),h.tr.2⟩,⟨h.nw.1.keep o (dif h.nw.1 (by decide)),h.nw.2⟩,⟨r,h.fv.2⟩,hf.keepB o fun k hk=>hk.elim (fun hk e=>hf.apart h.fv.1 (by decide) (e ▸ hk)) (nE k),h.j,h.good,h.lg,h.msg,h.kb⟩
theorem LT.less {al':List Msg} (h:LT w0 w c0 fb now b PB W E nd al ms fo fn fc) (hsub:∀ m∈al',m∈al):LT w0 w c0 fb now b PB W E nd al' ms fo fn fc:=
 {h with j:=h.j.mono hsub,msg:=fun m hm=>h.msg m (hsub m hm),kb:=(by
  obtain ⟨g,s,k⟩:=h.kb
  exact ⟨g,⟨s.live,fun m hm=>s.msg m (hsub m hm)⟩,k⟩) }
theorem LT.setNow {w1:World} {now':Nat} (h:LT w0 w c0 fb now b PB W E nd al ms fo fn fc) (hn:now<=now') (e:w1=setCells w ⟨c0+4,0,none⟩ [.int .i64 (now':Int)] 0):LT w0 w1 c0 fb now' b PB W E nd al ms fo fn fc:=by
 obtain ⟨r,o⟩:=cell0 h.nw.1 e
 have oW:Only W w w1:=o.mono fun k _ hk=>hk ▸ h.nw.2
 have nE:∀ k,E k->¬k=c0+4:=fun k hk e=>(h.net.wz _ h.nw.2).2.2 (e ▸ hk)
 have dif:∀ {c T:Nat} {l:List Value},Row w c T l->T≠2->¬c=c0+4:=fun {c T l} hr hT e=>hT ((e ▸ hr:Row w (c0+4) T l).inj h.nw.1).2
 exact ⟨h.net.own oW fun k hk=>.inl hk,h.gw.trans o fun k hk e=>by have:=(h.net.wz _ h.nw.2).1;omega,⟨h.conf.1.keep o (nE _ h.conf.2),h.conf.2⟩,⟨h.old.1.keep o (nE _ h.old.2),h.old.2⟩,⟨h.pr.1.keep o (dif h.pr.1 (by decide)),h.pr.2⟩,⟨h.tr.1.keep o (nE _ h.tr.2),h.tr.2⟩,⟨r,h.nw.2⟩,⟨h.fv.1.keep o (dif h.fv.1 (by decide)),h.fv.2⟩,h.fly.keepB o fun k hk=>hk.elim (fun hk e=>h.fly.apart h.nw.1 (by decide) (e ▸ hk)) (nE k),h.j.later hn,h.good,h.lg,h.msg,h.kb⟩
theorem LT.act {i:Nat} {s':PN} {out:List Msg} {o:Option Addr} {c k' b':Nat} {al':List Msg} {PB':Nat->Nat} {K:Value->World->Prop} (h:LT w0 w c0 fb now b PB W E nd al ms fo fn fc) (hi:i<3) (hd:Did w (nd i).N (nd i).D (nd i).p (nd i).t s' out k' o c w')
  (hj:J now (upd (fun i=>(nd i).s) i s') al') (hal:∀ m∈al',m∈al\/m∈out) (hg:Good s' 400 (PB' i)) (ho:Outs s' out) (hb:b<=b') (hb2:s'.term<=b') (hP:∀ a,a<3->PB a<=PB' a) (hll:s'.log.length<=320) (hk:400<=k') (hkb:∃ g,Sys init3 g (upd (fun i=>(nd i).s) i s') 3 al'/\k'+kw s'<=900+kr g s'+50*PB' i/\∀ a,a<3->a≠i->(nd a).k+kw (nd a).s<=900+kr g (nd a).s+50*PB a)
  (hf:fn+out.length<=100000)
  (hK:∀ o' c' w2,There w2 ⟨fb,0,none⟩ 1->(∀ w3,w3=setCells w2 ⟨fb,0,none⟩ [.slice o' (fn+out.length) c'] 0->∃ W' E' nd',(∀ a,a<3->(nd' a).s=upd (fun i=>(nd i).s) i s' a)/\LT w0 w3 c0 fb now b' PB' W' E' nd' al' (ms++out) o' (fn+out.length) c')->K (.slice o' (fn+out.length) c') w2):
  w'.cell? ⟨fb,0,none⟩=some (.slice fo fn fc)/\Kept w w' ⟨fb,0,none⟩ 1/\RunOk Tryz.prog (Hold (Builtin.append_ #[35,35] 35 #[.slice fo fn fc,.slice o out.length c])) w' K:=by
 obtain ⟨x,E',hn,ep,et,es',ek,hE,hm,hc,hO⟩:=h.net.did hi h.base hd
 have nW:∀ b,W b\/E b->¬(hs w0<=b/\¬W b/\¬E b):=fun b hb k=>hb.elim k.2.1 k.2.2
 have fv':=h.fv.1.keep hO (nW _ (.inl h.fv.2))
 have fly':=(h.fly.keep hO nW).mono (fun _ h=>h) hE
 have eN:∀ a,a<3->(updN nd i x a).s=upd (fun i=>(nd i).s) i s' a:=fun a ha=>by
  by_cases e:a=i
  ·subst e;rw [updN_self,upd_self,es']
  ·rw [updN_ne nd x e,upd_ne (fun i=>(nd i).s) s' e]
 have epr:(prow 3 fun j=>(updN nd i x j).p)=prow 3 fun j=>(nd j).p:=by
  unfold prow
  refine List.map_congr_left fun j hj=>?_
  show Value.pointer (some ⟨(updN nd i x j).p,0,none⟩)=.pointer (some ⟨(nd j).p,0,none⟩)
  by_cases e:j=i
  ·subst e;rw [updN_self,ep]
  ·rw [updN_ne nd x e]
 have etr:(prow 3 fun j=>(updN nd i x j).t)=prow 3 fun j=>(nd j).t:=by
  unfold prow
  refine List.map_congr_left fun j hj=>?_
  show Value.pointer (some ⟨(updN nd i x j).t,0,none⟩)=.pointer (some ⟨(nd j).t,0,none⟩)
  by_cases e:j=i
  ·subst e;rw [updN_self,et]
  ·rw [updN_ne nd x e]
 refine ⟨fv'.cell rfl,kept_only hO h.fv.1.lt (nW _ (.inl h.fv.2)),hn.more (Nat.le_trans h.base hO.size) fly' hm hf fun o' c' w2 W' p1 p2 p3 p4=>?_⟩
 have dif:∀ {d T:Nat} {l:List Value},Row w' d T l->T≠45->¬inBlock fo d:=fun {d T l} hr hT=>fly'.apart hr hT
 have fv2:=fv'.keep p3 (dif fv' (by decide))
 have pr':=h.pr.1.keep hO (nW _ (.inl h.pr.2))
 have nw':=h.nw.1.keep hO (nW _ (.inl h.nw.2))
 have pr2:=pr'.keep p3 (dif pr' (by decide))
 have nw2:=nw'.keep p3 (dif nw' (by decide))
 have cf':=h.conf.1.keep hO (nW _ (.inr h.conf.2))
 have od':=h.old.1.keep hO (nW _ (.inr h.old.2))
 have tr':=h.tr.1.keep hO (nW _ (.inr h.tr.2))
 have cf2:=cf'.keep p3 (dif cf' (by decide))
 have od2:=od'.keep p3 (dif od' (by decide))
 have tr2:=tr'.keep p3 (dif tr' (by decide))
 have hbw:∀ k,inBlock fo k->hs w0<=k:=fun k hk=>(h.net.wz k (h.fly.inW k hk)).1
 refine hK o' c' w2 (fv2.there (by simp)) fun w3 e3=>⟨W',E',updN nd i x,eN,?_⟩
 obtain ⟨r3,o3⟩:=cell0 fv2 e3
 have oW:Only W' w2 w3:=o3.mono fun k _ hk=>hk ▸ p4 _ h.fv.2
 have nE:∀ k,E' k->¬k=fb:=fun k hk e=>(p1.wz _ (p4 _ h.fv.2)).2.2 (e ▸ hk)
 have dif2:∀ {c T:Nat} {l:List Value},Row w2 c T l->T≠35->¬c=fb:=fun {c T l} hr hT e=>hT ((e ▸ hr:Row w2 fb T l).inj fv2).2
 refine ⟨p1.own oW fun k hk=>.inl hk,((h.gw.trans hO fun k hk q=>by omega).trans p3 fun k hk q=>by have:=hbw k q;omega).trans o3 fun k hk e=>by have:=(h.net.wz _ h.fv.2).1;omega,⟨cf2.keep o3 (nE _ (hE _ h.conf.2)),hE _ h.conf.2⟩,⟨od2.keep o3 (nE _ (hE _ h.old.2)),hE _ h.old.2⟩,⟨?_,p4 _ h.pr.2⟩,⟨?_,hE _ h.tr.2⟩,⟨nw2.keep o3 (dif2 nw2 (by decide)),p4 _ h.nw.2⟩,⟨r3,p4 _ h.fv.2⟩,p2.keepB o3 fun k hk=>hk.elim (fun hk e=>p2.apart fv2 (by decide) (e ▸ hk)) (nE k),hj.ext fun a ha=>(eN a ha).symm,fun a ha=>?_,fun a ha=>?_,fun m hm'=>?_,?_⟩
 ·rw [epr];exact pr2.keep o3 (dif2 pr2 (by decide))
 ·rw [etr];exact tr2.keep o3 (nE _ (hE _ h.tr.2))
 ·by_cases e:a=i
  ·subst e
   rw [updN_self,es',ek]
   exact ⟨hg,hk⟩
  ·rw [updN_ne nd x e]
   exact ⟨(h.good a ha).1.up (Nat.le_refl _) (hP a ha),(h.good a ha).2⟩
 ·rw [eN a ha]
  by_cases e:a=i
  ·subst e;rw [upd_self];exact hll
  ·rw [upd_ne (fun i=>(nd i).s) s' e];exact h.lg a ha
 ·rcases hal m hm' with hm' | hm'
  ·exact ⟨(h.msg m hm').1,Nat.le_trans (h.msg m hm').2 hb⟩
  ·have hn1:=hn.node i hi
   rw [updN_self,es',ek] at hn1
   obtain ⟨q1,q2,-⟩:=ho 400 (by omega) (hg.w.up hn1) m hm'
   exact ⟨q1,by rw [q2];exact hb2⟩
 ·obtain ⟨g,s,k1,k2⟩:=hkb
  refine ⟨g,sys_ext (fun a ha=>(eN a ha).symm) s,fun a ha=>?_⟩
  by_cases e:a=i
  ·subst e
   rw [updN_self,es',ek]
   exact k1
  ·rw [updN_ne nd x e]
   have:=k2 a ha e
   have:=hP a ha
   omega
end
end Go.Proofs.YtcaokpglbolkcaaGreat
namespace Go.Proofs.YtcaokpglbolkcaaGreat
open Go Go.Nf Go.RowKit Go.MapKept
section
variable {g g':G} {now i:Nat} {s s':PN} {m:Msg} {out:List Msg}
theorem kb_tick (h:Sh now i s) (k:Tk now i s s' out) (l:Live init3 g s) (hL:s.log.length<=320) (hle:Le g g'):kw s'+kr g s<=kw s+kr g' s':=by
 have ha:=ack_log l
 have hk0:kr g s<=400*s.term+320:=by unfold kr;omega
 have hmono:kr g s<=kr g' s:=by have:=hle.ack s.id s.term;unfold kr;omega
 cases k with
 | beat=>
  have a:kw ({ s with hb:=now }:PN)=kw s:=rfl
  have b:kr g' ({ s with hb:=now }:PN)=kr g' s:=rfl
  omega
 | rest=>omega
 | start=>
  have a:kw (startB s now)=45:=rfl
  have b:kr g' (startB s now)=400*(s.term+1)+g'.ack s.id (s.term+1):=rfl
  omega
 | wait=>omega
theorem tick_nm (k:Tk now i s s' out):s'.next=s.next/\s'.mtch=s.mtch/\s'.log=s.log/\s'.term<=s.term+1:=by
 cases k with
 | beat=>exact ⟨rfl,rfl,rfl,Nat.le_succ _⟩
 | rest=>exact ⟨rfl,rfl,rfl,Nat.le_succ _⟩
 | start=>exact ⟨rfl,rfl,rfl,Nat.le_refl _⟩
 | wait=>exact ⟨rfl,rfl,rfl,Nat.le_succ _⟩
end
def After (w0 w w1:World) (c0 fb now b:Nat) (PB:Nat->Nat) (N':Nat->PN) (al' ms':List Msg) (fo:Option Addr) (fn fc:Nat) (o:Option Addr) (m c:Nat):Prop:=
 w1.cell? ⟨fb,0,none⟩=some (.slice fo fn fc)/\Kept w w1 ⟨fb,0,none⟩ 1/\∀ K:Value->World->Prop,
  (∀ o' c' w2,There w2 ⟨fb,0,none⟩ 1->(∀ w3,w3=setCells w2 ⟨fb,0,none⟩ [.slice o' (fn+m) c'] 0->∃ W' E' nd',(∀ a,a<3->(nd' a).s=N' a)/\LT w0 w3 c0 fb now b PB W' E' nd' al' ms' o' (fn+m) c')->K (.slice o' (fn+m) c') w2)->
  RunOk Tryz.prog (Hold (Builtin.append_ #[35,35] 35 #[.slice fo fn fc,.slice o m c])) w1 K
section
variable {w0 w w':World} {c0 fb now b:Nat} {PB:Nat->Nat} {W E:Nat->Prop} {nd:Nat->Nd} {al ms:List Msg} {fo:Option Addr} {fn fc:Nat}
theorem LT.act2 {i:Nat} {s':PN} {out:List Msg} {o:Option Addr} {c k' b':Nat} {al':List Msg} {PB':Nat->Nat} (h:LT w0 w c0 fb now b PB W E nd al ms fo fn fc) (hi:i<3) (hd:Did w (nd i).N (nd i).D (nd i).p (nd i).t s' out k' o c w')
  (hj:J now (upd (fun i=>(nd i).s) i s') al') (hal:∀ m∈al',m∈al\/m∈out) (hg:Good s' 400 (PB' i)) (ho:Outs s' out) (hb:b<=b') (hb2:s'.term<=b') (hP:∀ a,a<3->PB a<=PB' a) (hll:s'.log.length<=320) (hk:400<=k') (hkb:∃ g,Sys init3 g (upd (fun i=>(nd i).s) i s') 3 al'/\k'+kw s'<=900+kr g s'+50*PB' i/\∀ a,a<3->a≠i->(nd a).k+kw (nd a).s<=900+kr g (nd a).s+50*PB a)
  (hf:fn+out.length<=100000):After w0 w w' c0 fb now b' PB' (upd (fun i=>(nd i).s) i s') al' (ms++out) fo fn fc o out.length c:=by
 have key:=fun K hK=>h.act (K:=K) hi hd hj hal hg ho hb hb2 hP hll hk hkb hf hK
 refine ⟨(key (fun _ _=>True) fun _ _ _ _ _=>trivial).1,(key (fun _ _=>True) fun _ _ _ _ _=>trivial).2.1,fun K hK=>(key K hK).2.2⟩
theorem LT.ticked {i b':Nat} {PB':Nat->Nat} (h:LT w0 w c0 fb now b PB W E nd al ms fo fn fc) (hi:i<3) (hnow:now<=1000) (hP:PB i<=179) (hP1:PB' i=PB i+1) (hP2:∀ a,a<3->PB a<=PB' a) (hb:b<=b') (hb2:PB' i<=b') (hf:fn<=90000):
  Calls Tryz.prog 8 #[.pointer (some ⟨(nd i).p,0,none⟩),.int .i64 (now:Int)] w fun e w'=>∃ o c,e=.returned (.slice o (tickS (nd i).s now).2.length c)/\After w0 w w' c0 fb now b' PB' (upd (fun i=>(nd i).s) i (tickS (nd i).s now).1) (al++(tickS (nd i).s now).2) (ms++(tickS (nd i).s now).2) fo fn fc o (tickS (nd i).s now).2.length c:=by
 obtain ⟨gj,kj⟩:=h.good i hi
 have hkl:=h.kle hi (by omega)
 have htj:=gj.t
 have sh:=h.j.sh i hi
 have sh:Sh now i (nd i).s:=sh
 have tk:=sh.tick hi
 refine (tick8_c (now:=now) (h.net.node i hi) (gj.w.more (k':=(nd i).k) kj) (by omega) (by unfold MaxT;omega) (by unfold MaxT;omega) (fun e=>gj.r (by omega))).mono ?_
 rintro _ w1 ⟨o,c,rfl,hd⟩
 refine ⟨o,c,rfl,?_⟩
 obtain ⟨q1,q2⟩:=gj.tick (now:=now) (by unfold MaxT;omega) (by omega) (by unfold MaxT;omega)
 obtain ⟨n1,n2,n3,n4⟩:=tick_nm tk
 have n1:(tickS (nd i).s now).1.next=(nd i).s.next:=n1
 have n2:(tickS (nd i).s now).1.mtch=(nd i).s.mtch:=n2
 have n3:(tickS (nd i).s now).1.log=(nd i).s.log:=n3
 have n4:(tickS (nd i).s now).1.term<=(nd i).s.term+1:=n4
 have hl:=h.lg i hi
 have gc:Good (tickS (nd i).s now).1 400 (PB' i):=by
  rw [hP1]
  exact q1.cap (by rw [n3];exact hl) (fun u=>by rw [n1];exact gj.w.nx u) fun u=>by rw [n2];exact gj.w.mt u
 have ol:=tk_olen sh hi
 refine h.act2 hi hd (h.j.tick1 hi) (fun m hm=>List.mem_append.1 hm) gc q2 hb (by omega) hP2 (by rw [n3];exact hl) (by omega) ?_ (by omega)
 obtain ⟨g,sys,kb⟩:=h.kb
 obtain ⟨l,lid⟩:=sys.live i hi
 have l:Live init3 g (nd i).s:=l
 obtain ⟨g',hle,s'⟩:=sys.step hi (l.ticks now) (F':=al++(tickS (nd i).s now).2) fun m hm=>List.mem_append.1 hm
 refine ⟨g',s',?_,fun a ha hn=>?_⟩
 ·have a1:=kb_tick (g':=g') (sh.clock) tk (l.clock now) hl hle
  have a2:kw ((nd i).s.at now)=kw (nd i).s:=rfl
  have a3:kr g ((nd i).s.at now)=kr g (nd i).s:=rfl
  have:=kb i hi
  omega
 ·have:=kb a ha
  have:kr g (nd a).s<=kr g' (nd a).s:=by have:=hle.ack (nd a).s.id (nd a).s.term;unfold kr;omega
  omega
theorem LT.stepped {A:Nat->Prop} {m:Msg} {oe:Option Addr} {ce:Nat} (h:LT w0 w c0 fb now b PB W E nd (m::al) ms fo fn fc) (hnow:now<=1000) (hP:PB m.dst<=180) (hbP:b<=PB m.dst) (hf:fn<=90000) (hlog:(stepS (nd m.dst).s m now).1.log.length<=320)
  (he:Ents w A oe m.ents) (hce:m.ents.length<=ce) (hA:∀ x,A x->¬(nd m.dst).N x/\x<hs w):
  Calls Tryz.prog 12 #[.pointer (some ⟨(nd m.dst).p,0,none⟩),msgA m m.src m.term oe ce,.int .i64 (now:Int)] w fun e w'=>∃ o c,e=.returned (.slice o (stepS (nd m.dst).s m now).2.length c)/\After w0 w w' c0 fb now (max b (PB m.dst)) PB (upd (fun i=>(nd i).s) m.dst (stepS (nd m.dst).s m now).1) (al++(stepS (nd m.dst).s m now).2) (ms++(stepS (nd m.dst).s m now).2) fo fn fc o (stepS (nd m.dst).s m now).2.length c:=by
 have ms':=h.j.ms m (.head _)
 have hi:=ms'.dst
 obtain ⟨gj,kj⟩:=h.good m.dst hi
 have hkl:=h.kle hi (by omega)
 have htj:=gj.t
 have sh:Sh now m.dst (nd m.dst).s:=h.j.sh m.dst hi
 obtain ⟨wm,tm⟩:=h.msg m (.head _)
 have mv:=h.j.mv
 have mv:Mv now ((nd m.dst).s.at now) m (stepS (nd m.dst).s m now).1 (stepS (nd m.dst).s m now).2:=mv
 refine (step_c (m:=m) (now:=now) (o:=oe) (c:=ce) (h.net.node m.dst hi) (gj.w.more (k':=(nd m.dst).k) kj) (by omega) wm sh.id.symm (by unfold MaxT;omega) he hce hA).mono ?_
 rintro _ w1 ⟨o,c,rfl,hd⟩
 refine ⟨o,c,rfl,?_⟩
 obtain ⟨q1,q2⟩:=gj.step (now:=now) (m:=m) (by omega) wm (Nat.le_trans tm hbP) sh.id.symm (by unfold MaxT;omega)
 have hl:=h.lg m.dst hi
 obtain ⟨g,sys,kb⟩:=h.kb
 obtain ⟨l,lid⟩:=sys.live m.dst hi
 have l:Live init3 g (nd m.dst).s:=l
 have gc:Good (stepS (nd m.dst).s m now).1 400 (PB m.dst):=by
  have nm:=fun u=>mv_nm sh.clock hi (l.clock now) ms' rfl mv u
  refine q1.cap hlog (fun u=>?_) fun u=>?_
  ·have a:=(nm u).1
   have b:((nd m.dst).s.at now).next.getD u 0<=401:=gj.w.nx u
   omega
  ·have a:=(nm u).2
   have b:((nd m.dst).s.at now).mtch.getD u 0<=400:=gj.w.mt u
   omega
 have ol:=mv_olen sh.clock hi mv
 refine h.act2 hi hd h.j.step (fun x hx=>(List.mem_append.1 hx).imp (fun h=>.tail _ h) fun h=>h) gc q2 (Nat.le_max_left _ _) (Nat.le_trans gc.t (Nat.le_max_right _ _)) (fun _ _=>Nat.le_refl _) hlog (by omega) ?_ (by omega)
 obtain ⟨g',a,l',i',o'⟩:=l.steps (sys.msg m (.head _)) wm.kind sh.id.symm now
 have hid:(nd m.dst).s.id=m.dst:=sh.id
 have sN:Sys init3 g' (upd (fun i=>(nd i).s) m.dst (stepS (nd m.dst).s m now).1) 3 (al++(stepS (nd m.dst).s m now).2):=by
  refine ⟨fun j hj=>?_,fun x hx=>?_⟩
  ·by_cases e:j=m.dst
   ·subst e
    rw [upd_self]
    exact ⟨l',i'.trans hid⟩
   ·rw [upd_ne (fun i=>(nd i).s) _ e]
    obtain ⟨lj,ij⟩:=sys.live j hj
    have lj:Live init3 g (nd j).s:=lj
    have ij:(nd j).s.id=j:=ij
    exact ⟨⟨l'.ok,l'.z,lj.n.other l.ok l.z a (by rw [ij,hid];exact e),lj.i,lj.p,lj.nx,lj.rl⟩,ij⟩
  ·rcases List.mem_append.1 hx with hx | hx
   ·exact (sys.msg x (.tail _ hx)).le l.ok a.le
   ·exact o' x hx
 refine ⟨g',sN,?_,fun a' ha hn=>?_⟩
 ·have a1:=kb_step (g':=g') sh.clock hi (l.clock now) hl ms' rfl (sys.msg m (.head _)) mv a.le o'
  have a2:kw ((nd m.dst).s.at now)=kw (nd m.dst).s:=rfl
  have a3:kr g ((nd m.dst).s.at now)=kr g (nd m.dst).s:=rfl
  have a4:opS (nd m.dst).s m now+kw (stepS (nd m.dst).s m now).1+kr g ((nd m.dst).s.at now)<=kw ((nd m.dst).s.at now)+kr g' (stepS (nd m.dst).s m now).1:=by
   unfold opS
   rw [at_latest sh]
   exact a1
  have:=kb m.dst hi
  omega
 ·have:=kb a' ha
  have:kr g (nd a').s<=kr g' (nd a').s:=by have:=a.le.ack (nd a').s.id (nd a').s.term;unfold kr;omega
  omega
theorem LT.proposed {A:Nat->Prop} {i:Nat} {body:List UInt8} {ob:Option Addr} {cb:Nat} {PB':Nat->Nat} (h:LT w0 w c0 fb now b PB W E nd al ms fo fn fc) (hi:i<3) (hP:PB i<=179) (hP1:PB' i=PB i+1) (hP2:∀ a,a<3->PB a<=PB' a) (hf:fn<=90000) (hll:(proposeS (nd i).s body).1.log.length<=320)
  (hbo:Byts w A ob body) (hA:∀ x,A x->¬(nd i).N x/\x<hs w) (hb64:body.length<=64):
  Calls Tryz.prog 11 #[.pointer (some ⟨(nd i).p,0,none⟩),.slice ob body.length cb] w fun e w'=>∃ n err o c,e=.returned (.tuple #[.int .i64 n,.slice o (proposeS (nd i).s body).2.length c,.int .i64 err])/\((nd i).s.role=3->n=(((nd i).s.log.length+1:Nat):Int)/\err=0)/\After w0 w w' c0 fb now (max b (PB i)) PB' (upd (fun i=>(nd i).s) i (proposeS (nd i).s body).1) (al++(proposeS (nd i).s body).2) (ms++(proposeS (nd i).s body).2) fo fn fc o (proposeS (nd i).s body).2.length c:=by
 obtain ⟨gj,kj⟩:=h.good i hi
 have hkl:=h.kle hi (by omega)
 have sh:Sh now i (nd i).s:=h.j.sh i hi
 refine (propose_c (body:=body) (A:=A) (h.net.node i hi) (gj.w.more (k':=(nd i).k) kj) (by omega) (fun e=>gj.r (by omega)) hbo hA hb64).mono ?_
 rintro _ w1 ⟨n,err,o,c,rfl,hq,hd⟩
 refine ⟨n,err,o,c,rfl,hq,?_⟩
 obtain ⟨q1,q2⟩:=gj.propose (by omega) body
 have hl:=h.lg i hi
 have same:(proposeS (nd i).s body).1.next=(nd i).s.next/\(proposeS (nd i).s body).1.mtch=(nd i).s.mtch/\(proposeS (nd i).s body).1.term=(nd i).s.term/\(proposeS (nd i).s body).1.id=(nd i).s.id/\kw (proposeS (nd i).s body).1=kw (nd i).s:=by
  by_cases hr:(nd i).s.role=3
  ·obtain ⟨cm,hc,ep⟩:=prop3 sh hr body
   rw [ep]
   exact ⟨rfl,rfl,rfl,rfl,rfl⟩
  ·unfold proposeS
   rw [if_neg hr]
   exact ⟨rfl,rfl,rfl,rfl,rfl⟩
 obtain ⟨e1,e2,e3,e4,e5⟩:=same
 have gc0:Good (proposeS (nd i).s body).1 400 (PB i):=q1.cap hll (fun u=>by rw [e1];exact gj.w.nx u) fun u=>by rw [e2];exact gj.w.mt u
 have ol:=prop_olen sh hi body
 refine h.act2 hi hd (h.j.propose hi body) (fun x hx=>List.mem_append.1 hx) (by rw [hP1];exact gc0.up (Nat.le_refl _) (Nat.le_succ _)) q2 (Nat.le_max_left _ _) (Nat.le_trans gc0.t (Nat.le_max_right _ _)) hP2 hll (by omega) ?_ (by omega)
 obtain ⟨g,sys,kb⟩:=h.kb
 obtain ⟨l,lid⟩:=sys.live i hi
 have l:Live init3 g (nd i).s:=l
 obtain ⟨g',hle,s'⟩:=sys.step hi (l.proposes body) (F':=al++(proposeS (nd i).s body).2) fun m hm=>List.mem_append.1 hm
 refine ⟨g',s',?_,fun a ha hn=>?_⟩
 ·have:=kb i hi
  have b1:kr g (nd i).s<=kr g' (proposeS (nd i).s body).1:=by
   have:=hle.ack (nd i).s.id (nd i).s.term
   unfold kr
   rw [e3,e4]
   omega
  omega
 ·have:=kb a ha
  have:kr g (nd a).s<=kr g' (nd a).s:=by have:=hle.ack (nd a).s.id (nd a).s.term;unfold kr;omega
  omega
end
end Go.Proofs.YtcaokpglbolkcaaGreat
namespace Go.Proofs.YtcaokpglbolkcaaGreat
open Go Go.Nf Go.RowKit Go.MapKept
theorem dls_succ (now:Nat):∀ (k:Nat) (X:(Nat->PN) × List Msg),dls now (k+1) X=dl now (dls now k X)
 | 0,_=>rfl
 | k+1,X=>dls_succ now k (dl now X)
noncomputable def tkJ (now:Nat) (N:Nat->PN) (j:Nat):Nat->PN:=fun a=>if a<j then tk now N a else N a
noncomputable def tkQ (now:Nat) (N:Nat->PN) (j:Nat):List Msg:=(List.range j).flatMap fun i=>(tickS (N i) now).2
theorem tkQ_succ (now:Nat) (N:Nat->PN) (j:Nat):tkQ now N (j+1)=tkQ now N j++(tickS (N j) now).2:=by
 unfold tkQ
 rw [List.range_succ,List.flatMap_append]
 simp
theorem tkQ_three (now:Nat) (N:Nat->PN):tkQ now N 3=tkq now N:=by
 unfold tkQ tkq
 simp [List.range_succ]
section
variable {w0 w:World} {c0 fb t B:Nat} {W E:Nat->Prop} {nd:Nat->Nd} {ms:List Msg} {fo:Option Addr} {fn fc:Nat} {N N':Nat->PN}
set_option maxHeartbeats 2000000 in
theorem round_c (h:LT w0 w c0 fb t B (fun _=>B) W E nd ms ms fo fn fc) (hN:∀ a,a<3->(nd a).s=N a) (hR:Rnd t N ms N') (ht:t<=900) (hB:B<=175) (hf:fn<=1000):
  Calls Tryz.prog 13 #[.pointer (some ⟨c0+4,0,none⟩),.pointer (some ⟨fb,0,none⟩),.pointer (some ⟨c0+2,0,none⟩)] w fun e w'=>e=.returned (.bool true)/\∃ W' E' nd' fo' fc',(∀ a,a<3->(nd' a).s=N' a)/\LT w0 w' c0 fb (t+1) (B+1) (fun _=>B+1) W' E' nd' [] [] fo' 0 fc':=by
 obtain ⟨nn,hn1,hn2,hn3,hgr⟩:=hR
 refine nf13 (c0+4) fb (c0+2) w _ ⟨_,h.nw.1.cell rfl,h.nw.1.there (by simp),fun w2 e2=>?_⟩
 rw [show IntKind.wrap .i64 ((t:Int)+1)=((t+1:Nat):Int) by rw [wr (by omega)];omega] at e2
 have l2:=h.setNow (now':=t+1) (by omega) e2
 have s3:∀ j:Nat,j<3->(0:Int)<=(j:Int)/\(j:Int)<3:=fun j hj=>⟨by omega,by omega⟩
 refine ⟨fun n x w'=>∃ (j:Nat) (W' E':Nat->Prop) (nd':Nat->Nd) (o:Option Addr) (m c:Nat),x=(j:Int)/\j<=3/\n=3 - j/\(∀ a,a<3->(nd' a).s=tkJ (t+1) N j a)/\LT w0 w' c0 fb (t+1) (B+1) (fun a=>if a<j then B+1 else B) W' E' nd' (ms++tkQ (t+1) N j) (ms++tkQ (t+1) N j) o m c/\m<=fn+2*j,⟨_,0,W,E,nd,fo,fn,fc,rfl,by decide,rfl,fun a ha=>by rw [hN a ha];rfl,?_,by omega⟩,?_⟩
 ·have:=l2.up (b':=B+1) (PB':=fun a=>if a<0 then B+1 else B) (by omega) (fun i hi=>by simp)
  simpa [tkQ] using this
 rintro n _ w8 x ⟨j,W',E',nd',o,m,c,rfl,hj,rfl,hst,l8,hm⟩
 refine ⟨fun hlt w12 e12=>?_,fun hge=>?_⟩
 · -- a tick
  have hlt:j<3:=by have:=dT hlt;omega
  have l12:=l8.grow (only_drew e12)
  have ej:(nd' j).s=N j:=by rw [hst j hlt];unfold tkJ;rw [if_neg (by omega)]
  have call:=l12.ticked (i:=j) (b':=B+1) (PB':=fun a=>if a<j+1 then B+1 else B) hlt (by omega) (by show (if j<j then B+1 else B)<=179;rw [if_neg (by omega)];omega) (by show (if j<j+1 then B+1 else B)=(if j<j then B+1 else B)+1;rw [if_pos (by omega),if_neg (by omega)]) (fun a ha=>by show (if a<j then B+1 else B)<=(if a<j+1 then B+1 else B);split <;> split <;> omega) (Nat.le_refl _) (by show (if j<j+1 then B+1 else B)<=B+1;split <;> omega) (by omega)
  refine ⟨_,_,_,l12.fv.1.cell rfl,s3 j hlt,_,l12.pcell hlt,_,l12.nw.1.cell rfl,call.mono ?_⟩
  rintro _ w20 ⟨o2,c2,rfl,-,kp,af⟩
  have ol:(tickS (nd' j).s (t+1)).2.length<=2:=tk_olen (l12.j.sh j hlt) hlt
  refine ⟨_,_,_,rfl,kp,af _ fun o' c' w25 th hw=>⟨_,_,_,rfl,th,fun w29 e29=>?_⟩⟩
  obtain ⟨W2,E2,nd2,hs2,l29⟩:=hw w29 e29
  rw [ej,List.append_assoc,<- tkQ_succ] at l29
  refine ⟨_,?_,j+1,W2,E2,nd2,o',_,c',by rw [wr (by omega)];omega,hlt,rfl,fun a ha=>?_,l29,?_⟩
  ·omega
  ·rw [hs2 a ha]
   unfold tkJ
   by_cases e:a=j
   ·subst e
    rw [upd_self,if_pos (by omega),ej];rfl
   ·rw [upd_ne (fun i=>(nd' i).s) _ e,hst a ha]
    unfold tkJ
    split <;> split <;> first | rfl | omega
  ·rw [ej] at ol
   omega
 ·have:j=3:=by have:=dF hge;omega
  subst this
  rw [tkQ_three] at l8
  have l8:=l8.up (b':=B+1) (PB':=fun _=>B+1) (Nat.le_refl _) fun i hi=>by show (if i<3 then B+1 else B)<=B+1;split <;> omega
  have hs8:∀ a,a<3->(nd' a).s=tk (t+1) N a:=fun a ha=>by rw [hst a ha];unfold tkJ;rw [if_pos ha]
  generalize hX:(tk (t+1) N,ms++tkq (t+1) N)=X0 at*
  have e0:ms++tkq (t+1) N=X0.2:=by rw [<- hX]
  have e1:tk (t+1) N=X0.1:=by rw [<- hX]
  rw [e0] at l8 hgr
  rw [e1] at hgr hs8
  refine ⟨fun n x w'=>∃ (k:Nat) (W' E':Nat->Prop) (nd':Nat->Nd) (o:Option Addr) (m c:Nat),x=(k:Int)/\k<=nn/\n=nn - k/\(∀ a,a<3->(nd' a).s=(dls (t+1) k X0).1 a)/\LT w0 w' c0 fb (t+1) (B+1) (fun _=>B+1) W' E' nd' (dls (t+1) k X0).2 (dls (t+1) k X0).2 o m c/\m<=fn+6+2*k/\Gr 320 (dls (t+1) k X0).1 (dls (t+1) k X0).2,⟨_,0,W',E',nd',o,m,c,rfl,Nat.zero_le _,rfl,hs8,l8,by omega,hgr⟩,?_⟩
  clear l8 hs8 hst hgr hm
  rintro n _ w37 x ⟨k,W',E',nd',o,m,c,rfl,hk,rfl,hst,l37,hm,hgr⟩
  have hlen:=l37.fnl
  refine ⟨_,_,_,l37.fv.1.cell rfl,fun hpos k44 hk44=>?_,fun hzero=>?_⟩
  · -- a delivery
   have hpos:0<m:=by have:(m:Int)>0:=dT hpos;omega
   have hkn:k<nn:=by
    refine Nat.lt_of_le_of_ne hk fun e=>?_
    rw [e,hn2] at hlen
    simp at hlen
    omega
   refine no (by omega) ?_
   have dsucc:=dls_succ (t+1) k X0
   generalize hX2:dls (t+1) k X0=X at*
   obtain ⟨Nc,q⟩:=X
   cases q with
   | nil=>simp at hlen;omega
   | cons msg q=>
    rw [dl_cons] at dsucc
    have jc:J (t+1) Nc (msg::q):=l37.j.ext hst
    have mS:=jc.ms msg (.head _)
    have hd:=mS.dst
    have hlog:(stepS (nd' msg.dst).s msg (t+1)).1.log.length<=320:=by
     have:=(hgr.step jc).n msg.dst hd
     rw [upd_self] at this
     rw [hst msg.dst hd]
     show (stepS (Nc msg.dst) msg (t+1)).1.log.length<=320
     omega
    have hgr2:=hgr.step jc
    have ol:(stepS (Nc msg.dst) msg (t+1)).2.length<=2:=mv_olen ((jc.sh msg.dst hd).clock) hd jc.mv
    obtain ⟨am,oe,ce,ha,c1,cs,he,hce⟩:=l37.fly.at (j:=0) (m:=msg) rfl
    rw [Nat.zero_mul,add_zero] at c1
    have cs:∀ i v,0<i->(msgV (msg,(oe,ce)))[i]?=some v->w37.cell? (am.add i)=some v:=fun i v h1 h2=>by have:=cs i v h1 h2;rwa [Nat.zero_mul,add_zero] at this
    refine ⟨_,_,_,l37.fv.1.cell rfl,am,ha,⟨by omega,by omega⟩,_,c1,_,cs 1 _ (by decide) rfl,_,cs 2 _ (by decide) rfl,_,cs 3 _ (by decide) rfl,_,cs 4 _ (by decide) rfl,_,cs 5 _ (by decide) rfl,_,cs 6 _ (by decide) rfl,_,cs 7 _ (by decide) rfl,_,_,_,cs 8 _ (by decide) rfl,fun w67 e67=>⟨(Row.new (l:=[_,_,_,_,_,_,_,_,_]) e67).there (by simp),fun w69 e69=>?_⟩⟩
    obtain ⟨r69,g69⟩:=loc (l:=[_,_,_,_,_,_,_,_,_]) (vs:=msgV (msg,(oe,ce))) e67 e69 rfl
    have l69:=l37.mark g69 (Nat.le_refl _) r69.lt
    have he69:Ents w69 (fun x=>E' x\/x=hs w37) oe msg.ents:=(he.grow g69).mono fun b hb=>.inl hb
    refine ⟨_,_,_,l69.fv.1.cell rfl,⟨by omega,by omega⟩,l69.fv.1.there (by simp),fun w74 e74=>?_⟩
    have fd:=l69.fly.drop (j:=1) (by omega)
    have l74:=l69.setFly (ms':=q) (o':=if c=1 then o else Option.map (fun x=>Addr.add x (1*9)) o) (n':=m - 1) (c':=c - 1) fd e74
    have r74:Row w74 (hs w37) 45 (msgV (msg,(oe,ce))):=by
     obtain ⟨-,o74⟩:=cell0 l69.fv.1 e74
     exact r69.keep o74 fun e=>(l69.net.wz _ l69.fv.2).2.2 (.inr e.symm)
    have he74:Ents w74 (fun x=>E' x\/x=hs w37) oe msg.ents:=by
     obtain ⟨-,o74⟩:=cell0 l69.fv.1 e74
     exact he69.keep o74 fun b hb e=>(l69.net.wz _ l69.fv.2).2.2 (e ▸ hb)
    generalize hs w37=gm at*
    generalize (if c=1 then o else Option.map (fun x=>Addr.add x (1*9)) o)=o1 at*
    have d0:(msg.dst:Int)>=0:=by omega
    have d3:(msg.dst:Int)<3:=by omega
    refine ⟨_,r74.cell rfl,yes d0 ⟨_,r74.cell rfl,yes d3 fun w80 e80=>?_⟩⟩
    have g80:Grow w74 w80:=only_drew e80
    have l80:=l74.grow g80
    have r80:=r74.grow g80
    have call:=l80.stepped (m:=msg) (oe:=oe) (ce:=ce) (by omega) (by show B+1<=180;omega) (Nat.le_refl _) (by omega) hlog (he74.grow g80) hce (l80.apN hd)
    refine ⟨_,_,_,l80.fv.1.cell rfl,_,r80.cell rfl,s3 _ hd,_,l80.pcell hd,_,r80.cell rfl,_,r80.cell rfl,_,r80.cell rfl,_,r80.cell rfl,_,r80.cell rfl,_,r80.cell rfl,_,r80.cell rfl,_,r80.cell rfl,_,_,_,r80.cell rfl,_,l80.nw.1.cell rfl,call.mono ?_⟩
    rintro _ w100 ⟨o2,c2,rfl,-,kp,af⟩
    refine ⟨_,_,_,rfl,kp,af _ fun o' c' w105 th hw=>⟨_,_,_,rfl,th,fun w109 e109=>?_⟩⟩
    obtain ⟨W2,E2,nd2,hs2,l109⟩:=hw w109 e109
    rw [show max (B+1) (B+1)=B+1 from Nat.max_self _] at l109
    have es:(nd' msg.dst).s=Nc msg.dst:=hst msg.dst hd
    rw [es] at l109 hs2
    refine hk44 w109 fun _=>⟨nn - (k+1),by omega,k+1,W2,E2,nd2,o',m - 1+(stepS (Nc msg.dst) msg (t+1)).2.length,c',by rw [wr (by omega)];omega,hkn,rfl,fun a ha=>?_,?_,?_,?_⟩
    ·rw [hs2 a ha,dsucc]
     show upd (fun i=>(nd' i).s) msg.dst (stepS (Nc msg.dst) msg (t+1)).1 a=upd Nc msg.dst (stepS (Nc msg.dst) msg (t+1)).1 a
     by_cases e:a=msg.dst
     ·subst e;rw [upd_self,upd_self]
     ·rw [upd_ne (fun i=>(nd' i).s) _ e,upd_ne Nc _ e];exact hst a ha
    ·rw [dsucc];exact l109
    ·omega
    ·rw [dsucc];exact hgr2
  ·have hz:m=0:=by have:¬(m:Int)>0:=dF hzero;omega
   have hq:(dls (t+1) k X0).2=[]:=List.eq_nil_of_length_eq_zero (by omega)
   have hkn:k=nn:=by
    rcases Nat.lt_or_ge k nn with h | h
    ·exact absurd hq (hn3 k h)
    ·omega
   subst hkn
   rw [hn2] at l37 hst
   subst hz
   exact ⟨rfl,W',E',nd',o,c,hst,l37⟩
end
end Go.Proofs.YtcaokpglbolkcaaGreat
namespace Go.Proofs.YtcaokpglbolkcaaGreat
open Go Go.Nf Go.RowKit Go.MapKept
theorem Tn.ext {k now e:Nat} {N N':Nat->PN} {q:List Msg} (h:Tn k now e N q) (hN:∀ i,i<3->N i=N' i):Tn k now e N' q:=
 ⟨h.j.ext hN,fun i hi=>by rw [<- hN i hi];exact h.hl i hi,h.hm,by rw [<- hN 0 (by omega),<- hN 1 (by omega),<- hN 2 (by omega)];exact h.ho,h.hk,fun h8=>by
  obtain ⟨a,b,c⟩:=h.h8 h8
  exact ⟨a,b,fun i hi=>by rw [<- hN i hi];exact c i hi⟩⟩
def Todo:Nat->Nat->(Nat->PN)->List Msg->(Nat->PN)->Prop
 | 0,_,N,q,N'=>N'=N/\q=[]
 | r+1,t,N,q,N'=>∃ N1,Rnd t N q N1/\Todo r (t+1) N1 [] N'
theorem todo_of:∀ {r t:Nat} {N N':Nat->PN},Rnds r t N N'->Todo r t N [] N'
 | 0,_,_,_,h=>⟨h,rfl⟩
 | r+1,t,N,N',⟨N1,h1,h2⟩=>⟨N1,h1,todo_of h2⟩
section
variable {w0 w w':World} {c0 fb now b:Nat} {PB:Nat->Nat} {W E:Nat->Prop} {nd:Nat->Nd} {al ms:List Msg} {fo:Option Addr} {fn fc:Nat}
theorem LT.reopen {F N D:Nat->Prop} {i p:Nat} (h:LT w0 w c0 fb now b PB W E nd al ms fo fn fc) (hi:i<3) (hF:∀ b,F b->(nd i).N b) (o:Only F w w') (hn:now<=1000)
  (n:NodeAt w' N D p (nd i).t (openS i (8+2*i) 2 init3 (nd i).s.term (nd i).s.voted (nd i).s.log now) false [] (nd i).k) (hN:∀ b,N b->F b\/hs w<=b) (hD:∀ b,D b->hs w<=b) (hj:J now (upd (fun a=>(nd a).s) i (openS i (8+2*i) 2 init3 (nd i).s.term (nd i).s.voted (nd i).s.log now)) al):
  There w' (Addr.add (⟨c0+2,0,none⟩:Addr) ((i:Int).toNat*1)) 1/\∀ w2,w2=setCells w' (Addr.add (⟨c0+2,0,none⟩:Addr) ((i:Int).toNat*1)) [.pointer (some ⟨p,0,none⟩)] 0->
   ∃ x,x.p=p/\x.s=openS i (8+2*i) 2 init3 (nd i).s.term (nd i).s.voted (nd i).s.log now/\LT w0 w2 c0 fb now b PB W E (updN nd i x) al ms fo fn fc:=by
 have hO:Only (fun b=>hs w0<=b/\¬W b/\¬E b) w w':=h.net.calm hi (o.mono fun b _ hb=>hF b hb)
 have nW:∀ b,W b\/E b->¬(hs w0<=b/\¬W b/\¬E b):=fun b hb k=>hb.elim k.2.1 k.2.2
 have hpr:=h.pr.1.keep hO (nW _ (.inl h.pr.2))
 have hnet:=h.net.replace hi h.base (x:=⟨p,(nd i).t,N,D,openS i (8+2*i) 2 init3 (nd i).s.term (nd i).s.voted (nd i).s.log now,(nd i).k⟩) (A:=fun _=>False) (o.mono fun b _ hb=>hF b hb) n (fun b hb=>(hN b hb).imp (hF b) id) (fun b hb=>.inr (hD b hb)) fun b hb=>hb.elim
 have hnet:=hnet.re (W':=W) (E':=E) (fun b hb=>hb) (fun b hb=>.inl (.inl hb)) fun b hb=>(h.net.wz b hb).2.2
 refine ⟨?_,fun w2 e2=>?_⟩
 ·rw [Addr.add_lit,toNat_cast,Nat.mul_one,Nat.zero_add];exact hpr.there (by rw [prow_len];omega)
 rw [Addr.add_lit,toNat_cast,Nat.mul_one,Nat.zero_add] at e2
 have o2:Only (fun b=>b=c0+2) w' w2:=only_set e2
 have r2:=hpr.set e2
 rw [prow_set hi] at r2
 have sh:Sh now i (nd i).s:=h.j.sh i hi
 have hgo:=(h.good i hi).1.open (wait:=8+2*i) (beat:=2) (now:=now) (by unfold MaxT;omega) (by unfold MaxT;omega) (by unfold MaxT;omega)
 rw [sh.id,sh.ini] at hgo
 have nc:∀ b,E b->¬b=c0+2:=fun b hb e=>(h.net.wz _ h.pr.2).2.2 (e ▸ hb)
 have dif:∀ {c T:Nat} {l:List Value},Row w' c T l->T≠28->¬c=c0+2:=fun {c T l} hr hT e=>hT ((e ▸ hr:Row w' (c0+2) T l).inj hpr).2
 have nw':=h.nw.1.keep hO (nW _ (.inl h.nw.2))
 have fv':=h.fv.1.keep hO (nW _ (.inl h.fv.2))
 have eN:∀ a,a<3->(updN nd i ⟨p,(nd i).t,N,D,openS i (8+2*i) 2 init3 (nd i).s.term (nd i).s.voted (nd i).s.log now,(nd i).k⟩ a).s=upd (fun a=>(nd a).s) i (openS i (8+2*i) 2 init3 (nd i).s.term (nd i).s.voted (nd i).s.log now) a:=fun a ha=>by
  by_cases e:a=i
  ·subst e;rw [updN_self,upd_self]
  ·rw [updN_ne nd _ e,upd_ne (fun a=>(nd a).s) _ e]
 refine ⟨⟨p,(nd i).t,N,D,openS i (8+2*i) 2 init3 (nd i).s.term (nd i).s.voted (nd i).s.log now,(nd i).k⟩,rfl,rfl,⟨hnet.own (o2.mono fun b _ hb=>hb ▸ h.pr.2) fun b hb=>.inl hb,(h.gw.trans hO fun b hb k=>by omega).trans o2 fun b hb k=>by have:=(h.net.wz _ h.pr.2).1;omega,⟨(h.conf.1.keep hO (nW _ (.inr h.conf.2))).keep o2 (nc _ h.conf.2),h.conf.2⟩,⟨(h.old.1.keep hO (nW _ (.inr h.old.2))).keep o2 (nc _ h.old.2),h.old.2⟩,⟨?_,h.pr.2⟩,⟨?_,h.tr.2⟩,⟨nw'.keep o2 (dif nw' (by decide)),h.nw.2⟩,⟨fv'.keep o2 (dif fv' (by decide)),h.fv.2⟩,(h.fly.keep hO nW).keepB o2 fun b hb=>hb.elim (fun hb e=>(h.fly.keep hO nW).apart hpr (by decide) (e ▸ hb)) (nc b),hj.ext fun a ha=>(eN a ha).symm,fun a ha=>?_,fun a ha=>?_,h.msg,?_⟩⟩
 ·have e:(prow 3 fun j=>(updN nd i ⟨p,(nd i).t,N,D,openS i (8+2*i) 2 init3 (nd i).s.term (nd i).s.voted (nd i).s.log now,(nd i).k⟩ j).p)=prow 3 fun j=>if j=i then p else (nd j).p:=by
   unfold prow
   refine List.map_congr_left fun j hj=>?_
   show Value.pointer (some ⟨(updN nd i _ j).p,0,none⟩)=.pointer (some ⟨(if j=i then p else (nd j).p),0,none⟩)
   by_cases e:j=i
   ·subst e;rw [updN_self,if_pos rfl]
   ·rw [updN_ne nd _ e,if_neg e]
  rw [e];exact r2
 ·have:=(h.tr.1.keep hO (nW _ (.inr h.tr.2))).keep o2 (nc _ h.tr.2)
  have e:(prow 3 fun j=>(updN nd i ⟨p,(nd i).t,N,D,openS i (8+2*i) 2 init3 (nd i).s.term (nd i).s.voted (nd i).s.log now,(nd i).k⟩ j).t)=prow 3 fun j=>(nd j).t:=by
   unfold prow
   refine List.map_congr_left fun j hj=>?_
   show Value.pointer (some ⟨(updN nd i _ j).t,0,none⟩)=.pointer (some ⟨(nd j).t,0,none⟩)
   by_cases e:j=i
   ·subst e;rw [updN_self]
   ·rw [updN_ne nd _ e]
  rw [e];exact this
 ·by_cases e:a=i
  ·subst e
   rw [updN_self]
   exact ⟨hgo,(h.good a ha).2⟩
  ·rw [updN_ne nd _ e];exact h.good a ha
 ·by_cases e:a=i
  ·subst e
   rw [updN_self]
   exact h.lg a ha
  ·rw [updN_ne nd _ e];exact h.lg a ha
 ·obtain ⟨g,s,k⟩:=h.kb
  refine ⟨g,⟨fun a ha=>?_,s.msg⟩,fun a ha=>?_⟩
  ·rw [eN a ha]
   by_cases e:a=i
   ·subst e
    rw [upd_self]
    obtain ⟨l1,l2⟩:=s.live a ha
    have l1:Live init3 g (nd a).s:=l1
    have:=l1.open (8+2*a) 2 now
    rw [sh.id,sh.ini] at this
    exact ⟨this,rfl⟩
   ·rw [upd_ne (fun a=>(nd a).s) _ e];exact s.live a ha
  ·by_cases e:a=i
   ·subst e
    rw [updN_self]
    have k0:=k a ha
    have e1:kr g (openS a (8+2*a) 2 init3 (nd a).s.term (nd a).s.voted (nd a).s.log now)=kr g (nd a).s:=by
     unfold kr
     rw [show (nd a).s.id=a from sh.id];rfl
    have e2:kw (openS a (8+2*a) 2 init3 (nd a).s.term (nd a).s.voted (nd a).s.log now)<=kw (nd a).s:=by
     unfold kw
     rw [if_neg (by show ¬((1:Nat)=2);decide)]
     show 0+(if (nd a).s.voted=none then 1 else 0)<=_
     omega
    show (nd a).k+kw (openS a (8+2*a) 2 init3 (nd a).s.term (nd a).s.voted (nd a).s.log now)<=900+kr g (openS a (8+2*a) 2 init3 (nd a).s.term (nd a).s.voted (nd a).s.log now)+50*PB a
    omega
   ·rw [updN_ne nd _ e];exact k a ha
end
structure Opening (w0 w:World) (j:Nat) (nd:Nat->Nd):Prop where
 net:Net w (hs w0) j (fun b=>b=hs w0+2\/b=hs w0+3\/b=hs w0+4) (fun b=>b=hs w0\/b=hs w0+1) nd
 gw:Grow w0 w
 old:Row w (hs w0) 3 [.int .i64 0,.int .i64 1,.int .i64 2]
 conf:Row w (hs w0+1) 26 [.slice (some ⟨hs w0,0,none⟩) 3 3,.slice none 0 0]
 pr:Row w (hs w0+2) 28 (prowP 3 j fun i=>(nd i).p)
 tr:Row w (hs w0+3) 30 (prowP 3 j fun i=>(nd i).t)
 nw:Row w (hs w0+4) 2 [.int .i64 0]
 st:∀ i,i<j->(nd i).s=openS i (8+2*i) 2 init3 0 none [] 0/\(nd i).k=400
theorem good00 {i:Nat} (hi:i<3):Good (openS i (8+2*i) 2 init3 0 none [] 0) 400 0:=(good0 (init:=init3) permit3 (id:=i) (wait:=8+2*i) (beat:=2) (by omega) (by unfold MaxT;omega) (by unfold MaxT;omega)).up (by omega) (Nat.le_refl _)
theorem mod6 (k:Nat):Int.tmod (k:Int) 6=((k % 6:Nat):Int):=tmodN k 6
theorem mod3 (k:Nat):Int.tmod (k:Int) 3=((k % 3:Nat):Int):=tmodN k 3
theorem wrapB (k:Nat) (h:k<256):IntKind.wrap .i64 (k:Int)=(k:Int):=wr (by omega)
theorem const_c {w:World} {K:Value->World->Prop} (hK:∀ w',Grow w w'->hs w<hs w'->Byts w' (fun b=>b=hs w) (some ⟨hs w,0,none⟩) [108,97,115,116]->K (.slice (some ⟨hs w,0,none⟩) 4 4) w'):
  RunOk Tryz.prog (Hold (convert 42 42 (.slice (some ⟨hs w,0,none⟩) 4 4))) (w.alloc (.cells #[.int .u8 108,.int .u8 97,.int .u8 115,.int .u8 116] 5 (0,0))) K:=by
 refine ⟨_,_,Lib.run_convert_bytes_const w 42 5 #[.int .u8 108,.int .u8 97,.int .u8 115,.int .u8 116] 4 4 und42 und5,?_⟩
 refine hK _ (only_alloc rfl) (by rw [hs_alloc rfl];omega) fun i row hi=>?_
 rw [List.getElem?_map] at hi
 cases hx:([108,97,115,116]:List UInt8)[i]? with
 | none=>rw [hx] at hi;cases hi
 | some x=>
  rw [hx] at hi
  cases hi
  refine ⟨_,rfl,rfl,fun j v hj=>?_⟩
  rw [toNat_cast,Nat.mul_one,Addr.add_lit,Addr.add_lit,Nat.zero_add]
  have hj0:j=0:=by
   rcases Nat.eq_zero_or_pos j with h | h
   ·exact h
   ·rw [List.getElem?_eq_none (by show ([.int .u8 (x.toNat:Int)]:List Value).length<=j;simp;omega)] at hj;cases hj
  subst hj0
  refine (World.cell?_alloc_mark w #[.int .u8 108,.int .u8 97,.int .u8 115,.int .u8 116] 5 _ i).trans ?_
  have hi4:=(List.getElem?_eq_some_iff.1 hx).1
  have:i=0\/i=1\/i=2\/i=3:=by simp at hi4;omega
  rcases this with rfl | rfl | rfl | rfl <;> (cases hx;cases hj;rfl)
end Go.Proofs.YtcaokpglbolkcaaGreat
namespace Go.Proofs.YtcaokpglbolkcaaGreat
open Go Go.Nf Go.RowKit Go.MapKept
abbrev lastB:List UInt8:=[108,97,115,116]
set_option maxHeartbeats 8000000 in
theorem law3_c {A:Nat->Prop} {l:Option Addr} {n c:Nat} (w:World) (h:TurnsAt w A l n) (hA:∀ b,A b->b<hs w):Calls Tryz.prog 3 #[.slice l n c] w fun e w'=>e=.returned (.bool true)/\Grow w w':=by
 refine nf3 l n c w _ ((awake_c w).mono ?_)
 rintro _ w2 ⟨rfl,e2⟩
 have e2:=e2.symm
 subst e2
 refine ⟨_,rfl,bT ⟨fun hgt=>⟨rfl,Only.refl _ _⟩,fun hle=>?_⟩⟩
 have hn100:n<=100:=by have:=dF hle;omega
 intro w7 e7 w9 e9
 have r7:=Row.new (l:=[.int .i64 0,.int .i64 1,.int .i64 2]) e7
 have z7:=hs_alloc e7
 refine ⟨(Row.new (l:=[_,_]) e9).there (by simp),fun w11 e11 w13 e13 w15 e15 w17 e17=>⟨(Row.new (l:=[_]) e17).there (by simp),fun w19 e19=>?_⟩⟩
 have z9:=hs_alloc e9
 have g7:Grow w w7:=only_alloc e7
 obtain ⟨r11,g11⟩:=loc (l:=[_,_]) (vs:=[.slice (some ⟨hs w,0,none⟩) 3 3,.slice none 0 0]) e9 e11 rfl
 have z11:hs w11=hs w9:=by
  rw [e11]
  exact (setCells_facts _ _ _ _).2.2.2.1
 have r13:=Row.new (l:=[.pointer none,.pointer none,.pointer none]) e13
 have z13:=hs_alloc e13
 have g13:Grow w11 w13:=only_alloc e13
 have r15:=Row.new (l:=[.pointer none,.pointer none,.pointer none]) e15
 have z15:=hs_alloc e15
 have g15:Grow w13 w15:=only_alloc e15
 obtain ⟨r19,g19⟩:=loc (l:=[_]) (vs:=[.int .i64 0]) e17 e19 rfl
 have z17:=hs_alloc e17
 have z19:hs w19=hs w17:=by
  rw [e19]
  exact (setCells_facts _ _ _ _).2.2.2.1
 have x7:hs w7=hs w+1:=z7
 have x11:hs w11=hs w+2:=by omega
 have x13:hs w13=hs w+3:=by omega
 have x15:hs w15=hs w+4:=by omega
 rw [x7] at r11
 rw [x11] at r13
 rw [x13] at r15
 rw [x15] at r19
 rw [x7,x11,x13,x15]
 have zz:hs w19=hs w+5:=by omega
 have op0:Opening w w19 0 (fun _=>⟨0,0,fun _=>False,fun _=>False,openS 0 0 0 init3 0 none [] 0,400⟩):=by
  refine ⟨⟨fun i hi=>(by omega),fun i j hi=>(by omega),fun i hi=>(by omega),fun i hi=>(by omega),fun b hb=>⟨by omega,by omega,by omega⟩,fun b hb=>by omega⟩,(((g7.trans' g11).trans' g13).trans' g15).trans' g19,(((r7.grow g11).grow g13).grow g15).grow g19,((r11.grow g13).grow g15).grow g19,(r13.grow g15).grow g19,r15.grow g19,r19,fun i hi=>(by omega)⟩
 refine ⟨fun kk x w'=>∃ (j:Nat) (nd:Nat->Nd),x=(j:Int)/\j<=3/\kk=3 - j/\Opening w w' j nd,⟨_,0,_,rfl,by decide,rfl,op0⟩,?_⟩
 clear op0
 have s3:∀ j:Nat,j<3->(0:Int)<=(j:Int)/\(j:Int)<3:=fun j hj=>⟨by omega,by omega⟩
 rintro kk _ w21 x ⟨j,nd,rfl,hj,rfl,op⟩
 refine ⟨fun hlt=>?_,fun hge=>?_⟩
 ·have hlt:j<3:=by have:=dT hlt;omega
  refine (storageNew_c w21).mono ?_
  rintro _ w26 ⟨rfl,f26,g26,z26⟩
  have bz:=op.gw.size
  have pz:=op.nw.lt
  refine ⟨_,rfl,s3 j hlt,arr_there (op.tr.grow g26) (by rw [prowP_len hj];exact hlt),fun w28 e28=>?_⟩
  obtain ⟨t28,o28⟩:=arr_set (op.tr.grow g26) e28
  rw [prowP_set hlt] at t28
  have z28:=o28.size
  intro w30 e30
  have g30:Grow w28 w30:=only_drew e30
  have z30:=g30.size
  have c30:=((op.conf.grow g26).keep o28 (by omega)).grow g30
  have l30:=((op.old.grow g26).keep o28 (by omega)).grow g30
  have p30:=((op.pr.grow g26).keep o28 (by omega)).grow g30
  have n30:=((op.nw.grow g26).keep o28 (by omega)).grow g30
  have t30:=t28.grow g30
  have f30:=(f26.keep o28 (by intro b hb e;omega)).grow g30
  have ew:IntKind.wrap .i64 (8+IntKind.wrap .i64 (2*(j:Int)))=((8+2*j:Nat):Int):=by rw [wr (x:=2*(j:Int)) (by omega),wr (by omega)];omega
  refine ⟨_,_,_,c30.cell rfl,_,_,_,c30.cell rfl,s3 j hlt,_,cell_arr t30 (prowP_at (Nat.lt_succ_self j)),?_⟩
  rw [ew,if_pos rfl]
  refine (open_c (c:=init3) (ops:=[]) (k:=400) (id:=j) (wait:=8+2*j) (beat:=2) (now:=0) (A:=fun b=>b=hs w) permit3 (by omega) (by omega) (by unfold MaxT;omega) (by omega) (by unfold MaxT;omega) (by unfold MaxT;omega) f30 (Nat.zero_le _) (fun i o hi=>(by simp at hi)) (Nat.zero_le _) (by omega) ⟨row_ints (xs:=[0,1,2]) l30,ints_nil _ _ _⟩ (fun b hb=>⟨by have:=l30.lt;omega,by omega⟩)).mono ?_
  rintro _ w40 ⟨p,N,D,rfl,n40,o40,hN,hD⟩
  have z40:=o40.size
  have O:Only (fun b=>b=hs w+2\/b=hs w+3\/b=hs w+4) w21 w40:=by
   refine (((Grow.only g26).trans' (o28.mono fun b _ hb=>.inr (.inl hb))).trans' (Grow.only g30)).trans o40 fun b hb k=>?_
   omega
  have net40:=op.net.add (x:=⟨p,hs w21,N,D,openS j (8+2*j) 2 init3 0 none [] 0,400⟩) bz O n40 (fun b hb=>(hN b hb).elim (fun k=>by omega) fun k=>by omega) fun b hb=>by have:=hD b hb;omega
  have nF:∀ b,b<hs w21->¬b=hs w21:=fun b hb e=>by omega
  have c40:=c30.keep o40 (nF _ (by omega))
  have l40:=l30.keep o40 (nF _ (by omega))
  have p40:=p30.keep o40 (nF _ (by omega))
  have t40:=t30.keep o40 (nF _ (by omega))
  have n40':=n30.keep o40 (nF _ (by omega))
  refine ⟨_,_,rfl,s3 j hlt,arr_there p40 (by rw [prowP_len hj];exact hlt),fun w43 e43=>?_⟩
  obtain ⟨p43,o43⟩:=arr_set p40 e43
  rw [prowP_set hlt] at p43
  have z43:=o43.size
  refine ⟨s3 j hlt,_,cell_arr p43 (prowP_at (Nat.lt_succ_self j)),bF ⟨_,by omega,j+1,updN nd j ⟨p,hs w21,N,D,openS j (8+2*j) 2 init3 0 none [] 0,400⟩,by rw [wr (by omega)];omega,hlt,rfl,⟨net40.own (o43.mono fun b _ hb=>.inl hb) fun b hb=>.inl hb,?_,l40.keep o43 (by omega),c40.keep o43 (by omega),?_,?_,n40'.keep o43 (by omega),fun i hi=>?_⟩⟩⟩
  ·exact (op.gw.trans O fun b hb k=>by omega).trans o43 fun b hb k=>by omega
  ·rw [<- prowP_upd (p:=p) rfl];exact p43
  ·have:=t40.keep o43 (by omega)
   rw [<- prowP_updT (t:=hs w21) rfl];exact this
  ·by_cases e:i=j
   ·subst e;rw [updN_self];exact ⟨rfl,rfl⟩
   ·rw [updN_ne nd _ e];exact op.st i (by omega)
 have:j=3:=by have:=dF hge;omega
 subst this
 intro w54 e54
 have bz:=op.gw.size
 have pz:=op.nw.lt
 have r54:Row w54 (hs w21) 35 [.slice none 0 0]:=Row.new e54
 have g54:Grow w21 w54:=only_alloc e54
 have z54:=hs_alloc e54
 have hpr:=op.pr.grow g54
 have htr:=op.tr.grow g54
 rw [prowP_full] at hpr htr
 have net54:Net w54 (hs w) 3 (fun b=>b=hs w+2\/b=hs w+4\/b=hs w21) (fun b=>b=hs w\/b=hs w+1\/b=hs w+3) nd:=by
  have h1:=op.net.own (W':=fun b=>(b=hs w+2\/b=hs w+3\/b=hs w+4)\/b=hs w21) (Grow.only g54) fun b hb=>hb.imp id fun e=>⟨by omega,by omega,by omega⟩
  exact h1.re (fun b hb=>by omega) (fun b hb=>by omega) fun b hb=>by omega
 have hst:∀ i,i<3->openS i (8+2*i) 2 init3 0 none [] 0=(nd i).s:=fun i hi=>(op.st i hi).1.symm
 have tn54:Tn 0 0 0 (fun i=>(nd i).s) []:=Tn.init.ext hst
 have ls54:LT w w54 (hs w) (hs w21) 0 0 (fun _=>0) (fun b=>b=hs w+2\/b=hs w+4\/b=hs w21) (fun b=>b=hs w\/b=hs w+1\/b=hs w+3) nd [] [] none 0 0:=by
  refine ⟨net54,op.gw.trans' g54,⟨op.conf.grow g54,.inr (.inl rfl)⟩,⟨op.old.grow g54,.inl rfl⟩,⟨hpr,.inl rfl⟩,⟨htr,.inr (.inr rfl)⟩,⟨op.nw.grow g54,.inr (.inl rfl)⟩,⟨r54,.inr (.inr rfl)⟩,fly0 _ _ _,tn54.j,fun i hi=>?_,fun i hi=>?_,fun m hm=>(by cases hm),⟨G0,⟨fun i hi=>?_,fun m hm=>(by cases hm)⟩,fun i hi=>?_⟩⟩
  ·rw [<- hst i hi,(op.st i hi).2]
   exact ⟨good00 hi,Nat.le_refl _⟩
  ·rw [<- hst i hi];exact Nat.zero_le _
  ·show Live init3 G0 (nd i).s/\(nd i).s.id=i
   rw [<- hst i hi]
   exact ⟨live0 permit3 i _ _,rfl⟩
  ·rw [<- hst i hi,(op.st i hi).2]
   have:kw (openS i (8+2*i) 2 init3 0 none [] 0)=1:=rfl
   omega
 generalize hs w21=fb at*
 clear net54 hpr htr hst r54
 refine ⟨fun kk x w'=>∃ (i now e:Nat) (W E:Nat->Prop) (nd:Nat->Nd) (ms:List Msg) (o:Option Addr) (m c:Nat),x=(i:Int)/\i<=n/\kk=n - i/\LT w w' (hs w) fb now i (fun _=>i) W E nd ms ms o m c/\Tn i now e (fun a=>(nd a).s) ms/\m<=200,⟨_,0,0,0,_,_,nd,[],none,0,0,rfl,Nat.zero_le _,rfl,ls54,tn54,by omega⟩,?_⟩
 clear ls54 tn54 op
 rintro kk _ w60 x ⟨i,now,e,W,E,nd,ms,o,m,c,rfl,hin,rfl,ls,tn,hm200⟩
 have hnow:now<=i:=by have:=tn.hk;omega
 have hei:e<=i:=by have:=tn.hk;omega
 refine ⟨fun hlt k64 hk64=>?_,fun hge=>?_⟩
 ·have hlt:i<n:=by have:=dT hlt;omega
  have ei1:IntKind.wrap .i64 ((i:Int)+1)=((i+1:Nat):Int):=by rw [wr (by omega)];omega
  rw [ei1] at hk64
  have fin64:∀ (w':World) (now' e':Nat) (W' E':Nat->Prop) (nd':Nat->Nd) (b:Nat) (PB:Nat->Nat) (ms':List Msg) (o':Option Addr) (m' c':Nat),LT w w' (hs w) fb now' b PB W' E' nd' ms' ms' o' m' c'->b<=i+1->(∀ a,a<3->PB a<=i+1)->Tn (i+1) now' e' (fun a=>(nd' a).s) ms'->m'<=200->k64 w':=
   fun w' now' e' W' E' nd' b PB ms' o' m' c' hl hb hP ht hm=>hk64 w' fun _=>⟨_,by omega,i+1,now',e',W',E',nd',ms',o',m',c',rfl,hlt,rfl,hl.up hb hP,ht,hm⟩
  obtain ⟨a,kx,ky,kz,rfl,hkx,hky,hkz,ca,cb,cc⟩:=(h.grow ls.gw).at hlt
  refine ⟨a,rfl,⟨by omega,by omega⟩,_,ca,_,cb,_,cc,fun w74 e74=>⟨(Row.new (l:=[_,_,_]) e74).there (by simp),fun w76 e76=>?_⟩⟩
  obtain ⟨r76,g76⟩:=loc (l:=[_,_,_]) (vs:=[.int .u8 (kx:Int),.int .u8 (ky:Int),.int .u8 (kz:Int)]) e74 e76 rfl
  have ls76:=ls.mark g76 (Nat.le_refl _) r76.lt
  generalize hE1:(fun x=>E x\/x=hs w60)=E1 at ls76
  have hxE:E1 (hs w60):=by rw [<- hE1];exact .inr rfl
  clear hE1 ls
  generalize hs w60=gx at*
  intro k78 hk78
  have fin78:∀ (w':World) (now' e':Nat) (W' E':Nat->Prop) (nd':Nat->Nd) (b:Nat) (PB:Nat->Nat) (ms':List Msg) (o':Option Addr) (m' c':Nat),LT w w' (hs w) fb now' b PB W' E' nd' ms' ms' o' m' c'->b<=i+1->(∀ a,a<3->PB a<=i+1)->Tn (i+1) now' e' (fun a=>(nd' a).s) ms'->m'<=206->k78 w':=by
   intro w' now' e' W' E' nd' b PB ms' o' m' c' hl hb hP ht hm
   refine hk78 w' fun _=>⟨_,_,_,hl.fv.1.cell rfl,fun hgt=>?_,fun hle=>fin64 w' now' e' W' E' nd' b PB ms' o' m' c' hl hb hP ht (by have:=dF hle;omega)⟩
   have hgt:200<m':=by have:=dT hgt;omega
   refine ⟨_,_,_,hl.fv.1.cell rfl,⟨by decide,by omega⟩,hl.fv.1.there (by simp),fun w90 e90=>?_⟩
   have hsub:∀ x∈ms'.drop 100,x∈ms':=fun x hx=>List.mem_of_mem_drop hx
   have l90:=(hl.setFly (hl.fly.drop (j:=100) (by omega)) e90).less hsub
   exact fin64 w90 now' e' W' E' nd' b PB _ _ _ _ l90 hb hP (ht.less hsub) (by omega)
  have e6:=mod6 kx
  have e3:=mod3 ky
  have wy:=wrapB ky hky
  have wz:=wrapB kz hkz
  have hy3:ky % 3<3:=Nat.mod_lt _ (by decide)
  have ey:Int.tmod (IntKind.wrap .i64 (ky:Int)) 3=((ky % 3:Nat):Int):=by rw [wy,e3]
  refine ⟨_,r76.cell rfl,?_⟩
  rw [e6]
  refine ⟨fun h0=>?_,fun h0=>⟨fun h4=>?_,fun h4=>⟨fun h5=>?_,fun h5=>?_⟩⟩⟩
  · -- a tick of all
   have en1:IntKind.wrap .i64 ((now:Int)+1)=((now+1:Nat):Int):=by rw [wr (by omega)];omega
   refine ⟨_,ls76.nw.1.cell rfl,ls76.nw.1.there (by simp),fun w96 e96=>?_⟩
   rw [en1] at e96
   have l96:=ls76.setNow (now':=now+1) (by omega) e96
   refine ⟨fun kk x w'=>∃ (j:Nat) (W' E':Nat->Prop) (nd':Nat->Nd) (o:Option Addr) (m' c:Nat),x=(j:Int)/\j<=3/\kk=3 - j/\(∀ a,a<3->(nd' a).s=tkJ (now+1) (fun a=>(nd a).s) j a)/\LT w w' (hs w) fb (now+1) (i+1) (fun a=>if a<j then i+1 else i) W' E' nd' (ms++tkQ (now+1) (fun a=>(nd a).s) j) (ms++tkQ (now+1) (fun a=>(nd a).s) j) o m' c/\m'<=m+2*j,⟨_,0,W,E1,nd,o,m,c,rfl,by decide,rfl,fun a ha=>rfl,?_,by omega⟩,?_⟩
   ·have:=l96.up (b':=i+1) (PB':=fun a=>if a<0 then i+1 else i) (by omega) (fun i hi=>by simp)
    simpa [tkQ] using this
   rintro kk _ w102 x ⟨j,W',E',nd',o,m',c,rfl,hj,rfl,hst,l102,hm⟩
   refine ⟨fun hlt3 w106 e106=>?_,fun hge3=>?_⟩
   ·have hlt3:j<3:=by have:=dT hlt3;omega
    have l106:=l102.grow (only_drew e106)
    have ej:(nd' j).s=(nd j).s:=by rw [hst j hlt3];unfold tkJ;rw [if_neg (by omega)]
    have call:=l106.ticked (i:=j) (b':=i+1) (PB':=fun a=>if a<j+1 then i+1 else i) hlt3 (by omega) (by show (if j<j then i+1 else i)<=179;rw [if_neg (by omega)];omega) (by show (if j<j+1 then i+1 else i)=(if j<j then i+1 else i)+1;rw [if_pos (by omega),if_neg (by omega)]) (fun a ha=>by show (if a<j then i+1 else i)<=(if a<j+1 then i+1 else i);split <;> split <;> omega) (Nat.le_refl _) (by show (if j<j+1 then i+1 else i)<=i+1;split <;> omega) (by omega)
    refine ⟨_,_,_,l106.fv.1.cell rfl,s3 j hlt3,_,l106.pcell hlt3,_,l106.nw.1.cell rfl,call.mono ?_⟩
    rintro _ w114 ⟨o2,c2,rfl,-,kp,af⟩
    have ol:(tickS (nd' j).s (now+1)).2.length<=2:=tk_olen (l106.j.sh j hlt3) hlt3
    refine ⟨_,_,_,rfl,kp,af _ fun o' c' w119 th hw=>⟨_,_,_,rfl,th,fun w123 e123=>?_⟩⟩
    obtain ⟨W2,E2,nd2,hs2,l123⟩:=hw w123 e123
    rw [ej,List.append_assoc,<- tkQ_succ (now+1) (fun a=>(nd a).s) j] at l123
    refine ⟨_,by omega,j+1,W2,E2,nd2,o',m'+(tickS (nd j).s (now+1)).2.length,c',by rw [wr (by omega)];omega,hlt3,rfl,fun a ha=>?_,l123,?_⟩
    ·rw [hs2 a ha]
     unfold tkJ
     by_cases e:a=j
     ·subst e
      rw [upd_self,if_pos (by omega),ej];rfl
     ·rw [upd_ne (fun i=>(nd' i).s) _ e,hst a ha]
      unfold tkJ
      split <;> split <;> first | rfl | omega
    ·rw [ej] at ol
     omega
   ·have:j=3:=by have:=dF hge3;omega
    subst this
    rw [tkQ_three] at l102
    have ht:=tn.tick
    refine fin78 w102 (now+1) e W' E' nd' _ _ _ o m' c l102 (Nat.le_refl _) (fun a ha=>by show (if a<3 then i+1 else i)<=i+1;split <;> omega) (ht.ext fun a ha=>?_) (by omega)
    rw [hst a ha]
    unfold tkJ
    rw [if_pos ha]
  · -- restarted
   refine ⟨_,r76.cell rfl,fun w130 e130=>?_⟩
   have g130:Grow w76 w130:=only_drew e130
   have l130:=ls76.grow g130
   have x130:=r76.grow g130
   rw [ey]
   generalize ky % 3=j at*
   obtain ⟨F,ops,hf,hh,hst,hlo,hFN⟩:=(l130.net.node j hy3).file
   have hkl:=l130.kle hy3 (by omega)
   obtain ⟨q1,q2⟩:=len_data hh (by omega)
   refine ⟨s3 j hy3,_,l130.tcell hy3,_,x130.cell rfl,?_⟩
   rw [wz]
   refine (powerFail_c hf (by omega) kz 1).mono ?_
   rintro _ w135 ⟨rfl,f135,o135⟩
   have calm:∀ {w1:World},Only F w130 w1->Only (fun b=>hs w<=b/\¬W b/\¬E1 b) w130 w1:=fun o=>l130.net.calm hy3 (o.mono fun b _ hb=>hFN b hb)
   have nW:∀ b,E1 b->¬(hs w<=b/\¬W b/\¬E1 b):=fun b hb k=>k.2.2 hb
   have nW2:∀ b,W b->¬(hs w<=b/\¬W b/\¬E1 b):=fun b hb k=>k.2.1 hb
   have t135:=l130.tr.1.keep (calm o135) (nW _ l130.tr.2)
   refine ⟨rfl,s3 j hy3,_,cell_arr t135 (prow_at hy3),(powerOn_c f135).mono ?_⟩
   rintro _ w138 ⟨rfl,f138,o138⟩
   refine ⟨rfl,fun w139 e139=>?_⟩
   have g139:Grow w138 w139:=only_drew e139
   have O139:Only F w130 w139:=(o135.trans' o138).trans' (Grow.only g139)
   have c139:=l130.conf.1.keep (calm O139) (nW _ l130.conf.2)
   have d139:=l130.old.1.keep (calm O139) (nW _ l130.old.2)
   have t139:=l130.tr.1.keep (calm O139) (nW _ l130.tr.2)
   have n139:=l130.nw.1.keep (calm O139) (nW2 _ l130.nw.2)
   have z139:=O139.size
   have ew:IntKind.wrap .i64 (8+IntKind.wrap .i64 (2*(j:Int)))=((8+2*j:Nat):Int):=by rw [wr (x:=2*(j:Int)) (by omega),wr (by omega)];omega
   refine ⟨_,_,_,c139.cell rfl,_,_,_,c139.cell rfl,s3 j hy3,_,cell_arr t139 (prow_at hy3),_,n139.cell rfl,?_⟩
   rw [ew]
   have hmem:Mem w139 (fun b=>b=hs w) init3 (some ⟨hs w,0,none⟩) none:=⟨row_ints (xs:=[0,1,2]) d139,ints_nil _ _ _⟩
   refine (open_c (c:=init3) (ops:=ops) (k:=(nd j).k) (id:=j) (wait:=8+2*j) (beat:=2) (now:=now) (A:=fun b=>b=hs w) (c1:=3) (c2:=0) permit3 (by omega) (by omega) (by unfold MaxT;omega) (by omega) (by unfold MaxT;omega) (by unfold MaxT;omega) (f138.grow g139) (Nat.le_refl _) hh hlo (by omega) hmem (fun b hb=>⟨by have:=d139.lt;omega,fun k=>?_⟩)).mono ?_
   ·have:=(l130.net.nz j hy3 b (hFN b k)).2.2
    exact this (hb ▸ l130.old.2)
   rintro _ w150 ⟨p,N,D,rfl,n150,o150,hN,hD⟩
   rw [hst] at n150
   have tr:=tn.restart hy3
   obtain ⟨th,re⟩:=l130.reopen hy3 hFN (O139.trans' o150) (by omega) n150 (fun b hb=>(hN b hb).imp id fun k=>by omega) (fun b hb=>by have:=hD b hb;omega) tr.j
   refine ⟨_,_,rfl,s3 j hy3,th,fun w153 e153=>?_⟩
   obtain ⟨x,hxp,hxs,l153⟩:=re w153 e153
   have pc:=l153.pcell hy3
   rw [updN_self,hxp] at pc
   refine ⟨s3 j hy3,_,pc,bF (fin78 w153 now e W E1 _ _ _ ms o m c l153 (by omega) (fun _ _=>by omega) (tr.ext fun a ha=>?_) (by omega))⟩
   by_cases ea:a=j
   ·subst ea;rw [upd_self,updN_self,hxs]
   ·rw [upd_ne (fun a=>(nd a).s) _ ea,updN_ne nd x ea]
  · -- proposed
   refine ⟨_,r76.cell rfl,?_⟩
   rw [ey]
   generalize ky % 3=j at*
   refine ⟨s3 j hy3,_,ls76.pcell hy3,fun w162 e162=>?_⟩
   have hiw:IntKind.wrap .u8 (i:Int)=(((UInt8.ofNat i).toNat:Nat):Int):=by
    rw [IntKind.wrap_u8,UInt8.toNat_ofNat']
    omega
   rw [hiw] at e162
   have r162:Row w162 (hs w76) 5 (byV [UInt8.ofNat i]):=Row.new (l:=[_]) e162
   have g162:Grow w76 w162:=only_alloc e162
   have l162:=ls76.mark g162 (Nat.le_refl _) r162.lt
   obtain ⟨e',tp⟩:=tn.propose hy3 [UInt8.ofNat i]
   have hk':=tp.hk
   have hll:(proposeS (nd j).s [UInt8.ofNat i]).1.log.length<=320:=by
    have:=tp.hl j hy3
    rw [upd_self] at this
    have:=tp.hk
    omega
   have ol:=prop_olen (l162.j.sh j hy3) hy3 [UInt8.ofNat i]
   have ol:(proposeS (nd j).s [UInt8.ofNat i]).2.length<=2:=ol
   refine (l162.proposed (A:=fun b=>b=hs w76) (body:=[UInt8.ofNat i]) (PB':=fun _=>i+1) hy3 (by omega) rfl (fun _ _=>by omega) (by omega) hll (row_byts r162) (fun b hb=>by rw [hb];exact l162.apN hy3 _ (.inr rfl)) (by show (1:Nat)<=64;decide)).mono ?_
   rintro _ w165 ⟨nn,err,o',c',rfl,-,cl,kp,af⟩
   refine ⟨_,_,_,_,_,rfl,_,_,_,cl,af _ fun o2 c2 w175 th hw=>⟨_,_,_,rfl,th,fun w179 e179=>?_⟩⟩
   obtain ⟨W2,E2,nd2,hs2,l179⟩:=hw w179 e179
   exact fin78 w179 now e' W2 E2 nd2 _ _ _ o2 _ c2 l179 (by omega) (fun _ _=>Nat.le_refl _) (tp.ext fun a ha=>(hs2 a ha).symm) (by omega)
  · -- a message delivered,dropped,or copied
   have h0:¬kx % 6=0:=by have:=dF h0;omega
   have h4:¬kx % 6=4:=by have:=dF h4;omega
   have h5:¬kx % 6=5:=by have:=dF h5;omega
   refine ⟨_,_,_,ls76.fv.1.cell rfl,fun hz=>fin64 w76 now e W E1 nd _ _ ms o m c ls76 (by omega) (fun _ _=>by omega) (tn.up (by omega)) hm200,fun hz=>?_⟩
   have hz:0<m:=by have:=dF hz;omega
   have hms:=ls76.fnl
   have hjl:ky % m<ms.length:=by rw [<- hms];exact Nat.mod_lt _ hz
   have hat:=List.getElem?_eq_getElem hjl
   have hmem:=List.getElem_mem hjl
   generalize hej:ky % m=j at*
   generalize hem:ms[j]=msg at*
   obtain ⟨am,oe,ce,ha,c0,cs,he,hce⟩:=ls76.fly.at hat
   have em:Int.tmod (IntKind.wrap .i64 (ky:Int)) ((m:Nat):Int)=(j:Int):=by rw [wy,tmodN,hej]
   refine ⟨_,r76.cell rfl,_,_,_,ls76.fv.1.cell rfl,by omega,_,_,_,ls76.fv.1.cell rfl,am,ha,?_⟩
   rw [em,toNat_cast]
   refine ⟨⟨by omega,by omega⟩,_,c0,_,cs 1 _ (by decide) rfl,_,cs 2 _ (by decide) rfl,_,cs 3 _ (by decide) rfl,_,cs 4 _ (by decide) rfl,_,cs 5 _ (by decide) rfl,_,cs 6 _ (by decide) rfl,_,cs 7 _ (by decide) rfl,_,_,_,cs 8 _ (by decide) rfl,fun w206 e206=>⟨(Row.new (l:=[_,_,_,_,_,_,_,_,_]) e206).there (by simp),fun w208 e208 k210 hk210=>?_⟩⟩
   obtain ⟨r208,g208⟩:=loc (l:=[_,_,_,_,_,_,_,_,_]) (vs:=msgV (msg,(oe,ce))) e206 e208 rfl
   have ls208:=ls76.mark g208 (Nat.le_refl _) r208.lt
   have x208:=r76.grow g208
   have he208:Ents w208 (fun x=>E1 x\/x=hs w76) oe msg.ents:=(he.grow g208).mono fun b hb=>.inl hb
   generalize hE2:(fun x=>E1 x\/x=hs w76)=E2 at ls208 he208
   have hxE2:E2 gx:=by rw [<- hE2];exact .inl hxE
   have hmE2:E2 (hs w76):=by rw [<- hE2];exact .inr rfl
   clear hE2
   generalize hs w76=gm at*
   have mS:=tn.j.ms msg hmem
   have hd:=mS.dst
   have fin210:∀ w' o' m' c' W' ms',(∀ x∈ms',x∈ms)->LT w w' (hs w) fb now i (fun _=>i) W' E2 nd ms ms' o' m' c'->m'<=200->Row w' gx 37 [.int .u8 (kx:Int),.int .u8 (ky:Int),.int .u8 (kz:Int)]->Row w' gm 45 (msgV (msg,(oe,ce)))->Ents w' E2 oe msg.ents->k210 w':=by
    intro w' o' m' c' W' ms' hsub hl hm' rx rm hee
    refine hk210 w' fun _=>⟨_,rx.cell rfl,?_⟩
    rw [e6]
    refine ⟨fun h2=>?_,fun _=>fin78 w' now e W' E2 nd _ _ ms' o' m' c' (hl.less hsub) (by omega) (fun _ _=>by omega) ((tn.less hsub).up (by omega)) (by omega)⟩
    have d0:(msg.dst:Int)>=0:=by omega
    have d3:(msg.dst:Int)<3:=by omega
    refine ⟨_,rm.cell rfl,yes d0 ⟨_,rm.cell rfl,yes d3 fun w221 e221=>?_⟩⟩
    have g221:Grow w' w221:=only_drew e221
    have lA:=(hl.grow g221).less (al':=msg::ms') fun x hx=>by
     rcases List.mem_cons.1 hx with rfl | hx
     ·exact hmem
     ·exact hsub x hx
    have rm221:=rm.grow g221
    have ts:=tn.step (q':=ms') hmem hsub
    have hlog:(stepS (nd msg.dst).s msg now).1.log.length<=320:=by
     have:=ts.hl msg.dst hd
     rw [upd_self] at this
     have this:(stepS (nd msg.dst).s msg now).1.log.length<=e+1:=this
     omega
    have ol:(stepS (nd msg.dst).s msg now).2.length<=2:=mv_olen ((lA.j.sh msg.dst hd).clock) hd lA.j.mv
    have call:=lA.stepped (m:=msg) (oe:=oe) (ce:=ce) (by omega) (by show i<=180;omega) (Nat.le_refl _) (by omega) hlog (hee.grow g221) hce (lA.apN hd)
    refine ⟨_,_,_,lA.fv.1.cell rfl,_,rm221.cell rfl,s3 _ hd,_,lA.pcell hd,_,rm221.cell rfl,_,rm221.cell rfl,_,rm221.cell rfl,_,rm221.cell rfl,_,rm221.cell rfl,_,rm221.cell rfl,_,rm221.cell rfl,_,rm221.cell rfl,_,_,_,rm221.cell rfl,_,lA.nw.1.cell rfl,call.mono ?_⟩
    rintro _ w241 ⟨o2,c2,rfl,-,kp,af⟩
    refine ⟨_,_,_,rfl,kp,af _ fun o3 c3 w246 th hw=>⟨_,_,_,rfl,th,fun w250 e250=>?_⟩⟩
    obtain ⟨W3,E3,nd3,hs3,l250⟩:=hw w250 e250
    exact fin78 w250 now (e+1) W3 E3 nd3 _ _ _ o3 _ c3 l250 (by rw [Nat.max_self];omega) (fun _ _=>by omega) (ts.ext fun a ha=>(hs3 a ha).symm) (by omega)
   refine ⟨_,x208.cell rfl,?_⟩
   rw [e6]
   refine ⟨fun h3 w257 e257=>?_,fun h3=>fin210 w208 o m c W ms (fun x hx=>hx) ls208 hm200 x208 r208 he208⟩
   have g257:Grow w208 w257:=only_drew e257
   have l257:=ls208.grow g257
   have ew1:IntKind.wrap .i64 ((j:Int)+1)=((j+1:Nat):Int):=by rw [wr (by omega)];omega
   rw [ew1,toNat_cast,Nat.sub_zero]
   simp only [map_id']
   have hcap:m<=c:=by
    obtain ⟨ps,q1,q2,q3,-⟩:=l257.fly
    exact q3.2.1
   refine ⟨_,_,_,l257.fv.1.cell rfl,⟨by omega,by omega⟩,⟨by omega,by omega⟩,_,_,_,l257.fv.1.cell rfl,⟨by omega,by omega⟩,l257.net.less l257.base l257.fly (j:=j) (by omega) (by omega) fun o' c' w266 W' hn hf hO hW=>?_⟩
   have cellsK:∀ {d T:Nat} {l:List Value},Row w257 d T l->T≠45->Row w266 d T l:=fun {d T l} hr hT=>hr.keep hO (l257.fly.apart hr hT)
   have eK:∀ k,E2 k->¬inBlock o k:=fun k hk hb=>(l257.net.wz k (l257.fly.inW k hb)).2.2 hk
   have hbw:∀ k,inBlock o k->hs w<=k:=fun k hk=>(l257.net.wz k (l257.fly.inW k hk)).1
   have l266:LT w w266 (hs w) fb now i (fun _=>i) W' E2 nd ms ms o m c->True:=fun _=>trivial
   refine ⟨_,_,_,rfl,(cellsK l257.fv.1 (by decide)).there (by simp),fun w270 e270=>?_⟩
   obtain ⟨r270,o270⟩:=cell0 (cellsK l257.fv.1 (by decide)) e270
   have fW:=hW _ l257.fv.2
   have oW:Only W' w266 w270:=o270.mono fun k _ hk=>hk ▸ fW
   have nE:∀ k,E2 k->¬k=fb:=fun k hk e=>(hn.wz _ fW).2.2 (e ▸ hk)
   have dif2:∀ {c T:Nat} {l:List Value},Row w266 c T l->T≠35->¬c=fb:=fun {c T l} hr hT e=>hT ((e ▸ hr:Row w266 fb T l).inj (cellsK l257.fv.1 (by decide))).2
   have pr2:=cellsK l257.pr.1 (by decide)
   have nw2:=cellsK l257.nw.1 (by decide)
   have l270:LT w w270 (hs w) fb now i (fun _=>i) W' E2 nd ms (ms.take j++ms.drop (j+1)) o' (m - 1) c':=⟨hn.own oW fun k hk=>.inl hk,(l257.gw.trans hO fun k hk q=>by have:=hbw k q;omega).trans o270 fun k hk e=>by have:=(l257.net.wz _ l257.fv.2).1;omega,⟨(cellsK l257.conf.1 (by decide)).keep o270 (nE _ l257.conf.2),l257.conf.2⟩,⟨(cellsK l257.old.1 (by decide)).keep o270 (nE _ l257.old.2),l257.old.2⟩,⟨pr2.keep o270 (dif2 pr2 (by decide)),hW _ l257.pr.2⟩,⟨(cellsK l257.tr.1 (by decide)).keep o270 (nE _ l257.tr.2),l257.tr.2⟩,⟨nw2.keep o270 (dif2 nw2 (by decide)),hW _ l257.nw.2⟩,⟨r270,fW⟩,hf.keepB o270 fun k hk=>hk.elim (fun hk e=>hf.apart (cellsK l257.fv.1 (by decide)) (by decide) (e ▸ hk)) (nE k),l257.j,l257.good,l257.lg,l257.msg,l257.kb⟩
   refine fin210 w270 o' (m - 1) c' W' _ (fun x hx=>(List.mem_append.1 hx).elim List.mem_of_mem_take List.mem_of_mem_drop) l270 (by omega) ?_ ?_ ?_
   ·exact (cellsK (x208.grow g257) (by decide)).keep o270 (nE _ hxE2)
   ·exact ((r208.grow g257).keep hO (eK _ hmE2)).keep o270 (nE _ hmE2)
   ·exact ((he208.grow g257).keep hO eK).keep o270 nE
 · -- the rounds
  have hin:i=n:=by have:=dF hge;omega
  subst hin
  obtain ⟨N1,N2,x,r1,r2,hx,hld,hrl,hlog,N3,N4,r3,r4,hend⟩:=leads_plain tn hn100 (by rw [<- ls.fnl];exact hm200) lastB
  have todo:Todo 60 now (fun a=>(nd a).s) ms N2:=⟨N1,r1,todo_of r2⟩
  refine ⟨fun kk x w'=>∃ (r:Nat) (W E:Nat->Prop) (nd:Nat->Nd) (N:Nat->PN) (ms:List Msg) (o:Option Addr) (m c:Nat),x=(r:Int)/\r<=60/\kk=60 - r/\LT w w' (hs w) fb (now+r) (i+r) (fun _=>i+r) W E nd ms ms o m c/\(∀ a,a<3->(nd a).s=N a)/\Todo (60 - r) (now+r) N ms N2/\m<=200,⟨_,0,W,E,nd,_,ms,o,m,c,rfl,by omega,rfl,ls,fun _ _=>rfl,todo,hm200⟩,?_⟩
  clear todo ls tn r1 r2
  rintro kk _ w278 x279 ⟨r,W,E,nd,N,ms,o,m,c,rfl,hr,rfl,ls,hN,todo,hm200⟩
  refine ⟨fun hlt=>?_,fun hge=>?_⟩
  ·have hlt:r<60:=by have:=dT hlt;omega
   rw [show 60 - r=(60 - (r+1))+1 by omega] at todo
   obtain ⟨Nn,hR,todo⟩:=todo
   refine (round_c ls hN hR (by omega) (by omega) (by omega)).mono ?_
   rintro _ w283 ⟨rfl,W',E',nd',o',c',hN',l283⟩
   exact ⟨_,rfl,bT ⟨60 - (r+1),by omega,r+1,W',E',nd',Nn,[],o',0,c',by rw [wr (by omega)];omega,hlt,rfl,l283,hN',todo,by omega⟩⟩
  ·have hr:r=60:=by have:=dF hge;omega
   subst hr
   obtain ⟨rfl,rfl⟩:N2=N/\ms=[]:=todo
   have hfl:=ls.fnl
   refine ⟨⟨by decide,by decide⟩,_,ls.pr.1.cell (prow_at (by omega)),(leader_c (ls.net.node 0 (by omega))).mono ?_⟩
   rintro _ w291 ⟨rfl,e291⟩
   have e291:=e291.symm
   subst e291
   rw [hN 0 (by omega),hld]
   have ox:optI (some x)=(x:Int):=rfl
   rw [ox]
   refine ⟨_,rfl,no (by omega) (no (by omega) ⟨s3 x hx,_,ls.pcell hx,(role_c (ls.net.node x hx)).mono ?_⟩)⟩
   rintro _ w299 ⟨rfl,e299⟩
   have e299:=e299.symm
   subst e299
   rw [hN x hx,hrl]
   refine ⟨_,rfl,nno rfl ⟨s3 x hx,_,ls.pcell hx,fun w304 e304=>?_⟩⟩
   have e304:w304=w278.alloc (.cells #[.int .u8 108,.int .u8 97,.int .u8 115,.int .u8 116] 5 (0,0)):=e304
   rw [e304]
   refine const_c fun w307 g307 z307 b307=>⟨_,_,_,rfl,?_⟩
   have l307:=ls.mark g307 (Nat.le_refl _) z307
   have hrole:(nd x).s.role=3:=by rw [hN x hx];exact hrl
   have eP:proposeS (nd x).s lastB=proposeS (N2 x) lastB:=by rw [hN x hx]
   have shx:Sh (now+60) x (nd x).s:=l307.j.sh x hx
   have hll:(proposeS (nd x).s lastB).1.log.length<=320:=by
    obtain ⟨cm,-,ep⟩:=prop3 shx hrole lastB
    rw [ep]
    show ((nd x).s.log++[_]).length<=320
    rw [List.length_append,hN x hx]
    have:=hlog x hx
    simp only [List.length_singleton]
    omega
   have ol:=prop_olen shx hx lastB
   refine (l307.proposed (A:=fun b=>b=hs w278) (body:=lastB) (cb:=4) (PB':=fun _=>i+60+1) hx (by omega) rfl (fun _ _=>by omega) (by omega) hll b307 (fun b hb=>by rw [hb];exact l307.apN hx _ (.inr rfl)) (by decide)).mono ?_
   rintro _ w312 ⟨nn,err,o2,c2,rfl,hq,cl,kp,af⟩
   obtain ⟨rfl,rfl⟩:=hq hrole
   refine ⟨_,_,_,_,_,rfl,nno rfl ⟨_,_,_,cl,af _ fun o3 c3 w324 th hw=>⟨_,_,_,rfl,th,fun w328 e328=>?_⟩⟩⟩
   obtain ⟨W2,E2,nd2,hs2,l328⟩:=hw w328 e328
   rw [List.nil_append] at l328
   have l328:=l328.up (b':=i+61) (PB':=fun _=>i+61) (by rw [Nat.max_self];omega) fun _ _=>by omega
   have hN3:∀ a,a<3->(nd2 a).s=upd N2 x (proposeS (N2 x) lastB).1 a:=fun a ha=>by
    rw [hs2 a ha]
    by_cases ea:a=x
    ·subst ea;rw [upd_self,upd_self,eP]
    ·rw [upd_ne (fun i=>(nd i).s) _ ea,upd_ne N2 _ ea];exact hN a ha
   rw [eP] at l328
   have e61:now+60+1=now+61:=by omega
   have todo:Todo 6 (now+60) (upd N2 x (proposeS (N2 x) lastB).1) (proposeS (N2 x) lastB).2 N4:=⟨N3,r3,by rw [e61];exact todo_of r4⟩
   have hn0:(nd x).s.log.length=(N2 x).log.length:=by rw [hN x hx]
   rw [hn0]
   generalize hnl:(N2 x).log.length=nl at*
   have hnl300:nl<=300:=by rw [<- hnl];exact hlog x hx
   refine ⟨fun kk x w'=>∃ (r:Nat) (W E:Nat->Prop) (nd:Nat->Nd) (N:Nat->PN) (ms:List Msg) (o:Option Addr) (m c:Nat),x=(r:Int)/\r<=6/\kk=6 - r/\LT w w' (hs w) fb (now+60+r) (i+61+r) (fun _=>i+61+r) W E nd ms ms o m c/\(∀ a,a<3->(nd a).s=N a)/\Todo (6 - r) (now+60+r) N ms N4/\m<=200,⟨_,0,W2,E2,nd2,_,_,o3,_,c3,rfl,by omega,rfl,l328,hN3,todo,?_⟩,?_⟩
   ·rw [eP] at ol
    have h0:m=0:=hfl
    omega
   clear todo l328 hN3 hs2 ls hN hw l307 af hld hrl shx hll ol eP
   rintro kk _ w334 x335 ⟨r,W,E,nd,N,ms,o,m,c,rfl,hr,rfl,ls,hN,todo,hm200⟩
   refine ⟨fun hlt=>?_,fun hge=>?_⟩
   ·have hlt:r<6:=by have:=dT hlt;omega
    rw [show 6 - r=(6 - (r+1))+1 by omega] at todo
    obtain ⟨Nn,hR,todo⟩:=todo
    refine (round_c ls hN hR (by omega) (by omega) (by omega)).mono ?_
    rintro _ w339 ⟨rfl,W',E',nd',o',c',hN',l339⟩
    exact ⟨_,rfl,bT ⟨6 - (r+1),by omega,r+1,W',E',nd',Nn,[],o',0,c',by rw [wr (by omega)];omega,hlt,rfl,l339,hN',todo,by omega⟩⟩
   ·have hr:r=6:=by have:=dF hge;omega
    subst hr
    obtain ⟨rfl,rfl⟩:N4=N/\ms=[]:=todo
    refine ⟨fun kk y w'=>∃ j:Nat,y=(j:Int)/\j<=3/\kk=3 - j/\Grow w334 w',⟨_,0,rfl,by decide,rfl,Only.refl _ _⟩,?_⟩
    rintro kk _ w349 y ⟨j,rfl,hj,rfl,g349⟩
    refine ⟨fun hlt=>?_,fun hge=>⟨rfl,(ls.grow g349).gw⟩⟩
    have hlt:j<3:=by have:=dT hlt;omega
    have l349:=ls.grow g349
    obtain ⟨d1,d2,d3⟩:=hend j hlt
    rw [<- hN j hlt] at d1 d2 d3
    have hlg:=l349.lg j hlt
    refine ⟨s3 j hlt,_,l349.pcell hlt,(entry_some (n:=nl+1) (e:=⟨(N2 x).term,2,lastB⟩) (l349.net.node j hlt) (by omega) (by omega) d3 (by show (4:Nat)<=8192;decide)).mono ?_⟩
    rintro _ w355 ⟨oe,ce,rfl,hb355,g355⟩
    refine ⟨_,_,_,_,_,_,rfl,bT fun w363 e363=>⟨(Row.new (l:=[_,_,_]) e363).there (by simp),fun w365 e365=>?_⟩⟩
    obtain ⟨r365,g365⟩:=loc (l:=[_,_,_]) (vs:=[.int .i64 (((N2 x).term:Nat):Int),.int .i64 ((2:Nat):Int),.slice oe lastB.length ce]) e363 e365 rfl
    have l365:=(l349.grow g355).grow g365
    refine ⟨s3 j hlt,_,l365.pcell hlt,(leader_c (l365.net.node j hlt)).mono ?_⟩
    rintro _ w369 ⟨rfl,e369⟩
    have e369:=e369.symm
    subst e369
    refine ⟨_,rfl,nno (by rw [d1];rfl) ⟨s3 j hlt,_,l365.pcell hlt,(commitIndex_c (l365.net.node j hlt)).mono ?_⟩⟩
    rintro _ w375 ⟨rfl,e375⟩
    have e375:=e375.symm
    subst e375
    have hb365:=hb355.grow g365
    have elast:strEq ⟨lastB.toArray⟩ (ByteArray.mk #[(108:UInt8),(97:UInt8),(115:UInt8),(116:UInt8)])=true:=strEq_iff.2 rfl
    refine ⟨_,rfl,no (by omega) ⟨_,_,_,r365.cell rfl,conv_c (xs:=lastB) hb365 ⟨_,rfl,fun k=>(by rw [elast] at k;cases k),fun _=>⟨_,?_,j+1,by rw [wr (by omega)];omega,hlt,rfl,(g349.trans' g355).trans' g365⟩⟩⟩⟩
    omega
end Go.Proofs.YtcaokpglbolkcaaGreat
