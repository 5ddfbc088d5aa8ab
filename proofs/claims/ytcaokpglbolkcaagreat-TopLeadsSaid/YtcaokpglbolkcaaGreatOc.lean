import Derived.Test.YtcaokpglbolkcaaGreatOb
namespace Go.Proofs.YtcaokpglbolkcaaGreat
open Go Go.Nf Go.RowKit
section
variable {w:World} {N D A:Nat->Prop} {p t ma dur k:Nat} {s:PN} {mm:Memb} {ops:List Op} {uns:Bool} {outs:List Msg} {q:Ptrs} {m:Msg} {o:Option Addr} {c now:Nat}
theorem refuse_c (h:NodeAt w N D p t s uns outs k) (hol:outs.length<=1000):
  Calls Tryz.prog 38 #[.pointer (some ⟨p,0,none⟩),msgA m m.src m.term o c] w fun e w'=>e=.returned (.tuple #[])/\∃ N' D',NodeAt w' N' D' p t s uns (outs++refuseS s m) k/\Moves w w' N D N' D':=by
 refine nf38 p m.kind m.src m.dst m.term m.prev m.prevTerm m.commit m.granted o m.ents.length c w _ fun w1 e1=>?_
 have r1:=Row.new (l:=[_,_,_,_,_,_,_,_,_]) e1
 have g1:Grow w w1:=only_alloc e1
 have n1:=h.grow g1
 refine ⟨_,r1.cell rfl,fun hk=>?_,fun hk=>⟨fun hk3=>?_,fun hk3=>?_⟩⟩
 ·have hk:m.kind=1:=by have:=dT hk;omega
  have e:refuseS s m=[⟨2,s.id,m.src,s.term,0,0,0,false,[]⟩]:=by unfold refuseS;rw [if_pos hk]
  rw [e]
  refine ⟨_,r1.cell rfl,(send_c ⟨2,s.id,m.src,s.term,0,0,0,false,[]⟩ (src0:=0) (term0:=0) (oe:=none) (ce:=0) n1 hol rfl rfl (ents_nil _ _ _) (Nat.le_refl _)).mono ?_⟩
  rintro _ w7 ⟨rfl,N',n7,mv⟩
  exact ⟨rfl,rfl,N',D,n7,(Moves.grow g1).trans mv⟩
 ·have hk:¬m.kind=1:=by have:=dF hk;omega
  have hk3:m.kind=3:=by have:=dT hk3;omega
  have e:refuseS s m=[⟨4,s.id,m.src,s.term,0,0,0,false,[]⟩]:=by unfold refuseS;rw [if_neg hk,if_pos hk3]
  rw [e]
  refine ⟨_,r1.cell rfl,(send_c ⟨4,s.id,m.src,s.term,0,0,0,false,[]⟩ (src0:=0) (term0:=0) (oe:=none) (ce:=0) n1 hol rfl rfl (ents_nil _ _ _) (Nat.le_refl _)).mono ?_⟩
  rintro _ w7 ⟨rfl,N',n7,mv⟩
  exact ⟨rfl,rfl,N',D,n7,(Moves.grow g1).trans mv⟩
 ·have hk:¬m.kind=1:=by have:=dF hk;omega
  have hk3:¬m.kind=3:=by have:=dF hk3;omega
  have e:refuseS s m=[]:=by unfold refuseS;rw [if_neg hk,if_neg hk3]
  rw [e,List.append_nil]
  exact ⟨rfl,N,D,n1,Moves.grow g1⟩
open Classical in
noncomputable def opR (s:PN) (m:Msg):Nat:=if s.voted=none/\upToDate s.log m.prev m.prevTerm then 1 else 0
set_option maxHeartbeats 1000000 in
theorem requested_c (h:NodeAt w N D p t s uns outs k) (wf:Wf0 s k) (hk:k<=90000) (wm:WfMsg m) (ht:m.term=s.term) (hol:outs.length<=1000):
  Calls Tryz.prog 39 #[.pointer (some ⟨p,0,none⟩),msgA m m.src m.term o c,.int .i64 (now:Int)] w fun e w'=>e=.returned (.tuple #[])/\∃ N' D',NodeAt w' N' D' p t (requestedS s m now).1 uns (outs++(requestedS s m now).2) (k+opR s m)/\Moves w w' N D N' D':=by
 classical
 have lt:=h.lt
 have hl:=wf.ll
 have hsrc:=wm.src
 have ht1:1<=s.term:=by rw [<- ht];exact wm.t.1
 have htM:=wf.t
 obtain ⟨q,ops,dur,h1,h2,hh,hst,hol',hd1,hd2⟩:=h.ex
 obtain ⟨l1,l2⟩:=len_data hh (by omega)
 have L:=h1.len
 refine nf39 p m.kind m.src m.dst m.term m.prev m.prevTerm m.commit m.granted o m.ents.length c now w _ fun w1 e1=>?_
 have r1:Row w1 (hs w) 45 [.int .i64 (m.kind:Int),.int .i64 (m.src:Int),.int .i64 (m.dst:Int),.int .i64 (m.term:Int),.int .i64 (m.prev:Int),.int .i64 (m.prevTerm:Int),.int .i64 (m.commit:Int),.bool m.granted,.slice o m.ents.length c]:=Row.new (l:=[_,_,_,_,_,_,_,_,_]) e1
 have g1:Grow w w1:=only_alloc e1
 have x1:=h1.grow g1
 refine ⟨_,x1.cell (k:=4) (by omega) rfl,(votedFor_c x1.vr).mono ?_⟩
 rintro _ w5 ⟨rfl,e5⟩
 have e5:=e5.symm
 subst e5
 refine ⟨_,rfl,fun k7 hk7=>?_⟩
 have fin:∀ w9 b,Grow w w9->Row w9 (hs w) 45 [.int .i64 (m.kind:Int),.int .i64 (m.src:Int),.int .i64 (m.dst:Int),.int .i64 (m.term:Int),.int .i64 (m.prev:Int),.int .i64 (m.prevTerm:Int),.int .i64 (m.commit:Int),.bool m.granted,.slice o m.ents.length c]->(b=true↔((s.voted=none\/s.voted=some m.src)/\upToDate s.log m.prev m.prevTerm))->k7 b w9:=by
  intro w9 b g9 r9 hb
  refine hk7 w9 b fun _ k13 hk13=>?_
  have x9:=h1.grow g9
  have z9:=g9.size
  cases b with
  | false=>
   have e:requestedS s m now=(s,[⟨2,s.id,m.src,s.term,0,0,0,false,[]⟩]):=by
    unfold requestedS
    rw [if_neg fun k=>by have:=hb.2 k;cases this]
   rw [e] at hk13 ⊢
   refine bF (hk13 w9 fun _=>⟨_,r9.cell rfl,bF ((send_c ⟨2,s.id,m.src,s.term,0,0,0,false,[]⟩ (src0:=0) (term0:=0) (oe:=none) (ce:=0) (h.grow g9) hol rfl rfl (ents_nil _ _ _) (Nat.le_refl _)).mono ?_)⟩)
   rintro _ w7 ⟨rfl,N',n7,mv⟩
   exact ⟨rfl,rfl,N',D,n7.up (by omega),(Moves.grow g9).trans mv⟩
  | true=>
   have hc:=hb.1 rfl
   have e:requestedS s m now=({ s with voted:=some m.src,since:=now },[⟨2,s.id,m.src,s.term,0,0,0,true,[]⟩]):=by
    unfold requestedS
    rw [if_pos hc]
   rw [e] at hk13 ⊢
   refine bT fun w26 e26=>?_
   have g26:Grow w9 w26:=only_drew e26
   have x26:=x9.grow g26
   have r26:=r9.grow g26
   refine ⟨_,x26.cell (k:=4) (by omega) rfl,_,x26.cell (k:=4) (by omega) rfl,_,r26.cell rfl,(term_c x26.vr).mono ?_⟩
   rintro _ w32 ⟨rfl,e32⟩
   have e32:=e32.symm
   subst e32
   have rest:∀ w35,(∃ q' ops' dur' D',NodeX w35 D' p t { s with voted:=some m.src } s.memb (membAt s.log) ops' dur' uns outs q'/\Moves w26 w35 (q.N p) D (q'.N p) D'/\Hist ops'/\st ops'=⟨s.term,some m.src,s.log⟩/\ops'.length<=k+opR s m/\dur'<=(encFrom sum0 (ops'.map recOf)).length/\(uns=false->dur'=(encFrom sum0 (ops'.map recOf)).length))->Calls Tryz.prog 65 #[.pointer (some ⟨p,0,none⟩),.int .i64 0] w35 fun e w'=>∃ b,e=.returned (.bool b)/\(b=true->There w' ⟨p,14,none⟩ 1/\∀ w41,w41=setCells w' ⟨p,14,none⟩ [.int .i64 (now:Int)] 0->k13 w41)/\(b=false->(Ending.returned (.tuple #[])=.returned (.tuple #[])/\∃ N' D',NodeAt w' N' D' p t { s with voted:=some m.src,since:=now } uns (outs++[⟨2,s.id,m.src,s.term,0,0,0,true,[]⟩]) (k+opR s m)/\Moves w w' N D N' D')):=by
    rintro w35 ⟨q',ops',dur',D',x35,mv35,y1,y2,y3,y4,y5⟩
    refine (ok_c x35).mono ?_
    rintro _ w38 ⟨rfl,e38⟩
    have e38:=e38.symm
    subst e38
    refine ⟨_,rfl,bT ⟨x35.there (by omega),fun w41 e41=>?_⟩⟩
    obtain ⟨x41,o41⟩:=x35.cells (k:=14) (s':={ s with voted:=some m.src,since:=now }) (mm':=s.memb) (ma':=membAt s.log) (uns':=uns) e41 rfl rfl rfl rfl rfl x35.mem ⟨L.v,L.n,L.m⟩
    have n41:NodeAt w41 (q'.N p) D' p t { s with voted:=some m.src,since:=now } uns outs (k+opR s m):=⟨q',ops',dur',x41,fun b=>Iff.rfl,y1,y2,y3,y4,y5⟩
    have mv41:=mv35.trans (Moves.only o41 fun b hb=>.inl hb)
    have r41:=r26.keep mv41.o fun hb=>by have:=h1.lt _ hb;omega
    refine hk13 w41 fun _=>⟨_,r41.cell rfl,bT ((send_c ⟨2,s.id,m.src,s.term,0,0,0,true,[]⟩ (src0:=0) (term0:=0) (oe:=none) (ce:=0) n41 hol rfl rfl (ents_nil _ _ _) (Nat.le_refl _)).mono ?_)⟩
    rintro _ w7 ⟨rfl,N',n7,mv⟩
    exact ⟨rfl,rfl,N',D',n7,(((Moves.grow (g9.trans' g26)).trans mv41).trans mv).iff h2⟩
   have z26:=g26.size
   refine ⟨_,rfl,kept_only (S:=fun _=>False) (Only.refl _ _) r26.lt (fun h=>h),kept_only (S:=fun _=>False) (Only.refl _ _) x26.row.lt (fun h=>h),?_⟩
   by_cases hv:s.voted=none
   ·refine (grant_c x26.jat x26.vr l2 l1 ht1 htM hsrc (.inr ⟨rfl,hv⟩) (fun k=>(x26.ap _ k).1 (.inr (.inl rfl)))).mono ?_
    rintro _ w35 ⟨rfl,hvr,J',F',D',hj,ho,nJ,nF,nD,mD⟩
    obtain ⟨x35,m35⟩:=x26.voted (o:=.v s.term m.src) (s':={ s with voted:=some m.src }) hvr hj ho nJ nF nD mD rfl rfl rfl rfl rfl ⟨L.v,L.n,L.m⟩
    refine ⟨_,rfl,rest w35 ⟨_,_,_,D',x35,m35,hh.snoc (o:=.v s.term m.src) ⟨ht1,htM,hsrc,.inr ⟨by rw [hst],by rw [hst];exact hv⟩⟩,?_,by rw [List.length_append,show opR s m=1 from if_pos ⟨hv,hc.2⟩];simp;omega,by rw [List.map_append];exact Nat.le_refl _,fun _=>by rw [List.map_append];rfl⟩⟩
    rw [st_snoc,hst];rfl
   ·have hv:s.voted=some m.src:=hc.1.resolve_left hv
    have hvr:=x26.vr
    rw [hv] at hvr
    refine (grant_same hvr ht1 htM hsrc).mono ?_
    rintro _ w35 ⟨rfl,e35⟩
    have e35:=e35.symm
    subst e35
    have es:({ s with voted:=some m.src }:PN)=s:=by rw [<- hv]
    refine ⟨_,rfl,rest w26 ⟨q,ops,dur,D,by rw [es];exact x26,Moves.refl _ _ _,hh,by rw [hst,hv],by omega,hd1,hd2⟩⟩
 have g45:∀ w45,w45=w1.drew->Grow w w45:=fun w45 e45=>g1.trans' (only_drew e45)
 intro w45 e45
 have g45:Grow w1 w45:=only_drew e45
 have G45:=g1.trans' g45
 have x45:=h1.grow G45
 have r45:=r1.grow g45
 refine ⟨fun hv=>?_,fun hv=>⟨_,r45.cell rfl,fun hv2=>?_,fun hv2=>?_⟩⟩
 ·have hv:s.voted=none:=by
   have:=dT hv
   cases hx:s.voted with
   | none=>rfl
   | some n=>rw [hx] at this;exact absurd this (by show ¬((n:Int)<0);omega)
  refine ⟨_,x45.cell (k:=5) (by omega) rfl,_,r45.cell rfl,_,r45.cell rfl,(upToDate_c x45.log (by omega) m.prev m.prevTerm).mono ?_⟩
  rintro _ w52 ⟨rfl,g52⟩
  refine ⟨_,rfl,fun hb=>fin _ _ (G45.trans' g52) (r45.grow g52) ⟨fun _=>⟨.inl hv,of_decide_eq_true hb⟩,fun _=>rfl⟩,fun hb=>fin _ _ (G45.trans' g52) (r45.grow g52) ⟨fun e=>(by cases e),fun k=>absurd k.2 (of_decide_eq_false hb)⟩⟩
 ·have hn:¬s.voted=none:=fun e=>by
   have:=dF hv
   rw [e] at this
   exact this (by show ((-1:Int)<0);decide)
  have hv:s.voted=some m.src:=by
   have:=dT hv2
   cases hx:s.voted with
   | none=>exact absurd hx hn
   | some n=>
    rw [hx] at this
    have:(n:Int)=(m.src:Int):=this
    rw [show n=m.src by omega]
  refine ⟨_,x45.cell (k:=5) (by omega) rfl,_,r45.cell rfl,_,r45.cell rfl,(upToDate_c x45.log (by omega) m.prev m.prevTerm).mono ?_⟩
  rintro _ w52 ⟨rfl,g52⟩
  refine ⟨_,rfl,fun hb=>fin _ _ (G45.trans' g52) (r45.grow g52) ⟨fun _=>⟨.inr hv,of_decide_eq_true hb⟩,fun _=>rfl⟩,fun hb=>fin _ _ (G45.trans' g52) (r45.grow g52) ⟨fun e=>(by cases e),fun k=>absurd k.2 (of_decide_eq_false hb)⟩⟩
 ·have hn:¬s.voted=none:=fun e=>by
   have:=dF hv
   rw [e] at this
   exact this (by show ((-1:Int)<0);decide)
  have hn2:¬s.voted=some m.src:=fun e=>by
   have:=dF hv2
   rw [e] at this
   exact this rfl
  exact fin _ _ G45 r45 ⟨fun e=>(by cases e),fun k=>(k.1.elim hn hn2).elim⟩
theorem matches_c (h:NodeAt w N D p t s uns outs k) (wf:Wf s k) (hk:k<=95000) (wm:WfMsg m) (he:Ents w A o m.ents) (hA:∀ b,A b->b<hs w):
  Calls Tryz.prog 77 #[.pointer (some ⟨p,0,none⟩),msgA m m.src m.term o c] w fun e w'=>∃ b:Bool,e=.returned (.bool b)/\(b=true↔matchesS s m)/\Grow w w':=by
 obtain ⟨q,ops,dur,h1,h2,hrest⟩:=h.ex
 have hl:=wf.ll
 have hpr:=wm.prev
 have hc:=wf.cm
 have hlen:=wm.len
 unfold MaxT at hpr hc
 have hs8:∀ e∈s.log,e.body.length<=8192:=fun e he=>by have:=(wf.ent e he).1.b;omega
 refine nf77 p m.kind m.src m.dst m.term m.prev m.prevTerm m.commit m.granted o m.ents.length c w _ fun w1 e1 w3 e3=>?_
 have r1:Row w1 (hs w) 45 [.int .i64 (m.kind:Int),.int .i64 (m.src:Int),.int .i64 (m.dst:Int),.int .i64 (m.term:Int),.int .i64 (m.prev:Int),.int .i64 (m.prevTerm:Int),.int .i64 (m.commit:Int),.bool m.granted,.slice o m.ents.length c]:=Row.new (l:=[_,_,_,_,_,_,_,_,_]) e1
 have g1:Grow w w1:=only_alloc e1
 have g3:Grow w1 w3:=only_drew e3
 have G3:=g1.trans' g3
 have x3:=h1.grow G3
 have r3:=r1.grow g3
 refine ⟨_,x3.cell (k:=5) (by omega) rfl,_,r3.cell rfl,(lterm_c x3.log (by omega) m.prev (by omega)).mono ?_⟩
 rintro _ w8 ⟨rfl,e8⟩
 have e8:=e8.symm
 subst e8
 refine ⟨_,_,rfl,fun hsome=>?_,fun hnone=>?_⟩
 ·obtain ⟨tt,htt⟩:=Option.isSome_iff_exists.1 hsome
  rw [htt]
  refine ⟨_,r3.cell rfl,fun hne=>?_,fun heq=>?_⟩
  ·have hne:¬tt=m.prevTerm:=by have:=nT hne;intro e;exact this (by rw [e];rfl)
   exact ⟨false,rfl,⟨fun e=>(by cases e),fun k=>by have:=k.1;rw [htt] at this;exact absurd (Option.some.inj this) hne⟩,G3⟩
  ·have heq:tt=m.prevTerm:=by have:=nF heq;have:(tt:Int)=(m.prevTerm:Int):=this;omega
   subst heq
   refine ⟨_,_,_,r3.cell rfl,fun kk x w'=>∃ i:Nat,x=(i:Int)/\i<=m.ents.length/\kk=m.ents.length - i/\(∀ (j:Nat) e,j<i->m.ents[j]?=some e->m.prev+1+j<=s.commit->s.log[m.prev+j]?=some e)/\Grow w3 w',⟨_,0,rfl,by omega,rfl,fun j e hj=>absurd hj (by omega),Only.refl _ _⟩,?_⟩
   rintro kk _ w22 x ⟨i,rfl,hi,rfl,hpre,g22⟩
   have G22:=G3.trans' g22
   refine ⟨fun hlt=>?_,fun hge=>?_⟩
   ·have hlt:i<m.ents.length:=by have:=dT hlt;omega
    have hat:=List.getElem?_eq_getElem hlt
    generalize m.ents[i]=ei at*
    obtain ⟨a,ob,cb,ha,-,hc0,hc1,hc2,hbo⟩:=(he.grow G22).at hat
    refine ⟨a,ha,⟨by omega,by omega⟩,_,hc0,_,hc1,_,_,_,hc2,fun w32 e32=>⟨(Row.new (l:=[_,_,_]) e32).there (by simp),fun w34 e34=>?_⟩⟩
    obtain ⟨r34,g34⟩:=loc (l:=[_,_,_]) (vs:=[.int .i64 (ei.term:Int),.int .i64 (ei.kind:Int),.slice ob ei.body.length cb]) e32 e34 rfl
    have G34:=G22.trans' g34
    have x34:=h1.grow G34
    have m34:=(r3.grow g22).grow g34
    have z34:=G34.size
    have en:IntKind.wrap .i64 (IntKind.wrap .i64 ((m.prev:Int)+1)+(i:Int))=((m.prev+1+i:Nat):Int):=by rw [wr (x:=(m.prev:Int)+1) (by omega),wr (by omega)];omega
    have ei1:IntKind.wrap .i64 ((i:Int)+1)=((i+1:Nat):Int):=by rw [wr (by omega)];omega
    refine ⟨_,m34.cell rfl,_,x34.cell (k:=13) (by omega) rfl,?_⟩
    rw [en,ei1]
    refine ⟨fun hle=>⟨_,r34.cell rfl,_,r34.cell rfl,_,_,_,r34.cell rfl,(same_c (n:=m.prev+1+i) (e:=ei) x34 (by omega) (by omega) hs8 (hbo.grow g34) (fun b hb=>by have:=hA b hb;omega)).mono ?_⟩,fun hgt=>?_⟩
    ·rintro _ w45 ⟨rfl,g45⟩
     have ex:m.prev+1+i - 1=m.prev+i:=by omega
     rw [ex]
     refine ⟨_,rfl,fun hb=>⟨_,by omega,i+1,rfl,hlt,rfl,fun j e hj hje hcj=>?_,(g22.trans' g34).trans' g45⟩,fun hb=>⟨false,rfl,⟨fun e=>(by cases e),fun k=>?_⟩,G34.trans' g45⟩⟩
     ·rcases Nat.lt_or_ge j i with hj' | hj'
      ·exact hpre j e hj' hje hcj
      ·have:j=i:=by omega
       subst this
       rw [hat] at hje
       cases hje
       exact of_decide_eq_true hb
     ·have:=k.2 i ei hat (by have:=dT hle;omega)
      exact absurd this (of_decide_eq_false hb)
    ·refine ⟨_,by omega,i+1,rfl,hlt,rfl,fun j e hj hje hcj=>?_,g22.trans' g34⟩
     rcases Nat.lt_or_ge j i with hj' | hj'
     ·exact hpre j e hj' hje hcj
     ·have:j=i:=by omega
      subst this
      have:=dF hgt
      omega
   ·have:i=m.ents.length:=by have:=dF hge;omega
    subst this
    refine ⟨true,rfl,⟨fun _=>⟨htt,fun j e hj hcj=>?_⟩,fun _=>rfl⟩,G22⟩
    exact hpre j e (List.getElem?_eq_some_iff.1 hj).1 hj hcj
 ·have hn:termAt s.log m.prev=none:=by
   cases hx:termAt s.log m.prev with
   | none=>rfl
   | some v=>rw [hx] at hnone;cases hnone
  exact ⟨false,rfl,⟨fun e=>(by cases e),fun k=>by have:=k.1;rw [hn] at this;cases this⟩,G3⟩
theorem Wf0.recv (h:Wf0 s k) (hnow:now<=MaxT) (wm:WfMsg m):Wf0 (recvB s m now) k:=
 {h with rl:=.inl rfl,ld:=fun n e=>by cases e;exact wm.src,si:=hnow,nx1:=fun e=>(by cases e) }
open Classical in
noncomputable def opV (s:PN) (m:Msg):Nat:=if matchesS s m then newE s.log m.prev m.ents else 0
set_option maxHeartbeats 1000000 in
theorem receive_c (h:NodeAt w N D p t s uns outs k) (wf:Wf0 s k) (hk:k<=90000) (wm:WfMsg m) (hnow:now<=MaxT) (he:Ents w A o m.ents) (hc:m.ents.length<=c) (hA:∀ b,A b->¬N b/\b<hs w) (hol:outs.length<=1000):
  Calls Tryz.prog 42 #[.pointer (some ⟨p,0,none⟩),msgA m m.src m.term o c,.int .i64 (now:Int)] w fun e w'=>e=.returned (.tuple #[])/\∃ N' D' uns',NodeAt w' N' D' p t (receiveS s m now).1 uns' (outs++(receiveS s m now).2) (k+opV s m)/\Moves w w' N D N' D':=by
 have lt:=h.lt
 have hl:=wf.ll
 have hpr:=wm.prev
 have hcm:=wf.cm
 have hmc:=wm.com
 have hlen:=wm.len
 unfold MaxT at hpr hcm hmc
 obtain ⟨q,ops,dur,h1,h2,hrest⟩:=h.ex
 have L:=h1.len
 have hp:=h1.row.lt
 refine nf42 p m.kind m.src m.dst m.term m.prev m.prevTerm m.commit m.granted o m.ents.length c now w _ fun w1 e1 w3 e3=>?_
 have r1:Row w1 (hs w) 45 [.int .i64 (m.kind:Int),.int .i64 (m.src:Int),.int .i64 (m.dst:Int),.int .i64 (m.term:Int),.int .i64 (m.prev:Int),.int .i64 (m.prevTerm:Int),.int .i64 (m.commit:Int),.bool m.granted,.slice o m.ents.length c]:=Row.new (l:=[_,_,_,_,_,_,_,_,_]) e1
 have g1:Grow w w1:=only_alloc e1
 have g3:Grow w1 w3:=only_drew e3
 have G3:=g1.trans' g3
 have x3:=h1.grow G3
 have r3:=r1.grow g3
 have hne:¬hs w=p:=by omega
 refine ⟨_,r3.cell rfl,x3.there (by omega),fun w6 e6=>?_⟩
 obtain ⟨x6,o6⟩:=x3.cells (k:=11) (s':={ s with role:=1 }) (mm':=s.memb) (ma':=membAt s.log) (uns':=uns) e6 rfl rfl rfl rfl rfl x3.mem ⟨L.v,L.n,L.m⟩
 refine ⟨kept_only o6 r3.lt hne,x6.there (by omega),fun w8 e8=>?_⟩
 obtain ⟨x8,o8⟩:=x6.cells (k:=12) (s':={ s with role:=1,leader:=some m.src }) (mm':=s.memb) (ma':=membAt s.log) (uns':=uns) e8 rfl rfl rfl rfl rfl x6.mem ⟨L.v,L.n,L.m⟩
 refine ⟨x8.there (by omega),fun w10 e10=>?_⟩
 obtain ⟨x10,o10⟩:=x8.cells (k:=14) (s':=recvB s m now) (mm':=s.memb) (ma':=membAt s.log) (uns':=uns) e10 rfl rfl rfl rfl rfl x8.mem ⟨L.v,L.n,L.m⟩
 have O10:Only (fun b=>b=p) w3 w10:=(o6.trans' o8).trans' o10
 have r10:=r3.keep O10 hne
 have n10:NodeAt w10 N D p t (recvB s m now) uns outs k:=⟨q,ops,dur,x10,h2,hrest⟩
 have mv10:Moves w w10 N D N D:=(Moves.grow G3).trans (Moves.only O10 fun b hb=>(h2 b).2 (.inl hb))
 have wfR:=wf.recv hnow wm (m:=m)
 have zz:=mv10.o.size
 have he10:Ents w10 A o m.ents:=he.keep mv10.o fun b hb hN=>(hA b hb).1 hN
 refine ⟨_,r10.cell rfl,_,r10.cell rfl,_,r10.cell rfl,_,r10.cell rfl,_,r10.cell rfl,_,r10.cell rfl,_,r10.cell rfl,_,r10.cell rfl,_,_,_,r10.cell rfl,(matches_c (m:=m) n10 (wfR.up n10) (by omega) wm he10 (fun b hb=>by have:=(hA b hb).2;omega)).mono ?_⟩
 rintro _ w24 ⟨b,rfl,hb,g24⟩
 have n24:=n10.grow g24
 have r24:=r10.grow g24
 have mv24:=mv10.trans (Moves.grow g24)
 have z24:=g24.size
 refine ⟨_,rfl,fun hbt=>?_,fun hbf=>?_⟩
 ·have hm:matchesS s m:=hb.1 hbt
  have e:receiveS s m now=({ recvB s m now with log:=mergeL s.log m.prev m.ents,commit:=max s.commit (min m.commit (m.prev+m.ents.length)) },[⟨4,s.id,m.src,s.term,m.prev+m.ents.length,0,0,true,[]⟩]):=by unfold receiveS;rw [if_pos hm]
  rw [e]
  refine ⟨_,r24.cell rfl,_,r24.cell rfl,_,_,_,r24.cell rfl,(write_c (l:=m.ents) (prev:=m.prev) (tm:=m.prevTerm) n24 (wfR.up n24) (by omega) hm.1 wm.pt wm.len hc (he10.grow g24) (fun e he=>(wm.ents e he).1) wm.ups (fun b hb=>⟨(hA b hb).1,by have:=(hA b hb).2;omega⟩)).mono ?_⟩
  rintro _ w33 ⟨rfl,N1,D1,uns1,n33,mv33⟩
  have r33:=r24.keep mv33.o fun hb=>by have:=lt _ (.inl hb);omega
  refine ⟨_,rfl,bT ⟨_,r33.cell rfl,_,_,_,r33.cell rfl,fun w40 e40=>?_⟩⟩
  have g40:Grow w33 w40:=only_drew e40
  have n40:=n33.grow g40
  have r40:=r33.grow g40
  obtain ⟨q1,ops1,dur1,x40,k2,krest⟩:=n40.ex
  refine ⟨_,x40.cell (k:=13) (by omega) rfl,_,r40.cell rfl,x40.there (by omega),?_⟩
  have ew:IntKind.wrap .i64 ((m.prev:Int)+((m.ents.length:Nat):Int))=((m.prev+m.ents.length:Nat):Int):=by rw [wr (by omega)];omega
  rw [ew]
  intro w44 e44
  have ec:(if (s.commit:Int)<(if ((m.prev+m.ents.length:Nat):Int)<(m.commit:Int) then ((m.prev+m.ents.length:Nat):Int) else (m.commit:Int)) then (if ((m.prev+m.ents.length:Nat):Int)<(m.commit:Int) then ((m.prev+m.ents.length:Nat):Int) else (m.commit:Int)) else (s.commit:Int))=((max s.commit (min m.commit (m.prev+m.ents.length)):Nat):Int):=by
   split <;> split <;> omega
  have e44:w44=setCells w40 ⟨p,13,none⟩ [.int .i64 (if (s.commit:Int)<(if ((m.prev+m.ents.length:Nat):Int)<(m.commit:Int) then ((m.prev+m.ents.length:Nat):Int) else (m.commit:Int)) then (if ((m.prev+m.ents.length:Nat):Int)<(m.commit:Int) then ((m.prev+m.ents.length:Nat):Int) else (m.commit:Int)) else (s.commit:Int))] 0:=e44
  rw [ec] at e44
  obtain ⟨x44,o44⟩:=x40.cells (k:=13) (s':={ recvB s m now with log:=mergeL s.log m.prev m.ents,commit:=max s.commit (min m.commit (m.prev+m.ents.length)) }) (mm':=({ recvB s m now with log:=mergeL s.log m.prev m.ents }:PN).memb) (ma':=membAt (mergeL s.log m.prev m.ents)) (uns':=uns1) e44 rfl rfl rfl rfl rfl x40.mem ⟨L.v,L.n,L.m⟩
  have n44:NodeAt w44 N1 D1 p t { recvB s m now with log:=mergeL s.log m.prev m.ents,commit:=max s.commit (min m.commit (m.prev+m.ents.length)) } uns1 outs (k+opV s m):=by
   rw [show opV s m=newE s.log m.prev m.ents from if_pos hm]
   exact ⟨q1,ops1,dur1,x44,k2,krest⟩
  have r44:=r40.keep o44 hne
  refine ⟨_,r44.cell rfl,(send_c ⟨4,s.id,m.src,s.term,m.prev+m.ents.length,0,0,true,[]⟩ (src0:=0) (term0:=0) (oe:=none) (ce:=0) n44 hol rfl rfl (ents_nil _ _ _) (Nat.le_refl _)).mono ?_⟩
  rintro _ w48 ⟨rfl,N',n48,mv⟩
  exact ⟨rfl,rfl,N',D1,uns1,n48,(((mv24.trans mv33).trans (Moves.grow g40)).trans (Moves.only o44 fun b hb=>(k2 b).2 (.inl hb))).trans mv⟩
 ·have hm:¬matchesS s m:=fun hk=>by have:=hb.2 hk;rw [hbf] at this;cases this
  have e:receiveS s m now=(recvB s m now,[⟨4,s.id,m.src,s.term,min s.log.length (m.prev - 1),0,0,false,[]⟩]):=by unfold receiveS;rw [if_neg hm]
  rw [e]
  intro w51 e51
  have g51:Grow w24 w51:=only_drew e51
  have n51:=n24.grow g51
  have r51:=r24.grow g51
  refine ⟨_,r51.cell rfl,(lastIndex_c n51 (by show s.log.length<=100000;omega)).mono ?_⟩
  rintro _ w55 ⟨rfl,g55⟩
  have r55:=r51.grow g55
  have e0:IntKind.wrap .i64 ((m.prev:Int) - 1)=(m.prev:Int) - 1:=wr (by omega)
  have ep:(if (if IntKind.wrap .i64 ((m.prev:Int) - 1)<((recvB s m now).log.length:Int) then IntKind.wrap .i64 ((m.prev:Int) - 1) else ((recvB s m now).log.length:Int))<0 then 0 else (if IntKind.wrap .i64 ((m.prev:Int) - 1)<((recvB s m now).log.length:Int) then IntKind.wrap .i64 ((m.prev:Int) - 1) else ((recvB s m now).log.length:Int)))=((min s.log.length (m.prev - 1):Nat):Int):=by
   rw [e0]
   show (if (if (m.prev:Int) - 1<(s.log.length:Int) then (m.prev:Int) - 1 else (s.log.length:Int))<0 then 0 else (if (m.prev:Int) - 1<(s.log.length:Int) then (m.prev:Int) - 1 else (s.log.length:Int)))=_
   split <;> split <;> omega
  refine ⟨_,rfl,kept_only g55 r51.lt (fun h=>h),_,r55.cell rfl,?_⟩
  rw [ep]
  refine (send_c ⟨4,s.id,m.src,s.term,min s.log.length (m.prev - 1),0,0,false,[]⟩ (src0:=0) (term0:=0) (oe:=none) (ce:=0) (n51.grow g55) hol rfl rfl (ents_nil _ _ _) (Nat.le_refl _)).mono ?_
  rintro _ w59 ⟨rfl,N',n59,mv⟩
  exact ⟨rfl,rfl,N',D,uns,n59.up (by omega),((mv24.trans (Moves.grow g51)).trans (Moves.grow g55)).trans mv⟩
end
end Go.Proofs.YtcaokpglbolkcaaGreat
