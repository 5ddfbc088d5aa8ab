import Derived.Test.YtcaokpglbolkcaaGreatWx
namespace Go.Proofs.YtcaokpglbolkcaaGreat
open Go Go.Nf Go.RowKit
section
variable {w:World} {N D:Nat->Prop} {p t ma dur k:Nat} {s:PN} {mm:Memb} {ops:List Op} {uns:Bool} {outs:List Msg} {q:Ptrs}
theorem NodeX.logged (h:NodeX w D p t s mm ma ops dur uns outs q) {w':World} {L' D':Nat->Prop} {log':List Ent} (hl:LogAt w' L' D' q.lg log') (ho:Only q.L w w') (nL:∀ b,L' b->q.L b\/hs w<=b) (nD:∀ b,D' b->D b\/hs w<=b) (mD:∀ b,D b->D' b):
  NodeX w' D' p t { s with log:=log' } mm ma ops dur uns outs { q with L:=L' }/\Moves w w' (q.N p) D (({ q with L:=L' }:Ptrs).N p) D':=by
 have d:=h.dj
 have z:=ho.size
 have lt:=h.lt
 have hD:∀ b,D b->¬q.L b:=fun b hb k=>(h.ap b hb).1 (.inr (.inr (.inr (.inr (.inl k)))))
 have hap:∀ b,D' b->¬(({ q with L:=L' }:Ptrs).N p b)/\b<hs w':=fun b hb=>by
  have hlt:b<hs w':=(hl.ap b hb).2
  refine ⟨fun k=>?_,hlt⟩
  have old:b<hs w->D b:=fun hb'=>(nD b hb).elim id fun k=>by omega
  have key:q.N p b->False:=fun k=>by
   have:=lt b k
   exact (h.ap b (old this)).1 k
  rcases k with k | k | k | k | k | k
  ·exact key (.inl k)
  ·exact key (.inr (.inl k))
  ·exact key (.inr (.inr (.inl k)))
  ·exact key (.inr (.inr (.inr (.inl k))))
  ·exact (hl.ap b hb).1 k
  ·exact key (.inr (.inr (.inr (.inr (.inr k)))))
 refine ⟨⟨h.row.keep ho d.pL,⟨(h.jat.b.keep ho (fun b hb k=>d.JL b hb k) hD).more mD fun b hb=>⟨fun k=>(hap b hb).1 (.inr (.inr (.inl k))),(hap b hb).2⟩,h.jat.f.keep ho fun b hb k=>d.FL b hb k,fun b hb k=>(hap b hb).1 (.inr (.inr (.inr (.inl k))))⟩,h.vr.keep ho d.vL,hl,(h.ini.keep ho hD).mono mD,(h.mem.keep ho hD).mono mD,h.out.keep ho (fun b hb k=>d.Lo b k hb),h.mps,fun x hx=>⟨((h.ents x hx).1.keep ho hD).mono mD,(h.ents x hx).2⟩,hap,⟨h.len.v,h.len.n,h.len.m⟩⟩,ho.mono fun b _ hb=>.inr (.inr (.inr (.inr (.inl hb)))),fun b hb=>?_,nD,mD⟩
 rcases hb with k | k | k | k | k | k
 ·exact .inl (.inl k)
 ·exact .inl (.inr (.inl k))
 ·exact .inl (.inr (.inr (.inl k)))
 ·exact .inl (.inr (.inr (.inr (.inl k))))
 ·exact (nL b k).imp (fun k=>.inr (.inr (.inr (.inr (.inl k))))) id
 ·exact .inl (.inr (.inr (.inr (.inr (.inr k)))))
def newE (log:List Ent):Nat->List Ent->Nat
 | _,[]=>0
 | n,e::l=>if log[n]?=some e then newE log (n+1) l else l.length+1
theorem newE_le:∀ (log:List Ent) (n:Nat) (l:List Ent),newE log n l<=l.length
 | _,_,[]=>Nat.le_refl _
 | log,n,e::l=>by
  unfold newE
  have:=newE_le log (n+1) l
  rw [List.length_cons]
  split <;> omega
set_option maxHeartbeats 4000000 in
theorem write_c {A:Nat->Prop} {o2:Option Addr} {c2 prev tm:Nat} {l:List Ent} (h:NodeAt w N D p t s uns outs k) (wf:Wf s k) (hk:k<=90100) (hp:termAt s.log prev=some tm) (htm:tm<=MaxT) (hll:l.length<=16) (hc2:l.length<=c2) (he:Ents w A o2 l) (hok:∀ e∈l,OkEnt e) (hup:Ups tm l) (hA:∀ b,A b->¬N b/\b<hs w):
  Calls Tryz.prog 78 #[.pointer (some ⟨p,0,none⟩),.int .i64 (prev:Int),.int .i64 (tm:Int),.slice o2 l.length c2] w fun e w'=>e=.returned (.bool true)/\∃ N' D' uns',NodeAt w' N' D' p t { s with log:=mergeL s.log prev l } uns' outs (k+newE s.log prev l)/\Moves w w' N D N' D':=by
 have h0:=h
 obtain ⟨q,ops,dur,h1,h2,hh,hst,hol,hd1,hd2⟩:=h.ex
 obtain ⟨hpl,hpt⟩:=termAt_some hp
 have hlog:=wf.ll
 have hs8:∀ e∈s.log,e.body.length<=8192:=fun e he=>by have:=(wf.ent e he).1.b;omega
 have hsOk:∀ e∈s.log,OkEnt e:=fun e he=>(wf.ent e he).1
 have hA':∀ b,A b->¬q.N p b:=fun b hb k=>(hA b hb).1 ((h2 b).2 k)
 refine nf78 p prev tm o2 l.length c2 w _ ⟨fun k x w'=>∃ i:Nat,x=(i:Int)/\i<=l.length/\k=l.length - i/\mergeL s.log prev l=mergeL s.log (prev+i) (l.drop i)/\newE s.log prev l=newE s.log (prev+i) (l.drop i)/\prev+i<=s.log.length/\(∀ j,j<i->s.log[prev+j]?=l[j]?)/\Grow w w',⟨_,0,rfl,by omega,rfl,by simp,by simp,by omega,fun j hj=>absurd hj (by omega),Only.refl _ _⟩,?_⟩
 rintro k1 _ w5 x ⟨i,rfl,hi,rfl,hm,hne,hpi,hpre,g5⟩
 have x5:=h1.grow g5
 refine ⟨fun hlt=>?_,fun hge=>?_⟩
 ·have hlt:i<l.length:=by have:=dT hlt;omega
  have hat:=List.getElem?_eq_getElem hlt
  have hmemi:=List.getElem_mem hlt
  have hdi:l.drop i=l[i]::l.drop (i+1):=List.drop_eq_getElem_cons hlt
  have oki:=hok _ hmemi
  generalize hei:l[i]=ei at*
  obtain ⟨a,ob,cb,rfl,-,hc0,hc1,hc2',hbo⟩:=(he.grow g5).at hat
  have en:IntKind.wrap .i64 (IntKind.wrap .i64 ((prev:Int)+1)+(i:Int))=((prev+1+i:Nat):Int):=by rw [wr (x:=(prev:Int)+1) (by omega),wr (by omega)];omega
  rw [en]
  refine ⟨a,rfl,⟨by omega,by omega⟩,_,hc0,_,hc1,_,_,_,hc2',(same_c (e:=ei) (c:=cb) x5 (by omega) (by omega) hs8 hbo (fun b hb=>by have:=(hA b hb).2;have:=g5.size;omega)).mono ?_⟩
  rintro _ w16 ⟨rfl,g16⟩
  rw [show prev+1+i - 1=prev+i from by omega]
  have G16:=g5.trans' g16
  refine ⟨_,rfl,fun heq=>?_,fun hnq=>no (by omega) ⟨⟨by omega,by omega⟩,?_⟩⟩
  ·have heq:=of_decide_eq_true heq
   refine ⟨_,by omega,i+1,by rw [wr (by omega)];omega,hlt,rfl,?_,?_,?_,fun j hj=>?_,G16⟩
   ·rw [hm,hdi,mergeL,if_pos heq];rfl
   ·rw [hne,hdi,newE,if_pos heq];rfl
   ·have:=(List.getElem?_eq_some_iff.1 heq).1;omega
   ·by_cases e:j=i
    ·subst e;rw [heq,hat]
    ·exact hpre j (by omega)
  ·have hnq:=of_decide_eq_false hnq
   have hcount:newE s.log prev l=l.length - i:=by rw [hne,hdi,newE,if_neg hnq,List.length_drop];omega
   have hmerge:mergeL s.log prev l=s.log.take (prev+i)++l.drop i:=by rw [hm,hdi,mergeL,if_neg hnq]
   have x16:=x5.grow g16
   have he16:=he.grow G16
   have htl:(s.log.take (prev+i)).length=prev+i:=by rw [List.length_take];omega
   have hdl:(l.drop i).length=l.length - i:=List.length_drop
   have zG:=G16.size
   refine ⟨fun k x w'=>∃ (m:Nat) (q':Ptrs) (ops':List Op) (D':Nat->Prop) (dur':Nat) (uns':Bool),x=(m:Int)/\m<=l.length - i/\k=l.length - i - m/\NodeX w' D' p t s s.memb (membAt s.log) ops' dur' uns' outs q'/\Hist ops'/\st ops'=⟨s.term,s.voted,if m=0 then s.log else s.log.take (prev+i)++(l.drop i).take m⟩/\ops'.length<=k+m+(ops.length - k)/\ops'.length<=ops.length+m/\dur'<=(encFrom sum0 (ops'.map recOf)).length/\(uns'=false->dur'=(encFrom sum0 (ops'.map recOf)).length)/\Moves w w' (q.N p) D (q'.N p) D',⟨_,0,q,ops,D,dur,uns,rfl,by omega,rfl,x16,hh,by rw [if_pos rfl];exact hst,by omega,by omega,hd1,hd2,Moves.grow G16⟩,?_⟩
   rintro k23 _ w27 x ⟨m,q',ops',D',dur',uns',rfl,hmi,rfl,x27,hh',hst',-,hol',hd1',hd2',mv⟩
   have zmv:=mv.o.size
   have heo:Ents w27 A (if c2=i then some a else (some a).map fun x=>x.add (i*3)) (l.drop i):=(he.off hc2).keep mv.o hA'
   have hA27:∀ b,A b->¬q'.N p b:=fun b hb k=>(mv.n b k).elim (hA' b hb) fun k=>by have:=(hA b hb).2;omega
   rw [toNat_cast]
   refine ⟨fun hlt2=>?_,fun hge2=>?_⟩
   ·have hlt2:m<(l.drop i).length:=by have:=dT hlt2;omega
    have hat2:=List.getElem?_eq_getElem hlt2
    have htk2:=List.take_succ_eq_append_getElem hlt2
    have hlm:(l.drop i)[m]?=l[i+m]?:=List.getElem?_drop
    have hmem2:=List.mem_of_mem_drop (List.getElem_mem hlt2)
    generalize (l.drop i)[m]=e at*
    have oke:=hok e hmem2
    have hupe:=hup (i+m) e (by rw [<- hlm];exact hat2)
    obtain ⟨a2,ob2,cb2,ha2,-,d0,d1,d2,hbo2⟩:=heo.at hat2
    refine ⟨a2,ha2,⟨by omega,by omega⟩,_,d0,_,d1,_,_,_,d2,fun w37 e37=>⟨(Row.new (l:=[_,_,_]) e37).there (by simp),fun w39 e39 w41 e41=>?_⟩⟩
    obtain ⟨r39,g39⟩:=loc (l:=[_,_,_]) (vs:=[.int .i64 (e.term:Int),.int .i64 (e.kind:Int),.slice ob2 e.body.length cb2]) e37 e39 rfl
    have z39:=g39.size
    have lr39:=r39.lt
    have g41:Grow w39 w41:=only_alloc e41
    have z41:=hs_alloc e41
    have en2:IntKind.wrap .i64 (((prev+1+i:Nat):Int)+(m:Int))=((prev+1+i+m:Nat):Int):=by rw [wr (by omega)];omega
    rw [en2]
    refine (wIntM_c (wrM_new e41) (prev+1+i+m) (by omega) (by simp)).mono ?_
    rintro _ w44 ⟨rfl,M44,m44,o44,n44⟩
    rw [List.nil_append] at m44
    have z44:=o44.size
    have r44:=(r39.grow g41).keep o44 (by omega)
    have li:=encI_len (prev+1+i+m)
    have hbo44:Byts w44 A ob2 e.body:=((hbo2.grow g39).grow g41).keep o44 fun b hb eb=>by have:=(hA b hb).2;omega
    have hAM:∀ b,A b->¬M44 b/\b<hs w44:=fun b hb=>by
     have:=(hA b hb).2
     refine ⟨fun k=>?_,by omega⟩
     rcases n44 b k with k | k <;> omega
    refine ⟨rfl,_,r44.cell rfl,_,r44.cell rfl,_,_,_,r44.cell rfl,(writeEntry_c (c:=cb2) m44 oke hbo44 hAM (by omega)).mono ?_⟩
    rintro _ w51 ⟨rfl,M51,m51,o51,n51⟩
    have z51:=o51.size
    refine ⟨rfl,fun w52 e52=>?_⟩
    have g52:Grow w51 w52:=only_drew e52
    have M44hi:∀ b,M44 b->hs w27<=b:=fun b k=>by rcases n44 b k with k | k <;> omega
    have G52:Grow w27 w52:=((((g39.trans' g41).trans o44 fun b hb e=>by omega).trans o51 fun b hb e=>by have:=M44hi b e;omega).trans' g52)
    have z52:=G52.size
    have x52:=x27.grow G52
    have hel:=encE_len oke
    refine ⟨_,x52.cell (by omega) rfl,(encodedM_c (m51.grow g52) (by rw [List.length_append];omega)).mono ?_⟩
    rintro _ w56 ⟨g,rfl,rg,zg,g56⟩
    have x56:=x52.grow g56
    have G56:=G52.trans' g56
    have z56:=g56.size
    refine ⟨_,_,_,rfl,kept_only g56 x52.row.lt (fun h=>h),?_⟩
    obtain ⟨ld1,ld2⟩:=len_data hh' (by omega)
    have lt27:=x27.lt
    have hjf:=x56.jat.lt
    have hrec:(recOf (.e (prev+1+i+m) e)).body=encI (prev+1+i+m)++encE e:=rfl
    refine (jAppend_c (A:=fun b=>b=g) (o:=some ⟨g,0,none⟩) (c:=(encI (prev+1+i+m)++encE e).length) ⟨69,encI (prev+1+i+m)++encE e⟩ x56.jat ld2 (row_byts rg) (by show (encI (prev+1+i+m)++encE e).length<=8192;rw [List.length_append];omega) ld1 (fun b hb=>⟨by rw [hb];exact rg.lt,fun k=>by have:=lt27 b (.inr (.inr (.inl k)));omega,fun k=>by have:=lt27 b (.inr (.inr (.inr (.inl k))));omega⟩)).mono ?_
    rintro _ w61 ⟨rfl,J',F',D'',j61,o61,nJ,nF,nD,mD⟩
    have dj:=x56.dj
    obtain ⟨x61,mv61⟩:=x56.voted (o:=Op.e (prev+1+i+m) e) (s':=s) (T:=s.term) (v:=s.voted) (x56.vr.keep o61 fun k=>k.elim dj.vJ dj.vF) j61 (o61.mono fun b _ hb=>.inl hb) nJ nF nD mD rfl rfl rfl rfl rfl x56.len
    refine ⟨_,rfl,(ok_c x61).mono ?_⟩
    rintro _ w64 ⟨rfl,e64⟩
    have e64:=e64.symm
    subst e64
    refine ⟨_,rfl,bT ⟨x61.there (by omega),fun w67 e67=>?_⟩⟩
    obtain ⟨x67,o67⟩:=x61.cells (s':=s) (mm':=s.memb) (ma':=membAt s.log) (uns':=true) e67 (uns_row x61.len _ _ _ _ _ _) rfl rfl rfl rfl x61.mem x61.len
    have hst2:okOp (st ops') (.e (prev+1+i+m) e)/\stepOp (st ops') (.e (prev+1+i+m) e)=⟨s.term,s.voted,s.log.take (prev+i)++(l.drop i).take (m+1)⟩:=by
     rw [hst']
     by_cases hm0:m=0
     ·subst hm0
      rw [if_pos rfl]
      refine ⟨⟨by omega,by show prev+1+i+0<=s.log.length+1;omega,oke,fun y h1 hy=>?_⟩,?_⟩
      ·have hy:s.log[prev+1+i+0 - 2]?=some y:=hy
       by_cases hi0:i=0
       ·subst hi0
        have:prevT tm l 0=tm:=rfl
        rw [Nat.add_zero,this] at hupe
        rcases hpt with k | ⟨z,hz,hzt⟩
        ·omega
        ·rw [show prev+1+0+0 - 2=prev - 1 from by omega,hz] at hy
         cases hy;omega
       ·have h2:=hpre (i - 1) (by omega)
        rw [show prev+1+i+0 - 2=prev+(i - 1) from by omega,h2] at hy
        rw [Nat.add_zero,show i=(i - 1)+1 from by omega,prevT_succ hy] at hupe
        exact hupe
      ·show (⟨s.term,s.voted,s.log.take (prev+1+i+0 - 1)++[e]⟩:St)=_
       rw [show prev+1+i+0 - 1=prev+i from by omega,htk2];rfl
     ·rw [if_neg hm0]
      have hlen2:(s.log.take (prev+i)++(l.drop i).take m).length=prev+i+m:=by rw [List.length_append,htl,List.length_take];omega
      refine ⟨⟨by omega,by show prev+1+i+m<=(s.log.take (prev+i)++(l.drop i).take m).length+1;omega,oke,fun y h1 hy=>?_⟩,?_⟩
      ·have hy:(s.log.take (prev+i)++(l.drop i).take m)[prev+1+i+m - 2]?=some y:=hy
       rw [List.getElem?_append_right (by omega),htl,show prev+1+i+m - 2 - (prev+i)=m - 1 from by omega,List.getElem?_take,if_pos (by omega),List.getElem?_drop] at hy
       rw [show i+m=(i+(m - 1))+1 from by omega,prevT_succ hy] at hupe
       exact hupe
      ·show (⟨s.term,s.voted,(s.log.take (prev+i)++(l.drop i).take m).take (prev+1+i+m - 1)++[e]⟩:St)=_
       rw [List.take_of_length_le (by omega),htk2,List.append_assoc]
    refine ⟨_,by omega,m+1,_,ops'++[Op.e (prev+1+i+m) e],D'',dur',true,by rw [wr (by omega)];omega,by omega,rfl,x67,hh'.snoc hst2.1,?_,by rw [List.length_append];simp;omega,by rw [List.length_append];simp;omega,?_,fun k=>(by cases k),?_⟩
    ·rw [st_snoc,hst2.2,if_neg (by omega)]
    ·rw [List.map_append]
     show dur'<=(encFrom sum0 (ops'.map recOf++[recOf (.e (prev+1+i+m) e)])).length
     rw [encFrom_app,List.length_append];omega
    ·exact ((mv.trans (Moves.grow G56)).trans mv61).trans (Moves.only o67 fun b hb=>.inl hb)
   ·have hmm:m=l.length - i:=by have:=dF hge2;omega
    subst hmm
    have hfull:(l.drop i).take (l.length - i)=l.drop i:=List.take_of_length_le (by omega)
    rw [if_neg (by omega),hfull] at hst'
    refine ⟨_,x27.cell (by omega) rfl,?_⟩
    refine (appendAfter_c (A:=A) x27.log (by omega) hp htm (by omega) hc2 (he.keep mv.o hA') hok hup (fun b hb=>⟨fun k=>hA27 b hb (.inr (.inr (.inr (.inr (.inl k))))),by have:=(hA b hb).2;omega⟩)).mono ?_
    rintro _ w74 ⟨rfl,L',D2,l74,o74,nL,nD,mD⟩
    obtain ⟨x74,mv74⟩:=x27.logged l74 o74 nL nD mD
    have mvA:=mv.trans mv74
    have zA:=mvA.o.size
    refine ⟨_,_,rfl,bT ((ok_c x74).mono ?_)⟩
    rintro _ w79 ⟨rfl,e79⟩
    have e79:=e79.symm
    subst e79
    rw [hmerge] at x74
    generalize hlog':s.log.take (prev+i)++l.drop i=log' at*
    have hl'len:log'.length=prev+l.length:=by rw [<- hlog',List.length_append,htl,hdl];omega
    have hl'take:log'.take (prev+i)=s.log.take (prev+i):=by rw [<- hlog',List.take_append_of_le_length (by omega),List.take_of_length_le (by omega)]
    have hl'at:∀ m,m<l.length - i->log'[prev+i+m]?=(l.drop i)[m]?:=fun m hm=>by rw [<- hlog',List.getElem?_append_right (by omega),htl];congr 1;omega
    have hl'ok:∀ e∈log',OkEnt e:=fun e he=>by
     rw [<- hlog'] at he
     rcases List.mem_append.1 he with h | h
     ·exact hsOk e (List.mem_of_mem_take h)
     ·exact hok e (List.mem_of_mem_drop h)
    refine ⟨_,rfl,bT fun k82 hk82=>?_⟩
    have loop3:∀ (w84:World) (q3:Ptrs) (D3:Nat->Prop),NodeX w84 D3 p t { s with log:=log' } (cfg mbOf s.init (log'.take (prev+i))) (membAt (log'.take (prev+i))) ops' dur' uns' outs q3->Moves w w84 (q.N p) D (q3.N p) D3->k82 w84:=by
     intro w84 q3 D3 x84 mv84
     refine hk82 w84 fun _=>⟨⟨by omega,by omega⟩,fun k x w'=>∃ (m:Nat) (q4:Ptrs) (D4:Nat->Prop),x=(m:Int)/\m<=l.length - i/\k=l.length - i - m/\NodeX w' D4 p t { s with log:=log' } (cfg mbOf s.init (log'.take (prev+i+m))) (membAt (log'.take (prev+i+m))) ops' dur' uns' outs q4/\Moves w w' (q.N p) D (q4.N p) D4,⟨_,0,q3,D3,rfl,by omega,rfl,x84,mv84⟩,?_⟩
     rintro k87 _ w91 x ⟨m,q4,D4,rfl,hm4,rfl,x91,mv91⟩
     have z91:=mv91.o.size
     refine ⟨fun hlt4 k95 hk95=>?_,fun hge4=>?_⟩
     ·have hlt4:m<(l.drop i).length:=by have:=dT hlt4;omega
      have hat4:=List.getElem?_eq_getElem hlt4
      have hmem4:=List.mem_of_mem_drop (List.getElem_mem hlt4)
      generalize (l.drop i)[m]=e at*
      have oke:=hok e hmem4
      have hsn:log'.take (prev+i+(m+1))=log'.take (prev+i+m)++[e]:=take_snoc (n:=prev+i+m) ((hl'at m (by omega)).trans hat4)
      have hlk:(log'.take (prev+i+m)).length+1=prev+1+i+m:=by rw [List.length_take];omega
      obtain ⟨a4,ob4,cb4,ha4,-,d0,d1,d2,hbo4⟩:=((he.off hc2).keep mv91.o hA').at hat4
      refine ⟨a4,ha4,⟨by omega,by omega⟩,_,d0,_,d1,_,_,_,d2,fun w107 e107=>⟨(Row.new (l:=[_,_,_]) e107).there (by simp),fun w109 e109=>?_⟩⟩
      obtain ⟨r109,g109⟩:=loc (l:=[_,_,_]) (vs:=[.int .i64 (e.term:Int),.int .i64 (e.kind:Int),.slice ob4 e.body.length cb4]) e107 e109 rfl
      have z109:=g109.size
      refine ⟨_,r109.cell rfl,_,r109.cell rfl,_,_,_,r109.cell rfl,(membershipOf_c (c:=cb4) oke w109 (hbo4.grow g109) (fun b hb=>by have:=(hA b hb).2;omega)).mono ?_⟩
      rintro _ w117 ⟨g117,hcase⟩
      have z117:=g117.size
      have G117:=g109.trans' g117
      have next:∀ (w97:World) (q5:Ptrs) (D5:Nat->Prop),NodeX w97 D5 p t { s with log:=log' } (cfg mbOf s.init (log'.take (prev+i+(m+1)))) (membAt (log'.take (prev+i+(m+1)))) ops' dur' uns' outs q5->Moves w w97 (q.N p) D (q5.N p) D5->k95 w97:=fun w97 q5 D5 x97 mv97=>hk95 w97 fun _=>⟨_,by omega,m+1,q5,D5,by rw [wr (by omega)];omega,by omega,rfl,x97,mv97⟩
      rcases hcase with ⟨hm0,a1,a2,a3,a4',a5,a6,rfl⟩ | ⟨cc,p1,k1,p2,k2,hm1,hpc,rfl,m117⟩
      ·refine ⟨_,_,_,_,_,_,_,rfl,bF fun w141 e141=>⟨(Row.new (l:=[_,_]) e141).there (by simp),fun w143 e143=>?_⟩⟩
       obtain ⟨-,g143⟩:=loc (l:=[_,_]) (vs:=[_,_]) e141 e143 rfl
       obtain ⟨c1,c2⟩:=cfg_snoc_none (init:=s.init) (l:=log'.take (prev+i+m)) hm0
       rw [<- hsn] at c1 c2
       refine next w143 q4 D4 ?_ (mv91.trans (Moves.grow (G117.trans' g143)))
       rw [c1,c2]
       exact x91.grow (G117.trans' g143)
      ·refine ⟨_,_,_,_,_,_,_,rfl,bT fun w126 e126=>⟨(Row.new (l:=[_,_]) e126).there (by simp),fun w128 e128=>?_⟩⟩
       obtain ⟨r128,g128⟩:=loc (l:=[_,_]) (vs:=[.slice p1 cc.old.length k1,.slice p2 cc.new.length k2]) e126 e128 rfl
       have G128:=G117.trans' g128
       have z128:=g128.size
       have x128:=x91.grow G128
       obtain ⟨c1,c2⟩:=cfg_snoc (init:=s.init) (l:=log'.take (prev+i+m)) hm1
       rw [<- hsn] at c1 c2
       rw [hlk] at c2
       refine ⟨_,_,_,r128.cell rfl,_,_,_,r128.cell rfl,x128.there (by omega),fun w136 e136=>?_⟩
       have hD':∀ b,(D4 b\/(hs w91<=b/\b<hs w128))->¬q4.N p b/\b<hs w128:=fun b hb=>by
        rcases hb with hb | hb
        ·exact x128.ap b hb
        ·exact ⟨fun k=>by have:=x91.lt b k;omega,hb.2⟩
       have en4:IntKind.wrap .i64 (((prev+1+i:Nat):Int)+(m:Int))=((prev+1+i+m:Nat):Int):=by rw [wr (by omega)];omega
       rw [en4]
       have key:=fun w138 e138=>x128.setMemb (c:=cc) (k1:=k1) (k2:=k2) (n:=prev+1+i+m) (w2:=w138) (D':=fun b=>D4 b\/(hs w91<=b/\b<hs w128)) (fun b hb=>.inl hb) hD' ((m117.grow g128).mono fun b hb=>.inr ⟨by omega,by omega⟩) e136 e138
       refine ⟨(key _ rfl).1,fun w138 e138=>?_⟩
       obtain ⟨-,x138,o138⟩:=key w138 e138
       refine next w138 { q4 with om1:=p1,cm1:=k1,om2:=p2,cm2:=k2 } (fun b=>D4 b\/(hs w91<=b/\b<hs w128)) (by rw [c1,c2];exact x138) (mv91.trans ⟨?_,fun b hb=>.inl hb,fun b hb=>hb.imp id fun k=>k.1,fun b hb=>.inl hb⟩)
       exact (Grow.only G128).trans' (o138.mono fun b _ hb=>.inl hb)
     ·have:m=l.length - i:=by have:=dF hge4;omega
      subst this
      rw [show prev+i+(l.length - i)=log'.length from by omega,List.take_length] at x91
      refine ⟨rfl,q4.N p,D4,uns',⟨q4,ops',dur',?_,fun b=>Iff.rfl,hh',?_,by omega,hd1',hd2'⟩,mv91.iff h2⟩
      ·rw [hmerge];exact x91
      ·rw [hmerge];exact hst'
    refine ⟨_,x74.cell (by omega) rfl,?_⟩
    refine ⟨fun hge5=>?_,fun hlt5=>?_⟩
    ·have en5:IntKind.wrap .i64 (((prev+1+i:Nat):Int) - 1)=((prev+i:Nat):Int):=by rw [wr (by omega)];omega
     rw [en5]
     refine (findMembership_c x74 (by show log'.length<=100000;omega) (by show prev+i<=log'.length;omega) hl'ok wf.ini).mono ?_
     rintro _ w149 ⟨rfl,D6,p1,k1,p2,k2,x149,o149,nD6,mD6⟩
     refine ⟨rfl,loop3 w149 _ _ x149 (mvA.trans ⟨o149.mono fun b _ hb=>.inl hb,fun b hb=>.inl hb,nD6,mD6⟩)⟩
    ·have hlt5:membAt s.log<=prev+i:=by have:=dF hlt5;omega
     obtain ⟨c1,c2⟩:=cfg_take (init:=s.init) hlt5
     refine loop3 w74 _ _ ?_ mvA
     rw [hl'take,c1,c2]
     exact x74
 ·have:i=l.length:=by have:=dF hge;omega
  subst this
  have hmm:mergeL s.log prev l=s.log:=by rw [hm,List.drop_length];rfl
  refine yes rfl ⟨rfl,N,D,uns,?_,Moves.grow g5⟩
  rw [hmm]
  have hcount:newE s.log prev l=0:=by rw [hne,List.drop_length];rfl
  exact ⟨q,ops,dur,x5,h2,hh,hst,by omega,hd1,hd2⟩
end
end Go.Proofs.YtcaokpglbolkcaaGreat
