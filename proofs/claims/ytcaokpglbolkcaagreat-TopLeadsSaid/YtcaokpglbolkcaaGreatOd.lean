import Derived.Test.YtcaokpglbolkcaaGreatOc
namespace Go.Proofs.YtcaokpglbolkcaaGreat
open Go Go.Nf Go.RowKit
section
variable {w:World} {N D A:Nat->Prop} {p t ma dur k:Nat} {s:PN} {mm:Memb} {ops:List Op} {uns:Bool} {outs:List Msg} {q:Ptrs} {m:Msg} {o:Option Addr} {c now:Nat}
theorem getD_set {l:List Nat} {i:Nat} (x u:Nat):(l.set i x).getD u 0=if i=u/\u<l.length then x else l.getD u 0:=set_getD l i u x 0
theorem Wf0.back (h:Wf0 s k) (m:Msg):Wf0 (backS s m) k:=by
 refine { h with nx:=fun u=>?_,nx1:=fun hr u hu=>?_,ln:=by show (s.next.set _ _).length=9;rw [List.length_set];exact h.ln }
 ·show (s.next.set m.src (max (min (s.next.getD m.src 0 - 1) (m.prev+1)) 1)).getD u 0<=k+1
  rw [getD_set]
  have:=h.nx m.src
  have:=h.nx u
  split <;> omega
 ·show 1<=(s.next.set m.src (max (min (s.next.getD m.src 0 - 1) (m.prev+1)) 1)).getD u 0
  rw [getD_set]
  have:=h.nx1 hr u hu
  split <;> omega
theorem Wf0.matched (h:Wf0 s k) {m:Msg} (hp:m.prev<=s.log.length):Wf0 (matchS s m) k:=by
 have hl:=h.ll
 have hm:=h.mt m.src
 refine { h with nx:=fun u=>?_,nx1:=fun hr u hu=>?_,mt:=fun u=>?_,ln:=by show (s.next.set _ _).length=9;rw [List.length_set];exact h.ln,lm:=by show (s.mtch.set _ _).length=9;rw [List.length_set];exact h.lm }
 ·show (s.next.set m.src (max (s.mtch.getD m.src 0) m.prev+1)).getD u 0<=k+1
  rw [getD_set]
  have:=h.nx u
  split <;> omega
 ·show 1<=(s.next.set m.src (max (s.mtch.getD m.src 0) m.prev+1)).getD u 0
  rw [getD_set]
  have:=h.nx1 hr u hu
  split <;> omega
 ·show (s.mtch.set m.src (max (s.mtch.getD m.src 0) m.prev)).getD u 0<=k
  rw [getD_set]
  have:=h.mt u
  split <;> omega
set_option maxHeartbeats 1000000 in
theorem replied_c (h:NodeAt w N D p t s uns outs k) (wf:Wf0 s k) (hk:k<=90000) (wm:WfMsg m) (hr:s.role=3) (ht1:1<=s.term) (hol:outs.length<=900):
  Calls Tryz.prog 45 #[.pointer (some ⟨p,0,none⟩),msgA m m.src m.term o c] w fun e w'=>e=.returned (.tuple #[])/\∃ N' D' uns',NodeAt w' N' D' p t (repliedS s m).1 uns' (outs++(repliedS s m).2) (k+opA s)/\Moves w w' N D N' D':=by
 have lt:=h.lt
 have hl:=wf.ll
 have hpr:=wm.prev
 have hsrc:=wm.src
 have hnx:=wf.nx m.src
 have hmt:=wf.mt m.src
 unfold MaxT at hpr
 obtain ⟨q,ops,dur,h1,h2,hrest⟩:=h.ex
 have L:=h1.len
 have hp:=h1.row.lt
 have hne:¬hs w=p:=by omega
 refine nf45 p m.kind m.src m.dst m.term m.prev m.prevTerm m.commit m.granted o m.ents.length c w _ fun w1 e1=>?_
 have r1:Row w1 (hs w) 45 [.int .i64 (m.kind:Int),.int .i64 (m.src:Int),.int .i64 (m.dst:Int),.int .i64 (m.term:Int),.int .i64 (m.prev:Int),.int .i64 (m.prevTerm:Int),.int .i64 (m.commit:Int),.bool m.granted,.slice o m.ents.length c]:=Row.new (l:=[_,_,_,_,_,_,_,_,_]) e1
 have g1:Grow w w1:=only_alloc e1
 have s9:(0:Int)<=(m.src:Int)/\(m.src:Int)<9:=⟨by omega,by omega⟩
 refine ⟨_,r1.cell rfl,fun hg w5 e5=>?_,fun hg w55 e55=>?_⟩
 ·have g5:Grow w1 w5:=only_drew e5
  have G5:=g1.trans' g5
  have r5:=r1.grow g5
  refine ⟨_,r5.cell rfl,(lastIndex_c (h.grow G5) (by omega)).mono ?_⟩
  rintro _ w9 ⟨rfl,g9⟩
  have r9:=r5.grow g9
  have G9:=G5.trans' g9
  refine ⟨_,rfl,kept_only g9 r5.lt (fun h=>h),fun hgt=>?_,fun hle=>?_⟩
  ·have hgt:s.log.length<m.prev:=by have:=dT hgt;omega
   have e:repliedS s m=(s,[]):=by unfold repliedS;rw [if_neg (by rw [hg];decide),if_pos hgt]
   rw [e,List.append_nil]
   exact ⟨rfl,N,D,uns,(h.grow G9).up (by omega),Moves.grow G9⟩
  ·have hle:m.prev<=s.log.length:=by have:=dF hle;omega
   have e:repliedS s m=(if (advS (matchS s m)).role≠3 then (advS (matchS s m),[]) else if s.commit<(advS (matchS s m)).commit then (advS (matchS s m),sendAll (advS (matchS s m))) else if (advS (matchS s m)).next.getD m.src 0<=(advS (matchS s m)).log.length then (advS (matchS s m),[sendAppendS (advS (matchS s m)) m.src]) else (advS (matchS s m),[])):=by
    unfold repliedS
    rw [if_neg (by rw [hg];decide),if_neg (by omega)]
   rw [e]
   intro w13 e13
   have g13:Grow w9 w13:=only_drew e13
   have x13:=h1.grow (G9.trans' g13)
   have r13:=r9.grow g13
   refine ⟨_,r13.cell rfl,_,r13.cell rfl,s9,_,x13.cellMtch hsrc,_,r13.cell rfl,s9,?_,fun w19 e19=>?_⟩
   ·rw [Addr.add_lit,toNat_cast,Nat.mul_one];exact x13.there (by omega)
   rw [Addr.add_lit,toNat_cast,Nat.mul_one,show (if ((s.mtch.getD m.src 0:Nat):Int)<(m.prev:Int) then (m.prev:Int) else ((s.mtch.getD m.src 0:Nat):Int))=((max (s.mtch.getD m.src 0) m.prev:Nat):Int) from by split <;> omega] at e19
   obtain ⟨x19,o19⟩:=x13.cells (k:=35+m.src) (s':={ s with mtch:=s.mtch.set m.src (max (s.mtch.getD m.src 0) m.prev) }) (mm':=s.memb) (ma':=membAt s.log) (uns':=uns) e19 (mtch_at L s.memb (membAt s.log) uns outs.length q hsrc _) rfl rfl rfl rfl x13.mem ⟨L.v,L.n,by show (s.mtch.set _ _).length=9;rw [List.length_set];exact L.m⟩
   intro w21 e21
   have g21:Grow w19 w21:=only_drew e21
   have x21:=x19.grow g21
   have r21:=(r13.keep o19 hne).grow g21
   have hget:({ s with mtch:=s.mtch.set m.src (max (s.mtch.getD m.src 0) m.prev) }:PN).mtch.getD m.src 0=max (s.mtch.getD m.src 0) m.prev:=by
    show (s.mtch.set m.src _).getD m.src 0=_
    rw [getD_set,if_pos ⟨rfl,by rw [L.m];exact hsrc⟩]
   have c21:=x21.cellMtch hsrc
   rw [hget] at c21
   refine ⟨_,r21.cell rfl,_,r21.cell rfl,s9,_,c21,s9,?_,fun w26 e26=>?_⟩
   ·rw [Addr.add_lit,toNat_cast,Nat.mul_one];exact x21.there (by omega)
   rw [Addr.add_lit,toNat_cast,Nat.mul_one,show IntKind.wrap .i64 (((max (s.mtch.getD m.src 0) m.prev:Nat):Int)+1)=((max (s.mtch.getD m.src 0) m.prev+1:Nat):Int) from by rw [wr (by omega)];omega] at e26
   obtain ⟨x26,o26⟩:=x21.cells (k:=26+m.src) (s':=matchS s m) (mm':=s.memb) (ma':=membAt s.log) (uns':=uns) e26 (next_at x21.len s.memb (membAt s.log) uns outs.length q hsrc _) rfl rfl rfl rfl x21.mem ⟨L.v,by show (s.next.set _ _).length=9;rw [List.length_set];exact L.n,x21.len.m⟩
   have r26:=r21.keep o26 hne
   have n26:NodeAt w26 N D p t (matchS s m) uns outs k:=⟨q,ops,dur,x26,h2,hrest⟩
   have mv26:Moves w w26 N D N D:=(((Moves.grow (G9.trans' g13)).trans (Moves.only o19 fun b hb=>(h2 b).2 (.inl hb))).trans (Moves.grow g21)).trans (Moves.only o26 fun b hb=>(h2 b).2 (.inl hb))
   have wfM:=wf.matched hle
   refine ⟨_,x26.cell (k:=13) (by omega) rfl,(adv_c n26 (wfM.up n26) (by omega) ht1).mono ?_⟩
   rintro _ w30 ⟨rfl,N1,D1,uns1,n30,mv30⟩
   have eO:opA (matchS s m)=opA s:=rfl
   have wfA:Wf0 (advS (matchS s m)) (k+opA s):=wfM.advO (by omega)
   have o16:opA s<=16:=by unfold opA;split <;> omega
   rw [eO] at n30
   have r30:=r26.keep mv30.o fun hb=>by have:=lt _ (.inl hb);omega
   have mvA:=mv26.trans mv30
   have ecm:(matchS s m).commit=s.commit:=rfl
   have hn1:(advS (matchS s m)).role=3->∀ u,u<9->1<=(advS (matchS s m)).next.getD u 0:=fun e=>wfA.nx1 e
   generalize advS (matchS s m)=S at*
   obtain ⟨q1,ops1,dur1,x30,k2,krest⟩:=n30.ex
   have hlS:=wfA.ll
   refine ⟨_,rfl,bT ⟨_,x30.cell (k:=11) (by omega) rfl,fun hro=>?_,fun hro=>⟨_,x30.cell (k:=13) (by omega) rfl,fun hcg=>?_,fun hcl=>?_⟩⟩⟩
   ·have hro:S.role≠3:=by have:=nT hro;intro k;exact this (by rw [k];rfl)
    rw [if_pos hro,List.append_nil]
    exact ⟨rfl,N1,D1,uns1,n30,mvA⟩
   ·have hro:S.role=3:=by have:=nF hro;have:(S.role:Int)=3:=this;omega
    have hcg:s.commit<S.commit:=by have:=dT hcg;rw [ecm] at this;omega
    rw [if_neg (by omega),if_pos hcg]
    refine (sendAppends_c n30 (wfA.up n30) (by omega) (hn1 hro) (by omega)).mono ?_
    rintro _ w39 ⟨rfl,N2,D2,n39,mv39⟩
    exact ⟨rfl,rfl,N2,D2,uns1,n39,mvA.trans mv39⟩
   ·have hro:S.role=3:=by have:=nF hro;have:(S.role:Int)=3:=this;omega
    have hcl:¬s.commit<S.commit:=by have:=dF hcl;rw [ecm] at this;omega
    rw [if_neg (by omega),if_neg hcl]
    intro w41 e41
    have g41:Grow w30 w41:=only_drew e41
    have x41:=x30.grow g41
    have r41:=r30.grow g41
    refine ⟨_,r41.cell rfl,s9,_,x41.cellNext hsrc,(lastIndex_c (n30.grow g41) (by omega)).mono ?_⟩
    rintro _ w46 ⟨rfl,g46⟩
    have r46:=r41.grow g46
    refine ⟨_,rfl,?_,kept_only g46 r41.lt (fun h=>h),fun hnl=>?_,fun hnl=>?_⟩
    ·rw [Addr.add_lit];exact kept_only g46 x41.row.lt (fun h=>h)
    ·have hnl:S.next.getD m.src 0<=S.log.length:=by have:=dT hnl;omega
     rw [if_pos hnl]
     refine ⟨_,r46.cell rfl,(sendAppend_c ((n30.grow g41).grow g46) (wfA.up n30) (by omega) (hn1 hro _ hsrc) hsrc (by omega)).mono ?_⟩
     rintro _ w51 ⟨rfl,N2,D2,n51,mv51⟩
     exact ⟨rfl,rfl,N2,D2,uns1,n51,(mvA.trans (Moves.grow (g41.trans' g46))).trans mv51⟩
    ·have hnl:¬S.next.getD m.src 0<=S.log.length:=by have:=dF hnl;omega
     rw [if_neg hnl,List.append_nil]
     exact ⟨rfl,N1,D1,uns1,(n30.grow g41).grow g46,mvA.trans (Moves.grow (g41.trans' g46))⟩
 ·have g55:Grow w1 w55:=only_drew e55
  have x55:=h1.grow (g1.trans' g55)
  have r55:=r1.grow g55
  have h1n:=wf.nx1 hr m.src hsrc
  have e:repliedS s m=(backS s m,[sendAppendS (backS s m) m.src]):=by unfold repliedS;rw [if_pos hg]
  rw [e]
  refine ⟨_,r55.cell rfl,_,r55.cell rfl,s9,_,x55.cellNext hsrc,_,r55.cell rfl,s9,?_,fun w61 e61=>?_⟩
  ·rw [Addr.add_lit,toNat_cast,Nat.mul_one];exact x55.there (by omega)
  have ev:(if (if IntKind.wrap .i64 ((m.prev:Int)+1)<IntKind.wrap .i64 (((s.next.getD m.src 0:Nat):Int) - 1) then IntKind.wrap .i64 ((m.prev:Int)+1) else IntKind.wrap .i64 (((s.next.getD m.src 0:Nat):Int) - 1))<1 then 1 else (if IntKind.wrap .i64 ((m.prev:Int)+1)<IntKind.wrap .i64 (((s.next.getD m.src 0:Nat):Int) - 1) then IntKind.wrap .i64 ((m.prev:Int)+1) else IntKind.wrap .i64 (((s.next.getD m.src 0:Nat):Int) - 1)))=((max (min (s.next.getD m.src 0 - 1) (m.prev+1)) 1:Nat):Int):=by
   rw [wr (x:=(m.prev:Int)+1) (by omega),wr (x:=((s.next.getD m.src 0:Nat):Int) - 1) (by omega)]
   split <;> split <;> omega
  rw [ev,Addr.add_lit,toNat_cast,Nat.mul_one] at e61
  obtain ⟨x61,o61⟩:=x55.cells (k:=26+m.src) (s':=backS s m) (mm':=s.memb) (ma':=membAt s.log) (uns':=uns) e61 (next_at L s.memb (membAt s.log) uns outs.length q hsrc _) rfl rfl rfl rfl x55.mem ⟨L.v,by show (s.next.set _ _).length=9;rw [List.length_set];exact L.n,L.m⟩
  have r61:=r55.keep o61 hne
  have n61:NodeAt w61 N D p t (backS s m) uns outs k:=⟨q,ops,dur,x61,h2,hrest⟩
  have wfB:=wf.back m
  refine ⟨_,r61.cell rfl,(sendAppend_c n61 (wfB.up n61) (by omega) (wfB.nx1 hr _ hsrc) hsrc (by omega)).mono ?_⟩
  rintro _ w65 ⟨rfl,N2,D2,n65,mv65⟩
  exact ⟨rfl,rfl,N2,D2,uns,n65.up (by omega),((Moves.grow (g1.trans' g55)).trans (Moves.only o61 fun b hb=>(h2 b).2 (.inl hb))).trans mv65⟩
end
end Go.Proofs.YtcaokpglbolkcaaGreat
