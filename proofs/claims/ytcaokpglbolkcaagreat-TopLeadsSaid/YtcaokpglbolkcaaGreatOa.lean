import Derived.Test.YtcaokpglbolkcaaGreatNz
namespace Go.Proofs.YtcaokpglbolkcaaGreat
open Go Go.Nf Go.RowKit
section
variable {w:World} {N D:Nat->Prop} {p t ma dur k:Nat} {s:PN} {mm:Memb} {ops:List Op} {uns:Bool} {outs:List Msg} {q:Ptrs}
def askS (s:PN) (to:Nat):Msg:=⟨1,s.id,to,s.term,s.log.length,lastT s.log,0,false,[]⟩
set_option maxHeartbeats 1000000 in
theorem start_c {now:Nat} (h:NodeAt w N D p t s uns outs k) (wf:Wf0 s k) (hk:k<=90000) (hnow:now<=MaxT) (hT:s.term+1<=MaxT) (hol:outs.length<=700):
  Calls Tryz.prog 32 #[.pointer (some ⟨p,0,none⟩),.int .i64 (now:Int)] w fun e w'=>e=.returned (.tuple #[])/\∃ N' D' uns',NodeAt w' N' D' p t (startS s now).1 uns' (outs++(startS s now).2) (k+50)/\Moves w w' N D N' D':=by
 obtain ⟨q,ops,dur,h1,h2,hh,hst,hol',hd1,hd2⟩:=h.ex
 obtain ⟨l1,l2⟩:=len_data hh (by omega)
 have hT':=hT
 unfold MaxT at hT'
 have L:=h1.len
 have hid:=wf.id
 have hl:=wf.ll
 refine nf32 p now w _ ⟨_,h1.cell (k:=4) (by omega) rfl,(term_c h1.vr).mono ?_⟩
 rintro _ w3 ⟨rfl,e3⟩
 have e3:=e3.symm
 subst e3
 have et:IntKind.wrap .i64 ((s.term:Int)+1)=((s.term+1:Nat):Int):=by rw [wr (by omega)];omega
 refine ⟨_,rfl,fun w5 e5=>?_⟩
 have g5:Grow w w5:=only_drew e5
 have x5:=h1.grow g5
 rw [et]
 refine no (by omega) ⟨_,x5.cell (k:=4) (by omega) rfl,_,x5.cell (k:=0) (by omega) rfl,(grant_c x5.jat x5.vr l2 l1 (by omega) hT hid (.inl (by omega)) (fun k=>(x5.ap _ k).1 (.inr (.inl rfl)))).mono ?_⟩
 rintro _ w12 ⟨rfl,hv,J',F',D',hj,ho,nJ,nF,nD,mD⟩
 obtain ⟨x12,m12⟩:=x5.voted (o:=.v (s.term+1) s.id) (s':={ s with term:=s.term+1,voted:=some s.id }) hv hj ho nJ nF nD mD rfl rfl rfl rfl rfl ⟨L.v,L.n,L.m⟩
 refine ⟨_,rfl,(ok_c x12).mono ?_⟩
 rintro _ w15 ⟨rfl,e15⟩
 have e15:=e15.symm
 subst e15
 refine ⟨_,rfl,bT ⟨x12.there (by omega),fun w18 e18=>?_⟩⟩
 obtain ⟨x18,o18⟩:=x12.cells (k:=11) (s':={ s with term:=s.term+1,voted:=some s.id,role:=2 }) (mm':=s.memb) (ma':=membAt s.log) (uns':=uns) e18 rfl rfl rfl rfl rfl x12.mem ⟨L.v,L.n,L.m⟩
 refine ⟨x18.there (by omega),fun w20 e20=>?_⟩
 obtain ⟨x20,o20⟩:=x18.cells (k:=12) (s':={ s with term:=s.term+1,voted:=some s.id,role:=2,leader:=none }) (mm':=s.memb) (ma':=membAt s.log) (uns':=uns) e20 rfl rfl rfl rfl rfl x18.mem ⟨L.v,L.n,L.m⟩
 refine ⟨x20.there (by omega),fun w22 e22=>?_⟩
 obtain ⟨x22,o22⟩:=x20.cells (k:=14) (s':={ s with term:=s.term+1,voted:=some s.id,role:=2,leader:=none,since:=now }) (mm':=s.memb) (ma':=membAt s.log) (uns':=uns) e22 rfl rfl rfl rfl rfl x20.mem ⟨L.v,L.n,L.m⟩
 refine ⟨x22.there (by omega),fun w24 e24 w26 e26=>?_⟩
 obtain ⟨x24,o24⟩:=x22.cells (k:=17) (s':={ s with term:=s.term+1,voted:=some s.id,role:=2,leader:=none,since:=now,votes:=List.replicate 9 false }) (mm':=s.memb) (ma':=membAt s.log) (uns':=uns) e24 (votes_row x22.len _ _ _ _ _ (l:=List.replicate 9 false) rfl) rfl rfl rfl rfl x22.mem ⟨rfl,L.n,L.m⟩
 have g26:Grow w24 w26:=only_drew e26
 have x26:=x24.grow g26
 refine ⟨_,x26.cell (k:=0) (by omega) rfl,⟨by show (0:Int)<=(s.id:Int);omega,by show (s.id:Int)<9;omega⟩,?_,fun w29 e29=>?_⟩
 ·show There w26 (Addr.add ⟨p,17,none⟩ ((s.id:Int).toNat*1)) 1
  rw [Addr.add_lit,toNat_cast,Nat.mul_one];exact x26.there (by omega)
 have e29:w29=setCells w26 (Addr.add ⟨p,17,none⟩ ((s.id:Int).toNat*1)) [.bool true] 0:=e29
 rw [Addr.add_lit,toNat_cast,Nat.mul_one] at e29
 obtain ⟨x29,o29⟩:=x26.cells (k:=17+s.id) (s':=startB s now) (mm':=s.memb) (ma':=membAt s.log) (uns':=uns) e29 (vote_at x24.len _ _ _ _ _ hid true) rfl rfl rfl rfl x26.mem ⟨by show ((List.replicate 9 false).set s.id true).length=9;simp,L.n,L.m⟩
 have n29:NodeAt w29 (({ q with J:=J',F:=F' }:Ptrs).N p) D' p t (startB s now) uns outs (k+1):=by
  refine ⟨{ q with J:=J',F:=F' },ops++[Op.v (s.term+1) s.id],_,x29,fun b=>Iff.rfl,hh.snoc (o:=.v (s.term+1) s.id) ⟨by omega,hT,hid,.inl (by rw [hst];show s.term<s.term+1;omega)⟩,?_,by rw [List.length_append];simp;omega,by rw [List.map_append];exact Nat.le_refl _,fun _=>by rw [List.map_append];rfl⟩
  rw [st_snoc,hst];rfl
 have oo:Only (fun b=>b=p) w12 w29:=((((o18.trans' o20).trans' o22).trans' o24).trans' (Grow.only g26)).trans' o29
 have mv29:Moves w w29 N D (({ q with J:=J',F:=F' }:Ptrs).N p) D':=(Moves.iff (((Moves.grow g5).trans m12).trans (Moves.only oo fun b hb=>.inl hb)) h2)
 have wfB:Wf0 (startB s now) (k+1):=(wf.start hnow hT).more (by omega)
 refine (elected_c n29 wfB).mono ?_
 rintro _ w32 ⟨b,rfl,hb,g32⟩
 refine ⟨_,rfl,fun hbt=>?_,fun hbf=>?_⟩
 ·have he:Elected (startB s now):=hb.1 hbt
  refine (lead_c (now:=now) (n29.grow g32) wfB (by omega) (by show 1<=s.term+1;omega) (by omega)).mono ?_
  rintro _ w36 ⟨rfl,N1,D1,uns1,n36,mv36⟩
  have e1:startS s now=leadS (startB s now) now:=by unfold startS;rw [if_pos he]
  rw [e1]
  exact ⟨rfl,rfl,N1,D1,uns1,n36.up (by omega),(mv29.trans (Moves.grow g32)).trans mv36⟩
 ·have he:¬Elected (startB s now):=fun k=>by have:=hb.2 k;rw [hbf] at this;cases this
  have e1:startS s now=(startB s now,(startB s now).others.map (askS (startB s now))):=by unfold startS;rw [if_neg he];rfl
  rw [e1]
  have x32:=x29.grow g32
  refine ⟨_,x32.cell (k:=5) (by omega) rfl,(last_c x32.log (by show s.log.length<=1000000;omega)).mono ?_⟩
  rintro _ w40 ⟨rfl,g40⟩
  have n40:=(n29.grow g32).grow g40
  refine ⟨_,_,rfl,(others_c n40 (permit_cfg wf.ini s.log) hid).mono ?_⟩
  rintro _ w44 ⟨g,c',rfl,own,g44⟩
  refine ⟨_,_,_,rfl,?_⟩
  have n44:=n40.grow g44
  have h9:(startB s now).others.length<=9:=others_len _
  have lt:=n40.lt
  have mv44:=mv29.trans (Moves.grow ((g32.trans' g40).trans' g44))
  generalize hS:startB s now=S at*
  have eI:S.log=s.log:=by rw [<- hS];rfl
  refine ⟨fun kk x w'=>∃ (i:Nat) (N':Nat->Prop),x=(i:Int)/\i<=S.others.length/\kk=S.others.length - i/\NodeAt w' N' D' p t S uns (outs++(S.others.take i).map (askS S)) (k+1)/\Moves w44 w' (({ q with J:=J',F:=F' }:Ptrs).N p) D' N' D',⟨_,0,_,rfl,by omega,rfl,by simpa using n44,Moves.refl _ _ _⟩,?_⟩
  rintro kk _ w52 x ⟨i,N',rfl,hi,rfl,n52,mv⟩
  refine ⟨fun hlt=>?_,fun hge=>?_⟩
  ·have hlt:i<S.others.length:=by have:=dT hlt;omega
   have hat:=List.getElem?_eq_getElem hlt
   have htk:=List.take_succ_eq_append_getElem hlt
   have hm9:S.others[i]<9:=members_lt (List.mem_filter.1 (List.getElem_mem hlt)).1
   generalize S.others[i]=to at*
   obtain ⟨a,ha,-,hc⟩:=Ints.at ((own_ints own).keep mv.o fun b hb hN=>by
    obtain ⟨a,ha,e⟩:=hb
    cases ha
    have:=own.base b ⟨_,rfl,e⟩
    have:=lt b (.inl hN)
    omega) hat
   have key:=send_c (askS S to) (src0:=0) (term0:=0) (oe:=none) (ce:=0) n52 (by rw [List.length_append,List.length_map,List.length_take];omega) rfl rfl (ents_nil _ _ _) (Nat.le_refl _)
   refine ⟨a,ha,⟨by omega,by omega⟩,_,hc,key.mono ?_⟩
   rintro _ w17 ⟨rfl,N2,n17,mv17⟩
   refine ⟨rfl,_,by omega,i+1,N2,by rw [wr (by omega)];omega,hlt,rfl,?_,mv.trans mv17⟩
   rw [htk,List.map_append,<- List.append_assoc]
   exact n17
  ·have:i=S.others.length:=by have:=dF hge;omega
   subst this
   rw [List.take_length] at n52
   exact ⟨rfl,N',D',uns,n52.up (by omega),mv44.trans mv⟩
theorem tick8_c {now:Nat} (h:NodeAt w N D p t s uns [] k) (wf:Wf0 s k) (hk:k<=90000) (hnow:now<=MaxT) (hT:s.term+1<=MaxT) (ht1:s.role=3->1<=s.term):
  Calls Tryz.prog 8 #[.pointer (some ⟨p,0,none⟩),.int .i64 (now:Int)] w fun e w'=>∃ o c,e=.returned (.slice o (tickS s now).2.length c)/\Did w N D p t (tickS s now).1 (tickS s now).2 (k+50) o c w':=by
 refine nf8 p now w _ ((tick_c h now hnow).mono ?_)
 rintro _ w2 ⟨rfl,n2,o2⟩
 have mv2:Moves w w2 N D N D:=Moves.only o2 fun b hb=>hb
 refine ⟨_,rfl,fun k4 hk4=>?_⟩
 have fin:∀ w6 N' D' uns' outs',NodeAt w6 N' D' p t (tickS s now).1 uns' outs' (k+50)->Moves w w6 N D N' D'->outs'=(tickS s now).2->k4 w6:=by
  rintro w6 N' D' uns' outs' n6 mv6 rfl
  refine hk4 w6 fun _=>(sentD_c n6 mv6).mono ?_
  rintro _ w10 ⟨o,c,rfl,hd⟩
  exact ⟨o,_,c,rfl,o,c,rfl,hd⟩
 have wf2:=wf.at hnow
 have e0:tickS s now=tickT (s.at now) (s.at now).latest:=rfl
 rw [e0] at fin
 have hla:=wf2.la
 have er:(s.at now).role=s.role:=rfl
 have et:(s.at now).term=s.term:=rfl
 generalize s.at now=S at*
 have b1:=wf2.hb
 have b2:=wf2.be
 have b3:=wf2.si
 have b4:=wf2.wa
 unfold MaxT at b1 b2 b3 b4
 have hla':=hla
 unfold MaxT at hla'
 obtain ⟨q,ops,dur,x2,h2,hrest⟩:=n2.ex
 refine ⟨_,x2.cellT (k:=0) rfl,nno rfl ⟨_,x2.cell (k:=11) (by omega) rfl,fun hr=>?_,fun hr=>?_⟩⟩
 ·have hr:S.role=3:=by have:=dT hr;omega
  intro w19 e19
  have g19:Grow w2 w19:=only_drew e19
  have x19:=x2.grow g19
  refine ⟨_,x19.cell (k:=15) (by omega) rfl,_,x19.cell (k:=2) (by omega) rfl,?_⟩
  rw [wr (x:=(S.latest:Int) - (S.hb:Int)) (by omega)]
  refine ⟨fun hge=>?_,fun hlt=>?_⟩
  ·have hge:S.hb+S.beat<=S.latest:=by have:=dT hge;omega
   have e1:tickT S S.latest=({ S with hb:=S.latest },sendAll S):=by unfold tickT;rw [if_pos hr,if_pos hge]
   rw [e1] at fin
   refine ⟨x19.there (by omega),fun w24 e24=>?_⟩
   obtain ⟨x24,o24⟩:=x19.cells (k:=15) (s':={ S with hb:=S.latest }) (mm':=S.memb) (ma':=membAt S.log) (uns':=uns) e24 rfl rfl rfl rfl rfl x19.mem ⟨x19.len.v,x19.len.n,x19.len.m⟩
   have n24:NodeAt w24 N D p t { S with hb:=S.latest } uns [] k:=⟨q,ops,dur,x24,h2,hrest⟩
   have wf24:Wf0 ({ S with hb:=S.latest }:PN) k:={ wf2 with hb:=hla }
   refine (sendAppends_c n24 (wf24.up n24) (by omega) (fun u hu=>wf24.nx1 hr u hu) (by simp)).mono ?_
   rintro _ w27 ⟨rfl,N',D',n27,mv27⟩
   refine ⟨rfl,fin w27 N' D' uns _ (n27.up (by omega)) ((mv2.trans (Moves.grow g19)).trans ((Moves.only o24 fun b hb=>(h2 b).2 (.inl hb)).trans mv27)) ?_⟩
   rfl
  ·have hlt:¬S.hb+S.beat<=S.latest:=by have:=dF hlt;omega
   have e1:tickT S S.latest=(S,[]):=by unfold tickT;rw [if_pos hr,if_neg hlt]
   rw [e1] at fin
   exact fin w19 N D uns [] ((n2.grow g19).up (by omega)) (mv2.trans (Moves.grow g19)) rfl
 ·have hr:¬S.role=3:=by have:=dF hr;omega
  intro w30 e30
  have g30:Grow w2 w30:=only_drew e30
  have x30:=x2.grow g30
  have n30:=n2.grow g30
  have mv30:=mv2.trans (Moves.grow g30)
  refine ⟨_,x30.cell (k:=14) (by omega) rfl,_,x30.cell (k:=1) (by omega) rfl,?_⟩
  rw [wr (x:=(S.latest:Int) - (S.since:Int)) (by omega)]
  refine ⟨fun hge=>?_,fun hlt=>?_⟩
  ·have hge:S.since+S.wait<=S.latest:=by have:=dT hge;omega
   refine (member_c n30 (permit_cfg wf2.ini _) wf2.id).mono ?_
   rintro _ w36 ⟨rfl,g36⟩
   refine ⟨_,rfl,fun hb=>?_,fun hb=>?_⟩
   ·have hb:=of_decide_eq_true hb
    have e1:tickT S S.latest=startS S S.latest:=by unfold tickT;rw [if_neg hr,if_pos ⟨hge,hb⟩]
    rw [e1] at fin
    refine (start_c (now:=S.latest) (n30.grow g36) wf2 (by omega) hla (by omega) (by simp)).mono ?_
    rintro _ w40 ⟨rfl,N',D',uns',n40,mv40⟩
    exact ⟨rfl,fin w40 N' D' uns' _ n40 ((mv30.trans (Moves.grow g36)).trans mv40) rfl⟩
   ·have hb:=of_decide_eq_false hb
    have e1:tickT S S.latest=(S,[]):=by unfold tickT;rw [if_neg hr,if_neg fun k=>hb k.2]
    rw [e1] at fin
    exact fin w36 N D uns [] ((n30.grow g36).up (by omega)) (mv30.trans (Moves.grow g36)) rfl
  ·have hlt:¬S.since+S.wait<=S.latest:=by have:=dF hlt;omega
   have e1:tickT S S.latest=(S,[]):=by unfold tickT;rw [if_neg hr,if_neg fun k=>hlt k.1]
   rw [e1] at fin
   exact fin w30 N D uns [] (n30.up (by omega)) mv30 rfl
end
end Go.Proofs.YtcaokpglbolkcaaGreat
