import Derived.Test.YtcaokpglbolkcaaGreatOe
namespace Go.Proofs.YtcaokpglbolkcaaGreat
open Go Go.Nf Go.RowKit
structure Good (s:PN) (k b:Nat):Prop where
 w:Wf0 s k
 t:s.term<=b
 r:s.role≠1->1<=s.term
def Outs (F:PN) (out:List Msg):Prop:=∀ k,k<=100000->Wf F k->∀ m∈out,WfMsg m/\m.term=F.term/\m.src=F.id
section
variable {s:PN} {k b now:Nat} {m:Msg}
theorem Good.up {k' b':Nat} (h:Good s k b) (hk:k<=k') (hb:b<=b'):Good s k' b':=⟨h.w.more hk,Nat.le_trans h.t hb,h.r⟩
theorem advS_same (s:PN):(advS s).id=s.id/\(advS s).term=s.term/\((advS s).role=s.role\/(advS s).role=1):=by
 obtain ⟨s1,s2,s3,s4,s5,s6,s7,s8,s9⟩:=advC_same s
 unfold advS
 split
 ·exact ⟨s1,s3,.inl s6⟩
 ·split
  ·exact ⟨s1,s3,.inl s6⟩
  ·split
   ·exact ⟨s1,s3,.inl s6⟩
   ·exact ⟨s1,s3,.inr rfl⟩
theorem Good.adv (h:Good s k b) (hk:k<=100000):Good (advS s) (k+1) b:=by
 obtain ⟨-,e2,e3⟩:=advS_same s
 exact ⟨h.w.adv hk,by rw [e2];exact h.t,fun hr=>by
  rw [e2]
  rcases e3 with e | e
  ·exact h.r (by rw [<- e];exact hr)
  ·exact absurd e hr⟩
theorem outs_nil (F:PN):Outs F []:=fun _ _ _ m hm=>by cases hm
theorem outs_all {F:PN} (h:1<=F.term):Outs F (sendAll F):=fun k hk wf m hm=>by
 refine ⟨wf.all hk h m hm,?_⟩
 obtain ⟨to,-,rfl⟩:=List.mem_map.1 hm
 exact ⟨rfl,rfl⟩
theorem outs_one {F:PN} (h:1<=F.term) {to:Nat} (h1:to<9) (h2:to≠F.id):Outs F [sendAppendS F to]:=fun k hk wf m hm=>by
 rw [List.mem_singleton.1 hm]
 exact ⟨wf.append hk h h1 h2,rfl,rfl⟩
theorem Good.leads (h:Good s k b) (hk:k<=90000) (h1:1<=s.term) (hn:now<=MaxT):Good (leadS s now).1 (k+2) b/\Outs (leadS s now).1 (leadS s now).2:=by
 have h0:Good (leadB s) (k+1) b:=⟨h.w.leadB,h.t,fun _=>h1⟩
 have h2:=h0.adv (by omega)
 obtain ⟨-,e2,e3⟩:=advS_same (leadB s)
 have ht:1<=(advS (leadB s)).term:=by rw [e2];exact h1
 unfold leadS
 refine ⟨⟨{ h2.w with hb:=hn },h2.t,fun _=>ht⟩,?_⟩
 exact fun k hk wf m hm=>outs_all (F:={ advS (leadB s) with hb:=now }) ht k hk wf m hm
theorem mem_others (s:PN) {to:Nat} (h:to∈s.others):to<9/\to≠s.id:=by
 have h2:=List.mem_filter.1 h
 exact ⟨members_lt h2.1,by simpa using h2.2⟩
theorem Good.tick (h:Good s k b) (hn:now<=MaxT) (hk:k<=30000) (hb:b+1<=MaxT):Good (tickS s now).1 (k+50) (b+1)/\Outs (tickS s now).1 (tickS s now).2:=by
 have h1:Good (s.at now) k b:=⟨h.w.at hn,h.t,h.r⟩
 have hla:=h1.w.la
 unfold tickS
 generalize s.at now=S at*
 unfold tickT
 split
 ·rename_i hr
  have ht:1<=S.term:=h1.r (by omega)
  split
  ·refine ⟨⟨{ (h1.w.more (k':=k+50) (by omega)) with hb:=hla },Nat.le_succ_of_le h1.t,fun _=>ht⟩,?_⟩
   exact fun k hk wf m hm=>outs_all (F:={ S with hb:=S.latest }) ht k hk wf m hm
  ·exact ⟨h1.up (by omega) (by omega),outs_nil _⟩
 ·split
  ·have hB:Good (startB S S.latest) k (b+1):=⟨h1.w.start hla (by have:=h1.t;omega),Nat.succ_le_succ h1.t,fun _=>Nat.succ_le_succ (Nat.zero_le _)⟩
   unfold startS
   split
   ·obtain ⟨a,c⟩:=hB.leads (by omega) (Nat.succ_le_succ (Nat.zero_le _)) hla
    exact ⟨a.up (by omega) (Nat.le_refl _),c⟩
   ·refine ⟨hB.up (by omega) (Nat.le_refl _),fun k' hk' wf m hm=>?_⟩
    obtain ⟨to,hto,rfl⟩:=List.mem_map.1 hm
    obtain ⟨m1,m2⟩:=mem_others _ hto
    have hid:(startB S S.latest).id=S.id:=rfl
    have hll:=wf.ll
    have hlt:lastT S.log<=MaxT:=by
     unfold lastT
     rw [List.getLast?_eq_getElem?]
     cases hx:S.log[S.log.length - 1]? with
     | none=>exact Nat.zero_le _
     | some e=>exact (wf.ent e (List.mem_of_getElem? hx)).1.t2
    have hl2:S.log.length<=k':=hll
    exact ⟨wf_plain ⟨Nat.le_refl 1,by show (1:Nat)<=4;decide⟩ h1.w.id m1 (fun e=>m2 e.symm) ⟨Nat.succ_le_succ (Nat.zero_le _),wf.t⟩ (by unfold MaxT;omega) hlt,rfl,rfl⟩
  ·exact ⟨h1.up (by omega) (by omega),outs_nil _⟩
theorem Good.requested (h:Good s k b) (wm:WfMsg m) (ht:m.term=s.term) (hd:m.dst=s.id) (hn:now<=MaxT):Good (requestedS s m now).1 k b/\Outs (requestedS s m now).1 (requestedS s m now).2:=by
 have ht1:1<=s.term:=by rw [<- ht];exact wm.t.1
 have hne:s.id≠m.src:=by rw [<- hd];exact fun e=>wm.ne e.symm
 have out:∀ (F:PN) (gr:Bool),F.id=s.id->F.term=s.term->Outs F [⟨2,s.id,m.src,s.term,0,0,0,gr,[]⟩]:=fun F gr e1 e2 k hk wf x hx=>by
  rw [List.mem_singleton.1 hx]
  exact ⟨wf_plain ⟨by show (1:Nat)<=2;decide,by show (2:Nat)<=4;decide⟩ h.w.id wm.src hne ⟨ht1,h.w.t⟩ (Nat.zero_le _) (Nat.zero_le _),e2.symm,e1.symm⟩
 unfold requestedS
 split
 ·exact ⟨⟨{ h.w with vt:=fun n e=>(by cases e;exact wm.src),si:=hn },h.t,h.r⟩,out _ _ rfl rfl⟩
 ·exact ⟨h,out _ _ rfl rfl⟩
theorem Good.received (h:Good s k b) (hk:k<=100000) (wm:WfMsg m) (ht:m.term=s.term) (hd:m.dst=s.id) (hn:now<=MaxT):Good (receiveS s m now).1 (k+16) b/\Outs (receiveS s m now).1 (receiveS s m now).2:=by
 have ht1:1<=s.term:=by rw [<- ht];exact wm.t.1
 have hne:s.id≠m.src:=by rw [<- hd];exact fun e=>wm.ne e.symm
 have hpr:=wm.prev
 have hlen:=wm.len
 have out:∀ (F:PN) (gr:Bool) (pv:Nat),F.id=s.id->F.term=s.term->pv<=MaxT->Outs F [⟨4,s.id,m.src,s.term,pv,0,0,gr,[]⟩]:=fun F gr pv e1 e2 e3 k hk wf x hx=>by
  rw [List.mem_singleton.1 hx]
  exact ⟨wf_plain ⟨by show (1:Nat)<=4;decide,by show (4:Nat)<=4;decide⟩ h.w.id wm.src hne ⟨ht1,h.w.t⟩ e3 (Nat.zero_le _),e2.symm,e1.symm⟩
 have hR:=(h.w.recv hn wm).more (k':=k+16) (by omega)
 unfold receiveS
 split
 ·rename_i hm
  obtain ⟨hp,-⟩:=termAt_some hm.1
  have hl:=h.w.ll
  have h1:=mergeL_len m.ents s.log m.prev
  have hc:=h.w.cm
  have hmc:=wm.com
  refine ⟨⟨{ hR with ll:=?_,ent:=fun e he=>?_,cm:=?_ },h.t,fun _=>ht1⟩,out _ _ _ rfl rfl (by unfold MaxT;omega)⟩
  ·show (mergeL s.log m.prev m.ents).length<=k+16
   omega
  ·rcases mergeL_mem _ _ _ _ he with he | he
   ·exact h.w.ent e he
   ·have:=(wm.ents e he).2
    show e.term<=s.term
    omega
  ·show max s.commit (min m.commit (m.prev+m.ents.length))<=MaxT
   omega
 ·exact ⟨⟨hR,h.t,fun _=>ht1⟩,out _ _ _ rfl rfl (by omega)⟩
theorem Good.replied (h:Good s k b) (hk:k<=90000) (wm:WfMsg m) (hr:s.role=3) (hd:m.dst=s.id):Good (repliedS s m).1 (k+1) b/\Outs (repliedS s m).1 (repliedS s m).2:=by
 have ht1:1<=s.term:=h.r (by omega)
 have hne:m.src≠s.id:=by rw [<- hd];exact wm.ne
 unfold repliedS
 split
 ·exact ⟨⟨(h.w.back m).more (by omega),h.t,fun _=>ht1⟩,outs_one (F:=backS s m) ht1 wm.src hne⟩
 ·split
  ·exact ⟨h.up (by omega) (Nat.le_refl _),outs_nil _⟩
  ·rename_i hp
   have h1:Good (matchS s m) k b:=⟨h.w.matched (by omega),h.t,fun _=>ht1⟩
   have h2:=h1.adv (by omega)
   obtain ⟨e1,e2,e3⟩:=advS_same (matchS s m)
   have ht2:1<=(advS (matchS s m)).term:=by rw [e2];exact ht1
   split
   ·exact ⟨h2,outs_nil _⟩
   ·split
    ·exact ⟨h2,outs_all ht2⟩
    ·split
     ·exact ⟨h2,outs_one ht2 wm.src (by rw [e1];exact hne)⟩
     ·exact ⟨h2,outs_nil _⟩
theorem Good.handled (h:Good s k b) (hk:k<=90000) (wm:WfMsg m) (ht:m.term=s.term) (hd:m.dst=s.id) (hn:now<=MaxT):Good (handleS s m now).1 (k+16) b/\Outs (handleS s m now).1 (handleS s m now).2:=by
 have ht1:1<=s.term:=by rw [<- ht];exact wm.t.1
 unfold handleS
 split
 ·obtain ⟨a,c⟩:=h.requested wm ht hd hn
  exact ⟨a.up (by omega) (Nat.le_refl _),c⟩
 ·split
  ·split
   ·have hV:Good ({ s with votes:=s.votes.set m.src true }:PN) k b:=⟨h.w.vote m,h.t,h.r⟩
    split
    ·obtain ⟨a,c⟩:=hV.leads (by omega) ht1 hn
     exact ⟨a.up (by omega) (Nat.le_refl _),c⟩
    ·exact ⟨hV.up (by omega) (Nat.le_refl _),outs_nil _⟩
   ·exact ⟨h.up (by omega) (Nat.le_refl _),outs_nil _⟩
  ·split
   ·split
    ·exact ⟨h.up (by omega) (Nat.le_refl _),outs_nil _⟩
    ·exact h.received (by omega) wm ht hd hn
   ·split
    ·rename_i hc
     obtain ⟨a,c⟩:=h.replied hk wm hc.1 hd
     exact ⟨a.up (by omega) (Nat.le_refl _),c⟩
    ·exact ⟨h.up (by omega) (Nat.le_refl _),outs_nil _⟩
theorem Good.step (h:Good s k b) (hk:k<=30000) (wm:WfMsg m) (hm:m.term<=b) (hd:m.dst=s.id) (hn:now<=MaxT):Good (stepS s m now).1 (k+50) b/\Outs (stepS s m now).1 (stepS s m now).2:=by
 have h1:Good (s.at now) k b:=⟨h.w.at hn,h.t,h.r⟩
 have hla:=h1.w.la
 unfold stepS
 have hd:m.dst=(s.at now).id:=hd
 generalize s.at now=S at*
 have hne:S.id≠m.src:=by rw [<- hd];exact fun e=>wm.ne e.symm
 unfold stepT
 split
 ·exact ⟨h1.up (by omega) (Nat.le_refl _),outs_nil _⟩
 ·split
  ·rename_i hlt
   refine ⟨h1.up (by omega) (Nat.le_refl _),fun k hk wf x hx=>?_⟩
   have ht1:1<=S.term:=by have:=wm.t.1;omega
   unfold refuseS at hx
   split at hx
   ·rw [List.mem_singleton.1 hx]
    exact ⟨wf_plain ⟨by show (1:Nat)<=2;decide,by show (2:Nat)<=4;decide⟩ h1.w.id wm.src hne ⟨ht1,h1.w.t⟩ (Nat.zero_le _) (Nat.zero_le _),rfl,rfl⟩
   ·split at hx
    ·rw [List.mem_singleton.1 hx]
     exact ⟨wf_plain ⟨by show (1:Nat)<=4;decide,by show (4:Nat)<=4;decide⟩ h1.w.id wm.src hne ⟨ht1,h1.w.t⟩ (Nat.zero_le _) (Nat.zero_le _),rfl,rfl⟩
    ·cases hx
  ·split
   ·rename_i hlt
    have hE:Good (enterS S m.term) k b:=⟨h1.w.enter hlt wm.t.2,hm,fun e=>absurd rfl e⟩
    obtain ⟨a,c⟩:=hE.handled (by omega) wm rfl hd hla
    exact ⟨a.up (by omega) (Nat.le_refl _),c⟩
   ·obtain ⟨a,c⟩:=h1.handled (by omega) wm (by omega) hd hla
    exact ⟨a.up (by omega) (Nat.le_refl _),c⟩
theorem Good.submit (h:Good s k b) (hk:k<=90000) (hr:s.role=3) (kind:Nat) (body:List UInt8):Good (submitS s kind body).1 (k+2) b/\Outs (submitS s kind body).1 (submitS s kind body).2:=by
 have ht1:1<=s.term:=h.r (by omega)
 have h1:Good (addS s ⟨s.term,kind,body⟩) (k+1) b:=⟨h.w.add (Nat.le_refl _),h.t,h.r⟩
 have h2:=h1.adv (by omega)
 obtain ⟨e1,e2,e3⟩:=advS_same (addS s ⟨s.term,kind,body⟩)
 exact ⟨h2,outs_all (by rw [show (submitS s kind body).1=advS (addS s ⟨s.term,kind,body⟩) from rfl,e2];exact ht1)⟩
theorem Good.propose (h:Good s k b) (hk:k<=30000) (body:List UInt8):Good (proposeS s body).1 (k+50) b/\Outs (proposeS s body).1 (proposeS s body).2:=by
 unfold proposeS
 split
 ·rename_i hr
  obtain ⟨a,c⟩:=h.submit (by omega) hr 2 body
  exact ⟨a.up (by omega) (Nat.le_refl _),c⟩
 ·exact ⟨h.up (by omega) (Nat.le_refl _),outs_nil _⟩
theorem Good.open {wait beat:Nat} (h:Good s k b) (hn:now<=MaxT) (hw:wait<=MaxT) (hb:beat<=MaxT):Good (openS s.id wait beat s.init s.term s.voted s.log now) k b:=
 ⟨{ h.w with wa:=hw,be:=hb,ld:=fun n e=>(by cases e),rl:=.inl rfl,cm:=Nat.zero_le _,si:=hn,hb:=Nat.zero_le _,la:=hn,nx:=fun u=>by show (List.replicate 9 0).getD u 0<=k+1;rw [rep_getD];split <;> omega,nx1:=fun e=>(by cases e),mt:=fun u=>by show (List.replicate 9 0).getD u 0<=k;rw [rep_getD];split <;> omega,lv:=rfl,ln:=rfl,lm:=rfl },h.t,fun e=>absurd rfl e⟩
theorem good0 {init:Memb} (hp:Permit init) {id wait beat:Nat} (hid:id<9) (hw:wait<=MaxT) (hb:beat<=MaxT):Good (openS id wait beat init 0 none [] 0) 0 0:=
 ⟨⟨hid,hp,Nat.zero_le _,fun n e=>(by cases e),fun n e=>(by cases e),Nat.zero_le _,fun e he=>(by cases he),.inl rfl,Nat.zero_le _,Nat.zero_le _,Nat.zero_le _,Nat.zero_le _,hw,hb,fun u=>by show (List.replicate 9 0).getD u 0<=1;rw [rep_getD];split <;> omega,fun e=>(by cases e),fun u=>by show (List.replicate 9 0).getD u 0<=0;rw [rep_getD];split <;> omega,rfl,rfl,rfl⟩,Nat.zero_le _,fun e=>absurd rfl e⟩
end
end Go.Proofs.YtcaokpglbolkcaaGreat
