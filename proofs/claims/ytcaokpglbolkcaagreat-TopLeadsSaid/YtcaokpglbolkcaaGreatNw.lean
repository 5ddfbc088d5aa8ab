import Derived.Test.YtcaokpglbolkcaaGreatNe
namespace Go.Proofs.YtcaokpglbolkcaaGreat
open Go Go.Nf Go.RowKit
structure Wf0 (s:PN) (k:Nat):Prop where
 id:s.id<9
 ini:Permit s.init
 t:s.term<=MaxT
 vt:∀ n,s.voted=some n->n<9
 ld:∀ n,s.leader=some n->n<9
 ll:s.log.length<=k
 ent:∀ e∈s.log,e.term<=s.term
 rl:s.role=1\/s.role=2\/s.role=3
 cm:s.commit<=MaxT
 si:s.since<=MaxT
 hb:s.hb<=MaxT
 la:s.latest<=MaxT
 wa:s.wait<=MaxT
 be:s.beat<=MaxT
 nx:∀ u,s.next.getD u 0<=k+1
 nx1:s.role=3->∀ u,u<9->1<=s.next.getD u 0
 mt:∀ u,s.mtch.getD u 0<=k
 lv:s.votes.length=9
 ln:s.next.length=9
 lm:s.mtch.length=9
theorem Wf0.up {s:PN} {k kk:Nat} (h:Wf0 s k) {w:World} {N D:Nat->Prop} {p t:Nat} {uns:Bool} {outs:List Msg} (n:NodeAt w N D p t s uns outs kk):Wf s k:=by
 obtain ⟨q,ops,dur,h1,h2,hh,hst,-⟩:=n.ex
 obtain ⟨a,b⟩:=hh.logOk
 rw [hst] at a b
 exact ⟨h.id,h.ini,h.t,h.vt,h.ld,h.ll,fun e he=>⟨a e he,h.ent e he⟩,b,h.rl,h.cm,h.si,h.hb,h.la,h.wa,h.be,h.nx,h.nx1,h.mt⟩
section
variable {s:PN} {k k':Nat}
theorem Wf0.more (h:Wf0 s k) (hk:k<=k'):Wf0 s k':={ h with ll:=Nat.le_trans h.ll hk,nx:=fun u=>Nat.le_trans (h.nx u) (by omega),mt:=fun u=>Nat.le_trans (h.mt u) hk }
theorem Wf0.at (h:Wf0 s k) {now:Nat} (hn:now<=MaxT):Wf0 (s.at now) k:={ h with la:=Nat.max_le.2 ⟨h.la,hn⟩ }
theorem Wf0.enter (h:Wf0 s k) {T:Nat} (h1:s.term<T) (h2:T<=MaxT):Wf0 (enterS s T) k:=
 {h with t:=h2,vt:=fun n e=>(by cases e),ld:=fun n e=>(by cases e),ent:=fun e he=>Nat.le_trans (h.ent e he) (Nat.le_of_lt h1),rl:=.inl rfl,nx1:=fun e=>(by cases e) }
theorem Wf0.add (h:Wf0 s k) {e:Ent} (he:e.term<=s.term):Wf0 (addS s e) (k+1):=
 {h.more (Nat.le_succ k) with
  ll:=by show (s.log++[e]).length<=k+1;rw [List.length_append];have:=h.ll;simp;omega
  ent:=fun x hx=>by
   rcases List.mem_append.1 hx with hx | hx
   ·exact h.ent x hx
   ·rw [List.mem_singleton.1 hx];exact he }
theorem cmt_le {l:List Nat} {f:Nat->Nat} {b:Nat} (h:∀ m,f m<=b):cmt l f<=b:=by
 unfold cmt
 rw [List.getD_eq_getElem?_getD]
 cases hx:((l.map f).mergeSort fun a b=>decide (a<=b))[l.length - (l.length / 2+1)]? with
 | none=>exact Nat.zero_le _
 | some x=>
  have:=(List.mergeSort_perm (l.map f) _).mem_iff.1 (List.mem_of_getElem? hx)
  obtain ⟨m,-,rfl⟩:=List.mem_map.1 this
  exact h m
theorem committed_le {c:Memb} {f:Nat->Nat} {b:Nat} (h:∀ m,f m<=b):committedS c f<=b:=by
 unfold committedS
 split
 ·exact cmt_le h
 ·exact Nat.le_trans (Nat.min_le_left _ _) (cmt_le h)
theorem Wf0.reach (h:Wf0 s k) (m:Nat):s.reach m<=k:=by
 unfold PN.reach
 split
 ·exact h.ll
 ·exact h.mt m
theorem Wf0.advC (h:Wf0 s k) (hk:k<=100000):Wf0 (advC s) k:=by
 unfold Go.Proofs.YtcaokpglbolkcaaGreat.advC
 split
 ·exact { h with cm:=Nat.le_trans (committed_le h.reach) (by unfold MaxT;omega) }
 ·exact h
theorem Wf0.adv (h:Wf0 s k) (hk:k<=100000):Wf0 (advS s) (k+1):=by
 have h1:=h.advC hk
 have h2:=h1.more (Nat.le_succ k)
 obtain ⟨s1,s2,s3,s4,s5,s6,s7,s8,s9⟩:=advC_same s
 unfold advS
 split
 ·exact h2
 ·split
  ·have:=h1.add (e:=⟨s.term,3,encM ⟨s.memb.new,[]⟩⟩) (by rw [s3];exact Nat.le_refl _)
   unfold addS at this
   rw [s5] at this
   exact this
  ·split
   ·exact h2
   ·exact { h2 with ld:=fun n e=>(by cases e),rl:=.inl rfl,nx1:=fun e=>(by cases e) }
theorem rep_getD {α:Type} (n:Nat) (x d:α) (u:Nat):(List.replicate n x).getD u d=if u<n then x else d:=by
 rw [List.getD_eq_getElem?_getD,List.getElem?_replicate]
 split <;> rfl
theorem Wf0.leadB (h:Wf0 s k):Wf0 (leadB s) (k+1):=by
 have h1:=h.ll
 refine { h.more (Nat.le_succ k) with ld:=fun n e=>?_,ll:=?_,ent:=fun x hx=>?_,rl:=.inr (.inr rfl),nx:=fun u=>?_,nx1:=fun _ u hu=>?_,mt:=fun u=>?_,ln:=rfl,lm:=rfl }
 ·cases e;exact h.id
 ·show (s.log++[_]).length<=k+1
  rw [List.length_append];simp;omega
 ·rcases List.mem_append.1 hx with hx | hx
  ·exact h.ent x hx
  ·rw [List.mem_singleton.1 hx];exact Nat.le_refl _
 ·show (List.replicate 9 (s.log.length+1)).getD u 0<=_
  rw [rep_getD];split <;> omega
 ·show 1<=(List.replicate 9 (s.log.length+1)).getD u 0
  rw [rep_getD,if_pos hu];omega
 ·show (List.replicate 9 0).getD u 0<=_
  rw [rep_getD];split <;> omega
theorem Wf0.start (h:Wf0 s k) {now:Nat} (hn:now<=MaxT) (ht:s.term+1<=MaxT):Wf0 (startB s now) k:=
 {h with t:=ht,vt:=fun n e=>by cases e;exact h.id,ld:=fun n e=>(by cases e),ent:=fun e he=>Nat.le_succ_of_le (h.ent e he),rl:=.inr (.inl rfl),si:=hn,nx1:=fun e=>(by cases e),lv:=by show ((List.replicate 9 false).set s.id true).length=9;simp }
structure WfMsg (m:Msg):Prop where
 kind:1<=m.kind/\m.kind<=4
 src:m.src<9
 dst:m.dst<9
 ne:m.src≠m.dst
 t:1<=m.term/\m.term<=MaxT
 prev:m.prev<=MaxT
 pt:m.prevTerm<=MaxT
 com:m.commit<=MaxT
 len:m.ents.length<=16
 app:m.ents≠[]->m.kind=3
 ents:∀ e∈m.ents,OkEnt e/\e.term<=m.term
 ups:Ups m.prevTerm m.ents
theorem wf_plain {k src dst term prev prevTerm:Nat} {gr:Bool} (hk:1<=k/\k<=4) (h1:src<9) (h2:dst<9) (h3:src≠dst) (h4:1<=term/\term<=MaxT) (h5:prev<=MaxT) (h6:prevTerm<=MaxT):WfMsg ⟨k,src,dst,term,prev,prevTerm,0,gr,[]⟩:=
 ⟨hk,h1,h2,h3,h4,h5,h6,Nat.zero_le _,Nat.zero_le _,fun e=>absurd rfl e,fun e he=>(by cases he),fun i e he=>(by simp at he)⟩
theorem Wf.append (h:Wf s k) (hk:k<=100000) (ht:1<=s.term) {to:Nat} (h1:to<9) (h2:to≠s.id):WfMsg (sendAppendS s to):=by
 have hn:=h.nx to
 have hsub:∀ e∈(s.log.drop (s.next.getD to 0 - 1)).take 16,e∈s.log:=fun e he=>List.mem_of_mem_drop (List.mem_of_mem_take he)
 have hat:∀ (i:Nat) e,((s.log.drop (s.next.getD to 0 - 1)).take 16)[i]?=some e->s.log[s.next.getD to 0 - 1+i]?=some e:=fun i e he=>by
  rw [List.getElem?_take] at he
  split at he
  ·rwa [List.getElem?_drop] at he
  ·cases he
 refine ⟨⟨by show (1:Nat)<=3;decide,by show (3:Nat)<=4;decide⟩,h.id,h1,fun e=>h2 e.symm,⟨ht,h.t⟩,?_,?_,h.cm,?_,fun _=>rfl,fun e he=>?_,fun i e he=>?_⟩
 ·show s.next.getD to 0 - 1<=MaxT
  unfold MaxT;omega
 ·show (termAt s.log (s.next.getD to 0 - 1)).getD 0<=MaxT
  cases hx:termAt s.log (s.next.getD to 0 - 1) with
  | none=>exact Nat.zero_le _
  | some t=>
   obtain ⟨-,b⟩:=termAt_some hx
   rcases b with b | ⟨e,he,rfl⟩
   ·rw [b] at hx
    have:t=0:=by unfold termAt at hx;simpa using hx.symm
    subst this;exact Nat.zero_le _
   ·exact (h.ent e (List.mem_of_getElem? he)).1.t2
 ·show ((s.log.drop (s.next.getD to 0 - 1)).take 16).length<=16
  rw [List.length_take];omega
 ·exact h.ent e (hsub e he)
 ·have he':=hat i e he
  show prevT ((termAt s.log (s.next.getD to 0 - 1)).getD 0) ((s.log.drop (s.next.getD to 0 - 1)).take 16) i<=e.term
  unfold prevT
  split
  ·rename_i hi
   subst hi
   cases hx:termAt s.log (s.next.getD to 0 - 1) with
   | none=>exact Nat.zero_le _
   | some t=>
    obtain ⟨-,b⟩:=termAt_some hx
    rcases b with b | ⟨f,hf,rfl⟩
    ·rw [b] at hx
     have:t=0:=by unfold termAt at hx;simpa using hx.symm
     subst this;exact Nat.zero_le _
    ·exact h.mono _ _ f e (by omega) hf he'
  ·rename_i hi
   cases hx:((s.log.drop (s.next.getD to 0 - 1)).take 16)[i - 1]? with
   | none=>exact Nat.zero_le _
   | some f=>exact h.mono _ _ f e (by omega) (hat _ f hx) he'
theorem Wf.all (h:Wf s k) (hk:k<=100000) (ht:1<=s.term):∀ m∈sendAll s,WfMsg m:=fun m hm=>by
 obtain ⟨to,h1,rfl⟩:=List.mem_map.1 hm
 have h2:=List.mem_filter.1 h1
 exact h.append hk ht (members_lt h2.1) (by simpa using h2.2)
theorem mergeL_len:∀ (l log:List Ent) (n:Nat),(mergeL log n l).length<=max log.length (n+l.length)
 | [],log,n=>Nat.le_max_left _ _
 | e::l,log,n=>by
  unfold mergeL
  split
  ·have:=mergeL_len l log (n+1)
   rw [List.length_cons];omega
  ·rw [List.length_append,List.length_take,List.length_cons];omega
theorem mergeL_mem:∀ (l log:List Ent) (n:Nat) (e:Ent),e∈mergeL log n l->e∈log\/e∈l
 | [],log,n,e,h=>.inl h
 | a::l,log,n,e,h=>by
  unfold mergeL at h
  split at h
  ·exact (mergeL_mem l log (n+1) e h).imp id (List.mem_cons_of_mem a)
  ·rcases List.mem_append.1 h with h | h
   ·exact .inl (List.mem_of_mem_take h)
   ·exact .inr h
end
end Go.Proofs.YtcaokpglbolkcaaGreat
