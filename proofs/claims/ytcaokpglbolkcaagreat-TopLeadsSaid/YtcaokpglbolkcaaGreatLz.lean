import Derived.Test.YtcaokpglbolkcaaGreatRz
namespace Go.Proofs.YtcaokpglbolkcaaGreat
section
abbrev init3:Memb:=⟨[0,1,2],[]⟩
def oth (i:Nat):List Nat:=[0,1,2].filter fun x=>decide (x≠i)
theorem memb_plain {s:PN} (h:∀ e∈s.log,e.kind≠3):s.memb=s.init:=by
 have:s.log.filterMap mbOf=[]:=by
  rw [List.filterMap_eq_nil_iff]
  exact fun e he=>mbOf_not (h e he)
 unfold PN.memb cfg
 simp [cfgs,this]
theorem membAt_plain:∀ (l:List Ent),(∀ e∈l,e.kind≠3)->membAt l=0:=by
 have key:∀ k (l:List Ent),l.length=k->(∀ e∈l,e.kind≠3)->membAt l=0:=by
  intro k
  induction k with
  | zero=>intro l h _;rw [List.eq_nil_of_length_eq_zero h];rfl
  | succ k ih=>
   intro l h hl
   rcases List.eq_nil_or_concat l with rfl | ⟨l',e,rfl⟩
   ·simp at h
   ·rw [List.concat_eq_append] at*
    rw [membAt_snoc,mbOf_not (hl e (by simp)),if_neg (by simp)]
    exact ih l' (by simpa using h) fun x hx=>hl x (List.mem_append_left _ hx)
 exact fun l=>key _ l rfl
theorem members3:members init3=[0,1,2]:=by decide
theorem others3 {s:PN} (h:∀ e∈s.log,e.kind≠3) (hi:s.init=init3):s.others=oth s.id:=by
 unfold PN.others oth
 rw [memb_plain h,hi,members3]
theorem advS3 {s:PN} (h:∀ e∈s.log,e.kind≠3):advS s=advC s:=by
 unfold advS
 rw [if_pos (.inl (membAt_plain _ h))]
def med (a b c:Nat):Nat:=max (min a b) (min (max a b) c)
theorem sort2 (a b:Nat):([a,b].mergeSort fun x y=>decide (x<=y))=if a<=b then [a,b] else [b,a]:=by
 simp only [List.mergeSort,List.MergeSort.Internal.splitInTwo,List.splitAt,List.splitAt.go,List.length_cons,List.length_nil]
 simp [List.merge]
theorem cmt3 (f:Nat->Nat):cmt [0,1,2] f=med (f 0) (f 1) (f 2):=by
 unfold cmt med
 simp only [List.map_cons,List.map_nil,List.length_cons,List.length_nil]
 generalize f 0=a
 generalize f 1=b
 generalize f 2=c
 simp only [List.mergeSort,List.MergeSort.Internal.splitInTwo,List.splitAt,List.splitAt.go,List.length_cons,List.length_nil]
 simp [sort2]
 split <;> simp [List.merge] <;> split <;> simp <;> try split
 all_goals (try simp)
 all_goals omega
theorem elected3 {s:PN} (h:s.memb=init3):Elected s↔∃ i j,i<3/\j<3/\i≠j/\s.votes.getD i false=true/\s.votes.getD j false=true:=by
 unfold Elected majV
 rw [h]
 have e:∀ v:Nat->Bool,(([0,1,2]:List Nat).length / 2+1<=(([0,1,2]:List Nat).filter v).length)↔∃ i j,i<3/\j<3/\i≠j/\v i=true/\v j=true:=by
  intro v
  constructor
  ·intro h
   by_cases h0:v 0=true <;> by_cases h1:v 1=true <;> by_cases h2:v 2=true <;> simp [h0,h1,h2] at h
   ·exact ⟨0,1,by omega,by omega,by omega,h0,h1⟩
   ·exact ⟨0,1,by omega,by omega,by omega,h0,h1⟩
   ·exact ⟨0,2,by omega,by omega,by omega,h0,h2⟩
   ·exact ⟨1,2,by omega,by omega,by omega,h1,h2⟩
  ·rintro ⟨i,j,hi,hj,hn,h1,h2⟩
   have:(i=0/\j=1)\/(i=0/\j=2)\/(i=1/\j=2)\/(i=1/\j=0)\/(i=2/\j=0)\/(i=2/\j=1):=by omega
   rcases this with ⟨rfl,rfl⟩ | ⟨rfl,rfl⟩ | ⟨rfl,rfl⟩ | ⟨rfl,rfl⟩ | ⟨rfl,rfl⟩ | ⟨rfl,rfl⟩ <;> simp only [List.filter_cons,h1,h2,if_true,List.length_cons,List.filter_nil] <;> split <;> simp
 rw [e fun m=>s.votes.getD m false]
 simp
theorem not_alone {s:PN} {now:Nat} (h:∀ e∈s.log,e.kind≠3) (hi:s.init=init3):¬Elected (startB s now):=by
 rw [elected3 (s:=startB s now) ((memb_plain (s:=startB s now) h).trans hi)]
 rintro ⟨i,j,-,-,hn,h1,h2⟩
 have key:∀ k,((List.replicate 9 false).set s.id true).getD k false=true->s.id=k:=by
  intro k hk
  rw [set_getD] at hk
  split at hk
  ·rename_i e;exact e.1
  ·rw [List.getD_eq_getElem?_getD,List.getElem?_replicate] at hk
   split at hk <;> cases hk
 have:=key i h1
 have:=key j h2
 omega
/-! ### a leader's commit -/
theorem committed3 {s:PN} (h:∀ e∈s.log,e.kind≠3) (hi:s.init=init3):committedS s.memb s.reach=med (s.reach 0) (s.reach 1) (s.reach 2):=by
 rw [memb_plain h,hi]
 unfold committedS
 rw [if_pos rfl,cmt3]
theorem advC_all {s:PN} (h:∀ e∈s.log,e.kind≠3) (hi:s.init=init3) (hid:s.id<3) (ht:termAt s.log s.log.length=some s.term) (hc:s.commit<=s.log.length) (hm:∀ u,u≠s.id->s.mtch.getD u 0<=s.log.length) {f:Nat} (hf:f<3) (hn:f≠s.id) (he:s.mtch.getD f 0=s.log.length):(advC s).commit=s.log.length:=by
 have e:committedS s.memb s.reach=s.log.length:=by
  rw [committed3 h hi]
  have r0:s.reach s.id=s.log.length:=by unfold PN.reach;rw [if_pos rfl]
  have r1:s.reach f=s.log.length:=by unfold PN.reach;rw [if_neg hn];exact he
  have r2:∀ u,s.reach u<=s.log.length:=fun u=>by
   unfold PN.reach
   split
   ·exact Nat.le_refl _
   ·rename_i k;exact hm u k
  have a0:=r2 0
  have a1:=r2 1
  have a2:=r2 2
  generalize s.reach=R at*
  generalize s.id=i at*
  have:(i=0/\f=1)\/(i=0/\f=2)\/(i=1/\f=2)\/(i=1/\f=0)\/(i=2/\f=0)\/(i=2/\f=1):=by omega
  unfold med
  rcases this with ⟨rfl,rfl⟩ | ⟨rfl,rfl⟩ | ⟨rfl,rfl⟩ | ⟨rfl,rfl⟩ | ⟨rfl,rfl⟩ | ⟨rfl,rfl⟩ <;> omega
 unfold advC
 rw [e]
 split
 ·rfl
 ·rename_i k
  show s.commit=_
  by_cases q:s.commit<s.log.length
  ·exact absurd ⟨ht,q⟩ k
  ·omega
theorem advC_none {s:PN} (h:∀ e∈s.log,e.kind≠3) (hi:s.init=init3) (hid:s.id<3) (hm:∀ u,u<3->u≠s.id->s.mtch.getD u 0=0):advC s=s:=by
 have e:committedS s.memb s.reach=0:=by
  rw [committed3 h hi]
  have r2:∀ u,u<3->u≠s.id->s.reach u=0:=fun u h1 h2=>by
   unfold PN.reach
   rw [if_neg h2];exact hm u h1 h2
  generalize s.reach=R at*
  generalize s.id=i at*
  unfold med
  have:i=0\/i=1\/i=2:=by omega
  rcases this with rfl | rfl | rfl
  ·have:=r2 1 (by omega) (by omega)
   have:=r2 2 (by omega) (by omega)
   omega
  ·have:=r2 0 (by omega) (by omega)
   have:=r2 2 (by omega) (by omega)
   omega
  ·have:=r2 0 (by omega) (by omega)
   have:=r2 1 (by omega) (by omega)
   omega
 unfold advC
 rw [e,if_neg fun k=>by have:=k.2;omega]
/-! ### a message's effect -/
noncomputable def ent (s:PN) (m:Msg):PN:=if s.term<m.term then enterS s m.term else s
def voteM (s:PN) (m:Msg) (b:Bool):Msg:=⟨2,s.id,m.src,s.term,0,0,0,b,[]⟩
def repM (s:PN) (m:Msg) (p:Nat) (b:Bool):Msg:=⟨4,s.id,m.src,s.term,p,0,0,b,[]⟩
inductive Mv (now:Nat) (s:PN) (m:Msg):PN->List Msg->Prop
 | deaf:m.kind=1->(s.role=3\/(s.leader≠none/\now<s.since+s.wait))->Mv now s m s []
 | old1:m.kind=1->m.term<s.term->Mv now s m s [voteM s m false]
 | old3:m.kind=3->m.term<s.term->Mv now s m s [repM s m 0 false]
 | old:m.kind=2\/m.kind=4->m.term<s.term->Mv now s m s []
 | grant:m.kind=1->s.term<=m.term->¬deaf s m now->((ent s m).voted=none\/(ent s m).voted=some m.src)->upToDate s.log m.prev m.prevTerm->Mv now s m { ent s m with voted:=some m.src,since:=now } [voteM (ent s m) m true]
 | deny:m.kind=1->s.term<=m.term->¬deaf s m now->¬(((ent s m).voted=none\/(ent s m).voted=some m.src)/\upToDate s.log m.prev m.prevTerm)->Mv now s m (ent s m) [voteM (ent s m) m false]
 | idle:s.term<=m.term->(m.kind=2/\¬(m.granted=true/\(ent s m).role=2))\/(m.kind=3/\(ent s m).role=3)\/(m.kind=4/\((ent s m).role≠3\/m.src∉(ent s m).others\/(m.granted=true/\s.log.length<m.prev)))->Mv now s m (ent s m) []
 | count:m.kind=2->m.granted=true->m.term=s.term->s.role=2->¬Elected { s with votes:=s.votes.set m.src true }->Mv now s m { s with votes:=s.votes.set m.src true } []
 | lead:m.kind=2->m.granted=true->m.term=s.term->s.role=2->Elected { s with votes:=s.votes.set m.src true }->Mv now s m (leadS { s with votes:=s.votes.set m.src true } now).1 (leadS { s with votes:=s.votes.set m.src true } now).2
 | fol:m.kind=3->s.term<=m.term->(ent s m).role≠3->matchesS s m->Mv now s m { recvB (ent s m) m now with log:=mergeL s.log m.prev m.ents,commit:=max s.commit (min m.commit (m.prev+m.ents.length)) } [repM (ent s m) m (m.prev+m.ents.length) true]
 | nofol:m.kind=3->s.term<=m.term->(ent s m).role≠3->¬matchesS s m->Mv now s m (recvB (ent s m) m now) [repM (ent s m) m (min s.log.length (m.prev - 1)) false]
 | back:m.kind=4->m.term=s.term->s.role=3->m.granted=false->Mv now s m (backS s m) [sendAppendS (backS s m) m.src]
 | more:m.kind=4->m.term=s.term->s.role=3->m.granted=true->m.prev<=s.log.length->s.commit<(advC (matchS s m)).commit->Mv now s m (advC (matchS s m)) (sendAll (advC (matchS s m)))
 | next:m.kind=4->m.term=s.term->s.role=3->m.granted=true->m.prev<=s.log.length->(advC (matchS s m)).commit=s.commit->(matchS s m).next.getD m.src 0<=s.log.length->Mv now s m (advC (matchS s m)) [sendAppendS (advC (matchS s m)) m.src]
 | done:m.kind=4->m.term=s.term->s.role=3->m.granted=true->m.prev<=s.log.length->(advC (matchS s m)).commit=s.commit->s.log.length<(matchS s m).next.getD m.src 0->Mv now s m (advC (matchS s m)) []
theorem ent_same (s:PN) (m:Msg):(ent s m).id=s.id/\(ent s m).wait=s.wait/\(ent s m).beat=s.beat/\(ent s m).init=s.init/\(ent s m).log=s.log/\(ent s m).commit=s.commit/\(ent s m).since=s.since/\(ent s m).hb=s.hb/\(ent s m).latest=s.latest/\(ent s m).votes=s.votes/\(ent s m).next=s.next/\(ent s m).mtch=s.mtch:=by
 unfold ent
 split <;> exact ⟨rfl,rfl,rfl,rfl,rfl,rfl,rfl,rfl,rfl,rfl,rfl,rfl⟩
theorem ent_term {s:PN} {m:Msg} (h:s.term<=m.term):(ent s m).term=m.term:=by
 unfold ent
 split
 ·rfl
 ·omega
theorem ent_eq {s:PN} {m:Msg} (h:m.term<=s.term):ent s m=s:=by
 unfold ent
 rw [if_neg (by omega)]
theorem ent_up {s:PN} {m:Msg} (h:s.term<m.term):ent s m=enterS s m.term:=by
 unfold ent
 rw [if_pos h]
theorem matches_ent (s:PN) (m:Msg):matchesS (ent s m) m↔matchesS s m:=by
 unfold ent
 split <;> exact Iff.rfl
theorem step_mv {s:PN} {m:Msg} {now:Nat} (h:∀ e∈s.log,e.kind≠3) (hk:1<=m.kind/\m.kind<=4):Mv now s m (stepT s m now).1 (stepT s m now).2:=by
 unfold stepT
 split
 ·rename_i hd
  exact .deaf hd.1 hd.2
 ·rename_i hd
  split
  ·rename_i hlt
   unfold refuseS
   split
   ·rename_i k;exact .old1 k hlt
   ·split
    ·rename_i k;exact .old3 k hlt
    ·exact .old (by omega) hlt
  ·rename_i hge
   have e:(if s.term<m.term then handleS (enterS s m.term) m now else handleS s m now)=handleS (ent s m) m now:=by
    unfold ent
    split <;> rfl
   rw [e]
   obtain ⟨-,-,-,-,e5,e6,-,-,-,-,-,-⟩:=ent_same s m
   have ht:=ent_term (s:=s) (m:=m) (by omega)
   unfold handleS
   split
   ·rename_i k
    unfold requestedS
    split
    ·rename_i q
     rw [e5] at q
     exact .grant k (by omega) hd q.1 q.2
    ·rename_i q
     rw [e5] at q
     exact .deny k (by omega) hd q
   ·split
    ·rename_i k
     split
     ·rename_i q
      have hr:¬s.term<m.term:=fun hl=>by rw [ent_up hl] at q;exact absurd q.2 (by show ¬((1:Nat)=2);decide)
      have es:=ent_eq (s:=s) (m:=m) (by omega)
      rw [es] at q ⊢
      split
      ·rename_i el
       exact .lead k q.1 (by omega) q.2 el
      ·rename_i el
       exact .count k q.1 (by omega) q.2 el
     ·rename_i q
      exact .idle (by omega) (.inl ⟨k,q⟩)
    ·split
     ·rename_i k
      split
      ·rename_i q
       exact .idle (by omega) (.inr (.inl ⟨k,q⟩))
      ·rename_i q
       unfold receiveS
       split
       ·rename_i hm
        rw [e5,e6]
        exact .fol k (by omega) q ((matches_ent s m).1 hm)
       ·rename_i hm
        rw [e5]
        exact .nofol k (by omega) q fun x=>hm ((matches_ent s m).2 x)
     ·have k:m.kind=4:=by omega
      split
      ·rename_i q
       have hr:¬s.term<m.term:=fun hl=>by rw [ent_up hl] at q;exact absurd q.1 (by show ¬((1:Nat)=3);decide)
       have es:=ent_eq (s:=s) (m:=m) (by omega)
       rw [es] at q ⊢
       have e1:advS (matchS s m)=advC (matchS s m):=advS3 (s:=matchS s m) h
       obtain ⟨-,-,-,-,s5,s6,s7,-,s9⟩:=advC_same (matchS s m)
       unfold repliedS
       split
       ·rename_i g
        exact .back k (by omega) q.1 g
       ·rename_i g
        have g:m.granted=true:=by simpa using g
        split
        ·rename_i hl
         have:=Mv.idle (now:=now) (s:=s) (m:=m) (by omega) (.inr (.inr ⟨k,.inr (.inr ⟨g,hl⟩)⟩))
         rw [es] at this
         exact this
        ·rename_i hl
         rw [e1]
         split
         ·rename_i hr2
          exact absurd (s6.trans q.1) hr2
         ·split
          ·rename_i hc
           exact .more k (by omega) q.1 g (by omega) hc
          ·rename_i hc
           have hce:(advC (matchS s m)).commit=s.commit:=by
            have:s.commit<=(advC (matchS s m)).commit:=s9
            omega
           have e5':(advC (matchS s m)).log=s.log:=s5
           rw [s7,e5']
           split
           ·rename_i hn
            exact .next k (by omega) q.1 g (by omega) hce hn
           ·rename_i hn
            exact .done k (by omega) q.1 g (by omega) hce (by omega)
      ·rename_i q
       refine .idle (by omega) (.inr (.inr ⟨k,?_⟩))
       by_cases hr:(ent s m).role=3
       ·exact .inr (.inl fun x=>q ⟨hr,x⟩)
       ·exact .inl hr
end
end Go.Proofs.YtcaokpglbolkcaaGreat
namespace Go.Proofs.YtcaokpglbolkcaaGreat
section
def own (s:PN):Nat:=s.log.countP fun e=>decide (e.term=s.term)
structure Sh (now i:Nat) (s:PN):Prop where
 id:s.id=i
 wait:s.wait=8+2*i
 beat:s.beat=2
 ini:s.init=init3
 pl:∀ e∈s.log,e.kind≠3
 la:s.latest<=now
 si:s.since<=now
 hb:s.hb<=now
 vl:s.votes.length=9
 nl:s.next.length=9
 ml:s.mtch.length=9
 c2:s.role=2->s.voted=some i/\s.leader=none/\s.votes.getD i false=true
 l3:s.role=3->s.leader=some i
 nx:s.role=3->∀ f,f<3->f≠i->1<=s.next.getD f 0/\(s.mtch.getD f 0=0\/s.next.getD f 0<=s.mtch.getD f 0+1)
 cm:s.role=3->∀ f,f<3->f≠i->s.mtch.getD f 0=s.log.length->s.commit=s.log.length
 ow:s.role=3->∀ f,f<3->f≠i->s.mtch.getD f 0=0->s.next.getD f 0 - 1+own s<=s.log.length
structure MSh (m:Msg):Prop where
 src:m.src<3
 dst:m.dst<3
 ne:m.src≠m.dst
 kind:1<=m.kind/\m.kind<=4
 pl:∀ e∈m.ents,e.kind≠3
theorem advC_ex (s:PN):∃ c,advC s={ s with commit:=c }/\s.commit<=c:=by
 unfold advC
 split
 ·rename_i h
  exact ⟨_,rfl,Nat.le_of_lt h.2⟩
 ·exact ⟨s.commit,rfl,Nat.le_refl _⟩
theorem mergeL_in:∀ (l log:List Ent) (n:Nat) (e:Ent),e∈mergeL log n l->e∈log\/e∈l
 | [],log,n,e,h=>.inl h
 | x::l,log,n,e,h=>by
  unfold mergeL at h
  split at h
  ·exact (mergeL_in l log (n+1) e h).imp (fun h=>h) fun h=>.tail _ h
  ·rcases List.mem_append.1 h with h | h
   ·exact .inl (List.mem_of_mem_take h)
   ·exact .inr h
theorem rep9 {α:Type} (x d:α) {u:Nat} (h:u<9):(List.replicate 9 x).getD u d=x:=by
 rw [List.getD_eq_getElem?_getD,List.getElem?_replicate,if_pos h];rfl
theorem lead3 {s:PN} {now:Nat} (h:∀ e∈s.log,e.kind≠3) (hi:s.init=init3) (hid:s.id<3):leadS s now=({ leadB s with hb:=now },sendAll (leadB s)):=by
 have hp:∀ e∈(leadB s).log,e.kind≠3:=fun e he=>by
  rcases List.mem_append.1 he with he | he
  ·exact h e he
  ·rw [List.mem_singleton.1 he]
   show (1:Nat)≠3
   decide
 have e1:advS (leadB s)=leadB s:=by
  rw [advS3 hp]
  exact advC_none hp hi hid fun u hu _=>rep9 _ _ (by omega)
 unfold leadS
 rw [e1]
variable {g:G} {now i:Nat} {s s':PN} {m:Msg} {out:List Msg}
theorem Live.last (l:Live init3 g s) (hr:s.role=3):s.log≠[]/\termAt s.log s.log.length=some s.term:=by
 obtain ⟨q1,q2,-⟩:=l.n.lead hr
 have ne:g.el s.term≠none:=by rw [q1];exact fun h=>by cases h
 have hp:=(l.ok.pre _ ne).2
 rw [q2] at hp
 have h0:s.log≠[]:=fun e=>by rw [e] at hp;simp at hp
 refine ⟨h0,?_⟩
 have hl:=List.length_pos_iff.2 h0
 unfold termAt
 rw [if_neg (by omega),List.getElem?_eq_getElem (by omega)]
 have:=l.ok.own _ ne (s.log.length - 1) (s.log[s.log.length - 1]'(by omega)) (by omega) (by rw [q2];exact List.getElem?_eq_getElem (by omega))
 exact congrArg some this
theorem Live.mle (l:Live init3 g s) (hr:s.role=3):∀ u,u≠s.id->s.mtch.getD u 0<=s.log.length:=fun u hu=>by
 obtain ⟨q1,q2,q3,q4,q5⟩:=l.n.lead hr
 have:=l.ok.ackd u s.term
 rw [q2] at this
 exact Nat.le_trans (q5 u hu) this
theorem Live.none (l:Live init3 g s) (hr:s.role=2):own s=0:=by
 obtain ⟨-,q2,-⟩:=l.n.cand hr
 have:=(l.ok.vote _ _ _ _ q2).2.2
 unfold own
 rw [List.countP_eq_zero]
 intro e he
 have:=this e he
 simp;omega
theorem own_le (s:PN):own s<=s.log.length:=List.countP_le_length
theorem Sh.entd (h:Sh now i s) (m:Msg):Sh now i (ent s m):=by
 unfold ent
 split
 ·exact ⟨h.id,h.wait,h.beat,h.ini,h.pl,h.la,h.si,h.hb,h.vl,h.nl,h.ml,fun e=>(by cases e),fun e=>(by cases e),fun e=>(by cases e),fun e=>(by cases e),fun e=>(by cases e)⟩
 ·exact h
theorem msh_v (h:Sh now i s) (hi:i<3) (ms:MSh m) (hd:m.dst=i) (b:Bool):MSh (voteM s m b):=⟨by show s.id<3;rw [h.id];exact hi,ms.src,by show s.id≠m.src;rw [h.id,<- hd];exact ms.ne.symm,⟨by show (1:Nat)<=2;decide,by show (2:Nat)<=4;decide⟩,fun e he=>(by cases he)⟩
theorem msh_r (h:Sh now i s) (hi:i<3) (ms:MSh m) (hd:m.dst=i) (p:Nat) (b:Bool):MSh (repM s m p b):=⟨by show s.id<3;rw [h.id];exact hi,ms.src,by show s.id≠m.src;rw [h.id,<- hd];exact ms.ne.symm,⟨by show (1:Nat)<=4;decide,by show (4:Nat)<=4;decide⟩,fun e he=>(by cases he)⟩
theorem msh_a (hid:s.id=i) (hp:∀ e∈s.log,e.kind≠3) (hi:i<3) {f:Nat} (hf:f<3) (hn:f≠i):MSh (sendAppendS s f):=⟨by show s.id<3;rw [hid];exact hi,hf,by show s.id≠f;rw [hid];exact hn.symm,⟨by show (1:Nat)<=3;decide,by show (3:Nat)<=4;decide⟩,fun e he=>hp e (List.mem_of_mem_drop (List.mem_of_mem_take he))⟩
theorem mem_oth {f i:Nat}:f∈oth i↔f<3/\f≠i:=by
 unfold oth
 rw [List.mem_filter]
 simp
 omega
theorem all_mem {s:PN} (hp:∀ e∈s.log,e.kind≠3) (hi:s.init=init3) {x:Msg}:x∈sendAll s↔∃ f,f<3/\f≠s.id/\x=sendAppendS s f:=by
 unfold sendAll
 rw [others3 hp hi,List.mem_map]
 constructor
 ·rintro ⟨f,hf,rfl⟩
  obtain ⟨h1,h2⟩:=mem_oth.1 hf
  exact ⟨f,h1,h2,rfl⟩
 ·rintro ⟨f,h1,h2,rfl⟩
  exact ⟨f,mem_oth.2 ⟨h1,h2⟩,rfl⟩
theorem Sh.mv (h:Sh now i s) (hi:i<3) (l:Live init3 g s) (ms:MSh m) (hd:m.dst=i) (mv:Mv now s m s' out):Sh now i s'/\∀ x∈out,MSh x:=by
 have he:=h.entd m
 have nil:∀ x∈([]:List Msg),MSh x:=fun x hx=>by cases hx
 have one:∀ {y:Msg},MSh y->∀ x∈[y],MSh x:=fun {y} hy x hx=>by rw [List.mem_singleton.1 hx];exact hy
 have hsi:m.src≠i:=by rw [<- hd];exact ms.ne
 have heard:s.role=3->m.prev<=s.log.length->Sh now i (advC (matchS s m)):=fun hr hpl=>by
  obtain ⟨c,ec,hc⟩:=advC_ex (matchS s m)
  have l1:=l.last hr
  have l2:=l.mle hr
  have l3:=l.comLe
  have mt:∀ u,(matchS s m).mtch.getD u 0=if m.src=u then max (s.mtch.getD m.src 0) m.prev else s.mtch.getD u 0:=fun u=>by
   show (s.mtch.set m.src _).getD u 0=_
   rw [set_getD]
   by_cases e:m.src=u
   ·subst e
    rw [if_pos ⟨rfl,by rw [h.ml];have:=ms.src;omega⟩,if_pos rfl]
   ·rw [if_neg (fun k=>e k.1),if_neg e]
  have nt:∀ u,(matchS s m).next.getD u 0=if m.src=u then max (s.mtch.getD m.src 0) m.prev+1 else s.next.getD u 0:=fun u=>by
   show (s.next.set m.src _).getD u 0=_
   rw [set_getD]
   by_cases e:m.src=u
   ·subst e
    rw [if_pos ⟨rfl,by rw [h.nl];have:=ms.src;omega⟩,if_pos rfl]
   ·rw [if_neg (fun k=>e k.1),if_neg e]
  have all:=fun {f} (hf:f<3) (hn:f≠i) (e:(matchS s m).mtch.getD f 0=s.log.length)=>advC_all (s:=matchS s m) h.pl h.ini (by rw [show (matchS s m).id=s.id from rfl,h.id];exact hi) l1.2 l3 (fun u hu=>by
   rw [mt]
   split
   ·have:=l2 m.src (by rw [h.id];exact hsi)
    show _<=s.log.length
    omega
   ·exact l2 u hu) hf (by rw [show (matchS s m).id=s.id from rfl,h.id];exact hn) e
  rw [ec] at all ⊢
  refine ⟨h.id,h.wait,h.beat,h.ini,h.pl,h.la,h.si,h.hb,h.vl,by show (s.next.set _ _).length=9;rw [List.length_set];exact h.nl,by show (s.mtch.set _ _).length=9;rw [List.length_set];exact h.ml,h.c2,h.l3,fun _ f hf hn=>?_,fun _ f hf hn e=>all hf hn e,fun _ f hf hn=>?_⟩
  ·show 1<=(matchS s m).next.getD f 0/\((matchS s m).mtch.getD f 0=0\/(matchS s m).next.getD f 0<=(matchS s m).mtch.getD f 0+1)
   rw [mt,nt]
   split
   ·omega
   ·exact h.nx hr f hf hn
  ·show (matchS s m).mtch.getD f 0=0->(matchS s m).next.getD f 0 - 1+own s<=s.log.length
   rw [mt,nt]
   split
   ·intro e
    have:=own_le s
    omega
   ·exact h.ow hr f hf hn
 have sends:∀ {t:PN},Sh now i t->∀ x∈sendAll t,MSh x:=fun {t} ht x hx=>by
  obtain ⟨f,h1,h2,rfl⟩:=(all_mem ht.pl ht.ini).1 hx
  exact msh_a ht.id ht.pl hi h1 (by rw [<- ht.id];exact h2)
 cases mv with
 | deaf=>exact ⟨h,nil⟩
 | old1=>exact ⟨h,one (msh_v h hi ms hd _)⟩
 | old3=>exact ⟨h,one (msh_r h hi ms hd _ _)⟩
 | old=>exact ⟨h,nil⟩
 | grant k hle hdf hv hup=>
  refine ⟨⟨he.id,he.wait,he.beat,he.ini,he.pl,he.la,Nat.le_refl _,he.hb,he.vl,he.nl,he.ml,fun e=>?_,he.l3,he.nx,he.cm,he.ow⟩,one (msh_v he hi ms hd _)⟩
  have:=he.c2 e
  rw [this.1] at hv
  rcases hv with hv | hv
  ·cases hv
  ·cases hv
   exact absurd rfl hsi
 | deny=>exact ⟨he,one (msh_v he hi ms hd _)⟩
 | idle=>exact ⟨he,nil⟩
 | count k hg ht hr hq=>
  refine ⟨⟨h.id,h.wait,h.beat,h.ini,h.pl,h.la,h.si,h.hb,by show (s.votes.set _ _).length=9;rw [List.length_set];exact h.vl,h.nl,h.ml,fun e=>⟨(h.c2 e).1,(h.c2 e).2.1,?_⟩,h.l3,h.nx,h.cm,h.ow⟩,nil⟩
  show (s.votes.set _ _).getD i false=true
  rw [set_getD]
  split
  ·rfl
  ·exact (h.c2 e).2.2
 | lead k hg ht hr hq=>
  have e3:=lead3 (s:={ s with votes:=s.votes.set m.src true }) (now:=now) h.pl h.ini (by rw [show ({ s with votes:=s.votes.set m.src true }:PN).id=s.id from rfl,h.id];exact hi)
  rw [e3]
  have hp:∀ e∈s.log++[(⟨s.term,1,[]⟩:Ent)],e.kind≠3:=fun e he=>by
   rcases List.mem_append.1 he with he | he
   ·exact h.pl e he
   ·rw [List.mem_singleton.1 he]
    show (1:Nat)≠3
    decide
  have ho:(s.log++[(⟨s.term,1,[]⟩:Ent)]).countP (fun e=>decide (e.term=s.term))=1:=by
   have:=l.none hr
   unfold own at this
   rw [List.countP_append,this]
   simp
  refine ⟨⟨h.id,h.wait,h.beat,h.ini,hp,h.la,h.si,Nat.le_refl _,by show (s.votes.set _ _).length=9;rw [List.length_set];exact h.vl,rfl,rfl,fun e=>(by cases e),fun _=>by show some s.id=some i;rw [h.id],fun _ f hf hn=>?_,fun _ f hf hn e=>?_,fun _ f hf hn _=>?_⟩,fun x hx=>?_⟩
  ·show 1<=(List.replicate 9 (s.log.length+1)).getD f 0/\((List.replicate 9 0).getD f 0=0\/_)
   rw [rep9 _ _ (by omega)]
   exact ⟨by omega,.inl (rep9 _ _ (by omega))⟩
  ·exfalso
   have e:(List.replicate 9 0).getD f 0=(s.log++[(⟨s.term,1,[]⟩:Ent)]).length:=e
   rw [rep9 _ _ (by omega)] at e
   simp at e
  ·show (List.replicate 9 (s.log.length+1)).getD f 0 - 1+(s.log++[(⟨s.term,1,[]⟩:Ent)]).countP (fun e=>decide (e.term=s.term))<=(s.log++[(⟨s.term,1,[]⟩:Ent)]).length
   rw [ho,rep9 _ _ (by omega)]
   simp
  ·obtain ⟨f,h1,h2,rfl⟩:=(all_mem (s:=leadB { s with votes:=s.votes.set m.src true }) hp h.ini).1 hx
   exact msh_a (s:=leadB { s with votes:=s.votes.set m.src true }) h.id hp hi h1 (by rw [<- h.id];exact h2)
 | fol k hle hr hm=>
  refine ⟨⟨he.id,he.wait,he.beat,he.ini,fun e hx=>?_,he.la,Nat.le_refl _,he.hb,he.vl,he.nl,he.ml,fun e=>(by cases e),fun e=>(by cases e),fun e=>(by cases e),fun e=>(by cases e),fun e=>(by cases e)⟩,one (msh_r he hi ms hd _ _)⟩
  rcases mergeL_in _ _ _ _ hx with hx | hx
  ·exact h.pl e hx
  ·exact ms.pl e hx
 | nofol k hle hr hm=>
  exact ⟨⟨he.id,he.wait,he.beat,he.ini,he.pl,he.la,Nat.le_refl _,he.hb,he.vl,he.nl,he.ml,fun e=>(by cases e),fun e=>(by cases e),fun e=>(by cases e),fun e=>(by cases e),fun e=>(by cases e)⟩,one (msh_r he hi ms hd _ _)⟩
 | back k ht hr hg=>
  have nt:∀ u,(backS s m).next.getD u 0=if m.src=u then max (min (s.next.getD m.src 0 - 1) (m.prev+1)) 1 else s.next.getD u 0:=fun u=>by
   show (s.next.set m.src _).getD u 0=_
   rw [set_getD]
   by_cases e:m.src=u
   ·subst e
    rw [if_pos ⟨rfl,by rw [h.nl];have:=ms.src;omega⟩,if_pos rfl]
   ·rw [if_neg (fun k=>e k.1),if_neg e]
  refine ⟨⟨h.id,h.wait,h.beat,h.ini,h.pl,h.la,h.si,h.hb,h.vl,by show (s.next.set _ _).length=9;rw [List.length_set];exact h.nl,h.ml,h.c2,h.l3,fun _ f hf hn=>?_,h.cm,fun _ f hf hn e=>?_⟩,one (msh_a (s:=backS s m) h.id h.pl hi ms.src hsi)⟩
  ·have:=h.nx hr f hf hn
   show 1<=(backS s m).next.getD f 0/\(s.mtch.getD f 0=0\/(backS s m).next.getD f 0<=s.mtch.getD f 0+1)
   rw [nt]
   split
   ·rename_i e
    subst e
    omega
   ·exact this
  ·have h1:=h.ow hr f hf hn e
   have h2:=h.nx hr f hf hn
   show (backS s m).next.getD f 0 - 1+own s<=s.log.length
   rw [nt]
   split
   ·rename_i e
    subst e
    omega
   ·exact h1
 | more k ht hr hg hpl hc=>exact ⟨heard hr hpl,sends (heard hr hpl)⟩
 | next k ht hr hg hpl hc hn=>
  have hs:=heard hr hpl
  exact ⟨hs,one (msh_a hs.id hs.pl hi ms.src hsi)⟩
 | done k ht hr hg hpl hc hn=>exact ⟨heard hr hpl,nil⟩
end
end Go.Proofs.YtcaokpglbolkcaaGreat
namespace Go.Proofs.YtcaokpglbolkcaaGreat
section
def clb (s:PN) (f x:Nat):Nat:=(s.log.length - max (s.mtch.getD f 0) x+15) / 16
def wA (K:Nat) (s:PN) (m:Msg):Nat:=
 if s.role=1 then 2 else if s.role=3/\m.term=s.term/\(m.prev=0\/m.prev<=s.mtch.getD m.dst 0) then 2+2*clb s m.dst (m.prev+m.ents.length) else 2*K+2
def wR (K:Nat) (s:PN) (m:Msg):Nat:=
 if s.role=1\/m.term≠s.term then 1 else if s.role=3/\m.granted=true then 1+2*clb s m.src m.prev else 2*K+1
def wt (K:Nat) (N:Nat->PN) (m:Msg):Nat:=if m.kind=1 then 2 else if m.kind=2 then 1 else if m.kind=3 then wA K (N m.src) m else wR K (N m.dst) m
def lag (s:PN) (f:Nat):Nat:=if s.mtch.getD f 0=0 then s.next.getD f 0 - 1 else 0
def unc (s:PN):Nat:=(s.log.drop s.commit).countP fun e=>decide (e.term=s.term)
def rsv (K:Nat) (s:PN):Nat:=
 if s.role=3 then 2*((oth s.id).map (lag s)).sum+(2*K+2)*unc s+(if s.commit<s.log.length then 2 else 0) else if s.role=2 then 6*K+8+4*s.log.length else 0
def Big (K:Nat) (s:PN):Prop:=(s.role=3->s.log.length<=16*K)/\(s.role=2->s.log.length+1<=16*K)
def phi (K:Nat) (N:Nat->PN) (q:List Msg):Nat:=(q.map (wt K N)).sum+(rsv K (N 0)+rsv K (N 1)+rsv K (N 2))
def Fade (K:Nat) (s s':PN):Prop:=s'.role=1\/(s'.role=2/\s.role=2/\s'.term=s.term)\/(s'.role=3/\s'.term=s.term/\s'.log.length<=16*K/\(s.role=2\/(s.role=3/\s'.log=s.log/\∀ u,s.mtch.getD u 0<=s'.mtch.getD u 0)))
variable {K:Nat} {g:G} {now i:Nat} {s s' t:PN} {m x:Msg} {out:List Msg}
theorem clb_le (h:s.log.length<=16*K) (f x:Nat):clb s f x<=K:=by unfold clb;omega
theorem wA_ge (K:Nat) (s:PN) (m:Msg):2<=wA K s m:=by unfold wA;(repeat' split) <;> omega
theorem wR_ge (K:Nat) (s:PN) (m:Msg):1<=wR K s m:=by unfold wR;(repeat' split) <;> omega
theorem wA3 (h:s.role=3):wA K s m=if m.term=s.term/\(m.prev=0\/m.prev<=s.mtch.getD m.dst 0) then 2+2*clb s m.dst (m.prev+m.ents.length) else 2*K+2:=by
 unfold wA
 simp only [h,show ¬(3:Nat)=1 from by decide,if_false,true_and]
theorem wA2 (h:s.role=2):wA K s m=2*K+2:=by
 unfold wA
 simp only [h,show ¬(2:Nat)=1 from by decide,show ¬(2:Nat)=3 from by decide,if_false,false_and]
theorem wR3 (h:s.role=3):wR K s m=if m.term≠s.term then 1 else if m.granted=true then 1+2*clb s m.src m.prev else 2*K+1:=by
 unfold wR
 simp only [h,show ¬(3:Nat)=1 from by decide,false_or,true_and]
theorem wA_le (h:Big K s) (m:Msg):wA K s m<=2*K+2:=by
 unfold wA
 split
 ·omega
 ·split
  ·rename_i k
   have:=clb_le (h.1 k.1) m.dst (m.prev+m.ents.length)
   omega
  ·omega
theorem Fade.a (h:Fade K s s') (m:Msg):wA K s' m<=wA K s m:=by
 rcases h with h | ⟨h1,h2,h3⟩ | ⟨h1,h2,h3,h4⟩
 ·have:=wA_ge K s m
  have e:wA K s' m=2:=by unfold wA;rw [if_pos h]
  omega
 ·rw [wA2 h1,wA2 h2]
  exact Nat.le_refl _
 ·rcases h4 with h4 | ⟨h4,h5,h6⟩
  ·rw [wA2 h4]
   exact wA_le ⟨fun _=>h3,fun k=>by omega⟩ m
  ·rw [wA3 h1,wA3 h4]
   have a:=h6 m.dst
   have c:clb s' m.dst (m.prev+m.ents.length)<=clb s m.dst (m.prev+m.ents.length):=by unfold clb;rw [h5];omega
   have d:=clb_le h3 m.dst (m.prev+m.ents.length)
   split
   ·split
    ·omega
    ·omega
   ·rename_i k
    rw [if_neg fun q=>k ⟨q.1.trans h2.symm,q.2.imp id fun r=>by omega⟩]
    exact Nat.le_refl _
theorem Fade.r (h:Fade K s s') (m:Msg):wR K s' m<=wR K s m:=by
 rcases h with h | ⟨h1,h2,h3⟩ | ⟨h1,h2,h3,h4⟩
 ·have:=wR_ge K s m
  have e:wR K s' m=1:=by unfold wR;rw [if_pos (.inl h)]
  omega
 ·unfold wR
  rw [h1,h2,h3]
  exact Nat.le_refl _
 ·have d:=clb_le h3 m.src m.prev
  rcases h4 with h4 | ⟨h4,h5,h6⟩
  ·unfold wR
   rw [h1,h2,h4]
   simp only [show ¬(3:Nat)=1 from by decide,show ¬(2:Nat)=1 from by decide,show ¬(2:Nat)=3 from by decide,false_or,false_and,true_and,if_false]
   split
   ·omega
   ·split <;> omega
  ·unfold wR
   rw [h1,h2,h4]
   have a:=h6 m.src
   have c:clb s' m.src m.prev<=clb s m.src m.prev:=by unfold clb;rw [h5];omega
   split
   ·omega
   ·split <;> omega
theorem oth_two {i u:Nat} (hi:i<3) (hu:u<3) (hn:u≠i) (F:Nat->Nat):((oth i).map F).sum=F u+F (3 - i - u):=by
 have:(i=0/\u=1)\/(i=0/\u=2)\/(i=1/\u=0)\/(i=1/\u=2)\/(i=2/\u=0)\/(i=2/\u=1):=by omega
 rcases this with ⟨rfl,rfl⟩ | ⟨rfl,rfl⟩ | ⟨rfl,rfl⟩ | ⟨rfl,rfl⟩ | ⟨rfl,rfl⟩ | ⟨rfl,rfl⟩ <;> simp [oth] <;> omega
theorem unc_less {c:Nat} (h1:s.commit<c) (h2:termAt s.log c=some s.term):unc { s with commit:=c }+1<=unc s:=by
 obtain ⟨a1,a2⟩:=termAt_some h2
 obtain ⟨e,he,ht⟩:=a2.resolve_left (by omega)
 have ed:s.log.drop s.commit=(s.log.drop s.commit).take (c - s.commit)++s.log.drop c:=by
  have:s.log.drop c=(s.log.drop s.commit).drop (c - s.commit):=by rw [List.drop_drop];congr 1;omega
  rw [this,List.take_append_drop]
 unfold unc
 show (s.log.drop c).countP (fun e=>decide (e.term=s.term))+1<=_
 rw [ed,List.countP_append]
 have:0<((s.log.drop s.commit).take (c - s.commit)).countP fun e=>decide (e.term=s.term):=by
  rw [List.countP_pos_iff]
  refine ⟨e,?_,by simp [ht]⟩
  refine List.mem_of_getElem? (i:=c - 1 - s.commit) ?_
  rw [List.getElem?_take,if_pos (by omega),List.getElem?_drop,show s.commit+(c - 1 - s.commit)=c - 1 from by omega]
  exact he
 omega
theorem unc_own (s:PN):unc s<=own s:=(List.drop_sublist _ _).countP_le
theorem sure_fol (l:Live init3 g s) (lt:Live init3 g t) (ht:t.role=3) (hm:MsgOk g m) (hk:m.kind=3) (e1:m.term=t.term) (e2:m.src=t.id) (hd:m.dst=s.id) (hle:s.term<=m.term) (hp:m.prev=0\/m.prev<=t.mtch.getD m.dst 0):matchesS s m:=by
 have l1:Live init3 g (ent s m):=by
  unfold ent
  split
  ·rename_i h;exact l.enter h
  ·exact l
 have eT:=ent_term hle
 obtain ⟨f1,-,-,f4,f5,f6,-⟩:=ent_same s m
 obtain ⟨a1,a2,a3,a4,a5⟩:=hm.app hk
 have ne:g.el m.term≠none:=by rw [a1];exact fun h=>by cases h
 have hne:m.dst≠t.id:=by rw [<- e2];exact hm.ne.symm
 have hack:m.prev<=g.ack s.id m.term:=by
  obtain ⟨-,-,-,-,q5⟩:=lt.n.lead ht
  rcases hp with hp | hp
  ·omega
  ·have:=q5 m.dst hne
   rw [hd,<- e1] at this
   rw [hd] at hp
   omega
 have hh:Has (g.ll m.term) m.prev s.log:=by
  have:=l1.n.holds m.term m.prev (by rw [eT];exact Nat.le_refl _) (by rw [f1];exact hack) ne fun T'' q1 q2=>by rw [eT] at q2;omega
  rw [f5] at this
  exact this
 constructor
 ·unfold termAt at a3 ⊢
  split
  ·rename_i e
   rw [if_pos e] at a3
   exact a3
  ·rename_i e
   rw [if_neg e] at a3
   rw [hh.at (by omega)]
   exact a3
 ·intro i e hi hc
  rcases l1.n.com with k | ⟨T0,n0,k1,k2,k3,k4⟩
  ·rw [f6] at k
   omega
  ·rw [f6,f5] at k4
   rw [f6] at k3
   rw [eT] at k2
   have hb:Has (g.ll T0) s.commit (g.ll m.term):=by
    rcases Nat.lt_or_ge T0 m.term with hl | hl
    ·exact ((complete l.ok m.term T0 n0 k1 hl ne).pre (l.ok.pre _ ne).1).less k3
    ·obtain rfl:T0=m.term:=by omega
     have:=(l.ok.evs _ _ k1).2.2.1
     exact Has.self (by omega)
   rw [k4.at (by omega),<- hb.at (by omega)]
   obtain ⟨r,hr⟩:=a4
   have:=congrArg (fun x=>x[i]?) hr
   have hil:=(List.getElem?_eq_some_iff.1 hi).1
   simp only [List.getElem?_drop] at this
   rw [List.getElem?_append_left hil,hi] at this
   exact this.symm
end
end Go.Proofs.YtcaokpglbolkcaaGreat
namespace Go.Proofs.YtcaokpglbolkcaaGreat
section
variable {K:Nat} {g:G} {now i:Nat} {s s' t:PN} {m x:Msg} {out:List Msg} {N:Nat->PN}
theorem fade_refl (l:Live init3 g s) (hb:Big K s):Fade K s s:=by
 rcases l.rl with e | e | e
 ·exact .inl e
 ·exact .inr (.inl ⟨e,e,rfl⟩)
 ·exact .inr (.inr ⟨e,rfl,hb.1 e,.inr ⟨e,rfl,fun _=>Nat.le_refl _⟩⟩)
theorem fade_ent (l:Live init3 g s) (hb:Big K s) (m:Msg):Fade K s (ent s m)/\Big K (ent s m):=by
 unfold ent
 split
 ·exact ⟨.inl rfl,fun e=>(by cases e),fun e=>(by cases e)⟩
 ·exact ⟨fade_refl l hb,hb⟩
theorem matchS_m (h:s.mtch.length=9) (hs:m.src<3) (u:Nat):(matchS s m).mtch.getD u 0=if m.src=u then max (s.mtch.getD m.src 0) m.prev else s.mtch.getD u 0:=by
 show (s.mtch.set m.src _).getD u 0=_
 rw [set_getD]
 by_cases e:m.src=u
 ·subst e
  rw [if_pos ⟨rfl,by omega⟩,if_pos rfl]
 ·rw [if_neg (fun k=>e k.1),if_neg e]
theorem matchS_n (h:s.next.length=9) (hs:m.src<3) (u:Nat):(matchS s m).next.getD u 0=if m.src=u then max (s.mtch.getD m.src 0) m.prev+1 else s.next.getD u 0:=by
 show (s.next.set m.src _).getD u 0=_
 rw [set_getD]
 by_cases e:m.src=u
 ·subst e
  rw [if_pos ⟨rfl,by omega⟩,if_pos rfl]
 ·rw [if_neg (fun k=>e k.1),if_neg e]
theorem backS_n (h:s.next.length=9) (hs:m.src<3) (u:Nat):(backS s m).next.getD u 0=if m.src=u then max (min (s.next.getD m.src 0 - 1) (m.prev+1)) 1 else s.next.getD u 0:=by
 show (s.next.set m.src _).getD u 0=_
 rw [set_getD]
 by_cases e:m.src=u
 ·subst e
  rw [if_pos ⟨rfl,by omega⟩,if_pos rfl]
 ·rw [if_neg (fun k=>e k.1),if_neg e]
theorem Sh.fade (h:Sh now i s) (hi:i<3) (l:Live init3 g s) (hb:Big K s) (ms:MSh m) (mv:Mv now s m s' out):Fade K s s'/\Big K s':=by
 have hr:=fade_refl l hb
 have he:=fade_ent l hb m
 have heard:s.role=3->Fade K s (advC (matchS s m))/\Big K (advC (matchS s m)):=fun hr=>by
  obtain ⟨c,ec,hc⟩:=advC_ex (matchS s m)
  rw [ec]
  exact ⟨.inr (.inr ⟨hr,rfl,hb.1 hr,.inr ⟨hr,rfl,fun u=>by
   show _<=(matchS s m).mtch.getD u 0
   rw [matchS_m h.ml ms.src]
   split
   ·rename_i e;subst e;omega
   ·exact Nat.le_refl _⟩⟩),hb⟩
 cases mv with
 | deaf=>exact ⟨hr,hb⟩
 | old1=>exact ⟨hr,hb⟩
 | old3=>exact ⟨hr,hb⟩
 | old=>exact ⟨hr,hb⟩
 | grant=>exact he
 | deny=>exact he
 | idle=>exact he
 | count=>exact ⟨hr,hb⟩
 | lead k hg ht h2 hq=>
  rw [lead3 (s:={ s with votes:=s.votes.set m.src true }) (now:=now) h.pl h.ini (by rw [show ({ s with votes:=s.votes.set m.src true }:PN).id=s.id from rfl,h.id];exact hi)]
  have hl:(s.log++[(⟨s.term,1,[]⟩:Ent)]).length<=16*K:=by
   have:=hb.2 h2
   simpa using this
  exact ⟨.inr (.inr ⟨rfl,rfl,hl,.inl h2⟩),fun _=>hl,fun e=>(by cases e)⟩
 | fol=>exact ⟨.inl rfl,fun e=>(by cases e),fun e=>(by cases e)⟩
 | nofol=>exact ⟨.inl rfl,fun e=>(by cases e),fun e=>(by cases e)⟩
 | back k ht hr3 hg=>exact ⟨.inr (.inr ⟨hr3,rfl,hb.1 hr3,.inr ⟨hr3,rfl,fun _=>Nat.le_refl _⟩⟩),hb⟩
 | more k ht hr=>exact heard hr
 | next k ht hr=>exact heard hr
 | done k ht hr=>exact heard hr
theorem rsv_ent (K:Nat) (s:PN) (m:Msg):rsv K (ent s m)<=rsv K s:=by
 unfold ent
 split
 ·have:rsv K (enterS s m.term)=0:=rfl
  omega
 ·exact Nat.le_refl _
theorem rsv3 (h:s.role=3) (hid:s.id=i):rsv K s=2*((oth i).map (lag s)).sum+(2*K+2)*unc s+(if s.commit<s.log.length then 2 else 0):=by
 unfold rsv
 rw [if_pos h,hid]
theorem wA_sure (hr:s.role=3) {f:Nat} (hp:s.next.getD f 0 - 1=0\/s.next.getD f 0 - 1<=s.mtch.getD f 0) (hn:s.next.getD f 0 - 1<=s.log.length):wA K s (sendAppendS s f)=2+2*((s.log.length - max (s.mtch.getD f 0) (min (s.next.getD f 0 - 1+16) s.log.length)+15) / 16):=by
 rw [wA3 hr,if_pos ⟨rfl,hp⟩]
 unfold clb
 have e:(sendAppendS s f).prev+(sendAppendS s f).ents.length=min (s.next.getD f 0 - 1+16) s.log.length:=by
  show s.next.getD f 0 - 1+((s.log.drop (s.next.getD f 0 - 1)).take 16).length=_
  rw [List.length_take,List.length_drop]
  omega
 rw [e]
 rfl
theorem ar1 {M L:Nat} (h:M<L):(L - max M (min (M+16) L)+15) / 16+1=(L - M+15) / 16:=by omega
theorem ar2 {M L:Nat} (h:M=L):(L - max M (min (M+16) L)+15) / 16=0/\(L - M+15) / 16=0:=by omega
theorem ar3 {K L x a:Nat} (h:L<=16*K) (h0:0<L):(L - max a (min (x+16) L)+15) / 16+1<=K:=by omega
theorem Sh.heard (h:Sh now i s) (hi:i<3) (l:Live init3 g s) (ms:MSh m) (ne:m.src≠i) (hr:s.role=3) (hp:m.prev<=s.log.length):∃ c,advC (matchS s m)={ matchS s m with commit:=c }/\s.commit<=c/\c<=s.log.length/\(s.commit<c->unc (advC (matchS s m))+1<=unc s)/\(c=s.commit->unc (advC (matchS s m))=unc s)/\(max (s.mtch.getD m.src 0) m.prev=s.log.length->c=s.log.length):=by
 have l1:=l.last hr
 have l2:=l.mle hr
 have l3:=l.comLe
 have all:=fun e=>advC_all (s:=matchS s m) h.pl h.ini (by rw [show (matchS s m).id=s.id from rfl,h.id];exact hi) l1.2 l3 (fun u hu=>by
  rw [matchS_m h.ml ms.src]
  split
  ·have:=l2 m.src (by rw [h.id];exact ne)
   show _<=s.log.length
   omega
  ·exact l2 u hu) ms.src (by rw [show (matchS s m).id=s.id from rfl,h.id];exact ne) e
 rw [matchS_m h.ml ms.src,if_pos rfl] at all
 by_cases hq:termAt (matchS s m).log (committedS (matchS s m).memb (matchS s m).reach)=some (matchS s m).term/\(matchS s m).commit<committedS (matchS s m).memb (matchS s m).reach
 ·have e:advC (matchS s m)={ matchS s m with commit:=committedS (matchS s m).memb (matchS s m).reach }:=by unfold advC;rw [if_pos hq]
  rw [e] at all
  have q3:=(termAt_some hq.1).1
  refine ⟨_,e,Nat.le_of_lt hq.2,q3,fun hc=>?_,fun hc=>?_,all⟩
  ·rw [e]
   exact unc_less (s:=matchS s m) hq.2 hq.1
  ·rw [e,hc]
   rfl
 ·have e:advC (matchS s m)=matchS s m:=by unfold advC;rw [if_neg hq]
  rw [e] at all
  exact ⟨s.commit,e,Nat.le_refl _,l3,fun hc=>absurd hc (Nat.lt_irrefl _),fun _=>by rw [e];rfl,all⟩
theorem Sh.cost (h:Sh now i s) (hi:i<3) (l:Live init3 g s) (hb:Big K s) (ms:MSh m) (hm:MsgOk g m) (hd:m.dst=i) (lt:Live init3 g (N m.src)) (hsi:(N m.src).id=m.src) (hbt:Big K (N m.src)) (mv:Mv now s m s' out) (hN:N i=s'):
  (out.map (wt K N)).sum+rsv K s'+1<=(if m.kind=1 then 2 else if m.kind=2 then 1 else if m.kind=3 then wA K (N m.src) m else wR K s m)+rsv K s:=by
 have ne:m.src≠i:=by rw [<- hd];exact ms.ne
 have re:=rsv_ent K s m
 have one:∀ y:Msg,(([y]:List Msg).map (wt K N)).sum=wt K N y:=fun y=>by simp
 have wv:∀ b,wt K N (voteM (ent s m) m b)=1:=fun b=>rfl
 have wv':∀ b,wt K N (voteM s m b)=1:=fun b=>rfl
 have g2:=wA_ge K (N m.src) m
 cases mv with
 | deaf k _=>
  rw [if_pos k]
  simp
  omega
 | old1 k _=>
  rw [if_pos k,one,wv']
  omega
 | old3 k hlt=>
  rw [if_neg (by omega),if_neg (by omega),if_pos k,one]
  have e:wt K N (repM s m 0 false)=wR K (N m.src) (repM s m 0 false):=rfl
  rw [e]
  have:wR K (N m.src) (repM s m 0 false)+1<=wA K (N m.src) m:=by
   rcases lt.rl with r | r | r
   ·have:wR K (N m.src) (repM s m 0 false)=1:=by unfold wR;rw [if_pos (.inl r)]
    omega
   ·rw [wA2 r]
    unfold wR
    split
    ·omega
    ·rw [if_neg (by omega)]
     omega
   ·rw [wR3 r]
    split
    ·omega
    ·rename_i q
     have q:(repM s m 0 false).term=(N m.src).term:=Decidable.not_not.1 q
     have q:s.term=(N m.src).term:=q
     rw [if_neg (by show ¬(false=true);decide),wA3 r,if_neg (fun a=>by omega)]
     omega
  omega
 | old k _=>
  have:=wR_ge K s m
  rw [if_neg (by omega)]
  simp only [List.map_nil,List.sum_nil]
  split
  ·omega
  ·rw [if_neg (by omega)]
   omega
 | grant k hle hdf hv hup=>
  rw [if_pos k,one,wv]
  have e:rsv K { ent s m with voted:=some m.src,since:=now }=rsv K (ent s m):=rfl
  omega
 | deny k=>
  rw [if_pos k,one,wv]
  omega
 | idle hle hq=>
  have:=wR_ge K s m
  simp only [List.map_nil,List.sum_nil]
  split
  ·omega
  ·split
   ·omega
   ·split <;> omega
 | count k hg ht hr hq=>
  rw [if_neg (by omega),if_pos k]
  have e:rsv K { s with votes:=s.votes.set m.src true }=rsv K s:=rfl
  rw [e]
  simp
  omega
 | lead k hg ht hr hq=>
  rw [if_neg (by omega),if_pos k]
  have hl:(s.log++[(⟨s.term,1,[]⟩:Ent)]).length<=16*K:=by
   have:=hb.2 hr
   simpa using this
  rw [lead3 (s:={ s with votes:=s.votes.set m.src true }) (now:=now) h.pl h.ini (by rw [show ({ s with votes:=s.votes.set m.src true }:PN).id=s.id from rfl,h.id];exact hi)] at hN ⊢
  have hp:∀ e∈s.log++[(⟨s.term,1,[]⟩:Ent)],e.kind≠3:=fun e he=>by
   rcases List.mem_append.1 he with he | he
   ·exact h.pl e he
   ·rw [List.mem_singleton.1 he]
    show (1:Nat)≠3
    decide
  have ho:(s.log++[(⟨s.term,1,[]⟩:Ent)]).countP (fun e=>decide (e.term=s.term))=1:=by
   have:=l.none hr
   unfold own at this
   rw [List.countP_append,this]
   simp
  generalize hL:leadB { s with votes:=s.votes.set m.src true }=L at*
  have Lid:L.id=i:=by rw [<- hL];exact h.id
  have Llog:L.log=s.log++[⟨s.term,1,[]⟩]:=by rw [<- hL];rfl
  have Lr:L.role=3:=by rw [<- hL];rfl
  have Lm:∀ u,u<9->L.mtch.getD u 0=0:=fun u hu=>by rw [<- hL];exact rep9 _ _ hu
  have Ln:∀ u,u<9->L.next.getD u 0=s.log.length+1:=fun u hu=>by rw [<- hL];exact rep9 _ _ hu
  have Lu:unc L<=1:=by
   have:=unc_own L
   have e:own L=1:=by
    unfold own
    rw [Llog,<- hL]
    exact ho
   omega
  have hall:sendAll L=(oth i).map (sendAppendS L):=by
   unfold sendAll
   rw [others3 (by rw [Llog];exact hp) (by rw [<- hL];exact h.ini),Lid]
  have bigL:Big K { L with hb:=now }:=⟨fun _=>by show L.log.length<=_;rw [Llog];exact hl,fun e=>by
   have e:L.role=2:=e
   omega⟩
  have wa:∀ f,wt K N (sendAppendS L f)<=2*K+2:=fun f=>by
   show wA K (N L.id) (sendAppendS L f)<=_
   rw [Lid,hN]
   exact wA_le bigL _
  have er:rsv K { L with hb:=now }=rsv K L:=rfl
  have hr3:=rsv3 (K:=K) Lr Lid
  have ll:∀ f,f<9->lag L f=s.log.length:=fun f hf=>by
   unfold lag
   rw [if_pos (Lm f hf),Ln f hf];omega
  have e2:rsv K s=6*K+8+4*s.log.length:=by
   unfold rsv
   rw [if_neg (by omega),if_pos hr]
  rw [hall,List.map_map,oth_two hi ms.src ne,er,hr3,oth_two hi ms.src ne,ll m.src (by have:=ms.src;omega),ll (3 - i - m.src) (by omega),e2]
  have w1:(wt K N ∘ sendAppendS L) m.src<=2*K+2:=wa _
  have w2:(wt K N ∘ sendAppendS L) (3 - i - m.src)<=2*K+2:=wa _
  have hu:(2*K+2)*unc L<=2*K+2:=by
   have:=Nat.mul_le_mul_left (2*K+2) Lu
   omega
  split <;> omega
 | fol k hle hr hmt=>
  rw [if_neg (by omega),if_neg (by omega),if_pos k,one]
  have e0:rsv K { recvB (ent s m) m now with log:=mergeL s.log m.prev m.ents,commit:=max s.commit (min m.commit (m.prev+m.ents.length)) }=0:=rfl
  rw [e0]
  have eT:=ent_term hle
  have e:wt K N (repM (ent s m) m (m.prev+m.ents.length) true)=wR K (N m.src) (repM (ent s m) m (m.prev+m.ents.length) true):=rfl
  rw [e]
  have:wR K (N m.src) (repM (ent s m) m (m.prev+m.ents.length) true)+1<=wA K (N m.src) m:=by
   rcases lt.rl with r | r | r
   ·have:wR K (N m.src) (repM (ent s m) m (m.prev+m.ents.length) true)=1:=by unfold wR;rw [if_pos (.inl r)]
    omega
   ·rw [wA2 r]
    unfold wR
    split
    ·omega
    ·rw [if_neg (by omega)]
     omega
   ·rw [wR3 r]
    split
    ·omega
    ·rename_i q
     have q:(ent s m).term=(N m.src).term:=Decidable.not_not.1 q
     have e3:(repM (ent s m) m (m.prev+m.ents.length) true).src=m.dst:=by show (ent s m).id=m.dst;rw [(ent_same s m).1,h.id,hd]
     rw [if_pos (show (repM (ent s m) m (m.prev+m.ents.length) true).granted=true from rfl),e3,wA3 r]
     have c:=clb_le (hbt.1 r) m.dst (m.prev+m.ents.length)
     have e4:(repM (ent s m) m (m.prev+m.ents.length) true).prev=m.prev+m.ents.length:=rfl
     rw [e4]
     split <;> omega
  omega
 | nofol k hle hr hmt=>
  rw [if_neg (by omega),if_neg (by omega),if_pos k,one]
  have e0:rsv K (recvB (ent s m) m now)=0:=rfl
  rw [e0]
  have eT:=ent_term hle
  generalize hP:min s.log.length (m.prev - 1)=P
  have e:wt K N (repM (ent s m) m P false)=wR K (N m.src) (repM (ent s m) m P false):=rfl
  rw [e]
  have:wR K (N m.src) (repM (ent s m) m P false)+1<=wA K (N m.src) m:=by
   rcases lt.rl with r | r | r
   ·have:wR K (N m.src) (repM (ent s m) m P false)=1:=by unfold wR;rw [if_pos (.inl r)]
    omega
   ·rw [wA2 r]
    unfold wR
    split
    ·omega
    ·rw [if_neg (by omega)]
     omega
   ·rw [wR3 r]
    split
    ·omega
    ·rename_i q
     have q:(ent s m).term=(N m.src).term:=Decidable.not_not.1 q
     rw [if_neg (by show ¬(false=true);decide),wA3 r,if_neg fun a=>hmt (sure_fol l lt r hm k a.1 hsi.symm (by rw [h.id];exact hd) hle a.2)]
     omega
  omega
 | back k ht hr hg=>
  rw [if_neg (by omega),if_neg (by omega),if_neg (by omega),one]
  have e:wt K N (sendAppendS (backS s m) m.src)=wA K (backS s m) (sendAppendS (backS s m) m.src):=by
   show wA K (N s.id) _=_
   rw [h.id,hN]
  have ew:wR K s m=2*K+1:=by rw [wR3 hr,if_neg (fun a=>a ht),if_neg (by rw [hg];decide)]
  rw [e,ew]
  have hr':(backS s m).role=3:=hr
  have n1:=h.nx hr m.src ms.src ne
  have n2:=l.nx hr m.src
  have bn:=backS_n h.nl ms.src (s:=s) (m:=m) m.src
  rw [if_pos rfl] at bn
  have lg1:lag (backS s m) (3 - i - m.src)=lag s (3 - i - m.src):=by
   unfold lag
   rw [backS_n h.nl ms.src,if_neg (show ¬m.src=3 - i - m.src by have:=ms.src;omega)]
   rfl
  rw [rsv3 (K:=K) hr' (i:=i) h.id,rsv3 (K:=K) hr h.id,oth_two hi ms.src ne,oth_two hi ms.src ne,lg1]
  have eu:unc (backS s m)=unc s:=rfl
  have ec:(backS s m).commit=s.commit:=rfl
  have el:(backS s m).log=s.log:=rfl
  rw [eu,ec,el]
  have hL:=hb.1 hr
  have h0:=List.length_pos_iff.2 (l.last hr).1
  have lgs:lag s m.src=if s.mtch.getD m.src 0=0 then s.next.getD m.src 0 - 1 else 0:=rfl
  have lgb:lag (backS s m) m.src=if s.mtch.getD m.src 0=0 then (backS s m).next.getD m.src 0 - 1 else 0:=rfl
  rw [lgs,lgb,bn]
  have em:(backS s m).mtch=s.mtch:=rfl
  have nn:max (min (s.next.getD m.src 0 - 1) (m.prev+1)) 1 - 1<=s.next.getD m.src 0 - 1:=by omega
  by_cases hz:(backS s m).next.getD m.src 0 - 1=0\/(backS s m).next.getD m.src 0 - 1<=s.mtch.getD m.src 0
  ·have w:=wA_sure (K:=K) hr' (f:=m.src) hz (by rw [bn,el];omega)
   rw [bn,el,em] at w
   have q:=ar3 (a:=s.mtch.getD m.src 0) (x:=max (min (s.next.getD m.src 0 - 1) (m.prev+1)) 1 - 1) hL h0
   rw [w]
   generalize (s.log.length - max (s.mtch.getD m.src 0) (min (max (min (s.next.getD m.src 0 - 1) (m.prev+1)) 1 - 1+16) s.log.length)+15) / 16=X at*
   generalize max (min (s.next.getD m.src 0 - 1) (m.prev+1)) 1 - 1=Y at*
   clear w lgs lgb
   split <;> omega
  ·rw [bn] at hz
   have hz0:s.mtch.getD m.src 0=0:=by omega
   have w:=wA_le (K:=K) (s:=backS s m) hb (sendAppendS (backS s m) m.src)
   have hy:max (min (s.next.getD m.src 0 - 1) (m.prev+1)) 1 - 1+1<=s.next.getD m.src 0 - 1:=by omega
   rw [if_pos hz0,if_pos hz0]
   clear lgs lgb
   generalize max (min (s.next.getD m.src 0 - 1) (m.prev+1)) 1 - 1=Y at*
   omega
 | more k ht hr hg hpl hc=>
  rw [if_neg (by omega),if_neg (by omega),if_neg (by omega)]
  obtain ⟨c,ec,c1,c2,c3,c4,c5⟩:=h.heard hi l ms ne hr hpl
  have hc':s.commit<c:=by rw [ec] at hc;exact hc
  have c3:=c3 hc'
  have l2:=l.mle hr m.src (by rw [h.id];exact ne)
  have hL:=hb.1 hr
  have ew:wR K s m=1+2*((s.log.length - max (s.mtch.getD m.src 0) m.prev+15) / 16):=by rw [wR3 hr,if_neg (fun a=>a ht),if_pos hg];rfl
  rw [ew]
  generalize hS:advC (matchS s m)=S at*
  have Sid:S.id=i:=by rw [ec];exact h.id
  have Sr:S.role=3:=by rw [ec];exact hr
  have Sl:S.log=s.log:=by rw [ec];rfl
  have Sc:S.commit=c:=by rw [ec]
  have Sm:∀ u,S.mtch.getD u 0=if m.src=u then max (s.mtch.getD m.src 0) m.prev else s.mtch.getD u 0:=fun u=>by rw [ec];exact matchS_m h.ml ms.src u
  have Sn:∀ u,S.next.getD u 0=if m.src=u then max (s.mtch.getD m.src 0) m.prev+1 else s.next.getD u 0:=fun u=>by rw [ec];exact matchS_n h.nl ms.src u
  have hall:sendAll S=(oth i).map (sendAppendS S):=by
   unfold sendAll
   rw [others3 (by rw [Sl];exact h.pl) (by rw [ec];exact h.ini),Sid]
  have sm:=Sm m.src
  have sn:=Sn m.src
  rw [if_pos rfl] at sm sn
  have w1:=wA_sure (K:=K) Sr (f:=m.src) (by rw [sm,sn];omega) (by rw [sn,Sl];omega)
  have w2:=wA_le (K:=K) (s:=S) ⟨fun _=>by rw [Sl];exact hL,fun a=>by omega⟩ (sendAppendS S (3 - i - m.src))
  have e1:∀ f,wt K N (sendAppendS S f)=wA K S (sendAppendS S f):=fun f=>by
   show wA K (N S.id) _=_
   rw [Sid,hN]
  rw [sm,sn,Sl] at w1
  have lg1:lag S (3 - i - m.src)=lag s (3 - i - m.src):=by
   unfold lag
   rw [Sm,Sn,if_neg (show ¬m.src=3 - i - m.src by have:=ms.src;omega),if_neg (show ¬m.src=3 - i - m.src by have:=ms.src;omega)]
  have lg0:lag S m.src<=lag s m.src:=by
   unfold lag
   rw [sm,sn]
   split
   ·omega
   ·omega
  rw [hall,List.map_map,oth_two hi ms.src ne,rsv3 (K:=K) Sr Sid,rsv3 (K:=K) hr h.id,oth_two hi ms.src ne,oth_two hi ms.src ne,lg1]
  have e3:(wt K N ∘ sendAppendS S) m.src=wA K S (sendAppendS S m.src):=e1 _
  have e4:(wt K N ∘ sendAppendS S) (3 - i - m.src)=wA K S (sendAppendS S (3 - i - m.src)):=e1 _
  rw [e3,e4,w1,Sc,Sl]
  have hu:(2*K+2)*unc S+(2*K+2)<=(2*K+2)*unc s:=by
   have:=Nat.mul_le_mul_left (2*K+2) c3
   rw [Nat.mul_add] at this
   omega
  rw [if_pos (show s.commit<s.log.length from Nat.lt_of_lt_of_le hc' c2),Nat.add_sub_cancel]
  have hM:max (s.mtch.getD m.src 0) m.prev<=s.log.length:=Nat.max_le.2 ⟨l2,hpl⟩
  generalize max (s.mtch.getD m.src 0) m.prev=M at*
  generalize lag S m.src=B1 at*
  generalize lag s m.src=B2 at*
  generalize lag s (3 - i - m.src)=B3 at*
  generalize wA K S (sendAppendS S (3 - i - m.src))=W2 at*
  generalize (2*K+2)*unc S=U1 at*
  generalize (2*K+2)*unc s=U2 at*
  by_cases hz:M=s.log.length
  ·obtain ⟨q1,q2⟩:=ar2 hz
   rw [if_neg (by rw [c5 hz];exact Nat.lt_irrefl _),q1,q2]
   clear hall w1 Sm Sn
   omega
  ·have q:=ar1 (M:=M) (L:=s.log.length) (by omega)
   generalize (s.log.length - max M (min (M+16) s.log.length)+15) / 16=X1 at*
   generalize (s.log.length - M+15) / 16=X2 at*
   clear hall w1 Sm Sn
   split <;> omega
 | next k ht hr hg hpl hc hn=>
  rw [if_neg (by omega),if_neg (by omega),if_neg (by omega),one]
  obtain ⟨c,ec,c1,c2,c3,c4,c5⟩:=h.heard hi l ms ne hr hpl
  have hc':c=s.commit:=by rw [ec] at hc;exact hc
  have c4:=c4 hc'
  have l2:=l.mle hr m.src (by rw [h.id];exact ne)
  have hL:=hb.1 hr
  have ew:wR K s m=1+2*((s.log.length - max (s.mtch.getD m.src 0) m.prev+15) / 16):=by rw [wR3 hr,if_neg (fun a=>a ht),if_pos hg];rfl
  rw [ew]
  have sn0:=matchS_n h.nl ms.src (s:=s) (m:=m) m.src
  rw [if_pos rfl] at sn0
  rw [sn0] at hn
  generalize hS:advC (matchS s m)=S at*
  have Sid:S.id=i:=by rw [ec];exact h.id
  have Sr:S.role=3:=by rw [ec];exact hr
  have Sl:S.log=s.log:=by rw [ec];rfl
  have Sc:S.commit=c:=by rw [ec]
  have Sm:∀ u,S.mtch.getD u 0=if m.src=u then max (s.mtch.getD m.src 0) m.prev else s.mtch.getD u 0:=fun u=>by rw [ec];exact matchS_m h.ml ms.src u
  have Sn:∀ u,S.next.getD u 0=if m.src=u then max (s.mtch.getD m.src 0) m.prev+1 else s.next.getD u 0:=fun u=>by rw [ec];exact matchS_n h.nl ms.src u
  have sm:=Sm m.src
  have sn:=Sn m.src
  rw [if_pos rfl] at sm sn
  have w1:=wA_sure (K:=K) Sr (f:=m.src) (by rw [sm,sn];omega) (by rw [sn,Sl];omega)
  have e1:wt K N (sendAppendS S m.src)=wA K S (sendAppendS S m.src):=by
   show wA K (N S.id) _=_
   rw [Sid,hN]
  rw [sm,sn,Sl] at w1
  have lg1:lag S (3 - i - m.src)=lag s (3 - i - m.src):=by
   unfold lag
   rw [Sm,Sn,if_neg (show ¬m.src=3 - i - m.src by have:=ms.src;omega),if_neg (show ¬m.src=3 - i - m.src by have:=ms.src;omega)]
  have lg0:lag S m.src<=lag s m.src:=by
   unfold lag
   rw [sm,sn]
   split
   ·omega
   ·omega
  rw [e1,w1,rsv3 (K:=K) Sr Sid,rsv3 (K:=K) hr h.id,oth_two hi ms.src ne,oth_two hi ms.src ne,lg1,Sc,Sl,hc',c4,Nat.add_sub_cancel]
  have q:=ar1 (M:=max (s.mtch.getD m.src 0) m.prev) (L:=s.log.length) (by omega)
  generalize (s.log.length - max (max (s.mtch.getD m.src 0) m.prev) (min (max (s.mtch.getD m.src 0) m.prev+16) s.log.length)+15) / 16=X1 at*
  generalize (s.log.length - max (s.mtch.getD m.src 0) m.prev+15) / 16=X2 at*
  clear w1 Sm Sn
  split <;> omega
 | done k ht hr hg hpl hc hn=>
  rw [if_neg (by omega),if_neg (by omega),if_neg (by omega)]
  obtain ⟨c,ec,c1,c2,c3,c4,c5⟩:=h.heard hi l ms ne hr hpl
  have hc':c=s.commit:=by rw [ec] at hc;exact hc
  have c4:=c4 hc'
  have:=wR_ge K s m
  generalize hS:advC (matchS s m)=S at*
  have Sid:S.id=i:=by rw [ec];exact h.id
  have Sr:S.role=3:=by rw [ec];exact hr
  have Sl:S.log=s.log:=by rw [ec];rfl
  have Sc:S.commit=c:=by rw [ec]
  have Sm:∀ u,S.mtch.getD u 0=if m.src=u then max (s.mtch.getD m.src 0) m.prev else s.mtch.getD u 0:=fun u=>by rw [ec];exact matchS_m h.ml ms.src u
  have Sn:∀ u,S.next.getD u 0=if m.src=u then max (s.mtch.getD m.src 0) m.prev+1 else s.next.getD u 0:=fun u=>by rw [ec];exact matchS_n h.nl ms.src u
  have sm:=Sm m.src
  have sn:=Sn m.src
  rw [if_pos rfl] at sm sn
  have lg1:lag S (3 - i - m.src)=lag s (3 - i - m.src):=by
   unfold lag
   rw [Sm,Sn,if_neg (show ¬m.src=3 - i - m.src by have:=ms.src;omega),if_neg (show ¬m.src=3 - i - m.src by have:=ms.src;omega)]
  have lg0:lag S m.src<=lag s m.src:=by
   unfold lag
   rw [sm,sn]
   split
   ·omega
   ·omega
  rw [rsv3 (K:=K) Sr Sid,rsv3 (K:=K) hr h.id,oth_two hi ms.src ne,oth_two hi ms.src ne,lg1,Sc,Sl,hc',c4]
  simp only [List.map_nil,List.sum_nil]
  omega
end
end Go.Proofs.YtcaokpglbolkcaaGreat
namespace Go.Proofs.YtcaokpglbolkcaaGreat
section
def upd (N:Nat->PN) (d:Nat) (s:PN):Nat->PN:=fun j=>if j=d then s else N j
theorem upd_self (N:Nat->PN) (d:Nat) (s:PN):upd N d s d=s:=if_pos rfl
theorem upd_ne (N:Nat->PN) {d j:Nat} (s:PN) (h:j≠d):upd N d s j=N j:=if_neg h
structure J (now:Nat) (N:Nat->PN) (q:List Msg):Prop where
 sys:∃ g,Sys init3 g N 3 q
 sh:∀ i,i<3->Sh now i (N i)
 ms:∀ m∈q,MSh m
noncomputable def dl (now:Nat) (X:(Nat->PN) × List Msg):(Nat->PN) × List Msg:=
 match X.2 with
 | []=>X
 | m::q=>(upd X.1 m.dst (stepS (X.1 m.dst) m now).1,q++(stepS (X.1 m.dst) m now).2)
variable {K now:Nat} {N:Nat->PN} {q:List Msg} {m:Msg}
theorem Sh.clock {i:Nat} {s:PN} (h:Sh now i s):Sh now i (s.at now):={ h with la:=by show max s.latest now<=now;have:=h.la;omega }
theorem at_latest {i:Nat} {s:PN} (h:Sh now i s):(s.at now).latest=now:=by show max s.latest now=now;have:=h.la;omega
theorem J.mv (j:J now N (m::q)):Mv now ((N m.dst).at now) m (stepS (N m.dst) m now).1 (stepS (N m.dst) m now).2:=by
 have ms:=j.ms m (.head _)
 have h:=j.sh m.dst ms.dst
 unfold stepS
 rw [at_latest h]
 exact step_mv h.pl ms.kind
theorem J.step (j:J now N (m::q)):J now (upd N m.dst (stepS (N m.dst) m now).1) (q++(stepS (N m.dst) m now).2):=by
 have ms:=j.ms m (.head _)
 have h:=j.sh m.dst ms.dst
 have mv:=j.mv
 obtain ⟨g,sys⟩:=j.sys
 obtain ⟨l,hid⟩:=sys.live m.dst ms.dst
 obtain ⟨h1,h2⟩:=h.clock.mv ms.dst (l.clock now) ms rfl mv
 refine ⟨?_,fun i hi=>?_,fun x hx=>?_⟩
 ·obtain ⟨g',-,s'⟩:=sys.step ms.dst (l.steps (sys.msg m (.head _)) ms.kind hid.symm now) (F':=q++(stepS (N m.dst) m now).2) fun x hx=>(List.mem_append.1 hx).imp (fun h=>.tail _ h) fun h=>h
  exact ⟨g',s'⟩
 ·by_cases e:i=m.dst
  ·subst e
   rw [upd_self];exact h1
  ·rw [upd_ne N _ e];exact j.sh i hi
 ·rcases List.mem_append.1 hx with hx | hx
  ·exact j.ms x (.tail _ hx)
  ·exact h2 x hx
theorem sum_le {l:List Msg} {F G:Msg->Nat} (h:∀ x,F x<=G x):(l.map F).sum<=(l.map G).sum:=by
 induction l with
 | nil=>exact Nat.le_refl _
 | cons a l ih=>
  have:=h a
  simp only [List.map_cons,List.sum_cons]
  omega
theorem J.less (j:J now N (m::q)) (hb:∀ i,i<3->Big K (N i)):
  (∀ i,i<3->Big K (upd N m.dst (stepS (N m.dst) m now).1 i))/\phi K (upd N m.dst (stepS (N m.dst) m now).1) (q++(stepS (N m.dst) m now).2)+1<=phi K N (m::q):=by
 have ms:=j.ms m (.head _)
 have h:=j.sh m.dst ms.dst
 have mv:=j.mv
 obtain ⟨g,sys⟩:=j.sys
 obtain ⟨l,hid⟩:=sys.live m.dst ms.dst
 have hB:Big K ((N m.dst).at now):=hb _ ms.dst
 obtain ⟨f1,f2⟩:=h.clock.fade ms.dst (l.clock now) hB ms mv
 have hNs:upd N m.dst (stepS (N m.dst) m now).1 m.src=N m.src:=upd_ne N _ ms.ne
 have c:=h.clock.cost (N:=upd N m.dst (stepS (N m.dst) m now).1) ms.dst (l.clock now) hB ms (sys.msg m (.head _)) rfl (by rw [hNs];exact (sys.live _ ms.src).1) (by rw [hNs];exact (sys.live _ ms.src).2) (by rw [hNs];exact hb _ ms.src) mv (upd_self _ _ _)
 rw [hNs] at c
 have e1:wt K N m=if m.kind=1 then 2 else if m.kind=2 then 1 else if m.kind=3 then wA K (N m.src) m else wR K ((N m.dst).at now) m:=rfl
 rw [<- e1] at c
 have e2:rsv K ((N m.dst).at now)=rsv K (N m.dst):=rfl
 rw [e2] at c
 generalize (stepS (N m.dst) m now).1=s' at*
 generalize (stepS (N m.dst) m now).2=out at*
 refine ⟨fun i hi=>?_,?_⟩
 ·by_cases e:i=m.dst
  ·subst e
   rw [upd_self];exact f2
  ·rw [upd_ne N _ e];exact hb i hi
 ·have hq:(q.map (wt K (upd N m.dst s'))).sum<=(q.map (wt K N)).sum:=sum_le fun x=>by
   unfold wt
   split
   ·exact Nat.le_refl _
   ·split
    ·exact Nat.le_refl _
    ·split
     ·by_cases e:x.src=m.dst
      ·rw [e,upd_self];exact f1.a x
      ·rw [upd_ne N _ e];exact Nat.le_refl _
     ·by_cases e:x.dst=m.dst
      ·rw [e,upd_self];exact f1.r x
      ·rw [upd_ne N _ e];exact Nat.le_refl _
  unfold phi
  rw [List.map_append,List.sum_append_nat,List.map_cons,List.sum_cons]
  have hd:=ms.dst
  generalize m.dst=d at*
  have:d=0\/d=1\/d=2:=by omega
  rcases this with rfl | rfl | rfl
  ·rw [upd_self,upd_ne N (d:=0) (j:=1) _ (by omega),upd_ne N (d:=0) (j:=2) _ (by omega)]
   omega
  ·rw [upd_self,upd_ne N (d:=1) (j:=0) _ (by omega),upd_ne N (d:=1) (j:=2) _ (by omega)]
   omega
  ·rw [upd_self,upd_ne N (d:=2) (j:=0) _ (by omega),upd_ne N (d:=2) (j:=1) _ (by omega)]
   omega
noncomputable def dls (now:Nat):Nat->(Nat->PN) × List Msg->(Nat->PN) × List Msg
 | 0,X=>X
 | n+1,X=>dls now n (dl now X)
theorem dl_cons:dl now (N,m::q)=(upd N m.dst (stepS (N m.dst) m now).1,q++(stepS (N m.dst) m now).2):=rfl
theorem J.run {P:(Nat->PN)->List Msg->Prop} (hP:∀ N m q,J now N (m::q)->P N (m::q)->P (upd N m.dst (stepS (N m.dst) m now).1) (q++(stepS (N m.dst) m now).2)):
  ∀ c N q,J now N q->(∀ i,i<3->Big K (N i))->phi K N q<=c->P N q->∃ n N',n<=c/\dls now n (N,q)=(N',[])/\(∀ k,k<n->(dls now k (N,q)).2≠[])/\J now N' []/\P N' []
 | c,N,[],j,_,_,p=>⟨0,N,Nat.zero_le _,rfl,fun k h=>by omega,j,p⟩
 | c,N,m::q,j,hb,hc,p=>by
  obtain ⟨b1,b2⟩:=j.less hb
  obtain ⟨c,rfl⟩:∃ c',c=c'+1:=⟨c - 1,by omega⟩
  obtain ⟨n,N',h1,h2,h3,h4,h5⟩:=J.run hP c _ _ j.step b1 (by omega) (hP N m q j p)
  refine ⟨n+1,N',by omega,h2,fun k hk=>?_,h4,h5⟩
  cases k with
  | zero=>exact fun e=>by cases e
  | succ k=>exact h3 k (by omega)
end
end Go.Proofs.YtcaokpglbolkcaaGreat
namespace Go.Proofs.YtcaokpglbolkcaaGreat
section
variable {g:G} {now i:Nat} {s s':PN} {m:Msg} {out:List Msg}
theorem ent_cases (s:PN) (m:Msg):(ent s m=s/\m.term<=s.term)\/(ent s m=enterS s m.term/\s.term<m.term):=by
 unfold ent
 split
 ·rename_i h;exact .inr ⟨rfl,h⟩
 ·exact .inl ⟨rfl,by omega⟩
theorem heard_same (s:PN) (m:Msg):(advC (matchS s m)).id=s.id/\(advC (matchS s m)).term=s.term/\(advC (matchS s m)).role=s.role/\(advC (matchS s m)).hb=s.hb/\(advC (matchS s m)).log=s.log/\(advC (matchS s m)).leader=s.leader/\(advC (matchS s m)).since=s.since/\(advC (matchS s m)).voted=s.voted:=by
 obtain ⟨c,ec,-⟩:=advC_ex (matchS s m)
 rw [ec]
 exact ⟨rfl,rfl,rfl,rfl,rfl,rfl,rfl,rfl⟩
theorem mv_t (mv:Mv now s m s' out):s'.id=s.id/\(s'.term=s.term\/(s.term<m.term/\s'.term=m.term/\s'.role=1)):=by
 have e:∀ t:PN,t.id=(ent s m).id->t.term=(ent s m).term->(t.role=(ent s m).role\/t.role=1)->t.id=s.id/\(t.term=s.term\/(s.term<m.term/\t.term=m.term/\t.role=1)):=fun t h1 h2 h3=>by
  rcases ent_cases s m with ⟨h,hl⟩ | ⟨h,hl⟩
  ·rw [h] at h1 h2
   exact ⟨h1,.inl h2⟩
  ·rw [h] at h1 h2 h3
   exact ⟨h1,.inr ⟨hl,h2,h3.elim (fun h=>h) fun h=>h⟩⟩
 cases mv with
 | deaf=>exact ⟨rfl,.inl rfl⟩
 | old1=>exact ⟨rfl,.inl rfl⟩
 | old3=>exact ⟨rfl,.inl rfl⟩
 | old=>exact ⟨rfl,.inl rfl⟩
 | grant=>exact e _ rfl rfl (.inl rfl)
 | deny=>exact e _ rfl rfl (.inl rfl)
 | idle=>exact e _ rfl rfl (.inl rfl)
 | count=>exact ⟨rfl,.inl rfl⟩
 | lead=>
  have h:(leadS { s with votes:=s.votes.set m.src true } now).1.id=s.id/\(leadS { s with votes:=s.votes.set m.src true } now).1.term=s.term:=by
   unfold leadS
   have h1:∀ t:PN,(advS t).id=t.id/\(advS t).term=t.term:=fun t=>by
    obtain ⟨s1,s2,s3,-⟩:=advC_same t
    unfold advS
    (repeat' split) <;> exact ⟨s1,s3⟩
   exact h1 (leadB { s with votes:=s.votes.set m.src true })
  exact ⟨h.1,.inl h.2⟩
 | fol=>exact e _ rfl rfl (.inr rfl)
 | nofol=>exact e _ rfl rfl (.inr rfl)
 | back=>exact ⟨rfl,.inl rfl⟩
 | more=>exact ⟨(heard_same s m).1,.inl (heard_same s m).2.1⟩
 | next=>exact ⟨(heard_same s m).1,.inl (heard_same s m).2.1⟩
 | done=>exact ⟨(heard_same s m).1,.inl (heard_same s m).2.1⟩
theorem mv_lead3 (h:Sh now i s) (hi:i<3):leadS { s with votes:=s.votes.set m.src true } now=({ leadB { s with votes:=s.votes.set m.src true } with hb:=now },(oth i).map (sendAppendS (leadB { s with votes:=s.votes.set m.src true }))):=by
 rw [lead3 (s:={ s with votes:=s.votes.set m.src true }) (now:=now) h.pl h.ini (by rw [show ({ s with votes:=s.votes.set m.src true }:PN).id=s.id from rfl,h.id];exact hi)]
 congr 1
 unfold sendAll
 rw [others3 (s:=leadB { s with votes:=s.votes.set m.src true }) (fun e he=>by
  rcases List.mem_append.1 he with he | he
  ·exact h.pl e he
  ·rw [List.mem_singleton.1 he]
   show (1:Nat)≠3
   decide) h.ini]
 rw [show (leadB { s with votes:=s.votes.set m.src true }).id=s.id from rfl,h.id]
theorem heard_all (h:Sh now i s):sendAll (advC (matchS s m))=(oth i).map (sendAppendS (advC (matchS s m))):=by
 obtain ⟨c,ec,-⟩:=advC_ex (matchS s m)
 rw [ec]
 unfold sendAll
 rw [others3 (s:={ matchS s m with commit:=c }) h.pl h.ini]
 rw [show ({ matchS s m with commit:=c }:PN).id=s.id from rfl,h.id]
theorem mv_role (h:Sh now i s) (hi:i<3) (mv:Mv now s m s' out):s'.role=1\/(s'.role=s.role/\s'.term=s.term/\s'.hb=s.hb/\s'.log=s.log/\s'.leader=s.leader)\/
  (s.role=2/\s'.role=3/\s'.term=s.term/\s'.hb=now/\m.kind=2/\m.granted=true/\m.term=s.term/\∀ f,f<3->f≠i->∃ x∈out,x.kind=3/\x.src=i/\x.dst=f/\x.term=s.term):=by
 have e:∀ t:PN,t.role=(ent s m).role->t.term=(ent s m).term->t.hb=(ent s m).hb->t.log=(ent s m).log->t.leader=(ent s m).leader->t.role=1\/(t.role=s.role/\t.term=s.term/\t.hb=s.hb/\t.log=s.log/\t.leader=s.leader):=fun t h1 h2 h3 h4 h5=>by
  rcases ent_cases s m with ⟨h,hl⟩ | ⟨h,hl⟩
  ·rw [h] at h1 h2 h3 h4 h5
   exact .inr ⟨h1,h2,h3,h4,h5⟩
  ·rw [h] at h1
   exact .inl h1
 have hh:=heard_same s m
 cases mv with
 | deaf=>exact .inr (.inl ⟨rfl,rfl,rfl,rfl,rfl⟩)
 | old1=>exact .inr (.inl ⟨rfl,rfl,rfl,rfl,rfl⟩)
 | old3=>exact .inr (.inl ⟨rfl,rfl,rfl,rfl,rfl⟩)
 | old=>exact .inr (.inl ⟨rfl,rfl,rfl,rfl,rfl⟩)
 | grant=>exact (e _ rfl rfl rfl rfl rfl).imp (fun h=>h) .inl
 | deny=>exact (e _ rfl rfl rfl rfl rfl).imp (fun h=>h) .inl
 | idle=>exact (e _ rfl rfl rfl rfl rfl).imp (fun h=>h) .inl
 | count=>exact .inr (.inl ⟨rfl,rfl,rfl,rfl,rfl⟩)
 | lead k hg ht hr hq=>
  rw [mv_lead3 h hi]
  refine .inr (.inr ⟨hr,rfl,rfl,rfl,k,hg,ht,fun f hf hn=>⟨_,List.mem_map.2 ⟨f,mem_oth.2 ⟨hf,hn⟩,rfl⟩,rfl,h.id,rfl,rfl⟩⟩)
 | fol=>exact .inl rfl
 | nofol=>exact .inl rfl
 | back=>exact .inr (.inl ⟨rfl,rfl,rfl,rfl,rfl⟩)
 | more=>exact .inr (.inl ⟨hh.2.2.1,hh.2.1,hh.2.2.2.1,hh.2.2.2.2.1,hh.2.2.2.2.2.1⟩)
 | next=>exact .inr (.inl ⟨hh.2.2.1,hh.2.1,hh.2.2.2.1,hh.2.2.2.2.1,hh.2.2.2.2.2.1⟩)
 | done=>exact .inr (.inl ⟨hh.2.2.1,hh.2.1,hh.2.2.2.1,hh.2.2.2.2.1,hh.2.2.2.2.2.1⟩)
theorem mv_out (h:Sh now i s) (hi:i<3) (mv:Mv now s m s' out):∀ x∈out,x.src=i/\x.term=s'.term/\x.kind≠1/\(x.kind=2->m.kind=1/\x.dst=m.src/\(x.granted=true->s'.term=m.term/\s'.voted=some m.src))/\
  (x.kind=3->s'.role=3/\((s.role=2/\s'.hb=now)\/(s.role=3/\m.kind=4/\m.term=s.term)))/\(x.kind=4->m.kind=3/\x.dst=m.src):=by
 have one:∀ {P:Msg->Prop} {y:Msg},P y->∀ x∈[y],P x:=fun {P y} hy x hx=>by rw [List.mem_singleton.1 hx];exact hy
 have hh:=heard_same s m
 have eid:(ent s m).id=i:=by rw [(ent_same s m).1,h.id]
 cases mv with
 | deaf=>intro x hx;cases hx
 | old1 k=>exact one ⟨h.id,rfl,by show (2:Nat)≠1;decide,fun _=>⟨k,rfl,fun e=>(by cases e)⟩,fun e=>(by cases e),fun e=>(by cases e)⟩
 | old3 k=>exact one ⟨h.id,rfl,by show (4:Nat)≠1;decide,fun e=>(by cases e),fun e=>(by cases e),fun e=>⟨k,rfl⟩⟩
 | old=>intro x hx;cases hx
 | grant k hle=>exact one ⟨eid,rfl,by show (2:Nat)≠1;decide,fun _=>⟨k,rfl,fun _=>⟨ent_term hle,rfl⟩⟩,fun e=>(by cases e),fun e=>(by cases e)⟩
 | deny k=>exact one ⟨eid,rfl,by show (2:Nat)≠1;decide,fun _=>⟨k,rfl,fun e=>(by cases e)⟩,fun e=>(by cases e),fun e=>(by cases e)⟩
 | idle=>intro x hx;cases hx
 | count=>intro x hx;cases hx
 | lead k hg ht hr hq=>
  rw [mv_lead3 h hi]
  intro x hx
  obtain ⟨f,-,rfl⟩:=List.mem_map.1 hx
  exact ⟨h.id,rfl,by show (3:Nat)≠1;decide,fun e=>(by cases e),fun _=>⟨rfl,.inl ⟨hr,rfl⟩⟩,fun e=>(by cases e)⟩
 | fol k=>exact one ⟨eid,rfl,by show (4:Nat)≠1;decide,fun e=>(by cases e),fun e=>(by cases e),fun _=>⟨k,rfl⟩⟩
 | nofol k=>exact one ⟨eid,rfl,by show (4:Nat)≠1;decide,fun e=>(by cases e),fun e=>(by cases e),fun _=>⟨k,rfl⟩⟩
 | back k ht hr=>exact one ⟨h.id,rfl,by show (3:Nat)≠1;decide,fun e=>(by cases e),fun _=>⟨hr,.inr ⟨hr,k,ht⟩⟩,fun e=>(by cases e)⟩
 | more k ht hr=>
  rw [heard_all h]
  intro x hx
  obtain ⟨f,-,rfl⟩:=List.mem_map.1 hx
  exact ⟨hh.1.trans h.id,rfl,by show (3:Nat)≠1;decide,fun e=>(by cases e),fun _=>⟨hh.2.2.1.trans hr,.inr ⟨hr,k,ht⟩⟩,fun e=>(by cases e)⟩
 | next k ht hr=>exact one ⟨hh.1.trans h.id,rfl,by show (3:Nat)≠1;decide,fun e=>(by cases e),fun _=>⟨hh.2.2.1.trans hr,.inr ⟨hr,k,ht⟩⟩,fun e=>(by cases e)⟩
 | done=>intro x hx;cases hx
theorem mv_ld (h:Sh now i s) (hi:i<3) (mv:Mv now s m s' out):(s'.leader=s.leader/\s'.term=s.term/\s'.since=s.since/\(s'.role=s.role\/s'.role=3))\/s'.leader=none\/(m.kind=1/\¬deaf s m now/\s'.leader=s.leader/\s'.term=s.term)\/
  (m.kind=3/\s.term<=m.term/\(ent s m).role≠3/\s'.leader=some m.src/\s'.since=now/\s'.role=1/\s'.term=m.term)\/(s.role=2/\s'.role=3):=by
 have hh:=heard_same s m
 cases mv with
 | deaf=>exact .inl ⟨rfl,rfl,rfl,.inl rfl⟩
 | old1=>exact .inl ⟨rfl,rfl,rfl,.inl rfl⟩
 | old3=>exact .inl ⟨rfl,rfl,rfl,.inl rfl⟩
 | old=>exact .inl ⟨rfl,rfl,rfl,.inl rfl⟩
 | grant k hle hd=>
  rcases ent_cases s m with ⟨e,hl⟩ | ⟨e,hl⟩
  ·rw [e];exact .inr (.inr (.inl ⟨k,hd,rfl,rfl⟩))
  ·rw [e];exact .inr (.inl rfl)
 | deny k hle hd=>
  rcases ent_cases s m with ⟨e,hl⟩ | ⟨e,hl⟩
  ·rw [e];exact .inl ⟨rfl,rfl,rfl,.inl rfl⟩
  ·rw [e];exact .inr (.inl rfl)
 | idle=>
  rcases ent_cases s m with ⟨e,hl⟩ | ⟨e,hl⟩
  ·rw [e];exact .inl ⟨rfl,rfl,rfl,.inl rfl⟩
  ·rw [e];exact .inr (.inl rfl)
 | count=>exact .inl ⟨rfl,rfl,rfl,.inl rfl⟩
 | lead k hg ht hr hq=>
  rw [mv_lead3 h hi]
  exact .inr (.inr (.inr (.inr ⟨hr,rfl⟩)))
 | fol k hle hr=>exact .inr (.inr (.inr (.inl ⟨k,hle,hr,rfl,rfl,rfl,ent_term hle⟩)))
 | nofol k hle hr=>exact .inr (.inr (.inr (.inl ⟨k,hle,hr,rfl,rfl,rfl,ent_term hle⟩)))
 | back=>exact .inl ⟨rfl,rfl,rfl,.inl rfl⟩
 | more=>exact .inl ⟨hh.2.2.2.2.2.1,hh.2.1,hh.2.2.2.2.2.2.1,.inl hh.2.2.1⟩
 | next=>exact .inl ⟨hh.2.2.2.2.2.1,hh.2.1,hh.2.2.2.2.2.2.1,.inl hh.2.2.1⟩
 | done=>exact .inl ⟨hh.2.2.2.2.2.1,hh.2.1,hh.2.2.2.2.2.2.1,.inl hh.2.2.1⟩
end
end Go.Proofs.YtcaokpglbolkcaaGreat
namespace Go.Proofs.YtcaokpglbolkcaaGreat
section
variable {g:G} {now M i:Nat} {N N1:Nat->PN} {q:List Msg} {s s':PN} {m:Msg} {out:List Msg}
def App (x y T:Nat) (m:Msg):Prop:=m.kind=3/\m.src=x/\m.dst=y/\m.term=T
def Rep (y x T:Nat) (m:Msg):Prop:=m.kind=4/\m.src=y/\m.dst=x/\m.term=T
def Fol (now M:Nat) (s:PN) (x:Nat):Prop:=s.term=M/\s.role=1/\s.leader=some x/\s.since=now
def Evd (now:Nat) (N:Nat->PN) (q:List Msg) (x:Nat):Prop:=((N x).role=3/\(N x).hb=now)\/(∃ m∈q,m.kind=3/\m.src=x)\/∃ j,j<3/\j≠x/\(N j).leader=some x/\(N j).since=now
structure Rb (now M:Nat) (N1 N:Nat->PN) (q:List Msg):Prop where
 t1:∀ i,i<3->(N1 i).term<=(N i).term
 tM:∀ i,i<3->(N i).term<=M
 mt:∀ m∈q,m.term<=M
 rl:∀ i,i<3->(N i).role≠1->(N i).term=(N1 i).term
 ap:∀ m∈q,m.kind=3->(N1 m.src).term<=m.term/\m.term<=(N m.src).term/\(m.term=(N m.src).term->(N m.src).role=3/\(N m.src).hb=now)
 ar:∀ m∈q,m.kind=4->(N m.dst).role=3->m.term=(N m.dst).term->(N m.dst).hb=now
 bw:∀ i,i<3->(N i).role≠3->(N i).leader≠none->now<(N i).since+(N i).wait
 ev:∀ x y,x<3->y<3->y≠x->(N1 y).term=M->Evd now N q x->(N x).term=M\/(∃ m∈q,m.kind=3/\m.src=x/\m.dst=y)\/∃ m∈q,Rep y x M m
 cov:∀ x f,x<3->f<3->f≠x->(N x).role=3->(N x).hb=now->(N x).term=M->
  ((∃ m∈q,App x f M m)\/Fol now M (N f) x)/\((∃ m∈q,App x f M m)\/(∃ m∈q,Rep f x M m)\/((N x).mtch.getD f 0=(N x).log.length/\(N x).next.getD f 0=(N x).log.length+1))
theorem not_deaf {s:PN} (hd:¬deaf s m now) (hk:m.kind=1):s.role≠3/\(s.leader=none\/s.since+s.wait<=now):=by
 constructor
 ·exact fun e=>hd ⟨hk,.inl e⟩
 ·cases hx:s.leader with
  | none=>exact .inl rfl
  | some x=>
   refine .inr (Nat.le_of_not_lt fun k=>hd ⟨hk,.inr ⟨(by rw [hx];exact fun e=>(by cases e)),k⟩⟩)
theorem Rb.step (j:J now N (m::q)) (r:Rb now M N1 N (m::q)):Rb now M N1 (upd N m.dst (stepS (N m.dst) m now).1) (q++(stepS (N m.dst) m now).2):=by
 have ms:=j.ms m (.head _)
 have h:=(j.sh m.dst ms.dst).clock
 have mv:=j.mv
 have j':=j.step
 obtain ⟨g,sys⟩:=j.sys
 have l:=(sys.live m.dst ms.dst).1.clock now
 have hm:=sys.msg m (.head _)
 have ro:=mv_role h ms.dst mv
 have ot:=mv_out h ms.dst mv
 have tt:=(mv_t mv).2
 have ld:=mv_ld h ms.dst mv
 have rl0:=r.rl m.dst ms.dst
 have bw0:=r.bw m.dst ms.dst
 have t10:=r.t1 m.dst ms.dst
 have tM0:=r.tM m.dst ms.dst
 have mt0:=r.mt m (.head _)
 have ap0:=r.ap m (.head _)
 have ar0:=r.ar m (.head _)
 have ne:=ms.ne
 have eS:((N m.dst).at now).term=(N m.dst).term/\((N m.dst).at now).role=(N m.dst).role/\((N m.dst).at now).hb=(N m.dst).hb/\((N m.dst).at now).leader=(N m.dst).leader/\((N m.dst).at now).since=(N m.dst).since/\((N m.dst).at now).wait=(N m.dst).wait/\((N m.dst).at now).log=(N m.dst).log/\((N m.dst).at now).mtch=(N m.dst).mtch/\((N m.dst).at now).next=(N m.dst).next:=⟨rfl,rfl,rfl,rfl,rfl,rfl,rfl,rfl,rfl⟩
 obtain ⟨eS1,eS2,eS3,eS4,eS5,eS6,eS7,eS8,eS9⟩:=eS
 have sh':=j'.sh m.dst ms.dst
 rw [upd_self] at sh'
 generalize hS:(N m.dst).at now=S at*
 generalize (stepS (N m.dst) m now).1=s' at*
 generalize (stepS (N m.dst) m now).2=out at*
 rw [<- eS1] at t10 tM0
 have tle:S.term<=s'.term/\s'.term<=M:=by omega
 have self:upd N m.dst s' m.dst=s':=upd_self N _ s'
 have other:∀ {k},k≠m.dst->upd N m.dst s' k=N k:=fun {k} hk=>upd_ne N s' hk
 have mem:∀ {x},x∈q->x∈q++out:=fun {x} hx=>List.mem_append_left _ hx
 have memo:∀ {x},x∈out->x∈q++out:=fun {x} hx=>List.mem_append_right _ hx
 have ap1:∀ x∈q,x.kind=3->(N1 x.src).term<=x.term/\x.term<=(upd N m.dst s' x.src).term/\(x.term=(upd N m.dst s' x.src).term->(upd N m.dst s' x.src).role=3/\(upd N m.dst s' x.src).hb=now):=fun x hx hk=>by
  obtain ⟨a1,a2,a3⟩:=r.ap x (.tail _ hx) hk
  by_cases e:x.src=m.dst
  ·rw [e,self]
   rw [e] at a1 a2 a3
   refine ⟨a1,by omega,fun k=>?_⟩
   have e3:=a3 (by omega)
   have e4:S.role=3:=eS2.trans e3.1
   rcases ro with ro | ro | ro
   ·rcases tt with tt | tt
    · -- a leader that steps down in its own term: it cannot be
     exfalso
     have key:Mv now S m s' out->S.role=3->s'.role=1->s'.term=S.term->False:=fun mv h3 h1 ht=>by
      have hh:=heard_same S m
      cases mv with
      | deaf=>omega
      | old1=>omega
      | old3=>omega
      | old=>omega
      | grant k hle hd=>
       rcases ent_cases S m with ⟨ee,hl⟩ | ⟨ee,hl⟩
       ·have:(ent S m).role=1:=h1
        rw [ee] at this;omega
       ·have:(ent S m).term=S.term:=ht
        rw [ent_term hle] at this;omega
      | deny k hle hd=>
       rcases ent_cases S m with ⟨ee,hl⟩ | ⟨ee,hl⟩
       ·have:(ent S m).role=1:=h1
        rw [ee] at this;omega
       ·have:(ent S m).term=S.term:=ht
        rw [ent_term hle] at this;omega
      | idle hle=>
       rcases ent_cases S m with ⟨ee,hl⟩ | ⟨ee,hl⟩
       ·have:(ent S m).role=1:=h1
        rw [ee] at this;omega
       ·have:(ent S m).term=S.term:=ht
        rw [ent_term hle] at this;omega
      | count=>omega
      | lead k hg ht hr=>omega
      | fol k hle hr=>
       rcases ent_cases S m with ⟨ee,hl⟩ | ⟨ee,hl⟩
       ·rw [ee] at hr;exact hr h3
       ·have:(ent S m).term=S.term:=ht
        rw [ent_term hle] at this;omega
      | nofol k hle hr=>
       rcases ent_cases S m with ⟨ee,hl⟩ | ⟨ee,hl⟩
       ·rw [ee] at hr;exact hr h3
       ·have:(ent S m).term=S.term:=ht
        rw [ent_term hle] at this;omega
      | back=>have:S.role=1:=h1;omega
      | more=>rw [hh.2.2.1] at h1;omega
      | next=>rw [hh.2.2.1] at h1;omega
      | done=>rw [hh.2.2.1] at h1;omega
     exact key mv e4 ro tt
    ·omega
   ·exact ⟨ro.1.trans e4,ro.2.2.1.trans (eS3.trans e3.2)⟩
   ·omega
  ·rw [other e];exact ⟨a1,a2,a3⟩
 refine ⟨fun k hk=>?_,fun k hk=>?_,fun x hx=>?_,fun k hk hr=>?_,fun x hx hk=>?_,fun x hx hk hr ht=>?_,fun k hk hr hl=>?_,fun x y hx hy hxy hy1 hE=>?_,fun x f hx hf hxf hr hh ht=>?_⟩
 ·by_cases e:k=m.dst
  ·subst e;rw [self];omega
  ·rw [other e];exact r.t1 k hk
 ·by_cases e:k=m.dst
  ·subst e;rw [self];omega
  ·rw [other e];exact r.tM k hk
 ·rcases List.mem_append.1 hx with hx | hx
  ·exact r.mt x (.tail _ hx)
  ·rw [(ot x hx).2.1];exact tle.2
 ·by_cases e:k=m.dst
  ·subst e
   rw [self] at hr ⊢
   rcases ro with ro | ro | ro
   ·exact absurd ro hr
   ·rw [ro.2.1,eS1]
    exact rl0 (by rw [<- eS2,<- ro.1];exact hr)
   ·rw [ro.2.2.1,eS1]
    exact rl0 (by omega)
  ·rw [other e] at hr ⊢;exact r.rl k hk hr
 ·rcases List.mem_append.1 hx with hx | hx
  ·exact ap1 x hx hk
  ·obtain ⟨o1,o2,-,-,o5,-⟩:=ot x hx
   obtain ⟨o5,o6⟩:=o5 hk
   rw [o1,self,o2]
   have hh:s'.hb=now:=by
    rcases o6 with o6 | ⟨o6,o7,o8⟩
    ·exact o6.2
    ·rcases ro with ro | ro | ro
     ·omega
     ·rw [ro.2.2.1,eS3]
      exact ar0 o7 (eS2.symm.trans o6) (o8.trans eS1)
     ·omega
   exact ⟨by omega,Nat.le_refl _,fun _=>⟨o5,hh⟩⟩
 ·rcases List.mem_append.1 hx with hx | hx
  ·by_cases e:x.dst=m.dst
   ·rw [e,self] at hr ht ⊢
    have a:=r.ar x (.tail _ hx) hk
    rw [e] at a
    rcases ro with ro | ro | ro
    ·omega
    ·rw [ro.2.2.1,eS3]
     exact a (by omega) (by omega)
    ·exact ro.2.2.2.1
   ·rw [other e] at hr ht ⊢;exact r.ar x (.tail _ hx) hk hr ht
  ·obtain ⟨o1,o2,-,-,-,o6⟩:=ot x hx
   obtain ⟨o6,o7⟩:=o6 hk
   have e:x.dst≠m.dst:=by rw [o7];exact ne
   rw [other e] at hr ht ⊢
   rw [o7] at hr ht ⊢
   obtain ⟨b1,b2,b3⟩:=ap0 o6
   have hq:=r.rl m.src ms.src (by omega)
   exact (b3 (by omega)).2
 ·by_cases e:k=m.dst
  ·subst e
   rw [self] at hr hl ⊢
   rcases ld with ⟨a1,a2,a3,a4⟩ | a | ⟨a1,a2,a3,a4⟩ | ⟨a1,a2,a3,a4,a5,a6,a7⟩ | ⟨a1,a2⟩
   ·have:=bw0 (by omega) (by rw [<- eS4,<- a1];exact hl)
    have w1:=sh'.wait
    have w2:=h.wait
    omega
   ·exact absurd a hl
   ·obtain ⟨b1,b2⟩:=not_deaf a2 a1
    rcases b2 with b2 | b2
    ·exact absurd (a3.trans b2) hl
    ·have:=bw0 (by omega) (by rw [<- eS4,<- a3];exact hl)
     omega
   ·have w1:=sh'.wait
    omega
   ·omega
  ·rw [other e] at hr hl ⊢;exact r.bw k hk hr hl
 · -- signs
  have old:Evd now N (m::q) x\/(x=m.dst/\S.role=2/\s'.role=3):=by
   rcases hE with ⟨e1,e2⟩ | ⟨z,z1,z2,z3⟩ | ⟨k,k1,k2,k3,k4⟩
   ·by_cases e:x=m.dst
    ·subst e
     rw [self] at e1 e2
     rcases ro with ro | ro | ro
     ·omega
     ·exact .inl (.inl ⟨by omega,by omega⟩)
     ·exact .inr ⟨rfl,ro.1,ro.2.1⟩
    ·rw [other e] at e1 e2
     exact .inl (.inl ⟨e1,e2⟩)
   ·rcases List.mem_append.1 z1 with z1 | z1
    ·exact .inl (.inr (.inl ⟨z,.tail _ z1,z2,z3⟩))
    ·obtain ⟨o1,o2,-,-,o5,-⟩:=ot z z1
     obtain ⟨o5,o6⟩:=o5 z2
     have ex:x=m.dst:=by rw [<- z3,o1]
     rcases o6 with o6 | ⟨o6,o7,o8⟩
     ·exact .inr ⟨ex,o6.1,o5⟩
     ·rw [ex]
      exact .inl (.inl ⟨by omega,ar0 o7 (by omega) (by omega)⟩)
   ·by_cases e:k=m.dst
    ·subst e
     rw [self] at k3 k4
     rcases ld with ⟨a1,a2,a3,a4⟩ | a | ⟨a1,a2,a3,a4⟩ | ⟨a1,a2,a3,a4,a5,a6,a7⟩ | ⟨a1,a2⟩
     ·exact .inl (.inr (.inr ⟨m.dst,k1,k2,by rw [<- eS4,<- a1];exact k3,by omega⟩))
     ·rw [a] at k3;cases k3
     ·obtain ⟨b1,b2⟩:=not_deaf a2 a1
      exfalso
      rcases b2 with b2 | b2
      ·rw [a3,b2] at k3;cases k3
      ·have:=bw0 (by omega) (by rw [<- eS4,<- a3,k3];exact fun h=>by cases h)
       omega
     ·refine .inl (.inr (.inl ⟨m,.head _,a1,?_⟩))
      rw [a4] at k3
      exact Option.some.inj k3
     ·exfalso
      have:=sh'.l3 a2
      rw [this] at k3
      exact k2 (Option.some.inj k3)
    ·rw [other e] at k3 k4
     exact .inl (.inr (.inr ⟨k,k1,k2,k3,k4⟩))
  rcases old with old | ⟨ex,h2,h3⟩
  ·rcases r.ev x y hx hy hxy hy1 old with c | ⟨z,z1,z2,z3,z4⟩ | ⟨z,z1,z2,z3,z4,z5⟩
   ·left
    by_cases e:x=m.dst
    ·subst e
     rw [self]
     omega
    ·rw [other e];exact c
   ·rcases List.mem_cons.1 z1 with rfl | z1
    · -- it is delivered
     have ey:z.dst≠x:=by rw [z4];exact hxy
     rw [other (k:=x) (fun e=>ey e.symm)]
     obtain ⟨b1,b2,b3⟩:=ap0 z2
     rw [z3] at b2
     have tx:=r.tM x hx
     have ty:S.term=M:=by
      have:=r.t1 y hy
      have e:(N z.dst).term=(N y).term:=by rw [z4]
      omega
     by_cases hl:z.term=M
     ·left;omega
     ·right;right
      have key:Mv now S z s' out->∃ w∈out,Rep y x M w:=fun mv=>by
       have hlt:z.term<S.term:=by omega
       cases mv with
       | old3=>exact ⟨_,.head _,rfl,by rw [<- z4];exact h.id,z3,ty⟩
       | _=>omega
      obtain ⟨w,w1,w2⟩:=key mv
      exact ⟨w,memo w1,w2⟩
    ·exact .inr (.inl ⟨z,mem z1,z2,z3,z4⟩)
   ·rcases List.mem_cons.1 z1 with rfl | z1
    ·left
     have e:x=z.dst:=z4.symm
     subst e
     rw [self]
     have key:Mv now S z s' out->s'.term=M:=fun mv=>by
      rcases Nat.lt_or_ge S.term M with hl | hl
      ·have hlt:S.term<z.term:=by omega
       cases mv with
       | idle hle=>rw [ent_term hle];exact z5
       | _=>omega
      ·omega
     exact key mv
    ·exact .inr (.inr ⟨z,mem z1,z2,z3,z4,z5⟩)
  ·subst ex
   rcases ro with ro | ro | ro
   ·omega
   ·omega
   ·obtain ⟨z,w1,w2,w3,w4,w5⟩:=ro.2.2.2.2.2.2.2 y hy hxy
    exact .inr (.inl ⟨z,memo w1,w2,w3,w4⟩)
 · -- the leader of the last term
  by_cases e:x=m.dst
  ·subst e
   rw [self] at hr hh ht ⊢
   have ef:f≠m.dst:=hxf
   rw [other ef]
   rcases ro with ro | ro | ro
   ·omega
   ·have hr0:(N m.dst).role=3:=by omega
    obtain ⟨c1,c2⟩:=r.cov m.dst f hx hf hxf hr0 (by omega) (by omega)
    have c1':(∃ z∈q++out,App m.dst f M z)\/Fol now M (N f) m.dst:=by
     rcases c1 with ⟨z,z1,z2⟩ | c1
     ·rcases List.mem_cons.1 z1 with rfl | z1
      ·exact absurd z2.2.2.1 (Ne.symm ef)
      ·exact .inl ⟨z,mem z1,z2⟩
     ·exact .inr c1
    refine ⟨c1',?_⟩
    have hSr:S.role=3:=by omega
    have hST:S.term=M:=by omega
    have l2:=l.mle hSr f (by rw [h.id];exact ef)
    have same:s'.mtch.getD f 0=S.mtch.getD f 0->s'.next.getD f 0=S.next.getD f 0->¬Rep f m.dst M m->(∃ z∈q++out,App m.dst f M z)\/(∃ z∈q++out,Rep f m.dst M z)\/(s'.mtch.getD f 0=s'.log.length/\s'.next.getD f 0=s'.log.length+1):=fun e1 e2 e3=>by
     rcases c2 with ⟨z,z1,z2⟩ | ⟨z,z1,z2⟩ | c2
     ·rcases List.mem_cons.1 z1 with rfl | z1
      ·exact absurd z2.2.2.1 (Ne.symm ef)
      ·exact .inl ⟨z,mem z1,z2⟩
     ·rcases List.mem_cons.1 z1 with rfl | z1
      ·exact absurd z2 e3
      ·exact .inr (.inl ⟨z,mem z1,z2⟩)
     ·right;right
      rw [e1,e2,ro.2.2.2.1,eS7,eS8,eS9]
      exact c2
    have idn:(ent S m).role=3->ent S m=S:=fun e3=>by
     rcases ent_cases S m with ⟨ee,-⟩ | ⟨ee,-⟩
     ·exact ee
     ·rw [ee] at e3;cases e3
    have fin:∀ {w:Msg},w∈out->App m.dst f M w->(∃ z∈q++out,App m.dst f M z)\/(∃ z∈q++out,Rep f m.dst M z)\/(s'.mtch.getD f 0=s'.log.length/\s'.next.getD f 0=s'.log.length+1):=fun {w} h1 h2=>.inl ⟨w,memo h1,h2⟩
    have hsm:=heard_same S m
    cases mv with
    | deaf k=>exact same rfl rfl fun a=>by have:=a.1;omega
    | old1 k=>exact same rfl rfl fun a=>by have:=a.1;omega
    | old3 k=>exact same rfl rfl fun a=>by have:=a.1;omega
    | old k hl=>exact same rfl rfl fun a=>by have:=a.2.2.2;omega
    | grant k=>exact absurd (not_deaf ‹_› k).1 (fun a=>a hSr)
    | deny k=>exact absurd (not_deaf ‹_› k).1 (fun a=>a hSr)
    | idle hle hq=>
     have ee:=idn hr
     refine same (by rw [ee]) (by rw [ee]) fun a=>?_
     rw [ee] at hq
     rcases hq with hq | hq | ⟨hq,hq2⟩
     ·have:=a.1;omega
     ·have:=a.1;omega
     ·rcases hq2 with hq2 | hq2 | ⟨hq2,hq3⟩
      ·exact hq2 hSr
      ·rw [others3 h.pl h.ini,h.id] at hq2
       exact hq2 (mem_oth.2 ⟨ms.src,ne⟩)
      ·have a1:=hm.rep hq hq2
       have a2:=l.ok.ackd m.src m.term
       have a3:=(l.n.lead hSr).2.1
       rw [show m.term=S.term by have:=a.2.2.2;omega,a3] at a2
       rw [show m.term=S.term by have:=a.2.2.2;omega] at a1
       omega
    | count k hg ht2 hr2=>omega
    | lead k hg ht2 hr2=>omega
    | fol k hle hr2=>
     have:(1:Nat)=3:=hr
     omega
    | nofol k hle hr2=>
     have:(1:Nat)=3:=hr
     omega
    | back k ht2 hr2 hg=>
     by_cases es:m.src=f
     ·exact fin (.head _) ⟨rfl,h.id,es,hST⟩
     ·refine same rfl ?_ fun a=>es a.2.1
      rw [backS_n h.nl ms.src,if_neg es]
    | more k ht2 hr2 hg hpl hc=>
     rw [heard_all h] at fin ⊢
     exact fin (List.mem_map.2 ⟨f,mem_oth.2 ⟨hf,ef⟩,rfl⟩) ⟨rfl,hsm.1.trans h.id,rfl,hsm.2.1.trans hST⟩
    | next k ht2 hr2 hg hpl hc hn=>
     by_cases es:m.src=f
     ·exact fin (.head _) ⟨rfl,hsm.1.trans h.id,es,hsm.2.1.trans hST⟩
     ·obtain ⟨c,ec,-⟩:=advC_ex (matchS S m)
      refine same ?_ ?_ fun a=>es a.2.1
      ·rw [ec];exact (matchS_m h.ml ms.src f).trans (if_neg es)
      ·rw [ec];exact (matchS_n h.nl ms.src f).trans (if_neg es)
    | done k ht2 hr2 hg hpl hc hn=>
     obtain ⟨c,ec,-⟩:=advC_ex (matchS S m)
     have e1:(advC (matchS S m)).mtch.getD f 0=(matchS S m).mtch.getD f 0:=by rw [ec]
     have e2:(advC (matchS S m)).next.getD f 0=(matchS S m).next.getD f 0:=by rw [ec]
     by_cases es:m.src=f
     ·right;right
      rw [e1,e2,hsm.2.2.2.2.1,matchS_m h.ml ms.src,matchS_n h.nl ms.src,if_pos es,if_pos es]
      rw [matchS_n h.nl ms.src,if_pos rfl] at hn
      rw [<- es] at l2
      omega
     ·exact same (e1.trans ((matchS_m h.ml ms.src f).trans (if_neg es))) (e2.trans ((matchS_n h.nl ms.src f).trans (if_neg es))) fun a=>es a.2.1
   ·obtain ⟨z,w1,w2,w3,w4,w5⟩:=ro.2.2.2.2.2.2.2 f hf ef
    have:App m.dst f M z:=⟨w2,w3,w4,by omega⟩
    exact ⟨.inl ⟨z,memo w1,this⟩,.inl ⟨z,memo w1,this⟩⟩
  ·rw [other e] at hr hh ht ⊢
   obtain ⟨c1,c2⟩:=r.cov x f hx hf hxf hr hh ht
   have lx:=(sys.live x hx).1
   have elx:g.el M=some x:=by
    have:=lx.el hr
    rw [ht,(sys.live x hx).2] at this
    exact this
   by_cases ef:f=m.dst
   ·subst ef
    rw [self]
    have one:∀ y:Nat,g.el M=some y->y=x:=fun y hy=>by rw [elx] at hy;exact (Option.some.inj hy).symm
    have hnl:S.term=M->S.role≠3:=fun e1 e2=>by
     have:=l.el e2
     rw [e1,h.id] at this
     exact e (one _ this).symm
    have c1':(∃ z∈q++out,App x m.dst M z)\/Fol now M s' x:=by
     rcases c1 with ⟨z,z1,z2⟩ | c1
     ·rcases List.mem_cons.1 z1 with rfl | z1
      ·right
       obtain ⟨z2,z3,z4,z5⟩:=z2
       have key:Mv now S z s' out->Fol now M s' x:=fun mv=>by
        have hno:(ent S z).role≠3:=fun e3=>by
         rcases ent_cases S z with ⟨ee,hl⟩ | ⟨ee,-⟩
         ·rw [ee] at e3
          exact hnl (by omega) e3
         ·rw [ee] at e3;cases e3
        cases mv with
        | idle hle hq=>
         rcases hq with hq | hq | hq
         ·omega
         ·exact absurd hq.2 hno
         ·omega
        | fol k hle=>exact ⟨by show (ent S z).term=M;rw [ent_term hle,z5],rfl,by show some z.src=some x;rw [z3],rfl⟩
        | nofol k hle=>exact ⟨by show (ent S z).term=M;rw [ent_term hle,z5],rfl,by show some z.src=some x;rw [z3],rfl⟩
        | _=>omega
       exact key mv
      ·exact .inl ⟨z,mem z1,z2⟩
     ·right
      obtain ⟨f1,f2,f3,f4⟩:=c1
      have es:m.term<=S.term->ent S m=S:=fun a=>ent_eq a
      have w1:=h.wait
      cases mv with
      | deaf=>exact ⟨eS1.trans f1,eS2.trans f2,eS4.trans f3,eS5.trans f4⟩
      | old1=>exact ⟨eS1.trans f1,eS2.trans f2,eS4.trans f3,eS5.trans f4⟩
      | old3=>exact ⟨eS1.trans f1,eS2.trans f2,eS4.trans f3,eS5.trans f4⟩
      | old=>exact ⟨eS1.trans f1,eS2.trans f2,eS4.trans f3,eS5.trans f4⟩
      | grant k hle hd=>
       exfalso
       rcases (not_deaf hd k).2 with b | b
       ·rw [eS4,f3] at b;cases b
       ·omega
      | deny k hle hd=>
       exfalso
       rcases (not_deaf hd k).2 with b | b
       ·rw [eS4,f3] at b;cases b
       ·omega
      | idle hle hq=>
       rw [es (by omega)]
       exact ⟨eS1.trans f1,eS2.trans f2,eS4.trans f3,eS5.trans f4⟩
      | count k hg ht2 hr2=>omega
      | lead k hg ht2 hr2=>omega
      | fol k hle hr2=>
       have a:=(hm.app k).1
       rw [show m.term=M by omega] at a
       exact ⟨by show (ent S m).term=M;rw [ent_term hle];omega,rfl,by show some m.src=some x;rw [one _ a],rfl⟩
      | nofol k hle hr2=>
       have a:=(hm.app k).1
       rw [show m.term=M by omega] at a
       exact ⟨by show (ent S m).term=M;rw [ent_term hle];omega,rfl,by show some m.src=some x;rw [one _ a],rfl⟩
      | back k ht2 hr2=>omega
      | more k ht2 hr2=>omega
      | next k ht2 hr2=>omega
      | done k ht2 hr2=>omega
    refine ⟨c1',?_⟩
    rcases c2 with ⟨z,z1,z2⟩ | ⟨z,z1,z2⟩ | c2
    ·rcases List.mem_cons.1 z1 with rfl | z1
     ·right;left
      obtain ⟨z2,z3,z4,z5⟩:=z2
      have key:Mv now S z s' out->∃ w∈out,Rep z.dst x M w:=fun mv=>by
       have hno:(ent S z).role≠3:=fun e3=>by
        rcases ent_cases S z with ⟨ee,hl⟩ | ⟨ee,-⟩
        ·rw [ee] at e3
         exact hnl (by omega) e3
        ·rw [ee] at e3;cases e3
       cases mv with
       | idle hle hq=>
        rcases hq with hq | hq | hq
        ·omega
        ·exact absurd hq.2 hno
        ·omega
       | fol k hle=>exact ⟨_,.head _,rfl,by show (ent S z).id=z.dst;rw [(ent_same S z).1,h.id],z3,by show (ent S z).term=M;rw [ent_term hle,z5]⟩
       | nofol k hle=>exact ⟨_,.head _,rfl,by show (ent S z).id=z.dst;rw [(ent_same S z).1,h.id],z3,by show (ent S z).term=M;rw [ent_term hle,z5]⟩
       | _=>omega
      obtain ⟨w,w1,w2⟩:=key mv
      exact ⟨w,memo w1,w2⟩
     ·exact .inl ⟨z,mem z1,z2⟩
    ·rcases List.mem_cons.1 z1 with rfl | z1
     ·exact absurd z2.2.2.1 (Ne.symm e)
     ·exact .inr (.inl ⟨z,mem z1,z2⟩)
    ·exact .inr (.inr c2)
   ·rw [other ef]
    have lift:∀ {P:Msg->Prop},(∀ z,P z->z.dst≠m.dst)->(∃ z∈m::q,P z)->∃ z∈q++out,P z:=fun {P} hP ⟨z,z1,z2⟩=>by
     rcases List.mem_cons.1 z1 with rfl | z1
     ·exact absurd rfl (hP z z2)
     ·exact ⟨z,mem z1,z2⟩
    have l1:=lift (P:=App x f M) fun z hz=>by rw [hz.2.2.1];exact ef
    have l2:=lift (P:=Rep f x M) fun z hz=>by rw [hz.2.2.1];exact e
    exact ⟨c1.imp l1 fun h=>h,c2.imp l1 (Or.imp l2 fun h=>h)⟩
end
end Go.Proofs.YtcaokpglbolkcaaGreat
namespace Go.Proofs.YtcaokpglbolkcaaGreat
section
variable {g:G} {now M i K t:Nat} {N N1:Nat->PN} {q:List Msg} {s s':PN} {m:Msg} {out:List Msg}
def askM (s:PN) (to:Nat):Msg:=⟨1,s.id,to,s.term+1,s.log.length,lastT s.log,0,false,[]⟩
inductive Tk (now i:Nat) (s:PN):PN->List Msg->Prop
 | beat:s.role=3->s.hb+2<=now->Tk now i s { s with hb:=now } ((oth i).map (sendAppendS { s with hb:=now }))
 | rest:s.role=3->now<s.hb+2->Tk now i s s []
 | start:s.role≠3->s.since+s.wait<=now->Tk now i s (startB s now) ((oth i).map (askM s))
 | wait:s.role≠3->now<s.since+s.wait->Tk now i s s []
theorem Sh.tick (h:Sh now i s) (hi:i<3):Tk now i (s.at now) (tickS s now).1 (tickS s now).2:=by
 have h1:=h.clock
 unfold tickS
 rw [at_latest h]
 generalize s.at now=S at*
 have ho:∀ s:PN,s.id=i->s.init=init3->(∀ e∈s.log,e.kind≠3)->s.others=oth i:=fun s h1 h2 h3=>by rw [others3 h3 h2,h1]
 unfold tickT
 split
 ·rename_i hr
  split
  ·rename_i hd
   rw [h1.beat] at hd
   have:sendAll S=(oth i).map (sendAppendS { S with hb:=now }):=by
    unfold sendAll
    rw [ho S h1.id h1.ini h1.pl]
    rfl
   rw [this]
   exact .beat hr hd
  ·rename_i hd
   rw [h1.beat] at hd
   exact .rest hr (by omega)
 ·rename_i hr
  split
  ·rename_i hd
   unfold startS
   rw [if_neg (not_alone h1.pl h1.ini),ho (startB S now) h1.id h1.ini h1.pl]
   exact .start hr hd.1
  ·rename_i hd
   refine .wait hr ?_
   refine Nat.lt_of_not_le fun k=>hd ⟨k,?_⟩
   rw [memb_plain h1.pl,h1.ini,members3,h1.id]
   have:i=0\/i=1\/i=2:=by omega
   rcases this with rfl | rfl | rfl <;> decide
theorem Sh.later (h:Sh t i s) (hle:t<=now):Sh now i s:={ h with la:=Nat.le_trans h.la hle,si:=Nat.le_trans h.si hle,hb:=Nat.le_trans h.hb hle }
theorem Tk.sh (h:Sh now i s) (hi:i<3) (k:Tk now i s s' out):Sh now i s'/\∀ x∈out,MSh x:=by
 cases k with
 | beat hr hd=>
  refine ⟨{ h with hb:=Nat.le_refl _ },fun x hx=>?_⟩
  obtain ⟨f,hf,rfl⟩:=List.mem_map.1 hx
  obtain ⟨h1,h2⟩:=mem_oth.1 hf
  exact msh_a (s:={ s with hb:=now }) h.id h.pl hi h1 h2
 | rest=>exact ⟨h,fun x hx=>by cases hx⟩
 | start hr hd=>
  refine ⟨⟨h.id,h.wait,h.beat,h.ini,h.pl,h.la,Nat.le_refl _,h.hb,?_,h.nl,h.ml,fun _=>⟨by show some s.id=some i;rw [h.id],rfl,?_⟩,fun e=>(by cases e),fun e=>(by cases e),fun e=>(by cases e),fun e=>(by cases e)⟩,fun x hx=>?_⟩
  ·show ((List.replicate 9 false).set s.id true).length=9
   simp
  ·show ((List.replicate 9 false).set s.id true).getD i false=true
   rw [set_getD,if_pos ⟨h.id,by rw [List.length_replicate];omega⟩]
  ·obtain ⟨f,hf,rfl⟩:=List.mem_map.1 hx
   obtain ⟨h1,h2⟩:=mem_oth.1 hf
   exact ⟨by show s.id<3;rw [h.id];exact hi,h1,by show s.id≠f;rw [h.id];exact h2.symm,⟨by show (1:Nat)<=1;decide,by show (1:Nat)<=4;decide⟩,fun e he=>(by cases he)⟩
 | wait=>exact ⟨h,fun x hx=>by cases hx⟩
noncomputable def tk (now:Nat) (N:Nat->PN):Nat->PN:=fun i=>(tickS (N i) now).1
noncomputable def tkq (now:Nat) (N:Nat->PN):List Msg:=(tickS (N 0) now).2++(tickS (N 1) now).2++(tickS (N 2) now).2
theorem mem_tkq {x:Msg}:x∈tkq now N↔∃ i,i<3/\x∈(tickS (N i) now).2:=by
 unfold tkq
 rw [List.mem_append,List.mem_append]
 constructor
 ·rintro ((h | h) | h)
  ·exact ⟨0,by omega,h⟩
  ·exact ⟨1,by omega,h⟩
  ·exact ⟨2,by omega,h⟩
 ·rintro ⟨i,hi,h⟩
  have:i=0\/i=1\/i=2:=by omega
  rcases this with rfl | rfl | rfl
  ·exact .inl (.inl h)
  ·exact .inl (.inr h)
  ·exact .inr h
noncomputable def tk1 (now i:Nat) (N:Nat->PN):Nat->PN:=upd N i (tickS (N i) now).1
theorem J.later (j:J t N q) (h:t<=now):J now N q:=⟨j.sys,fun i hi=>(j.sh i hi).later h,j.ms⟩
theorem J.tick1 (j:J now N q) (hi:i<3):J now (tk1 now i N) (q++(tickS (N i) now).2):=by
 have h:=j.sh i hi
 obtain ⟨h1,h2⟩:=(h.tick hi).sh h.clock hi
 obtain ⟨g,sys⟩:=j.sys
 obtain ⟨l,hid⟩:=sys.live i hi
 refine ⟨?_,fun k hk=>?_,fun x hx=>(List.mem_append.1 hx).elim (j.ms x) (h2 x)⟩
 ·obtain ⟨g',-,s'⟩:=sys.step hi (l.ticks now) (F':=q++(tickS (N i) now).2) fun x hx=>List.mem_append.1 hx
  exact ⟨g',s'⟩
 ·unfold tk1
  by_cases e:k=i
  ·subst e
   rw [upd_self];exact h1
  ·rw [upd_ne N _ e];exact j.sh k hk
theorem sys_ext {N N':Nat->PN} (h:∀ i,i<3->N i=N' i) (s:Sys init3 g N 3 q):Sys init3 g N' 3 q:=⟨fun i hi=>by rw [<- h i hi];exact s.live i hi,s.msg⟩
theorem J.ext {N':Nat->PN} (h:∀ i,i<3->N i=N' i) (j:J now N q):J now N' q:=⟨by obtain ⟨g,s⟩:=j.sys;exact ⟨g,sys_ext h s⟩,fun i hi=>by rw [<- h i hi];exact j.sh i hi,j.ms⟩
theorem J.ticks (j:J now N q):J now (tk now N) (q++tkq now N):=by
 have j1:=j.tick1 (i:=0) (by omega)
 have j2:=j1.tick1 (i:=1) (by omega)
 have j3:=j2.tick1 (i:=2) (by omega)
 have e1:tk1 now 0 N 1=N 1:=upd_ne N _ (by omega)
 have e2:tk1 now 1 (tk1 now 0 N) 2=N 2:=(upd_ne _ _ (by omega)).trans (upd_ne N _ (by omega))
 rw [e1,e2] at j3
 have eq:q++(tickS (N 0) now).2++(tickS (N 1) now).2++(tickS (N 2) now).2=q++tkq now N:=by
  unfold tkq
  simp
 rw [eq] at j3
 refine j3.ext fun i hi=>?_
 have:i=0\/i=1\/i=2:=by omega
 rcases this with rfl | rfl | rfl
 ·exact (upd_ne _ _ (by omega)).trans ((upd_ne _ _ (by omega)).trans (upd_self _ _ _))
 ·refine (upd_ne _ _ (by omega)).trans ((upd_self _ _ _).trans ?_)
  rw [e1];rfl
 ·refine (upd_self _ _ _).trans ?_
  rw [e2];rfl
def maxT (N:Nat->PN):Nat:=max (N 0).term (max (N 1).term (N 2).term)
theorem le_maxT (N:Nat->PN) {i:Nat} (h:i<3):(N i).term<=maxT N:=by
 have:i=0\/i=1\/i=2:=by omega
 unfold maxT
 rcases this with rfl | rfl | rfl <;> omega
theorem maxT_is (N:Nat->PN):∃ y,y<3/\(N y).term=maxT N:=by
 unfold maxT
 by_cases h0:(N 0).term=max (N 0).term (max (N 1).term (N 2).term)
 ·exact ⟨0,by omega,h0⟩
 ·by_cases h1:(N 1).term=max (N 0).term (max (N 1).term (N 2).term)
  ·exact ⟨1,by omega,h1⟩
  ·exact ⟨2,by omega,by omega⟩
theorem J.round0 (j:J t N []):J (t+1) (tk (t+1) N) (tkq (t+1) N)/\Rb (t+1) (maxT (tk (t+1) N)) (tk (t+1) N) (tk (t+1) N) (tkq (t+1) N):=by
 have j0:=j.later (now:=t+1) (by omega)
 have j1:=j0.ticks
 rw [List.nil_append] at j1
 have T:∀ i,i<3->Tk (t+1) i ((N i).at (t+1)) (tk (t+1) N i) (tickS (N i) (t+1)).2:=fun i hi=>(j0.sh i hi).tick hi
 have S:∀ i,i<3->((N i).at (t+1)).since<=t/\((N i).at (t+1)).hb<=t:=fun i hi=>⟨(j.sh i hi).si,(j.sh i hi).hb⟩
 have msg:∀ m∈tkq (t+1) N,m.src<3/\m.term=(tk (t+1) N m.src).term/\m.kind≠4/\(m.kind=3->(tk (t+1) N m.src).role=3/\(tk (t+1) N m.src).hb=t+1):=fun m hm=>by
  obtain ⟨i,hi,hx⟩:=mem_tkq.1 hm
  have k:=T i hi
  have h:=(j0.sh i hi).clock
  generalize (N i).at (t+1)=s at*
  generalize (tickS (N i) (t+1)).2=out at*
  have e:∀ s',s'=tk (t+1) N i->Tk (t+1) i s s' out->m.src=i/\m.term=s'.term/\m.kind≠4/\(m.kind=3->s'.role=3/\s'.hb=t+1):=fun s' _ k=>by
   cases k with
   | beat hr hd=>
    obtain ⟨f,hf,rfl⟩:=List.mem_map.1 hx
    exact ⟨h.id,rfl,by show (3:Nat)≠4;decide,fun _=>⟨hr,rfl⟩⟩
   | rest=>cases hx
   | start=>
    obtain ⟨f,hf,rfl⟩:=List.mem_map.1 hx
    exact ⟨h.id,rfl,by show (1:Nat)≠4;decide,fun a=>by cases a⟩
   | wait=>cases hx
  obtain ⟨a1,a2⟩:=e _ rfl k
  rw [a1]
  exact ⟨hi,a2⟩
 have lead:∀ x,x<3->(tk (t+1) N x).role=3->(tk (t+1) N x).hb=t+1->∀ f,f<3->f≠x->∃ m∈tkq (t+1) N,App x f (tk (t+1) N x).term m:=fun x hx hr hh f hf hn=>by
  have k:=T x hx
  have h:=(j0.sh x hx).clock
  have s2:=S x hx
  have mem:∀ m,m∈(tickS (N x) (t+1)).2->m∈tkq (t+1) N:=fun m hm=>mem_tkq.2 ⟨x,hx,hm⟩
  generalize (N x).at (t+1)=s at*
  generalize (tickS (N x) (t+1)).2=out at*
  generalize tk (t+1) N x=s' at*
  cases k with
  | beat hr hd=>exact ⟨_,mem _ (List.mem_map.2 ⟨f,mem_oth.2 ⟨hf,hn⟩,rfl⟩),rfl,h.id,rfl,rfl⟩
  | rest=>omega
  | start=>cases hr
  | wait=>omega
 refine ⟨j1,⟨fun i hi=>Nat.le_refl _,fun i hi=>le_maxT _ hi,fun m hm=>?_,fun _ _ _=>rfl,fun m hm hk=>?_,fun m hm hk=>absurd hk (msg m hm).2.2.1,fun i hi hr hl=>?_,fun x y hx hy hxy hy1 hE=>?_,fun x f hx hf hn hr hh ht=>?_⟩⟩
 ·rw [(msg m hm).2.1]
  exact le_maxT _ (msg m hm).1
 ·obtain ⟨a1,a2,a3,a4⟩:=msg m hm
  exact ⟨by omega,by omega,fun _=>a4 hk⟩
 ·have k:=T i hi
  generalize (N i).at (t+1)=s at*
  generalize (tickS (N i) (t+1)).2=out at*
  generalize tk (t+1) N i=s' at*
  cases k with
  | beat h3=>exact absurd h3 hr
  | rest h3=>exact absurd h3 hr
  | start=>exact absurd rfl hl
  | wait _ h=>exact h
 ·have ld:(tk (t+1) N x).role=3/\(tk (t+1) N x).hb=t+1:=by
   rcases hE with h | ⟨m,hm,h1,h2⟩ | ⟨k,k1,k2,k3,k4⟩
   ·exact h
   ·have:=(msg m hm).2.2.2 h1
    rw [h2] at this
    exact this
   ·exfalso
    have T:=T k k1
    have s2:=S k k1
    have l3:=(j1.sh k k1).l3
    generalize (N k).at (t+1)=s at*
    generalize (tickS (N k) (t+1)).2=out at*
    generalize tk (t+1) N k=s' at*
    cases T with
    | beat h3=>
     have:s.since=t+1:=k4
     omega
    | rest h3=>omega
    | start=>cases k3
    | wait=>omega
  obtain ⟨m,h1,h2,h3,h4,-⟩:=lead x hx ld.1 ld.2 y hy hxy
  exact .inr (.inl ⟨m,h1,h2,h3,h4⟩)
 ·obtain ⟨m,h1,h2⟩:=lead x hx hr hh f hf hn
  rw [ht] at h2
  exact ⟨.inl ⟨m,h1,h2⟩,.inl ⟨m,h1,h2⟩⟩
structure Stb (now:Nat) (N:Nat->PN) (x:Nat):Prop where
 lt:x<3
 r:(N x).role=3
 hb:now<=(N x).hb+1
 fol:∀ f,f<3->f≠x->(N f).term=(N x).term/\(N f).role=1/\(N f).leader=some x/\(N x).hb<=(N f).since
 all:∀ f,f<3->f≠x->(N x).mtch.getD f 0=(N x).log.length/\(N x).next.getD f 0=(N x).log.length+1
theorem Rb.stable (r:Rb now M N1 N []) (hM:∃ y,y<3/\(N1 y).term=M) {x:Nat} (hx:x<3) (hr:(N x).role=3) (hh:(N x).hb=now):Stb now N x/\(N x).term=M:=by
 have none:∀ {P:Msg->Prop},¬∃ m∈([]:List Msg),P m:=fun {P} ⟨m,h,_⟩=>by cases h
 have ht:(N x).term=M:=by
  obtain ⟨y,hy,hyM⟩:=hM
  by_cases e:y=x
  ·subst e
   have:=r.t1 y hy
   have:=r.tM y hy
   omega
  ·rcases r.ev x y hx hy e hyM (.inl ⟨hr,hh⟩) with h | h | h
   ·exact h
   ·exact absurd h none
   ·exact absurd h none
 refine ⟨⟨hx,hr,by omega,fun f hf hn=>?_,fun f hf hn=>?_⟩,ht⟩
 ·obtain ⟨h1,h2,h3,h4⟩:=(r.cov x f hx hf hn hr hh ht).1.resolve_left none
  exact ⟨by omega,h2,h3,by omega⟩
 ·exact ((r.cov x f hx hf hn hr hh ht).2.resolve_left none).resolve_left none
end
end Go.Proofs.YtcaokpglbolkcaaGreat
namespace Go.Proofs.YtcaokpglbolkcaaGreat
section
variable {g:G} {now M i K t x:Nat} {N N1:Nat->PN} {q:List Msg} {s s':PN} {m:Msg} {out:List Msg} {L:List Ent}
theorem mv_keep (mv:Mv now s m s' out) (h3:s.role=3) (hle:m.term<=s.term):s'.role=3/\s'.term=s.term/\s'.log=s.log/\s'.hb=s.hb/\s'.leader=s.leader:=by
 have e:=ent_eq hle
 have hh:=heard_same s m
 cases mv with
 | deaf=>exact ⟨h3,rfl,rfl,rfl,rfl⟩
 | old1=>exact ⟨h3,rfl,rfl,rfl,rfl⟩
 | old3=>exact ⟨h3,rfl,rfl,rfl,rfl⟩
 | old=>exact ⟨h3,rfl,rfl,rfl,rfl⟩
 | grant=>rw [e];exact ⟨h3,rfl,rfl,rfl,rfl⟩
 | deny=>rw [e];exact ⟨h3,rfl,rfl,rfl,rfl⟩
 | idle=>rw [e];exact ⟨h3,rfl,rfl,rfl,rfl⟩
 | count k hg ht hr=>omega
 | lead k hg ht hr=>omega
 | fol k hl hr=>rw [e] at hr;exact absurd h3 hr
 | nofol k hl hr=>rw [e] at hr;exact absurd h3 hr
 | back=>exact ⟨h3,rfl,rfl,rfl,rfl⟩
 | more=>exact ⟨hh.2.2.1.trans h3,hh.2.1,hh.2.2.2.2.1,hh.2.2.2.1,hh.2.2.2.2.2.1⟩
 | next=>exact ⟨hh.2.2.1.trans h3,hh.2.1,hh.2.2.2.2.1,hh.2.2.2.1,hh.2.2.2.2.2.1⟩
 | done=>exact ⟨hh.2.2.1.trans h3,hh.2.1,hh.2.2.2.2.1,hh.2.2.2.1,hh.2.2.2.2.2.1⟩
structure Fin (x M h0 s0:Nat) (L:List Ent) (N:Nat->PN) (q:List Msg):Prop where
 r:(N x).role=3
 tm:(N x).term=M
 lg:(N x).log=L
 hb:(N x).hb=h0
 fol:∀ f,f<3->f≠x->(N f).term=M/\(N f).role=1/\(N f).leader=some x/\s0<=(N f).since
 ms:∀ m∈q,((m.kind=3/\m.src=x)\/(m.kind=4/\m.dst=x))/\m.term=M
 pr:∀ f,f<3->f≠x->(∃ m∈q,App x f M m)\/(∃ m∈q,Rep f x M m)\/((N x).mtch.getD f 0=L.length/\(N x).next.getD f 0=L.length+1)
theorem Fin.step {h0 s0:Nat} (hx:x<3) (hs:s0<=now) (j:J now N (m::q)) (r:Fin x M h0 s0 L N (m::q)):Fin x M h0 s0 L (upd N m.dst (stepS (N m.dst) m now).1) (q++(stepS (N m.dst) m now).2):=by
 have ms:=j.ms m (.head _)
 have h:=(j.sh m.dst ms.dst).clock
 have mv:=j.mv
 obtain ⟨g,sys⟩:=j.sys
 have l:=(sys.live m.dst ms.dst).1.clock now
 have hm:=sys.msg m (.head _)
 have ot:=mv_out h ms.dst mv
 obtain ⟨m1,m2⟩:=r.ms m (.head _)
 have ne:=ms.ne
 have eS:((N m.dst).at now).term=(N m.dst).term/\((N m.dst).at now).role=(N m.dst).role/\((N m.dst).at now).hb=(N m.dst).hb/\((N m.dst).at now).leader=(N m.dst).leader/\((N m.dst).at now).since=(N m.dst).since/\((N m.dst).at now).log=(N m.dst).log/\((N m.dst).at now).mtch=(N m.dst).mtch/\((N m.dst).at now).next=(N m.dst).next:=⟨rfl,rfl,rfl,rfl,rfl,rfl,rfl,rfl⟩
 obtain ⟨eS1,eS2,eS3,eS4,eS5,eS6,eS7,eS8⟩:=eS
 generalize hS:(N m.dst).at now=S at*
 generalize (stepS (N m.dst) m now).1=s' at*
 generalize (stepS (N m.dst) m now).2=out at*
 have self:upd N m.dst s' m.dst=s':=upd_self N _ s'
 have other:∀ {k},k≠m.dst->upd N m.dst s' k=N k:=fun {k} hk=>upd_ne N s' hk
 have mem:∀ {x},x∈q->x∈q++out:=fun {x} hx=>List.mem_append_left _ hx
 have memo:∀ {x},x∈out->x∈q++out:=fun {x} hx=>List.mem_append_right _ hx
 by_cases e:m.dst=x
 · -- the leader hears an answer
  have mk:m.kind=4:=by
   rcases m1 with a | a
   ·exact absurd (a.2.trans e.symm) ne
   ·exact a.1
  have hr:S.role=3:=by rw [eS2,e];exact r.r
  have ht:S.term=M:=by rw [eS1,e];exact r.tm
  have hl:S.log=L:=by rw [eS6,e];exact r.lg
  obtain ⟨k1,k2,k3,k4,k5⟩:=mv_keep mv hr (by omega)
  have l2:=l.mle hr
  refine ⟨by rw [<- e,self];exact k1,by rw [<- e,self];omega,by rw [<- e,self,k3];exact hl,by rw [<- e,self,k4,eS3,e];exact r.hb,fun f hf hn=>?_,fun y hy=>?_,fun f hf hn=>?_⟩
  ·rw [other (by omega)];exact r.fol f hf hn
  ·rcases List.mem_append.1 hy with hy | hy
   ·exact r.ms y (.tail _ hy)
   ·obtain ⟨o1,o2,o3,o4,o5,o6⟩:=ot y hy
    refine ⟨.inl ⟨?_,o1.trans e⟩,by omega⟩
    have key:Mv now S m s' out->y.kind=3:=fun mv=>by
     cases mv with
     | back=>rw [List.mem_singleton.1 hy];rfl
     | more=>
      rw [heard_all h] at hy
      obtain ⟨f,-,rfl⟩:=List.mem_map.1 hy
      rfl
     | next=>rw [List.mem_singleton.1 hy];rfl
     | idle=>cases hy
     | done=>cases hy
     | _=>omega
    exact key mv
  ·rw [<- e,self]
   have c2:=r.pr f hf hn
   have hn':f≠m.dst:=by omega
   have l2:=l2 f (by rw [h.id];exact hn')
   have same:s'.mtch.getD f 0=S.mtch.getD f 0->s'.next.getD f 0=S.next.getD f 0->¬Rep f x M m->(∃ z∈q++out,App m.dst f M z)\/(∃ z∈q++out,Rep f m.dst M z)\/(s'.mtch.getD f 0=L.length/\s'.next.getD f 0=L.length+1):=fun e1 e2 e3=>by
    rw [e]
    rcases c2 with ⟨z,z1,z2⟩ | ⟨z,z1,z2⟩ | c2
    ·rcases List.mem_cons.1 z1 with rfl | z1
     ·exact absurd z2.1 (by omega)
     ·exact .inl ⟨z,mem z1,z2⟩
    ·rcases List.mem_cons.1 z1 with rfl | z1
     ·exact absurd z2 e3
     ·exact .inr (.inl ⟨z,mem z1,z2⟩)
    ·right;right
     rw [e1,e2,eS7,eS8,e]
     exact c2
   have fin:∀ {w:Msg},w∈out->App m.dst f M w->(∃ z∈q++out,App m.dst f M z)\/(∃ z∈q++out,Rep f m.dst M z)\/(s'.mtch.getD f 0=L.length/\s'.next.getD f 0=L.length+1):=fun {w} h1 h2=>.inl ⟨w,memo h1,h2⟩
   have hsm:=heard_same S m
   cases mv with
   | idle hle hq=>
    have ee:=ent_eq (s:=S) (m:=m) (by omega)
    refine same (by rw [ee]) (by rw [ee]) fun a=>?_
    rw [ee] at hq
    rcases hq with hq | hq | ⟨hq,hq2⟩
    ·have:=a.1;omega
    ·have:=a.1;omega
    ·rcases hq2 with hq2 | hq2 | ⟨hq2,hq3⟩
     ·exact hq2 hr
     ·rw [others3 h.pl h.ini,h.id] at hq2
      exact hq2 (mem_oth.2 ⟨ms.src,ne⟩)
     ·have a1:=hm.rep hq hq2
      have a2:=l.ok.ackd m.src m.term
      have a3:=(l.n.lead hr).2.1
      rw [show m.term=S.term by omega,a3] at a2
      rw [show m.term=S.term by omega] at a1
      omega
   | back k ht2 hr2 hg=>
    by_cases es:m.src=f
    ·exact fin (.head _) ⟨rfl,h.id,es,ht⟩
    ·refine same rfl ?_ fun a=>es a.2.1
     rw [backS_n h.nl ms.src,if_neg es]
   | more k ht2 hr2 hg hpl hc=>
    rw [heard_all h] at fin ⊢
    exact fin (List.mem_map.2 ⟨f,mem_oth.2 ⟨hf,hn'⟩,rfl⟩) ⟨rfl,hsm.1.trans h.id,rfl,hsm.2.1.trans ht⟩
   | next k ht2 hr2 hg hpl hc hne=>
    by_cases es:m.src=f
    ·exact fin (.head _) ⟨rfl,hsm.1.trans h.id,es,hsm.2.1.trans ht⟩
    ·obtain ⟨c,ec,-⟩:=advC_ex (matchS S m)
     refine same ?_ ?_ fun a=>es a.2.1
     ·rw [ec];exact (matchS_m h.ml ms.src f).trans (if_neg es)
     ·rw [ec];exact (matchS_n h.nl ms.src f).trans (if_neg es)
   | done k ht2 hr2 hg hpl hc hne=>
    obtain ⟨c,ec,-⟩:=advC_ex (matchS S m)
    have e1:(advC (matchS S m)).mtch.getD f 0=(matchS S m).mtch.getD f 0:=by rw [ec]
    have e2:(advC (matchS S m)).next.getD f 0=(matchS S m).next.getD f 0:=by rw [ec]
    by_cases es:m.src=f
    ·right;right
     rw [e1,e2,<- hl,matchS_m h.ml ms.src,matchS_n h.nl ms.src,if_pos es,if_pos es]
     rw [matchS_n h.nl ms.src,if_pos rfl] at hne
     rw [<- es] at l2
     omega
    ·exact same (e1.trans ((matchS_m h.ml ms.src f).trans (if_neg es))) (e2.trans ((matchS_n h.nl ms.src f).trans (if_neg es))) fun a=>es a.2.1
   | _=>omega
 · -- a follower hears the leader
  have mk:m.kind=3/\m.src=x:=by
   rcases m1 with a | a
   ·exact a
   ·exact absurd a.2 e
  obtain ⟨f1,f2,f3,f4⟩:=r.fol m.dst ms.dst e
  have key:Mv now S m s' out->s'.term=M/\s'.role=1/\s'.leader=some x/\s'.since=now/\∃ w,out=[w]/\Rep m.dst x M w:=fun mv=>by
   have hno:(ent S m).role≠3:=fun e3=>by
    rcases ent_cases S m with ⟨ee,hl⟩ | ⟨ee,-⟩
    ·rw [ee] at e3;omega
    ·rw [ee] at e3;cases e3
   cases mv with
   | idle hle hq=>
    rcases hq with hq | hq | hq
    ·omega
    ·exact absurd hq.2 hno
    ·omega
   | fol k hle=>exact ⟨by show (ent S m).term=M;rw [ent_term hle,m2],rfl,by show some m.src=some x;rw [mk.2],rfl,_,rfl,rfl,by show (ent S m).id=m.dst;rw [(ent_same S m).1,h.id],mk.2,by show (ent S m).term=M;rw [ent_term hle,m2]⟩
   | nofol k hle=>exact ⟨by show (ent S m).term=M;rw [ent_term hle,m2],rfl,by show some m.src=some x;rw [mk.2],rfl,_,rfl,rfl,by show (ent S m).id=m.dst;rw [(ent_same S m).1,h.id],mk.2,by show (ent S m).term=M;rw [ent_term hle,m2]⟩
   | _=>omega
  obtain ⟨k1,k2,k3,k4,w,k5,k6⟩:=key mv
  have ex:upd N m.dst s' x=N x:=other fun a=>e a.symm
  rw [k5] at mem memo ⊢
  refine ⟨by rw [ex];exact r.r,by rw [ex];exact r.tm,by rw [ex];exact r.lg,by rw [ex];exact r.hb,fun f hf hn=>?_,fun y hy=>?_,fun f hf hn=>?_⟩
  ·by_cases ef:f=m.dst
   ·subst ef
    rw [self]
    exact ⟨k1,k2,k3,by omega⟩
   ·rw [other ef];exact r.fol f hf hn
  ·rcases List.mem_append.1 hy with hy | hy
   ·exact r.ms y (.tail _ hy)
   ·rw [List.mem_singleton.1 hy]
    exact ⟨.inr ⟨k6.1,k6.2.2.1⟩,k6.2.2.2⟩
  ·rw [ex]
   rcases r.pr f hf hn with ⟨z,z1,z2⟩ | ⟨z,z1,z2⟩ | c2
   ·rcases List.mem_cons.1 z1 with rfl | z1
    ·have:f=z.dst:=z2.2.2.1.symm
     subst this
     exact .inr (.inl ⟨w,memo (.head _),k6⟩)
    ·exact .inl ⟨z,mem z1,z2⟩
   ·rcases List.mem_cons.1 z1 with rfl | z1
    ·exact absurd z2.1 (by omega)
    ·exact .inr (.inl ⟨z,mem z1,z2⟩)
   ·exact .inr (.inr c2)
structure Kno (x M C:Nat) (N:Nat->PN) (q:List Msg):Prop where
 mt:∀ f,f<3->f≠x->(N x).mtch.getD f 0=C
 cf:∀ f,f<3->f≠x->(∃ m∈q,App x f M m/\m.prev=C/\m.commit=C)\/C<=(N f).commit
theorem mv_com (mv:Mv now s m s' out):s.commit<=s'.commit:=by
 have e:=(ent_same s m).2.2.2.2.2.1
 have hs:∀ s:PN,s.commit<=(advS s).commit:=fun s=>by
  have:=(advC_same s).2.2.2.2.2.2.2.2
  unfold advS
  (repeat' split) <;> exact this
 have hc:s.commit<=(advC (matchS s m)).commit:=(advC_same (matchS s m)).2.2.2.2.2.2.2.2
 cases mv with
 | deaf=>exact Nat.le_refl _
 | old1=>exact Nat.le_refl _
 | old3=>exact Nat.le_refl _
 | old=>exact Nat.le_refl _
 | grant=>exact Nat.le_of_eq e.symm
 | deny=>exact Nat.le_of_eq e.symm
 | idle=>exact Nat.le_of_eq e.symm
 | count=>exact Nat.le_refl _
 | lead=>exact hs (leadB { s with votes:=s.votes.set m.src true })
 | fol=>exact Nat.le_max_left _ _
 | nofol=>exact Nat.le_of_eq e.symm
 | back=>exact Nat.le_refl _
 | more=>exact hc
 | next=>exact hc
 | done=>exact hc
theorem Kno.step {h0 s0:Nat} (hx:x<3) (hs:s0<=now) (j:J now N (m::q)) (r:Fin x M h0 s0 L N (m::q)) (k:Kno x M L.length N (m::q)):Kno x M L.length (upd N m.dst (stepS (N m.dst) m now).1) (q++(stepS (N m.dst) m now).2):=by
 have ms:=j.ms m (.head _)
 have h:=(j.sh m.dst ms.dst).clock
 have mv:=j.mv
 obtain ⟨g,sys⟩:=j.sys
 have l:=(sys.live m.dst ms.dst).1.clock now
 have hm:=sys.msg m (.head _)
 obtain ⟨m1,m2⟩:=r.ms m (.head _)
 have ne:=ms.ne
 have eS:((N m.dst).at now).term=(N m.dst).term/\((N m.dst).at now).role=(N m.dst).role/\((N m.dst).at now).commit=(N m.dst).commit/\((N m.dst).at now).log=(N m.dst).log/\((N m.dst).at now).mtch=(N m.dst).mtch:=⟨rfl,rfl,rfl,rfl,rfl⟩
 obtain ⟨eS1,eS2,eS3,eS4,eS5⟩:=eS
 have hc:=mv_com mv
 generalize hS:(N m.dst).at now=S at*
 generalize (stepS (N m.dst) m now).1=s' at*
 generalize (stepS (N m.dst) m now).2=out at*
 have self:upd N m.dst s' m.dst=s':=upd_self N _ s'
 have other:∀ {k},k≠m.dst->upd N m.dst s' k=N k:=fun {k} hk=>upd_ne N s' hk
 have mem:∀ {x},x∈q->x∈q++out:=fun {x} hx=>List.mem_append_left _ hx
 constructor
 ·intro f hf hn
  by_cases e:m.dst=x
  ·rw [<- e,self]
   have hr:S.role=3:=by rw [eS2,e];exact r.r
   have ht:S.term=M:=by rw [eS1,e];exact r.tm
   have hl:S.log=L:=by rw [eS4,e];exact r.lg
   have k0:S.mtch.getD f 0=L.length:=by rw [eS5,e];exact k.mt f hf hn
   have heard:m.prev<=S.log.length->(advC (matchS S m)).mtch.getD f 0=L.length:=fun hp=>by
    obtain ⟨c,ec,-⟩:=advC_ex (matchS S m)
    rw [ec]
    show (matchS S m).mtch.getD f 0=_
    rw [matchS_m h.ml ms.src]
    split
    ·rename_i es
     rw [es,k0]
     rw [hl] at hp
     omega
    ·exact k0
   have mk:m.kind=4:=by
    rcases m1 with a | a
    ·exact absurd (a.2.trans e.symm) ne
    ·exact a.1
   cases mv with
   | idle=>rw [ent_eq (by omega)];exact k0
   | back=>exact k0
   | more k ht2 hr2 hg hpl=>exact heard hpl
   | next k ht2 hr2 hg hpl=>exact heard hpl
   | done k ht2 hr2 hg hpl=>exact heard hpl
   | _=>omega
  ·rw [other fun a=>e a.symm];exact k.mt f hf hn
 ·intro f hf hn
  rcases k.cf f hf hn with ⟨z,z1,z2,z3,z4⟩ | c
  ·rcases List.mem_cons.1 z1 with rfl | z1
   ·right
    obtain ⟨a1,a2,a3,a4⟩:=z2
    subst a3
    rw [self]
    obtain ⟨lx,ix⟩:=sys.live x hx
    obtain ⟨f1,f2,-⟩:=r.fol _ ms.dst hn
    have hmt:matchesS S z:=sure_fol l lx r.r hm a1 (by rw [r.tm];exact a4) (by rw [ix];exact a2) h.id.symm (by omega) (.inr (by rw [k.mt _ ms.dst hn,z3];exact Nat.le_refl _))
    have key:Mv now S z s' out->L.length<=s'.commit:=fun mv=>by
     have hno:(ent S z).role≠3:=fun e3=>by
      rcases ent_cases S z with ⟨ee,hl⟩ | ⟨ee,-⟩
      ·rw [ee] at e3;omega
      ·rw [ee] at e3;cases e3
     cases mv with
     | idle hle hq=>
      rcases hq with hq | hq | hq
      ·omega
      ·exact absurd hq.2 hno
      ·omega
     | fol k hle=>
      show L.length<=max S.commit (min z.commit (z.prev+z.ents.length))
      omega
     | nofol k hle hr hno=>exact absurd hmt hno
     | _=>omega
    exact key mv
   ·exact .inl ⟨z,mem z1,z2,z3,z4⟩
  ·right
   by_cases ef:f=m.dst
   ·subst ef
    rw [self]
    omega
   ·rw [other ef];exact c
end
end Go.Proofs.YtcaokpglbolkcaaGreat
namespace Go.Proofs.YtcaokpglbolkcaaGreat
section
variable {g:G} {now M i K t x:Nat} {N N1:Nat->PN} {q:List Msg} {s s':PN} {m:Msg} {out:List Msg}
def Cd (now:Nat) (N1:Nat->PN) (i:Nat):Prop:=(N1 i).role=2/\(N1 i).since=now
def LM (now M:Nat) (N:Nat->PN):Prop:=∃ x,x<3/\(N x).role=3/\(N x).term=M/\(N x).hb=now
theorem LM.step (j:J now N (m::q)) (r:Rb now M N1 N (m::q)) (h:LM now M N):LM now M (upd N m.dst (stepS (N m.dst) m now).1):=by
 obtain ⟨x,hx,h1,h2,h3⟩:=h
 by_cases e:x=m.dst
 ·subst e
  have:=mv_keep j.mv h1 (by have:=r.mt m (.head _);show _<=(N m.dst).term;omega)
  exact ⟨m.dst,hx,by rw [upd_self];exact this.1,by rw [upd_self];exact this.2.1.trans h2,by rw [upd_self];exact this.2.2.2.1.trans h3⟩
 ·exact ⟨x,hx,by rw [upd_ne N _ e];exact h1,by rw [upd_ne N _ e];exact h2,by rw [upd_ne N _ e];exact h3⟩
theorem mv_since (mv:Mv now s m s' out):s'.since=s.since\/s'.since=now:=by
 have e:=(ent_same s m).2.2.2.2.2.2.1
 have hc:=(heard_same s m).2.2.2.2.2.2.1
 have hs:∀ s:PN,(advS s).since=s.since:=fun s=>by
  obtain ⟨c,ec,-⟩:=advC_ex s
  unfold advS
  rw [ec]
  (repeat' split) <;> rfl
 cases mv with
 | deaf=>exact .inl rfl
 | old1=>exact .inl rfl
 | old3=>exact .inl rfl
 | old=>exact .inl rfl
 | grant=>exact .inr rfl
 | deny=>exact .inl e
 | idle=>exact .inl e
 | count=>exact .inl rfl
 | lead=>exact .inl (hs (leadB { s with votes:=s.votes.set m.src true }))
 | fol=>exact .inr rfl
 | nofol=>exact .inr rfl
 | back=>exact .inl rfl
 | more=>exact .inl hc
 | next=>exact .inl hc
 | done=>exact .inl hc
structure Rn (now M:Nat) (N1 N:Nat->PN) (q:List Msg):Prop where
 ph:(∃ a b,q=a++b/\(∀ x∈a,x.kind=1)/\(∀ x∈b,x.kind=2)/\∀ i,i<3->(N i).role≠3/\((N i).leader≠none->(N1 i).leader≠none))\/∀ x∈q,x.kind≠1
 n2:∀ m∈q,m.kind=1->Cd now N1 m.src/\m.term=(N1 m.src).term/\m.prev=(N1 m.src).log.length/\m.prevTerm=lastT (N1 m.src).log
 n3:∀ m∈q,m.kind=3->Cd now N1 m.src/\m.term=(N1 m.src).term
 n4:∀ m∈q,m.kind=2->Cd now N1 m.dst/\(m.granted=true->m.term=(N1 m.dst).term)
 n5:∀ i,i<3->(N i).role=3->Cd now N1 i/\(N i).hb=now
 n6:∀ m∈q,m.kind=4->Cd now N1 m.dst
 U:∀ i y,i<3->y<3->y≠i->Cd now N1 i->(N1 y).term=M->(N1 y).leader=none->(∃ m∈q,m.kind=1/\m.src=i/\m.dst=y)\/(∃ m∈q,m.kind=2/\m.dst=i/\m.term=M)\/(N i).term=M
 D:∀ i y,i<3->y<3->y≠i->Cd now N1 i->(N1 i).term=M->(N1 y).leader=none->(∃ m∈q,m.kind=1/\m.src=i/\m.dst=y)\/(N y).term=M
 Lb:∀ j,j<3->(N j).leader≠none->(N j).role=3\/(¬Cd now N1 j/\(N1 j).leader≠none/\(N j).since=(N1 j).since/\(N j).term=(N1 j).term)\/
  ((N j).since=now/\(N j).term<M/\(N j).role=1/\∃ x,x<3/\x≠j/\(N j).leader=some x/\Cd now N1 x/\(N1 x).term=(N j).term)
 Lk:∀ j,j<3->¬Cd now N1 j->(N1 j).leader≠none->(N j).leader≠none
 si:∀ j,j<3->(N j).since=(N1 j).since\/(N j).since=now
structure Rq (now M:Nat) (N1 N:Nat->PN) (q:List Msg):Prop where
 q0:∀ i,i<3->Cd now N1 i->(N i).role=2/\(N i).term=M/\(N i).since=now/\(N i).log=(N1 i).log/\(N i).leader=none
 q1:∀ j,j<3->¬Cd now N1 j->(N j).log=(N1 j).log/\(N j).leader=none/\(((N j).term<M/\(N j).since=(N1 j).since)\/((N j).term=M/\(N j).voted=none/\(N j).since=(N1 j).since)\/∃ m∈q,m.kind=2/\m.granted=true/\m.src=j/\m.term=M)
 q2:∀ b j,b<3->j<3->Cd now N1 b->¬Cd now N1 j->UpTo (N1 b).log (N1 j).log->(∃ m∈q,m.kind=1/\m.src=b/\m.dst=j)\/∃ m∈q,m.kind=2/\m.granted=true/\m.src=j/\m.term=M
 q3:∀ m∈q,m.kind=1\/m.kind=2
theorem Rn.step (j:J now N (m::q)) (r:Rb now M N1 N (m::q)) (n:Rn now M N1 N (m::q)) (hno:¬LM now M (upd N m.dst (stepS (N m.dst) m now).1)):Rn now M N1 (upd N m.dst (stepS (N m.dst) m now).1) (q++(stepS (N m.dst) m now).2):=by
 have ms:=j.ms m (.head _)
 have h:=(j.sh m.dst ms.dst).clock
 have mv:=j.mv
 have j':=j.step
 have r':=r.step j
 have hno0:¬LM now M N:=fun a=>hno (a.step j r)
 have ro:=mv_role h ms.dst mv
 have ot:=mv_out h ms.dst mv
 have tt:=(mv_t mv).2
 have ld:=mv_ld h ms.dst mv
 have si0:=mv_since mv
 have bw0:=r.bw m.dst ms.dst
 have mt0:=r.mt m (.head _)
 have ap0:=r.ap m (.head _)
 have ne:=ms.ne
 have eS:((N m.dst).at now).term=(N m.dst).term/\((N m.dst).at now).role=(N m.dst).role/\((N m.dst).at now).hb=(N m.dst).hb/\((N m.dst).at now).leader=(N m.dst).leader/\((N m.dst).at now).since=(N m.dst).since/\((N m.dst).at now).wait=(N m.dst).wait:=⟨rfl,rfl,rfl,rfl,rfl,rfl⟩
 obtain ⟨eS1,eS2,eS3,eS4,eS5,eS6⟩:=eS
 have rl':=r'.rl m.dst ms.dst
 have t1':=r'.t1
 have tM':=r'.tM
 rw [upd_self] at rl'
 generalize hS:(N m.dst).at now=S at*
 generalize (stepS (N m.dst) m now).1=s' at*
 generalize (stepS (N m.dst) m now).2=out at*
 have self:upd N m.dst s' m.dst=s':=upd_self N _ s'
 have other:∀ {k},k≠m.dst->upd N m.dst s' k=N k:=fun {k} hk=>upd_ne N s' hk
 have mem:∀ {x},x∈q->x∈q++out:=fun {x} hx=>List.mem_append_left _ hx
 have memo:∀ {x},x∈out->x∈q++out:=fun {x} hx=>List.mem_append_right _ hx
 have up:∀ k,k<3->(N k).term=M->(upd N m.dst s' k).term=M:=fun k hk hM=>by
  have:=tM' k hk
  by_cases e:k=m.dst
  ·subst e
   rw [self] at this ⊢
   omega
  ·rw [other e];exact hM
 have hnl:∀ k,k<3->(N k).term=M->(N k).role≠3:=fun k hk h1 h2=>hno0 ⟨k,hk,h2,h1,(n.n5 k hk h2).2⟩
 have app:m.kind=3->m.term<M:=fun hk=>by
  obtain ⟨b1,b2,b3⟩:=ap0 hk
  have:=r.tM m.src ms.src
  refine Nat.lt_of_le_of_ne mt0 fun e=>?_
  exact hnl m.src ms.src (by omega) (b3 (by omega)).1
 have cd':s'.role=3->Cd now N1 m.dst/\s'.hb=now:=fun hr=>by
  rcases ro with ro | ro | ro
  ·omega
  ·have:=n.n5 m.dst ms.dst (by omega)
   exact ⟨this.1,by rw [ro.2.2.1,eS3];exact this.2⟩
  ·exact ⟨(n.n4 m (.head _) ro.2.2.2.2.1).1,ro.2.2.2.1⟩
 have notdeaf:¬deaf S m now->m.kind=1->(N m.dst).leader=none:=fun hd hk=>by
  obtain ⟨b1,b2⟩:=not_deaf hd hk
  rcases b2 with b2 | b2
  ·exact eS4.symm.trans b2
  ·cases hx:(N m.dst).leader with
   | none=>rfl
   | some x=>
    have:=bw0 (by omega) (by rw [hx];exact fun h=>by cases h)
    omega
 refine ⟨?_,fun x hx hk=>?_,fun x hx hk=>?_,fun x hx hk=>?_,fun k hk hr=>?_,fun x hx hk=>?_,fun k y hk hy hyk hc hM hl=>?_,fun k y hk hy hyk hc hM hl=>?_,fun k hk hl=>?_,fun k hk hc hl=>?_,fun k hk=>?_⟩
 ·rcases n.ph with ⟨a,b,e,ha,hb,hr⟩ | hp
  ·cases a with
   | nil=>
    right
    have e:m::q=b:=e
    intro x hx
    rcases List.mem_append.1 hx with hx | hx
    ·have:=hb x (by rw [<- e];exact .tail _ hx)
     omega
    ·exact (ot x hx).2.2.1
   | cons a0 a=>
    left
    rw [List.cons_append,List.cons.injEq] at e
    obtain ⟨rfl,rfl⟩:=e
    have k1:=ha m (.head _)
    refine ⟨a,b++out,by rw [List.append_assoc],fun x hx=>ha x (.tail _ hx),fun x hx=>?_,fun i hi=>?_⟩
    ·rcases List.mem_append.1 hx with hx | hx
     ·exact hb x hx
     ·obtain ⟨o1,o2,o3,o4,o5,o6⟩:=ot x hx
      have kd:=(j'.ms x (memo hx)).kind
      have:x.kind≠3:=fun e=>by
       obtain ⟨o5,o7⟩:=o5 e
       rcases ro with ro | ro | ro
       ·omega
       ·rcases o7 with o7 | o7
        ·omega
        ·omega
       ·omega
      have:x.kind≠4:=fun e=>by have:=(o6 e).1;omega
      omega
    ·by_cases ei:i=m.dst
     ·subst ei
      rw [self]
      have old:=hr m.dst ms.dst
      refine ⟨?_,fun hl=>?_⟩
      ·rcases ro with ro | ro | ro
       ·omega
       ·omega
       ·omega
      ·rcases ld with ⟨a1,-⟩ | a1 | ⟨a1,a2,a3,a4⟩ | ⟨a1,-⟩ | ⟨a1,a2⟩
       ·exact old.2 (by rw [<- eS4,<- a1];exact hl)
       ·exact absurd a1 hl
       ·exact old.2 (by rw [<- eS4,<- a3];exact hl)
       ·omega
       ·rcases ro with ro | ro | ro <;> omega
     ·rw [other ei];exact hr i hi
  ·right
   intro x hx
   rcases List.mem_append.1 hx with hx | hx
   ·exact hp x (.tail _ hx)
   ·exact (ot x hx).2.2.1
 ·rcases List.mem_append.1 hx with hx | hx
  ·exact n.n2 x (.tail _ hx) hk
  ·exact absurd hk (ot x hx).2.2.1
 ·rcases List.mem_append.1 hx with hx | hx
  ·exact n.n3 x (.tail _ hx) hk
  ·obtain ⟨o1,o2,o3,o4,o5,o6⟩:=ot x hx
   have hr:=(o5 hk).1
   rw [o1,o2]
   exact ⟨(cd' hr).1,rl' (by omega)⟩
 ·rcases List.mem_append.1 hx with hx | hx
  ·exact n.n4 x (.tail _ hx) hk
  ·obtain ⟨o1,o2,o3,o4,o5,o6⟩:=ot x hx
   obtain ⟨a1,a2,a3⟩:=o4 hk
   obtain ⟨b1,b2,-⟩:=n.n2 m (.head _) a1
   rw [a2,o2]
   exact ⟨b1,fun hg=>(a3 hg).1.trans b2⟩
 ·by_cases e:k=m.dst
  ·subst e
   rw [self] at hr ⊢
   exact cd' hr
  ·rw [other e] at hr ⊢;exact n.n5 k hk hr
 ·rcases List.mem_append.1 hx with hx | hx
  ·exact n.n6 x (.tail _ hx) hk
  ·obtain ⟨o1,o2,o3,o4,o5,o6⟩:=ot x hx
   obtain ⟨a1,a2⟩:=o6 hk
   rw [a2]
   exact (n.n3 m (.head _) a1).1
 ·rcases n.U k y hk hy hyk hc hM hl with ⟨z,z1,z2,z3,z4⟩ | ⟨z,z1,z2,z3,z4⟩ | c
  ·rcases List.mem_cons.1 z1 with rfl | z1
   ·obtain ⟨-,b2,-⟩:=n.n2 z (.head _) z2
    subst z4 z3
    have ty:(N z.dst).term=M:=by
     have:=r.t1 z.dst hy
     have:=r.tM z.dst hy
     omega
    by_cases em:z.term=M
    ·right;right
     have a1:=t1' z.src hk
     have a2:=tM' z.src hk
     omega
    ·right;left
     have key:Mv now S z s' out->∃ w∈out,w.kind=2/\w.dst=z.src/\w.term=M:=fun mv=>by
      have hlt:z.term<S.term:=by omega
      cases mv with
      | deaf _ hd=>
       exfalso
       rcases hd with hd | ⟨hd,-⟩
       ·exact hnl z.dst hy ty (by omega)
       ·rcases n.Lb z.dst hy (by rw [<- eS4];exact hd) with a | a | a
        ·exact hnl z.dst hy ty a
        ·exact a.2.1 hl
        ·omega
      | old1=>exact ⟨_,.head _,rfl,rfl,eS1.trans ty⟩
      | _=>omega
     obtain ⟨w,w1,w2⟩:=key mv
     exact ⟨w,memo w1,w2⟩
   ·exact .inl ⟨z,mem z1,z2,z3,z4⟩
  ·rcases List.mem_cons.1 z1 with rfl | z1
   ·right;right
    subst z3
    rw [self]
    have key:Mv now S z s' out->s'.term=M:=fun mv=>by
     rcases Nat.lt_or_ge S.term M with hl | hl
     ·have hlt:S.term<z.term:=by omega
      cases mv with
      | idle hle=>rw [ent_term hle];exact z4
      | _=>omega
     ·have:=tM' z.dst hk
      rw [self] at this
      omega
    exact key mv
   ·exact .inr (.inl ⟨z,mem z1,z2,z3,z4⟩)
  ·exact .inr (.inr (up k hk c))
 ·rcases n.D k y hk hy hyk hc hM hl with ⟨z,z1,z2,z3,z4⟩ | c
  ·rcases List.mem_cons.1 z1 with rfl | z1
   ·right
    obtain ⟨-,b2,-⟩:=n.n2 z (.head _) z2
    subst z4 z3
    rw [self]
    have ph:(N z.dst).role≠3/\(N z.dst).leader=none:=by
     rcases n.ph with ⟨a,b,e,ha,hb,hr⟩ | hp
     ·obtain ⟨c1,c2⟩:=hr z.dst hy
      refine ⟨c1,?_⟩
      cases hx:(N z.dst).leader with
      | none=>rfl
      | some x=>exact absurd hl (c2 (by rw [hx];exact fun h=>by cases h))
     ·exact absurd z2 (hp z (.head _))
    have key:Mv now S z s' out->s'.term=M:=fun mv=>by
     cases mv with
     | deaf _ hd=>
      exfalso
      rcases hd with hd | ⟨hd,-⟩
      ·exact ph.1 (by omega)
      ·exact hd (eS4.trans ph.2)
     | old1=>
      have:=r.tM z.dst hy
      omega
     | grant _ hle=>
      show (ent S z).term=M
      rw [ent_term hle];omega
     | deny _ hle=>
      rw [ent_term hle];omega
     | _=>omega
    exact key mv
   ·exact .inl ⟨z,mem z1,z2,z3,z4⟩
  ·exact .inr (up y hy c)
 ·by_cases e:k=m.dst
  ·subst e
   rw [self] at hl ⊢
   rcases ld with ⟨a1,a2,a3,a4⟩ | a | ⟨a1,a2,a3,a4⟩ | ⟨a1,a2,a3,a4,a5,a6,a7⟩ | ⟨a1,a2⟩
   ·rcases a4 with a4 | a4
    ·rcases n.Lb m.dst hk (by rw [<- eS4,<- a1];exact hl) with b | ⟨b1,b2,b3,b4⟩ | ⟨b1,b2,b3,x,b4,b5,b6,b7,b8⟩
     ·exact .inl (by omega)
     ·exact .inr (.inl ⟨b1,b2,by omega,by omega⟩)
     ·exact .inr (.inr ⟨by omega,by omega,by omega,x,b4,b5,by rw [a1,eS4];exact b6,b7,by omega⟩)
    ·exact .inl a4
   ·exact absurd a hl
   ·exact absurd (a3.trans (eS4.trans (notdeaf a2 a1))) hl
   ·have:=app a1
    obtain ⟨c1,c2⟩:=n.n3 m (.head _) a1
    exact .inr (.inr ⟨a5,by omega,a6,m.src,ms.src,ne,a4,c1,by omega⟩)
   ·exact .inl a2
  ·rw [other e] at hl ⊢;exact n.Lb k hk hl
 ·by_cases e:k=m.dst
  ·subst e
   rw [self]
   have old:=n.Lk m.dst hk hc hl
   have nr:(N m.dst).role≠3:=fun a=>hc (n.n5 m.dst hk a).1
   have key:Mv now S m s' out->s'.leader≠none:=fun mv=>by
    have k2:m.kind≠2:=fun a=>hc (n.n4 m (.head _) a).1
    have k4:m.kind≠4:=fun a=>hc (n.n6 m (.head _) a)
    cases mv with
    | deaf=>rw [eS4];exact old
    | old1=>rw [eS4];exact old
    | old3=>rw [eS4];exact old
    | grant a _ hd=>exact absurd (notdeaf hd a) old
    | deny a _ hd=>exact absurd (notdeaf hd a) old
    | idle hle hq=>
     rcases hq with hq | hq | hq
     ·exact absurd hq.1 k2
     ·rcases ent_cases S m with ⟨ee,-⟩ | ⟨ee,-⟩
      ·rw [ee] at hq;omega
      ·rw [ee] at hq;exact absurd hq.2 (by show ¬((1:Nat)=3);decide)
     ·exact absurd hq.1 k4
    | fol=>exact fun a=>by cases a
    | nofol=>exact fun a=>by cases a
    | _=>omega
   exact key mv
  ·rw [other e];exact n.Lk k hk hc hl
 ·by_cases e:k=m.dst
  ·subst e
   rw [self]
   have:=n.si m.dst hk
   omega
  ·rw [other e];exact n.si k hk
theorem votes_two {N:Nat->PN} (h:Sh now i s) (hi:i<3) (hr:s.role=2) (hs:m.src<3) (hn:m.src≠i):Elected { s with votes:=s.votes.set m.src true }:=by
 rw [elected3 (s:={ s with votes:=s.votes.set m.src true }) ((memb_plain (s:={ s with votes:=s.votes.set m.src true }) h.pl).trans h.ini)]
 refine ⟨i,m.src,hi,hs,hn.symm,?_,?_⟩
 ·show (s.votes.set m.src true).getD i false=true
  rw [set_getD,if_neg fun a=>hn a.1]
  exact (h.c2 hr).2.2
 ·show (s.votes.set m.src true).getD m.src false=true
  rw [set_getD,if_pos ⟨rfl,by rw [h.vl];omega⟩]
theorem Rq.step (j:J now N (m::q)) (r:Rb now M N1 N (m::q)) (n:Rn now M N1 N (m::q)) (hq:∀ i,i<3->(N1 i).leader=none/\(Cd now N1 i->(N1 i).term=M)) (u:Rq now M N1 N (m::q)) (hno:¬LM now M (upd N m.dst (stepS (N m.dst) m now).1)):Rq now M N1 (upd N m.dst (stepS (N m.dst) m now).1) (q++(stepS (N m.dst) m now).2):=by
 have ms:=j.ms m (.head _)
 have h:=(j.sh m.dst ms.dst).clock
 have mv:=j.mv
 have j':=j.step
 have r':=r.step j
 have n':=n.step j r hno
 have ot:=mv_out h ms.dst mv
 have mt0:=r.mt m (.head _)
 have ne:=ms.ne
 have eS:((N m.dst).at now).term=(N m.dst).term/\((N m.dst).at now).role=(N m.dst).role/\((N m.dst).at now).leader=(N m.dst).leader/\((N m.dst).at now).since=(N m.dst).since/\((N m.dst).at now).log=(N m.dst).log/\((N m.dst).at now).voted=(N m.dst).voted:=⟨rfl,rfl,rfl,rfl,rfl,rfl⟩
 obtain ⟨eS1,eS2,eS4,eS5,eS6,eS7⟩:=eS
 generalize hS:(N m.dst).at now=S at*
 generalize (stepS (N m.dst) m now).1=s' at*
 generalize (stepS (N m.dst) m now).2=out at*
 have self:upd N m.dst s' m.dst=s':=upd_self N _ s'
 have other:∀ {k},k≠m.dst->upd N m.dst s' k=N k:=fun {k} hk=>upd_ne N s' hk
 have mem:∀ {x},x∈q->x∈q++out:=fun {x} hx=>List.mem_append_left _ hx
 have memo:∀ {x},x∈out->x∈q++out:=fun {x} hx=>List.mem_append_right _ hx
 have nol:s'.role=3->False:=fun hr=>by
  obtain ⟨c1,c2⟩:=n'.n5 m.dst ms.dst (by rw [self];exact hr)
  have:=r'.rl m.dst ms.dst (by rw [self];omega)
  rw [self] at this
  exact hno ⟨m.dst,ms.dst,by rw [self];exact hr,by rw [self,this];exact (hq m.dst ms.dst).2 c1,c2⟩
 have nov:m.kind=2->m.granted=true->m.term=M->False:=fun k1 k2 k3=>by
  obtain ⟨c1,-⟩:=n.n4 m (.head _) k1
  obtain ⟨a1,a2,a3,a4,a5⟩:=u.q0 m.dst ms.dst c1
  have key:Mv now S m s' out->s'.role=3:=fun mv=>by
   cases mv with
   | lead=>
    rw [mv_lead3 h ms.dst];rfl
   | count _ _ _ hr he=>exact absurd (votes_two (N:=N) h ms.dst hr ms.src ne) he
   | idle hle hq2=>
    rw [ent_eq (by omega)] at hq2
    rcases hq2 with hq2 | hq2 | hq2
    ·exact absurd ⟨k2,eS2.trans a1⟩ hq2.2
    ·omega
    ·omega
   | _=>omega
  exact nol (key mv)
 have ki:=u.q3 m (.head _)
 have vote:¬Cd now N1 m.dst->m.kind=1:=fun hc=>by
  rcases ki with k | k
  ·exact k
  ·exact absurd (n.n4 m (.head _) k).1 hc
 have ask:m.kind=1->m.term=M:=fun k=>by
  obtain ⟨b1,b2,-⟩:=n.n2 m (.head _) k
  rw [b2]
  exact (hq m.src ms.src).2 b1
 have grantv:∀ {w:Msg},w∈out->w.kind=2->w.granted=true->w.term=M->∃ z∈q++out,z.kind=2/\z.granted=true/\z.src=m.dst/\z.term=M:=fun {w} h1 h2 h3 h4=>⟨w,memo h1,h2,h3,(ot w h1).1,h4⟩
 have lift:∀ {P:Msg->Prop},(∃ z∈m::q,z.kind=2/\z.granted=true/\P z/\z.term=M)->∃ z∈q++out,z.kind=2/\z.granted=true/\P z/\z.term=M:=fun {P} ⟨z,z1,z2,z3,z4,z5⟩=>by
  rcases List.mem_cons.1 z1 with rfl | z1
  ·exact (nov z2 z3 z5).elim
  ·exact ⟨z,mem z1,z2,z3,z4,z5⟩
 have fresh:¬Cd now N1 m.dst->(∃ z∈q++out,z.kind=2/\z.granted=true/\z.src=m.dst/\z.term=M)\/(s'.log=(N1 m.dst).log/\s'.leader=none/\s'.term=M/\s'.voted=none/\s'.since=(N1 m.dst).since/\¬UpTo (N1 m.src).log (N1 m.dst).log):=fun hc=>by
  have k1:=vote hc
  have hT:=ask k1
  obtain ⟨b1,b2,b3,b4⟩:=n.n2 m (.head _) k1
  obtain ⟨a1,a2,a3⟩:=u.q1 m.dst ms.dst hc
  rcases a3 with a3 | a3 | a3
  all_goals try exact .inl (lift a3)
  all_goals
   have key:Mv now S m s' out->(∃ w∈out,w.kind=2/\w.granted=true/\w.term=M)\/(s'.log=(N1 m.dst).log/\s'.leader=none/\s'.term=M/\s'.voted=none/\s'.since=(N1 m.dst).since/\¬UpTo (N1 m.src).log (N1 m.dst).log):=fun mv=>by
    have nr:(N m.dst).role≠3:=fun a=>by
     obtain ⟨c1,-⟩:=n.n5 m.dst ms.dst a
     exact hc c1
    have ev:(ent S m).voted=none/\(ent S m).leader=none:=by
     rcases ent_cases S m with ⟨ee,hl⟩ | ⟨ee,hl⟩
     ·rw [ee,eS7,eS4]
      first
       | exact ⟨a3.2.1,a2⟩
       | omega
     ·rw [ee];exact ⟨rfl,rfl⟩
    obtain ⟨-,-,-,-,f5,-,f7,-⟩:=ent_same S m
    cases mv with
    | deaf _ hd=>
     rcases hd with hd | ⟨hd,-⟩
     ·exact absurd (eS2.symm.trans hd) nr
     ·exact absurd (eS4.trans a2) hd
    | old1=>omega
    | grant _ hle=>exact .inl ⟨_,.head _,rfl,rfl,by show (ent S m).term=M;rw [ent_term hle];exact hT⟩
    | deny _ hle hd hv=>
     refine .inr ⟨f5.trans (eS6.trans a1),ev.2,(ent_term hle).trans hT,ev.1,?_,fun hup=>hv ⟨.inl ev.1,?_⟩⟩
     ·rw [f7,eS5]
      first
       | exact a3.2.2
       | exact a3.2
     ·rw [eS6,a1,b3,b4]
      exact hup
    | _=>omega
   rcases key mv with ⟨w,w1,w2,w3,w4⟩ | k
   ·exact .inl (grantv w1 w2 w3 w4)
   ·exact .inr k
 refine ⟨fun k hk hc=>?_,fun k hk hc=>?_,fun b k hb hk hcb hck hup=>?_,fun x hx=>?_⟩
 ·by_cases e:k=m.dst
  ·subst e
   rw [self]
   obtain ⟨a1,a2,a3,a4,a5⟩:=u.q0 m.dst hk hc
   have es:=ent_eq (s:=S) (m:=m) (by omega)
   have st:S.role=2/\S.term=M/\S.since=now/\S.log=(N1 m.dst).log/\S.leader=none:=⟨eS2.trans a1,eS1.trans a2,eS5.trans a3,eS6.trans a4,eS4.trans a5⟩
   cases mv with
   | deaf=>exact st
   | old1=>exact st
   | old3=>exact st
   | old=>exact st
   | grant _ _ _ hv=>
    rw [es,(h.c2 st.1).1] at hv
    rcases hv with hv | hv
    ·cases hv
    ·exact absurd (Option.some.inj hv).symm ne
   | deny=>rw [es];exact st
   | idle=>rw [es];exact st
   | count=>exact st
   | lead=>exact (nol (by rw [mv_lead3 h ms.dst];rfl)).elim
   | _=>omega
  ·rw [other e];exact u.q0 k hk hc
 ·by_cases e:k=m.dst
  ·subst e
   rw [self]
   rcases fresh hc with f | ⟨f1,f2,f3,f4,f5,-⟩
   ·obtain ⟨a1,a2,-⟩:=u.q1 m.dst hk hc
    have k1:=vote hc
    have hT:=ask k1
    have es:(ent S m).log=S.log:=(ent_same S m).2.2.2.2.1
    have key:Mv now S m s' out->s'.log=(N1 m.dst).log/\s'.leader=none:=fun mv=>by
     have el:(ent S m).leader=none:=by
      rcases ent_cases S m with ⟨ee,hl⟩ | ⟨ee,hl⟩
      ·rw [ee,eS4];exact a2
      ·rw [ee];rfl
     cases mv with
     | deaf=>exact ⟨eS6.trans a1,eS4.trans a2⟩
     | old1=>exact ⟨eS6.trans a1,eS4.trans a2⟩
     | grant=>exact ⟨es.trans (eS6.trans a1),el⟩
     | deny=>exact ⟨es.trans (eS6.trans a1),el⟩
     | _=>omega
    exact ⟨(key mv).1,(key mv).2,.inr (.inr f)⟩
   ·exact ⟨f1,f2,.inr (.inl ⟨f3,f4,f5⟩)⟩
  ·rw [other e]
   obtain ⟨a1,a2,a3⟩:=u.q1 k hk hc
   exact ⟨a1,a2,a3.imp id (Or.imp id lift)⟩
 ·rcases u.q2 b k hb hk hcb hck hup with ⟨z,z1,z2,z3,z4⟩ | c
  ·rcases List.mem_cons.1 z1 with rfl | z1
   ·subst z4 z3
    rcases fresh hck with f | f
    ·exact .inr f
    ·exact absurd hup f.2.2.2.2.2
   ·exact .inl ⟨z,mem z1,z2,z3,z4⟩
  ·exact .inr (lift c)
 ·rcases List.mem_append.1 hx with hx | hx
  ·exact u.q3 x (.tail _ hx)
  ·obtain ⟨o1,o2,o3,o4,o5,o6⟩:=ot x hx
   have kd:=(j'.ms x (memo hx)).kind
   have:x.kind≠3:=fun e=>nol (o5 e).1
   have:x.kind≠4:=fun e=>by have:=(o6 e).1;omega
   omega
end
end Go.Proofs.YtcaokpglbolkcaaGreat
namespace Go.Proofs.YtcaokpglbolkcaaGreat
section
variable {g:G} {now M i K t x W:Nat} {N N' N1:Nat->PN} {q:List Msg} {s s':PN} {m:Msg} {out:List Msg}
def cnd1 (s:PN):Nat:=if s.role=2 then 1 else 0
def cnd (N:Nat->PN):Nat:=cnd1 (N 0)+cnd1 (N 1)+cnd1 (N 2)
structure Gr (W:Nat) (N:Nat->PN) (q:List Msg):Prop where
 n:∀ i,i<3->(N i).log.length+cnd N<=W
 m:∀ m∈q,m.kind=3->m.prev+m.ents.length+cnd N<=W
theorem Gr.mono {W':Nat} (h:Gr W N q) (hw:W<=W'):Gr W' N q:=⟨fun i hi=>Nat.le_trans (h.n i hi) hw,fun m hm hk=>Nat.le_trans (h.m m hm hk) hw⟩
theorem mergeL_le:∀ (l log:List Ent) (n:Nat),n<=log.length->(mergeL log n l).length<=max log.length (n+l.length)
 | [],log,n,h=>Nat.le_max_left _ _
 | e::l,log,n,h=>by
  unfold mergeL
  split
  ·rename_i k
   have:=(List.getElem?_eq_some_iff.1 k).1
   have:=mergeL_le l log (n+1) (by omega)
   rw [List.length_cons]
   omega
  ·rw [List.length_append,List.length_take,List.length_cons]
   omega
theorem app_len (hn:s.next.getD x 0<=s.log.length+1):(sendAppendS s x).prev+(sendAppendS s x).ents.length<=s.log.length:=by
 show s.next.getD x 0 - 1+((s.log.drop (s.next.getD x 0 - 1)).take 16).length<=_
 rw [List.length_take,List.length_drop]
 omega
theorem mv_len (h:Sh now i s) (hi:i<3) (l:Live init3 g s) (ms:MSh m) (hm:MsgOk g m) (hd:m.dst=i) (mv:Mv now s m s' out):
  (s'.log.length<=s.log.length\/(s.role=2/\s'.role=3/\s'.log.length=s.log.length+1)\/(m.kind=3/\s'.role=1/\s'.log.length<=m.prev+m.ents.length))/\(s'.role=2->s.role=2)/\∀ x∈out,x.kind=3->x.prev+x.ents.length<=s'.log.length:=by
 have e5:=(ent_same s m).2.2.2.2.1
 have hh:=heard_same s m
 have er:(ent s m).role=2->s.role=2:=fun a=>by
  rcases ent_cases s m with ⟨ee,-⟩ | ⟨ee,-⟩
  ·rw [ee] at a;exact a
  ·rw [ee] at a;cases a
 have one:∀ {P:Msg->Prop} {y:Msg},P y->∀ x∈[y],P x:=fun {P y} hy x hx=>by rw [List.mem_singleton.1 hx];exact hy
 have nil:∀ {P:Msg->Prop},∀ x∈([]:List Msg),P x:=fun {P} x hx=>by cases hx
 have heard:s.role=3->m.kind=4->m.term=s.term->m.granted=true->m.prev<=s.log.length->∀ f,(sendAppendS (advC (matchS s m)) f).prev+(sendAppendS (advC (matchS s m)) f).ents.length<=(advC (matchS s m)).log.length:=fun hr hk ht hg hp f=>by
  have l1:=l.matched hr hm hk ht (by rw [h.id];exact hd) hg hp
  obtain ⟨c,ec,-⟩:=advC_ex (matchS s m)
  rw [ec]
  exact app_len (s:={ matchS s m with commit:=c }) (l1.nx hr f)
 have idm:∀ {a b:Nat},a<=b->a<=b:=fun h=>h
 cases mv with
 | deaf=>exact ⟨.inl (Nat.le_refl _),fun a=>a,nil⟩
 | old1=>exact ⟨.inl (Nat.le_refl _),fun a=>a,one fun e=>by cases e⟩
 | old3=>exact ⟨.inl (Nat.le_refl _),fun a=>a,one fun e=>by cases e⟩
 | old=>exact ⟨.inl (Nat.le_refl _),fun a=>a,nil⟩
 | grant=>exact ⟨.inl (by show (ent s m).log.length<=_;rw [e5];exact Nat.le_refl _),er,one fun e=>by cases e⟩
 | deny=>exact ⟨.inl (by rw [e5];exact Nat.le_refl _),er,one fun e=>by cases e⟩
 | idle=>exact ⟨.inl (by rw [e5];exact Nat.le_refl _),er,nil⟩
 | count=>exact ⟨.inl (Nat.le_refl _),fun a=>a,nil⟩
 | lead k hg ht hr hq=>
  rw [mv_lead3 h hi]
  refine ⟨.inr (.inl ⟨hr,rfl,by show (s.log++[(⟨s.term,1,[]⟩:Ent)]).length=_;simp⟩),fun e=>(by cases e),fun x hx _=>?_⟩
  obtain ⟨f,hf,rfl⟩:=List.mem_map.1 hx
  have:=(mem_oth.1 hf).1
  refine app_len (s:=leadB { s with votes:=s.votes.set m.src true }) ?_
  show (List.replicate 9 (s.log.length+1)).getD f 0<=(s.log++[(⟨s.term,1,[]⟩:Ent)]).length+1
  rw [rep9 _ _ (by omega)]
  simp
 | fol k hle hr hmt=>
  have hp:=(termAt_some hmt.1).1
  have:=mergeL_le m.ents s.log m.prev hp
  refine ⟨?_,fun e=>(by cases e),one fun e=>by cases e⟩
  show (mergeL s.log m.prev m.ents).length<=s.log.length\/_\/(_/\_/\(mergeL s.log m.prev m.ents).length<=_)
  rcases Nat.le_total s.log.length (m.prev+m.ents.length) with a | a
  ·exact .inr (.inr ⟨k,rfl,by omega⟩)
  ·exact .inl (by omega)
 | nofol=>exact ⟨.inl (by show (ent s m).log.length<=_;rw [e5];exact Nat.le_refl _),fun e=>(by cases e),one fun e=>by cases e⟩
 | back k ht hr hg=>exact ⟨.inl (Nat.le_refl _),fun a=>a,one fun _=>app_len (s:=backS s m) ((l.back hr m).nx hr m.src)⟩
 | more k ht hr hg hpl hc=>
  refine ⟨.inl (by rw [hh.2.2.2.2.1];exact Nat.le_refl _),fun a=>by rw [hh.2.2.1] at a;exact a,fun x hx _=>?_⟩
  rw [heard_all h] at hx
  obtain ⟨f,hf,rfl⟩:=List.mem_map.1 hx
  exact heard hr k ht hg hpl f
 | next k ht hr hg hpl hc hn=>exact ⟨.inl (by rw [hh.2.2.2.2.1];exact Nat.le_refl _),fun a=>by rw [hh.2.2.1] at a;exact a,one fun _=>heard hr k ht hg hpl m.src⟩
 | done k ht hr hg hpl hc hn=>exact ⟨.inl (by rw [hh.2.2.2.2.1];exact Nat.le_refl _),fun a=>by rw [hh.2.2.1] at a;exact a,nil⟩
theorem Gr.step (j:J now N (m::q)) (r:Gr W N (m::q)):Gr W (upd N m.dst (stepS (N m.dst) m now).1) (q++(stepS (N m.dst) m now).2):=by
 have ms:=j.ms m (.head _)
 have h:=(j.sh m.dst ms.dst).clock
 have mv:=j.mv
 obtain ⟨g,sys⟩:=j.sys
 have l:=(sys.live m.dst ms.dst).1.clock now
 have ot:=mv_out h ms.dst mv
 obtain ⟨a1,a2,a3⟩:=mv_len h ms.dst l ms (sys.msg m (.head _)) rfl mv
 have eS:((N m.dst).at now).role=(N m.dst).role/\((N m.dst).at now).log=(N m.dst).log:=⟨rfl,rfl⟩
 obtain ⟨eS2,eS6⟩:=eS
 generalize hS:(N m.dst).at now=S at*
 generalize (stepS (N m.dst) m now).1=s' at*
 generalize (stepS (N m.dst) m now).2=out at*
 rw [eS2,eS6] at a1
 rw [eS2] at a2
 have self:upd N m.dst s' m.dst=s':=upd_self N _ s'
 have other:∀ {k},k≠m.dst->upd N m.dst s' k=N k:=fun {k} hk=>upd_ne N s' hk
 have rd:=r.n m.dst ms.dst
 have rm:=r.m m (.head _)
 have cd:cnd (upd N m.dst s')+cnd1 (N m.dst)=cnd N+cnd1 s':=by
  have hd:=ms.dst
  generalize m.dst=d at*
  unfold cnd
  have:d=0\/d=1\/d=2:=by omega
  rcases this with rfl | rfl | rfl
  ·rw [self,other (k:=1) (by omega),other (k:=2) (by omega)];omega
  ·rw [self,other (k:=0) (by omega),other (k:=2) (by omega)];omega
  ·rw [self,other (k:=0) (by omega),other (k:=1) (by omega)];omega
 have c1:cnd1 s'<=cnd1 (N m.dst)/\((N m.dst).role=2->s'.role=3->cnd1 s'+1=cnd1 (N m.dst)):=by
  unfold cnd1
  constructor
  ·split
   ·rename_i e;rw [if_pos (a2 e)];exact Nat.le_refl _
   ·split <;> omega
  ·intro e1 e2
   rw [if_pos e1,if_neg (by omega)]
 have nd:s'.log.length+cnd (upd N m.dst s')<=W:=by
  rcases a1 with a | ⟨b1,b2,b3⟩ | ⟨b1,b2,b3⟩
  ·omega
  ·have:=c1.2 b1 b2
   omega
  ·have:=rm b1
   omega
 refine ⟨fun i hi=>?_,fun x hx hk=>?_⟩
 ·by_cases e:i=m.dst
  ·rw [e,self];exact nd
  ·rw [other e]
   have:=r.n i hi
   omega
 ·rcases List.mem_append.1 hx with hx | hx
  ·have:=r.m x (.tail _ hx) hk
   omega
  ·have:=a3 x hx hk
   omega
def Rnd (t:Nat) (N:Nat->PN) (q:List Msg) (N':Nat->PN):Prop:=∃ n,n<=5001/\dls (t+1) n (tk (t+1) N,q++tkq (t+1) N)=(N',[])/\(∀ k,k<n->(dls (t+1) k (tk (t+1) N,q++tkq (t+1) N)).2≠[])/\Gr 320 (tk (t+1) N) (q++tkq (t+1) N)
structure Ab (t:Nat) (T S T' S':Nat->Nat) (B B':Nat->Prop) (c:Nat->Prop) (u:Nat->Nat) (M:Nat):Prop where
 cc:∀ i,i<3->(c i↔S i+(8+2*i)<=t+1)
 uu:∀ i,i<3->(c i->u i=T i+1)/\(¬c i->u i=T i)
 mm:(∃ y,y<3/\u y=M)/\∀ i,i<3->u i<=T' i/\T' i<=M
 U:∀ i y,i<3->y<3->y≠i->c i->u y=M->(c y\/¬B y)->T' i=M
 D:∀ i y,i<3->y<3->y≠i->c i->u i=M->(c y\/¬B y)->T' y=M
 Lb:∀ j,j<3->B' j->(¬c j/\B j/\S' j=S j/\T' j=T j)\/(S' j=t+1/\T' j<M/\∃ x,x<3/\x≠j/\c x/\u x=T' j/\T' x=M)
 Lk:∀ j,j<3->¬c j->B j->B' j
 si:∀ j,j<3->S' j=S j\/S' j=t+1
 sc:∀ j,j<3->c j->t+1<=S' j
 quiet:(∀ i,i<3->¬c i)->∀ i,i<3->S' i=S i/\T' i=T i
def tmo (t:Nat) (N:Nat->PN) (i:Nat):Prop:=(N i).since+(8+2*i)<=t+1
theorem J.waits (j:J t N []) (hr:∀ i,i<3->(N i).role≠3) {i:Nat} (hi:i<3):
  (tmo t N i->tk (t+1) N i=startB ((N i).at (t+1)) (t+1)/\(tickS (N i) (t+1)).2=(oth i).map (askM ((N i).at (t+1))))/\(¬tmo t N i->tk (t+1) N i=(N i).at (t+1)/\(tickS (N i) (t+1)).2=[]):=by
 have h:=(j.sh i hi).later (now:=t+1) (by omega)
 have k:=h.tick hi
 have h:=h.clock
 have hw:((N i).at (t+1)).since+((N i).at (t+1)).wait=(N i).since+(8+2*i):=by rw [h.wait];rfl
 have hr:((N i).at (t+1)).role≠3:=hr i hi
 have e1:tk (t+1) N i=(tickS (N i) (t+1)).1:=rfl
 rw [e1]
 unfold tmo
 generalize (N i).at (t+1)=s at*
 generalize (tickS (N i) (t+1)).1=s' at*
 generalize (tickS (N i) (t+1)).2=out at*
 cases k with
 | beat h3=>exact absurd h3 hr
 | rest h3=>exact absurd h3 hr
 | start _ hd=>exact ⟨fun _=>⟨rfl,rfl⟩,fun a=>absurd (by omega) a⟩
 | wait _ hd=>exact ⟨fun a=>by omega,fun _=>⟨rfl,rfl⟩⟩
def HQ (now M:Nat) (N1:Nat->PN):Prop:=∀ i,i<3->(N1 i).leader=none/\(Cd now N1 i->(N1 i).term=M)/\(¬Cd now N1 i->(N1 i).term<M)
theorem J.rn0 (j:J t N []) (hr:∀ i,i<3->(N i).role≠3):(∀ i,i<3->(Cd (t+1) (tk (t+1) N) i↔tmo t N i))/\Rn (t+1) (maxT (tk (t+1) N)) (tk (t+1) N) (tk (t+1) N) (tkq (t+1) N)/\(HQ (t+1) (maxT (tk (t+1) N)) (tk (t+1) N)->Rq (t+1) (maxT (tk (t+1) N)) (tk (t+1) N) (tk (t+1) N) (tkq (t+1) N)):=by
 have W:=fun i hi=>j.waits hr (i:=i) hi
 have cd:∀ i,i<3->(Cd (t+1) (tk (t+1) N) i↔tmo t N i):=fun i hi=>by
  unfold Cd
  by_cases hc:tmo t N i
  ·rw [((W i hi).1 hc).1]
   exact ⟨fun _=>hc,fun _=>⟨rfl,rfl⟩⟩
  ·rw [((W i hi).2 hc).1]
   refine ⟨fun a=>?_,fun a=>absurd a hc⟩
   have a2:(N i).since=t+1:=a.2
   have:=(j.sh i hi).si
   omega
 have msg:∀ m∈tkq (t+1) N,m.kind=1/\Cd (t+1) (tk (t+1) N) m.src/\m.term=(tk (t+1) N m.src).term/\m.prev=(tk (t+1) N m.src).log.length/\m.prevTerm=lastT (tk (t+1) N m.src).log:=fun m hm=>by
  obtain ⟨i,hi,hx⟩:=mem_tkq.1 hm
  by_cases hc:tmo t N i
  ·have a:=(W i hi).1 hc
   rw [a.2] at hx
   obtain ⟨f,hf,rfl⟩:=List.mem_map.1 hx
   have e:(askM ((N i).at (t+1)) f).src=i:=(j.sh i hi).id
   rw [e,a.1]
   exact ⟨rfl,(cd i hi).2 hc,rfl,rfl,rfl⟩
  ·rw [((W i hi).2 hc).2] at hx
   cases hx
 have asks:∀ i y,i<3->y<3->y≠i->Cd (t+1) (tk (t+1) N) i->∃ m∈tkq (t+1) N,m.kind=1/\m.src=i/\m.dst=y:=fun i y hi hy hn hc=>by
  have a:=(W i hi).1 ((cd i hi).1 hc)
  refine ⟨askM ((N i).at (t+1)) y,mem_tkq.2 ⟨i,hi,?_⟩,rfl,(j.sh i hi).id,rfl⟩
  rw [a.2]
  exact List.mem_map.2 ⟨y,mem_oth.2 ⟨hy,hn⟩,rfl⟩
 have nr:∀ i,i<3->(tk (t+1) N i).role≠3:=fun i hi=>by
  by_cases hc:tmo t N i
  ·rw [((W i hi).1 hc).1];exact fun e=>by cases e
  ·rw [((W i hi).2 hc).1];exact hr i hi
 refine ⟨cd,⟨.inl ⟨tkq (t+1) N,[],by simp,fun x hx=>(msg x hx).1,fun x hx=>(by cases hx),fun i hi=>⟨nr i hi,fun h=>h⟩⟩,fun m hm _=>(msg m hm).2,fun m hm k=>?_,fun m hm k=>?_,fun i hi h=>absurd h (nr i hi),fun m hm k=>?_,fun i y hi hy hn hc _ _=>.inl (asks i y hi hy hn hc),fun i y hi hy hn hc _ _=>.inl (asks i y hi hy hn hc),fun i hi hl=>.inr (.inl ⟨fun hc=>?_,hl,rfl,rfl⟩),fun i hi _ h=>h,fun i hi=>.inl rfl⟩,fun hq=>⟨fun i hi hc=>?_,fun i hi hc=>⟨rfl,(hq i hi).1,.inl ⟨(hq i hi).2.2 hc,rfl⟩⟩,fun b i hb hi hcb hci hup=>.inl (asks b i hb hi (fun e=>hci (e ▸ hcb)) hcb),fun m hm=>.inl (msg m hm).1⟩⟩
 ·have:=(msg m hm).1;omega
 ·have:=(msg m hm).1;omega
 ·have:=(msg m hm).1;omega
 ·rw [((W i hi).1 ((cd i hi).1 hc)).1] at hl
  exact hl rfl
 ·have a:=(W i hi).1 ((cd i hi).1 hc)
  refine ⟨?_,(hq i hi).2.1 hc,?_,rfl,(hq i hi).1⟩
  ·rw [a.1];rfl
  ·rw [a.1];rfl
theorem wt_le (hb:∀ i,i<3->Big K (N i)) (hm:MSh m):wt K N m<=2*K+2:=by
 unfold wt
 split
 ·omega
 ·split
  ·omega
  ·split
   ·exact wA_le (hb _ hm.src) _
   ·unfold wR
    split
    ·omega
    ·split
     ·rename_i k
      have:=clb_le ((hb _ hm.dst).1 k.1) m.src m.prev
      omega
     ·omega
structure Pn (t W:Nat) (N:Nat->PN):Prop where
 j:J t N []
 r:∀ i,i<3->(N i).role≠3
 w:∀ i,i<3->(N i).log.length<=W
theorem Pn.round (p:Pn t W N) (hW:W<=290):∃ N',Rnd t N [] N'/\J (t+1) N' []/\(∀ i,i<3->(N' i).log.length<=W+3)/\((∃ x,Stb (t+1) N' x)\/((∀ i,i<3->(N' i).role≠3)/\
  Ab t (fun i=>(N i).term) (fun i=>(N i).since) (fun i=>(N' i).term) (fun i=>(N' i).since) (fun i=>(N i).leader≠none) (fun i=>(N' i).leader≠none) (tmo t N) (fun i=>(tk (t+1) N i).term) (maxT (tk (t+1) N))/\
  ((∀ i,i<3->(N i).leader=none/\(N i).term=(N 0).term)->(∀ i,i<3->(tmo t N i->(N' i).since=t+1)/\(¬tmo t N i->(N' i).since=(N i).since)/\(N' i).log=(N i).log)/\¬∃ b k,b<3/\k<3/\tmo t N b/\¬tmo t N k/\UpTo (N b).log (N k).log))):=by
 obtain ⟨j,hr,hw⟩:=p
 have WW:=fun i hi=>j.waits hr (i:=i) hi
 obtain ⟨j1,rb⟩:=j.round0
 obtain ⟨cd,rn,rq⟩:=j.rn0 hr
 have hl1:∀ i,i<3->(tk (t+1) N i).log=(N i).log/\(tk (t+1) N i).role≠3:=fun i hi=>by
  by_cases hc:tmo t N i
  ·rw [((WW i hi).1 hc).1];exact ⟨rfl,fun e=>by cases e⟩
  ·rw [((WW i hi).2 hc).1];exact ⟨rfl,hr i hi⟩
 have kind1:∀ m∈tkq (t+1) N,m.kind=1:=fun m hm=>by
  obtain ⟨i,hi,hx⟩:=mem_tkq.1 hm
  by_cases hc:tmo t N i
  ·rw [((WW i hi).1 hc).2] at hx
   obtain ⟨f,hf,rfl⟩:=List.mem_map.1 hx
   rfl
  ·rw [((WW i hi).2 hc).2] at hx
   cases hx
 have big:∀ i,i<3->Big 19 (tk (t+1) N i):=fun i hi=>by
  have:=hw i hi
  obtain ⟨a,b⟩:=hl1 i hi
  refine ⟨fun e=>absurd e b,fun _=>?_⟩
  rw [a];omega
 have hcost:phi 19 (tk (t+1) N) (tkq (t+1) N)<=5001:=by
  have hq:(tkq (t+1) N).length<=6:=by
   have one:∀ i,i<3->(tickS (N i) (t+1)).2.length<=2:=fun i hi=>by
    by_cases hc:tmo t N i
    ·rw [((WW i hi).1 hc).2,List.length_map]
     have:i=0\/i=1\/i=2:=by omega
     rcases this with rfl | rfl | rfl <;> decide
    ·rw [((WW i hi).2 hc).2]
     exact Nat.zero_le _
   have a0:=one 0 (by omega)
   have a1:=one 1 (by omega)
   have a2:=one 2 (by omega)
   unfold tkq
   rw [List.length_append,List.length_append]
   omega
  have hs:((tkq (t+1) N).map (wt 19 (tk (t+1) N))).sum<=2*(tkq (t+1) N).length:=by
   have key:∀ l:List Msg,(∀ m∈l,m.kind=1)->(l.map (wt 19 (tk (t+1) N))).sum<=2*l.length:=by
    intro l
    induction l with
    | nil=>intro _;exact Nat.le_refl _
    | cons a l ih=>
     intro hl
     have:=ih fun m hm=>hl m (.tail _ hm)
     have e:wt 19 (tk (t+1) N) a=2:=by unfold wt;rw [if_pos (hl a (.head _))]
     simp only [List.map_cons,List.sum_cons,List.length_cons,e]
     omega
   exact key _ kind1
  have rs:∀ i,i<3->rsv 19 (tk (t+1) N i)<=1282:=fun i hi=>by
   have:=hw i hi
   obtain ⟨a,b⟩:=hl1 i hi
   unfold rsv
   rw [if_neg b]
   split
   ·rw [a];omega
   ·omega
  have r0:=rs 0 (by omega)
  have r1:=rs 1 (by omega)
  have r2:=rs 2 (by omega)
  unfold phi
  omega
 have gr0:Gr (W+3) (tk (t+1) N) (tkq (t+1) N):=by
  have hc:cnd (tk (t+1) N)<=3:=by
   unfold cnd cnd1
   (repeat' split) <;> omega
  refine ⟨fun i hi=>?_,fun m hm k=>?_⟩
  ·rw [(hl1 i hi).1]
   have:=hw i hi
   omega
  ·have:=kind1 m hm
   omega
 have gr1:=gr0.mono (W':=320) (by omega)
 generalize hN1:tk (t+1) N=N1 at*
 generalize hM:maxT N1=M at*
 obtain ⟨n,N',h1,h2,h3,h4,h5,h6,h7⟩:=J.run (now:=t+1) (K:=19) (P:=fun N q=>Rb (t+1) M N1 N q/\Gr (W+3) N q/\(LM (t+1) M N\/(Rn (t+1) M N1 N q/\(HQ (t+1) M N1->Rq (t+1) M N1 N q)))) (fun N m q j ⟨a1,a2,a3⟩=>by
  refine ⟨a1.step j,a2.step j,?_⟩
  by_cases hx:LM (t+1) M (upd N m.dst (stepS (N m.dst) m (t+1)).1)
  ·exact .inl hx
  ·rcases a3 with a3 | ⟨a3,a4⟩
   ·exact absurd (a3.step j a1) hx
   ·exact .inr ⟨a3.step j a1 hx,fun hq=>(a4 hq).step j a1 a3 (fun i hi=>⟨(hq i hi).1,(hq i hi).2.1⟩) hx⟩) 5001 N1 (tkq (t+1) N) j1 big hcost ⟨rb,gr0,.inr ⟨rn,rq⟩⟩
 have nomsg:∀ {P:Msg->Prop},¬∃ m∈([]:List Msg),P m:=fun {P} ⟨m,h,_⟩=>by cases h
 have mx:∃ y,y<3/\(N1 y).term=M:=by rw [<- hM];exact maxT_is N1
 refine ⟨N',⟨n,h1,by rw [hN1];exact h2,by rw [hN1];exact h3,by rw [hN1];exact gr1⟩,h4,fun i hi=>?_,?_⟩
 ·have:=h6.n i hi
  omega
 ·by_cases hst:∃ x,Stb (t+1) N' x
  ·exact .inl hst
  right
  have hlm:¬LM (t+1) M N':=fun ⟨x,hx,hr3,hxM,hb⟩=>hst ⟨x,(h5.stable mx hx hr3 hb).1⟩
  obtain ⟨rn',rq'⟩:=h7.resolve_left hlm
  have nr':∀ i,i<3->(N' i).role≠3:=fun i hi e=>hst ⟨i,(h5.stable mx hi e (rn'.n5 i hi e).2).1⟩
  have nl:∀ i,i<3->(tmo t N i\/¬(N i).leader≠none)->(N1 i).leader=none:=fun i hi h=>by
   by_cases hc:tmo t N i
   ·rw [((WW i hi).1 hc).1];rfl
   ·rw [((WW i hi).2 hc).1]
    exact Decidable.not_not.1 (h.resolve_left hc)
  have lb:∀ i,i<3->(N1 i).leader≠none->¬tmo t N i/\(N i).leader≠none/\(N1 i).since=(N i).since/\(N1 i).term=(N i).term:=fun i hi h=>by
   by_cases hc:tmo t N i
   ·rw [((WW i hi).1 hc).1] at h
    exact absurd rfl h
   ·rw [((WW i hi).2 hc).1] at h ⊢
    exact ⟨hc,h,rfl,rfl⟩
  have still:(∀ i,i<3->¬tmo t N i)->N'=N1:=fun hq=>by
   have e0:tkq (t+1) N=[]:=by
    unfold tkq
    rw [((WW 0 (by omega)).2 (hq 0 (by omega))).2,((WW 1 (by omega)).2 (hq 1 (by omega))).2,((WW 2 (by omega)).2 (hq 2 (by omega))).2]
    rfl
   cases n with
   | zero=>
    have:=congrArg Prod.fst h2
    exact this.symm
   | succ n=>
    have:=h3 0 (by omega)
    rw [e0] at this
    exact absurd rfl this
  refine ⟨nr',⟨fun i hi=>Iff.rfl,fun i hi=>⟨fun hc=>?_,fun hc=>?_⟩,⟨mx,fun i hi=>⟨h5.t1 i hi,h5.tM i hi⟩⟩,fun i y hi hy hn hc hM hl=>?_,fun i y hi hy hn hc hM hl=>?_,fun k hk hl=>?_,fun k hk hc hl=>?_,fun k hk=>?_,fun k hk hc=>?_,fun hq i hi=>?_⟩,fun heq=>?_⟩
  ·rw [((WW i hi).1 hc).1];rfl
  ·rw [((WW i hi).2 hc).1];rfl
  ·exact ((rn'.U i y hi hy hn ((cd i hi).2 hc) hM (nl y hy hl)).resolve_left nomsg).resolve_left nomsg
  ·exact (rn'.D i y hi hy hn ((cd i hi).2 hc) hM (nl y hy hl)).resolve_left nomsg
  ·rcases rn'.Lb k hk hl with a | ⟨a1,a2,a3,a4⟩ | ⟨a1,a2,a3,x,a4,a5,a6,a7,a8⟩
   ·exact absurd a (nr' k hk)
   ·obtain ⟨b1,b2,b3,b4⟩:=lb k hk a2
    exact .inl ⟨b1,b2,a3.trans b3,a4.trans b4⟩
   ·refine .inr ⟨a1,a2,x,a4,a5,(cd x a4).1 a7,a8,?_⟩
    obtain ⟨y,hy,hyM⟩:=mx
    have:=h5.t1 k hk
    have:=h5.t1 x a4
    have e:y≠x:=fun e=>by subst e;omega
    exact ((h5.ev x y a4 hy e hyM (.inr (.inr ⟨k,hk,fun e=>a5 e.symm,a6,a1⟩))).resolve_right fun a=>a.elim nomsg nomsg)
  ·refine rn'.Lk k hk (fun a=>hc ((cd k hk).1 a)) ?_
   rw [((WW k hk).2 hc).1]
   exact hl
  ·by_cases hc:tmo t N k
   ·have:=rn'.si k hk
    rw [((WW k hk).1 hc).1] at this
    exact .inr (this.elim id id)
   ·have:=rn'.si k hk
    rw [((WW k hk).2 hc).1] at this
    exact this
  ·have:=rn'.si k hk
   rw [((WW k hk).1 hc).1] at this
   exact Nat.le_of_eq (this.elim id id).symm
  ·rw [still hq,((WW i hi).2 (hq i hi)).1]
   exact ⟨rfl,rfl⟩
  ·by_cases hev:∃ i,i<3/\tmo t N i
   case neg=>
    have hq:∀ i,i<3->¬tmo t N i:=fun i hi hc=>hev ⟨i,hi,hc⟩
    refine ⟨fun i hi=>⟨fun hc=>absurd hc (hq i hi),fun _=>?_,?_⟩,fun ⟨b,k,hb,_,hcb,_⟩=>hq b hb hcb⟩
    ·rw [still hq,((WW i hi).2 (hq i hi)).1];rfl
    ·rw [still hq,((WW i hi).2 (hq i hi)).1];rfl
   have tM:M=(N 0).term+1:=by
    obtain ⟨i,hi,hc⟩:=hev
    have ei:(N1 i).term=(N 0).term+1:=by
     rw [((WW i hi).1 hc).1,<- (heq i hi).2];rfl
    have le:∀ k,k<3->(N1 k).term<=(N 0).term+1:=fun k hk=>by
     rw [<- (heq k hk).2]
     by_cases hc:tmo t N k
     ·rw [((WW k hk).1 hc).1];exact Nat.le_refl _
     ·rw [((WW k hk).2 hc).1];exact Nat.le_succ _
    obtain ⟨y,hy,hyM⟩:=mx
    have:=le y hy
    have:=h5.tM i hi
    have:=h5.t1 i hi
    omega
   have hq:HQ (t+1) M N1:=fun i hi=>⟨nl i hi (.inr fun a=>a (heq i hi).1),fun hc=>by
    rw [((WW i hi).1 ((cd i hi).1 hc)).1,tM,<- (heq i hi).2];rfl,fun hc=>by
    rw [((WW i hi).2 fun a=>hc ((cd i hi).2 a)).1,tM,<- (heq i hi).2];exact Nat.lt_succ_self _⟩
   have u:=rq' hq
   refine ⟨fun i hi=>⟨fun hc=>(u.q0 i hi ((cd i hi).2 hc)).2.2.1,fun hc=>?_,?_⟩,?_⟩
   ·obtain ⟨-,-,a⟩:=u.q1 i hi fun a=>hc ((cd i hi).1 a)
    rw [((WW i hi).2 hc).1] at a
    rcases a with a | a | ⟨z,z1,-⟩
    ·exact a.2
    ·exact a.2.2
    ·cases z1
   ·by_cases hc:tmo t N i
    ·have:=(u.q0 i hi ((cd i hi).2 hc)).2.2.2.1
     rw [((WW i hi).1 hc).1] at this
     exact this
    ·have:=(u.q1 i hi fun a=>hc ((cd i hi).1 a)).1
     rw [((WW i hi).2 hc).1] at this
     exact this
   ·rintro ⟨b,k,hb,hk,hcb,hck,hup⟩
    have:=u.q2 b k hb hk ((cd b hb).2 hcb) (fun a=>hck ((cd k hk).1 a)) (by rw [(hl1 b hb).1,(hl1 k hk).1];exact hup)
    exact this.elim nomsg nomsg
end
end Go.Proofs.YtcaokpglbolkcaaGreat
namespace Go.Proofs.YtcaokpglbolkcaaGreat
section
variable {t t0 M:Nat} {T S T' S' u:Nat->Nat} {B B' c:Nat->Prop}
def H (t0:Nat) (T S:Nat->Nat) (B:Nat->Prop):Prop:=∀ j,j<3->B j->t0<S j->(∃ y,y<3/\T j<T y)/\∀ y,y<3->y≠j->B y->¬t0<S y
def Old (t0:Nat) (S:Nat->Nat) (B:Nat->Prop):Prop:=∃ j,j<3/\B j/\S j<=t0
structure K2 (T:Nat->Nat) (B:Nat->Prop) (i j k:Nat):Prop where
 p:i<3/\j<3/\k<3/\i≠j/\i≠k/\j≠k
 e:T i=T j
 l:T k<=T i
 b:¬B i/\¬B j
def Qs (T:Nat->Nat) (B:Nat->Prop):Prop:=(∀ i,i<3->¬B i)/\∀ i,i<3->T i=T 0
theorem Ab.le (a:Ab t T S T' S' B B' c u M) {i:Nat} (hi:i<3):T i<=u i:=by
 obtain ⟨h1,h2⟩:=a.uu i hi
 by_cases h:c i
 ·have:=h1 h;omega
 ·have:=h2 h;omega
theorem Ab.leM (a:Ab t T S T' S' B B' c u M) {i:Nat} (hi:i<3):u i<=T' i/\T' i<=M:=a.mm.2 i hi
theorem Ab.third (a:Ab t T S T' S' B B' c u M) {x j:Nat} (hx:x<3) (hj:j<3) (hn:x≠j) (h1:u x<M) (h2:u j<M):3 - x - j<3/\3 - x - j≠x/\3 - x - j≠j/\u (3 - x - j)=M/\T' (3 - x - j)=M:=by
 obtain ⟨y,hy,hyM⟩:=a.mm.1
 have e:y=3 - x - j:=by
  have h3:y≠x:=fun e=>by subst e;omega
  have h4:y≠j:=fun e=>by subst e;omega
  omega
 rw [<- e]
 have:=a.leM hy
 refine ⟨hy,?_,?_,hyM,by omega⟩ <;> intro k <;> subst k <;> omega
theorem Ab.H (a:Ab t T S T' S' B B' c u M) (ht:t0<=t) (h:H t0 T S B):H t0 T' S' B':=by
 intro j hj hb hs
 have lj:=a.leM hj
 have mix:∀ {j y:Nat},j<3->y<3->y≠j->¬c j->B j->S' j=S j->T' j=T j->t0<S' j->T' y<M->(∃ x,x<3/\x≠y/\c x/\u x=T' y/\T' x=M)->False:=fun {j y} hj hy hn c1 c2 c3 c4 c5 d1 ⟨x,x1,x2,x3,x4,x5⟩=>by
  have xj:x≠j:=fun e=>c1 (e ▸ x3)
  have ly:=a.leM hy
  have:=a.third x1 hy x2 (by omega) (by omega)
  have e:3 - x - y=j:=by omega
  rw [e] at this
  obtain ⟨⟨z,hz,hzT⟩,-⟩:=h j hj c2 (by omega)
  have lz:=a.leM hz
  have lz2:=a.le hz
  omega
 rcases a.Lb j hj hb with ⟨c1,c2,c3,c4⟩ | ⟨d1,d2,x,d3,d4,d5,d6,d7⟩
 ·obtain ⟨⟨z,hz,hzT⟩,hu⟩:=h j hj c2 (by omega)
  refine ⟨⟨z,hz,?_⟩,fun y hy hn hby hsy=>?_⟩
  ·have lz:=a.leM hz
   have lz2:=a.le hz
   omega
  ·rcases a.Lb y hy hby with ⟨e1,e2,e3,e4⟩ | ⟨e1,e2,e3⟩
   ·exact hu y hy hn e2 (by omega)
   ·exact mix hj hy hn c1 c2 c3 c4 hs e2 e3
 ·refine ⟨⟨x,d3,by omega⟩,fun y hy hn hby hsy=>?_⟩
  rcases a.Lb y hy hby with ⟨e1,e2,e3,e4⟩ | ⟨e1,e2,x',e3,e4,e5,e6,e7⟩
  ·exact mix hy hj hn.symm e1 e2 e3 e4 hsy d2 ⟨x,d3,d4,d5,d6,d7⟩
  ·have lx:=a.leM d3
   have ly:=a.leM hy
   have xy:x≠y:=fun e=>by subst e;omega
   have:=a.third hj hy hn.symm (by omega) (by omega)
   have e:3 - j - y=x:=by omega
   rw [e] at this
   omega
theorem Ab.k2 (a:Ab t T S T' S' B B' c u M) (ht:t0<=t) (h:Go.Proofs.YtcaokpglbolkcaaGreat.H t0 T S B) (hev:∃ i,i<3/\c i) (hno:¬Old t0 S' B'):∃ i j k,K2 T' B' i j k:=by
 have nb:∀ y,y<3->T' y=M->(c y\/¬B y\/∃ z,z<3/\T y<T z)->¬B' y:=fun y hy hT hc hb=>by
  rcases a.Lb y hy hb with ⟨e1,e2,e3,e4⟩ | ⟨e1,e2,e3⟩
  ·rcases hc with hc | hc | ⟨z,hz,hzT⟩
   ·exact e1 hc
   ·exact hc e2
   ·have:=a.leM hz
    have:=a.le hz
    omega
  ·omega
 have fin:∀ i j,i<3->j<3->i≠j->T' i=M->T' j=M->¬B' i->¬B' j->∃ i j k,K2 T' B' i j k:=fun i j hi hj hn h1 h2 h3 h4=>
  ⟨i,j,3 - i - j,⟨hi,hj,by omega,hn,by omega,by omega⟩,by omega,by have:=a.leM (i:=3 - i - j) (by omega);omega,h3,h4⟩
 by_cases hA:∃ d,d<3/\¬c d/\B d/\S d<=t0
 ·obtain ⟨d,hd,d1,d2,d3⟩:=hA
  have hb:=a.Lk d hd d1 d2
  rcases a.Lb d hd hb with ⟨e1,e2,e3,e4⟩ | ⟨e1,e2,x,e3,e4,e5,e6,e7⟩
  ·exact absurd ⟨d,hd,hb,by omega⟩ hno
  ·have ld:=a.leM hd
   obtain ⟨g1,g2,g3,g4,g5⟩:=a.third e3 hd e4 (by omega) (by omega)
   refine fin x (3 - x - d) e3 g1 g2.symm e7 g5 (nb x e3 e7 (.inl e5)) fun hb'=>?_
   rcases a.Lb _ g1 hb' with ⟨f1,f2,f3,f4⟩ | ⟨f1,f2,f3⟩
   ·have hs:t0<S (3 - x - d):=by
     refine Nat.lt_of_not_le fun k=>hno ⟨_,g1,hb',by omega⟩
    obtain ⟨⟨z,hz,hzT⟩,-⟩:=h _ g1 f2 hs
    have:=a.leM hz
    have:=a.le hz
    omega
   ·omega
 ·have hS:∀ d,d<3->¬c d->B d->t0<S d:=fun d hd d1 d2=>Nat.lt_of_not_le fun k=>hA ⟨d,hd,d1,d2,k⟩
  obtain ⟨i,hi,hc⟩:=hev
  have li:=a.leM hi
  have beh:∀ y,y<3->(c y\/¬B y\/∃ z,z<3/\T y<T z):=fun y hy=>by
   by_cases h1:c y
   ·exact .inl h1
   ·by_cases h2:B y
    ·exact .inr (.inr (h y hy h2 (hS y hy h1 h2)).1)
    ·exact .inr (.inl h2)
  have one:∃ y,y<3/\y≠i/\(c y\/¬B y)/\(u i=M\/u y=M):=by
   have key:∀ y,y<3->y≠i->(c y\/¬B y)\/(u y<M/\∀ z,z<3->z≠y->(c z\/¬B z)):=fun y hy hn=>by
    by_cases h1:c y
    ·exact .inl (.inl h1)
    ·by_cases h2:B y
     ·obtain ⟨⟨z,hz,hzT⟩,hu⟩:=h y hy h2 (hS y hy h1 h2)
      refine .inr ⟨?_,fun z hz hzn=>?_⟩
      ·have:=a.leM hz
       have:=a.le hz
       have:=(a.uu y hy).2 h1
       omega
      ·by_cases q1:c z
       ·exact .inl q1
       ·refine .inr fun q2=>hu z hz hzn q2 (hS z hz q1 q2)
     ·exact .inl (.inr h2)
   by_cases hM:u i=M
   ·have a1:(if i=0 then 1 else 0)<3/\(if i=0 then 1 else 0)≠i:=by split <;> omega
    generalize (if i=0 then 1 else 0)=y at a1
    rcases key y a1.1 a1.2 with k | ⟨k1,k2⟩
    ·exact ⟨y,a1.1,a1.2,k,.inl hM⟩
    ·exact ⟨3 - i - y,by omega,by omega,k2 _ (by omega) (by omega),.inl hM⟩
   ·obtain ⟨y,hy,hyM⟩:=a.mm.1
    have yn:y≠i:=fun e=>by subst e;exact hM hyM
    rcases key y hy yn with k | ⟨k1,k2⟩
    ·exact ⟨y,hy,yn,k,.inr hyM⟩
    ·omega
  obtain ⟨y,hy,yn,yc,hM⟩:=one
  have ly:=a.leM hy
  have both:T' i=M/\T' y=M:=by
   rcases hM with hM | hM
   ·exact ⟨by omega,a.D i y hi hy yn hc hM yc⟩
   ·exact ⟨a.U i y hi hy yn hc hM yc,by omega⟩
  exact fin i y hi hy yn.symm both.1 both.2 (nb i hi both.1 (.inl hc)) (nb y hy both.2 (beh y hy))
theorem K2.step {i j k:Nat} (h:K2 T B i j k) (a:Ab t T S T' S' B B' c u M):Qs T' B'\/(¬c k/\K2 T' B' i j k/\S' k=S k):=by
 obtain ⟨⟨hi,hj,hk,hij,hik,hjk⟩,he,hl,hb1,hb2⟩:=h
 have li:=a.leM hi
 have lj:=a.leM hj
 have lk:=a.leM hk
 have ui:=a.uu i hi
 have uj:=a.uu j hj
 have uk:=a.uu k hk
 have all:∀ y,y<3->y=i\/y=j\/y=k:=fun y hy=>by omega
 have fin:T' i=M->T' j=M->T' k=M->(c k\/¬B k)->Qs T' B':=fun h1 h2 h3 h4=>by
  have tm:∀ y,y<3->T' y=M:=fun y hy=>by
   rcases all y hy with rfl | rfl | rfl <;> assumption
  refine ⟨fun y hy hby=>?_,fun y hy=>(tm y hy).trans (tm 0 (by omega)).symm⟩
  rcases a.Lb y hy hby with ⟨e1,e2,e3,e4⟩ | ⟨e1,e2,e3⟩
  ·rcases all y hy with rfl | rfl | rfl
   ·exact hb1 e2
   ·exact hb2 e2
   ·exact h4.elim e1 fun q=>q e2
  ·have:=tm y hy
   omega
 have um:∀ {m:Nat},(∀ y,y<3->u y<=m)->M<=m:=fun {m} hm=>by
  obtain ⟨y,hy,hyM⟩:=a.mm.1
  have:=hm y hy
  omega
 have c3:∀ {m:Nat},u i<=m->u j<=m->u k<=m->∀ y,y<3->u y<=m:=fun {m} h1 h2 h3 y hy=>by
  rcases all y hy with rfl | rfl | rfl <;> assumption
 have ule:∀ y,y<3->u y<=T y+1:=fun y hy=>by
  have:=a.uu y hy
  by_cases q:c y
  ·have:=this.1 q;omega
  ·have:=this.2 q;omega
 have ui1:=ule i hi
 have uj1:=ule j hj
 have uk1:=ule k hk
 have hM1:M<=T i+1:=um (c3 (by omega) (by omega) (by omega))
 by_cases ei:c i\/c j
 · -- one of the two begins an election
  have pair:T' i=M/\T' j=M/\∀ q,q<3->q≠i->q≠j->(c q\/¬B q)->T' q=M:=by
   rcases ei with ei | ei
   ·have:=ui.1 ei
    exact ⟨by omega,a.D i j hi hj hij.symm ei (by omega) (.inr hb2),fun q hq q1 q2 q3=>a.D i q hi hq q1 ei (by omega) q3⟩
   ·have:=uj.1 ei
    exact ⟨a.D j i hj hi hij ei (by omega) (.inr hb1),by omega,fun q hq q1 q2 q3=>a.D j q hj hq q2 ei (by omega) q3⟩
  by_cases ek:c k\/¬B k
  ·exact .inl (fin pair.1 pair.2.1 (pair.2.2 k hk hik.symm hjk.symm ek) ek)
  ·right
   have ck:¬c k:=fun q=>ek (.inl q)
   have bk:B k:=Classical.not_not.1 fun q=>ek (.inr q)
   have nb:∀ y,y<3->T' y=M->¬B y->¬B' y:=fun y hy hT hn hby=>by
    rcases a.Lb y hy hby with ⟨e1,e2,e3,e4⟩ | ⟨e1,e2,e3⟩
    ·exact hn e2
    ·omega
   refine ⟨ck,⟨⟨hi,hj,hk,hij,hik,hjk⟩,by omega,by omega,nb i hi pair.1 hb1,nb j hj pair.2.1 hb2⟩,?_⟩
   rcases a.Lb k hk (a.Lk k hk ck bk) with ⟨e1,e2,e3,e4⟩ | ⟨e1,e2,x,x1,x2,x3,x4,x5⟩
   ·exact e3
   ·exfalso
    rcases all x x1 with rfl | rfl | rfl
    ·have:=ui.1 x3
     omega
    ·have:=uj.1 x3
     omega
    ·exact x2 rfl
 ·have ci:¬c i:=fun q=>ei (.inl q)
  have cj:¬c j:=fun q=>ei (.inr q)
  have ui:=ui.2 ci
  have uj:=uj.2 cj
  by_cases ck:c k
  ·left
   have uk:=uk.1 ck
   by_cases e:T k=T i
   ·have hM:u k=M:=by
     have:=a.leM hk
     omega
    exact fin (a.D k i hk hi hik ck hM (.inr hb1)) (a.D k j hk hj hjk ck hM (.inr hb2)) (by omega) (.inl ck)
   ·have hM:M=T i:=by
     have:M<=T i:=um (c3 (by omega) (by omega) (by omega))
     omega
    exact fin (by omega) (by omega) (a.U k i hk hi hik ck (by omega) (.inr hb1)) (.inl ck)
  ·right
   have qt:=a.quiet fun y hy=>by
    rcases all y hy with rfl | rfl | rfl <;> assumption
   have qi:=qt i hi
   have qj:=qt j hj
   have qk:=qt k hk
   have nb:∀ y,y<3->¬c y->¬B y->S' y=S y->S y<=t->¬B' y:=fun y hy _ hn _ _ hby=>by
    rcases a.Lb y hy hby with ⟨e1,e2,e3,e4⟩ | ⟨e1,e2,x,x1,x2,x3,-⟩
    ·exact hn e2
    ·rcases all x x1 with rfl | rfl | rfl <;> contradiction
   have nb':∀ y,y<3->¬B y->¬B' y:=fun y hy hn hby=>by
    rcases a.Lb y hy hby with ⟨e1,e2,e3,e4⟩ | ⟨e1,e2,x,x1,x2,x3,-⟩
    ·exact hn e2
    ·rcases all x x1 with rfl | rfl | rfl <;> contradiction
   exact ⟨ck,⟨⟨hi,hj,hk,hij,hik,hjk⟩,by omega,by omega,nb' i hi hb1,nb' j hj hb2⟩,qk.1⟩
end
end Go.Proofs.YtcaokpglbolkcaaGreat
namespace Go.Proofs.YtcaokpglbolkcaaGreat
section
variable {g:G} {now M i K t x W r:Nat} {N N' N1:Nat->PN} {q:List Msg} {s s':PN} {m:Msg} {out:List Msg}
theorem tkq_sum (F:Msg->Nat):((tkq now N).map F).sum=((tickS (N 0) now).2.map F).sum+((tickS (N 1) now).2.map F).sum+((tickS (N 2) now).2.map F).sum:=by
 unfold tkq
 rw [List.map_append,List.map_append,List.sum_append_nat,List.sum_append_nat]
theorem app_tk (j:J t N q):∀ m∈tkq (t+1) N,m.kind=3->m.prev+m.ents.length<=(N m.src).log.length:=fun m hm hk=>by
 obtain ⟨i,hi,hx⟩:=mem_tkq.1 hm
 have h:=(j.sh i hi).later (now:=t+1) (by omega)
 have k:=h.tick hi
 obtain ⟨g,sys⟩:=j.sys
 have l:=(sys.live i hi).1
 have eid:(N i).id=i:=h.id
 generalize hs:(N i).at (t+1)=s at*
 generalize (tickS (N i) (t+1)).1=s' at*
 generalize (tickS (N i) (t+1)).2=out at*
 cases k with
 | beat hr=>
  obtain ⟨f,hf,rfl⟩:=List.mem_map.1 hx
  have e:(sendAppendS { s with hb:=t+1 } f).src=i:=by rw [<- hs];exact eid
  rw [e]
  subst hs
  exact app_len (s:=N i) (x:=f) (l.nx hr f)
 | rest=>cases hx
 | start=>
  obtain ⟨f,hf,rfl⟩:=List.mem_map.1 hx
  cases hk
 | wait=>cases hx
theorem Stb.ticks (j:J t N []) (s:Stb t N x):(∀ f,f<3->f≠x->tk (t+1) N f=(N f).at (t+1)/\(tickS (N f) (t+1)).2=[])/\
  ((N x).hb+2<=t+1->tk (t+1) N x={ (N x).at (t+1) with hb:=t+1 }/\(tickS (N x) (t+1)).2=(oth x).map (sendAppendS { (N x).at (t+1) with hb:=t+1 }))/\
  (t+1<(N x).hb+2->tk (t+1) N x=(N x).at (t+1)/\(tickS (N x) (t+1)).2=[]):=by
 have hhb:=s.hb
 refine ⟨fun f hf hn=>?_,fun hb=>?_,fun hb=>?_⟩
 ·obtain ⟨h1,h2,h3,h4⟩:=s.fol f hf hn
  have h:=(j.sh f hf).later (now:=t+1) (by omega)
  have k:=h.tick hf
  have h:=h.clock
  have hw:=h.wait
  have e1:((N f).at (t+1)).since=(N f).since:=rfl
  have hr:((N f).at (t+1)).role=1:=h2
  have e2:tk (t+1) N f=(tickS (N f) (t+1)).1:=rfl
  rw [e2]
  generalize (N f).at (t+1)=s at*
  generalize (tickS (N f) (t+1)).1=s' at*
  generalize (tickS (N f) (t+1)).2=out at*
  cases k with
  | beat h3=>omega
  | rest h3=>omega
  | start _ hd=>omega
  | wait _ hd=>exact ⟨rfl,rfl⟩
 ·have k:=((j.sh x s.lt).later (now:=t+1) (by omega)).tick s.lt
  have hr:((N x).at (t+1)).role=3:=s.r
  have e1:((N x).at (t+1)).hb=(N x).hb:=rfl
  have e2:tk (t+1) N x=(tickS (N x) (t+1)).1:=rfl
  rw [e2]
  generalize (N x).at (t+1)=s at*
  generalize (tickS (N x) (t+1)).1=s' at*
  generalize (tickS (N x) (t+1)).2=out at*
  cases k with
  | beat h3=>exact ⟨rfl,rfl⟩
  | rest h3=>omega
  | start h3=>exact absurd hr h3
  | wait h3=>exact absurd hr h3
 ·have k:=((j.sh x s.lt).later (now:=t+1) (by omega)).tick s.lt
  have hr:((N x).at (t+1)).role=3:=s.r
  have e1:((N x).at (t+1)).hb=(N x).hb:=rfl
  have e2:tk (t+1) N x=(tickS (N x) (t+1)).1:=rfl
  rw [e2]
  generalize (N x).at (t+1)=s at*
  generalize (tickS (N x) (t+1)).1=s' at*
  generalize (tickS (N x) (t+1)).2=out at*
  cases k with
  | beat h3=>omega
  | rest h3=>exact ⟨rfl,rfl⟩
  | start h3=>exact absurd hr h3
  | wait h3=>exact absurd hr h3
def Kn (N:Nat->PN) (x:Nat):Prop:=∀ f,f<3->f≠x->(N x).log.length<=(N f).commit
theorem Stb.round (j:J t N []) (s:Stb t N x) (hw:∀ i,i<3->(N i).log.length<=W) (hW:W<=317):∃ N',Rnd t N [] N'/\J (t+1) N' []/\Stb (t+1) N' x/\(∀ i,i<3->(N' i).log.length<=W)/\(N' x).log=(N x).log/\((N' x).hb=t+1->Kn N' x)/\(Kn N x->Kn N' x)/\((N' x).hb=t+1\/(N x).hb=t):=by
 obtain ⟨tf,tb,tr⟩:=s.ticks j
 obtain ⟨j1,rb⟩:=j.round0
 have hx:=s.lt
 obtain ⟨g,sys⟩:=j.sys
 have lx:=(sys.live x hx).1
 have l0:=List.length_pos_iff.2 (lx.last s.r).1
 have hhb:=s.hb
 have sx:=j.sh x hx
 have com:(N x).commit=(N x).log.length:=by
  have hf:(if x=0 then 1 else 0)<3/\(if x=0 then 1 else 0)≠x:=by split <;> omega
  exact sx.cm s.r _ hf.1 hf.2 (s.all _ hf.1 hf.2).1
 by_cases hb:(N x).hb+2<=t+1
 ·obtain ⟨tx,ox⟩:=tb hb
  have Tf:∀ f,f<3->f≠x->(tk (t+1) N f).term=(N f).term/\(tk (t+1) N f).role=1/\(tk (t+1) N f).leader=some x/\(tk (t+1) N f).since=(N f).since:=fun f hf hn=>by
   obtain ⟨h1,h2,h3,h4⟩:=s.fol f hf hn
   rw [(tf f hf hn).1]
   exact ⟨rfl,h2,h3,rfl⟩
  have Tx:(tk (t+1) N x).role=3/\(tk (t+1) N x).term=(N x).term/\(tk (t+1) N x).log=(N x).log/\(tk (t+1) N x).hb=t+1/\(tk (t+1) N x).mtch=(N x).mtch/\(tk (t+1) N x).next=(N x).next/\(tk (t+1) N x).commit=(N x).commit/\(tk (t+1) N x).id=x:=by
   rw [tx]
   exact ⟨s.r,rfl,rfl,rfl,rfl,rfl,rfl,sx.id⟩
  obtain ⟨Tr,Tt,Tl,Th,Tm,Tn,Tc,Ti⟩:=Tx
  have mem:∀ m,m∈tkq (t+1) N->∃ f,f<3/\f≠x/\m=sendAppendS { (N x).at (t+1) with hb:=t+1 } f:=fun m hm=>by
   obtain ⟨i,hi,hm⟩:=mem_tkq.1 hm
   by_cases e:i=x
   ·rw [e,ox] at hm
    obtain ⟨f,hf,rfl⟩:=List.mem_map.1 hm
    exact ⟨f,(mem_oth.1 hf).1,(mem_oth.1 hf).2,rfl⟩
   ·rw [(tf i hi e).2] at hm
    cases hm
  have has:∀ f,f<3->f≠x->sendAppendS { (N x).at (t+1) with hb:=t+1 } f∈tkq (t+1) N:=fun f hf hn=>mem_tkq.2 ⟨x,hx,by rw [ox];exact List.mem_map.2 ⟨f,mem_oth.2 ⟨hf,hn⟩,rfl⟩⟩
  have eap:∀ f,App x f (N x).term (sendAppendS { (N x).at (t+1) with hb:=t+1 } f):=fun f=>⟨rfl,sx.id,rfl,rfl⟩
  have fin:Fin x (N x).term (t+1) (N x).hb (N x).log (tk (t+1) N) (tkq (t+1) N):=by
   refine ⟨Tr,Tt,Tl,Th,fun f hf hn=>?_,fun m hm=>?_,fun f hf hn=>.inl ⟨_,has f hf hn,eap f⟩⟩
   ·obtain ⟨h1,h2,h3,h4⟩:=s.fol f hf hn
    obtain ⟨k1,k2,k3,k4⟩:=Tf f hf hn
    exact ⟨by omega,k2,k3,by omega⟩
   ·obtain ⟨f,hf,hn,rfl⟩:=mem m hm
    exact ⟨.inl ⟨rfl,sx.id⟩,rfl⟩
  have kno:Kno x (N x).term (N x).log.length (tk (t+1) N) (tkq (t+1) N):=by
   refine ⟨fun f hf hn=>by rw [Tm];exact (s.all f hf hn).1,fun f hf hn=>.inl ⟨_,has f hf hn,eap f,?_,com⟩⟩
   show (N x).next.getD f 0 - 1=_
   rw [(s.all f hf hn).2];omega
  have big:∀ i,i<3->Big (N x).log.length (tk (t+1) N i):=fun i hi=>by
   by_cases e:i=x
   ·rw [e]
    exact ⟨fun _=>by rw [Tl];omega,fun a=>by omega⟩
   ·have:=(Tf i hi e).2.1
    exact ⟨fun a=>by omega,fun a=>by omega⟩
  have cost:phi (N x).log.length (tk (t+1) N) (tkq (t+1) N)<=5001:=by
   have r1:∀ i,i<3->rsv (N x).log.length (tk (t+1) N i)=0:=fun i hi=>by
    by_cases e:i=x
    ·subst e
     have hf:(if i=0 then 1 else 0)<3/\(if i=0 then 1 else 0)≠i:=by split <;> omega
     rw [rsv3 Tr Ti,oth_two hi hf.1 hf.2]
     have lg:∀ f,f<3->f≠i->lag (tk (t+1) N i) f=0:=fun f hf hn=>by
      unfold lag
      rw [Tm,(s.all f hf hn).1,if_neg (by omega)]
     have un:unc (tk (t+1) N i)=0:=by
      unfold unc
      rw [Tl,Tc,com,List.drop_length];rfl
     rw [lg _ hf.1 hf.2,lg (3 - i - (if i=0 then 1 else 0)) (by split <;> omega) (by split <;> omega),un,Tc,Tl,com,if_neg (Nat.lt_irrefl _),Nat.mul_zero,Nat.mul_zero]
    ·have:=(Tf i hi e).2.1
     unfold rsv
     rw [if_neg (by omega),if_neg (by omega)]
   have w1:∀ f,f<3->f≠x->wt (N x).log.length (tk (t+1) N) (sendAppendS { (N x).at (t+1) with hb:=t+1 } f)=2:=fun f hf hn=>by
    show wA _ (tk (t+1) N (N x).id) _=2
    obtain ⟨a1,a2⟩:=s.all f hf hn
    rw [sx.id,tx]
    have hr3:({ (N x).at (t+1) with hb:=t+1 }:PN).role=3:=s.r
    have b1:({ (N x).at (t+1) with hb:=t+1 }:PN).next=(N x).next:=rfl
    have b2:({ (N x).at (t+1) with hb:=t+1 }:PN).mtch=(N x).mtch:=rfl
    have b3:({ (N x).at (t+1) with hb:=t+1 }:PN).log=(N x).log:=rfl
    rw [wA_sure hr3 (by rw [b1,b2,a1,a2];omega) (by rw [b1,b3,a2];omega),b1,b2,b3,a1,a2]
    have:=(ar2 (M:=(N x).log.length) rfl).1
    rw [Nat.add_sub_cancel,this]
   have sm:∀ i,i<3->((tickS (N i) (t+1)).2.map (wt (N x).log.length (tk (t+1) N))).sum<=4:=fun i hi=>by
    by_cases e:i=x
    ·subst e
     have hf:(if i=0 then 1 else 0)<3/\(if i=0 then 1 else 0)≠i:=by split <;> omega
     rw [ox,List.map_map,oth_two hi hf.1 hf.2]
     exact Nat.add_le_add (Nat.le_of_eq (w1 _ hf.1 hf.2)) (Nat.le_of_eq (w1 (3 - i - (if i=0 then 1 else 0)) (by split <;> omega) (by split <;> omega)))
    ·rw [(tf i hi e).2];exact Nat.zero_le _
   unfold phi
   rw [tkq_sum]
   have:=sm 0 (by omega)
   have:=sm 1 (by omega)
   have:=sm 2 (by omega)
   have:=r1 0 (by omega)
   have:=r1 1 (by omega)
   have:=r1 2 (by omega)
   omega
  have gr:Gr W (tk (t+1) N) (tkq (t+1) N):=by
   have c0:cnd (tk (t+1) N)=0:=by
    have c1:∀ i,i<3->cnd1 (tk (t+1) N i)=0:=fun i hi=>by
     by_cases e:i=x
     ·rw [e];exact if_neg (by omega)
     ·have:=(Tf i hi e).2.1
      exact if_neg (by omega)
    unfold cnd
    rw [c1 0 (by omega),c1 1 (by omega),c1 2 (by omega)]
   refine ⟨fun i hi=>?_,fun m hm hk=>?_⟩
   ·have:=hw i hi
    rw [c0]
    by_cases e:i=x
    ·rw [e,Tl]
     rw [e] at this
     omega
    ·rw [(tf i hi e).1]
     exact this
   ·have a:=app_tk j m hm hk
    have b:=hw m.src (j1.ms m hm).src
    rw [c0]
    omega
  have gr1:=gr.mono (W':=320) (by omega)
  have mx:=maxT_is (tk (t+1) N)
  generalize maxT (tk (t+1) N)=M at*
  obtain ⟨n,N',h1,h2,h3,h4,h5,h6,h7,h8⟩:=J.run (now:=t+1) (K:=(N x).log.length) (P:=fun N2 q=>Rb (t+1) M (tk (t+1) N) N2 q/\Fin x (N x).term (t+1) (N x).hb (N x).log N2 q/\Kno x (N x).term (N x).log.length N2 q/\Gr W N2 q) (fun N m q j ⟨a1,a2,a3,a4⟩=>⟨a1.step j,a2.step hx (by omega) j,a3.step hx (by omega) j a2,a4.step j⟩) 5001 (tk (t+1) N) (tkq (t+1) N) j1 big cost ⟨rb,fin,kno,gr⟩
  have st:=(h5.stable mx hx h6.r h6.hb).1
  have kn:Kn N' x:=fun f hf hn=>by
   rw [h6.lg]
   rcases h7.cf f hf hn with ⟨z,z1,-⟩ | c
   ·cases z1
   ·exact c
  exact ⟨N',⟨n,h1,h2,h3,gr1⟩,h4,st,fun i hi=>by have:=h8.n i hi;omega,h6.lg,fun _=>kn,fun _=>kn,.inl h6.hb⟩
 ·have hb:t+1<(N x).hb+2:=by omega
  obtain ⟨tx,ox⟩:=tr hb
  have same:∀ i,i<3->tk (t+1) N i=(N i).at (t+1)/\(tickS (N i) (t+1)).2=[]:=fun i hi=>by
   by_cases e:i=x
   ·rw [e];exact ⟨tx,ox⟩
   ·exact tf i hi e
  have e0:tkq (t+1) N=[]:=by
   unfold tkq
   rw [(same 0 (by omega)).2,(same 1 (by omega)).2,(same 2 (by omega)).2];rfl
  rw [e0] at j1
  have hht:=sx.hb
  have c0:cnd (tk (t+1) N)<=3:=by
   unfold cnd cnd1
   (repeat' split) <;> omega
  have lw:∀ i,i<3->(tk (t+1) N i).log.length<=W:=fun i hi=>by
   rw [(same i hi).1]
   exact hw i hi
  refine ⟨tk (t+1) N,⟨0,by omega,by rw [e0];rfl,fun k hk=>by omega,⟨fun i hi=>by have:=lw i hi;omega,fun m hm=>by rw [e0] at hm;cases hm⟩⟩,j1,⟨hx,by rw [tx];exact s.r,by rw [tx];show _<=(N x).hb+1;omega,fun f hf hn=>?_,fun f hf hn=>?_⟩,lw,by rw [tx];rfl,fun a=>?_,fun kn f hf hn=>?_,.inr (by omega)⟩
  ·rw [(same f hf).1,tx]
   exact s.fol f hf hn
  ·rw [tx]
   exact s.all f hf hn
  ·rw [tx] at a
   have a:(N x).hb=t+1:=a
   omega
  ·rw [(same f hf).1,tx]
   exact kn f hf hn
def Rnds:Nat->Nat->(Nat->PN)->(Nat->PN)->Prop
 | 0,_,N,N'=>N'=N
 | r+1,t,N,N'=>∃ N1,Rnd t N [] N1/\Rnds r (t+1) N1 N'
def Goal (r t:Nat) (N:Nat->PN):Prop:=∃ N' x,Rnds r t N N'/\J (t+r) N' []/\Stb (t+r) N' x/\∀ i,i<3->(N' i).log.length<=300
theorem Goal.more (h:Rnd t N [] N') (g:Goal r (t+1) N'):Goal (r+1) t N:=by
 obtain ⟨N2,x,h1,h2,h3,h4⟩:=g
 have e:t+1+r=t+(r+1):=by omega
 rw [e] at h2 h3
 exact ⟨N2,x,⟨N',h,h1⟩,h2,h3,h4⟩
theorem Stb.goal:∀ (r t:Nat) (N:Nat->PN),J t N []->Stb t N x->(∀ i,i<3->(N i).log.length<=300)->Goal r t N
 | 0,t,N,j,s,h=>⟨N,x,rfl,j,s,h⟩
 | r+1,t,N,j,s,h=>by
  obtain ⟨N',h1,h2,h3,h4,-⟩:=s.round j h (by omega)
  exact (Stb.goal r (t+1) N' h2 h3 h4).more h1
abbrev AbN (t:Nat) (N N':Nat->PN):Prop:=Ab t (fun i=>(N i).term) (fun i=>(N i).since) (fun i=>(N' i).term) (fun i=>(N' i).since) (fun i=>(N i).leader≠none) (fun i=>(N' i).leader≠none) (tmo t N) (fun i=>(tk (t+1) N i).term) (maxT (tk (t+1) N))
abbrev QN (t:Nat) (N N':Nat->PN):Prop:=(∀ i,i<3->(N i).leader=none/\(N i).term=(N 0).term)->(∀ i,i<3->(tmo t N i->(N' i).since=t+1)/\(¬tmo t N i->(N' i).since=(N i).since)/\(N' i).log=(N i).log)/\¬∃ b k,b<3/\k<3/\tmo t N b/\¬tmo t N k/\UpTo (N b).log (N k).log
theorem Pn.go (p:Pn t W N) (hW:W+3*(r+1)<=290) (h:∀ N',Pn (t+1) (W+3) N'->AbN t N N'->QN t N N'->Goal r (t+1) N'):Goal (r+1) t N:=by
 obtain ⟨N',h1,h2,h3,h4⟩:=p.round (by omega)
 refine Goal.more h1 ?_
 rcases h4 with ⟨x,hx⟩ | ⟨a1,a2,a3⟩
 ·exact Stb.goal _ _ _ h2 hx fun i hi=>by have:=h3 i hi;omega
 ·exact h N' ⟨h2,a1,h3⟩ a2 a3
abbrev QsN (N:Nat->PN):Prop:=Qs (fun i=>(N i).term) fun i=>(N i).leader≠none
theorem Qs.step {T S T' S' u:Nat->Nat} {B B' c:Nat->Prop} (h:Qs T B) (a:Ab t T S T' S' B B' c u M):Qs T' B':=by
 obtain ⟨h1,h2⟩:=h
 by_cases hev:∃ i,i<3/\c i
 ·obtain ⟨i,hi,hc⟩:=hev
  have ule:∀ y,y<3->u y<=T 0+1:=fun y hy=>by
   have:=a.uu y hy
   have:=h2 y hy
   by_cases q:c y
   ·have:=(a.uu y hy).1 q;omega
   ·have:=(a.uu y hy).2 q;omega
  obtain ⟨y,hy,hyM⟩:=a.mm.1
  have q1:=ule y hy
  have q2:=(a.uu i hi).1 hc
  have q3:=h2 i hi
  have q4:=a.leM hi
  have all:∀ y,y<3->T' y=M:=fun y hy=>by
   by_cases e:y=i
   ·subst e;omega
   ·exact a.D i y hi hy e hc (by omega) (.inr (h1 y hy))
  refine ⟨fun y hy hb=>?_,fun y hy=>(all y hy).trans (all 0 (by omega)).symm⟩
  rcases a.Lb y hy hb with ⟨e1,e2,e3,e4⟩ | ⟨e1,e2,e3⟩
  ·exact h1 y hy e2
  ·have:=all y hy
   omega
 ·have hq:∀ i,i<3->¬c i:=fun i hi hc=>hev ⟨i,hi,hc⟩
  have qt:=a.quiet hq
  refine ⟨fun y hy hb=>?_,fun y hy=>by rw [(qt y hy).2,(qt 0 (by omega)).2];exact h2 y hy⟩
  rcases a.Lb y hy hb with ⟨e1,e2,e3,e4⟩ | ⟨e1,e2,x,x1,x2,x3,-⟩
  ·exact h1 y hy e2
  ·exact hq x x1 x3
theorem QsN.is (h:QsN N):∀ i,i<3->(N i).leader=none/\(N i).term=(N 0).term:=fun i hi=>⟨Classical.not_not.1 (h.1 i hi),h.2 i hi⟩
def Best (N:Nat->PN) (b:Nat):Prop:=b<3/\∀ k,k<3->UpTo (N b).log (N k).log
theorem best_is (N:Nat->PN):∃ b,Best N b:=by
 unfold Best UpTo
 have all:∀ {P:Nat->Prop},P 0->P 1->P 2->∀ k,k<3->P k:=fun {P} h0 h1 h2 k hk=>by
  have:k=0\/k=1\/k=2:=by omega
  rcases this with rfl | rfl | rfl <;> assumption
 generalize hL:(fun k=>lastT (N k).log)=L
 generalize hP:(fun k=>(N k).log.length)=P
 have eL:∀ k,lastT (N k).log=L k:=fun k=>by rw [<- hL]
 have eP:∀ k,(N k).log.length=P k:=fun k=>by rw [<- hP]
 simp only [eL,eP]
 by_cases h01:L 1<L 0\/L 0=L 1/\P 1<=P 0
 ·by_cases h02:L 2<L 0\/L 0=L 2/\P 2<=P 0
  ·exact ⟨0,by omega,all (by omega) h01 h02⟩
  ·exact ⟨2,by omega,all (by omega) (by omega) (by omega)⟩
 ·by_cases h12:L 2<L 1\/L 1=L 2/\P 2<=P 1
  ·exact ⟨1,by omega,all (by omega) (by omega) h12⟩
  ·exact ⟨2,by omega,all (by omega) (by omega) (by omega)⟩
theorem Best.same {b:Nat} (h:Best N b) (e:∀ i,i<3->(N' i).log=(N i).log):Best N' b:=⟨h.1,fun k hk=>by rw [e b h.1,e k hk];exact h.2 k hk⟩
theorem stage4 {e b:Nat}:∀ (r t W:Nat) (N:Nat->PN),Pn t W N->QsN N->Best N b->W+3*r<=290->e<=t->t<e+(8+2*b)->e+(8+2*b)<=t+r->(∀ i,i<3->e<=(N i).since)->(N b).since=e->(t<e+8->(N 0).since=e)->(e+8<=t->e+8<=(N 0).since)->Goal r t N
 | 0,t,W,N,p,hq,hb,hW,h1,h2,h3,h4,h5,h6,h7=>by omega
 | r+1,t,W,N,p,hq,hb,hW,h1,h2,h3,h4,h5,h6,h7=>by
  refine p.go (by omega) fun N' p' a qn=>?_
  obtain ⟨q1,q2⟩:=qn hq.is
  have b3:=hb.1
  have i0:=q1 0 (by omega)
  have s0:=h4 0 (by omega)
  have c0:tmo t N 0↔(N 0).since+(8+2*0)<=t+1:=Iff.rfl
  have cb:tmo t N b↔(N b).since+(8+2*b)<=t+1:=Iff.rfl
  by_cases hc:tmo t N b
  · -- it is alone or with one other
   exfalso
   have hc':=cb.1 hc
   have key:∃ k,k<3/\¬tmo t N k:=by
    have:b=0\/b=1\/b=2:=by omega
    rcases this with rfl | rfl | rfl
    ·refine ⟨1,by omega,fun k=>?_⟩
     have k:(N 1).since+(8+2*1)<=t+1:=k
     have:=h4 1 (by omega)
     omega
    ·refine ⟨2,by omega,fun k=>?_⟩
     have k:(N 2).since+(8+2*2)<=t+1:=k
     have:=h4 2 (by omega)
     omega
    ·refine ⟨0,by omega,fun k=>?_⟩
     have k:=c0.1 k
     omega
   obtain ⟨k,hk,hkc⟩:=key
   exact q2 ⟨b,k,b3,hk,hc,hkc,hb.2 k hk⟩
  ·have sb:=(q1 b b3).2.1 hc
   have hc':¬(N b).since+(8+2*b)<=t+1:=hc
   refine stage4 (e:=e) (b:=b) r (t+1) (W+3) N' p' (hq.step a) (hb.same fun i hi=>(q1 i hi).2.2) (by omega) (by omega) (by omega) (by omega) (fun i hi=>?_) (by omega) (fun hlt=>?_) fun hge=>?_
   ·by_cases k:tmo t N i
    ·rw [(q1 i hi).1 k];omega
    ·rw [(q1 i hi).2.1 k];exact h4 i hi
   ·have:=h6 (by omega)
    have k:¬tmo t N 0:=fun k=>by have:=c0.1 k;omega
    rw [i0.2.1 k];exact this
   ·by_cases k:tmo t N 0
    ·rw [i0.1 k];omega
    ·have k':¬(N 0).since+(8+2*0)<=t+1:=k
     rw [i0.2.1 k]
     omega
theorem stage3 {b:Nat}:∀ (r t W:Nat) (N:Nat->PN),Pn t W N->QsN N->Best N b->W+3*r<=290->(N b).since+(8+2*b)+12<=t+r->13<=r->Goal r t N
 | 0,t,W,N,p,hq,hb,hW,h1,h2=>by omega
 | r+1,t,W,N,p,hq,hb,hW,h1,h2=>by
  refine p.go (by omega) fun N' p' a qn=>?_
  obtain ⟨q1,q2⟩:=qn hq.is
  have b3:=hb.1
  by_cases hc:tmo t N b
  ·have all:∀ k,k<3->tmo t N k:=fun k hk=>Classical.not_not.1 fun hkc=>q2 ⟨b,k,b3,hk,hc,hkc,hb.2 k hk⟩
   exact stage4 (e:=t+1) (b:=b) r (t+1) (W+3) N' p' (hq.step a) (hb.same fun i hi=>(q1 i hi).2.2) (by omega) (Nat.le_refl _) (by omega) (by omega) (fun i hi=>by rw [(q1 i hi).1 (all i hi)];exact Nat.le_refl _) ((q1 b b3).1 hc) (fun _=>(q1 0 (by omega)).1 (all 0 (by omega))) (fun h=>by omega)
  ·have sb:=(q1 b b3).2.1 hc
   have hc':¬(N b).since+(8+2*b)<=t+1:=hc
   exact stage3 (b:=b) r (t+1) (W+3) N' p' (hq.step a) (hb.same fun i hi=>(q1 i hi).2.2) (by omega) (by omega) (by omega)
theorem stage3' {r t W:Nat} {N:Nat->PN} (p:Pn t W N) (hq:QsN N) (hW:W+3*r<=290) (hr:25<=r):Goal r t N:=by
 obtain ⟨b,hb⟩:=best_is N
 have:=hb.1
 have:=(p.j.sh b hb.1).si
 exact stage3 (b:=b) r t W N p hq hb hW (by omega) (by omega)
theorem stage2 {i j k:Nat}:∀ (r t W:Nat) (N:Nat->PN),Pn t W N->K2 (fun i=>(N i).term) (fun i=>(N i).leader≠none) i j k->W+3*r<=290->(N k).since+(8+2*k)+25<=t+r->26<=r->Goal r t N
 | 0,t,W,N,p,h,hW,h1,h2=>by omega
 | r+1,t,W,N,p,h,hW,h1,h2=>by
  refine p.go (by omega) fun N' p' a qn=>?_
  rcases h.step a with hq | ⟨c1,c2,c3⟩
  ·exact stage3' p' hq (by omega) (by omega)
  ·have c3:(N' k).since=(N k).since:=c3
   have c1:¬(N k).since+(8+2*k)<=t+1:=c1
   exact stage2 (i:=i) (j:=j) (k:=k) r (t+1) (W+3) N' p' c2 (by omega) (by omega) (by omega)
theorem stage2' {i j k r t W:Nat} {N:Nat->PN} (p:Pn t W N) (h:K2 (fun i=>(N i).term) (fun i=>(N i).leader≠none) i j k) (hW:W+3*r<=290) (hr:37<=r):Goal r t N:=by
 have:=(p.j.sh k h.p.2.2.1).si
 have:=h.p.2.2.1
 exact stage2 (i:=i) (j:=j) (k:=k) r t W N p h hW (by omega) (by omega)
theorem stage1 {t0:Nat}:∀ (r t W:Nat) (N:Nat->PN),Pn t W N->t0<=t->t<t0+12->H t0 (fun i=>(N i).term) (fun i=>(N i).since) (fun i=>(N i).leader≠none)->(Old t0 (fun i=>(N i).since) (fun i=>(N i).leader≠none)\/∀ i,i<3->¬(N i).leader≠none/\(N i).since<=t0)->W+3*r<=290->t0+50<=t+r->Goal r t N
 | 0,t,W,N,p,h1,h2,h3,h4,hW,h5=>by omega
 | r+1,t,W,N,p,h1,h2,h3,h4,hW,h5=>by
  refine p.go (by omega) fun N' p' a qn=>?_
  have hH:=a.H h1 h3
  by_cases hev:∃ i,i<3/\tmo t N i
  ·by_cases ho:Old t0 (fun i=>(N' i).since) (fun i=>(N' i).leader≠none)
   ·obtain ⟨j,hj,hb,hs⟩:=ho
    have hs:(N' j).since<=t0:=hs
    have lt:t+1<t0+12:=by
     rcases a.Lb j hj hb with ⟨e1,e2,e3,e4⟩ | ⟨e1,-⟩
     ·have e1:¬(N j).since+(8+2*j)<=t+1:=e1
      have e3:(N' j).since=(N j).since:=e3
      omega
     ·have e1:(N' j).since=t+1:=e1
      omega
    exact stage1 (t0:=t0) r (t+1) (W+3) N' p' (by omega) lt hH (.inl ⟨j,hj,hb,hs⟩) (by omega) (by omega)
   ·obtain ⟨i,j,k,hk⟩:=a.k2 h1 h3 hev ho
    exact stage2' p' hk (by omega) (by omega)
  ·have hq:∀ i,i<3->¬tmo t N i:=fun i hi hc=>hev ⟨i,hi,hc⟩
   have qt:=a.quiet hq
   have lt:t+1<t0+12:=by
    rcases h4 with ⟨j,hj,hb,hs⟩ | h4
    ·have:¬(N j).since+(8+2*j)<=t+1:=hq j hj
     have hs:(N j).since<=t0:=hs
     omega
    ·have:¬(N 0).since+(8+2*0)<=t+1:=hq 0 (by omega)
     have:=(h4 0 (by omega)).2
     omega
   refine stage1 (t0:=t0) r (t+1) (W+3) N' p' (by omega) lt hH ?_ (by omega) (by omega)
   rcases h4 with ⟨j,hj,hb,hs⟩ | h4
   ·exact .inl ⟨j,hj,a.Lk j hj (hq j hj) hb,by have:=(qt j hj).1;show (N' j).since<=t0;have:(N' j).since=(N j).since:=this;have hs:(N j).since<=t0:=hs;omega⟩
   ·refine .inr fun i hi=>⟨fun hb=>?_,?_⟩
    ·rcases a.Lb i hi hb with ⟨e1,e2,e3,e4⟩ | ⟨e1,e2,x,x1,x2,x3,-⟩
     ·exact (h4 i hi).1 e2
     ·exact hq x x1 x3
    ·have:(N' i).since=(N i).since:=(qt i hi).1
     have:=(h4 i hi).2
     omega
theorem Pn.goal (p:Pn t W N) (hW:W+3*r<=290) (hr:51<=r):Goal r t N:=by
 have si:∀ i,i<3->(N i).since<=t:=fun i hi=>(p.j.sh i hi).si
 refine stage1 (t0:=t) r t W N p (Nat.le_refl _) (by omega) (fun j hj _ h=>?_) ?_ hW (by omega)
 ·have h:t<(N j).since:=h
  have:=si j hj
  omega
 ·by_cases ho:Old t (fun i=>(N i).since) (fun i=>(N i).leader≠none)
  ·exact .inl ho
  ·exact .inr fun i hi=>⟨fun hb=>ho ⟨i,hi,hb,si i hi⟩,si i hi⟩
end
end Go.Proofs.YtcaokpglbolkcaaGreat
namespace Go.Proofs.YtcaokpglbolkcaaGreat
section
variable {g:G} {now M i K t x W r e:Nat} {N N' N1:Nat->PN} {q:List Msg} {s s':PN} {m:Msg} {out:List Msg}
def own3 (s:PN):Nat:=if s.role=3 then own s else 0
theorem lag_le (h:Sh now i s) (hr:s.role=3) {f:Nat} (hf:f<3) (hn:f≠i):lag s f<=s.log.length - own s:=by
 unfold lag
 split
 ·rename_i k
  have:=h.ow hr f hf hn k
  omega
 ·omega
theorem oth_le {i b:Nat} (hi:i<3) {F:Nat->Nat} (h:∀ f,f<3->f≠i->F f<=b):((oth i).map F).sum<=2*b:=by
 have hf:(if i=0 then 1 else 0)<3/\(if i=0 then 1 else 0)≠i:=by split <;> omega
 rw [oth_two hi hf.1 hf.2]
 have:=h _ hf.1 hf.2
 have:=h (3 - i - (if i=0 then 1 else 0)) (by split <;> omega) (by split <;> omega)
 omega
theorem tick_cost (h:Sh (t+1) i s) (hi:i<3) (big:∀ i,i<3->Big K (N i)) (k:Tk (t+1) i s s' out) (h':Sh (t+1) i s') (hNo:∀ x∈out,MSh x):
  s'.log=s.log/\own3 s'<=own3 s/\(s'.role=2\/s'.role=s.role)/\(out.map (wt K N)).sum+rsv K s'<=4*K+6+(2*K+8)+4*s.log.length+(2*K - 2)*own3 s:=by
 have ll:∀ {s:PN} {n:Nat},Sh n i s->s.role=3->rsv K s<=2+4*s.log.length+(2*K - 2)*own s:=fun {s} {n} h hr=>by
  rw [rsv3 hr h.id]
  have a1:=oth_le hi (F:=lag s) (b:=s.log.length - own s) fun f hf hn=>lag_le h hr hf hn
  have a2:=unc_own s
  have a3:=own_le s
  have a4:=Nat.mul_le_mul_left (2*K+2) a2
  have a5:(2*K+2)*own s<=(2*K - 2)*own s+4*own s:=by
   rw [<- Nat.add_mul]
   exact Nat.mul_le_mul_right _ (by omega)
  split <;> omega
 have r2:∀ s:PN,s.role=2->rsv K s=6*K+8+4*s.log.length:=fun s h=>by
  unfold rsv
  rw [if_neg (by omega),if_pos h]
 have r1:∀ s:PN,s.role≠3->s.role≠2->rsv K s=0:=fun s h1 h2=>by
  unfold rsv
  rw [if_neg h1,if_neg h2]
 have any:∀ {n:Nat},Sh n i s->([].map (wt K N)).sum+rsv K s<=4*K+6+(2*K+8)+4*s.log.length+(2*K - 2)*own3 s:=fun {n} h=>by
  rw [List.map_nil,List.sum_nil]
  by_cases e3:s.role=3
  ·have:=ll h e3
   have e:own3 s=own s:=if_pos e3
   rw [e]
   omega
  ·by_cases e2:s.role=2
   ·rw [r2 s e2];omega
   ·rw [r1 s e3 e2];omega
 cases k with
 | beat hr hd=>
  refine ⟨rfl,Nat.le_refl _,.inr rfl,?_⟩
  have a1:=ll h' hr
  have e:own3 s=own s:=if_pos hr
  have a1:rsv K { s with hb:=t+1 }<=2+4*s.log.length+(2*K - 2)*own s:=a1
  rw [List.map_map]
  have a2:=oth_le hi (F:=wt K N ∘ sendAppendS { s with hb:=t+1 }) (b:=2*K+2) fun f hf hn=>wt_le big (hNo _ (List.mem_map.2 ⟨f,mem_oth.2 ⟨hf,hn⟩,rfl⟩))
  rw [e]
  omega
 | rest hr hd=>exact ⟨rfl,Nat.le_refl _,.inr rfl,any h⟩
 | start hr hd=>
  have e0:own3 (startB s (t+1))=0:=if_neg (by show ¬((2:Nat)=3);decide)
  refine ⟨rfl,by omega,.inl rfl,?_⟩
  rw [r2 (startB s (t+1)) rfl,List.map_map]
  have a2:=oth_le hi (F:=wt K N ∘ askM s) (b:=2) fun f hf hn=>by
   have e:wt K N (askM s f)=2:=rfl
   exact Nat.le_of_eq e
  have:(startB s (t+1)).log=s.log:=rfl
  rw [this]
  omega
 | wait hr hd=>exact ⟨rfl,Nat.le_refl _,.inr rfl,any h⟩
theorem J.roundP (j:J t N q) (big:∀ i,i<3->Big K (tk (t+1) N i)) (cost:phi K (tk (t+1) N) (q++tkq (t+1) N)<=5001) {P:(Nat->PN)->List Msg->Prop} (hP:∀ N m q,J (t+1) N (m::q)->P N (m::q)->P (upd N m.dst (stepS (N m.dst) m (t+1)).1) (q++(stepS (N m.dst) m (t+1)).2)) (p:P (tk (t+1) N) (q++tkq (t+1) N))
  (gr:Gr 320 (tk (t+1) N) (q++tkq (t+1) N)):∃ N',Rnd t N q N'/\J (t+1) N' []/\P N' []:=by
 obtain ⟨n,N',h1,h2,h3,h4,h5⟩:=J.run hP 5001 _ _ (j.later (now:=t+1) (by omega)).ticks big cost p
 exact ⟨N',⟨n,h1,h2,h3,gr⟩,h4,h5⟩
theorem J.tickL (j:J t N q) {i:Nat} (hi:i<3):(tk (t+1) N i).log=(N i).log/\own3 (tk (t+1) N i)<=own3 (N i)/\((tk (t+1) N i).role=2\/(tk (t+1) N i).role=(N i).role):=by
 have h:=(j.sh i hi).later (now:=t+1) (by omega)
 have k:=h.tick hi
 have e2:tk (t+1) N i=(tickS (N i) (t+1)).1:=rfl
 have a1:((N i).at (t+1)).log=(N i).log:=rfl
 have a2:own3 ((N i).at (t+1))=own3 (N i):=rfl
 have a3:((N i).at (t+1)).role=(N i).role:=rfl
 rw [e2,<- a1,<- a2,<- a3]
 generalize (N i).at (t+1)=s at*
 generalize (tickS (N i) (t+1)).1=s' at*
 generalize (tickS (N i) (t+1)).2=out at*
 cases k with
 | beat=>exact ⟨rfl,Nat.le_refl _,.inr rfl⟩
 | rest=>exact ⟨rfl,Nat.le_refl _,.inr rfl⟩
 | start=>
  have e0:own3 (startB s (t+1))=0:=if_neg (by show ¬((2:Nat)=3);decide)
  exact ⟨rfl,by omega,.inl rfl⟩
 | wait=>exact ⟨rfl,Nat.le_refl _,.inr rfl⟩
theorem J.bigL (j:J t N q) (h:∀ i,i<3->(N i).log.length+1<=16*K):∀ i,i<3->Big K (tk (t+1) N i):=fun i hi=>by
 have:=h i hi
 have e:=(j.tickL hi).1
 exact ⟨fun _=>by rw [e];omega,fun _=>by rw [e];omega⟩
theorem J.costL (j:J t N q) (h:∀ i,i<3->(N i).log.length+1<=16*K) {c:Nat} (hq:(q.map (wt K (tk (t+1) N))).sum<=c):
  phi K (tk (t+1) N) (q++tkq (t+1) N)<=c+3*(4*K+6+(2*K+8))+4*((N 0).log.length+(N 1).log.length+(N 2).log.length)+(2*K - 2)*(own3 (N 0)+own3 (N 1)+own3 (N 2)):=by
 have big:=j.bigL h
 have one:∀ i,i<3->((tickS (N i) (t+1)).2.map (wt K (tk (t+1) N))).sum+rsv K (tk (t+1) N i)<=4*K+6+(2*K+8)+4*(N i).log.length+(2*K - 2)*own3 (N i):=fun i hi=>by
  have h:=(j.sh i hi).later (now:=t+1) (by omega)
  have k:=h.tick hi
  obtain ⟨h1,h2⟩:=k.sh h.clock hi
  exact (tick_cost (t:=t) (s:=(N i).at (t+1)) (K:=K) (N:=tk (t+1) N) h.clock hi big k h1 h2).2.2.2
 have a0:=one 0 (by omega)
 have a1:=one 1 (by omega)
 have a2:=one 2 (by omega)
 unfold phi
 have b1:=Nat.mul_add (2*K - 2) (own3 (N 0)+own3 (N 1)) (own3 (N 2))
 have b2:=Nat.mul_add (2*K - 2) (own3 (N 0)) (own3 (N 1))
 rw [List.map_append,List.sum_append_nat,tkq_sum]
 omega
theorem own3_le (s:PN):own3 s<=s.log.length:=by
 have:=own_le s
 unfold own3
 split <;> omega
theorem cnd_le (N:Nat->PN):cnd N<=3:=by
 unfold cnd cnd1
 (repeat' split) <;> omega
theorem J.first (j:J t N q) (hq:q.length<=200) (he:e<=92) (hl:∀ i,i<3->(N i).log.length<=e) (hm:∀ m∈q,m.kind=3->m.prev+m.ents.length<=e) (ho:own3 (N 0)+own3 (N 1)+own3 (N 2)<=e):
  ∃ N',Rnd t N q N'/\J (t+1) N' []/\∀ i,i<3->(N' i).log.length<=95:=by
 have hl6:∀ i,i<3->(N i).log.length+1<=16*6:=fun i hi=>by have:=hl i hi;omega
 have big:=j.bigL (K:=6) hl6
 have c1:(q.map (wt 6 (tk (t+1) N))).sum<=2800:=by
  have key:∀ l:List Msg,(∀ m∈l,MSh m)->(l.map (wt 6 (tk (t+1) N))).sum<=14*l.length:=by
   intro l
   induction l with
   | nil=>intro _;exact Nat.le_refl _
   | cons a l ih=>
    intro hl
    have:=ih fun m hm=>hl m (.tail _ hm)
    have:=wt_le big (hl a (.head _))
    simp only [List.map_cons,List.sum_cons,List.length_cons]
    omega
  have:=key q j.ms
  omega
 have cost:=j.costL hl6 c1
 have l0:=hl 0 (by omega)
 have l1:=hl 1 (by omega)
 have l2:=hl 2 (by omega)
 have c3:=cnd_le (tk (t+1) N)
 have gr:Gr 95 (tk (t+1) N) (q++tkq (t+1) N):=⟨fun i hi=>by
  have:=hl i hi
  rw [(j.tickL hi).1]
  omega,fun m hm' hk=>by
  rcases List.mem_append.1 hm' with h | h
  ·have:=hm m h hk
   omega
  ·have a:=app_tk j m h hk
   obtain ⟨i,hi,hx⟩:=mem_tkq.1 h
   have b:=hl m.src ((((j.later (now:=t+1) (by omega)).ticks).ms m hm').src)
   omega⟩
 obtain ⟨N',h1,h2,h3⟩:=j.roundP big (by omega) (P:=Gr 95) (fun N m q j p=>p.step j) gr (gr.mono (by omega))
 exact ⟨N',h1,h2,fun i hi=>by have:=h3.n i hi;omega⟩
theorem J.with (j:J t N []) (hl:∀ i,i<3->(N i).log.length<=W) (hW:W<=290) (hK:W+1<=16*K) (hc:3*(4*K+6+(2*K+8))+12*W+(2*K - 2)*(3*W)<=5001):
  ∃ N',Rnd t N [] N'/\J (t+1) N' []/\(∀ i,i<3->(N' i).log.length<=W+3)/\((∃ x,Stb (t+1) N' x)\/∀ i,i<3->(N' i).role=3->(N' i).hb<=t/\(N i).role=3/\t+1<(N i).hb+2):=by
 have hlK:∀ i,i<3->(N i).log.length+1<=16*K:=fun i hi=>by have:=hl i hi;omega
 have big:=j.bigL hlK
 have cost:=j.costL (K:=K) hlK (c:=0) (by simp)
 have l0:=hl 0 (by omega)
 have l1:=hl 1 (by omega)
 have l2:=hl 2 (by omega)
 have o0:=own3_le (N 0)
 have o1:=own3_le (N 1)
 have o2:=own3_le (N 2)
 have c3:=cnd_le (tk (t+1) N)
 have om:=Nat.mul_le_mul_left (2*K - 2) (show own3 (N 0)+own3 (N 1)+own3 (N 2)<=3*W by omega)
 obtain ⟨-,rb⟩:=j.round0
 have mx:=maxT_is (tk (t+1) N)
 generalize maxT (tk (t+1) N)=M at*
 have hb0:∀ i,i<3->(tk (t+1) N i).role=3->(tk (t+1) N i).hb=t+1\/((tk (t+1) N i).hb<=t/\(N i).role=3/\t+1<(N i).hb+2):=fun i hi hr=>by
  have h:=(j.sh i hi).later (now:=t+1) (by omega)
  have k:=h.tick hi
  have e2:tk (t+1) N i=(tickS (N i) (t+1)).1:=rfl
  have hh:=(j.sh i hi).hb
  have a1:((N i).at (t+1)).hb=(N i).hb:=rfl
  have a3:((N i).at (t+1)).role=(N i).role:=rfl
  rw [e2] at hr ⊢
  rw [<- a1,<- a3]
  rw [<- a1] at hh
  generalize (N i).at (t+1)=s at*
  generalize (tickS (N i) (t+1)).1=s' at*
  generalize (tickS (N i) (t+1)).2=out at*
  cases k with
  | beat=>exact .inl rfl
  | rest h3 hd=>exact .inr ⟨hh,h3,hd⟩
  | start=>cases hr
  | wait h3=>exact absurd hr h3
 have gr:Gr (W+3) (tk (t+1) N) ([]++tkq (t+1) N):=⟨fun i hi=>by
  have:=hl i hi
  rw [(j.tickL hi).1]
  omega,fun m hm' hk=>by
  rw [List.nil_append] at hm'
  have a:=app_tk j m hm' hk
  have b:=hl m.src ((((j.later (now:=t+1) (by omega)).ticks).ms m (by rw [List.nil_append];exact hm')).src)
  omega⟩
 obtain ⟨N',h1,h2,h3,h4,h5⟩:=j.roundP big (by rw [List.nil_append] at *;omega) (P:=fun N2 q=>Gr (W+3) N2 q/\Rb (t+1) M (tk (t+1) N) N2 q/\∀ i,i<3->(N2 i).role=3->(N2 i).hb=t+1\/((N2 i).hb<=t/\(N i).role=3/\t+1<(N i).hb+2)) (fun N2 m q j ⟨a1,a2,a3⟩=>⟨a1.step j,a2.step j,fun i hi hr=>by
  by_cases e:i=m.dst
  ·subst e
   rw [upd_self] at hr ⊢
   rcases mv_role ((j.sh m.dst hi).clock) hi j.mv with b | b | b
   ·omega
   ·rw [b.2.2.1]
    exact a3 m.dst hi (b.1.symm.trans hr)
   ·exact .inl b.2.2.2.1
  ·rw [upd_ne N2 _ e] at hr ⊢
   exact a3 i hi hr⟩) ⟨gr,by rw [List.nil_append];exact rb,hb0⟩ (gr.mono (by omega))
 refine ⟨N',h1,h2,fun i hi=>by have:=h3.n i hi;omega,?_⟩
 by_cases hx:∃ i,i<3/\(N' i).role=3/\(N' i).hb=t+1
 ·obtain ⟨i,hi,h6,h7⟩:=hx
  exact .inl ⟨i,(h4.stable mx hi h6 h7).1⟩
 ·exact .inr fun i hi h6=>(h5 i hi h6).resolve_left fun h7=>hx ⟨i,hi,h6,h7⟩
theorem J.sixty (j:J t N q) (hq:q.length<=200) (he:e<=92) (hl:∀ i,i<3->(N i).log.length<=e) (hm:∀ m∈q,m.kind=3->m.prev+m.ents.length<=e) (ho:own3 (N 0)+own3 (N 1)+own3 (N 2)<=e):
  ∃ N1 N' x,Rnd t N q N1/\Rnds 59 (t+1) N1 N'/\J (t+60) N' []/\Stb (t+60) N' x/\∀ i,i<3->(N' i).log.length<=300:=by
 obtain ⟨N1,r1,j1,w1⟩:=j.first hq he hl hm ho
 have g1:Goal 59 (t+1) N1:=by
  obtain ⟨N2,r2,j2,w2,h2⟩:=j1.with (K:=6) w1 (by omega) (by omega) (by omega)
  refine Goal.more r2 ?_
  rcases h2 with ⟨x,hx⟩ | h2
  ·exact Stb.goal _ _ _ j2 hx fun i hi=>by have:=w2 i hi;omega
  ·obtain ⟨N3,r3,j3,w3,h3⟩:=j2.with (K:=7) w2 (by omega) (by omega) (by omega)
   refine Goal.more r3 ?_
   rcases h3 with ⟨x,hx⟩ | h3
   ·exact Stb.goal _ _ _ j3 hx fun i hi=>by have:=w3 i hi;omega
   ·refine Pn.goal ⟨j3,fun i hi hr=>?_,w3⟩ (by omega) (by omega)
    obtain ⟨a1,a2,a3⟩:=h3 i hi hr
    obtain ⟨b1,-⟩:=h2 i hi a2
    omega
 obtain ⟨N',x,h1,h2,h3,h4⟩:=g1
 have e:t+1+59=t+60:=by omega
 rw [e] at h2 h3
 exact ⟨N1,N',x,r1,h1,h2,h3,h4⟩
end
end Go.Proofs.YtcaokpglbolkcaaGreat
namespace Go.Proofs.YtcaokpglbolkcaaGreat
section
variable {g:G} {now M i K t x W r e k:Nat} {N N' N1:Nat->PN} {q q':List Msg} {s s':PN} {m:Msg} {out:List Msg}
theorem J.mono (j:J now N q) (h:∀ m∈q',m∈q):J now N q':=⟨by
 obtain ⟨g,s⟩:=j.sys
 exact ⟨g,s.live,fun m hm=>s.msg m (h m hm)⟩,j.sh,fun m hm=>j.ms m (h m hm)⟩
theorem oth_len (hi:i<3):(oth i).length=2:=by
 have:i=0\/i=1\/i=2:=by omega
 rcases this with rfl | rfl | rfl <;> rfl
theorem mv_olen (h:Sh now i s) (hi:i<3) (mv:Mv now s m s' out):out.length<=2:=by
 cases mv with
 | deaf=>exact Nat.zero_le _
 | old1=>exact Nat.le_succ _
 | old3=>exact Nat.le_succ _
 | old=>exact Nat.zero_le _
 | grant=>exact Nat.le_succ _
 | deny=>exact Nat.le_succ _
 | idle=>exact Nat.zero_le _
 | count=>exact Nat.zero_le _
 | lead=>rw [mv_lead3 h hi,List.length_map,oth_len hi];exact Nat.le_refl _
 | fol=>exact Nat.le_succ _
 | nofol=>exact Nat.le_succ _
 | back=>exact Nat.le_succ _
 | more=>rw [heard_all h,List.length_map,oth_len hi];exact Nat.le_refl _
 | next=>exact Nat.le_succ _
 | done=>exact Nat.zero_le _
theorem tk_olen (h:Sh now i s) (hi:i<3):(tickS s now).2.length<=2:=by
 have k:=h.tick hi
 generalize (tickS s now).1=s' at*
 generalize (tickS s now).2=out at*
 cases k with
 | beat=>rw [List.length_map,oth_len hi];exact Nat.le_refl _
 | rest=>exact Nat.zero_le _
 | start=>rw [List.length_map,oth_len hi];exact Nat.le_refl _
 | wait=>exact Nat.zero_le _
theorem tkq_olen (j:J t N q):(tkq (t+1) N).length<=6:=by
 have h:=fun i hi=>tk_olen ((j.sh i hi).later (now:=t+1) (by omega)) hi
 have:=h 0 (by omega)
 have:=h 1 (by omega)
 have:=h 2 (by omega)
 unfold tkq
 rw [List.length_append,List.length_append]
 omega
structure Tn (k now e:Nat) (N:Nat->PN) (q:List Msg):Prop where
 j:J now N q
 hl:∀ i,i<3->(N i).log.length<=e
 hm:∀ m∈q,m.kind=3->m.prev+m.ents.length<=e
 ho:own3 (N 0)+own3 (N 1)+own3 (N 2)<=e
 hk:e+now<=k
 h8:now<8->q=[]/\e=0/\∀ i,i<3->(N i).role=1
theorem sum_upd (F:PN->Nat) (N:Nat->PN) {d:Nat} (hd:d<3) (s:PN):F (upd N d s 0)+F (upd N d s 1)+F (upd N d s 2)+F (N d)=F (N 0)+F (N 1)+F (N 2)+F s:=by
 have:d=0\/d=1\/d=2:=by omega
 rcases this with rfl | rfl | rfl
 ·rw [upd_self,upd_ne N (d:=0) (j:=1) _ (by omega),upd_ne N (d:=0) (j:=2) _ (by omega)];omega
 ·rw [upd_self,upd_ne N (d:=1) (j:=0) _ (by omega),upd_ne N (d:=1) (j:=2) _ (by omega)];omega
 ·rw [upd_self,upd_ne N (d:=2) (j:=0) _ (by omega),upd_ne N (d:=2) (j:=1) _ (by omega)];omega
theorem Tn.init:Tn 0 0 0 (fun i=>openS i (8+2*i) 2 init3 0 none [] 0) []:=by
 have hp:Permit init3:=⟨⟨by decide,by decide,by decide⟩,.inl rfl⟩
 refine ⟨⟨⟨G0,fun i _=>⟨live0 hp i _ _,rfl⟩,fun m hm=>(by cases hm)⟩,fun i _=>⟨rfl,rfl,rfl,rfl,fun e he=>(by cases he),Nat.le_refl _,Nat.le_refl _,Nat.le_refl _,rfl,rfl,rfl,fun e=>(by cases e),fun e=>(by cases e),fun e=>(by cases e),fun e=>(by cases e),fun e=>(by cases e)⟩,fun m hm=>(by cases hm)⟩,fun _ _=>Nat.le_refl _,fun m hm=>(by cases hm),Nat.le_refl _,Nat.le_refl _,fun _=>⟨rfl,rfl,fun _ _=>rfl⟩⟩
theorem Tn.less (h:Tn k now e N q) (hq:∀ m∈q',m∈q):Tn k now e N q':=⟨h.j.mono hq,h.hl,fun m hm=>h.hm m (hq m hm),h.ho,h.hk,fun h8=>by
 obtain ⟨a,b,c⟩:=h.h8 h8
 refine ⟨?_,b,c⟩
 cases q' with
 | nil=>rfl
 | cons m q'=>have:=hq m (.head _);rw [a] at this;cases this⟩
theorem Tn.up (h:Tn k now e N q) {k':Nat} (hk:k<=k'):Tn k' now e N q:={ h with hk:=Nat.le_trans h.hk hk }
theorem Tn.tick (h:Tn k t e N q):Tn (k+1) (t+1) e (tk (t+1) N) (q++tkq (t+1) N):=by
 have T:=fun i hi=>h.j.tickL (i:=i) hi
 have jj:=(h.j.later (now:=t+1) (by omega)).ticks
 refine ⟨jj,fun i hi=>by rw [(T i hi).1];exact h.hl i hi,fun m hm hk=>?_,?_,by have:=h.hk;omega,fun h8=>?_⟩
 ·rcases List.mem_append.1 hm with hm' | hm'
  ·exact h.hm m hm' hk
  ·have:=app_tk h.j m hm' hk
   have:=h.hl m.src (jj.ms m hm).src
   omega
 ·have:=(T 0 (by omega)).2.1
  have:=(T 1 (by omega)).2.1
  have:=(T 2 (by omega)).2.1
  have:=h.ho
  omega
 ·obtain ⟨a,b,c⟩:=h.h8 (by omega)
  have W:=fun i hi=>h.j.mono (q':=[]) (fun m hm=>by cases hm) |>.waits (fun i hi=>by rw [c i hi];decide) (i:=i) hi
  have nt:∀ i,¬tmo t N i:=fun i a=>by
   have a:(N i).since+(8+2*i)<=t+1:=a
   omega
  refine ⟨?_,b,fun i hi=>?_⟩
  ·unfold tkq
   rw [a,((W 0 (by omega)).2 (nt 0)).2,((W 1 (by omega)).2 (nt 1)).2,((W 2 (by omega)).2 (nt 2)).2]
   rfl
  ·rw [((W i hi).2 (nt i)).1]
   exact c i hi
theorem Tn.step (h:Tn k now e N q) (hm:m∈q) (hq:∀ x∈q',x∈q):Tn (k+1) now (e+1) (upd N m.dst (stepS (N m.dst) m now).1) (q'++(stepS (N m.dst) m now).2):=by
 have jm:J now N (m::q'):=h.j.mono fun x hx=>by
  rcases List.mem_cons.1 hx with rfl | hx
  ·exact hm
  ·exact hq x hx
 have ms:=jm.ms m (.head _)
 have hs:=(jm.sh m.dst ms.dst).clock
 have mv:=jm.mv
 have js:=jm.step
 obtain ⟨g,sys⟩:=jm.sys
 have l:=(sys.live m.dst ms.dst).1.clock now
 obtain ⟨a1,a2,a3⟩:=mv_len hs ms.dst l ms (sys.msg m (.head _)) rfl mv
 have ro:=mv_role hs ms.dst mv
 have ot:=mv_out hs ms.dst mv
 have hl0:=h.hl m.dst ms.dst
 have hm0:=h.hm m hm
 have e1:((N m.dst).at now).log=(N m.dst).log:=rfl
 have e2:own3 ((N m.dst).at now)=own3 (N m.dst):=rfl
 have su:=sum_upd own3 N ms.dst (stepS (N m.dst) m now).1
 have ow:own3 (stepS (N m.dst) m now).1<=own3 ((N m.dst).at now)+1:=by
  have sd':=js.sh m.dst ms.dst
  rw [upd_self] at sd'
  generalize (N m.dst).at now=S at*
  generalize (stepS (N m.dst) m now).1=s' at*
  generalize (stepS (N m.dst) m now).2=out at*
  rcases ro with r | r | r
  ·have:own3 s'=0:=if_neg (by omega)
   omega
  ·unfold own3 own
   rw [r.1,r.2.1,r.2.2.2.1]
   omega
  · -- it has become the leader
   have:=l.none r.1
   have key:Mv now S m s' out->s'.role=3->own s'<=1:=fun mv=>by
    cases mv with
    | idle=>intro e;rw [ent_eq (by omega)] at e;omega
    | count=>
     intro e
     have e:S.role=3:=e
     omega
    | lead=>
     intro _
     rw [mv_lead3 hs ms.dst]
     show (S.log++[(⟨S.term,1,[]⟩:Ent)]).countP (fun e=>decide (e.term=S.term))<=1
     unfold own at this
     rw [List.countP_append,this]
     simp
    | _=>omega
   have:=key mv r.2.1
   unfold own3
   split <;> omega
 rw [e1] at a1
 rw [e2] at ow
 generalize (N m.dst).at now=S at*
 generalize (stepS (N m.dst) m now).1=s' at*
 generalize (stepS (N m.dst) m now).2=out at*
 have nd:s'.log.length<=e+1:=by
  rcases a1 with a | ⟨b1,b2,b3⟩ | ⟨b1,b2,b3⟩
  ·omega
  ·omega
  ·have:=hm0 b1
   omega
 refine ⟨js,fun i hi=>?_,fun y hy hk=>?_,?_,by have:=h.hk;omega,fun h8=>?_⟩
 ·by_cases ei:i=m.dst
  ·rw [ei,upd_self];exact nd
  ·rw [upd_ne N _ ei]
   have:=h.hl i hi
   omega
 ·rcases List.mem_append.1 hy with hy | hy
  ·have:=h.hm y (hq y hy) hk
   omega
  ·have:=a3 y hy hk
   omega
 ·have:=h.ho
  omega
 ·rw [(h.h8 h8).1] at hm
  cases hm
theorem Tn.restart (h:Tn k now e N q) (hi:i<3):Tn (k+1) now e (upd N i (openS i (8+2*i) 2 init3 (N i).term (N i).voted (N i).log now)) q:=by
 have hs:=h.j.sh i hi
 have su:=sum_upd own3 N hi (openS i (8+2*i) 2 init3 (N i).term (N i).voted (N i).log now)
 have e0:own3 (openS i (8+2*i) 2 init3 (N i).term (N i).voted (N i).log now)=0:=if_neg (by show ¬((1:Nat)=3);decide)
 refine ⟨⟨?_,fun a ha=>?_,h.j.ms⟩,fun a ha=>?_,h.hm,by have:=h.ho;omega,by have:=h.hk;omega,fun h8=>?_⟩
 ·obtain ⟨g,sys⟩:=h.j.sys
  obtain ⟨l,id⟩:=sys.live i hi
  have lo:=l.open (8+2*i) 2 now
  rw [id,hs.ini] at lo
  obtain ⟨g',-,s'⟩:=sys.step hi (Steps.stay lo (by show i=(N i).id;rw [id])) (F':=q) fun m hm=>.inl hm
  exact ⟨g',s'⟩
 ·by_cases ea:a=i
  ·subst ea
   rw [upd_self]
   exact ⟨rfl,rfl,rfl,rfl,hs.pl,Nat.le_refl _,Nat.le_refl _,Nat.zero_le _,rfl,rfl,rfl,fun e=>(by cases e),fun e=>(by cases e),fun e=>(by cases e),fun e=>(by cases e),fun e=>(by cases e)⟩
  ·rw [upd_ne N _ ea];exact h.j.sh a ha
 ·by_cases ea:a=i
  ·subst ea
   rw [upd_self];exact h.hl a ha
  ·rw [upd_ne N _ ea];exact h.hl a ha
 ·obtain ⟨a,b,c⟩:=h.h8 h8
  refine ⟨a,b,fun d hd=>?_⟩
  by_cases ed:d=i
  ·subst ed;rw [upd_self];rfl
  ·rw [upd_ne N _ ed];exact c d hd
theorem prop3 (h:Sh now i s) (hr:s.role=3) (body:List UInt8):∃ c,s.commit<=c/\proposeS s body=({ s with log:=s.log++[⟨s.term,2,body⟩],commit:=c },(oth i).map (sendAppendS { s with log:=s.log++[⟨s.term,2,body⟩],commit:=c })):=by
 have hp:∀ e∈(addS s ⟨s.term,2,body⟩).log,e.kind≠3:=fun e he=>by
  rcases List.mem_append.1 he with he | he
  ·exact h.pl e he
  ·rw [List.mem_singleton.1 he]
   show (2:Nat)≠3
   decide
 obtain ⟨c,ec,hc⟩:=advC_ex (addS s ⟨s.term,2,body⟩)
 refine ⟨c,hc,?_⟩
 unfold proposeS submitS
 rw [if_pos hr,advS3 hp,ec]
 congr 1
 unfold sendAll
 rw [others3 (s:={ addS s ⟨s.term,2,body⟩ with commit:=c }) hp h.ini]
 rw [show ({ addS s ⟨s.term,2,body⟩ with commit:=c }:PN).id=s.id from rfl,h.id]
 rfl
theorem J.propose (j:J now N q) (hi:i<3) (body:List UInt8):J now (upd N i (proposeS (N i) body).1) (q++(proposeS (N i) body).2):=by
 have hs:=j.sh i hi
 obtain ⟨g,sys⟩:=j.sys
 obtain ⟨l,id⟩:=sys.live i hi
 obtain ⟨g',-,sy⟩:=sys.step hi (l.proposes body) (F':=q++(proposeS (N i) body).2) fun m hm=>List.mem_append.1 hm
 have key:Sh now i (proposeS (N i) body).1/\∀ y∈(proposeS (N i) body).2,MSh y:=by
  by_cases hr:(N i).role=3
  ·obtain ⟨c,hc,ep⟩:=prop3 hs hr body
   rw [ep]
   have hp:∀ e∈(N i).log++[(⟨(N i).term,2,body⟩:Ent)],e.kind≠3:=fun e he=>by
    rcases List.mem_append.1 he with he | he
    ·exact hs.pl e he
    ·rw [List.mem_singleton.1 he]
     show (2:Nat)≠3
     decide
   have ll:((N i).log++[(⟨(N i).term,2,body⟩:Ent)]).length=(N i).log.length+1:=by simp
   have lm:=l.mle hr
   refine ⟨{ hs with pl:=hp,c2:=fun e=>?_,cm:=fun _ f hf hn e=>?_,ow:=fun _ f hf hn e=>?_ },fun y hy=>?_⟩
   ·have e:(N i).role=2:=e
    omega
   ·have e:(N i).mtch.getD f 0=((N i).log++[(⟨(N i).term,2,body⟩:Ent)]).length:=e
    have:=lm f (by rw [id];exact hn)
    omega
   ·have a:=hs.ow hr f hf hn e
    show (N i).next.getD f 0 - 1+((N i).log++[(⟨(N i).term,2,body⟩:Ent)]).countP (fun e=>decide (e.term=(N i).term))<=((N i).log++[(⟨(N i).term,2,body⟩:Ent)]).length
    unfold own at a
    have cnt:((N i).log++[(⟨(N i).term,2,body⟩:Ent)]).countP (fun e=>decide (e.term=(N i).term))=(N i).log.countP (fun e=>decide (e.term=(N i).term))+1:=by rw [List.countP_append];simp
    rw [ll,cnt]
    omega
   ·obtain ⟨f,hf,rfl⟩:=List.mem_map.1 hy
    obtain ⟨h1,h2⟩:=mem_oth.1 hf
    exact msh_a (s:={ (N i) with log:=(N i).log++[⟨(N i).term,2,body⟩],commit:=c }) hs.id hp hi h1 h2
  ·unfold proposeS
   rw [if_neg hr]
   exact ⟨hs,fun y hy=>by cases hy⟩
 refine ⟨⟨g',sy⟩,fun a ha=>?_,fun y hy=>(List.mem_append.1 hy).elim (j.ms y) (key.2 y)⟩
 by_cases ea:a=i
 ·subst ea
  rw [upd_self];exact key.1
 ·rw [upd_ne N _ ea];exact j.sh a ha
theorem prop_olen (h:Sh now i s) (hi:i<3) (body:List UInt8):(proposeS s body).2.length<=2:=by
 by_cases hr:s.role=3
 ·obtain ⟨c,hc,ep⟩:=prop3 h hr body
  rw [ep,List.length_map,oth_len hi]
  exact Nat.le_refl _
 ·unfold proposeS
  rw [if_neg hr]
  exact Nat.zero_le _
theorem Tn.propose (h:Tn k now e N q) (hi:i<3) (body:List UInt8):∃ e',Tn (k+1) now e' (upd N i (proposeS (N i) body).1) (q++(proposeS (N i) body).2):=by
 have hs:=h.j.sh i hi
 have jp:=h.j.propose hi body
 have su:=sum_upd own3 N hi (proposeS (N i) body).1
 obtain ⟨g,sys⟩:=h.j.sys
 obtain ⟨l,id⟩:=sys.live i hi
 by_cases hr:(N i).role=3
 ·obtain ⟨c,hc,ep⟩:=prop3 hs hr body
  rw [ep] at jp su ⊢
  dsimp only at jp su ⊢
  have ll:((N i).log++[(⟨(N i).term,2,body⟩:Ent)]).length=(N i).log.length+1:=by simp
  have li:=h.hl i hi
  have o1:own3 ({ (N i) with log:=(N i).log++[⟨(N i).term,2,body⟩],commit:=c }:PN)=own3 (N i)+1:=by
   have a1:own3 ({ (N i) with log:=(N i).log++[⟨(N i).term,2,body⟩],commit:=c }:PN)=((N i).log++[(⟨(N i).term,2,body⟩:Ent)]).countP (fun e=>decide (e.term=(N i).term)):=if_pos hr
   have a2:own3 (N i)=own (N i):=if_pos hr
   rw [a1,a2,List.countP_append]
   unfold own
   simp
  dsimp only at o1
  refine ⟨e+1,jp,fun a ha=>?_,fun y hy hk=>?_,by have:=h.ho;omega,by have:=h.hk;omega,fun h8=>?_⟩
  ·by_cases ea:a=i
   ·subst ea
    rw [upd_self]
    show ((N a).log++[(⟨(N a).term,2,body⟩:Ent)]).length<=_
    omega
   ·rw [upd_ne N _ ea]
    have:=h.hl a ha
    omega
  ·rcases List.mem_append.1 hy with hy | hy
   ·have:=h.hm y hy hk
    omega
   ·obtain ⟨f,hf,rfl⟩:=List.mem_map.1 hy
    have a:=app_len (s:={ (N i) with log:=(N i).log++[⟨(N i).term,2,body⟩],commit:=c }) (x:=f) (by
     show (N i).next.getD f 0<=((N i).log++[(⟨(N i).term,2,body⟩:Ent)]).length+1
     have:=l.nx hr f
     omega)
    exact Nat.le_trans a (by rw [show ({ (N i) with log:=(N i).log++[⟨(N i).term,2,body⟩],commit:=c }:PN).log=(N i).log++[⟨(N i).term,2,body⟩] from rfl,ll];omega)
  ·have:=(h.h8 h8).2.2 i hi
   omega
 ·have ep:proposeS (N i) body=(N i,[]):=by unfold proposeS;rw [if_neg hr]
  rw [ep] at jp su ⊢
  dsimp only at jp su ⊢
  refine ⟨e,jp,fun a ha=>?_,fun y hy hk=>?_,by have:=h.ho;omega,by have:=h.hk;omega,fun h8=>?_⟩
  ·have:=h.hl a ha
   by_cases ea:a=i
   ·subst ea;rw [upd_self];omega
   ·rw [upd_ne N _ ea];omega
  ·rw [List.append_nil] at hy
   exact h.hm y hy hk
  ·obtain ⟨a,b,c⟩:=h.h8 h8
   refine ⟨by rw [a];rfl,b,fun d hd=>?_⟩
   by_cases ed:d=i
   ·subst ed;rw [upd_self];exact c d hd
   ·rw [upd_ne N _ ed];exact c d hd
end
end Go.Proofs.YtcaokpglbolkcaaGreat
namespace Go.Proofs.YtcaokpglbolkcaaGreat
section
variable {g:G} {now M i K t x W r e k:Nat} {N N' N1:Nat->PN} {q q':List Msg} {s s':PN} {m:Msg} {out:List Msg} {L:List Ent}
def Sn (now x M:Nat) (N:Nat->PN) (q:List Msg):Prop:=∀ f,f<3->f≠x->(∃ m∈q,App x f M m)\/(N f).since=now
theorem Sn.step {h0 s0:Nat} (j:J now N (m::q)) (r:Fin x M h0 s0 L N (m::q)) (h:Sn now x M N (m::q)):Sn now x M (upd N m.dst (stepS (N m.dst) m now).1) (q++(stepS (N m.dst) m now).2):=by
 have ms:=j.ms m (.head _)
 have hs:=(j.sh m.dst ms.dst).clock
 have mv:=j.mv
 intro f hf hn
 rcases h f hf hn with ⟨z,z1,z2⟩ | c
 ·rcases List.mem_cons.1 z1 with rfl | z1
  ·right
   obtain ⟨a1,a2,a3,a4⟩:=z2
   subst a3
   rw [upd_self]
   obtain ⟨f1,f2,-⟩:=r.fol _ ms.dst hn
   have e1:((N z.dst).at now).term=M:=f1
   have e2:((N z.dst).at now).role=1:=f2
   have hno:(ent ((N z.dst).at now) z).role≠3:=fun e3=>by
    rcases ent_cases ((N z.dst).at now) z with ⟨ee,hl⟩ | ⟨ee,-⟩
    ·rw [ee] at e3;omega
    ·rw [ee] at e3;cases e3
   generalize (N z.dst).at now=S at*
   generalize (stepS (N z.dst) z now).1=s' at*
   generalize (stepS (N z.dst) z now).2=out at*
   cases mv with
   | idle hle hq=>
    rcases hq with hq | hq | hq
    ·omega
    ·exact absurd hq.2 hno
    ·omega
   | fol=>rfl
   | nofol=>rfl
   | _=>omega
  ·exact .inl ⟨z,List.mem_append_left _ z1,z2⟩
 ·right
  by_cases e:f=m.dst
  ·subst e
   rw [upd_self]
   rcases mv_since mv with a | a
   ·exact a.trans c
   ·exact a
  ·rw [upd_ne N _ e];exact c
theorem Stb.last (j:J t N []) (s:Stb t N x) (hw:∀ i,i<3->(N i).log.length<=300) (body:List UInt8):
  ∃ N',Rnd t (upd N x (proposeS (N x) body).1) (proposeS (N x) body).2 N'/\J (t+1) N' []/\Stb (t+1) N' x/\(∀ i,i<3->(N' i).log.length<=301)/\(N' x).log=(N x).log++[⟨(N x).term,2,body⟩]:=by
 have hx:=s.lt
 have hl:=hw x hx
 have sx:=j.sh x hx
 have j2:=j.propose hx body
 rw [List.nil_append] at j2
 obtain ⟨c,hc,ep⟩:=prop3 sx s.r body
 rw [ep] at j2 ⊢
 dsimp only at j2 ⊢
 obtain ⟨g,sys⟩:=j.sys
 have lx:=(sys.live x hx).1
 have l0:=List.length_pos_iff.2 (lx.last s.r).1
 have hhb:=s.hb
 have hh:=sx.hb
 have com:(N x).commit=(N x).log.length:=by
  have hf:(if x=0 then 1 else 0)<3/\(if x=0 then 1 else 0)≠x:=by split <;> omega
  exact sx.cm s.r _ hf.1 hf.2 (s.all _ hf.1 hf.2).1
 have hL:((N x).log++[(⟨(N x).term,2,body⟩:Ent)]).length=(N x).log.length+1:=by simp
 have pr:({ (N x) with log:=(N x).log++[⟨(N x).term,2,body⟩],commit:=c }:PN).role=3/\({ (N x) with log:=(N x).log++[⟨(N x).term,2,body⟩],commit:=c }:PN).term=(N x).term/\({ (N x) with log:=(N x).log++[⟨(N x).term,2,body⟩],commit:=c }:PN).log=(N x).log++[⟨(N x).term,2,body⟩]/\({ (N x) with log:=(N x).log++[⟨(N x).term,2,body⟩],commit:=c }:PN).hb=(N x).hb/\({ (N x) with log:=(N x).log++[⟨(N x).term,2,body⟩],commit:=c }:PN).mtch=(N x).mtch/\({ (N x) with log:=(N x).log++[⟨(N x).term,2,body⟩],commit:=c }:PN).next=(N x).next/\({ (N x) with log:=(N x).log++[⟨(N x).term,2,body⟩],commit:=c }:PN).commit=c/\({ (N x) with log:=(N x).log++[⟨(N x).term,2,body⟩],commit:=c }:PN).id=x:=⟨s.r,rfl,rfl,rfl,rfl,rfl,rfl,sx.id⟩
 generalize hp:({ (N x) with log:=(N x).log++[⟨(N x).term,2,body⟩],commit:=c }:PN)=p at*
 obtain ⟨p1,p2,p3,p4,p5,p6,p7,p8⟩:=pr
 generalize hN:upd N x p=N2 at*
 have Nx:N2 x=p:=by rw [<- hN];exact upd_self N x p
 have Nf:∀ f,f≠x->N2 f=N f:=fun f hf=>by rw [<- hN];exact upd_ne N p hf
 have T:=fun i hi=>((j2.sh i hi).later (now:=t+1) (by omega)).tick (i:=i) hi
 have tf:∀ f,f<3->f≠x->tk (t+1) N2 f=(N f).at (t+1)/\(tickS (N2 f) (t+1)).2=[]:=fun f hf hn=>by
  obtain ⟨h1,h2,h3,h4⟩:=s.fol f hf hn
  have k:=T f hf
  have hw:=(j.sh f hf).wait
  have e2:tk (t+1) N2 f=(tickS (N2 f) (t+1)).1:=rfl
  rw [Nf f hn] at e2 k ⊢
  rw [e2]
  have e1:((N f).at (t+1)).since=(N f).since:=rfl
  have e3:((N f).at (t+1)).wait=(N f).wait:=rfl
  have hr:((N f).at (t+1)).role=1:=h2
  generalize (N f).at (t+1)=s at*
  generalize (tickS (N f) (t+1)).1=s' at*
  generalize (tickS (N f) (t+1)).2=out at*
  cases k with
  | beat h3=>omega
  | rest h3=>omega
  | start _ hd=>omega
  | wait _ hd=>exact ⟨rfl,rfl⟩
 have tx:((tk (t+1) N2 x).hb=t+1\/(tk (t+1) N2 x).hb=t)/\(tk (t+1) N2 x).role=3/\(tk (t+1) N2 x).term=(N x).term/\(tk (t+1) N2 x).log=(N x).log++[⟨(N x).term,2,body⟩]/\(tk (t+1) N2 x).mtch=(N x).mtch/\(tk (t+1) N2 x).next=(N x).next/\(tk (t+1) N2 x).commit=c/\(tk (t+1) N2 x).id=x/\((tickS (N2 x) (t+1)).2=[]\/∃ p',p'.role=3/\p'.id=x/\p'.term=(N x).term/\p'.log=(N x).log++[⟨(N x).term,2,body⟩]/\p'.mtch=(N x).mtch/\p'.next=(N x).next/\(tickS (N2 x) (t+1)).2=(oth x).map (sendAppendS p')):=by
  have k:=T x hx
  have e2:tk (t+1) N2 x=(tickS (N2 x) (t+1)).1:=rfl
  rw [e2]
  rw [Nx] at k ⊢
  have a1:(p.at (t+1)).role=3:=p1
  have a2:(p.at (t+1)).term=(N x).term:=p2
  have a3:(p.at (t+1)).log=(N x).log++[⟨(N x).term,2,body⟩]:=p3
  have a4:(p.at (t+1)).hb=(N x).hb:=p4
  have a5:(p.at (t+1)).mtch=(N x).mtch:=p5
  have a6:(p.at (t+1)).next=(N x).next:=p6
  have a7:(p.at (t+1)).commit=c:=p7
  have a8:(p.at (t+1)).id=x:=p8
  generalize p.at (t+1)=P at*
  generalize (tickS p (t+1)).1=s' at*
  generalize (tickS p (t+1)).2=out at*
  cases k with
  | beat h3 hd=>exact ⟨.inl rfl,a1,a2,a3,a5,a6,a7,a8,.inr ⟨{ P with hb:=t+1 },a1,a8,a2,a3,a5,a6,rfl⟩⟩
  | rest h3 hd=>exact ⟨.inr (by omega),a1,a2,a3,a5,a6,a7,a8,.inl rfl⟩
  | start h3=>exact absurd a1 h3
  | wait h3=>exact absurd a1 h3
 obtain ⟨xh,x1,x2,x3,x4,x5,x6,x7,x8⟩:=tx
 have e0:∀ F:Msg->Nat,((tkq (t+1) N2).map F).sum=((tickS (N2 x) (t+1)).2.map F).sum:=fun F=>by
  rw [tkq_sum]
  have z:∀ f,f<3->f≠x->((tickS (N2 f) (t+1)).2.map F).sum=0:=fun f hf hn=>by rw [(tf f hf hn).2];rfl
  have:x=0\/x=1\/x=2:=by omega
  rcases this with rfl | rfl | rfl
  ·rw [z 1 (by omega) (by omega),z 2 (by omega) (by omega)];omega
  ·rw [z 0 (by omega) (by omega),z 2 (by omega) (by omega)];omega
  ·rw [z 0 (by omega) (by omega),z 1 (by omega) (by omega)];omega
 have mem:∀ m∈(oth x).map (sendAppendS p)++tkq (t+1) N2,m.kind=3/\m.src=x/\m.term=(N x).term:=fun m hm=>by
  rcases List.mem_append.1 hm with hm | hm
  ·obtain ⟨f,hf,rfl⟩:=List.mem_map.1 hm
   exact ⟨rfl,p8,p2⟩
  ·obtain ⟨i,hi,hm⟩:=mem_tkq.1 hm
   by_cases ei:i=x
   ·rw [ei] at hm
    rcases x8 with a | ⟨p',b1,b2,b3,b4,b5,b6,b7⟩
    ·rw [a] at hm;cases hm
    ·rw [b7] at hm
     obtain ⟨f,hf,rfl⟩:=List.mem_map.1 hm
     exact ⟨rfl,b2,b3⟩
   ·rw [(tf i hi ei).2] at hm
    cases hm
 have has:∀ f,f<3->f≠x->∃ m∈(oth x).map (sendAppendS p)++tkq (t+1) N2,App x f (N x).term m:=fun f hf hn=>⟨_,List.mem_append_left _ (List.mem_map.2 ⟨f,mem_oth.2 ⟨hf,hn⟩,rfl⟩),rfl,p8,rfl,p2⟩
 have fin:Fin x (N x).term (tk (t+1) N2 x).hb (N x).hb ((N x).log++[⟨(N x).term,2,body⟩]) (tk (t+1) N2) ((oth x).map (sendAppendS p)++tkq (t+1) N2):=by
  refine ⟨x1,x2,x3,rfl,fun f hf hn=>?_,fun m hm=>?_,fun f hf hn=>.inl (has f hf hn)⟩
  ·obtain ⟨h1,h2,h3,h4⟩:=s.fol f hf hn
   rw [(tf f hf hn).1]
   exact ⟨h1,h2,h3,h4⟩
  ·obtain ⟨a1,a2,a3⟩:=mem m hm
   exact ⟨.inl ⟨a1,a2⟩,a3⟩
 have big:∀ i,i<3->Big 20 (tk (t+1) N2 i):=fun i hi=>by
  by_cases ei:i=x
  ·rw [ei]
   exact ⟨fun _=>by rw [x3,hL];omega,fun a=>by omega⟩
  ·have a:=(s.fol i hi ei).2.1
   rw [(tf i hi ei).1]
   have a:((N i).at (t+1)).role=1:=a
   exact ⟨fun b=>by omega,fun b=>by omega⟩
 have cost:phi 20 (tk (t+1) N2) ((oth x).map (sendAppendS p)++tkq (t+1) N2)<=5001:=by
  have ms:=j2.later (now:=t+1) (by omega) |>.ticks |>.ms
  have key:∀ l:List Msg,(∀ m∈l,MSh m)->(l.map (wt 20 (tk (t+1) N2))).sum<=42*l.length:=by
   intro l
   induction l with
   | nil=>intro _;exact Nat.le_refl _
   | cons a l ih=>
    intro hl
    have:=ih fun m hm=>hl m (.tail _ hm)
    have:=wt_le big (hl a (.head _))
    simp only [List.map_cons,List.sum_cons,List.length_cons]
    omega
  have a:=key _ ms
  have l1:((oth x).map (sendAppendS p)++tkq (t+1) N2).length<=8:=by
   rw [List.length_append,List.length_map,oth_len hx]
   have:=tkq_olen j2
   omega
  have r1:∀ i,i<3->rsv 20 (tk (t+1) N2 i)<=44:=fun i hi=>by
   by_cases ei:i=x
   ·subst ei
    rw [rsv3 x1 x7]
    have b1:=oth_le hi (F:=lag (tk (t+1) N2 i)) (b:=0) fun f hf hn=>by
     unfold lag
     rw [x4,(s.all f hf hn).1,if_neg (by omega)]
     exact Nat.le_refl _
    have b2:unc (tk (t+1) N2 i)<=1:=by
     unfold unc
     have b3:=List.countP_le_length (p:=fun e=>decide (e.term=(tk (t+1) N2 i).term)) (l:=(tk (t+1) N2 i).log.drop (tk (t+1) N2 i).commit)
     rw [List.length_drop,x3,hL,x6] at b3
     rw [x3,x6]
     omega
    split <;> omega
   ·have a:=(s.fol i hi ei).2.1
    rw [(tf i hi ei).1]
    have a:((N i).at (t+1)).role=1:=a
    unfold rsv
    rw [if_neg (by omega),if_neg (by omega)]
    omega
  have:=r1 0 (by omega)
  have:=r1 1 (by omega)
  have:=r1 2 (by omega)
  unfold phi
  omega
 have gr:Gr 301 (tk (t+1) N2) ((oth x).map (sendAppendS p)++tkq (t+1) N2):=by
  have c0:cnd (tk (t+1) N2)=0:=by
   have c1:∀ i,i<3->cnd1 (tk (t+1) N2 i)=0:=fun i hi=>by
    by_cases e:i=x
    ·rw [e];exact if_neg (by omega)
    ·have a:=(s.fol i hi e).2.1
     rw [(tf i hi e).1]
     have a:((N i).at (t+1)).role=1:=a
     exact if_neg (by omega)
   unfold cnd
   rw [c1 0 (by omega),c1 1 (by omega),c1 2 (by omega)]
  refine ⟨fun i hi=>?_,fun m hm hk=>?_⟩
  ·rw [c0]
   by_cases e:i=x
   ·rw [e,x3,hL];omega
   ·rw [(tf i hi e).1]
    have:=hw i hi
    show (N i).log.length+0<=301
    omega
  ·rw [c0]
   have key:∀ p':PN,p'.log=(N x).log++[⟨(N x).term,2,body⟩]->p'.next=(N x).next->∀ f,(sendAppendS p' f).prev+(sendAppendS p' f).ents.length<=301:=fun p' a1 a2 f=>by
    have:=app_len (s:=p') (x:=f) (by
     rw [a1,a2,hL]
     have:=lx.nx s.r f
     omega)
    rw [a1,hL] at this
    omega
   rcases List.mem_append.1 hm with hm | hm
   ·obtain ⟨f,hf,rfl⟩:=List.mem_map.1 hm
    have:=key p p3 p6 f
    omega
   ·obtain ⟨i,hi,hm⟩:=mem_tkq.1 hm
    by_cases ei:i=x
    ·rw [ei] at hm
     rcases x8 with a | ⟨p',b1,b2,b3,b4,b5,b6,b7⟩
     ·rw [a] at hm;cases hm
     ·rw [b7] at hm
      obtain ⟨f,hf,rfl⟩:=List.mem_map.1 hm
      have:=key p' b4 b6 f
      omega
    ·rw [(tf i hi ei).2] at hm
     cases hm
 obtain ⟨N',h1,h2,h3,h4,h5⟩:=j2.roundP big cost (P:=fun N3 q=>Fin x (N x).term (tk (t+1) N2 x).hb (N x).hb ((N x).log++[⟨(N x).term,2,body⟩]) N3 q/\Sn (t+1) x (N x).term N3 q/\Gr 301 N3 q) (fun N m q j ⟨a1,a2,a3⟩=>⟨a1.step hx (by omega) j,a2.step j a1,a3.step j⟩) ⟨fin,fun f hf hn=>.inl (has f hf hn),gr⟩ (gr.mono (by omega))
 have none:∀ {P:Msg->Prop},¬∃ m∈([]:List Msg),P m:=fun {P} ⟨m,h,_⟩=>by cases h
 refine ⟨N',h1,h2,⟨hx,h3.r,by rw [h3.hb];omega,fun f hf hn=>?_,fun f hf hn=>?_⟩,fun i hi=>by have:=h5.n i hi;omega,h3.lg⟩
 ·obtain ⟨a1,a2,a3,a4⟩:=h3.fol f hf hn
  have:=(h4 f hf hn).resolve_left none
  exact ⟨by rw [h3.tm];exact a1,a2,a3,by rw [h3.hb];omega⟩
 ·rw [h3.lg]
  exact ((h3.pr f hf hn).resolve_left none).resolve_left none
theorem Stb.five (j:J t N []) (s:Stb t N x) (hw:∀ i,i<3->(N i).log.length<=301):∃ N',Rnds 5 t N N'/\J (t+5) N' []/\Stb (t+5) N' x/\(N' x).log=(N x).log/\Kn N' x:=by
 obtain ⟨N1,a1,a2,a3,aw,a4,a5,a6,a7⟩:=s.round j hw (by omega)
 obtain ⟨N2,b1,b2,b3,bw,b4,b5,b6,b7⟩:=a3.round a2 aw (by omega)
 obtain ⟨N3,c1,c2,c3,cw,c4,c5,c6,c7⟩:=b3.round b2 bw (by omega)
 obtain ⟨N4,d1,d2,d3,dw,d4,d5,d6,d7⟩:=c3.round c2 cw (by omega)
 obtain ⟨N5,e1,e2,e3,ew,e4,e5,e6,e7⟩:=d3.round d2 dw (by omega)
 refine ⟨N5,⟨N1,a1,N2,b1,N3,c1,N4,d1,N5,e1,rfl⟩,e2,e3,by rw [e4,d4,c4,b4,a4],e6 (d6 (c6 ?_))⟩
 rcases b7 with b7 | b7
 ·exact b5 b7
 ·exact b6 (a5 b7)
theorem Kn.logs (j:J t N []) (s:Stb t N x) (k:Kn N x):∀ i,i<3->(N i).leader=some x/\(N x).log.length<=(N i).commit/\∀ n,n<(N x).log.length->(N i).log[n]?=(N x).log[n]?:=fun i hi=>by
 by_cases e:i=x
 ·subst e
  have sx:=j.sh i hi
  have hf:(if i=0 then 1 else 0)<3/\(if i=0 then 1 else 0)≠i:=by split <;> omega
  exact ⟨sx.l3 s.r,Nat.le_of_eq (sx.cm s.r _ hf.1 hf.2 (s.all _ hf.1 hf.2).1).symm,fun _ _=>rfl⟩
 ·obtain ⟨h1,h2,h3,h4⟩:=s.fol i hi e
  have hk:=k i hi e
  refine ⟨h3,hk,fun n hn=>?_⟩
  obtain ⟨g,sys⟩:=j.sys
  have lx:=(sys.live x s.lt).1
  have li:=(sys.live i hi).1
  obtain ⟨q1,q2,-⟩:=lx.n.lead s.r
  have ne:g.el (N x).term≠none:=by rw [q1];exact fun h=>by cases h
  rcases li.n.com with c | ⟨T0,n0,k1,k2,k3,k4⟩
  ·omega
  ·rw [h1] at k2
   have hb:Has (g.ll T0) (N i).commit (g.ll (N x).term):=by
    rcases Nat.lt_or_ge T0 (N x).term with hl | hl
    ·exact ((complete lx.ok _ T0 n0 k1 hl ne).pre (lx.ok.pre _ ne).1).less k3
    ·obtain rfl:T0=(N x).term:=by omega
     have:=(lx.ok.evs _ _ k1).2.2.1
     exact Has.self (by omega)
   rw [k4.at (by omega),<- hb.at (by omega),q2]
theorem leads_plain (h:Tn k now e N q) (hk:k<=100) (hq:q.length<=200) (body:List UInt8):∃ N1 N2 x,Rnd now N q N1/\Rnds 59 (now+1) N1 N2/\x<3/\(N2 0).leader=some x/\(N2 x).role=3/\(∀ i,i<3->(N2 i).log.length<=300)/\
  ∃ N3 N4,Rnd (now+60) (upd N2 x (proposeS (N2 x) body).1) (proposeS (N2 x) body).2 N3/\Rnds 5 (now+61) N3 N4/\∀ i,i<3->(N4 i).leader=some x/\(N2 x).log.length+1<=(N4 i).commit/\(N4 i).log[(N2 x).log.length]?=some ⟨(N2 x).term,2,body⟩:=by
 have he:e<=92:=by
  have:=h.hk
  by_cases h8:now<8
  ·have:=(h.h8 h8).2.1
   omega
  ·omega
 obtain ⟨N1,N2,x,r1,r2,j2,s2,l2⟩:=h.j.sixty hq he h.hl h.hm h.ho
 obtain ⟨N3,r3,j3,s3,w3,l3⟩:=s2.last j2 l2 body
 obtain ⟨N4,r4,j4,s4,l4,k4⟩:=s3.five j3 w3
 have ld:(N2 0).leader=some x:=by
  by_cases e0:0=x
  ·subst e0;exact (j2.sh 0 (by omega)).l3 s2.r
  ·exact (s2.fol 0 (by omega) e0).2.2.1
 have hl:(N4 x).log=(N2 x).log++[⟨(N2 x).term,2,body⟩]:=by rw [l4,l3]
 have e61:now+60+1=now+61:=by omega
 rw [e61] at r4
 refine ⟨N1,N2,x,r1,r2,s2.lt,ld,s2.r,l2,N3,N4,r3,r4,fun i hi=>?_⟩
 obtain ⟨a1,a2,a3⟩:=k4.logs j4 s4 i hi
 have hn:(N4 x).log.length=(N2 x).log.length+1:=by rw [hl];simp
 refine ⟨a1,by omega,?_⟩
 rw [a3 _ (by omega),hl]
 simp
end
end Go.Proofs.YtcaokpglbolkcaaGreat
