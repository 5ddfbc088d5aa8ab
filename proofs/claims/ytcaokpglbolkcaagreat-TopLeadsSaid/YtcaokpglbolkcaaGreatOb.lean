import Derived.Test.YtcaokpglbolkcaaGreatOa
namespace Go.Proofs.YtcaokpglbolkcaaGreat
open Go Go.Nf Go.RowKit
section
variable {w:World} {N D:Nat->Prop} {p t ma dur k:Nat} {s:PN} {mm:Memb} {ops:List Op} {uns:Bool} {outs:List Msg} {q:Ptrs}
theorem Did.after {w0 w1 w':World} {N D N1 D1:Nat->Prop} {s':PN} {ms:List Msg} {o:Option Addr} {c:Nat} (h:Did w1 N1 D1 p t s' ms k o c w') (mv:Moves w0 w1 N D N1 D1):Did w0 N D p t s' ms k o c w':=by
 obtain ⟨N',D',A,n,mv',ms',hc,hA⟩:=h
 refine ⟨N',D',A,n,mv.trans mv',ms',hc,fun b hb=>⟨(hA b hb).1,(hA b hb).2.1,?_⟩⟩
 have z:=mv.o.size
 rcases (hA b hb).2.2 with k | k | k
 ·exact (mv.d b k).imp id .inr
 ·exact (mv.n b k).elim (fun k=>.inr (.inl k)) fun k=>.inr (.inr k)
 ·exact .inr (.inr (by omega))
theorem Did.quiet {w':World} (h:NodeAt w N D p t s false [] k) (g:Grow w w'):Did w N D p t s [] k none 0 w':=
 ⟨N,D,fun _=>False,h.grow g,Moves.grow g,⟨[],rfl,fun i row hi=>(by simp at hi),fun x hx=>(by cases hx)⟩,Nat.le_refl _,fun b hb=>hb.elim⟩
theorem Did.up {w':World} {s':PN} {ms:List Msg} {o:Option Addr} {c k':Nat} (h:Did w N D p t s' ms k o c w') (hk:k<=k'):Did w N D p t s' ms k' o c w':=by
 obtain ⟨N',D',A,n,r⟩:=h
 exact ⟨N',D',A,n.up hk,r⟩
theorem submit_c {A:Nat->Prop} {o:Option Addr} {c kind:Nat} {body:List UInt8} (h:NodeAt w N D p t s uns [] k) (wf:Wf0 s k) (hk:k<=90000) (hr:s.role=3) (hb:Byts w A o body) (hA:∀ b,A b->¬N b/\b<hs w) (hok:OkEnt ⟨s.term,kind,body⟩):
  Calls Tryz.prog 34 #[.pointer (some ⟨p,0,none⟩),.int .i64 (kind:Int),.slice o body.length c] w fun e w'=>∃ n err o' c',e=.returned (.tuple #[.int .i64 n,.slice o' (submitS s kind body).2.length c',.int .i64 err])/\(n=((s.log.length+1:Nat):Int)/\err=0)/\Did w N D p t (submitS s kind body).1 (submitS s kind body).2 (k+50) o' c' w':=by
 have hl:=wf.ll
 refine nf34 p kind o body.length c w _ ((lastIndex_c h (by omega)).mono ?_)
 rintro _ w2 ⟨rfl,g2⟩
 have n2:=h.grow g2
 obtain ⟨q,ops,dur,x2,h2,hrest⟩:=n2.ex
 have z2:=g2.size
 refine ⟨_,rfl,(ok_c x2).mono ?_⟩
 rintro _ w5 ⟨rfl,e5⟩
 have e5:=e5.symm
 subst e5
 refine ⟨_,rfl,bT ((add_c n2 (wf.up n2) (by omega) (hb.grow g2) (fun b hb=>⟨(hA b hb).1,by have:=(hA b hb).2;omega⟩) hok).mono ?_)⟩
 rintro _ w9 ⟨rfl,N1,D1,uns1,n9,mv9⟩
 have wf9:Wf0 (addS s ⟨s.term,kind,body⟩) (k+16):=(wf.add (Nat.le_refl _)).more (by omega)
 refine ⟨_,rfl,bT ((adv_c n9 (wf9.up n9) (by omega) hok.t1).mono ?_)⟩
 rintro _ w13 ⟨rfl,N2,D2,uns2,n13,mv13⟩
 have wf13:Wf0 (advS (addS s ⟨s.term,kind,body⟩)) (k+32):=(wf9.adv (by omega)).more (by omega)
 have n13:=n13.up (k':=k+32) (by have:=opA_le (addS s ⟨s.term,kind,body⟩);omega)
 refine ⟨_,rfl,bT ((sendAppends_c n13 (wf13.up n13) (by omega) (fun u hu=>by rw [advS_next];exact wf.nx1 hr u hu) (by simp)).mono ?_)⟩
 rintro _ w17 ⟨rfl,N3,D3,n17,mv17⟩
 refine ⟨rfl,(sentD_c n17 ((((Moves.grow g2).trans mv9).trans mv13).trans mv17)).mono ?_⟩
 rintro _ w19 ⟨o',c',rfl,hd⟩
 have hd:=hd
 obtain ⟨N4,D4,A4,n19,-⟩:=id hd
 obtain ⟨q4,ops4,dur4,x4,-⟩:=n19.ex
 exact ⟨o',_,c',rfl,_,x4.cellT (k:=0) rfl,nno rfl ⟨_,_,o',c',rfl,⟨by rw [wr (by omega)];omega,rfl⟩,hd.up (by omega)⟩⟩
theorem propose_c {A:Nat->Prop} {o:Option Addr} {c:Nat} {body:List UInt8} (h:NodeAt w N D p t s false [] k) (wf:Wf0 s k) (hk:k<=90000) (ht:s.role=3->1<=s.term) (hb:Byts w A o body) (hA:∀ b,A b->¬N b/\b<hs w) (hb64:body.length<=64):
  Calls Tryz.prog 11 #[.pointer (some ⟨p,0,none⟩),.slice o body.length c] w fun e w'=>∃ n err o' c',e=.returned (.tuple #[.int .i64 n,.slice o' (proposeS s body).2.length c',.int .i64 err])/\(s.role=3->n=((s.log.length+1:Nat):Int)/\err=0)/\Did w N D p t (proposeS s body).1 (proposeS s body).2 (k+50) o' c' w':=by
 obtain ⟨q,ops,dur,h1,h2,hrest⟩:=h.ex
 refine nf11 p o body.length c w _ ⟨_,h1.cell (k:=11) (by omega) rfl,fun hr=>?_,fun hr=>?_⟩
 ·have hr:¬s.role=3:=by
   intro k
   rw [k] at hr
   cases hr
  have e1:proposeS s body=(s,[]):=by unfold proposeS;rw [if_neg hr]
  rw [e1]
  exact ⟨_,_,none,0,rfl,fun k=>absurd k hr,(Did.quiet h (Only.refl _ _)).up (by omega)⟩
 ·have hr:s.role=3:=by
   have:=hr
   simp at this
   omega
  have e1:proposeS s body=submitS s 2 body:=by unfold proposeS;rw [if_pos hr]
  rw [e1]
  refine no (by omega) ((submit_c (kind:=2) h wf hk hr hb hA ⟨ht hr,wf.t,⟨by show (1:Nat)<=2;decide,by show (2:Nat)<=3;decide⟩,hb64,fun e=>(by cases e)⟩).mono ?_)
  rintro _ w7 ⟨n,err,o',c',rfl,hq,hd⟩
  exact ⟨_,_,_,_,_,rfl,n,err,o',c',rfl,fun _=>hq,hd⟩
end
end Go.Proofs.YtcaokpglbolkcaaGreat
