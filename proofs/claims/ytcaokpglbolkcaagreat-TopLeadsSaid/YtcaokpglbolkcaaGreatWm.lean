import Derived.Test.YtcaokpglbolkcaaGreatWl
namespace Go.Proofs.YtcaokpglbolkcaaGreat
open Go Go.Nf Go.RowKit
theorem elem43:Elem Tryz.prog 43 49 3 40:=elem_of (by kernel_rfl)
structure LogAt (w:World) (L D:Nat->Prop) (lg:Nat) (es:List Ent):Prop where
 ex:∃ o c,∃ ps:List EP,(∀ b,L b↔b=lg\/inBlock o b)/\Row w lg 133 [.slice o es.length c]/\Own w 0 49 3 o es.length c (ps.flatMap entV)/\ps.map (·.1)=es/\∀ p∈ps,Byts w D p.2.1 p.1.body
 ap:∀ b,D b->¬L b/\b<hs w
section
variable {w:World} {L D:Nat->Prop} {lg:Nat} {es:List Ent}
theorem LogAt.keep {S:Nat->Prop} {w':World} (h:LogAt w L D lg es) (g:Only S w w') (hL:∀ b,L b->¬S b) (hD:∀ b,D b->¬S b):LogAt w' L D lg es:=by
 obtain ⟨o,c,ps,h1,h2,h3,h4,h5⟩:=h.ex
 exact ⟨⟨o,c,ps,h1,h2.keep g (hL lg ((h1 lg).2 (.inl rfl))),h3.keep g fun b hb=>hL b ((h1 b).2 (.inr hb)),h4,fun p hp=>(h5 p hp).keep g hD⟩,fun b hb=>⟨(h.ap b hb).1,Nat.lt_of_lt_of_le (h.ap b hb).2 g.size⟩⟩
theorem LogAt.grow {w':World} (h:LogAt w L D lg es) (g:Grow w w'):LogAt w' L D lg es:=h.keep g (fun _ _ h=>h) fun _ _ h=>h
theorem LogAt.more {D':Nat->Prop} (h:LogAt w L D lg es) (hD:∀ b,D b->D' b) (ha:∀ b,D' b->¬L b/\b<hs w):LogAt w L D' lg es:=by
 obtain ⟨o,c,ps,h1,h2,h3,h4,h5⟩:=h.ex
 exact ⟨⟨o,c,ps,h1,h2,h3,h4,fun p hp=>(h5 p hp).mono hD⟩,ha⟩
theorem LogAt.lt (h:LogAt w L D lg es):∀ b,L b->b<hs w:=fun b hb=>by
 obtain ⟨o,c,ps,h1,h2,h3,h4,h5⟩:=h.ex
 rcases (h1 b).1 hb with rfl | hb
 ·exact h2.lt
 ·exact (h3.base b hb).2
theorem LogAt.ty (h:LogAt w L D lg es):∀ b,L b->∃ T l,Row w b T l/\(T=133\/T=49):=fun b hb=>by
 obtain ⟨o,c,ps,h1,h2,h3,h4,h5⟩:=h.ex
 rcases (h1 b).1 hb with rfl | hb
 ·exact ⟨_,_,h2,.inl rfl⟩
 ·obtain ⟨l,hl⟩:=h3.row hb
  exact ⟨_,_,hl,.inr rfl⟩
theorem LogAt.read (h:LogAt w L D lg es):∃ o c,Row w lg 133 [.slice o es.length c]/\Ents w (fun b=>L b\/D b) o es/\es.length<=c:=by
 obtain ⟨o,c,ps,h1,h2,h3,h4,h5⟩:=h.ex
 exact ⟨o,c,h2,⟨ps,h4,(own_recs' entV_len (by decide) h3).mono fun b hb=>.inl ((h1 b).2 (.inr hb)),fun p hp=>(h5 p hp).mono fun b hb=>.inr hb⟩,h3.le⟩
theorem LogAt.low (h:LogAt w L D lg es):∀ b,L b\/D b->b<hs w:=fun b hb=>hb.elim (h.lt b) fun k=>(h.ap b k).2
def epushP (l q:Nat) (w19:World) (K:World->Prop):Prop:=
(∃ o21:Option Addr,(∃ n22:Nat,(∃ n23:Nat,(((w19.cell? (⟨l,0,none⟩:Addr))=(some (Value.slice o21 n22 n23)))/\
(∃ x24:Int,(((w19.cell? (⟨q,0,none⟩:Addr))=(some (Value.int IntKind.i64 x24)))/\
(∃ x25:Int,(((w19.cell? (⟨q,1,none⟩:Addr))=(some (Value.int IntKind.i64 x25)))/\
(∃ o26:Option Addr,(∃ n27:Nat,(∃ n28:Nat,(((w19.cell? (⟨q,2,none⟩:Addr))=(some (Value.slice o26 n27 n28)))/\
(Calls Tryz.prog 82 #[(Value.agg #[(Value.int IntKind.i64 x24),(Value.int IntKind.i64 x25),(Value.slice o26 n27 n28)])] w19 (fun (e29:Ending)=>(fun (w30:World)=>(∃ x31:Int,(∃ x32:Int,(∃ o33:Option Addr,(∃ n34:Nat,(∃ n35:Nat,((e29=(Ending.returned (Value.agg #[(Value.int IntKind.i64 x31),(Value.int IntKind.i64 x32),(Value.slice o33 n34 n35)])))/\
((Nf.Kept w19 w30 (⟨l,0,none⟩:Addr) 1)/\
(∀ w36:World,((w36=(w30.alloc (Obj.cells #[(Value.int IntKind.i64 x31),(Value.int IntKind.i64 x32),(Value.slice o33 n34 n35)] 49 (0,0))))->
((Nf.Kept w19 w36 (⟨l,0,none⟩:Addr) 1)/\
(RunOk Tryz.prog (Nf.Hold (Builtin.append_ #[43,43] 43 #[(Value.slice o21 n22 n23),(Value.slice (some (⟨(hs w30),0,none⟩:Addr)) 1 1)])) w36 (fun (v38:Value)=>(fun (w39:World)=>(∃ o40:Option Addr,(∃ n41:Nat,(∃ n42:Nat,((v38=(Value.slice o40 n41 n42))/\
((Nf.There w39 (⟨l,0,none⟩:Addr) 1)/\
(∀ w43:World,((w43=(Nf.setCells w39 (⟨l,0,none⟩:Addr) [(Value.slice o40 n41 n42)] 0))->
(K w43))))))))))))))))))))))))))))))))))))
theorem epush {A:Nat->Prop} {q:Nat} {o:Option Addr} {c:Nat} {K:World->Prop} (e:Ent) (h:LogAt w L D lg es) (hl:es.length<=1000000) (hr:Row w q 49 [.int .i64 (e.term:Int),.int .i64 (e.kind:Int),.slice o e.body.length c]) (hb:Byts w A o e.body) (hbl:e.body.length<=1000000) (hA:∀ b,A b->b<hs w)
  (k:∀ w' L',LogAt w' L' (fun b=>D b\/(hs w<=b/\b<hs w'/\¬L' b)) lg (es++[e])->Only L w w'->(∀ b,L' b->L b\/hs w<=b)->K w'):epushP lg q w K:=by
 obtain ⟨o1,c1,ps,h1,h2,h3,h4,h5⟩:=h.ex
 have hlg:=h2.lt
 have hpl:ps.length=es.length:=by rw [<- h4,List.length_map]
 refine ⟨_,_,_,h2.cell rfl,_,hr.cell rfl,_,hr.cell rfl,_,_,_,hr.cell rfl,(eclone_c e o c (by omega) w hb hA).mono ?_⟩
 rintro _ w30 ⟨o33,c35,rfl,hb30,g30⟩
 have z30:=g30.size
 refine ⟨_,_,_,_,_,rfl,kept_only g30 hlg (fun h=>h),fun w36 e36=>?_⟩
 have r36:=Row.new (l:=entV (e,(o33,c35))) e36
 have g36:Grow w30 w36:=only_alloc e36
 have z36:=hs_alloc e36
 have G36:=g30.trans' g36
 refine ⟨kept_only G36 hlg (fun h=>h),?_⟩
 refine run_append_at (B:=0) elem43 (h3.grow G36) (news:=entV (e,(o33,c35))) rfl (fun i u hu=>r36.cellAdd hu) (by simp [entV,Value.oneCell']) (by simp only [maxLen];omega) (by omega) (Nat.zero_le _) fun o40 c42 w39 p1 p2 p3=>?_
 have z39:=p2.size
 have q39:=(h2.grow G36).keep p2 ((h3.grow G36).apartR (h2.grow G36) (by decide))
 refine ⟨_,_,_,rfl,q39.there (by simp),fun w43 e43=>?_⟩
 have o43:Only (fun b=>b=lg) w39 w43:=only_set e43
 have z43:=o43.size
 have r43:Row w43 lg 133 [.slice o40 (es.length+1) c42]:=q39.set e43
 have p43:Own w43 0 49 3 o40 (es.length+1) c42 (ps.flatMap entV++entV (e,(o33,c35))):=p1.keep o43 fun b hb e=>p1.apartR q39 (by decide) (e ▸ hb)
 have inL:∀ b,inBlock o1 b->L b:=fun b hb=>(h1 b).2 (.inr hb)
 have lgL:L lg:=(h1 lg).2 (.inl rfl)
 have T:Only L w30 w43:=((Grow.only g36).trans' (p2.mono fun b _ hb=>inL b hb)).trans' (o43.mono fun b _ hb=>by rw [hb];exact lgL)
 have TT:Only L w w43:=(Grow.only g30).trans' T
 have newL:∀ b,(b=lg\/inBlock o40 b)->L b\/hs w30<=b:=fun b hb=>by
  rcases hb with hb | hb
  ·rw [hb];exact .inl lgL
  ·rcases p3 b hb with k | k
   ·exact .inl (inL b k)
   ·right;omega
 have Llt:=h.lt
 refine k w43 (fun b=>b=lg\/inBlock o40 b) ⟨⟨o40,c42,ps++[(e,(o33,c35))],fun b=>Iff.rfl,?_,?_,?_,?_⟩,?_⟩ TT fun b hb=>(newL b hb).imp id fun h=>by omega
 ·rw [List.length_append];exact r43
 ·rw [List.flatMap_append,List.length_append];simpa using p43
 ·rw [List.map_append,h4];rfl
 ·intro p hp
  rcases List.mem_append.1 hp with hp | hp
  ·exact ((h5 p hp).keep TT fun b hb=>(h.ap b hb).1).mono fun b hb=>.inl hb
  ·rw [List.mem_singleton.1 hp]
   refine (hb30.keep T fun b hb hL=>?_).mono fun b hb=>.inr ⟨hb.1,by omega,fun hb'=>?_⟩
   ·have:=Llt b hL;omega
   ·rcases newL b hb' with k | k
    ·have:=Llt b k;omega
    ·omega
 ·intro b hb
  rcases hb with hb | ⟨hb1,hb2,hb3⟩
  ·have hd:=h.ap b hb
   refine ⟨fun hb'=>?_,by have:=TT.size;omega⟩
   rcases newL b hb' with k | k
   ·exact hd.1 k
   ·omega
  ·exact ⟨hb3,hb2⟩
theorem logNew_c (w:World):Calls Tryz.prog 61 #[] w fun e w'=>e=.returned (.pointer (some ⟨hs w,0,none⟩))/\LogAt w' (fun b=>b=hs w) (fun _=>False) (hs w) []/\Grow w w'/\hs w<hs w':=by
 refine nf61 w _ fun w1 e1=>⟨rfl,⟨⟨none,0,[],fun b=>⟨.inl,fun h=>h.elim id fun ⟨a,ha,_⟩=>by cases ha⟩,Row.new e1,own_nil _ _ _ _,rfl,fun p hp=>(by cases hp)⟩,fun b hb=>hb.elim⟩,only_alloc e1,?_⟩
 rw [hs_alloc e1];omega
theorem last_c (h:LogAt w L D lg es) (hl:es.length<=1000000):Calls Tryz.prog 49 #[.pointer (some ⟨lg,0,none⟩)] w fun e w'=>e=.returned (.tuple #[.int .i64 (es.length:Int),.int .i64 (lastT es:Int)])/\Grow w w':=by
 obtain ⟨o,c,r,hes,-⟩:=h.read
 refine nf49 lg w _ ⟨_,_,_,r.cell rfl,fun h0=>?_,fun h0=>?_⟩
 ·have h0:es.length=0:=by have:=dT h0;omega
  have:es=[]:=List.length_eq_zero_iff.1 h0
  subst this
  exact ⟨rfl,Only.refl _ _⟩
 ·have h0:0<es.length:=by have:=dF h0;omega
  intro w6 e6
  have g6:Grow w w6:=only_drew e6
  obtain ⟨e,he,het⟩:=last_at (List.length_pos_iff.1 h0)
  obtain ⟨a,ob,cb,rfl,-,hc,-⟩:=(hes.grow g6).at he
  have ei:IntKind.wrap .i64 ((es.length:Int) - 1)=((es.length - 1:Nat):Int):=by rw [wr (by omega)];omega
  rw [ei]
  exact ⟨_,_,_,(r.grow g6).cell rfl,a,rfl,⟨by omega,by omega⟩,_,hc,by rw [het],g6⟩
theorem lterm_c (h:LogAt w L D lg es) (hl:es.length<=1000000) (n:Nat) (hn:n<=1000000000000000):Calls Tryz.prog 99 #[.pointer (some ⟨lg,0,none⟩),.int .i64 (n:Int)] w fun e w'=>e=.returned (.tuple #[.int .i64 (((termAt es n).getD 0:Nat):Int),.bool (termAt es n).isSome])/\w'=w:=by
 obtain ⟨o,c,r,hes,-⟩:=h.read
 refine nf99 lg n w _ (no (by omega) ⟨_,_,_,r.cell rfl,fun h0=>?_,fun h0=>?_⟩)
 ·have h0:=dT h0
  have:termAt es n=none:=by unfold termAt;rw [if_neg (by omega),List.getElem?_eq_none (by omega)];rfl
  rw [this]
  exact ⟨rfl,rfl⟩
 ·have h0:=dF h0
  refine ⟨fun h1=>?_,fun h1=>?_⟩
  ·have h1:n=0:=by have:=dT h1;omega
   subst h1
   exact ⟨rfl,rfl⟩
  ·have h1:=dF h1
   have he:=List.getElem?_eq_getElem (show n - 1<es.length by omega)
   have ht:termAt es n=some (es[n - 1]'(by omega)).term:=by unfold termAt;rw [if_neg (by omega),he];rfl
   generalize es[n - 1]'(by omega)=e at*
   obtain ⟨a,ob,cb,rfl,-,hc,-⟩:=hes.at he
   have ei:IntKind.wrap .i64 ((n:Int) - 1)=((n - 1:Nat):Int):=by rw [wr (by omega)];omega
   rw [ei,ht]
   exact ⟨_,_,_,r.cell rfl,a,rfl,⟨by omega,by omega⟩,_,hc,rfl,rfl⟩
theorem upToDate_c (h:LogAt w L D lg es) (hl:es.length<=1000000) (n t:Nat) [Decidable (upToDate es n t)]:Calls Tryz.prog 75 #[.pointer (some ⟨lg,0,none⟩),.int .i64 (n:Int),.int .i64 (t:Int)] w fun e w'=>e=.returned (.bool (decide (upToDate es n t)))/\Grow w w':=by
 refine nf75 lg n t w _ ((last_c h hl).mono ?_)
 rintro _ w2 ⟨rfl,g2⟩
 refine ⟨_,_,rfl,fun h1=>?_,fun h1=>⟨fun h2=>⟨fun h3=>?_,fun h3=>?_⟩,fun h2=>?_⟩⟩
 ·have h1:=dT h1
  rw [decide_eq_true (show upToDate es n t from .inl (by omega))];exact ⟨rfl,g2⟩
 ·have h1:=dF h1;have h2:=dT h2;have h3:=dT h3
  rw [decide_eq_true (show upToDate es n t from .inr ⟨by omega,by omega⟩)];exact ⟨rfl,g2⟩
 ·have h1:=dF h1;have h2:=dT h2;have h3:=dF h3
  rw [decide_eq_false (show ¬upToDate es n t from fun k=>by rcases k with k | k <;> omega)];exact ⟨rfl,g2⟩
 ·have h1:=dF h1;have h2:=dF h2
  rw [decide_eq_false (show ¬upToDate es n t from fun k=>by rcases k with k | k <;> omega)];exact ⟨rfl,g2⟩
theorem get_some {n:Nat} {e:Ent} (h:LogAt w L D lg es) (hl:es.length<=1000000) (h1:1<=n) (he:es[n - 1]?=some e) (hb:e.body.length<=8192):Calls Tryz.prog 46 #[.pointer (some ⟨lg,0,none⟩),.int .i64 (n:Int)] w fun r w'=>∃ o c,r=.returned (.tuple #[entA e o c,.bool true])/\Byts w' (fun b=>hs w<=b/\b<hs w') o e.body/\Grow w w':=by
 obtain ⟨o,c,r,hes,-⟩:=h.read
 have hlt:=(List.getElem?_eq_some_iff.1 he).1
 refine nf46 lg n w _ fun w1 e1=>?_
 have r1:=Row.new (l:=[_,_,_]) e1
 have g1:Grow w w1:=only_alloc e1
 have z1:=hs_alloc e1
 have q1:=r.grow g1
 obtain ⟨a,ob,cb,rfl,-,hc0,hc1,hc2,hbo⟩:=(hes.grow g1).at he
 have ei:IntKind.wrap .i64 ((n:Int) - 1)=((n - 1:Nat):Int):=by rw [wr (by omega)];omega
 rw [ei]
 refine no (by omega) ⟨_,_,_,q1.cell rfl,no (by omega) ⟨_,_,_,q1.cell rfl,a,rfl,⟨by omega,by omega⟩,_,hc0,_,hc1,_,_,_,hc2,(eclone_c e ob cb (by omega) w1 hbo (fun b hb=>by have:=h.low b hb;omega)).mono ?_⟩⟩
 rintro _ w34 ⟨o37,c39,rfl,b34,g34⟩
 have z34:=g34.size
 refine ⟨_,_,_,_,_,rfl,(r1.grow g34).there (by simp),fun w40 e40=>?_⟩
 have r40:Row w40 (hs w) 49 [.int .i64 (e.term:Int),.int .i64 (e.kind:Int),.slice o37 e.body.length c39]:=(r1.grow g34).set e40
 have o40:Only (fun b=>b=hs w) w34 w40:=only_set e40
 have z40:=o40.size
 refine ⟨_,r40.cell rfl,_,r40.cell rfl,_,_,_,r40.cell rfl,_,_,rfl,(b34.keep o40 fun b hb e=>by omega).mono fun b hb=>⟨by omega,by omega⟩,(g1.trans' g34).trans o40 fun b hb e=>by omega⟩
theorem get_none {n:Nat} (h:LogAt w L D lg es) (hl:es.length<=1000000) (hn:n=0\/es.length<n):Calls Tryz.prog 46 #[.pointer (some ⟨lg,0,none⟩),.int .i64 (n:Int)] w fun r w'=>r=.returned (.tuple #[.agg #[.int .i64 0,.int .i64 0,.slice none 0 0],.bool false])/\Grow w w':=by
 obtain ⟨o,c,r,hes,-⟩:=h.read
 refine nf46 lg n w _ fun w1 e1=>?_
 have r1:=Row.new (l:=[_,_,_]) e1
 have g1:Grow w w1:=only_alloc e1
 have z1:=hs_alloc e1
 have q1:=r.grow g1
 have tail:∀ w4,w4=setCells w1 ⟨hs w,0,none⟩ [.int .i64 0,.int .i64 0,.slice none 0 0] 0->Row w4 (hs w) 49 [.int .i64 0,.int .i64 0,.slice none 0 0]/\Grow w w4:=fun w4 e4=>⟨r1.set e4,g1.trans (only_set e4) fun b hb e=>by omega⟩
 refine ⟨fun h0=>⟨r1.there (by simp),fun w4 e4=>?_⟩,fun h0=>⟨_,_,_,q1.cell rfl,yes (by have:=dF h0;omega) ⟨r1.there (by simp),fun w4 e4=>?_⟩⟩⟩
 all_goals
  obtain ⟨r4,g4⟩:=tail w4 e4
  exact ⟨_,r4.cell rfl,_,r4.cell rfl,_,_,_,r4.cell rfl,rfl,g4⟩
theorem lAppend_c {A:Nat->Prop} {o:Option Addr} {c:Nat} (e:Ent) (h:LogAt w L D lg es) (hl:es.length<=1000000) (he:OkEnt e) (ht:lastT es<=e.term) (hb:Byts w A o e.body) (hA:∀ b,A b->b<hs w):
  Calls Tryz.prog 62 #[.pointer (some ⟨lg,0,none⟩),entA e o c] w fun r w'=>∃ x,r=.returned (.tuple #[.int .i64 x,.int .i64 0])/\∃ L',LogAt w' L' (fun b=>D b\/(hs w<=b/\b<hs w'/\¬L' b)) lg (es++[e])/\Only L w w'/\∀ b,L' b->L b\/hs w<=b:=by
 refine nf62 lg e.term e.kind o e.body.length c w _ fun w1 e1=>?_
 have r1:=Row.new (l:=[.int .i64 (e.term:Int),.int .i64 (e.kind:Int),.slice o e.body.length c]) e1
 have g1:Grow w w1:=only_alloc e1
 have z1:=hs_alloc e1
 refine ⟨_,r1.cell rfl,_,r1.cell rfl,_,_,_,r1.cell rfl,(he.valid o c w1).mono ?_⟩
 rintro _ w9 ⟨rfl,g9⟩
 have h9:=(h.grow g1).grow g9
 refine ⟨_,rfl,bT ((last_c h9 hl).mono ?_)⟩
 rintro _ w13 ⟨rfl,g13⟩
 have r13:=(r1.grow g9).grow g13
 refine ⟨_,_,rfl,_,r13.cell rfl,no (by omega) fun w19 e19=>?_⟩
 have g19:Grow w13 w19:=only_drew e19
 have G19:=((g1.trans' g9).trans' g13).trans' g19
 have z19:=G19.size
 have hbb:=he.b
 refine (epush (A:=A) (c:=c) e (h.grow G19) hl (r13.grow g19) (hb.grow G19) (by omega) (fun b hb=>by have:=hA b hb;omega) fun w43 L' h43 o43 n43=>?_:epushP lg (hs w) w19 _)
 obtain ⟨o',c',ps,h1,h2,-⟩:=h43.ex
 refine ⟨_,_,_,h2.cell rfl,_,rfl,L',h43.more (fun b hb=>hb.imp id fun hb=>⟨by omega,hb.2⟩) (fun b hb=>?_),(Grow.only G19).trans' o43,fun b hb=>(n43 b hb).imp id fun k=>by omega⟩
 have z43:=o43.size
 rcases hb with hb | ⟨k1,k2,k3⟩
 ·exact h43.ap b (.inl hb)
 ·exact ⟨k3,k2⟩
end
end Go.Proofs.YtcaokpglbolkcaaGreat
