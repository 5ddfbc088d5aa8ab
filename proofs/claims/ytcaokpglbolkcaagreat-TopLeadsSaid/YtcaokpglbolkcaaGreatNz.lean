import Derived.Test.YtcaokpglbolkcaaGreatNy
namespace Go.Proofs.YtcaokpglbolkcaaGreat
open Go Go.Nf Go.RowKit
theorem und73:Tryz.prog.underlying 73=some (.array 9 4):=by kernel_rfl
theorem agg4:isAggT Tryz.prog 4=false:=by kernel_rfl
theorem und4:Tryz.prog.underlying 4=some .bool:=by kernel_rfl
theorem cells4:Tryz.prog.cellsOf 4=1:=by kernel_rfl
theorem run_idx {cs:Array Value} {i:Nat} {v:Value} {w:World} {K:Value->World->Prop} (hi:i<9) (hc:cs[i]?=some v) (h:K v w):RunOk Tryz.prog (Hold (Instr.index 73 (.agg cs) (.int .i64 (i:Int)))) w K:=by
 refine ⟨v,w,?_,h⟩
 unfold Hold
 have h1:(0:Int)<=(i:Int)/\(i:Int)<((9:Nat):Int):=⟨by omega,by omega⟩
 simp [Instr.index,asIntOf,run_underlying und73,hi,Go.Nf.run_sizeOf und4,cells4,part,run_isAgg und4,agg4,hc]
theorem vote_at {s:PN} (L:Lens s) (mm:Memb) (ma:Nat) (uns:Bool) (n:Nat) (q:Ptrs) {m:Nat} (hm:m<9) (b:Bool):
  setFrom (nodeV s mm ma uns n q) (17+m) [.bool b]=nodeV { s with votes:=s.votes.set m b } mm ma uns n q:=by
 unfold nodeV
 rw [setFrom_in _ _ _ _ m [.bool b] (show 17+m=(headV s mm ma q).length+m from rfl) (by simp only [List.length_map,L.v,List.length_singleton];omega),setFrom_one]
 have:(s.votes.map bo1).set m (.bool b)=(s.votes.set m b).map bo1:=by rw [List.map_set];rfl
 rw [this];rfl
theorem votes_row {s:PN} (L:Lens s) (mm:Memb) (ma:Nat) (uns:Bool) (n:Nat) (q:Ptrs) {l:List Bool} (hl:l.length=9):
  setFrom (nodeV s mm ma uns n q) 17 (l.map bo1)=nodeV { s with votes:=l } mm ma uns n q:=by
 unfold nodeV
 rw [setFrom_mid _ (s.votes.map bo1) _ 17 (l.map bo1) rfl (by simp only [List.length_map,L.v,hl])];rfl
theorem next_at {s:PN} (L:Lens s) (mm:Memb) (ma:Nat) (uns:Bool) (n:Nat) (q:Ptrs) {m:Nat} (hm:m<9) (x:Nat):
  setFrom (nodeV s mm ma uns n q) (26+m) [.int .i64 (x:Int)]=nodeV { s with next:=s.next.set m x } mm ma uns n q:=by
 unfold nodeV
 have hlen:(headV s mm ma q++s.votes.map bo1).length=26:=by rw [List.length_append,List.length_map,L.v];rfl
 rw [<- List.append_assoc (headV s mm ma q),setFrom_in _ _ _ _ m [.int .i64 (x:Int)] (by rw [hlen]) (by simp only [List.length_map,L.n,List.length_singleton];omega),setFrom_one]
 have:(s.next.map in0).set m (.int .i64 (x:Int))=(s.next.set m x).map in0:=by rw [List.map_set];rfl
 rw [this,List.append_assoc];rfl
theorem mtch_at {s:PN} (L:Lens s) (mm:Memb) (ma:Nat) (uns:Bool) (n:Nat) (q:Ptrs) {m:Nat} (hm:m<9) (x:Nat):
  setFrom (nodeV s mm ma uns n q) (35+m) [.int .i64 (x:Int)]=nodeV { s with mtch:=s.mtch.set m x } mm ma uns n q:=by
 unfold nodeV
 have hlen:(headV s mm ma q++(s.votes.map bo1++s.next.map in0)).length=35:=by simp only [List.length_append,List.length_map,L.v,L.n];rfl
 have e:headV s mm ma q++(s.votes.map bo1++(s.next.map in0++(s.mtch.map in0++tailV uns n q)))=(headV s mm ma q++(s.votes.map bo1++s.next.map in0))++(s.mtch.map in0++tailV uns n q):=by simp [List.append_assoc]
 rw [e,setFrom_in _ _ _ _ m [.int .i64 (x:Int)] (by rw [hlen]) (by simp only [List.length_map,L.m,List.length_singleton];omega),setFrom_one]
 have:(s.mtch.map in0).set m (.int .i64 (x:Int))=(s.mtch.set m x).map in0:=by rw [List.map_set];rfl
 rw [this];simp [List.append_assoc];rfl
theorem ents_nil (w:World) (A:Nat->Prop) (o:Option Addr):Ents w A o []:=⟨[],rfl,fun i row hi=>(by simp at hi),fun x hx=>(by cases hx)⟩
theorem set_rep {α:Type} {l:List α} {i:Nat} (x:α) (h:i<l.length):(List.replicate i x++l.drop i).set i x=List.replicate (i+1) x++l.drop (i+1):=by
 rw [List.drop_eq_getElem_cons h,List.set_append,if_neg (by simp),List.length_replicate,Nat.sub_self,List.set_cons_zero,List.replicate_succ',List.append_assoc];rfl
def Did (w:World) (N D:Nat->Prop) (p t:Nat) (s':PN) (ms:List Msg) (k:Nat) (o:Option Addr) (c:Nat) (w':World):Prop:=
 ∃ N' D' A,NodeAt w' N' D' p t s' false [] k/\Moves w w' N D N' D'/\MsgsAt w' A o ms/\ms.length<=c/\∀ b,A b->¬N' b/\b<hs w'/\(D b\/N b\/hs w<=b)
section
variable {w:World} {N D:Nat->Prop} {p t ma dur k:Nat} {s:PN} {mm:Memb} {ops:List Op} {uns:Bool} {outs:List Msg} {q:Ptrs}
theorem sentD_c {w0:World} {N0 D0:Nat->Prop} (h:NodeAt w N D p t s uns outs k) (mv:Moves w0 w N0 D0 N D):Calls Tryz.prog 33 #[.pointer (some ⟨p,0,none⟩)] w fun e w'=>∃ o c,e=.returned (.slice o outs.length c)/\Did w0 N0 D0 p t s outs k o c w':=by
 refine (sent_c h).mono ?_
 rintro e w' ⟨o,c,rfl,N',A,n,mv',ms,hc,hA,hN⟩
 have z:=mv'.o.size
 refine ⟨o,c,rfl,N',D,A,n,mv.trans mv',ms,hc,fun b hb=>?_⟩
 rcases hA b hb with hd | ⟨h1,h2⟩
 ·refine ⟨n.ap b hd,n.lt b (.inr hd),?_⟩
  rcases mv.d b hd with k | k
  ·exact .inl k
  ·exact .inr (.inr k)
 ·refine ⟨h2,by have:=h.lt b (.inl h1);omega,?_⟩
  rcases mv.n b h1 with k | k
  ·exact .inr (.inl k)
  ·exact .inr (.inr k)
theorem elected_c (h:NodeAt w N D p t s uns outs k) (wf:Wf0 s k):Calls Tryz.prog 40 #[.pointer (some ⟨p,0,none⟩)] w fun e w'=>∃ b:Bool,e=.returned (.bool b)/\(b=true↔Elected s)/\Grow w w':=by
 obtain ⟨q,ops,dur,h1,-⟩:=h.ex
 have L:=h1.len
 have hp:Permit s.memb:=permit_cfg wf.ini s.log
 have cv:∀ i,i<9->w.cell? (⟨p,17+i,none⟩:Addr)=some (.bool (s.votes.getD i false)):=fun i hi=>h1.row.cell (nodeV_vote L hi)
 refine nf40 p w _ ⟨_,cv 0 (by decide),_,cv 1 (by decide),_,cv 2 (by decide),_,cv 3 (by decide),_,cv 4 (by decide),_,cv 5 (by decide),_,cv 6 (by decide),_,cv 7 (by decide),_,cv 8 (by decide),?_⟩
 refine ⟨fun kk o n c x w'=>∃ i:Nat,x=(i:Int)/\i<=9/\kk=9 - i/\n=(((List.range i).filter fun m=>s.votes.getD m false)).length/\Own w' (hs w) 3 1 o n c (((List.range i).filter fun m=>s.votes.getD m false).flatMap in1)/\Grow w w',⟨_,0,rfl,by decide,rfl,rfl,own_nil _ _ _ _,Only.refl _ _⟩,?_⟩
 rintro kk _ w14 o n c x ⟨i,rfl,hi,rfl,rfl,own,g14⟩
 have z14:=g14.size
 have hfl:=List.length_filter_le (fun m=>s.votes.getD m false) (List.range i)
 rw [List.length_range] at hfl
 refine ⟨fun hlt k21 hk21=>?_,fun hge=>?_⟩
 ·have hlt:i<9:=by have:=dT hlt;omega
  have nxt:∀ w23 o' n' c',n'=(((List.range (i+1)).filter fun m=>s.votes.getD m false)).length->Own w23 (hs w) 3 1 o' n' c' (((List.range (i+1)).filter fun m=>s.votes.getD m false).flatMap in1)->Grow w w23->k21 o' n' c' w23:=fun w23 o' n' c' e own' g'=>hk21 w23 o' n' c' fun _=>⟨_,by omega,i+1,by rw [wr (by omega)];omega,hlt,rfl,e,own',g'⟩
  refine run_idx (v:=.bool (s.votes.getD i false)) hlt ?_ ⟨_,rfl,fun hb=>?_,fun hb=>?_⟩
  ·rcases i with _ | _ | _ | _ | _ | _ | _ | _ | _ | i
   all_goals first | rfl | omega
  ·intro w34 e34
   have r34:Row w34 (hs w14) 3 (in1 i):=Row.new e34
   have g34:Grow w14 w34:=only_alloc e34
   have z34:=hs_alloc e34
   refine run_append_at (B:=hs w) elem24 (own.grow g34) (news:=in1 i) rfl (fun j u hu=>r34.cellAdd hu) (by simp [in1,Value.oneCell']) (by simp only [maxLen];omega) (by omega) (by omega) fun o' c' w37 p1 p2 p3=>⟨_,_,_,rfl,?_⟩
   have ef:(List.range (i+1)).filter (fun m=>s.votes.getD m false)=(List.range i).filter (fun m=>s.votes.getD m false)++[i]:=by rw [List.range_succ,List.filter_append];simp only [List.filter_cons,List.filter_nil,hb,if_true]
   refine nxt w37 o' _ c' (by rw [ef,List.length_append];rfl) ?_ ?_
   ·rw [ef,List.flatMap_append];simpa using p1
   ·exact (g14.trans' g34).trans p2 fun b hb e=>by have:=(own.base b e).1;omega
  ·have ef:(List.range (i+1)).filter (fun m=>s.votes.getD m false)=(List.range i).filter (fun m=>s.votes.getD m false):=by rw [List.range_succ,List.filter_append];simp only [List.filter_cons,List.filter_nil,hb,Bool.false_eq_true,if_false,List.append_nil]
   exact nxt w14 o _ c (by rw [ef]) (by rw [ef];exact own) g14
 ·have:i=9:=by have:=dF hge;omega
  subst this
  have x14:=h1.grow g14
  refine ⟨_,_,_,x14.cell (k:=8) (by omega) rfl,_,_,_,x14.cell (k:=9) (by omega) rfl,(reached_c (c:=s.memb) hp (by omega) w14 x14.mem (own_ints own)).mono ?_⟩
  rintro _ w50 ⟨b,rfl,hb,g50⟩
  have G:=g14.trans' g50
  have key:∀ l:List Nat,(∀ m∈l,m<9)->(majY l ((List.range 9).filter fun m=>s.votes.getD m false)↔majV l s.votes):=fun l hl=>by
   unfold majV
   have:(l.filter fun m=>decide (m∈(List.range 9).filter fun m=>s.votes.getD m false))=l.filter fun m=>s.votes.getD m false:=by
    refine List.filter_congr fun m hm=>?_
    have h9:=hl m hm
    cases hv:s.votes.getD m false
    ·refine decide_eq_false fun k=>?_
     rw [List.mem_filter] at k
     rw [hv] at k
     cases k.2
    ·exact decide_eq_true (List.mem_filter.2 ⟨List.mem_range.2 h9,hv⟩)
   rw [majY,this]
  have hE:b=true↔Elected s:=by
   rw [hb]
   unfold Elected
   rw [key _ hp.old.2.2]
   rcases hp.new with e | e
   ·simp [e]
   ·rw [key _ e.2.2]
  exact ⟨b,rfl,fun h=>⟨true,rfl,⟨fun _=>hE.1 h,fun _=>rfl⟩,G⟩,fun h=>⟨false,rfl,⟨fun e=>(by cases e),fun e=>(by have:=hE.2 e;rw [h] at this;cases this)⟩,G⟩⟩
theorem Wf0.mid (h:Wf0 s k):Wf0 ({ s with role:=3,leader:=some s.id,next:=List.replicate 9 (s.log.length+1),mtch:=List.replicate 9 0 }:PN) k:=by
 have h1:=h.ll
 refine { h with ld:=fun n e=>?_,rl:=.inr (.inr rfl),nx:=fun u=>?_,nx1:=fun _ u hu=>?_,mt:=fun u=>?_,ln:=rfl,lm:=rfl }
 ·cases e;exact h.id
 ·show (List.replicate 9 (s.log.length+1)).getD u 0<=_
  rw [rep_getD];split <;> omega
 ·show 1<=(List.replicate 9 (s.log.length+1)).getD u 0
  rw [rep_getD,if_pos hu];omega
 ·show (List.replicate 9 0).getD u 0<=_
  rw [rep_getD];split <;> omega
theorem advS_next (s:PN):(advS s).next=s.next:=by
 obtain ⟨s1,s2,s3,s4,s5,s6,s7,s8,s9⟩:=advC_same s
 unfold advS
 split
 ·exact s7
 ·split
  ·exact s7
  ·split
   ·exact s7
   ·exact s7
set_option maxHeartbeats 1000000 in
theorem lead_c {now:Nat} (h:NodeAt w N D p t s uns outs k) (wf:Wf0 s k) (hk:k<=90040) (ht1:1<=s.term) (hol:outs.length<=800):
  Calls Tryz.prog 41 #[.pointer (some ⟨p,0,none⟩),.int .i64 (now:Int)] w fun e w'=>e=.returned (.tuple #[])/\∃ N' D' uns',NodeAt w' N' D' p t (leadS s now).1 uns' (outs++(leadS s now).2) (k+40)/\Moves w w' N D N' D':=by
 obtain ⟨q,ops,dur,h1,h2,hrest⟩:=h.ex
 have L:=h1.len
 have hl:=wf.ll
 refine nf41 p now w _ ⟨_,h1.cell (k:=0) (by omega) rfl,h1.there (by omega),fun w2 e2=>?_⟩
 obtain ⟨x2,o2⟩:=h1.cells (k:=11) (s':={ s with role:=3 }) (mm':=s.memb) (ma':=membAt s.log) (uns':=uns) e2 rfl rfl rfl rfl rfl h1.mem ⟨L.v,L.n,L.m⟩
 refine ⟨x2.there (by omega),fun w4 e4=>?_⟩
 obtain ⟨x4,o4⟩:=x2.cells (k:=12) (s':={ s with role:=3,leader:=some s.id }) (mm':=s.memb) (ma':=membAt s.log) (uns':=uns) e4 rfl rfl rfl rfl rfl x2.mem ⟨L.v,L.n,L.m⟩
 refine ⟨fun kk x w'=>∃ i:Nat,x=(i:Int)/\i<=9/\kk=9 - i/\NodeX w' D p t { s with role:=3,leader:=some s.id,next:=List.replicate i (s.log.length+1)++s.next.drop i,mtch:=List.replicate i 0++s.mtch.drop i } s.memb (membAt s.log) ops dur uns outs q/\Only (fun b=>b=p) w w',⟨_,0,rfl,by decide,rfl,x4,o2.trans' o4⟩,?_⟩
 rintro kk _ w10 x ⟨i,rfl,hi,rfl,x10,o10⟩
 have L10:=x10.len
 refine ⟨fun hlt w14 e14=>?_,fun hge=>?_⟩
 ·have hlt:i<9:=by have:=dT hlt;omega
  have g14:Grow w10 w14:=only_drew e14
  have x14:=x10.grow g14
  refine (lastIndexX_c x14 (by show s.log.length<=100000;omega)).mono ?_
  rintro _ w17 ⟨rfl,g17⟩
  have x17:=x14.grow g17
  refine ⟨_,rfl,⟨by omega,by omega⟩,?_,fun w19 e19=>?_⟩
  ·rw [Addr.add_lit,toNat_cast,Nat.mul_one];exact x17.there (by omega)
  rw [Addr.add_lit,toNat_cast,Nat.mul_one,show IntKind.wrap .i64 ((s.log.length:Int)+1)=((s.log.length+1:Nat):Int) from by rw [wr (by omega)];omega] at e19
  obtain ⟨x19,o19⟩:=x17.cells (k:=26+i) (s':={ s with role:=3,leader:=some s.id,next:=List.replicate (i+1) (s.log.length+1)++s.next.drop (i+1),mtch:=List.replicate i 0++s.mtch.drop i }) (mm':=s.memb) (ma':=membAt s.log) (uns':=uns) e19 ((next_at L10 s.memb (membAt s.log) uns outs.length q hlt (s.log.length+1)).trans (by rw [<- set_rep (s.log.length+1) (by rw [L.n];exact hlt)])) rfl rfl rfl rfl x17.mem ⟨L.v,by show (List.replicate (i+1) (s.log.length+1)++s.next.drop (i+1)).length=9;rw [List.length_append,List.length_replicate,List.length_drop,L.n];omega,L10.m⟩
  refine ⟨⟨by omega,by omega⟩,?_,fun w21 e21=>?_⟩
  ·rw [Addr.add_lit,toNat_cast,Nat.mul_one];exact x19.there (by omega)
  rw [Addr.add_lit,toNat_cast,Nat.mul_one] at e21
  obtain ⟨x21,o21⟩:=x19.cells (k:=35+i) (s':={ s with role:=3,leader:=some s.id,next:=List.replicate (i+1) (s.log.length+1)++s.next.drop (i+1),mtch:=List.replicate (i+1) 0++s.mtch.drop (i+1) }) (mm':=s.memb) (ma':=membAt s.log) (uns':=uns) e21 ((mtch_at x19.len s.memb (membAt s.log) uns outs.length q hlt 0).trans (by rw [<- set_rep 0 (by rw [L.m];exact hlt)])) rfl rfl rfl rfl x19.mem ⟨L.v,x19.len.n,by show (List.replicate (i+1) 0++s.mtch.drop (i+1)).length=9;rw [List.length_append,List.length_replicate,List.length_drop,L.m];omega⟩
  exact ⟨_,by omega,i+1,by rw [wr (by omega)];omega,hlt,rfl,x21,((o10.trans' (Grow.only (g14.trans' g17))).trans' o19).trans' o21⟩
 ·have:i=9:=by have:=dF hge;omega
  subst this
  rw [List.drop_of_length_le (by rw [L.n];exact Nat.le_refl _),List.drop_of_length_le (by rw [L.m];exact Nat.le_refl _),List.append_nil,List.append_nil] at x10
  have n10:NodeAt w10 N D p t { s with role:=3,leader:=some s.id,next:=List.replicate 9 (s.log.length+1),mtch:=List.replicate 9 0 } uns outs k:=⟨q,ops,dur,x10,h2,hrest⟩
  have mv10:Moves w w10 N D N D:=Moves.only o10 fun b hb=>(h2 b).2 (.inl hb)
  refine (add_c (kind:=1) (o:=none) (c:=0) (body:=[]) (A:=fun _=>False) n10 (wf.mid.up n10) (by omega) (fun i row hi=>(by simp at hi)) (fun b hb=>hb.elim) ⟨ht1,wf.t,⟨Nat.le_refl 1,by show (1:Nat)<=3;decide⟩,by show (0:Nat)<=64;decide,fun e=>(by cases e)⟩).mono ?_
  rintro _ w26 ⟨rfl,N1,D1,uns1,n26,mv26⟩
  have n26:NodeAt w26 N1 D1 p t (leadB s) uns1 outs (k+16):=n26
  have wfB:Wf0 (leadB s) (k+16):=wf.leadB.more (by omega)
  refine ⟨_,rfl,bT ((adv_c n26 (wfB.up n26) (by omega) ht1).mono ?_)⟩
  rintro _ w30 ⟨rfl,N2,D2,uns2,n30,mv30⟩
  have wfA:Wf0 (advS (leadB s)) (k+17):=wf.leadB.adv (by omega) |>.more (by omega)
  have wfA':Wf (advS (leadB s)) (k+40):=(wfA.more (by omega)).up n30
  have o16:=opA_le (leadB s)
  have n30:=n30.up (k':=k+40) (by omega)
  refine ⟨_,rfl,bT ((sendAppends_c n30 wfA' (by omega) (fun u hu=>?_) (by omega)).mono ?_)⟩
  ·rw [advS_next];exact wf.leadB.nx1 rfl u hu
  rintro _ w34 ⟨rfl,N3,D3,n34,mv34⟩
  obtain ⟨q3,ops3,dur3,y34,e34,hr34⟩:=n34.ex
  refine ⟨rfl,y34.there (by omega),fun w35 e35=>?_⟩
  obtain ⟨y35,o35⟩:=y34.cells (k:=15) (s':={ advS (leadB s) with hb:=now }) (mm':=(advS (leadB s)).memb) (ma':=membAt (advS (leadB s)).log) (uns':=uns2) e35 rfl rfl rfl rfl rfl y34.mem ⟨y34.len.v,y34.len.n,y34.len.m⟩
  exact ⟨rfl,N3,D3,uns2,⟨q3,ops3,dur3,y35,e34,hr34⟩,(((mv10.trans mv26).trans mv30).trans mv34).trans (Moves.only o35 fun b hb=>(e34 b).2 (.inl hb))⟩
end
end Go.Proofs.YtcaokpglbolkcaaGreat
