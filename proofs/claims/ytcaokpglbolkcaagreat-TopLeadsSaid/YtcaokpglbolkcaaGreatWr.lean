import Derived.Test.YtcaokpglbolkcaaGreatWq
namespace Go.Proofs.YtcaokpglbolkcaaGreat
open Go Go.Nf Go.RowKit
theorem elem174:Elem Tryz.prog 174 2 1 8:=elem_of (by kernel_rfl)
theorem zero2:zeroL Tryz.prog 2=some [.int .i64 0]:=by kernel_rfl
theorem rep_in1 (n:Nat):(List.replicate n [Value.int .i64 0]).flatten=(List.replicate n 0).flatMap in1:=by
 rw [List.flatMap_def,List.map_replicate];rfl
section
variable {w:World}
set_option maxHeartbeats 1000000 in
theorem committedL_c {A B:Nat->Prop} {l N:List Nat} {o on:Option Addr} {c cn:Nat} (h0:0<l.length) (hl:l.length<=9) (hN:N.length=64) (hm:∀ m∈l,m<64) (w:World) (h:Ints w A o l) (h2:Ints w B on N) (hA:∀ b,A b->b<hs w) (hB:∀ b,B b->b<hs w):
  Calls Tryz.prog 120 #[.slice o l.length c,.slice on 64 cn] w fun e w'=>e=.returned (.int .i64 ((cmt l fun m=>N.getD m 0:Nat):Int))/\Grow w w':=by
 refine nf120 o _ c on 64 cn w _ (run_make_row elem174 zero2 (by omega) (by omega) (by omega) (by omega) fun w2 e2=>?_)
 rw [toNat_cast,rep_in1] at*
 have r2:=Row.new e2
 have g2:Grow w w2:=only_alloc e2
 have z2:=hs_alloc e2
 refine ⟨_,_,_,rfl,fun k x w'=>∃ (i:Nat) (qs:List Nat),x=(i:Int)/\i<=l.length/\k=l.length - i/\qs=(l.take i).map (fun m=>N.getD m 0)/\Row w' (hs w) 2 ((qs++List.replicate (l.length - i) 0).flatMap in1)/\Only (fun b=>b=hs w) w2 w',⟨_,0,[],rfl,by omega,rfl,rfl,by simpa using r2,Only.refl _ _⟩,?_⟩
 rintro k _ w10 x ⟨i,qs,rfl,hi,rfl,hq,r10,o10⟩
 have G10:Grow w w10:=g2.trans o10 fun b hb e=>by omega
 have hql:qs.length=i:=by rw [hq,List.length_map,List.length_take];omega
 refine ⟨fun hlt=>?_,fun hge=>?_⟩
 ·have hlt:i<l.length:=by have:=dT hlt;omega
  have hat:=List.getElem?_eq_getElem hlt
  have htk:l.take (i+1)=l.take i++[l[i]]:=List.take_succ_eq_append_getElem hlt
  have hmem:=hm _ (List.getElem_mem hlt)
  generalize l[i]=m at*
  obtain ⟨a,ha,-,hc⟩:=Ints.at (h.keep (Only.trans (S:=fun b=>b=hs w) (Grow.only g2) o10 fun _ _ h=>h) fun b hb e=>by have:=hA b hb;omega) hat
  obtain ⟨a',ha',-,hc'⟩:=Ints.at (h2.keep (Only.trans (S:=fun b=>b=hs w) (Grow.only g2) o10 fun _ _ h=>h) fun b hb e=>by have:=hB b hb;omega) (getD_at (show m<N.length by omega))
  refine ⟨a,ha,⟨by omega,by omega⟩,_,hc,a',ha',⟨by omega,by omega⟩,_,hc',_,rfl,⟨by omega,by omega⟩,r10.thereAdd (by rw [toNat_cast,flat_length in1_len,List.length_append,List.length_replicate,hql];omega),fun w19 e19=>?_⟩
  have o19:Only (fun b=>b=hs w) w10 w19:=only_setAdd e19
  have r19:=r10.setAdd e19
  rw [toNat_cast] at r19
  have hset:=flat_set in1_len (qs++List.replicate (l.length - i) 0) i 0 (in1 (N.getD m 0)) (N.getD m 0) (by rw [List.length_append,List.length_replicate,hql];omega) (by simp [in1]) rfl
  rw [Nat.add_zero] at hset
  have hset':setFrom ((qs++List.replicate (l.length - i) 0).flatMap in1) (i*1) [.int .i64 ((N.getD m 0:Nat):Int)]=((qs++List.replicate (l.length - i) 0).set i (N.getD m 0)).flatMap in1:=hset
  rw [hset',fillP qs 0 (N.getD m 0) l.length i hlt hql] at r19
  exact ⟨_,by omega,i+1,qs++[N.getD m 0],by rw [wr (by omega)];omega,hlt,rfl,by rw [htk,List.map_append,hq];rfl,r19,o10.trans' o19⟩
 ·have:i=l.length:=by have:=dF hge;omega
  subst this
  rw [Nat.sub_self,List.replicate_zero,List.append_nil] at r10
  rw [List.take_length] at hq
  have hB10:hs w<=hs w10:=G10.size
  have own:Own w10 (hs w) 2 1 (some ⟨hs w,0,none⟩) l.length l.length (qs.flatMap in1):=r10.own (Nat.le_refl _) (by rw [flat_length in1_len,hql]) (by simp only [maxLen];omega)
  refine (sort64_c own hql.symm (by omega)).mono ?_
  rintro _ w24 ⟨rfl,o24,own24⟩
  refine ⟨rfl,(majority_c o _ c (by omega) w24).mono ?_⟩
  rintro _ w26 ⟨rfl,e26⟩
  have e26:=e26.symm
  subst e26
  have ei:IntKind.wrap .i64 ((l.length:Int) - ((l.length / 2+1:Nat):Int))=((l.length - (l.length / 2+1):Nat):Int):=by rw [wr (by omega)];omega
  have hsl:(qs.mergeSort fun x y=>decide (x<=y)).length=l.length:=by rw [List.length_mergeSort,hql]
  obtain ⟨a,ha,-,hc⟩:=Ints.at (own_ints own24) (getD_at (show l.length - (l.length / 2+1)<(qs.mergeSort fun x y=>decide (x<=y)).length by omega))
  refine ⟨_,rfl,?_⟩
  rw [ei]
  refine ⟨a,ha,⟨by omega,by omega⟩,_,hc,?_,G10.trans o24 fun b hb e=>by omega⟩
  unfold cmt
  rw [hq]
theorem func_nil {t:TypeId} {ps rs:Array TypeId} {x y:Operand} {f:Fn} {a c:Array Value} {v:Bool} (hu:Tryz.prog.underlying t=some (.func ps rs v)) {w:World} {K:Value->World->Prop} (h:K (.bool false) w):RunOk Tryz.prog (Hold (binOpSem .eql t x y (.func f a c) .nilFunc)) w K:=by
 have key:∀ d,(Op.equalIn (d+1) t (.func f a c) .nilFunc).run Tryz.prog w=.ok false w:=fun d=>by simp [Op.equalIn,run_underlying hu]
 obtain ⟨d,hd⟩:∃ d,Op.maxDepth=d+1:=⟨_,rfl⟩
 refine ⟨_,w,?_,h⟩
 unfold Hold binOpSem
 have:=key d
 rw [<- hd] at this
 simp [eqGuard,binOp,Op.equal,this]
theorem und154:Tryz.prog.underlying 154=some (.func #[3] #[2] false):=by kernel_rfl
set_option maxHeartbeats 1000000 in
theorem committed_c {A:Nat->Prop} {c:Memb} {o1 o2:Option Addr} {c1 c2:Nat} {f:Nat->Nat} {ff:Fn} {fa fc:Array Value} (hp:Permit c) (w:World) (h:Mem w A c o1 o2) (hA:∀ b,A b->b<hs w)
  (hf:∀ w' x,x<9->Grow w w'->CallsV Tryz.prog (.func ff fa fc) [.int .i64 ((x:Nat):Int)] w' fun e w''=>e=.returned (.int .i64 ((f x:Nat):Int))/\w''=w'):
  Calls Tryz.prog 103 #[memA c o1 c1 o2 c2,.func ff fa fc] w fun e w'=>e=.returned (.int .i64 ((committedS c f:Nat):Int))/\Grow w w':=by
 obtain ⟨l1,l2,l3⟩:=hp.len
 refine nf103 o1 _ c1 o2 _ c2 ff fa fc w _ fun w1 e1=>?_
 have r1:=Row.new (l:=[_,_]) e1
 have g1:Grow w w1:=only_alloc e1
 have z1:=hs_alloc e1
 refine ⟨_,_,_,r1.cell rfl,_,_,_,r1.cell rfl,(valid_c (c:=c) hp w1 (h.grow g1)).mono ?_⟩
 rintro _ w10 ⟨rfl,g10⟩
 have r10:=r1.grow g10
 have G10:=g1.trans' g10
 refine ⟨_,rfl,bT (func_nil und154 ⟨_,rfl,bF ?_⟩)⟩
 refine run_make_row elem174 zero2 (l:=64) (c:=64) (by omega) (by omega) (by omega) (by omega) fun w19 e19=>?_
 rw [show ((64:Int)).toNat=64 from rfl,rep_in1] at*
 have g19:Grow w10 w19:=only_alloc e19
 have z19:=hs_alloc e19
 have z10:=G10.size
 have G19:=G10.trans' g19
 have q19:=Row.new e19
 have r19:=r10.grow g19
 refine ⟨_,_,_,rfl,_,_,_,r19.cell rfl,_,_,_,r19.cell rfl,(members_c (c:=c) hp w19 (h.grow G19) (fun b hb=>by have:=hA b hb;omega)).mono ?_⟩
 rintro _ w30 ⟨g,c',rfl,own30,g30⟩
 have z30:=g30.size
 have G30:=G19.trans' g30
 have hml:(members c).length<=9:=by unfold members;have:=List.length_filter_le (fun x=>decide (x∈c.old\/x∈c.new)) (List.range 9);simpa using this
 refine ⟨_,_,_,rfl,fun k x w'=>∃ (i:Nat) (N:List Nat),x=(i:Int)/\i<=(members c).length/\k=(members c).length - i/\N.length=64/\(∀ m,m∈(members c).take i->N.getD m 0=f m)/\Row w' (hs w10) 2 (N.flatMap in1)/\Only (fun b=>b=hs w10) w30 w',⟨_,0,List.replicate 64 0,rfl,by omega,rfl,rfl,by simp,q19.grow g30,Only.refl _ _⟩,?_⟩
 rintro k _ w38 x ⟨i,N,rfl,hi,rfl,hN,hNf,q38,o38⟩
 have G38:Grow w w38:=G30.trans o38 fun b hb e=>by omega
 have m38:=h.grow G38
 have lg10:hs w10<hs w19:=by omega
 have own38:Own w38 (hs w19) 3 1 (some ⟨g,0,none⟩) (members c).length c' ((members c).flatMap in1):=own30.keep o38 fun b hb e=>by have:=(own30.base b hb).1;omega
 have r38:=(r19.grow g30).keep o38 (by have:=r1.lt;have:=g10.size;omega)
 refine ⟨fun hlt=>?_,fun hge=>?_⟩
 ·have hlt:i<(members c).length:=by have:=dT hlt;omega
  have hat:=List.getElem?_eq_getElem hlt
  have htk:(members c).take (i+1)=(members c).take i++[(members c)[i]]:=List.take_succ_eq_append_getElem hlt
  have hm9:=members_lt (List.getElem_mem hlt)
  have hnot:(members c)[i]∉(members c).take i:=fun k=>by
   have hnd:(members c).Pairwise (·<·):=(List.pairwise_lt_range (n:=9)).sublist List.filter_sublist
   obtain ⟨j,hj,he⟩:=List.getElem_of_mem k
   rw [List.length_take] at hj
   rw [List.getElem_take] at he
   have:=List.pairwise_iff_getElem.1 hnd j i (by omega) hlt (by omega)
   omega
  generalize (members c)[i]=m at*
  obtain ⟨a,ha,-,hc⟩:=Ints.at (own_ints own38) hat
  refine ⟨a,ha,⟨by omega,by omega⟩,_,hc,(hf w38 m hm9 G38).mono ?_⟩
  rintro _ w45 ⟨rfl,e45⟩
  have e45:=e45.symm
  subst e45
  refine ⟨_,rfl,_,rfl,⟨by omega,by omega⟩,q38.thereAdd (by rw [toNat_cast,flat_length in1_len];omega),fun w48 e48=>?_⟩
  have o48:Only (fun b=>b=hs w10) w38 w48:=only_setAdd e48
  have q48:=q38.setAdd e48
  rw [toNat_cast] at q48
  have hset:=flat_set in1_len N m 0 (in1 (f m)) (f m) (by omega) (by simp [in1]) rfl
  rw [Nat.add_zero] at hset
  have hset':setFrom (N.flatMap in1) (m*1) [.int .i64 ((f m:Nat):Int)]=(N.set m (f m)).flatMap in1:=hset
  rw [hset'] at q48
  refine ⟨_,by omega,i+1,N.set m (f m),by rw [wr (by omega)];omega,hlt,rfl,by rw [List.length_set];exact hN,fun m' hm'=>?_,q48,o38.trans' o48⟩
  rw [htk] at hm'
  rw [set_getD]
  rcases List.mem_append.1 hm' with k | k
  ·rw [if_neg (fun e:m=m'/\_=>hnot (e.1 ▸ k))];exact hNf m' k
  ·have:=List.mem_singleton.1 k
   subst this
   rw [if_pos ⟨rfl,by omega⟩]
 ·have:i=(members c).length:=by have:=dF hge;omega
  subst this
  rw [List.take_length] at hNf
  have hcm:∀ l:List Nat,(∀ m∈l,m∈members c)->cmt l (fun m=>N.getD m 0)=cmt l f:=fun l hl=>by
   unfold cmt
   rw [List.map_congr_left fun m hm=>hNf m (hl m hm)]
  have hold:=hcm c.old fun m hm=>(mem_members hp).2 (.inl hm)
  have hnew:=hcm c.new fun m hm=>(mem_members hp).2 (.inr hm)
  have hl64:∀ m,m∈c.old\/m∈c.new->m<64:=fun m hm=>by have:=members_lt ((mem_members hp).2 hm);omega
  have z38:=o38.size
  refine ⟨_,_,_,r38.cell rfl,(committedL_c (A:=A) (B:=fun b=>b=hs w10) (c:=c1) (by omega) l2 hN (fun m hm=>hl64 m (.inl hm)) w38 m38.1 (row_ints q38) (fun b hb=>by have:=hA b hb;omega) (fun b hb=>by omega)).mono ?_⟩
  rintro _ w56 ⟨rfl,g56⟩
  rw [hold]
  have r56:=r38.grow g56
  refine ⟨_,rfl,fun k58 hk58=>⟨_,_,_,r56.cell rfl,fun hpos=>⟨_,_,_,r56.cell rfl,?_⟩,fun hz=>?_⟩⟩
  ·have hpos:0<c.new.length:=by have:=dT hpos;omega
   have z56:=g56.size
   refine (committedL_c (A:=A) (B:=fun b=>b=hs w10) (c:=c2) hpos l3 hN (fun m hm=>hl64 m (.inr hm)) w56 (m38.2.grow g56) ((row_ints q38).grow g56) (fun b hb=>by have:=hA b hb;omega) (fun b hb=>by omega)).mono ?_
   rintro _ w72 ⟨rfl,g72⟩
   rw [hnew]
   refine ⟨_,rfl,hk58 w72 _ fun _=>⟨?_,(G38.trans' g56).trans' g72⟩⟩
   have hcs:committedS c f=min (cmt c.old f) (cmt c.new f):=if_neg fun e=>by rw [e] at hpos;simp at hpos
   have e:(if ((cmt c.new f:Nat):Int)<((cmt c.old f:Nat):Int) then ((cmt c.new f:Nat):Int) else ((cmt c.old f:Nat):Int))=((min (cmt c.old f) (cmt c.new f):Nat):Int):=by split <;> omega
   rw [hcs,e]
  ·have hz:c.new=[]:=List.length_eq_zero_iff.1 (by have:=dF hz;omega)
   refine hk58 w56 _ fun _=>⟨?_,G38.trans' g56⟩
   have hcs:committedS c f=cmt c.old f:=if_pos hz
   rw [hcs]
end
end Go.Proofs.YtcaokpglbolkcaaGreat
