import Derived.Test.YtcaokpglbolkcaaGreatWn
import Derived.Test.YtcaokpglbolkcaaGreatRz
namespace Go.Proofs.YtcaokpglbolkcaaGreat
open Go Go.Nf Go.RowKit
def prevT (t:Nat) (l:List Ent) (i:Nat):Nat:=if i=0 then t else ((l[i - 1]?).map (·.term)).getD 0
def Ups (t:Nat) (l:List Ent):Prop:=∀ (i:Nat) e,l[i]?=some e->prevT t l i<=e.term
theorem prevT_succ {t:Nat} {l:List Ent} {i:Nat} {e:Ent} (h:l[i]?=some e):prevT t l (i+1)=e.term:=by
 unfold prevT
 rw [if_neg (by omega),Nat.add_sub_cancel,h];rfl
section
variable {w:World} {L D:Nat->Prop} {lg:Nat} {es:List Ent}
set_option maxHeartbeats 2000000 in
theorem appendAfter_c {A:Nat->Prop} {o2:Option Addr} {c2 p t:Nat} {l:List Ent} (h:LogAt w L D lg es) (hl:es.length<=100000) (hp:termAt es p=some t) (ht:t<=MaxT) (hll:l.length<=1000) (hc2:l.length<=c2) (he:Ents w A o2 l) (hok:∀ e∈l,OkEnt e) (hup:Ups t l) (hA:∀ b,A b->¬L b/\b<hs w):
  Calls Tryz.prog 111 #[.pointer (some ⟨lg,0,none⟩),.int .i64 (p:Int),.int .i64 (t:Int),.slice o2 l.length c2] w fun r w'=>r=.returned (.tuple #[.bool true,.int .i64 0])/\∃ L' D',LogAt w' L' D' lg (mergeL es p l)/\Only L w w'/\(∀ b,L' b->L b\/hs w<=b)/\(∀ b,D' b->D b\/hs w<=b)/\∀ b,D b->D' b:=by
 obtain ⟨hpl,-⟩:=termAt_some hp
 refine nf111 lg p t o2 l.length c2 w _ (no (by omega) (no (by omega) ?_))
 refine ⟨fun k x i w'=>∃ j:Nat,i=(j:Int)/\j<=l.length/\k=l.length - j/\x=(prevT t l j:Int)/\Grow w w',⟨_,0,rfl,by omega,rfl,rfl,Only.refl _ _⟩,?_⟩
 rintro k _ w9 x i ⟨j,rfl,hj,rfl,rfl,g9⟩
 refine ⟨fun hlt=>?_,fun _=>?_⟩
 ·have hlt:j<l.length:=by have:=dT hlt;omega
  have hat:=List.getElem?_eq_getElem hlt
  have hmem:=List.getElem_mem hlt
  have hprev:=hup j _ hat
  generalize l[j]=e at*
  obtain ⟨a,ob,cb,rfl,-,hc0,hc1,hc2',hbo⟩:=(he.grow g9).at hat
  refine ⟨a,rfl,⟨by omega,by omega⟩,_,hc0,_,hc1,_,_,_,hc2',((hok e hmem).valid ob cb w9).mono ?_⟩
  rintro _ w21 ⟨rfl,g21⟩
  obtain ⟨a',ob',cb',ha',-,hc0',-⟩:=((he.grow g9).grow g21).at hat
  cases ha'
  refine ⟨_,rfl,bT ⟨a,rfl,⟨by omega,by omega⟩,_,hc0',no (by omega) ⟨a,rfl,⟨by omega,by omega⟩,_,hc0',_,by omega,j+1,by rw [wr (by omega)];omega,hlt,rfl,?_,g9.trans' g21⟩⟩⟩
  rw [prevT_succ hat]
 ·have h9:=h.grow g9
  have he9:=he.grow g9
  refine (lterm_c h9 (by omega) p (by omega)).mono ?_
  rintro _ w34 ⟨rfl,e34⟩
  have e34:=e34.symm
  subst e34
  rw [hp]
  refine ⟨_,_,rfl,bT (nno rfl fun k40 hk40=>?_)⟩
  have fin:∀ w' L' D',LogAt w' L' D' lg (mergeL es p l)->Only L w w'->(∀ b,L' b->L b\/hs w<=b)->(∀ b,D' b->D b\/hs w<=b)->(∀ b,D b->D' b)->k40 w':=fun w' L' D' a1 a2 a3 a4 a5=>hk40 w' fun _=>⟨rfl,L',D',a1,a2,a3,a4,a5⟩
  refine ⟨fun k x w'=>∃ i:Nat,x=(i:Int)/\i<=l.length/\k=l.length - i/\mergeL es p l=mergeL es (p+i) (l.drop i)/\p+i<=es.length/\Grow w9 w',⟨_,0,rfl,by omega,rfl,by simp,by omega,Only.refl _ _⟩,?_⟩
  rintro k _ w49 x ⟨i,rfl,hi,rfl,hm,hpi,g49⟩
  have G49:=g9.trans' g49
  refine ⟨fun hlt=>?_,fun hge=>?_⟩
  ·have hlt:i<l.length:=by have:=dT hlt;omega
   have hat:=List.getElem?_eq_getElem hlt
   have hmem:=List.getElem_mem hlt
   have hd:l.drop i=l[i]::l.drop (i+1):=List.drop_eq_getElem_cons hlt
   generalize l[i]=e at*
   intro w53 e53
   have g53:Grow w49 w53:=only_drew e53
   have G53:=G49.trans' g53
   have h53:=h.grow G53
   have he53:=he.grow G53
   obtain ⟨o,c,r53,hes53,hlc⟩:=h53.read
   have ei:IntKind.wrap .i64 ((p:Int)+(i:Int))=((p+i:Nat):Int):=by rw [wr (by omega)];omega
   have tail:∀ w',Grow w w'->mergeL es (p+i) (l.drop i)=es.take (p+i)++l.drop i->tailP lg p i o2 l.length c2 w' k40:=fun w' G hmm=>by
    refine tail_c (h.grow G) hl hpi hi hll hc2 (he.grow G) (fun e he=>by have:=(hok e he).b;omega) (fun b hb=>⟨(hA b hb).1,by have:=(hA b hb).2;have:=G.size;omega⟩) fun w'' L' D' a1 a2 a3 a4 a5=>?_
    have:=G.size
    exact fin w'' L' D' (by rw [hm,hmm];exact a1) ((Grow.only G).trans' a2) (fun b hb=>(a3 b hb).imp id fun k=>by omega) (fun b hb=>(a4 b hb).imp id fun k=>by omega) a5
   refine ⟨_,_,_,r53.cell rfl,fun hin=>?_,fun hout=>?_⟩
   ·rw [ei] at hin ⊢
    have hin:p+i<es.length:=by have:=dT hin;omega
    have hat2:=List.getElem?_eq_getElem hin
    generalize es[p+i]=f at*
    obtain ⟨a,ob,cb,rfl,-,hc0,hc1,hc2',hbo⟩:=hes53.at hat2
    obtain ⟨a',ob',cb',rfl,-,kc0,kc1,kc2,kbo⟩:=he53.at hat
    refine ⟨_,_,_,r53.cell rfl,a,rfl,⟨by omega,by omega⟩,_,hc0,_,hc1,_,_,_,hc2',a',rfl,⟨by omega,by omega⟩,_,kc0,_,kc1,_,_,_,kc2,?_⟩
    refine (eequal_c (a:=f) (b:=e) hbo kbo (fun b hb=>h53.low b hb) (fun b hb=>by have:=(hA b hb).2;have:=G53.size;omega)).mono ?_
    rintro _ w75 ⟨rfl,g75⟩
    refine ⟨_,rfl,fun heq=>?_,fun hne=>?_⟩
    ·have heq:=of_decide_eq_true heq
     subst heq
     refine ⟨_,by omega,i+1,by rw [wr (by omega)];omega,hlt,rfl,?_,by omega,(g49.trans' g53).trans' g75⟩
     rw [hm,hd,mergeL,if_pos hat2];rfl
    ·have hne:=of_decide_eq_false hne
     have:=tail w75 (G53.trans' g75) (by rw [hd,mergeL,if_neg (by rw [hat2];intro k;exact hne (Option.some.inj k))])
     unfold tailP at this
     rw [ei] at this
     exact this
   ·have hout:p+i=es.length:=by rw [ei] at hout;have:=dF hout;omega
    have:=tail w53 G53 (by rw [hd,mergeL,if_neg (by rw [List.getElem?_eq_none (by omega)];intro k;cases k)])
    exact this
  ·have:i=l.length:=by have:=dF hge;omega
   subst this
   have hmm:mergeL es p l=es:=by rw [hm,List.drop_length];rfl
   exact fin w49 L D (by rw [hmm];exact h.grow G49) (Grow.only G49) (fun b hb=>.inl hb) (fun b hb=>.inl hb) fun b hb=>hb
set_option maxHeartbeats 1000000 in
theorem slice_c {n:Nat} (h:LogAt w L D lg es) (hl:es.length<=100000) (hn:1<=n) (hn2:n<=1000000) (hbl:∀ e∈es,e.body.length<=8192):
  Calls Tryz.prog 100 #[.pointer (some ⟨lg,0,none⟩),.int .i64 (n:Int),.int .i64 16] w fun r w'=>∃ o c,r=.returned (.slice o ((es.drop (n - 1)).take 16).length c)/\Ents w' (fun b=>hs w<=b/\b<hs w') o ((es.drop (n - 1)).take 16)/\((es.drop (n - 1)).take 16).length<=c/\Grow w w':=by
 obtain ⟨o,c,r,hes,hlc⟩:=h.read
 have e1:(if (n:Int)<1 then (1:Int) else (n:Int))=(n:Int):=if_neg (by omega)
 have e2:IntKind.wrap .i64 ((n:Int) - 1)=((n - 1:Nat):Int):=by rw [wr (by omega)];omega
 have hdl:(es.drop (n - 1)).length=es.length - (n - 1):=List.length_drop
 have htl:((es.drop (n - 1)).take 16).length=min 16 (es.length - (n - 1)):=by rw [List.length_take,hdl]
 refine nf100 lg n 16 w _ (no (by omega) ⟨_,_,_,r.cell rfl,?_⟩)
 rw [e1,e2,toNat_cast]
 have e3:(if (((es.length - (n - 1):Nat)):Int)<16 then (((es.length - (n - 1):Nat)):Int) else 16)=((min 16 (es.length - (n - 1)):Nat):Int):=by split <;> omega
 refine ⟨fun h0=>?_,fun h0=>⟨_,_,_,r.cell rfl,?_⟩⟩
 ·have h0:=dT h0
  have:(es.drop (n - 1)).take 16=[]:=by rw [List.drop_eq_nil_of_le (by omega)];rfl
  rw [this]
  exact ⟨none,0,rfl,⟨[],rfl,Recs.nil _ _ _ _,fun p hp=>by cases hp⟩,Nat.le_refl _,Only.refl _ _⟩
 ·have h0:=dF h0
  rw [e3,toNat_cast,Nat.sub_zero,opt_id,ite_self]
  refine ⟨⟨by omega,by omega⟩,⟨by omega,by omega⟩,?_⟩
  have hoff:=(Ents.off (n:=n - 1) hes hlc).take (n:=16)
  have hbl':∀ e∈(es.drop (n - 1)).take 16,e.body.length<=8192:=fun e he=>hbl e (List.mem_of_mem_drop (List.mem_of_mem_take he))
  rw [<- htl]
  have hbound:((es.drop (n - 1)).take 16).length<=16:=by omega
  generalize (es.drop (n - 1)).take 16=l at*
  generalize (if c=n - 1 then o else o.map fun x=>x.add ((n - 1)*3))=o2 at*
  refine run_make_row elem43 zero49 (by omega) (by omega) (by omega) (by omega) fun w12 e12=>?_
  rw [toNat_cast] at*
  have g12:Grow w w12:=only_alloc e12
  have z12:=hs_alloc e12
  have r12:Row w12 (hs w) 49 ((List.replicate l.length zEP).flatMap entV):=by
   have:=Row.new e12
   have e:(List.replicate l.length zEP).flatMap entV=(List.replicate l.length (entV zEP)).flatten:=by
    rw [List.flatMap_def,List.map_replicate]
   rw [e];exact this
  refine ⟨_,_,_,rfl,fun k x w'=>∃ (i:Nat) (qs:List EP),x=(i:Int)/\i<=l.length/\k=l.length - i/\qs.map (·.1)=l.take i/\Row w' (hs w) 49 ((qs++List.replicate (l.length - i) zEP).flatMap entV)/\(∀ p∈qs,Byts w' (fun b=>hs w<b/\b<hs w') p.2.1 p.1.body)/\Only (fun b=>b=hs w) w12 w',⟨_,0,[],rfl,by omega,rfl,rfl,by simpa using r12,fun p hp=>(by cases hp),Only.refl _ _⟩,?_⟩
  rintro k _ w20 x ⟨i,qs,rfl,hi,rfl,hq,r20,b20,o20⟩
  have G20:Grow w w20:=g12.trans o20 fun b hb e=>by omega
  have z20:=o20.size
  have hql:qs.length=i:=by have:=congrArg List.length hq;rw [List.length_map,List.length_take] at this;omega
  refine ⟨fun hlt=>?_,fun hge=>?_⟩
  ·have hlt:i<l.length:=by have:=dT hlt;omega
   have hat:=List.getElem?_eq_getElem hlt
   have hmem:=List.getElem_mem hlt
   have htk:=List.take_succ_eq_append_getElem hlt
   generalize l[i]=e at*
   obtain ⟨a,ob,cb,rfl,-,hc0,hc1,hc2',hbo⟩:=(hoff.grow G20).at hat
   refine ⟨a,rfl,⟨by omega,by omega⟩,_,hc0,_,hc1,_,_,_,hc2',fun w30 e30=>⟨(Row.new (l:=[_,_,_]) e30).there (by simp),fun w32 e32=>?_⟩⟩
   obtain ⟨r32,g32⟩:=loc (l:=[_,_,_]) (vs:=[_,_,_]) e30 e32 rfl
   have z32:=g32.size
   have hb8:=hbl' e hmem
   refine ⟨_,r32.cell rfl,_,r32.cell rfl,_,_,_,r32.cell rfl,(eclone_c e ob cb (by omega) w32 (hbo.grow g32) (fun b hb=>by have:=h.low b hb;have:=G20.size;omega)).mono ?_⟩
   rintro _ w40 ⟨o43,c45,rfl,b40,g40⟩
   have z40:=g40.size
   have r40:=(r20.grow g32).grow g40
   have hlen:((qs++List.replicate (l.length - i) zEP).flatMap entV).length=l.length*3:=by rw [flat_length entV_len,List.length_append,List.length_replicate,hql];congr 1;omega
   refine ⟨_,_,_,_,_,rfl,_,rfl,⟨by omega,by omega⟩,r40.thereAdd (by rw [hlen,toNat_cast];omega),fun w47 e47=>?_⟩
   have o47:Only (fun b=>b=hs w) w40 w47:=only_setAdd e47
   have z47:=o47.size
   have r47:=r40.setAdd e47
   rw [toNat_cast] at r47
   have hset:=flat_set entV_len (qs++List.replicate (l.length - i) zEP) i 0 (entV (e,(o43,c45))) (e,(o43,c45)) (by rw [List.length_append,List.length_replicate,hql];omega) (by simp [entV]) rfl
   rw [Nat.add_zero] at hset
   have hset':setFrom ((qs++List.replicate (l.length - i) zEP).flatMap entV) (i*3) [.int .i64 (e.term:Int),.int .i64 (e.kind:Int),.slice o43 e.body.length c45]=((qs++List.replicate (l.length - i) zEP).set i (e,(o43,c45))).flatMap entV:=hset
   rw [hset',fillP qs zEP (e,(o43,c45)) l.length i hlt hql] at r47
   refine ⟨_,by omega,i+1,qs++[(e,(o43,c45))],by rw [wr (by omega)];omega,hlt,rfl,?_,r47,fun p' hp'=>?_,((o20.trans' (Grow.only g32)).trans' (Grow.only g40)).trans' o47⟩
   ·rw [List.map_append,hq,htk];rfl
   ·rcases List.mem_append.1 hp' with hp' | hp'
    ·exact ((((b20 p' hp').grow g32).grow g40).keep o47 fun b hb e=>by omega).mono fun b hb=>⟨hb.1,by omega⟩
    ·rw [List.mem_singleton.1 hp']
     exact (b40.keep o47 fun b hb e=>by omega).mono fun b hb=>⟨by omega,by omega⟩
  ·have:i=l.length:=by have:=dF hge;omega
   subst this
   rw [Nat.sub_self,List.replicate_zero,List.append_nil] at r20
   rw [List.take_length] at hq
   have:=r20.lt
   exact ⟨_,_,rfl,⟨qs,hq,(row_recs entV_len (by decide) r20).mono fun b hb=>by rw [hb];omega,fun p hp=>(b20 p hp).mono fun b hb=>⟨by omega,hb.2⟩⟩,Nat.le_refl _,G20⟩
theorem eEncode_c {A:Nat->Prop} (e:Ent) (o:Option Addr) (c:Nat) (he:OkEnt e) (w:World) (h:Byts w A o e.body) (hA:∀ b,A b->b<hs w):
  Calls Tryz.prog 72 #[entA e o c] w fun r w'=>∃ g n c',r=.returned (.slice (some ⟨g,0,none⟩) n c')/\Grow w w':=by
 have hb:=he.b
 have h2:=he.t2
 unfold MaxT at h2
 have h3:=he.k
 refine nf72 e.term e.kind o e.body.length c w _ fun w1 e1=>?_
 have r1:=Row.new (l:=[.int .i64 (e.term:Int),.int .i64 (e.kind:Int),.slice o e.body.length c]) e1
 have g1:Grow w w1:=only_alloc e1
 have z1:=hs_alloc e1
 refine ⟨_,r1.cell rfl,_,r1.cell rfl,_,_,_,r1.cell rfl,(he.valid o c w1).mono ?_⟩
 rintro _ w9 ⟨rfl,g9⟩
 have z9:=g9.size
 refine ⟨_,rfl,bT fun w12 e12=>?_⟩
 have g12:Grow w9 w12:=only_alloc e12
 have z12:=hs_alloc e12
 have r12:=(r1.grow g9).grow g12
 refine ⟨_,r12.cell rfl,(wInt_c (wr_new (Nat.le_refl _) e12) (by omega) e.term (by omega) (by simp)).mono ?_⟩
 rintro _ w16 ⟨rfl,h16,o16⟩
 have z16:=o16.size
 have r16:=r12.keep o16 (by show ¬hs w9<=hs w;omega)
 rw [List.nil_append] at h16
 have l1:=encI_len e.term
 have l2:=encI_len e.kind
 refine ⟨rfl,_,r16.cell rfl,(wInt_c h16 (by omega) e.kind (by omega) (by omega)).mono ?_⟩
 rintro _ w19 ⟨rfl,h19,o19⟩
 have z19:=o19.size
 have r19:=r16.keep o19 (by show ¬hs w9<=hs w;omega)
 have hb19:Byts w19 A o e.body:=((((h.grow g1).grow g9).grow g12).keep o16 fun b hb hb'=>by have:=hA b hb;have:hs w9<=b:=hb';omega).keep o19 fun b hb hb'=>by have:=hA b hb;have:hs w9<=b:=hb';omega
 refine ⟨rfl,_,_,_,r19.cell rfl,(wBytes_c h19 (by omega) o c e.body hb19 (fun b hb=>by have:=hA b hb;omega) (by omega) (by rw [List.length_append];omega)).mono ?_⟩
 rintro _ w24 ⟨rfl,h24,o24⟩
 have l3:=encI_len e.body.length
 refine ⟨rfl,(encoded_c h24 (by simp only [List.length_append];omega)).mono ?_⟩
 rintro _ w26 ⟨g,rfl,-,-,g26⟩
 refine ⟨_,_,_,rfl,g,_,_,rfl,?_⟩
 exact ((((g1.trans' g9).trans' g12).trans ((o16.trans' o19).trans' o24) fun b hb e=>by have:hs w9<=b:=e;omega)).trans' g26
end
end Go.Proofs.YtcaokpglbolkcaaGreat
