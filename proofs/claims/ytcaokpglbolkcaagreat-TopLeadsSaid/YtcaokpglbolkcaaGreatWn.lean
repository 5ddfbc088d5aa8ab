import Derived.Test.YtcaokpglbolkcaaGreatWm
namespace Go.Proofs.YtcaokpglbolkcaaGreat
open Go Go.Nf Go.RowKit
theorem recs_off {α:Type} {f:α->List Value} {k c n:Nat} {w:World} {A:Nat->Prop} {o:Option Addr} {ps:List α} (h:Recs w A o k (ps.map f)) (hc:ps.length<=c):Recs w A (if c=n then o else o.map fun x=>x.add (n*k)) k ((ps.drop n).map f):=fun i row hi=>by
 rw [List.getElem?_map,List.getElem?_drop] at hi
 cases hp:ps[n+i]? with
 | none=>rw [hp] at hi;cases hi
 | some p=>
  rw [hp] at hi
  cases hi
  have hlt:=(List.getElem?_eq_some_iff.1 hp).1
  obtain ⟨a,rfl,hA,hcell⟩:=h (n+i) (f p) (by rw [List.getElem?_map,hp];rfl)
  rw [if_neg (by omega)]
  refine ⟨_,rfl,by rw [block_add1];exact hA,fun j v hj=>?_⟩
  have:=hcell j v hj
  rw [toNat_cast] at this ⊢
  rw [add_add a,<- Nat.add_mul];exact this
theorem recs_take {α:Type} {f:α->List Value} {k n:Nat} {w:World} {A:Nat->Prop} {o:Option Addr} {ps:List α} (h:Recs w A o k (ps.map f)):Recs w A o k ((ps.take n).map f):=fun i row hi=>by
 rw [List.map_take,List.getElem?_take] at hi
 split at hi
 ·exact h i row hi
 ·cases hi
theorem Ents.off {w:World} {A:Nat->Prop} {o:Option Addr} {es:List Ent} {c n:Nat} (h:Ents w A o es) (hc:es.length<=c):Ents w A (if c=n then o else o.map fun x=>x.add (n*3)) (es.drop n):=by
 obtain ⟨ps,h1,h2,h3⟩:=h
 have hl:ps.length=es.length:=by rw [<- h1,List.length_map]
 exact ⟨ps.drop n,by rw [List.map_drop,h1],recs_off h2 (by omega),fun p hp=>h3 p (List.mem_of_mem_drop hp)⟩
theorem Ents.take {w:World} {A:Nat->Prop} {o:Option Addr} {es:List Ent} {n:Nat} (h:Ents w A o es):Ents w A o (es.take n):=by
 obtain ⟨ps,h1,h2,h3⟩:=h
 exact ⟨ps.take n,by rw [List.map_take,h1],recs_take h2,fun p hp=>h3 p (List.mem_of_mem_take hp)⟩
def zEP:EP:=(⟨0,0,[]⟩,(none,0))
theorem zero49:zeroL Tryz.prog 49=some (entV zEP):=by kernel_rfl
theorem und43:Tryz.prog.underlying 43=some (.slice 49):=of_slice (by kernel_rfl)
theorem run_clear {t T k:Nat} {z:Value} {zl:List Value} (hu:Tryz.prog.underlying t=some (.slice T)) (hz:((Tryz.prog.info? T).bind fun i=>i.zero)=some z) (hzc:z.cells.toList=zl) (hzl:zl.length=k) (hk:0<k) (hz1:zl.all Value.oneCell'=true) {w:World} {B N C j:Nat} {o:Option Addr} {xs:List Value} {K:Value->World->Prop} (h:Own w B T k o N C xs) (hj:j<=N)
  (hK:∀ w',Own w' B T k o j C (xs.take (j*k))->Only (inBlock o) w w'->K (.tuple #[]) w'):
  RunOk Tryz.prog (Hold (Builtin.clear_ #[t] 0 #[.slice (if C=j then o else o.map fun x=>x.add (j*k)) (N - j) (C - j)])) w K:=by
 subst hzc
 have hNC:=h.le
 by_cases h0:N - j=0
 ·refine ⟨_,w,?_,hK w (h.fewer hj) (Only.refl _ _)⟩
  unfold Hold
  rw [h0]
  simp only [Builtin.clear_,run_underlying hu]
  generalize (if C=j then o else o.map fun x=>x.add (j*k))=o'
  cases o' <;> simp [run_underlying hu]
 ·obtain ⟨g,l,rfl,-⟩:=h.head (by omega)
  have hC:¬C=j:=by omega
  rw [if_neg hC]
  have hsz:z.cells.size=k:=by rw [<- Array.length_toList,hzl]
  have hzero:(Builtin.zeroCells z.cells (N - j)).toList=(List.replicate (N - j) z.cells.toList).flatten:=by
   have:=made_eq z.cells.toList (by omega) (N - j)
   rw [<- this]
   simp [Builtin.zeroCells,madeCells]
  have hlen:((List.replicate (N - j) z.cells.toList).flatten).length=(N - j)*k:=by simp [List.length_flatten,hzl]
  have hone:((List.replicate (N - j) z.cells.toList).flatten).all Value.oneCell'=true:=List.all_eq_true.2 fun u hu=>by
   obtain ⟨l',hl',hu⟩:=List.mem_flatten.1 hu
   rw [List.eq_of_mem_replicate hl'] at hu
   exact List.all_eq_true.1 hz1 u hu
  have hsum:j*k+(N - j)*k=N*k:=by rw [<- Nat.add_mul,Nat.add_sub_cancel' hj]
  have hst:=run_storeCells (P:=Tryz.prog) (a:=(⟨g,0,none⟩:Addr).add (j*k)) ((List.replicate (N - j) z.cells.toList).flatten) 0 w (h.there (m:=(N - j)*k) (Nat.le_of_eq hsum)) (by rw [hlen,Nat.zero_add];exact Nat.le_refl _) hone
  have hset:=h.set (vs:=(List.replicate (N - j) z.cells.toList).flatten) (j:=j*k) rfl (by rw [hlen];exact Nat.le_of_eq hsum)
  refine ⟨_,_,?_,hK (setCells w ((⟨g,0,none⟩:Addr).add (j*k)) ((List.replicate (N - j) z.cells.toList).flatten) 0) ?_ ((only_setAdd rfl).mono fun b _ hb=>⟨_,rfl,hb.symm⟩)⟩
  ·unfold Hold
   obtain ⟨n,hn⟩:∃ n,N - j=n+1:=⟨N - j - 1,by omega⟩
   have hzero':=hzero
   have hst':=hst
   rw [hn] at hzero' hst' ⊢
   simp only [Builtin.clear_,run_underlying hu]
   simp [run_underlying hu,run_zeroV hz,hzero',hst']
  ·have:=hset.fewer hj
   have e:(setFrom xs (j*k) ((List.replicate (N - j) z.cells.toList).flatten)).take (j*k)=xs.take (j*k):=by
    have key:∀ (vs l:List Value) (o:Nat) (n:Nat),n<=o->(setFrom l o vs).take n=l.take n:=by
     intro vs
     induction vs with
     | nil=>intro l o n _;rfl
     | cons v vs ih=>intro l o n hn;rw [setFrom,ih _ _ _ (by omega),List.take_set_of_le hn]
    exact key _ _ _ _ (Nat.le_refl _)
   rw [e] at this
   exact this
theorem run_clear43 {w:World} {B N C j:Nat} {o:Option Addr} {xs:List Value} {K:Value->World->Prop} (h:Own w B 49 3 o N C xs) (hj:j<=N)
  (hK:∀ w',Own w' B 49 3 o j C (xs.take (j*3))->Only (inBlock o) w w'->K (.tuple #[]) w'):
  RunOk Tryz.prog (Hold (Builtin.clear_ #[43] 0 #[.slice (if C=j then o else o.map fun x=>x.add (j*3)) (N - j) (C - j)])) w K:=
 run_clear (k:=3) (z:=.agg #[.int .i64 0,.int .i64 0,.slice none 0 0]) und43 (by kernel_rfl) rfl rfl (by decide) rfl h hj hK
section
variable {w:World} {L D:Nat->Prop} {lg:Nat} {es:List Ent}
def tailP (l:Nat) (prev x50:Int) (e:Option Addr) (e_n e_c:Nat) (w75:World) (k40:World->Prop):Prop:=
(∃ o80:Option Addr,(∃ n81:Nat,(∃ n82:Nat,(((w75.cell? (⟨l,0,none⟩:Addr))=(some (Value.slice o80 n81 n82)))/\
((((0:Int)<=(IntKind.wrap IntKind.i64 (prev+x50)))/\
((IntKind.wrap IntKind.i64 (prev+x50))<=((n81:Nat):Int)))/\
(RunOk Tryz.prog (Nf.Hold (Builtin.clear_ #[43] 0 #[(Value.slice (if (n82=((IntKind.wrap IntKind.i64 (prev+x50))).toNat) then o80 else (Option.map (fun (x:Addr)=>(Addr.add x (((IntKind.wrap IntKind.i64 (prev+x50))).toNat*3))) o80)) (n81 - ((IntKind.wrap IntKind.i64 (prev+x50))).toNat) (n82 - ((IntKind.wrap IntKind.i64 (prev+x50))).toNat))])) w75 (fun (v83:Value)=>(fun (w84:World)=>(∃ v85:Value,((v83=v85)/\
(∃ o86:Option Addr,(∃ n87:Nat,(∃ n88:Nat,(((w84.cell? (⟨l,0,none⟩:Addr))=(some (Value.slice o86 n87 n88)))/\
((((0:Int)<=(IntKind.wrap IntKind.i64 (prev+x50)))/\
((IntKind.wrap IntKind.i64 (prev+x50))<=((n88:Nat):Int)))/\
((Nf.There w84 (⟨l,0,none⟩:Addr) 1)/\
(∀ w89:World,((w89=(Nf.setCells w84 (⟨l,0,none⟩:Addr) [(Value.slice (if (n88=0) then o86 else (Option.map (fun (x:Addr)=>x) o86)) (((IntKind.wrap IntKind.i64 (prev+x50))).toNat - 0) (n88 - 0))] 0))->
((((0:Int)<=x50)/\
(x50<=((e_n:Nat):Int)))/\
(∃ k91:(Nat->(Int->(World->Prop))),((∃ n92:Nat,(k91 n92 0 w89))/\
(∀ n93:Nat,((Nat->Value)->
(∀ w95:World,(∀ x96:Int,((k91 n93 x96 w95)->
((((decide (x96<(((e_n - (x50).toNat):Nat):Int)))=true)->
(∃ a99:Addr,(((if (e_c=(x50).toNat) then e else (Option.map (fun (x:Addr)=>(Addr.add x ((x50).toNat*3))) e))=(some a99))/\
((((0:Int)<=x96)/\
(x96<(((e_n - (x50).toNat):Nat):Int)))/\
(∃ x100:Int,(((w95.cell? (Addr.add a99 ((x96).toNat*3)))=(some (Value.int IntKind.i64 x100)))/\
(∃ x101:Int,(((w95.cell? (Addr.add (Addr.add a99 ((x96).toNat*3)) 1))=(some (Value.int IntKind.i64 x101)))/\
(∃ o102:Option Addr,(∃ n103:Nat,(∃ n104:Nat,(((w95.cell? (Addr.add (Addr.add a99 ((x96).toNat*3)) 2))=(some (Value.slice o102 n103 n104)))/\
(∀ w105:World,((w105=(w95.alloc (Obj.cells #[(Value.int IntKind.i64 0),(Value.int IntKind.i64 0),(Value.slice none 0 0)] 49 (0,0))))->
((Nf.There w105 (⟨(hs w95),0,none⟩:Addr) 3)/\
(∀ w107:World,((w107=(Nf.setCells w105 (⟨(hs w95),0,none⟩:Addr) [(Value.int IntKind.i64 x100),(Value.int IntKind.i64 x101),(Value.slice o102 n103 n104)] 0))->
(∀ w109:World,((w109=w107.drew)->
(∃ o111:Option Addr,(∃ n112:Nat,(∃ n113:Nat,(((w109.cell? (⟨l,0,none⟩:Addr))=(some (Value.slice o111 n112 n113)))/\
(∃ x114:Int,(((w109.cell? (⟨(hs w95),0,none⟩:Addr))=(some (Value.int IntKind.i64 x114)))/\
(∃ x115:Int,(((w109.cell? (⟨(hs w95),1,none⟩:Addr))=(some (Value.int IntKind.i64 x115)))/\
(∃ o116:Option Addr,(∃ n117:Nat,(∃ n118:Nat,(((w109.cell? (⟨(hs w95),2,none⟩:Addr))=(some (Value.slice o116 n117 n118)))/\
(Calls Tryz.prog 82 #[(Value.agg #[(Value.int IntKind.i64 x114),(Value.int IntKind.i64 x115),(Value.slice o116 n117 n118)])] w109 (fun (e119:Ending)=>(fun (w120:World)=>(∃ x121:Int,(∃ x122:Int,(∃ o123:Option Addr,(∃ n124:Nat,(∃ n125:Nat,((e119=(Ending.returned (Value.agg #[(Value.int IntKind.i64 x121),(Value.int IntKind.i64 x122),(Value.slice o123 n124 n125)])))/\
((Nf.Kept w109 w120 (⟨l,0,none⟩:Addr) 1)/\
(∀ w126:World,((w126=(w120.alloc (Obj.cells #[(Value.int IntKind.i64 x121),(Value.int IntKind.i64 x122),(Value.slice o123 n124 n125)] 49 (0,0))))->
((Nf.Kept w109 w126 (⟨l,0,none⟩:Addr) 1)/\
(RunOk Tryz.prog (Nf.Hold (Builtin.append_ #[43,43] 43 #[(Value.slice o111 n112 n113),(Value.slice (some (⟨(hs w120),0,none⟩:Addr)) 1 1)])) w126 (fun (v128:Value)=>(fun (w129:World)=>(∃ o130:Option Addr,(∃ n131:Nat,(∃ n132:Nat,((v128=(Value.slice o130 n131 n132))/\
((Nf.There w129 (⟨l,0,none⟩:Addr) 1)/\
(∀ w133:World,((w133=(Nf.setCells w129 (⟨l,0,none⟩:Addr) [(Value.slice o130 n131 n132)] 0))->
(∃ n135:Nat,((n135<n93)/\
(k91 n135 (IntKind.wrap IntKind.i64 (x96+1)) w133)))))))))))))))))))))))))))))))))))))))))))))))))))))))))/\
(((decide (x96<(((e_n - (x50).toNat):Nat):Int)))=false)->
(k40 w95)))))))))))))))))))))))))))))
set_option maxHeartbeats 1000000 in
theorem tail_c {A:Nat->Prop} {o2:Option Addr} {c2 p i:Nat} {l:List Ent} {K:World->Prop} (h:LogAt w L D lg es) (hl:es.length<=100000) (hp:p+i<=es.length) (hi:i<=l.length) (hll:l.length<=1000) (hc2:l.length<=c2) (he:Ents w A o2 l) (hbl:∀ e∈l,e.body.length<=8192) (hA:∀ b,A b->¬L b/\b<hs w)
  (k:∀ w' L' D',LogAt w' L' D' lg (es.take (p+i)++l.drop i)->Only L w w'->(∀ b,L' b->L b\/hs w<=b)->(∀ b,D' b->D b\/hs w<=b)->(∀ b,D b->D' b)->K w'):tailP lg p i o2 l.length c2 w K:=by
 obtain ⟨o,c,ps,h1,h2,h3,h4,h5⟩:=h.ex
 have hpl:ps.length=es.length:=by rw [<- h4,List.length_map]
 have ei:IntKind.wrap .i64 ((p:Int)+(i:Int))=((p+i:Nat):Int):=by rw [wr (by omega)];omega
 have hle:=h3.le
 have inL:∀ b,inBlock o b->L b:=fun b hb=>(h1 b).2 (.inr hb)
 have lgL:L lg:=(h1 lg).2 (.inl rfl)
 unfold tailP
 rw [ei,toNat_cast]
 refine ⟨_,_,_,h2.cell rfl,⟨by omega,by omega⟩,run_clear43 h3 hp fun w84 p84 o84=>⟨_,rfl,?_⟩⟩
 have r84:=h2.keep o84 (h3.apartR h2 (by decide))
 refine ⟨_,_,_,r84.cell rfl,⟨by omega,by omega⟩,r84.there (by simp),fun w89 e89=>?_⟩
 rw [opt_id,ite_self,Nat.sub_zero,Nat.sub_zero] at e89
 have o89:Only (fun b=>b=lg) w84 w89:=only_set e89
 have r89:Row w89 lg 133 [.slice o (p+i) c]:=r84.set e89
 have p89:Own w89 0 49 3 o (p+i) c (ps.flatMap entV |>.take ((p+i)*3)):=p84.keep o89 fun b hb e=>p84.apartR r84 (by decide) (e ▸ hb)
 rw [flat_take entV_len _ _ (by omega)] at p89
 have O89:Only L w w89:=(o84.mono fun b _ hb=>inL b hb).trans' (o89.mono fun b _ hb=>by rw [hb];exact lgL)
 have htl:(es.take (p+i)).length=p+i:=by rw [List.length_take];omega
 have l89:LogAt w89 L D lg (es.take (p+i)):=by
  refine ⟨⟨o,c,ps.take (p+i),h1,by rw [htl];exact r89,by rw [htl];exact p89,by rw [List.map_take,h4],fun q hq=>?_⟩,fun b hb=>⟨(h.ap b hb).1,Nat.lt_of_lt_of_le (h.ap b hb).2 O89.size⟩⟩
  exact (h5 q (List.mem_of_mem_take hq)).keep O89 fun b hb=>(h.ap b hb).1
 have hes:Ents w A (if c2=i then o2 else o2.map fun x=>x.add (i*3)) (l.drop i):=he.off hc2
 rw [toNat_cast]
 have hdl:(l.drop i).length=l.length - i:=List.length_drop
 have z89:=O89.size
 refine ⟨⟨by omega,by omega⟩,fun k x w'=>∃ (m:Nat) (L' D':Nat->Prop),x=(m:Int)/\m<=l.length - i/\k=l.length - i - m/\LogAt w' L' D' lg (es.take (p+i)++(l.drop i).take m)/\Only L w w'/\(∀ b,L' b->L b\/hs w<=b)/\(∀ b,D' b->D b\/hs w<=b)/\∀ b,D b->D' b,⟨_,0,L,D,rfl,by omega,rfl,by simpa using l89,O89,fun b hb=>.inl hb,fun b hb=>.inl hb,fun b hb=>hb⟩,?_⟩
 rintro k95 _ w95 x ⟨m,L',D',rfl,hm,rfl,l95,o95,nL,nD,mD⟩
 have z95:=o95.size
 refine ⟨fun hlt=>?_,fun hge=>?_⟩
 ·have hlt:m<(l.drop i).length:=by have:=dT hlt;omega
  have hat:=List.getElem?_eq_getElem hlt
  have htk:=List.take_succ_eq_append_getElem hlt
  have hmem:=List.mem_of_mem_drop (List.getElem_mem hlt)
  generalize (l.drop i)[m]=e at*
  have hb8:=hbl e hmem
  obtain ⟨a,ob,cb,ha,-,hc0,hc1,hc2',hbo⟩:=(hes.keep o95 fun b hb=>(hA b hb).1).at hat
  refine ⟨a,ha,⟨by omega,by omega⟩,_,hc0,_,hc1,_,_,_,hc2',fun w105 e105=>⟨(Row.new (l:=[_,_,_]) e105).there (by simp),fun w107 e107 w109 e109=>?_⟩⟩
  obtain ⟨r107,g107⟩:=loc (l:=[_,_,_]) (vs:=[.int .i64 (e.term:Int),.int .i64 (e.kind:Int),.slice ob e.body.length cb]) e105 e107 rfl
  have g109:Grow w107 w109:=only_drew e109
  have G:=g107.trans' g109
  have z107:=G.size
  have hel:(es.take (p+i)++(l.drop i).take m).length<=1000000:=by rw [List.length_append,htl,List.length_take];omega
  have l95lt:=l95.low
  refine (epush (A:=A) (c:=cb) e (l95.grow G) hel (r107.grow g109) (hbo.grow G) (by omega) (fun b hb=>by have:=(hA b hb).2;omega) fun w133 L'' l133 o133 n133=>?_:epushP lg (hs w95) w109 _)
  refine ⟨_,by omega,m+1,L'',fun b=>D' b\/(hs w109<=b/\b<hs w133/\¬L'' b),by rw [wr (by omega)];omega,by omega,rfl,?_,?_,fun b hb=>?_,fun b hb=>?_,fun b hb=>.inl (mD b hb)⟩
  ·rw [htk,<- List.append_assoc];exact l133
  ·exact (o95.trans' (Grow.only G)).trans o133 fun b hb k=>(nL b k).elim id fun k=>by omega
  ·rcases n133 b hb with k | k
   ·exact nL b k
   ·right;omega
  ·rcases hb with hb | hb
   ·exact nD b hb
   ·right;omega
 ·have:m=l.length - i:=by have:=dF hge;omega
  subst this
  have e:(l.drop i).take (l.length - i)=l.drop i:=List.take_of_length_le (by omega)
  rw [e] at l95
  exact k w95 L' D' l95 o95 nL nD mD
end
end Go.Proofs.YtcaokpglbolkcaaGreat
