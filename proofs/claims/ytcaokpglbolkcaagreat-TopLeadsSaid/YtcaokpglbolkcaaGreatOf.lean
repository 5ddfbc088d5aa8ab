import Derived.Test.YtcaokpglbolkcaaGreatOe
namespace Go.Proofs.YtcaokpglbolkcaaGreat
open Go Go.Nf Go.RowKit
section
variable {w:World}
theorem readEntry_c {r g:Nat} {e:Ent} (he:OkEnt e) {rest:List UInt8} (h:RdAt w r g (encE e++rest)):
  Calls Tryz.prog 96 #[.pointer (some ⟨r,0,none⟩)] w fun x w'=>∃ o c,x=.returned (entA e o c)/\Byts w' (fun b=>hs w<=b/\b<hs w') o e.body/\RdAt w' r g rest/\Only (fun b=>b=r) w w':=by
 have h1:=he.t2
 have h2:=he.k
 have h3:=he.b
 unfold MaxT at h1
 refine nf96 r w _ fun w1 e1=>?_
 have r1:=Row.new (l:=[_,_,_]) e1
 have g1:Grow w w1:=only_alloc e1
 have z1:=hs_alloc e1
 have hr:=h.row
 have hg:=h.lt
 have h0:=h.grow g1
 unfold encE at h0
 rw [List.append_assoc] at h0
 refine (rInt_c (by omega) h0).mono ?_
 rintro _ w4 ⟨rfl,h4,o4⟩
 rw [List.append_assoc] at h4
 refine ⟨_,rfl,(rInt_c (by omega) h4).mono ?_⟩
 rintro _ w7 ⟨rfl,h7,o7⟩
 rw [List.append_assoc] at h7
 refine ⟨_,rfl,(rBytes_c (by omega) h7).mono ?_⟩
 rintro _ w10 ⟨o,c,rfl,b10,h10,o10⟩
 have hne:¬hs w=r:=by omega
 have O10:Only (fun b=>b=r) w1 w10:=(o4.trans' o7).trans' o10
 have r10:=r1.keep O10 hne
 have z10:=O10.size
 have z7:=(o4.trans' o7).size
 refine ⟨_,_,_,rfl,r10.there (by simp),fun w14 e14=>?_⟩
 have o14:Only (fun b=>b=hs w) w10 w14:=only_set e14
 have r14:Row w14 (hs w) 49 [.int .i64 (e.term:Int),.int .i64 (e.kind:Int),.slice o e.body.length c]:=r10.set e14
 have z14:=o14.size
 refine ⟨_,r14.cell rfl,_,r14.cell rfl,_,_,_,r14.cell rfl,o,c,rfl,(b10.keep o14 fun b hb e=>by omega).mono fun b hb=>⟨by omega,by omega⟩,h10.keep o14 (by omega) (by omega),?_⟩
 exact ((Grow.only g1).trans' O10).trans o14 fun b hb e=>by omega
theorem decodeRecord_c {A:Nat->Prop} {o:Option Addr} {c i:Nat} {e:Ent} (he:OkEnt e) (hi:i<2305843009213693952) (w:World) (h:Byts w A o (encI i++encE e)):
  Calls Tryz.prog 60 #[.slice o (encI i++encE e).length c] w fun x w'=>∃ o' c',x=.returned (.tuple #[.int .i64 (i:Int),entA e o' c',.bool true])/\Byts w' (fun b=>hs w<=b/\b<hs w') o' e.body/\Grow w w':=by
 have hel:=encI_len i
 have hel2:=encE_len he
 refine nf60 o _ c w _ fun w1 e1=>?_
 have r1:=Row.new (l:=[_,_,_]) e1
 have g1:Grow w w1:=only_alloc e1
 have z1:=hs_alloc e1
 refine (newReader_c o c _ (by rw [List.length_append];omega) w1 (h.grow g1)).mono ?_
 rintro _ w4 ⟨r,g,rfl,h4,zr,zg,g4⟩
 have z4:=g4.size
 refine ⟨_,rfl,(rInt_c hi h4).mono ?_⟩
 rintro _ w7 ⟨rfl,h7,o7⟩
 have z7:=o7.size
 refine ⟨_,rfl,(readEntry_c (rest:=[]) he (by rw [List.append_nil];exact h7)).mono ?_⟩
 rintro _ w10 ⟨o',c',rfl,b10,h10,o10⟩
 have z10:=o10.size
 refine ⟨_,_,_,_,_,rfl,fun w16 e16=>⟨(Row.new (l:=[_,_,_]) e16).there (by simp),fun w18 e18=>?_⟩⟩
 obtain ⟨r18,g18⟩:=loc (l:=[_,_,_]) (vs:=[.int .i64 (e.term:Int),.int .i64 (e.kind:Int),.slice o' e.body.length c']) e16 e18 rfl
 have z18:=g18.size
 refine (finish_c (h10.grow g18)).mono ?_
 rintro _ w21 ⟨rfl,e21⟩
 have e21:=e21.symm
 subst e21
 have b18:=b10.grow g18
 refine ⟨_,rfl,nno rfl ⟨_,r18.cell rfl,_,r18.cell rfl,_,_,_,r18.cell rfl,(eEncode_c e o' c' he w18 b18 (fun b hb=>by omega)).mono ?_⟩⟩
 rintro _ w38 ⟨gg,n38,c38,rfl,g38⟩
 have z38:=g38.size
 refine ⟨_,_,_,rfl,bF fun w51 e51=>?_⟩
 have g51:Grow w38 w51:=only_drew e51
 have z51:=g51.size
 have r51:=(r18.grow g38).grow g51
 have O:Only (fun b=>b=r) w1 w10:=((Grow.only g4).trans' o7).trans' o10
 have q51:=(((r1.keep O (by omega)).grow g18).grow g38).grow g51
 refine ⟨_,r51.cell rfl,_,r51.cell rfl,_,_,_,r51.cell rfl,q51.there (by simp),fun w58 e58=>?_⟩
 have o58:Only (fun b=>b=hs w) w51 w58:=only_set e58
 have z58:=o58.size
 have r58:Row w58 (hs w) 49 [.int .i64 (e.term:Int),.int .i64 (e.kind:Int),.slice o' e.body.length c']:=q51.set e58
 refine ⟨_,r58.cell rfl,_,r58.cell rfl,_,_,_,r58.cell rfl,o',c',rfl,(((b18.grow g38).grow g51).keep o58 fun b hb e=>by omega).mono fun b hb=>⟨by omega,by omega⟩,?_⟩
 have G10:Grow w w10:=g1.trans O fun b hb e=>by omega
 exact (((G10.trans' g18).trans' g38).trans' g51).trans o58 fun b hb e=>by omega
theorem map_id' (o:Option Addr) (c:Nat):(if c=0 then o else Option.map (fun x=>x) o)=o:=by
 split
 ·rfl
 ·cases o <;> rfl
set_option maxHeartbeats 2000000 in
theorem restore_c {A:Nat->Prop} {ops:List Op} {o:Option Addr} {c:Nat} (hh:Hist ops) (hl:ops.length<=95000) (w:World) (h:Rcs w A o (ops.map recOf)) (hA:∀ b,A b->b<hs w):
  Calls Tryz.prog 26 #[.slice o ops.length c] w fun x w'=>∃ lg L D,x=.returned (.tuple #[.pointer (some ⟨lg,0,none⟩),.int .i64 0])/\LogAt w' L D lg (st ops).log/\Grow w w'/\(∀ b,L b->hs w<=b)/\∀ b,D b->hs w<=b:=by
 obtain ⟨rs,hp1,hp2,hp3⟩:=h
 have hpl:rs.length=ops.length:=by rw [<- List.length_map (f:=recOf),<- hp1,List.length_map]
 have hlen:∀ j,j<=ops.length->(st (ops.take j)).log.length<=j:=fun j=>by
  induction j with
  | zero=>intro _;simp [st]
  | succ j ih=>
   intro hj
   have hjl:j<ops.length:=by omega
   have:=ih (by omega)
   rw [List.take_succ_eq_append_getElem hjl,st_snoc]
   cases ops[j] with
   | t T=>show (st (ops.take j)).log.length<=_;omega
   | v T n=>show (st (ops.take j)).log.length<=_;omega
   | e i x=>show ((st (ops.take j)).log.take (i - 1)++[x]).length<=_;rw [List.length_append,List.length_take,List.length_singleton];omega
 refine nf26 o ops.length c w _ ⟨fun kk o6 n7 n8 x w'=>∃ (i:Nat) (ps:List EP),x=(i:Int)/\i<=ops.length/\kk=ops.length - i/\n7=(st (ops.take i)).log.length/\ps.map (·.1)=(st (ops.take i)).log/\Own w' (hs w) 49 3 o6 n7 n8 (ps.flatMap entV)/\(∀ p∈ps,Byts w' (fun b=>hs w<=b/\b<hs w'/\¬inBlock o6 b) p.2.1 p.1.body)/\Grow w w',⟨_,0,[],rfl,by omega,rfl,rfl,rfl,own_nil _ _ _ _,fun p hp=>(by cases hp),Only.refl _ _⟩,?_⟩
 rintro kk _ w5 o6 n7 n8 x ⟨i,ps,rfl,hi,rfl,rfl,hps,own,hby,g5⟩
 have z5:=g5.size
 have hli:=hlen i hi
 have hpsl:ps.length=(st (ops.take i)).log.length:=by rw [<- hps,List.length_map]
 refine ⟨fun hlt k12 hk12=>?_,fun hge=>?_⟩
 ·have hlt:i<ops.length:=by have:=dT hlt;omega
  have ei1:IntKind.wrap .i64 ((i:Int)+1)=((i+1:Nat):Int):=by rw [wr (by omega)];omega
  rw [ei1] at hk12
  have hx:=List.getElem?_eq_getElem (show i<rs.length by omega)
  have hop:=List.getElem?_eq_getElem hlt
  have hok:=hh i _ hop
  have hstep:st (ops.take (i+1))=stepOp (st (ops.take i)) ops[i]:=by rw [List.take_succ_eq_append_getElem hlt,st_snoc]
  have hrx:(rs[i]'(by omega)).1=recOf ops[i]:=by
   have:=congrArg (fun l=>l[i]?) hp1
   simp only [List.getElem?_map,hx,hop,Option.map_some,Option.some.injEq] at this
   exact this
  have hmem:=List.getElem_mem (show i<rs.length by omega)
  generalize rs[i]'(by omega)=p at*
  generalize ops[i]=op at*
  have hR5:Recs w5 A o 2 (rs.map recV):=hp2.grow g5
  have hB5:Byts w5 A p.2.1 p.1.body:=(hp3 p hmem).grow g5
  obtain ⟨a,ha,-,hc,hc0⟩:=Recs.atE hR5 hx
  refine ⟨a,ha,⟨by omega,by omega⟩,_,hc0 _ rfl,_,_,_,hc 1 _ rfl,fun w26 e26=>⟨(Row.new (l:=[_,_]) e26).there (by simp),fun w28 e28=>?_⟩⟩
  obtain ⟨r28,g28⟩:=loc (l:=[_,_]) (vs:=[_,_]) e26 e28 rfl
  have z28:=g28.size
  have fin:∀ w14 o15 n16 n17 (qs:List EP),n16=(st (ops.take (i+1))).log.length->qs.map (·.1)=(st (ops.take (i+1))).log->Own w14 (hs w) 49 3 o15 n16 n17 (qs.flatMap entV)->(∀ p∈qs,Byts w14 (fun b=>hs w<=b/\b<hs w14/\¬inBlock o15 b) p.2.1 p.1.body)->Grow w w14->k12 o15 n16 n17 w14:=fun w14 o15 n16 n17 qs e1 e2 e3 e4 e5=>hk12 w14 o15 n16 n17 fun _=>⟨_,by omega,i+1,qs,rfl,by omega,rfl,e1,e2,e3,e4,e5⟩
  rw [hstep] at fin
  have same:(stepOp (st (ops.take i)) op).log=(st (ops.take i)).log->k12 o6 (st (ops.take i)).log.length n8 w28:=fun e=>fin w28 o6 _ n8 ps (by rw [e]) (by rw [e,hps]) (own.grow g28) (fun p hp=>((hby p hp).grow g28).mono fun b hb=>⟨hb.1,by omega,hb.2.2⟩) (g5.trans' g28)
  refine ⟨_,r28.cell rfl,?_⟩
  cases op with
  | t T'=>
   have ek:p.1.kind=84:=by rw [hrx];rfl
   exact nyes (by rw [ek];decide) (same rfl)
  | v T' n=>
   have ek:p.1.kind=86:=by rw [hrx];rfl
   exact nyes (by rw [ek];decide) (same rfl)
  | e i' x'=>
   have ek:p.1.kind=69:=by rw [hrx];rfl
   have eb:p.1.body=encI i'++encE x':=by rw [hrx];rfl
   obtain ⟨q1,q2,q3,q4⟩:=hok
   refine nno (by rw [ek];rfl) ⟨_,_,_,r28.cell rfl,?_⟩
   rw [eb]
   refine (decodeRecord_c q3 (by omega) w28 (A:=A) (by rw [<- eb];exact hB5.grow g28)).mono ?_
   rintro _ w37 ⟨o41,c43,rfl,b37,g37⟩
   have z37:=g37.size
   refine ⟨_,_,_,_,_,_,_,rfl,bT fun w46 e46=>⟨(Row.new (l:=[_,_,_]) e46).there (by simp),fun w48 e48=>?_⟩⟩
   obtain ⟨r48,g48⟩:=loc (l:=[_,_,_]) (vs:=[.int .i64 (x'.term:Int),.int .i64 (x'.kind:Int),.slice o41 x'.body.length c43]) e46 e48 rfl
   have z48:=g48.size
   have G48:=((g28.trans' g37).trans' g48)
   have en:IntKind.wrap .i64 (((st (ops.take i)).log.length:Int)+1)=(((st (ops.take i)).log.length+1:Nat):Int):=by rw [wr (by omega)];omega
   rw [en]
   refine no (by omega) (no (by omega) fun w54 e54=>?_)
   have g54:Grow w48 w54:=only_drew e54
   have z54:=g54.size
   have r54:=r48.grow g54
   have G54:=G48.trans' g54
   have tail:∀ w62,Grow w54 w62->∀ w69,w69=w62.alloc (.cells #[.int .i64 (x'.term:Int),.int .i64 (x'.kind:Int),.slice o41 x'.body.length c43] 49 (0,0))->
     RunOk Tryz.prog (Hold (Builtin.append_ #[43,43] 43 #[.slice (if n8=0 then o6 else Option.map (fun x=>x) o6) ((IntKind.wrap .i64 ((i':Int) - 1)).toNat - 0) (n8 - 0),.slice (some ⟨hs w62,0,none⟩) 1 1])) w69 fun v w72=>∃ (o73:Option Addr) (n74 n75:Nat),v=.slice o73 n74 n75/\k12 o73 n74 n75 w72:=by
    intro w62 g62 w69 e69
    have r69:=Row.new (l:=entV (x',(o41,c43))) e69
    have g69:Grow w62 w69:=only_alloc e69
    have z69:=hs_alloc e69
    have z62:=g62.size
    have G69:Grow w5 w69:=(G54.trans' g62).trans' g69
    have ew:IntKind.wrap .i64 ((i':Int) - 1)=((i' - 1:Nat):Int):=by rw [wr (by omega)];omega
    rw [map_id',ew,toNat_cast,Nat.sub_zero,Nat.sub_zero]
    have ownT:Own w69 (hs w) 49 3 o6 (i' - 1) n8 ((ps.take (i' - 1)).flatMap entV):=by
     have:=(own.grow G69).fewer (n':=i' - 1) (by omega)
     rwa [flat_take entV_len ps (i' - 1) (by omega)] at this
    refine run_append_at (B:=hs w) elem43 ownT (news:=entV (x',(o41,c43))) rfl (fun j u hu=>r69.cellAdd hu) (by simp [entV,Value.oneCell']) (by simp only [maxLen];omega) (by omega) (by omega) fun o' c' w72 p1 p2 p3=>⟨_,_,_,rfl,?_⟩
    have z72:=p2.size
    have bw:=own.base
    refine fin w72 o' _ c' (ps.take (i' - 1)++[(x',(o41,c43))]) ?_ ?_ ?_ ?_ ?_
    ·show _=((st (ops.take i)).log.take (i' - 1)++[x']).length
     rw [List.length_append,List.length_take,List.length_singleton];omega
    ·show _=(st (ops.take i)).log.take (i' - 1)++[x']
     rw [List.map_append,List.map_take,hps];rfl
    ·rw [List.flatMap_append];simpa using p1
    ·intro p' hp'
     rcases List.mem_append.1 hp' with hp' | hp'
     ·refine (((hby p' (List.mem_of_mem_take hp')).grow G69).keep p2 fun b hb=>hb.2.2).mono fun b hb=>⟨hb.1,by omega,fun k=>?_⟩
      rcases p3 b k with k | k
      ·exact hb.2.2 k
      ·omega
     ·rw [List.mem_singleton.1 hp']
      refine ((((b37.grow g48).grow (g54.trans' g62)).grow g69).keep p2 fun b hb k=>by have:=(bw b k).2;omega).mono fun b hb=>⟨by omega,by omega,fun k=>?_⟩
      rcases p3 b k with k | k
      ·have:=(bw b k).2;omega
      ·omega
    ·exact (g5.trans' G69).trans p2 fun b hb k=>by have:=(bw b k).1;omega
   have ew:IntKind.wrap .i64 ((i':Int) - 1)=((i' - 1:Nat):Int):=by rw [wr (by omega)];omega
   have hcap:=own.le
   refine ⟨fun hgt=>?_,fun hle=>?_⟩
   ·have hgt:1<i':=by have:=dT hgt;omega
    have ew2:IntKind.wrap .i64 ((i':Int) - 2)=((i' - 2:Nat):Int):=by rw [wr (by omega)];omega
    have hat:=List.getElem?_eq_getElem (show i' - 2<ps.length by omega)
    have hq:=q4 ((ps[i' - 2]'(by omega)).1) hgt (by
     rw [<- hps,List.getElem?_map,hat];rfl)
    generalize ps[i' - 2]'(by omega)=pp at*
    obtain ⟨a6,ha6,-,-,hd0⟩:=Recs.atE (own_recs' entV_len (by decide) (own.grow G54)) hat
    refine ⟨_,r54.cell rfl,a6,ha6,?_,_,?_,no (by show ¬((x'.term:Int)<(pp.1.term:Int));omega) fun w62 e62=>?_⟩
    ·rw [ew2];exact ⟨by omega,by omega⟩
    ·rw [ew2];exact hd0 _ rfl
    ·have g62:Grow w54 w62:=only_drew e62
     have r62:=r54.grow g62
     exact ⟨by rw [ew];exact ⟨by omega,by omega⟩,_,r62.cell rfl,_,r62.cell rfl,_,_,_,r62.cell rfl,tail w62 g62⟩
   ·refine fun w62 e62=>?_
    have g62:Grow w54 w62:=only_drew e62
    have r62:=r54.grow g62
    exact ⟨by rw [ew];exact ⟨by omega,by omega⟩,_,r62.cell rfl,_,r62.cell rfl,_,_,_,r62.cell rfl,tail w62 g62⟩
 ·have:i=ops.length:=by have:=dF hge;omega
  subst this
  rw [List.take_length] at*
  obtain ⟨l1,l2⟩:=hh.logOk
  generalize (st ops).log=es at*
  have hE:Ents w5 (fun b=>hs w<=b/\b<hs w5) o6 es:=⟨ps,hps,(own_recs' entV_len (by decide) own).mono fun b hb=>own.base b hb,fun p hp=>(hby p hp).mono fun b hb=>⟨hb.1,hb.2.1⟩⟩
  refine (logNew_c w5).mono ?_
  rintro _ w98 ⟨rfl,lg0,g98,z98⟩
  refine ⟨_,rfl,fun kk x w'=>∃ (j:Nat) (L D:Nat->Prop),x=(j:Int)/\j<=es.length/\kk=es.length - j/\LogAt w' L D (hs w5) (es.take j)/\Grow w5 w'/\(∀ b,L b->hs w5<=b)/\∀ b,D b->hs w5<=b,⟨_,0,_,_,rfl,by omega,rfl,lg0,g98,fun b hb=>by omega,fun b hb=>hb.elim⟩,?_⟩
  rintro kk _ w104 x ⟨j,L,D,rfl,hj,rfl,lgj,g104,hL,hD⟩
  have z104:=g104.size
  refine ⟨fun hlt=>?_,fun hge=>?_⟩
  ·have hlt:j<es.length:=by have:=dT hlt;omega
   have hat:=List.getElem?_eq_getElem hlt
   have htk:=List.take_succ_eq_append_getElem hlt
   have hok:=l1 _ (List.getElem_mem hlt)
   have hlast:lastT (es.take j)<=es[j].term:=by
    unfold lastT
    rw [List.getLast?_eq_getElem?]
    cases hx:(es.take j)[(es.take j).length - 1]? with
    | none=>exact Nat.zero_le _
    | some e=>
     rw [List.getElem?_take] at hx
     split at hx
     ·exact l2 _ _ e _ (by rename_i hh;omega) hx hat
     ·cases hx
   generalize es[j]=ej at*
   obtain ⟨a,ob,cb,ha,-,hc0,hc1,hc2,hbo⟩:=(hE.grow g104).at hat
   refine ⟨a,ha,⟨by omega,by omega⟩,_,hc0,_,hc1,_,_,_,hc2,fun w114 e114=>⟨(Row.new (l:=[_,_,_]) e114).there (by simp),fun w116 e116=>?_⟩⟩
   obtain ⟨r116,g116⟩:=loc (l:=[_,_,_]) (vs:=[.int .i64 (ej.term:Int),.int .i64 (ej.kind:Int),.slice ob ej.body.length cb]) e114 e116 rfl
   have z116:=g116.size
   refine ⟨_,r116.cell rfl,_,r116.cell rfl,_,_,_,r116.cell rfl,(lAppend_c ej (lgj.grow g116) (by rw [List.length_take];omega) hok hlast (hbo.grow g116) (fun b hb=>by omega)).mono ?_⟩
   rintro _ w124 ⟨x125,rfl,L',lg',ho,hL'⟩
   refine ⟨_,_,rfl,nno rfl ⟨_,by omega,j+1,L',(fun b=>D b\/(hs w116<=b/\b<hs w124/\¬L' b)),by rw [wr (by omega)];omega,hlt,rfl,by rw [htk];exact lg',(g104.trans' g116).trans ho fun b hb k=>by have:=hL b k;omega,fun b hb=>(hL' b hb).elim (hL b) fun k=>by omega,fun b hb=>by
    rcases hb with hb | hb
    ·exact hD b hb
    ·omega⟩⟩
  ·have:j=es.length:=by have:=dF hge;omega
   subst this
   rw [List.take_length] at lgj
   exact ⟨_,L,D,rfl,lgj,g5.trans' g104,fun b hb=>by have:=hL b hb;omega,fun b hb=>by have:=hD b hb;omega⟩
end
end Go.Proofs.YtcaokpglbolkcaaGreat
