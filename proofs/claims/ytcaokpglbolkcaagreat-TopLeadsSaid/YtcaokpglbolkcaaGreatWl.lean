import Derived.Test.YtcaokpglbolkcaaGreatWk
import Derived.Test.YtcaokpglbolkcaaGreatNf3
import Derived.Laws.IdiomStrings
namespace Go.Proofs.YtcaokpglbolkcaaGreat
open Go Go.Nf Go.RowKit
section
variable {w:World} {J F D:Nat->Prop} {j t vr dur T:Nat} {v:Option Nat} {rs:List Rc}
theorem restoreTerm_c {A:Nat->Prop} {T':Nat} {o:Option Addr} {c:Nat} (hv:VRAt w vr j T v) (hb:Byts w A o (encI T')) (hA:∀ b,A b->b<hs w) (hT:T<T') (hT':T'<=MaxT):
  Calls Tryz.prog 58 #[.pointer (some ⟨vr,0,none⟩),.slice o (encI T').length c] w fun e w'=>e=.returned (.bool true)/\VRAt w' vr j T' none/\Only (fun b=>b=vr) w w':=by
 unfold MaxT at hT'
 have hel:=encI_len T'
 refine nf58 vr o _ c w _ ((newReader_c o c _ (by omega) w hb).mono ?_)
 rintro _ w2 ⟨r,g,rfl,h2,zr,zg,g2⟩
 refine ⟨_,rfl,(rInt_c (n:=T') (xs:=[]) (by omega) (by rw [List.append_nil];exact h2)).mono ?_⟩
 rintro _ w5 ⟨rfl,h5,o5⟩
 refine ⟨_,rfl,(finish_c h5).mono ?_⟩
 rintro _ w8 ⟨rfl,e8⟩
 have e8:=e8.symm
 subst e8
 have G5:Grow w w5:=g2.trans o5 fun b hb e=>by omega
 refine ⟨_,rfl,nno rfl ((validTerm_c (by omega) hT' w5).mono ?_)⟩
 rintro _ w13 ⟨rfl,e13⟩
 have e13:=e13.symm
 subst e13
 have v5:=hv.grow G5
 refine ⟨_,rfl,bT ⟨_,v5.cell rfl,no (by omega) ⟨v5.there (by simp),fun w19 e19=>?_⟩⟩⟩
 have r19:Row w19 vr 111 [.pointer (some ⟨j,0,none⟩),.int .i64 (T':Int),.int .i64 (optI v)]:=v5.set e19
 refine ⟨r19.there (by simp),fun w21 e21=>?_⟩
 have r21:VRAt w21 vr j T' none:=r19.set e21
 exact ⟨rfl,r21,(Grow.only G5).trans' ((only_set e19).trans' (only_set e21))⟩
theorem restoreVote_c {A:Nat->Prop} {T' n:Nat} {o:Option Addr} {c:Nat} (hv:VRAt w vr j T v) (hb:Byts w A o (encI T'++encI n)) (hA:∀ b,A b->b<hs w) (h1:1<=T') (hT':T'<=MaxT) (hn:n<9) (hT:T<T'\/(T=T'/\v=none)):
  Calls Tryz.prog 59 #[.pointer (some ⟨vr,0,none⟩),.slice o (encI T'++encI n).length c] w fun e w'=>e=.returned (.bool true)/\VRAt w' vr j T' (some n)/\Only (fun b=>b=vr) w w':=by
 unfold MaxT at hT'
 have hel:=encI_len T'
 have hen:=encI_len n
 have hll:(encI T'++encI n).length<=20:=by rw [List.length_append];omega
 refine nf59 vr o _ c w _ ((newReader_c o c _ (by omega) w hb).mono ?_)
 rintro _ w2 ⟨r,g,rfl,h2,zr,zg,g2⟩
 refine ⟨_,rfl,(rInt_c (by omega) h2).mono ?_⟩
 rintro _ w5 ⟨rfl,h5,o5⟩
 refine ⟨_,rfl,(rInt_c (n:=n) (xs:=[]) (by omega) (by rw [List.append_nil];exact h5)).mono ?_⟩
 rintro _ w8 ⟨rfl,h8,o8⟩
 refine ⟨_,rfl,(finish_c h8).mono ?_⟩
 rintro _ w11 ⟨rfl,e11⟩
 have e11:=e11.symm
 subst e11
 have G8:Grow w w8:=g2.trans (o5.trans' o8) fun b hb e=>by omega
 refine ⟨_,rfl,nno rfl ((validTerm_c h1 hT' w8).mono ?_)⟩
 rintro _ w16 ⟨rfl,e16⟩
 have e16:=e16.symm
 subst e16
 refine ⟨_,rfl,bT ((validNode_c hn w8).mono ?_)⟩
 rintro _ w20 ⟨rfl,e20⟩
 have e20:=e20.symm
 subst e20
 have v8:=hv.grow G8
 have tail:There w8 ⟨vr,1,none⟩ 1/\∀ w31,w31=setCells w8 ⟨vr,1,none⟩ [.int .i64 (T':Int)] 0->There w31 ⟨vr,2,none⟩ 1/\∀ w33,w33=setCells w31 ⟨vr,2,none⟩ [.int .i64 (n:Int)] 0->(Ending.returned (.bool true)=.returned (.bool true)/\VRAt w33 vr j T' (some n)/\Only (fun b=>b=vr) w w33):=by
  refine ⟨v8.there (by simp),fun w19 e19=>?_⟩
  have r19:Row w19 vr 111 [.pointer (some ⟨j,0,none⟩),.int .i64 (T':Int),.int .i64 (optI v)]:=v8.set e19
  refine ⟨r19.there (by simp),fun w21 e21=>?_⟩
  have r21:VRAt w21 vr j T' (some n):=r19.set e21
  exact ⟨rfl,r21,(Grow.only G8).trans' ((only_set e19).trans' (only_set e21))⟩
 refine ⟨_,rfl,bT ⟨_,v8.cell rfl,no (by omega) ⟨_,v8.cell rfl,fun heq=>?_,fun _=>tail⟩⟩⟩
 have heq:=dT heq
 have hvn:v=none:=by
  rcases hT with k | k
  ·omega
  ·exact k.2
 subst hvn
 exact ⟨_,v8.cell rfl,no (by show ¬((-1:Int)>=0);decide) tail⟩
set_option maxHeartbeats 1000000 in
theorem vOpen_c {ops:List Op} (h:JB w J D j t (ops.map recOf)) (hh:Hist ops) (hl:ops.length<=1000000):
  Calls Tryz.prog 24 #[.pointer (some ⟨j,0,none⟩)] w fun e w'=>e=.returned (.tuple #[.pointer (some ⟨hs w,0,none⟩),.int .i64 0])/\VRAt w' (hs w) j (st ops).term (st ops).voted/\Grow w w':=by
 refine nf24 j w _ (bF fun w3 e3=>?_)
 have r3:VRAt w3 (hs w) j 0 none:=Row.new e3
 have g3:Grow w w3:=only_alloc e3
 have z3:=hs_alloc e3
 have hlens:=hh.lens
 have hrl:(ops.map recOf).length=ops.length:=List.length_map _
 refine (jRecords_c (h.grow g3) (by omega) fun r hr=>by have:=hlens r hr;omega).mono ?_
 rintro _ w6 ⟨o7,c9,rfl,⟨ps,hp1,hp2,hp3⟩,g6⟩
 have z6:=g6.size
 have hpl:ps.length=ops.length:=by rw [<- hrl,<- hp1,List.length_map]
 refine ⟨_,_,_,rfl,fun k x w'=>∃ i:Nat,x=(i:Int)/\i<=ops.length/\k=ops.length - i/\VRAt w' (hs w) j (st (ops.take i)).term (st (ops.take i)).voted/\Only (fun b=>b=hs w) w6 w',⟨_,0,rfl,by omega,rfl,r3.grow g6,Only.refl _ _⟩,?_⟩
 rintro k _ w14 x ⟨i,rfl,hi,rfl,v14,o14⟩
 have z14:=o14.size
 refine ⟨fun hlt=>?_,fun hge=>?_⟩
 ·have hlt:i<ops.length:=by have:=dT hlt;omega
  have hx:=List.getElem?_eq_getElem (show i<ps.length by omega)
  have hop:=List.getElem?_eq_getElem hlt
  have hok:=hh i _ hop
  have hstep:st (ops.take (i+1))=stepOp (st (ops.take i)) ops[i]:=by rw [List.take_succ_eq_append_getElem hlt,st_snoc]
  have hrx:(ps[i]'(by omega)).1=recOf ops[i]:=by
   have:=congrArg (fun l=>l[i]?) hp1
   simp only [List.getElem?_map,hx,hop,Option.map_some,Option.some.injEq] at this
   exact this
  have hmem:=List.getElem_mem (show i<ps.length by omega)
  generalize ps[i]'(by omega)=p at*
  generalize ops[i]=op at*
  have hR14:Recs w14 (fun b=>hs w3<=b/\b<hs w6) o7 2 (ps.map recV):=hp2.keep o14 fun b hb e=>by omega
  have hB14:Byts w14 (fun b=>hs w3<=b/\b<hs w6) p.2.1 p.1.body:=(hp3 p hmem).keep o14 fun b hb e=>by omega
  obtain ⟨a,ha,-,hc,hc0⟩:=Recs.atE hR14 hx
  refine ⟨a,ha,⟨by omega,by omega⟩,_,hc0 _ rfl,_,_,_,hc 1 _ rfl,fun w23 e23=>⟨(Row.new (l:=[_,_]) e23).there (by simp),fun w25 e25 k27 hk27=>?_⟩⟩
  obtain ⟨r25,g25⟩:=loc (l:=[_,_]) (vs:=[_,_]) e23 e25 rfl
  have z25:=g25.size
  have v25:=v14.grow g25
  have hB25:=hB14.grow g25
  have fin:∀ w',VRAt w' (hs w) j (st (ops.take (i+1))).term (st (ops.take (i+1))).voted->Only (fun b=>b=hs w) w25 w'->k27 true w':=fun w' hv' ho'=>hk27 w' true fun _=>bT ⟨_,by omega,i+1,by rw [wr (by omega)];omega,hlt,rfl,hv',(o14.trans' (Grow.only g25)).trans' ho'⟩
  refine ⟨_,r25.cell rfl,?_⟩
  rw [hstep] at fin
  cases op with
  | t T'=>
   have ek:p.1.kind=84:=by rw [hrx];rfl
   have eb:p.1.body=encI T':=by rw [hrx];rfl
   obtain ⟨k1,k2⟩:=hok
   refine yes (by rw [ek];rfl) ⟨_,_,_,r25.cell rfl,?_⟩
   rw [eb]
   refine (restoreTerm_c v25 (by rw [<- eb];exact hB25) (fun b hb=>by omega) k1 k2).mono ?_
   rintro _ w42 ⟨rfl,v42,o42⟩
   exact ⟨_,rfl,bT (fin w42 v42 o42)⟩
  | v T' n=>
   have ek:p.1.kind=86:=by rw [hrx];rfl
   have eb:p.1.body=encI T'++encI n:=by rw [hrx];rfl
   obtain ⟨k1,k2,k3,k4⟩:=hok
   refine no (by rw [ek];decide) (yes (by rw [ek];rfl) ⟨_,_,_,r25.cell rfl,?_⟩)
   rw [eb]
   refine (restoreVote_c v25 (by rw [<- eb];exact hB25) (fun b hb=>by omega) k1 k2 k3 k4).mono ?_
   rintro _ w42 ⟨rfl,v42,o42⟩
   exact ⟨_,rfl,bT (fin w42 v42 o42)⟩
  | e i' x'=>
   have ek:p.1.kind=69:=by rw [hrx];rfl
   exact no (by rw [ek];decide) (no (by rw [ek];decide) (fin w25 v25 (Only.refl _ _)))
 ·have:i=ops.length:=by have:=dF hge;omega
  subst this
  rw [List.take_length] at v14
  exact ⟨rfl,v14,(g3.trans' g6).trans o14 fun b hb e=>by omega⟩
end
/-! ### entries -/
abbrev EP:=Ent × (Option Addr × Nat)
def entV (p:EP):List Value:=[.int .i64 (p.1.term:Int),.int .i64 (p.1.kind:Int),.slice p.2.1 p.1.body.length p.2.2]
theorem entV_len (p:EP):(entV p).length=3:=rfl
abbrev entA (e:Ent) (o:Option Addr) (c:Nat):Value:=.agg #[.int .i64 (e.term:Int),.int .i64 (e.kind:Int),.slice o e.body.length c]
def Ents (w:World) (A:Nat->Prop) (o:Option Addr) (es:List Ent):Prop:=∃ ps:List EP,ps.map (·.1)=es/\Recs w A o 3 (ps.map entV)/\∀ p∈ps,Byts w A p.2.1 p.1.body
theorem Ents.keep {w w':World} {A S:Nat->Prop} {o:Option Addr} {es:List Ent} (h:Ents w A o es) (g:Only S w w') (hS:∀ b,A b->¬S b):Ents w' A o es:=by
 obtain ⟨ps,h1,h2,h3⟩:=h
 exact ⟨ps,h1,h2.keep g hS,fun p hp=>(h3 p hp).keep g hS⟩
theorem Ents.grow {w w':World} {A:Nat->Prop} {o:Option Addr} {es:List Ent} (h:Ents w A o es) (g:Grow w w'):Ents w' A o es:=h.keep g fun _ _ h=>h
theorem Ents.mono {w:World} {A A':Nat->Prop} {o:Option Addr} {es:List Ent} (h:Ents w A o es) (hA:∀ b,A b->A' b):Ents w A' o es:=by
 obtain ⟨ps,h1,h2,h3⟩:=h
 exact ⟨ps,h1,h2.mono hA,fun p hp=>(h3 p hp).mono hA⟩
theorem Ents.at {w:World} {A:Nat->Prop} {o:Option Addr} {es:List Ent} (h:Ents w A o es) {i:Nat} {e:Ent} (hi:es[i]?=some e):
  ∃ a ob cb,o=some a/\A a.block/\w.cell? (a.add ((i:Int).toNat*3))=some (.int .i64 (e.term:Int))/\w.cell? ((a.add ((i:Int).toNat*3)).add 1)=some (.int .i64 (e.kind:Int))/\w.cell? ((a.add ((i:Int).toNat*3)).add 2)=some (.slice ob e.body.length cb)/\Byts w A ob e.body:=by
 obtain ⟨ps,h1,h2,h3⟩:=h
 subst h1
 rw [List.getElem?_map] at hi
 cases hp:ps[i]? with
 | none=>rw [hp] at hi;cases hi
 | some p=>
  rw [hp] at hi
  cases hi
  obtain ⟨a,ha,hA,hc,hc0⟩:=Recs.atE h2 hp
  exact ⟨a,_,_,ha,hA,hc0 _ rfl,hc 1 _ rfl,hc 2 _ rfl,h3 p (List.mem_of_getElem? hp)⟩
section
variable {w:World}
theorem validEntry_c {e:Ent} (h1:1<=e.term) (h2:e.term<=MaxT) (h3:1<=e.kind/\e.kind<=3) (h4:e.body.length<=8192) (o:Option Addr) (c:Nat) (w:World):
  Calls Tryz.prog 97 #[entA e o c] w fun r w'=>r=.returned (.bool true)/\Grow w w':=by
 unfold MaxT at h2
 refine nf97 e.term e.kind o e.body.length c w _ fun w1 e1=>?_
 have r1:=Row.new (l:=[_,_,_]) e1
 exact ⟨_,r1.cell rfl,yes (by omega) ⟨_,r1.cell rfl,yes (by omega) ⟨_,r1.cell rfl,yes (by omega) ⟨_,r1.cell rfl,yes (by omega) ⟨_,_,_,r1.cell rfl,yes (by omega) ⟨rfl,only_alloc e1⟩⟩⟩⟩⟩⟩
theorem OkEnt.valid {e:Ent} (h:OkEnt e) (o:Option Addr) (c:Nat) (w:World):Calls Tryz.prog 97 #[entA e o c] w fun r w'=>r=.returned (.bool true)/\Grow w w':=validEntry_c h.t1 h.t2 h.k (by have:=h.b;omega) o c w
theorem eclone_c {A:Nat->Prop} (e:Ent) (o:Option Addr) (c:Nat) (hl:e.body.length<=1000000000) (w:World) (h:Byts w A o e.body) (hA:∀ b,A b->b<hs w):
  Calls Tryz.prog 82 #[entA e o c] w fun r w'=>∃ o' c',r=.returned (entA e o' c')/\Byts w' (fun b=>hs w<=b/\b<hs w') o' e.body/\Grow w w':=by
 refine nf82 e.term e.kind o e.body.length c w _ fun w1 e1 w3 e3 w5 e5=>?_
 have r1:=Row.new (l:=[_,_,_]) e1
 have g1:Grow w w1:=only_alloc e1
 have g3:Grow w1 w3:=only_alloc e3
 have g5:Grow w3 w5:=only_drew e5
 have z1:=hs_alloc e1
 have z3:=hs_alloc e3
 have z5:=hs_drew e5
 have r5:=(r1.grow g3).grow g5
 have q5:=(Row.new (l:=[_,_,_]) e3).grow g5
 refine ⟨_,r5.cell rfl,_,r5.cell rfl,_,_,_,r5.cell rfl,?_⟩
 refine append_at (B:=hs w5) (xs:=[]) (c2:=c) elem42 (own_nil w5 (hs w5) 5 1) (((h.grow g1).grow g3).grow g5) (by simp only [maxLen];omega) (by omega) (Nat.le_refl _) fun o' c' w12 p1 p2 p3=>?_
 rw [Nat.zero_add,List.nil_append] at p1
 rw [Nat.zero_add]
 have G12:Grow w5 w12:=p2.mono fun b _ ⟨a,ha,_⟩=>by cases ha
 have q12:=q5.grow G12
 refine ⟨_,_,_,rfl,kept_only p2 (by omega) (fun ⟨a,ha,_⟩=>by cases ha),kept_only p2 (by omega) (fun ⟨a,ha,_⟩=>by cases ha),q12.there (by simp),fun w16 e16=>?_⟩
 have o16:Only (fun b=>b=hs w1) w12 w16:=only_set e16
 have q16:Row w16 (hs w1) 49 [.int .i64 (e.term:Int),.int .i64 (e.kind:Int),.slice o' e.body.length c']:=q12.set e16
 have z16:=o16.size
 have z12:=G12.size
 refine ⟨_,q16.cell rfl,_,q16.cell rfl,_,_,_,q16.cell rfl,o',c',rfl,((own_byts p1).keep o16 fun b hb e=>?_).mono fun b hb=>?_,?_⟩
 ·have:=(p1.base b hb).1;omega
 ·have:=p1.base b hb;omega
 ·exact (((g1.trans' g3).trans' g5).trans' G12).trans o16 fun b hb e=>by omega
theorem und5:Tryz.prog.underlying 5=some (.int .u8):=by kernel_rfl
theorem und9:Tryz.prog.underlying 9=some .string:=by kernel_rfl
theorem conv_c {A:Nat->Prop} {o:Option Addr} {c:Nat} {xs:List UInt8} {K:Value->World->Prop} (h:Byts w A o xs) (k:K (.string ⟨xs.toArray⟩) w):RunOk Tryz.prog (Hold (convert 42 9 (.slice o xs.length c))) w K:=by
 refine ⟨_,w,?_,k⟩
 unfold Hold
 cases o with
 | none=>
  have:xs=[]:=by
   cases xs with
   | nil=>rfl
   | cons x xs=>obtain ⟨a,ha,-⟩:=h 0 (by1 x) rfl;cases ha
  subst this
  rw [run_convert_bytes_string w 42 9 5 none _ c und42 und5 und9]
  simp [Conv.bytesToString]
  rfl
 | some a=>
  refine run_convert_bytes_back w 42 9 5 a c xs und42 und5 und9 fun i hi=>?_
  obtain ⟨a',ha,-,hc⟩:=h.at (List.getElem?_eq_getElem hi)
  cases ha
  rw [toNat_cast,Nat.mul_one] at hc
  exact hc
theorem strEq_iff {s t:ByteArray}:strEq s t=true↔s=t:=by
 unfold strEq
 rw [beq_toListBytes,ByteArray.toList_eq,ByteArray.toList_eq,beq_iff_eq]
 exact ⟨fun h=>sb_inj h,fun h=>by rw [h]⟩
theorem strEq_bytes (a b:List UInt8):strEq ⟨a.toArray⟩ ⟨b.toArray⟩=decide (a=b):=by
 by_cases h:a=b
 ·rw [h,strEq_iff.2 rfl,decide_eq_true rfl]
 ·rw [decide_eq_false h]
  cases hs:strEq ⟨a.toArray⟩ ⟨b.toArray⟩ with
  | false=>rfl
  | true=>
   have:=congrArg (fun x=>x.data.toList) (strEq_iff.1 hs)
   exact absurd (by simpa using this) h
theorem bytesEqual_c {A B:Nat->Prop} {o o2:Option Addr} {c c2:Nat} {xs ys:List UInt8} (h:Byts w A o xs) (h2:Byts w B o2 ys):
  Calls Tryz.prog 122 #[.slice o xs.length c,.slice o2 ys.length c2] w fun e w'=>e=.returned (.bool (decide (xs=ys)))/\w'=w:=by
 refine nf122 o xs.length c o2 ys.length c2 w _ (conv_c h ⟨_,rfl,conv_c h2 ⟨_,rfl,?_⟩⟩)
 rw [strEq_bytes]
 by_cases hxy:xs=ys
 ·exact yes hxy ⟨by rw [decide_eq_true hxy],rfl⟩
 ·exact no hxy ⟨by rw [decide_eq_false hxy],rfl⟩
theorem eequal_c {A B:Nat->Prop} {a b:Ent} {o o2:Option Addr} {c c2:Nat} (h:Byts w A o a.body) (h2:Byts w B o2 b.body) (hA:∀ x,A x->x<hs w) (hB:∀ x,B x->x<hs w):
  Calls Tryz.prog 125 #[entA a o c,entA b o2 c2] w fun e w'=>e=.returned (.bool (decide (a=b)))/\Grow w w':=by
 refine nf125 a.term a.kind o a.body.length c b.term b.kind o2 b.body.length c2 w _ fun w1 e1 w3 e3=>?_
 have r1:=Row.new (l:=[_,_,_]) e1
 have r3:=Row.new (l:=[_,_,_]) e3
 have g1:Grow w w1:=only_alloc e1
 have g3:Grow w1 w3:=only_alloc e3
 have r1':=r1.grow g3
 have G:=g1.trans' g3
 have ne:∀ (p:Prop),(a=b->p)->¬p->decide (a=b)=false:=fun p h1 h2=>decide_eq_false fun e=>h2 (h1 e)
 refine ⟨_,r1'.cell rfl,_,r3.cell rfl,fun ht=>?_,fun ht=>?_⟩
 ·have ht:=dT ht
  refine ⟨_,r1'.cell rfl,_,r3.cell rfl,fun hk=>?_,fun hk=>?_⟩
  ·have hk:=dT hk
   refine ⟨_,_,_,r1'.cell rfl,_,_,_,r3.cell rfl,(bytesEqual_c ((h.grow g1).grow g3) ((h2.grow g1).grow g3)).mono ?_⟩
   rintro _ w18 ⟨rfl,e18⟩
   have e18:=e18.symm
   subst e18
   have e:decide (a=b)=decide (a.body=b.body):=by
    by_cases hb:a.body=b.body
    ·rw [decide_eq_true hb]
     have ht':a.term=b.term:=by omega
     have hk':a.kind=b.kind:=by omega
     exact decide_eq_true (by cases a;cases b;simp only at ht' hk' hb;rw [ht',hk',hb])
    ·rw [decide_eq_false hb]
     exact decide_eq_false fun e=>hb (by rw [e])
   rw [e]
   refine ⟨_,rfl,fun hb=>⟨by rw [hb],G⟩,fun hb=>⟨by rw [hb],G⟩⟩
  ·have hk:=dF hk
   refine ⟨by rw [decide_eq_false fun e=>hk (by rw [e])],G⟩
 ·have ht:=dF ht
  exact ⟨by rw [decide_eq_false fun e=>ht (by rw [e])],G⟩
end
end Go.Proofs.YtcaokpglbolkcaaGreat
