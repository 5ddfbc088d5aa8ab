import Derived.Test.YtcaokpglbolkcaaGreatWz
import Derived.Test.YtcaokpglbolkcaaGreatNf2
namespace Go.Proofs.YtcaokpglbolkcaaGreat
open Go Go.Nf Go.RowKit
/-! ### what the records say -/
inductive Op where
 | t (T:Nat)
 | v (T n:Nat)
 | e (i:Nat) (x:Ent)
def encE (e:Ent):List UInt8:=encI e.term++(encI e.kind++(encI e.body.length++e.body))
def recOf:Op->Rc
 | .t T=>⟨84,encI T⟩
 | .v T n=>⟨86,encI T++encI n⟩
 | .e i x=>⟨69,encI i++encE x⟩
structure St where
 term:Nat
 voted:Option Nat
 log:List Ent
def stepOp (s:St):Op->St
 | .t T=>⟨T,none,s.log⟩
 | .v T n=>⟨T,some n,s.log⟩
 | .e i x=>⟨s.term,s.voted,s.log.take (i - 1)++[x]⟩
def st (ops:List Op):St:=ops.foldl stepOp ⟨0,none,[]⟩
abbrev MaxT:Nat:=1099511627776
structure OkEnt (e:Ent):Prop where
 t1:1<=e.term
 t2:e.term<=MaxT
 k:1<=e.kind/\e.kind<=3
 b:e.body.length<=64
 m:e.kind=3->∃ c,Permit c/\encM c=e.body
def okOp (s:St):Op->Prop
 | .t T=>s.term<T/\T<=MaxT
 | .v T n=>1<=T/\T<=MaxT/\n<9/\(s.term<T\/(s.term=T/\s.voted=none))
 | .e i x=>1<=i/\i<=s.log.length+1/\OkEnt x/\∀ y,1<i->s.log[i - 2]?=some y->y.term<=x.term
def Hist (ops:List Op):Prop:=∀ (i:Nat) o,ops[i]?=some o->okOp (st (ops.take i)) o
theorem st_snoc (ops:List Op) (o:Op):st (ops++[o])=stepOp (st ops) o:=by unfold st;rw [List.foldl_append];rfl
theorem Hist.snoc {ops:List Op} {o:Op} (h:Hist ops) (k:okOp (st ops) o):Hist (ops++[o]):=fun i x hx=>by
 rcases Nat.lt_trichotomy i ops.length with hi | hi | hi
 ·rw [List.getElem?_append_left hi] at hx
  rw [List.take_append_of_le_length (by omega)]
  exact h i x hx
 ·subst hi
  simp only [List.getElem?_concat_length,Option.some.injEq] at hx
  subst hx
  rw [List.take_left];exact k
 ·rw [List.getElem?_eq_none (by rw [List.length_append,List.length_singleton];omega)] at hx
  cases hx
theorem encE_len {e:Ent} (h:OkEnt e):(encE e).length<=94:=by
 have h1:=encI_len e.term
 have h2:=encI_len e.kind
 have h3:=encI_len e.body.length
 have h4:=h.b
 unfold encE
 simp only [List.length_append];omega
theorem recOf_len {s:St} {o:Op} (h:okOp s o):(recOf o).body.length<=104:=by
 cases o with
 | t T=>have:=encI_len T;show (encI T).length<=104;omega
 | v T n=>have:=encI_len T;have:=encI_len n;show (encI T++encI n).length<=104;rw [List.length_append];omega
 | e i x=>
  have h1:=encI_len i
  have h2:=encE_len h.2.2.1
  show (encI i++encE x).length<=104
  rw [List.length_append];omega
theorem Hist.lens {ops:List Op} (h:Hist ops):∀ r∈ops.map recOf,r.body.length<=104:=fun r hr=>by
 obtain ⟨o,ho,rfl⟩:=List.mem_map.1 hr
 obtain ⟨i,hi⟩:=List.getElem?_of_mem ho
 exact recOf_len (h i o hi)
theorem encFrom_len:∀ (rs:List Rc) (s:Int),(∀ r∈rs,r.body.length<=104)->(encFrom s rs).length<=123*rs.length
 | [],_,_=>by simp [encFrom]
 | r::rs,s,h=>by
  have h1:=recEnc_len s r
  have h2:=h r (.head _)
  have h3:=encFrom_len rs (chk s r) fun x hx=>h x (.tail _ hx)
  rw [encFrom,List.length_append,List.length_cons];omega
theorem Hist.logOk {ops:List Op} (h:Hist ops):(∀ e∈(st ops).log,OkEnt e)/\∀ (i j:Nat) x y,i<=j->(st ops).log[i]?=some x->(st ops).log[j]?=some y->x.term<=y.term:=by
 have key:∀ k (ops:List Op),ops.length=k->Hist ops->(∀ e∈(st ops).log,OkEnt e)/\∀ (i j:Nat) x y,i<=j->(st ops).log[i]?=some x->(st ops).log[j]?=some y->x.term<=y.term:=by
  intro k
  induction k with
  | zero=>
   intro ops hl _
   rw [List.eq_nil_of_length_eq_zero hl]
   exact ⟨fun e he=>(by cases he),fun i j x y _ hx=>(by simp [st] at hx)⟩
  | succ k ih=>
   intro ops hl hh
   rcases List.eq_nil_or_concat ops with rfl | ⟨ops',o,rfl⟩
   ·simp at hl
   ·rw [List.concat_eq_append] at*
    have hl':ops'.length=k:=by simpa using hl
    have hh':Hist ops':=fun i x hx=>by
     have hi:=(List.getElem?_eq_some_iff.1 hx).1
     have:=hh i x (by rw [List.getElem?_append_left hi];exact hx)
     rwa [List.take_append_of_le_length (by omega)] at this
    have ho:okOp (st ops') o:=by
     have:=hh ops'.length o (by simp)
     rwa [List.take_left] at this
    obtain ⟨q1,q2⟩:=ih ops' hl' hh'
    rw [st_snoc]
    cases o with
    | t T=>exact ⟨q1,q2⟩
    | v T n=>exact ⟨q1,q2⟩
    | e i x=>
     obtain ⟨o1,o2,o3,o4⟩:=ho
     refine ⟨fun e he=>?_,fun a b x' y hab hx hy=>?_⟩
     ·rcases List.mem_append.1 he with he | he
      ·exact q1 e (List.mem_of_mem_take he)
      ·rw [List.mem_singleton.1 he];exact o3
     ·have hx:((st ops').log.take (i - 1)++[x])[a]?=some x':=hx
      have hy:((st ops').log.take (i - 1)++[x])[b]?=some y:=hy
      rcases at_snoc hy with ⟨hb,hy⟩ | ⟨hb,hy⟩
      ·rcases at_snoc hx with ⟨ha,hx⟩ | ⟨ha,hx⟩
       ·rw [List.getElem?_take] at hx hy
        split at hx
        ·split at hy
         ·exact q2 a b x' y hab hx hy
         ·cases hy
        ·cases hx
       ·omega
      ·subst hy
       rcases at_snoc hx with ⟨ha,hx⟩ | ⟨ha,hx⟩
       ·rw [List.length_take] at ha
        rw [List.getElem?_take,if_pos (by omega)] at hx
        have hl2:i - 2<(st ops').log.length:=by omega
        have h1:=q2 a (i - 2) x' _ (by omega) hx (List.getElem?_eq_getElem hl2)
        have h2:=o4 _ (by omega) (List.getElem?_eq_getElem hl2)
        omega
       ·rw [hx];exact Nat.le_refl _
 exact key _ ops rfl h
/-! ### the vote record -/
def optI:Option Nat->Int
 | none=>-1
 | some n=>n
abbrev VRAt (w:World) (vr j:Nat) (T:Nat) (v:Option Nat):Prop:=Row w vr 111 [.pointer (some ⟨j,0,none⟩),.int .i64 (T:Int),.int .i64 (optI v)]
section
variable {w:World} {J F D:Nat->Prop} {j t vr dur T:Nat} {v:Option Nat} {rs:List Rc}
theorem term_c (h:VRAt w vr j T v):Calls Tryz.prog 36 #[.pointer (some ⟨vr,0,none⟩)] w fun e w'=>e=.returned (.int .i64 (T:Int))/\w'=w:=nf36 vr w _ ⟨_,h.cell rfl,rfl,rfl⟩
theorem votedFor_c (h:VRAt w vr j T v):Calls Tryz.prog 74 #[.pointer (some ⟨vr,0,none⟩)] w fun e w'=>e=.returned (.int .i64 (optI v))/\w'=w:=nf74 vr w _ ⟨_,h.cell rfl,rfl,rfl⟩
theorem validTerm_c {T:Nat} (h1:1<=T) (h2:T<=MaxT) (w:World):Calls Tryz.prog 94 #[.int .i64 (T:Int)] w fun e w'=>e=.returned (.bool true)/\w'=w:=nf94 T w _ (yes (by omega) (yes (by unfold MaxT at h2;omega) ⟨rfl,rfl⟩))
theorem validNode_c {n:Nat} (h:n<9) (w:World):Calls Tryz.prog 95 #[.int .i64 (n:Int)] w fun e w'=>e=.returned (.bool true)/\w'=w:=nf95 n w _ (yes (by omega) (yes (by omega) ⟨rfl,rfl⟩))
structure JTo (w w':World) (J F D J' F' D':Nat->Prop):Prop where
 o:Only (fun b=>J b\/F b) w w'
 nJ:∀ b,J' b->J b\/hs w<=b
 nF:∀ b,F' b->F b\/hs w<=b
 nD:∀ b,D' b->D b\/hs w<=b
 mD:∀ b,D b->D' b
theorem JAt.noRow (h:JAt w J F D j t rs dur) {q TT:Nat} {l:List Value} (r:Row w q TT l) (hT:TT≠102/\TT≠104/\TT≠60/\TT≠63/\TT≠5):¬(J q\/F q):=fun hq=>by
 rcases hq with hq | hq
 ·obtain ⟨T,l',r',hT'⟩:=h.b.ty q hq
  have:=(r.inj r').2
  rcases hT' with rfl | rfl | rfl
  ·exact hT.1 this
  ·exact hT.2.1 this
  ·exact hT.2.2.1 this
 ·obtain ⟨T,l',r',hT'⟩:=h.f.ty q hq
  have:=(r.inj r').2
  rcases hT' with rfl | rfl
  ·exact hT.2.2.2.1 this
  ·exact hT.2.2.2.2 this
theorem store_c {A:Nat->Prop} {o:Option Addr} {c:Nat} (r:Rc) (h:JAt w J F D j t rs dur) (hv:VRAt w vr j T v) (hl:rs.length<=1000000) (hb:Byts w A o r.body) (hbl:r.body.length<=8192) (hd:(encFrom sum0 rs).length+8300<=16777216) (hA:∀ b,A b->b<hs w/\¬J b/\¬F b):
  Calls Tryz.prog 102 #[.pointer (some ⟨vr,0,none⟩),.int .u8 (r.kind.toNat:Int),.slice o r.body.length c] w fun e w'=>e=.returned (.int .i64 0)/\VRAt w' vr j T v/\∃ J' F' D',JAt w' J' F' D' j t (rs++[r]) (encFrom sum0 (rs++[r])).length/\JTo w w' J F D J' F' D':=by
 refine nf102 vr r.kind.toNat o r.body.length c w _ ⟨_,hv.cell rfl,(jAppend_c (c:=c) r h hl hb hbl hd hA).mono ?_⟩
 rintro _ w3 ⟨rfl,J',F',D',h3,o3,nJ,nF,nD,mD⟩
 have v3:=hv.keep o3 (h.noRow hv (by decide))
 refine ⟨_,rfl,nno rfl ⟨_,v3.cell rfl,(jSync_c h3).mono ?_⟩⟩
 rintro _ w9 ⟨rfl,h9,o9⟩
 refine ⟨_,rfl,rfl,v3.keep o9 fun hf=>h3.noRow v3 (by decide) (.inr hf),J',F',D',h9,o3.trans o9 fun b hb hf=>?_,nJ,nF,nD,mD⟩
 rcases nF b hf with k | k
 ·exact .inr k
 ·omega
theorem advance_c {T':Nat} (h:JAt w J F D j t rs dur) (hv:VRAt w vr j T v) (hl:rs.length<=1000000) (hd:(encFrom sum0 rs).length+8300<=16777216) (hT:T<T') (hT':T'<=MaxT) (hvD:¬D vr):
  Calls Tryz.prog 73 #[.pointer (some ⟨vr,0,none⟩),.int .i64 (T':Int)] w fun e w'=>e=.returned (.int .i64 0)/\VRAt w' vr j T' none/\∃ J' F' D',JAt w' J' F' D' j t (rs++[recOf (.t T')]) (encFrom sum0 (rs++[recOf (.t T')])).length/\Only (fun b=>(J b\/F b)\/b=vr) w w'/\(∀ b,J' b->J b\/hs w<=b)/\(∀ b,F' b->F b\/hs w<=b)/\(∀ b,D' b->D b\/hs w<=b)/\∀ b,D b->D' b:=by
 unfold MaxT at hT'
 refine nf73 vr T' w _ ((validTerm_c (by omega) hT' w).mono ?_)
 rintro _ w2 ⟨rfl,e2⟩
 have e2:=e2.symm
 subst e2
 refine ⟨_,rfl,bT ⟨_,hv.cell rfl,no (by omega) fun w8 e8=>?_⟩⟩
 have g8:Grow w w8:=only_alloc e8
 have z8:=hs_alloc e8
 refine (wInt_c (wr_new (Nat.le_refl _) e8) (by omega) T' (by omega) (by simp)).mono ?_
 rintro _ w11 ⟨rfl,h11,o11⟩
 rw [List.nil_append] at h11
 have hel:=encI_len T'
 refine ⟨rfl,(encoded_c h11 (by omega)).mono ?_⟩
 rintro _ w13 ⟨g,rfl,r13,zg,g13⟩
 have G11:Grow w w11:=g8.trans o11 fun b hb e=>by have:hs w<=b:=e;omega
 have G13:=G11.trans' g13
 have z13:=G13.size
 have z11:=G11.size
 have zg':=r13.lt
 have h13:=h.grow G13
 have v13:=hv.grow G13
 have hlt:=h.lt
 refine ⟨_,_,_,rfl,(store_c (A:=fun b=>b=g) (o:=some ⟨g,0,none⟩) (c:=(encI T').length) ⟨84,encI T'⟩ h13 v13 hl (row_byts r13) (by show (encI T').length<=8192;omega) hd (fun b hb=>⟨by omega,fun k=>by have:=hlt b (.inl k);omega,fun k=>by have:=hlt b (.inr k);omega⟩)).mono ?_⟩
 rintro _ w18 ⟨rfl,v18,J',F',D',h18,t18⟩
 refine ⟨_,rfl,nno rfl ⟨v18.there (by simp),fun w22 e22=>?_⟩⟩
 have r22:Row w22 vr 111 [.pointer (some ⟨j,0,none⟩),.int .i64 (T':Int),.int .i64 (optI v)]:=v18.set e22
 refine ⟨r22.there (by simp),fun w24 e24=>?_⟩
 have r24:VRAt w24 vr j T' none:=r22.set e24
 have o24:Only (fun b=>b=vr) w18 w24:=(only_set e22).trans' (only_set e24)
 have nvr:=h18.noRow v18 (by decide)
 have nvD:¬D' vr:=fun hD=>by
  rcases t18.nD vr hD with k | k
  ·exact hvD k
  ·have:=v13.lt;omega
 have h24:=h18.keep o24 (fun b hb e=>nvr (.inl (e ▸ hb))) (fun b hb e=>nvr (.inr (e ▸ hb))) fun b hb e=>nvD (e ▸ hb)
 refine ⟨rfl,r24,J',F',D',h24,?_,fun b hb=>(t18.nJ b hb).imp id fun k=>by omega,fun b hb=>(t18.nF b hb).imp id fun k=>by omega,fun b hb=>(t18.nD b hb).imp id fun k=>by omega,t18.mD⟩
 exact ((Grow.only G13).trans' (t18.o.mono fun b _ hb=>.inl hb)).trans' (o24.mono fun b _ hb=>.inr hb)
theorem grant_c {T' n:Nat} (h:JAt w J F D j t rs dur) (hv:VRAt w vr j T v) (hl:rs.length<=1000000) (hd:(encFrom sum0 rs).length+8300<=16777216) (h1:1<=T') (hT':T'<=MaxT) (hn:n<9) (hT:T<T'\/(T=T'/\v=none)) (hvD:¬D vr):
  Calls Tryz.prog 66 #[.pointer (some ⟨vr,0,none⟩),.int .i64 (T':Int),.int .i64 (n:Int)] w fun e w'=>e=.returned (.int .i64 0)/\VRAt w' vr j T' (some n)/\∃ J' F' D',JAt w' J' F' D' j t (rs++[recOf (.v T' n)]) (encFrom sum0 (rs++[recOf (.v T' n)])).length/\Only (fun b=>(J b\/F b)\/b=vr) w w'/\(∀ b,J' b->J b\/hs w<=b)/\(∀ b,F' b->F b\/hs w<=b)/\(∀ b,D' b->D b\/hs w<=b)/\∀ b,D b->D' b:=by
 unfold MaxT at hT'
 refine nf66 vr T' n w _ ((validTerm_c h1 hT' w).mono ?_)
 rintro _ w2 ⟨rfl,e2⟩
 have e2:=e2.symm
 subst e2
 refine ⟨_,rfl,bT ((validNode_c hn w).mono ?_)⟩
 rintro _ w6 ⟨rfl,e6⟩
 have e6:=e6.symm
 subst e6
 have tail:∀ (w20:World),w20=w.alloc (.cells #[.slice none 0 0] 137 (0,0))->Calls Tryz.prog 101 #[.pointer (some ⟨hs w,0,none⟩),.int .i64 (T':Int)] w20 fun e22 w23=>e22=.returned (.tuple #[])/\Calls Tryz.prog 101 #[.pointer (some ⟨hs w,0,none⟩),.int .i64 (n:Int)] w23 fun e24 w25=>e24=.returned (.tuple #[])/\Calls Tryz.prog 85 #[.pointer (some ⟨hs w,0,none⟩)] w25 fun e26 w27=>∃ (o28:Option Addr) (n29 n30:Nat),e26=.returned (.slice o28 n29 n30)/\Calls Tryz.prog 102 #[.pointer (some ⟨vr,0,none⟩),.int .u8 86,.slice o28 n29 n30] w27 fun e31 w32=>∃ x33:Int,e31=.returned (.int .i64 x33)/\((!decide (x33=0))=true->(Ending.returned (.int .i64 x33)=.returned (.int .i64 0)/\VRAt w32 vr j T' (some n)/\∃ J' F' D',JAt w32 J' F' D' j t (rs++[recOf (.v T' n)]) (encFrom sum0 (rs++[recOf (.v T' n)])).length/\Only (fun b=>(J b\/F b)\/b=vr) w w32/\(∀ b,J' b->J b\/hs w<=b)/\(∀ b,F' b->F b\/hs w<=b)/\(∀ b,D' b->D b\/hs w<=b)/\∀ b,D b->D' b))/\((!decide (x33=0))=false->There w32 ⟨vr,1,none⟩ 1/\∀ w36,w36=setCells w32 ⟨vr,1,none⟩ [.int .i64 (T':Int)] 0->There w36 ⟨vr,2,none⟩ 1/\∀ w38,w38=setCells w36 ⟨vr,2,none⟩ [.int .i64 (n:Int)] 0->(Ending.returned (.int .i64 0)=.returned (.int .i64 0)/\VRAt w38 vr j T' (some n)/\∃ J' F' D',JAt w38 J' F' D' j t (rs++[recOf (.v T' n)]) (encFrom sum0 (rs++[recOf (.v T' n)])).length/\Only (fun b=>(J b\/F b)\/b=vr) w w38/\(∀ b,J' b->J b\/hs w<=b)/\(∀ b,F' b->F b\/hs w<=b)/\(∀ b,D' b->D b\/hs w<=b)/\∀ b,D b->D' b)):=by
  intro w8 e8
  have g8:Grow w w8:=only_alloc e8
  have z8:=hs_alloc e8
  refine (wInt_c (wr_new (Nat.le_refl _) e8) (by omega) T' (by omega) (by simp)).mono ?_
  rintro _ w9 ⟨rfl,h9,o9⟩
  rw [List.nil_append] at h9
  have hel:=encI_len T'
  have hen:=encI_len n
  refine ⟨rfl,(wInt_c h9 (by have:=o9.size;omega) n (by omega) (by omega)).mono ?_⟩
  rintro _ w11 ⟨rfl,h11,o11⟩
  have hll:(encI T'++encI n).length<=20:=by rw [List.length_append];omega
  refine ⟨rfl,(encoded_c h11 (by omega)).mono ?_⟩
  rintro _ w13 ⟨g,rfl,r13,zg,g13⟩
  have G11:Grow w w11:=g8.trans (o9.trans' o11) fun b hb e=>by have:hs w<=b:=e;omega
  have G13:=G11.trans' g13
  have z13:=G13.size
  have z11:=G11.size
  have zg':=r13.lt
  have h13:=h.grow G13
  have v13:=hv.grow G13
  have hlt:=h.lt
  refine ⟨_,_,_,rfl,(store_c (A:=fun b=>b=g) (o:=some ⟨g,0,none⟩) (c:=(encI T'++encI n).length) ⟨86,encI T'++encI n⟩ h13 v13 hl (row_byts r13) (by show (encI T'++encI n).length<=8192;omega) hd (fun b hb=>⟨by omega,fun k=>by have:=hlt b (.inl k);omega,fun k=>by have:=hlt b (.inr k);omega⟩)).mono ?_⟩
  rintro _ w18 ⟨rfl,v18,J',F',D',h18,t18⟩
  refine ⟨_,rfl,nno rfl ⟨v18.there (by simp),fun w22 e22=>?_⟩⟩
  have r22:Row w22 vr 111 [.pointer (some ⟨j,0,none⟩),.int .i64 (T':Int),.int .i64 (optI v)]:=v18.set e22
  refine ⟨r22.there (by simp),fun w24 e24=>?_⟩
  have r24:VRAt w24 vr j T' (some n):=r22.set e24
  have o24:Only (fun b=>b=vr) w18 w24:=(only_set e22).trans' (only_set e24)
  have nvr:=h18.noRow v18 (by decide)
  have nvD:¬D' vr:=fun hD=>by
   rcases t18.nD vr hD with k | k
   ·exact hvD k
   ·have:=v13.lt;omega
  have h24:=h18.keep o24 (fun b hb e=>nvr (.inl (e ▸ hb))) (fun b hb e=>nvr (.inr (e ▸ hb))) fun b hb e=>nvD (e ▸ hb)
  refine ⟨rfl,r24,J',F',D',h24,?_,fun b hb=>(t18.nJ b hb).imp id fun k=>by omega,fun b hb=>(t18.nF b hb).imp id fun k=>by omega,fun b hb=>(t18.nD b hb).imp id fun k=>by omega,t18.mD⟩
  exact ((Grow.only G13).trans' (t18.o.mono fun b _ hb=>.inl hb)).trans' (o24.mono fun b _ hb=>.inr hb)
 refine ⟨_,rfl,bT ⟨_,hv.cell rfl,no (by omega) ⟨_,hv.cell rfl,fun heq=>?_,fun _=>tail⟩⟩⟩
 have heq:=dT heq
 have hvn:v=none:=by
  rcases hT with k | k
  ·omega
  ·exact k.2
 subst hvn
 exact ⟨_,hv.cell rfl,no (by show ¬((-1:Int)>=0);decide) tail⟩
theorem grant_same {n:Nat} (hv:VRAt w vr j T (some n)) (h1:1<=T) (hT:T<=MaxT) (hn:n<9):
  Calls Tryz.prog 66 #[.pointer (some ⟨vr,0,none⟩),.int .i64 (T:Int),.int .i64 (n:Int)] w fun e w'=>e=.returned (.int .i64 0)/\w'=w:=by
 unfold MaxT at hT
 refine nf66 vr T n w _ ((validTerm_c h1 hT w).mono ?_)
 rintro _ w2 ⟨rfl,e2⟩
 have e2:=e2.symm
 subst e2
 refine ⟨_,rfl,bT ((validNode_c hn w).mono ?_)⟩
 rintro _ w6 ⟨rfl,e6⟩
 have e6:=e6.symm
 subst e6
 exact ⟨_,rfl,bT ⟨_,hv.cell rfl,no (by omega) ⟨_,hv.cell rfl,yes rfl ⟨_,hv.cell rfl,yes (by show ((n:Int)>=0);omega) ⟨_,hv.cell rfl,nno rfl ⟨rfl,rfl⟩⟩⟩⟩⟩⟩
end
end Go.Proofs.YtcaokpglbolkcaaGreat
