import Derived.Test.YtcaokpglbolkcaaGreatOf
namespace Go.Proofs.YtcaokpglbolkcaaGreat
open Go Go.Nf Go.RowKit
def OpenP (id wait beat now:Int) (oj ov:Option Addr) (g:Nat) (w0:World) (R:Ending->World->Prop):Prop:=
(∃ o61:Option Addr,(∃ n62:Nat,(∃ n63:Nat,(((w0.cell? (⟨g,0,none⟩:Addr))=(some (Value.slice o61 n62 n63)))/\
(∃ o64:Option Addr,(∃ n65:Nat,(∃ n66:Nat,(((w0.cell? (⟨g,1,none⟩:Addr))=(some (Value.slice o64 n65 n66)))/\
(∀ w67:World,((w67=(w0.alloc (Obj.cells #[(Value.int IntKind.i64 id),(Value.int IntKind.i64 wait),(Value.int IntKind.i64 beat),(Value.pointer oj),(Value.pointer ov),(Value.pointer none),(Value.slice o61 n62 n63),(Value.slice o64 n65 n66),(Value.slice none 0 0),(Value.slice none 0 0),(Value.int IntKind.i64 0),(Value.int IntKind.i64 1),(Value.int IntKind.i64 (-1)),(Value.int IntKind.i64 0),(Value.int IntKind.i64 0),(Value.int IntKind.i64 0),(Value.int IntKind.i64 0),(Value.bool false),(Value.bool false),(Value.bool false),(Value.bool false),(Value.bool false),(Value.bool false),(Value.bool false),(Value.bool false),(Value.bool false),(Value.int IntKind.i64 0),(Value.int IntKind.i64 0),(Value.int IntKind.i64 0),(Value.int IntKind.i64 0),(Value.int IntKind.i64 0),(Value.int IntKind.i64 0),(Value.int IntKind.i64 0),(Value.int IntKind.i64 0),(Value.int IntKind.i64 0),(Value.int IntKind.i64 0),(Value.int IntKind.i64 0),(Value.int IntKind.i64 0),(Value.int IntKind.i64 0),(Value.int IntKind.i64 0),(Value.int IntKind.i64 0),(Value.int IntKind.i64 0),(Value.int IntKind.i64 0),(Value.int IntKind.i64 0),(Value.int IntKind.i64 0),(Value.bool false),(Value.slice none 0 0)] 76 (0,0))))->
(Calls Tryz.prog 27 #[(Value.pointer oj)] w67 (fun (e69:Ending)=>(fun (w70:World)=>(∃ o71:Option Addr,(∃ n72:Nat,(∃ n73:Nat,((e69=(Ending.returned (Value.slice o71 n72 n73)))/\
(Calls Tryz.prog 26 #[(Value.slice o71 n72 n73)] w70 (fun (e74:Ending)=>(fun (w75:World)=>(∃ o76:Option Addr,(∃ x77:Int,((e74=(Ending.returned (Value.tuple #[(Value.pointer o76),(Value.int IntKind.i64 x77)])))/\
((Nf.There w75 (⟨(hs w0),5,none⟩:Addr) 1)/\
(∀ w78:World,((w78=(Nf.setCells w75 (⟨(hs w0),5,none⟩:Addr) [(Value.pointer o76)] 0))->
((((!(decide (x77=0)))=true)->
(R (Ending.returned (Value.tuple #[(Value.pointer none),(Value.int IntKind.i64 x77)])) w78))/\
(((!(decide (x77=0)))=false)->
(Calls Tryz.prog 20 #[(Value.pointer (some (⟨(hs w0),0,none⟩:Addr)))] w78 (fun (e82:Ending)=>(fun (w83:World)=>(∃ x84:Int,((e82=(Ending.returned (Value.int IntKind.i64 x84)))/\
(Calls Tryz.prog 28 #[(Value.pointer (some (⟨(hs w0),0,none⟩:Addr))),(Value.int IntKind.i64 x84)] w83 (fun (e85:Ending)=>(fun (w86:World)=>((e85=(Ending.returned (Value.tuple #[])))/\
(Calls Tryz.prog 29 #[(Value.pointer (some (⟨(hs w0),0,none⟩:Addr))),(Value.int IntKind.i64 now)] w86 (fun (e87:Ending)=>(fun (w88:World)=>(∃ x89:Int,((e87=(Ending.returned (Value.int IntKind.i64 x89)))/\
((Nf.There w88 (⟨(hs w0),14,none⟩:Addr) 1)/\
(∀ w90:World,((w90=(Nf.setCells w88 (⟨(hs w0),14,none⟩:Addr) [(Value.int IntKind.i64 x89)] 0))->
(R (Ending.returned (Value.tuple #[(Value.pointer (some (⟨(hs w0),0,none⟩:Addr))),(Value.int IntKind.i64 0)])) w90))))))))))))))))))))))))))))))))))))))))))))))
section
variable {w:World}
theorem ints_nil (w:World) (A:Nat->Prop) (o:Option Addr):Ints w A o []:=fun i row hi=>(by simp at hi)
set_option maxHeartbeats 2000000 in
theorem openTail_c {J F Dj Dm:Nat->Prop} {id wait beat now j vr t g k:Nat} {c:Memb} {ops:List Op} {p1 p2:Option Addr} {k1 k2:Nat} {R:Ending->World->Prop} (hp:Permit c) (hid:id<9) (hnow:now<=MaxT)
  (hj:JAt w J F Dj j t (ops.map recOf) (encFrom sum0 (ops.map recOf)).length) (hv:VRAt w vr j (st ops).term (st ops).voted) (hh:Hist ops) (hl:ops.length<=k) (hk:k<=90000)
  (r:Row w g 26 [.slice p1 c.old.length k1,.slice p2 c.new.length k2]) (hm:Mem w Dm c p1 p2) (hDm:∀ b,Dm b->¬(b=vr\/J b\/F b)/\b<hs w) (hDj:¬Dj vr)
  (fin:∀ p N D w',NodeAt w' N D p t (openS id wait beat c (st ops).term (st ops).voted (st ops).log now) false [] k->Only (fun b=>b=vr\/J b\/F b) w w'->(∀ b,N b->b=vr\/J b\/F b\/hs w<=b)->(∀ b,D b->Dj b\/Dm b\/hs w<=b)->R (.returned (.tuple #[.pointer (some ⟨p,0,none⟩),.int .i64 0])) w'):
  OpenP (id:Int) (wait:Int) (beat:Int) (now:Int) (some ⟨j,0,none⟩) (some ⟨vr,0,none⟩) g w R:=by
 have hlens:=hh.lens
 have hlen:(st ops).log.length<=ops.length:=by
  have key:∀ j,j<=ops.length->(st (ops.take j)).log.length<=j:=fun j=>by
   induction j with
   | zero=>intro _;simp [st]
   | succ j ih=>
    intro hj
    have hjl:j<ops.length:=by omega
    have:=ih (by omega)
    rw [List.take_succ_eq_append_getElem hjl,st_snoc]
    cases ops[j] with
    | t T=>show (st (ops.take j)).log.length<=_;omega
    | v T n=>show (st (ops.take j)).log.length<=_;omega
    | e i x=>show ((st (ops.take j)).log.take (i - 1)++[x]).length<=_;rw [List.length_append,List.length_take,List.length_singleton];omega
  have:=key ops.length (Nat.le_refl _)
  rwa [List.take_length] at this
 unfold OpenP
 refine ⟨_,_,_,r.cell rfl,_,_,_,r.cell rfl,fun w67 e67=>?_⟩
 have r67:=Row.new (l:=[.int .i64 (id:Int),.int .i64 (wait:Int),.int .i64 (beat:Int),.pointer (some ⟨j,0,none⟩),.pointer (some ⟨vr,0,none⟩),.pointer none,.slice p1 c.old.length k1,.slice p2 c.new.length k2,.slice none 0 0,.slice none 0 0,.int .i64 0,.int .i64 1,.int .i64 (-1),.int .i64 0,.int .i64 0,.int .i64 0,.int .i64 0,.bool false,.bool false,.bool false,.bool false,.bool false,.bool false,.bool false,.bool false,.bool false,.int .i64 0,.int .i64 0,.int .i64 0,.int .i64 0,.int .i64 0,.int .i64 0,.int .i64 0,.int .i64 0,.int .i64 0,.int .i64 0,.int .i64 0,.int .i64 0,.int .i64 0,.int .i64 0,.int .i64 0,.int .i64 0,.int .i64 0,.int .i64 0,.int .i64 0,.bool false,.slice none 0 0]) e67
 have g67:Grow w w67:=only_alloc e67
 have z67:=hs_alloc e67
 have hjlt:=hj.lt
 have hvlt:=hv.lt
 have hDjl:=hj.b.ap
 refine (jRecords_c (hj.grow g67).b (by rw [List.length_map];omega) fun r hr=>by have:=hlens r hr;omega).mono ?_
 rintro _ w70 ⟨o71,c73,rfl,hrc,g70⟩
 have z70:=g70.size
 rw [List.length_map]
 refine ⟨_,_,_,rfl,(restore_c hh (by omega) w70 hrc (fun b hb=>hb.2)).mono ?_⟩
 rintro _ w75 ⟨lg,L,Dl,rfl,hlog,g75,hL,hDl⟩
 have z75:=g75.size
 have G75:=(g67.trans' g70).trans' g75
 have r75:=(r67.grow g70).grow g75
 refine ⟨_,_,rfl,r75.there (by simp),fun w78 e78=>?_⟩
 have o78:Only (fun b=>b=hs w) w75 w78:=only_set e78
 have z78:=o78.size
 have G78:Grow w w78:=G75.trans o78 fun b hb e=>by omega
 have hlogap:=hlog.ap
 have hloglt:=hlog.lt
 have j75:=hj.grow G75
 have v75:=hv.grow G75
 let q:Ptrs:=⟨j,vr,lg,J,F,L,p1,k1,p2,k2,none,0,none,0,none,0,[]⟩
 let s0:PN:=openS id wait beat c (st ops).term (st ops).voted (st ops).log 0
 let D:Nat->Prop:=fun b=>Dj b\/Dm b\/Dl b
 have hvJ:=hj.noRow hv (by decide)
 have hNv:∀ b,D b->¬q.N (hs w) b:=fun b hb k=>by
  have k:b=hs w\/b=vr\/J b\/F b\/L b\/inBlock none b:=k
  have hb:Dj b\/Dm b\/Dl b:=hb
  rcases hb with hb | hb | hb
  ·have h1:=hDjl b hb
   have h2:=hj.ap b hb
   rcases k with k | k | k | k | k | ⟨a,ha,_⟩
   ·omega
   ·exact hDj (k ▸ hb)
   ·exact h1.1 k
   ·exact h2 k
   ·have:=hL b k;omega
   ·cases ha
  ·have h1:=hDm b hb
   rcases k with k | k | k | k | k | ⟨a,ha,_⟩
   ·omega
   ·exact h1.1 (.inl k)
   ·exact h1.1 (.inr (.inl k))
   ·exact h1.1 (.inr (.inr k))
   ·have:=hL b k;omega
   ·cases ha
  ·have h1:=hDl b hb
   rcases k with k | k | k | k | k | ⟨a,ha,_⟩
   ·omega
   ·omega
   ·have:=hjlt b (.inl k);omega
   ·have:=hjlt b (.inr k);omega
   ·exact (hlogap b hb).1 k
   ·cases ha
 have hDlt:∀ b,D b->b<hs w78:=fun b hb=>by
  rcases hb with hb | hb | hb
  ·have:=(hDjl b hb).2;omega
  ·have:=(hDm b hb).2;omega
  ·have:=(hlogap b hb).2;omega
 have hne:∀ b,D b->¬b=hs w:=fun b hb e=>hNv b hb (.inl e)
 have hrow:Row w78 (hs w) 76 (nodeV s0 ⟨[],[]⟩ 0 false 0 q):=r75.set e78
 have x78:NodeX w78 D (hs w) t s0 ⟨[],[]⟩ 0 ops (encFrom sum0 (ops.map recOf)).length false [] q:=by
  refine ⟨hrow,?_,v75.keep o78 (by omega),?_,?_,⟨ints_nil _ _ _,ints_nil _ _ _⟩,own_nil _ _ _ _,rfl,fun x hx=>(by cases hx),fun b hb=>⟨hNv b hb,hDlt b hb⟩,⟨rfl,rfl,rfl⟩⟩
  ·have k78:=j75.keep o78 (fun b hb e=>by have:=hjlt b (.inl hb);omega) (fun b hb e=>by have:=hjlt b (.inr hb);omega) (fun b hb e=>by have:=(hDjl b hb).2;omega)
   exact ⟨k78.b.more (fun b hb=>.inl hb) fun b hb=>⟨fun k=>hNv b hb (.inr (.inr (.inl k))),hDlt b hb⟩,k78.f,fun b hb k=>hNv b hb (.inr (.inr (.inr (.inl k))))⟩
  ·exact (hlog.keep o78 (fun b hb e=>by have:=hL b hb;omega) (fun b hb e=>by have:=hDl b hb;omega)).more (fun b hb=>.inr (.inr hb)) fun b hb=>⟨fun k=>hNv b hb (.inr (.inr (.inr (.inr (.inl k))))),hDlt b hb⟩
  ·exact ((hm.grow G75).keep o78 fun b hb e=>by have:=(hDm b hb).2;omega).mono fun b hb=>.inr (.inl hb)
 have hlogl:s0.log.length<=100000:=by show (st ops).log.length<=100000;omega
 refine nno rfl ((lastIndexX_c x78 hlogl).mono ?_)
 rintro _ w83 ⟨rfl,g83⟩
 obtain ⟨l1,l2⟩:=hh.logOk
 refine ⟨_,rfl,(findMembership_c (last:=(st ops).log.length) (x78.grow g83) hlogl (Nat.le_refl _) l1 hp).mono ?_⟩
 rintro _ w86 ⟨rfl,D',q1,d1,q2,d2,x86,o86,nD,mD⟩
 have z83:=g83.size
 have z86:=o86.size
 have e0:s0.log=(st ops).log:=rfl
 rw [e0,List.take_length] at x86
 have n86:NodeAt w86 (({ q with om1:=q1,cm1:=d1,om2:=q2,cm2:=d2 }:Ptrs).N (hs w)) D' (hs w) t s0 false [] k:=⟨_,ops,_,x86,fun b=>Iff.rfl,hh,rfl,hl,Nat.le_refl _,fun _=>rfl⟩
 refine ⟨rfl,(tick_c n86 now hnow).mono ?_⟩
 rintro _ w88 ⟨rfl,n88,o88⟩
 have z88:=o88.size
 obtain ⟨q8,ops8,dur8,x88,k2',krest⟩:=n88.ex
 have elat:(s0.at now).latest=now:=Nat.zero_max now
 refine ⟨_,rfl,x88.there (by omega),fun w90 e90=>?_⟩
 rw [elat] at e90
 have es:({ s0.at now with since:=now }:PN)=openS id wait beat c (st ops).term (st ops).voted (st ops).log now:=by
  show ({ openS id wait beat c (st ops).term (st ops).voted (st ops).log 0 with latest:=max 0 now,since:=now }:PN)=_
  rw [Nat.zero_max];rfl
 obtain ⟨x90,o90⟩:=x88.cells (k:=14) (s':={ s0.at now with since:=now }) (mm':=(s0.at now).memb) (ma':=membAt (s0.at now).log) (uns':=false) e90 rfl rfl rfl rfl rfl x88.mem ⟨rfl,rfl,rfl⟩
 have n90:NodeAt w90 (({ q with om1:=q1,cm1:=d1,om2:=q2,cm2:=d2 }:Ptrs).N (hs w)) D' (hs w) t (openS id wait beat c (st ops).term (st ops).voted (st ops).log now) false [] k:=by
  rw [<- es]
  exact ⟨q8,ops8,dur8,x90,k2',krest⟩
 have nNew:∀ b,(({ q with om1:=q1,cm1:=d1,om2:=q2,cm2:=d2 }:Ptrs).N (hs w)) b->b=vr\/J b\/F b\/hs w<=b:=fun b hb=>by
  have hb:b=hs w\/b=vr\/J b\/F b\/L b\/inBlock none b:=hb
  rcases hb with k | k | k | k | k | ⟨a,ha,_⟩
  ·right;right;right;omega
  ·exact .inl k
  ·exact .inr (.inl k)
  ·exact .inr (.inr (.inl k))
  ·have:=hL b k;right;right;right;omega
  ·cases ha
 refine fin (hs w) _ D' w90 n90 ?_ nNew fun b hb=>?_
 ·have G83:Grow w w83:=G78.trans' g83
  have G86:Grow w w86:=G83.trans o86 fun b hb e=>by omega
  refine ((Grow.only G86).trans o88 fun b hb k=>?_).trans o90 fun b hb k=>by omega
  rcases nNew b k with k | k | k | k
  ·exact .inl k
  ·exact .inr (.inl k)
  ·exact .inr (.inr k)
  ·omega
 ·rcases nD b hb with k | k
  ·rcases k with k | k | k
   ·exact .inl k
   ·exact .inr (.inl k)
   ·have:=hDl b k;right;right;omega
  ·right;right;omega
set_option maxHeartbeats 2000000 in
theorem open_c {A F:Nat->Prop} {id wait beat now t dur k:Nat} {c:Memb} {ops:List Op} {o1 o2:Option Addr} {c1 c2:Nat} (hp:Permit c) (hid:id<9) (hw1:1<=wait) (hw2:wait<=MaxT) (hb1:1<=beat) (hb2:beat<=MaxT) (hnow:now<=MaxT)
  (h:FileAt w F t (encFrom sum0 (ops.map recOf)) dur false) (hdur:dur<=(encFrom sum0 (ops.map recOf)).length) (hh:Hist ops) (hl:ops.length<=k) (hk:k<=90000) (hm:Mem w A c o1 o2) (hA:∀ b,A b->b<hs w/\¬F b):
  Calls Tryz.prog 7 #[.int .i64 (id:Int),memA c o1 c1 o2 c2,.pointer (some ⟨t,0,none⟩),.int .i64 (wait:Int),.int .i64 (beat:Int),.int .i64 (now:Int)] w fun e w'=>∃ p N D,e=.returned (.tuple #[.pointer (some ⟨p,0,none⟩),.int .i64 0])/\NodeAt w' N D p t (openS id wait beat c (st ops).term (st ops).voted (st ops).log now) false [] k/\Only F w w'/\(∀ b,N b->F b\/hs w<=b)/\∀ b,D b->hs w<=b:=by
 have hlens:=hh.lens
 obtain ⟨l1,l2⟩:=len_data hh (by omega)
 have hw2':=hw2
 have hb2':=hb2
 unfold MaxT at hw2' hb2'
 have hlo:=hp.old.len
 have hln:c.new.length<=9:=hp.new.elim (fun e=>by simp [e]) PermL.len
 refine nf7 id o1 c.old.length c1 o2 c.new.length c2 t wait beat now w _ fun w1 e1=>?_
 have r1:Row w1 (hs w) 26 [.slice o1 c.old.length c1,.slice o2 c.new.length c2]:=Row.new (l:=[_,_]) e1
 have g1:Grow w w1:=only_alloc e1
 have z1:=hs_alloc e1
 refine no (by omega) (no (by omega) ⟨_,_,_,r1.cell rfl,_,_,_,r1.cell rfl,(permitted_c hp w1 (hm.grow g1) (fun b hb=>by have:=(hA b hb).1;omega)).mono ?_⟩)
 rintro _ w14 ⟨rfl,g14⟩
 have r14:=r1.grow g14
 have G14:=g1.trans' g14
 have z14:=g14.size
 refine ⟨_,rfl,bT (bF (no (by omega) (no (by omega) (no (by omega) (no (by omega) ((jOpen_c (h.grow G14) l2 (by omega) hdur fun r hr=>by have:=hlens r hr;omega).mono ?_))))))⟩
 rintro _ w28 ⟨j,J,Dj,rfl,hj,o28,hJ,hDj⟩
 have z28:=o28.size
 have hFlt:=h.lt
 have nFw:¬F (hs w):=fun k=>by have:=hFlt _ k;omega
 have r28:=r14.keep o28 nFw
 have m28:=(hm.grow G14).keep o28 fun b hb=>(hA b hb).2
 refine ⟨_,_,rfl,nno rfl ((vOpen_c hj.b hh (by omega)).mono ?_)⟩
 rintro _ w34 ⟨rfl,hv,g34⟩
 have z34:=g34.size
 have r34:=r28.grow g34
 have m34:=m28.grow g34
 have hvlt:=hv.lt
 refine ⟨_,_,rfl,nno rfl fun w39 e39=>?_⟩
 have g39:Grow w34 w39:=only_drew e39
 have z39:=g39.size
 have r39:=r34.grow g39
 have m39:=m34.grow g39
 have j34:=hj.grow g34
 have hjlt:=hj.lt
 have hDjlt:=hj.b.ap
 have Go:Only F w w34:=((Grow.only G14).trans' o28).trans' (Grow.only g34)
 have zz:=Go.size
 have tail:∀ wT g p1 k1 p2 k2,Grow w34 wT->Row wT g 26 [.slice p1 c.old.length k1,.slice p2 c.new.length k2]->Mem wT (fun b=>hs w34<=b/\b<hs wT) c p1 p2->OpenP (id:Int) (wait:Int) (beat:Int) (now:Int) (some ⟨j,0,none⟩) (some ⟨hs w28,0,none⟩) g wT (fun e w'=>∃ p N D,e=.returned (.tuple #[.pointer (some ⟨p,0,none⟩),.int .i64 0])/\NodeAt w' N D p t (openS id wait beat c (st ops).term (st ops).voted (st ops).log now) false [] k/\Only F w w'/\(∀ b,N b->F b\/hs w<=b)/\∀ b,D b->hs w<=b):=by
  intro wT g p1 k1 p2 k2 gT rT mT
  have zT:=gT.size
  refine openTail_c hp hid hnow (j34.grow gT) (hv.grow gT) hh hl hk rT mT (fun b hb=>⟨fun k=>?_,by omega⟩) (fun k=>by have:=(hDjlt _ k).2;omega) fun p N D w' n oo hN hD=>⟨p,N,D,rfl,n,?_,fun b hb=>?_,fun b hb=>?_⟩
  ·rcases k with k | k | k
   ·omega
   ·have:=hjlt b (.inl k);omega
   ·have:=hFlt b k;omega
  ·refine (Go.trans' (Grow.only gT)).trans oo fun b hb k=>?_
   rcases k with k | k | k
   ·omega
   ·have:=hJ b k;omega
   ·exact k
  ·rcases hN b hb with k | k | k | k
   ·right;omega
   ·right;have:=hJ b k;omega
   ·exact .inl k
   ·right;omega
  ·rcases hD b hb with k | k | k
   ·have:=hDj b k;omega
   ·omega
   ·omega
 have hAlt:∀ b,A b->b<hs w39:=fun b hb=>by have:=(hA b hb).1;omega
 refine ⟨_,_,_,r39.cell rfl,_,_,_,r39.cell rfl,(sclone_c c.old (by omega) w39 m39.1 hAlt).mono ?_,fun w132 e132=>?_⟩
 ·rintro _ w48 ⟨p1,k1,rfl,i48,g48⟩
  have z48:=g48.size
  refine ⟨_,_,_,rfl,kept_only g48 r39.lt (fun h=>h),(sclone_c c.new (by omega) w48 (m39.2.grow g48) (fun b hb=>by have:=hAlt b hb;omega)).mono ?_,fun w92 e92=>?_⟩
  ·rintro _ w53 ⟨p2,k2,rfl,i53,g53⟩
   have z53:=g53.size
   refine ⟨_,_,_,rfl,fun w57 e57=>⟨(Row.new (l:=[_,_]) e57).there (by simp),fun w59 e59=>?_⟩⟩
   obtain ⟨r59,g59⟩:=loc (l:=[_,_]) (vs:=[.slice p1 c.old.length k1,.slice p2 c.new.length k2]) e57 e59 rfl
   have z59:=g59.size
   exact tail w59 _ p1 k1 p2 k2 (((g39.trans' g48).trans' g53).trans' g59) r59 ⟨((i48.grow g53).grow g59).mono fun b hb=>⟨by omega,by omega⟩,(i53.grow g59).mono fun b hb=>⟨by omega,by omega⟩⟩
  ·have r92:=Row.new (l:=[.slice none 0 0,.slice none 0 0]) e92
   have g92:Grow w48 w92:=only_alloc e92
   have z92:=hs_alloc e92
   refine ⟨kept_only (g48.trans' g92) r39.lt (fun h=>h),(sclone_c c.new (by omega) w92 (m39.2.grow (g48.trans' g92)) (fun b hb=>by have:=hAlt b hb;omega)).mono ?_⟩
   rintro _ w95 ⟨p2,k2,rfl,i95,g95⟩
   have z95:=g95.size
   refine ⟨_,_,_,rfl,(r92.grow g95).there (by simp),fun w99 e99=>?_⟩
   have o99:Only (fun b=>b=hs w48) w95 w99:=only_set e99
   have z99:=o99.size
   have r99:Row w99 (hs w48) 26 [.slice p1 c.old.length k1,.slice p2 c.new.length k2]:=(r92.grow g95).set e99
   have G95:=(g39.trans' g48).trans' (g92.trans' g95)
   exact tail w99 _ p1 k1 p2 k2 (G95.trans o99 fun b hb e=>by omega) r99 ⟨((i48.grow (g92.trans' g95)).keep o99 fun b hb e=>by omega).mono fun b hb=>⟨by omega,by omega⟩,(i95.keep o99 fun b hb e=>by omega).mono fun b hb=>⟨by omega,by omega⟩⟩
 ·have r132:=Row.new (l:=[.slice none 0 0,.slice none 0 0]) e132
  have g132:Grow w39 w132:=only_alloc e132
  have z132:=hs_alloc e132
  refine ⟨kept_only g132 r39.lt (fun h=>h),kept_only g132 r39.lt (fun h=>h),(sclone_c c.old (by omega) w132 (m39.1.grow g132) (fun b hb=>by have:=hAlt b hb;omega)).mono ?_⟩
  rintro _ w135 ⟨p1,k1,rfl,i135,g135⟩
  have z135:=g135.size
  refine ⟨_,_,_,rfl,kept_only (g132.trans' g135) r39.lt (fun h=>h),(sclone_c c.new (by omega) w135 (m39.2.grow (g132.trans' g135)) (fun b hb=>by have:=hAlt b hb;omega)).mono ?_⟩
  rintro _ w140 ⟨p2,k2,rfl,i140,g140⟩
  have z140:=g140.size
  refine ⟨_,_,_,rfl,((r132.grow g135).grow g140).there (by simp),fun w144 e144=>?_⟩
  have o144:Only (fun b=>b=hs w39) w140 w144:=only_set e144
  have z144:=o144.size
  have r144:Row w144 (hs w39) 26 [.slice p1 c.old.length k1,.slice p2 c.new.length k2]:=((r132.grow g135).grow g140).set e144
  exact tail w144 _ p1 k1 p2 k2 ((((g39.trans' g132).trans' g135).trans' g140).trans o144 fun b hb e=>by omega) r144 ⟨((i135.grow g140).keep o144 fun b hb e=>by omega).mono fun b hb=>⟨by omega,by omega⟩,(i140.keep o144 fun b hb e=>by omega).mono fun b hb=>⟨by omega,by omega⟩⟩
theorem NodeAt.file {N D:Nat->Prop} {p t k:Nat} {s:PN} {outs:List Msg} (h:NodeAt w N D p t s false outs k):∃ F ops,FileAt w F t (encFrom sum0 (ops.map recOf)) (encFrom sum0 (ops.map recOf)).length false/\Hist ops/\st ops=⟨s.term,s.voted,s.log⟩/\ops.length<=k/\∀ b,F b->N b:=by
 obtain ⟨q,ops,dur,h1,h2,hh,hst,hl,hd1,hd2⟩:=h.ex
 have hf:=h1.jat.f
 rw [hd2 rfl] at hf
 exact ⟨q.F,ops,hf,hh,hst,hl,fun b hb=>(h2 b).2 (.inr (.inr (.inr (.inl hb))))⟩
end
end Go.Proofs.YtcaokpglbolkcaaGreat
