import Derived.Test.YtcaokpglbolkcaaGreatWr
namespace Go.Proofs.YtcaokpglbolkcaaGreat
section
open Go Go.Nf Go.RowKit
abbrev MP:=Msg × (Option Addr × Nat)
def msgV (x:MP):List Value:=[.int .i64 (x.1.kind:Int),.int .i64 (x.1.src:Int),.int .i64 (x.1.dst:Int),.int .i64 (x.1.term:Int),.int .i64 (x.1.prev:Int),.int .i64 (x.1.prevTerm:Int),.int .i64 (x.1.commit:Int),.bool x.1.granted,.slice x.2.1 x.1.ents.length x.2.2]
theorem msgV_len (x:MP):(msgV x).length=9:=rfl
theorem msgV_one (ps:List MP):∀ u∈ps.flatMap msgV,u.oneCell'=true:=fun u hu=>by
 obtain ⟨p,-,hb⟩:=List.mem_flatMap.1 hu
 simp only [msgV,List.mem_cons,List.not_mem_nil,or_false] at hb
 rcases hb with rfl | rfl | rfl | rfl | rfl | rfl | rfl | rfl | rfl <;> rfl
def MsgsAt (w:World) (A:Nat->Prop) (o:Option Addr) (ms:List Msg):Prop:=∃ ps:List MP,ps.map (·.1)=ms/\Recs w A o 9 (ps.map msgV)/\∀ x∈ps,Ents w A x.2.1 x.1.ents/\x.1.ents.length<=x.2.2
theorem MsgsAt.keep {w w':World} {A S:Nat->Prop} {o:Option Addr} {ms:List Msg} (h:MsgsAt w A o ms) (g:Only S w w') (hS:∀ b,A b->¬S b):MsgsAt w' A o ms:=by
 obtain ⟨ps,h1,h2,h3⟩:=h
 exact ⟨ps,h1,h2.keep g hS,fun x hx=>⟨(h3 x hx).1.keep g hS,(h3 x hx).2⟩⟩
theorem MsgsAt.mono {w:World} {A A':Nat->Prop} {o:Option Addr} {ms:List Msg} (h:MsgsAt w A o ms) (hA:∀ b,A b->A' b):MsgsAt w A' o ms:=by
 obtain ⟨ps,h1,h2,h3⟩:=h
 exact ⟨ps,h1,h2.mono hA,fun x hx=>⟨(h3 x hx).1.mono hA,(h3 x hx).2⟩⟩
structure Ptrs where
 j:Nat
 vr:Nat
 lg:Nat
 J:Nat->Prop
 F:Nat->Prop
 L:Nat->Prop
 oi1:Option Addr
 ci1:Nat
 oi2:Option Addr
 ci2:Nat
 om1:Option Addr
 cm1:Nat
 om2:Option Addr
 cm2:Nat
 oo:Option Addr
 co:Nat
 mps:List MP
def bo1 (b:Bool):Value:=.bool b
def in0 (n:Nat):Value:=.int .i64 (n:Int)
def headV (s:PN) (mm:Memb) (ma:Nat) (q:Ptrs):List Value:=[.int .i64 (s.id:Int),.int .i64 (s.wait:Int),.int .i64 (s.beat:Int),.pointer (some ⟨q.j,0,none⟩),.pointer (some ⟨q.vr,0,none⟩),.pointer (some ⟨q.lg,0,none⟩),
 .slice q.oi1 s.init.old.length q.ci1,.slice q.oi2 s.init.new.length q.ci2,.slice q.om1 mm.old.length q.cm1,.slice q.om2 mm.new.length q.cm2,.int .i64 (ma:Int),.int .i64 (s.role:Int),.int .i64 (optI s.leader),.int .i64 (s.commit:Int),.int .i64 (s.since:Int),.int .i64 (s.hb:Int),.int .i64 (s.latest:Int)]
def tailV (uns:Bool) (n:Nat) (q:Ptrs):List Value:=[.int .i64 0,.bool uns,.slice q.oo n q.co]
def nodeV (s:PN) (mm:Memb) (ma:Nat) (uns:Bool) (n:Nat) (q:Ptrs):List Value:=headV s mm ma q++(s.votes.map bo1++(s.next.map in0++(s.mtch.map in0++tailV uns n q)))
structure Lens (s:PN):Prop where
 v:s.votes.length=9
 n:s.next.length=9
 m:s.mtch.length=9
theorem nodeV_head {s:PN} {mm:Memb} {ma:Nat} {uns:Bool} {n:Nat} {q:Ptrs} {k:Nat} (h:k<17):(nodeV s mm ma uns n q)[k]?=(headV s mm ma q)[k]?:=by
 unfold nodeV
 rw [List.getElem?_append_left (by simpa [headV] using h)]
theorem nodeV_vote {s:PN} (L:Lens s) {mm:Memb} {ma:Nat} {uns:Bool} {n:Nat} {q:Ptrs} {k:Nat} (h:k<9):(nodeV s mm ma uns n q)[17+k]?=some (.bool (s.votes.getD k false)):=by
 have h1:=L.v
 have hh:(headV s mm ma q).length=17:=rfl
 unfold nodeV
 rw [List.getElem?_append_right (by omega),hh,Nat.add_sub_cancel_left,List.getElem?_append_left (by rw [List.length_map];omega),List.getElem?_map,List.getD_eq_getElem?_getD,List.getElem?_eq_getElem (by omega)]
 rfl
theorem nodeV_next {s:PN} (L:Lens s) {mm:Memb} {ma:Nat} {uns:Bool} {n:Nat} {q:Ptrs} {k:Nat} (h:k<9):(nodeV s mm ma uns n q)[26+k]?=some (.int .i64 ((s.next.getD k 0:Nat):Int)):=by
 have h1:=L.v
 have h2:=L.n
 have hh:(headV s mm ma q).length=17:=rfl
 unfold nodeV
 rw [List.getElem?_append_right (by omega),hh,List.getElem?_append_right (by rw [List.length_map];omega),List.length_map,h1,show 26+k - 17 - 9=k from by omega,List.getElem?_append_left (by rw [List.length_map];omega),List.getElem?_map,List.getD_eq_getElem?_getD,List.getElem?_eq_getElem (by omega)]
 rfl
theorem nodeV_mtch {s:PN} (L:Lens s) {mm:Memb} {ma:Nat} {uns:Bool} {n:Nat} {q:Ptrs} {k:Nat} (h:k<9):(nodeV s mm ma uns n q)[35+k]?=some (.int .i64 ((s.mtch.getD k 0:Nat):Int)):=by
 have h1:=L.v
 have h2:=L.n
 have h3:=L.m
 have hh:(headV s mm ma q).length=17:=rfl
 unfold nodeV
 rw [List.getElem?_append_right (by omega),hh,List.getElem?_append_right (by rw [List.length_map];omega),List.length_map,h1,List.getElem?_append_right (by rw [List.length_map];omega),List.length_map,h2,show 35+k - 17 - 9 - 9=k from by omega,List.getElem?_append_left (by rw [List.length_map];omega),List.getElem?_map,List.getD_eq_getElem?_getD,List.getElem?_eq_getElem (by omega)]
 rfl
theorem nodeV_tail {s:PN} (L:Lens s) {mm:Memb} {ma:Nat} {uns:Bool} {n:Nat} {q:Ptrs} {k:Nat}:(nodeV s mm ma uns n q)[44+k]?=(tailV uns n q)[k]?:=by
 have h1:=L.v
 have h2:=L.n
 have h3:=L.m
 have hh:(headV s mm ma q).length=17:=rfl
 unfold nodeV
 rw [List.getElem?_append_right (by omega),hh,List.getElem?_append_right (by rw [List.length_map];omega),List.length_map,h1,List.getElem?_append_right (by rw [List.length_map];omega),List.length_map,h2,List.getElem?_append_right (by rw [List.length_map];omega),List.length_map,h3,show 44+k - 17 - 9 - 9 - 9=k from by omega]
theorem nodeV_length {s:PN} (L:Lens s) {mm:Memb} {ma:Nat} {uns:Bool} {n:Nat} {q:Ptrs}:(nodeV s mm ma uns n q).length=47:=by
 have h1:=L.v
 have h2:=L.n
 have h3:=L.m
 unfold nodeV
 simp only [List.length_append,List.length_map,h1,h2,h3]
 rfl
theorem setFrom_mid (a b c:List Value) (o:Nat) (vs:List Value) (ho:o=a.length) (hl:vs.length=b.length):setFrom (a++(b++c)) o vs=a++(vs++c):=by
 have h1:=setFrom_right vs a (b++c) 0
 rw [Nat.add_zero] at h1
 rw [ho,h1,setFrom_left vs b c 0 (by omega),setFrom_all vs b hl]
theorem setFrom_in (a b c:List Value) (o k:Nat) (vs:List Value) (ho:o=a.length+k) (hl:k+vs.length<=b.length):setFrom (a++(b++c)) o vs=a++(setFrom b k vs++c):=by
 rw [ho,setFrom_right,setFrom_left _ _ _ _ hl]
theorem setFrom_one (l:List Value) (k:Nat) (v:Value):setFrom l k [v]=l.set k v:=rfl
structure NodeX (w:World) (D:Nat->Prop) (p t:Nat) (s:PN) (mm:Memb) (ma:Nat) (ops:List Op) (dur:Nat) (uns:Bool) (outs:List Msg) (q:Ptrs):Prop where
 row:Row w p 76 (nodeV s mm ma uns outs.length q)
 jat:JAt w q.J q.F D q.j t (ops.map recOf) dur
 vr:VRAt w q.vr q.j s.term s.voted
 log:LogAt w q.L D q.lg s.log
 ini:Mem w D s.init q.oi1 q.oi2
 mem:Mem w D mm q.om1 q.om2
 out:Own w 0 45 9 q.oo outs.length q.co (q.mps.flatMap msgV)
 mps:q.mps.map (·.1)=outs
 ents:∀ x∈q.mps,Ents w D x.2.1 x.1.ents/\x.1.ents.length<=x.2.2
 ap:∀ b,D b->¬(b=p\/b=q.vr\/q.J b\/q.F b\/q.L b\/inBlock q.oo b)/\b<hs w
 len:Lens s
abbrev Ptrs.N (q:Ptrs) (p:Nat):Nat->Prop:=fun b=>b=p\/b=q.vr\/q.J b\/q.F b\/q.L b\/inBlock q.oo b
section
variable {w:World} {D:Nat->Prop} {p t ma dur:Nat} {s:PN} {mm:Memb} {ops:List Op} {uns:Bool} {outs:List Msg} {q:Ptrs}
theorem NodeX.djR (h:NodeX w D p t s mm ma ops dur uns outs q) {b T:Nat} {l:List Value} (r:Row w b T l):(T≠76->b≠p)/\(T≠111->b≠q.vr)/\(T≠102->T≠104->T≠60->¬q.J b)/\(T≠63->T≠5->¬q.F b)/\(T≠133->T≠49->¬q.L b)/\(T≠45->¬inBlock q.oo b):=by
 refine ⟨fun h1 e=>?_,fun h1 e=>?_,fun h1 h2 h3 hb=>?_,fun h1 h2 hb=>?_,fun h1 h2 hb=>?_,fun h1 hb=>?_⟩
 ·subst e;exact h1 (r.inj h.row).2
 ·subst e;exact h1 (r.inj h.vr).2
 ·obtain ⟨T',l',r',hT⟩:=h.jat.b.ty b hb
  have:=(r.inj r').2
  rcases hT with rfl | rfl | rfl
  ·exact h1 this
  ·exact h2 this
  ·exact h3 this
 ·obtain ⟨T',l',r',hT⟩:=h.jat.f.ty b hb
  have:=(r.inj r').2
  rcases hT with rfl | rfl
  ·exact h1 this
  ·exact h2 this
 ·obtain ⟨T',l',r',hT⟩:=h.log.ty b hb
  have:=(r.inj r').2
  rcases hT with rfl | rfl
  ·exact h1 this
  ·exact h2 this
 ·obtain ⟨l',r'⟩:=h.out.row hb
  exact h1 (r.inj r').2
structure DJ (p:Nat) (q:Ptrs):Prop where
 pvr:p≠q.vr
 pJ:¬q.J p
 pF:¬q.F p
 pL:¬q.L p
 po:¬inBlock q.oo p
 vJ:¬q.J q.vr
 vF:¬q.F q.vr
 vL:¬q.L q.vr
 vo:¬inBlock q.oo q.vr
 JL:∀ b,q.J b->¬q.L b
 FL:∀ b,q.F b->¬q.L b
 Jo:∀ b,q.J b->¬inBlock q.oo b
 Fo:∀ b,q.F b->¬inBlock q.oo b
 Lo:∀ b,q.L b->¬inBlock q.oo b
theorem NodeX.dj (h:NodeX w D p t s mm ma ops dur uns outs q):DJ p q:=by
 obtain ⟨-,a2,a3,a4,a5,a6⟩:=h.djR h.row
 obtain ⟨-,-,b3,b4,b5,b6⟩:=h.djR h.vr
 refine ⟨a2 (by decide),a3 (by decide) (by decide) (by decide),a4 (by decide) (by decide),a5 (by decide) (by decide),a6 (by decide),b3 (by decide) (by decide) (by decide),b4 (by decide) (by decide),b5 (by decide) (by decide),b6 (by decide),fun b hb=>?_,fun b hb=>?_,fun b hb=>?_,fun b hb=>?_,fun b hb=>?_⟩
 ·obtain ⟨T,l,r,hT⟩:=h.jat.b.ty b hb
  rcases hT with rfl | rfl | rfl <;> exact (h.djR r).2.2.2.2.1 (by decide) (by decide)
 ·obtain ⟨T,l,r,hT⟩:=h.jat.f.ty b hb
  rcases hT with rfl | rfl <;> exact (h.djR r).2.2.2.2.1 (by decide) (by decide)
 ·obtain ⟨T,l,r,hT⟩:=h.jat.b.ty b hb
  rcases hT with rfl | rfl | rfl <;> exact (h.djR r).2.2.2.2.2 (by decide)
 ·obtain ⟨T,l,r,hT⟩:=h.jat.f.ty b hb
  rcases hT with rfl | rfl <;> exact (h.djR r).2.2.2.2.2 (by decide)
 ·obtain ⟨T,l,r,hT⟩:=h.log.ty b hb
  rcases hT with rfl | rfl <;> exact (h.djR r).2.2.2.2.2 (by decide)
theorem NodeX.lt (h:NodeX w D p t s mm ma ops dur uns outs q):∀ b,q.N p b->b<hs w:=fun b hb=>by
 rcases hb with rfl | rfl | hb | hb | hb | hb
 ·exact h.row.lt
 ·exact h.vr.lt
 ·exact h.jat.b.lt b hb
 ·exact h.jat.f.lt b hb
 ·exact h.log.lt b hb
 ·exact (h.out.base b hb).2
theorem NodeX.keep {S:Nat->Prop} {w':World} (h:NodeX w D p t s mm ma ops dur uns outs q) (g:Only S w w') (hN:∀ b,q.N p b->¬S b) (hD:∀ b,D b->¬S b):NodeX w' D p t s mm ma ops dur uns outs q:=
 ⟨h.row.keep g (hN p (.inl rfl)),h.jat.keep g (fun b hb=>hN b (.inr (.inr (.inl hb)))) (fun b hb=>hN b (.inr (.inr (.inr (.inl hb))))) hD,h.vr.keep g (hN _ (.inr (.inl rfl))),h.log.keep g (fun b hb=>hN b (.inr (.inr (.inr (.inr (.inl hb)))))) hD,h.ini.keep g hD,h.mem.keep g hD,h.out.keep g fun b hb=>hN b (.inr (.inr (.inr (.inr (.inr hb))))),h.mps,fun x hx=>⟨(h.ents x hx).1.keep g hD,(h.ents x hx).2⟩,fun b hb=>⟨(h.ap b hb).1,Nat.lt_of_lt_of_le (h.ap b hb).2 g.size⟩,h.len⟩
theorem NodeX.grow {w':World} (h:NodeX w D p t s mm ma ops dur uns outs q) (g:Grow w w'):NodeX w' D p t s mm ma ops dur uns outs q:=h.keep g (fun _ _ h=>h) fun _ _ h=>h
theorem NodeX.more {D':Nat->Prop} (h:NodeX w D p t s mm ma ops dur uns outs q) (hD:∀ b,D b->D' b) (ha:∀ b,D' b->¬q.N p b/\b<hs w):NodeX w D' p t s mm ma ops dur uns outs q:=
 ⟨h.row,⟨h.jat.b.more hD fun b hb=>⟨fun k=>(ha b hb).1 (.inr (.inr (.inl k))),(ha b hb).2⟩,h.jat.f,fun b hb k=>(ha b hb).1 (.inr (.inr (.inr (.inl k))))⟩,h.vr,h.log.more hD fun b hb=>⟨fun k=>(ha b hb).1 (.inr (.inr (.inr (.inr (.inl k))))),(ha b hb).2⟩,h.ini.mono hD,h.mem.mono hD,h.out,h.mps,fun x hx=>⟨(h.ents x hx).1.mono hD,(h.ents x hx).2⟩,ha,h.len⟩
theorem NodeX.cells {s':PN} {mm':Memb} {ma':Nat} {uns':Bool} {k:Nat} {vs:List Value} {w1:World} (h:NodeX w D p t s mm ma ops dur uns outs q) (e:w1=setCells w ⟨p,k,none⟩ vs 0) (hv:setFrom (nodeV s mm ma uns outs.length q) k vs=nodeV s' mm' ma' uns' outs.length q) (e1:s'.term=s.term) (e2:s'.voted=s.voted) (e3:s'.log=s.log) (e4:s'.init=s.init) (hm:Mem w D mm' q.om1 q.om2) (hl:Lens s'):
  NodeX w1 D p t s' mm' ma' ops dur uns' outs q/\Only (fun b=>b=p) w w1:=by
 have o1:Only (fun b=>b=p) w w1:=only_set e
 have d:=h.dj
 have hD:∀ b,D b->¬b=p:=fun b hb e=>(h.ap b hb).1 (.inl e)
 refine ⟨⟨?_,h.jat.keep o1 (fun b hb e=>d.pJ (e ▸ hb)) (fun b hb e=>d.pF (e ▸ hb)) hD,?_,?_,?_,hm.keep o1 hD,h.out.keep o1 fun b hb e=>d.po (e ▸ hb),h.mps,fun x hx=>⟨(h.ents x hx).1.keep o1 hD,(h.ents x hx).2⟩,fun b hb=>⟨(h.ap b hb).1,Nat.lt_of_lt_of_le (h.ap b hb).2 o1.size⟩,hl⟩,o1⟩
 ·have:=h.row.set e
  rwa [hv] at this
 ·rw [e1,e2];exact h.vr.keep o1 fun k=>d.pvr k.symm
 ·rw [e3];exact h.log.keep o1 (fun b hb e=>d.pL (e ▸ hb)) hD
 ·rw [e4];exact h.ini.keep o1 hD
theorem NodeX.cell (h:NodeX w D p t s mm ma ops dur uns outs q) {k:Nat} {v:Value} (hk:k<17) (hv:(headV s mm ma q)[k]?=some v):w.cell? ⟨p,k,none⟩=some v:=h.row.cell ((nodeV_head hk).trans hv)
theorem NodeX.cellT (h:NodeX w D p t s mm ma ops dur uns outs q) {k:Nat} {v:Value} (hv:(tailV uns outs.length q)[k]?=some v):w.cell? ⟨p,44+k,none⟩=some v:=h.row.cell ((nodeV_tail h.len).trans hv)
theorem NodeX.there (h:NodeX w D p t s mm ma ops dur uns outs q) {k n:Nat} (hk:k+n<=47):There w ⟨p,k,none⟩ n:=h.row.there (by rw [nodeV_length h.len];exact hk)
end
structure Moves (w w':World) (N D N' D':Nat->Prop):Prop where
 o:Only N w w'
 n:∀ b,N' b->N b\/hs w<=b
 d:∀ b,D' b->D b\/hs w<=b
 m:∀ b,D b->D' b
theorem Moves.refl (w:World) (N D:Nat->Prop):Moves w w N D N D:=⟨Only.refl _ _,fun _ h=>.inl h,fun _ h=>.inl h,fun _ h=>h⟩
theorem Moves.trans {a b c:World} {N D N' D' N'' D'':Nat->Prop} (h:Moves a b N D N' D') (k:Moves b c N' D' N'' D''):Moves a c N D N'' D'':=by
 have z:=h.o.size
 refine ⟨h.o.trans k.o fun i hi hN=>(h.n i hN).elim id fun k=>by omega,fun i hi=>?_,fun i hi=>?_,fun i hi=>k.m i (h.m i hi)⟩
 ·rcases k.n i hi with k | k
  ·exact h.n i k
  ·right;omega
 ·rcases k.d i hi with k | k
  ·exact h.d i k
  ·right;omega
theorem Moves.grow {w w':World} {N D:Nat->Prop} (g:Grow w w'):Moves w w' N D N D:=⟨Grow.only g,fun _ h=>.inl h,fun _ h=>.inl h,fun _ h=>h⟩
theorem Moves.only {w w':World} {N D S:Nat->Prop} (g:Only S w w') (h:∀ b,S b->N b):Moves w w' N D N D:=⟨g.mono fun b _ hb=>h b hb,fun _ h=>.inl h,fun _ h=>.inl h,fun _ h=>h⟩
structure NodeAt (w:World) (N D:Nat->Prop) (p t:Nat) (s:PN) (uns:Bool) (outs:List Msg) (k:Nat):Prop where
 ex:∃ q ops dur,NodeX w D p t s s.memb (membAt s.log) ops dur uns outs q/\(∀ b,N b↔q.N p b)/\Hist ops/\st ops=⟨s.term,s.voted,s.log⟩/\ops.length<=k/\dur<=(encFrom sum0 (ops.map recOf)).length/\(uns=false->dur=(encFrom sum0 (ops.map recOf)).length)
theorem NodeAt.keep {w w':World} {N D S:Nat->Prop} {p t k:Nat} {s:PN} {uns:Bool} {outs:List Msg} (h:NodeAt w N D p t s uns outs k) (g:Only S w w') (hN:∀ b,N b->¬S b) (hD:∀ b,D b->¬S b):NodeAt w' N D p t s uns outs k:=by
 obtain ⟨q,ops,dur,h1,h2,h3⟩:=h.ex
 exact ⟨q,ops,dur,h1.keep g (fun b hb=>hN b ((h2 b).2 hb)) hD,h2,h3⟩
theorem NodeAt.grow {w w':World} {N D:Nat->Prop} {p t k:Nat} {s:PN} {uns:Bool} {outs:List Msg} (h:NodeAt w N D p t s uns outs k) (g:Grow w w'):NodeAt w' N D p t s uns outs k:=h.keep g (fun _ _ h=>h) fun _ _ h=>h
theorem NodeAt.lt {w:World} {N D:Nat->Prop} {p t k:Nat} {s:PN} {uns:Bool} {outs:List Msg} (h:NodeAt w N D p t s uns outs k):∀ b,N b\/D b->b<hs w:=fun b hb=>by
 obtain ⟨q,ops,dur,h1,h2,h3⟩:=h.ex
 rcases hb with hb | hb
 ·exact h1.lt b ((h2 b).1 hb)
 ·exact (h1.ap b hb).2
theorem NodeAt.ap {w:World} {N D:Nat->Prop} {p t k:Nat} {s:PN} {uns:Bool} {outs:List Msg} (h:NodeAt w N D p t s uns outs k):∀ b,D b->¬N b:=fun b hb hn=>by
 obtain ⟨q,ops,dur,h1,h2,h3⟩:=h.ex
 exact (h1.ap b hb).1 ((h2 b).1 hn)
end
section
open Go Go.Nf Go.RowKit
structure Wf (s:PN) (k:Nat):Prop where
 id:s.id<9
 ini:Permit s.init
 t:s.term<=MaxT
 vt:∀ n,s.voted=some n->n<9
 ld:∀ n,s.leader=some n->n<9
 ll:s.log.length<=k
 ent:∀ e∈s.log,OkEnt e/\e.term<=s.term
 mono:∀ (i j:Nat) x y,i<=j->s.log[i]?=some x->s.log[j]?=some y->x.term<=y.term
 rl:s.role=1\/s.role=2\/s.role=3
 cm:s.commit<=MaxT
 si:s.since<=MaxT
 hb:s.hb<=MaxT
 la:s.latest<=MaxT
 wa:s.wait<=MaxT
 be:s.beat<=MaxT
 nx:∀ u,s.next.getD u 0<=k+1
 nx1:s.role=3->∀ u,u<9->1<=s.next.getD u 0
 mt:∀ u,s.mtch.getD u 0<=k
theorem Wf.memb {s:PN} {k:Nat} (h:Wf s k):Permit s.memb:=permit_cfg h.ini s.log
section
variable {w:World} {N D:Nat->Prop} {p t ma dur k:Nat} {s:PN} {mm:Memb} {ops:List Op} {uns:Bool} {outs:List Msg} {q:Ptrs}
theorem leader_c (h:NodeAt w N D p t s uns outs k):Calls Tryz.prog 14 #[.pointer (some ⟨p,0,none⟩)] w fun e w'=>e=.returned (.int .i64 (optI s.leader))/\w'=w:=by
 obtain ⟨q,ops,dur,h1,-⟩:=h.ex
 exact nf14 p w _ ⟨_,h1.cell (by omega) rfl,rfl,rfl⟩
theorem role_c (h:NodeAt w N D p t s uns outs k):Calls Tryz.prog 15 #[.pointer (some ⟨p,0,none⟩)] w fun e w'=>e=.returned (.int .i64 (s.role:Int))/\w'=w:=by
 obtain ⟨q,ops,dur,h1,-⟩:=h.ex
 exact nf15 p w _ ⟨_,h1.cell (by omega) rfl,rfl,rfl⟩
theorem commitIndex_c (h:NodeAt w N D p t s uns outs k):Calls Tryz.prog 17 #[.pointer (some ⟨p,0,none⟩)] w fun e w'=>e=.returned (.int .i64 (s.commit:Int))/\w'=w:=by
 obtain ⟨q,ops,dur,h1,-⟩:=h.ex
 exact nf17 p w _ ⟨_,h1.cell (by omega) rfl,rfl,rfl⟩
theorem lastIndexX_c (h1:NodeX w D p t s mm ma ops dur uns outs q) (hl:s.log.length<=100000):Calls Tryz.prog 20 #[.pointer (some ⟨p,0,none⟩)] w fun e w'=>e=.returned (.int .i64 (s.log.length:Int))/\Grow w w':=by
 refine nf20 p w _ ⟨_,h1.cell (by omega) rfl,(last_c h1.log (by omega)).mono ?_⟩
 rintro _ w3 ⟨rfl,g3⟩
 exact ⟨_,_,rfl,rfl,g3⟩
theorem lastIndex_c (h:NodeAt w N D p t s uns outs k) (hl:s.log.length<=100000):Calls Tryz.prog 20 #[.pointer (some ⟨p,0,none⟩)] w fun e w'=>e=.returned (.int .i64 (s.log.length:Int))/\Grow w w':=by
 obtain ⟨q,ops,dur,h1,-⟩:=h.ex
 exact lastIndexX_c h1 hl
theorem ok_c (h1:NodeX w D p t s mm ma ops dur uns outs q):Calls Tryz.prog 65 #[.pointer (some ⟨p,0,none⟩),.int .i64 0] w fun e w'=>e=.returned (.bool true)/\w'=w:=by
 refine nf65 p 0 w _ fun k1 hk1=>nno rfl (hk1 w fun _=>⟨_,h1.cellT (k:=0) rfl,yes rfl ⟨rfl,rfl⟩⟩)
theorem tick_c (h:NodeAt w N D p t s uns outs k) (now:Nat) (hn:now<=MaxT):Calls Tryz.prog 29 #[.pointer (some ⟨p,0,none⟩),.int .i64 (now:Int)] w fun e w'=>e=.returned (.int .i64 ((s.at now).latest:Int))/\NodeAt w' N D p t (s.at now) uns outs k/\Only N w w':=by
 obtain ⟨q,ops,dur,h1,h2,h3⟩:=h.ex
 unfold MaxT at hn
 refine nf29 p now w _ ⟨_,h1.cell (by omega) rfl,h1.there (by omega),fun w2 e2=>?_⟩
 have e:(if (s.latest:Int)<(if (1099511627776:Int)<(if (now:Int)<0 then 0 else (now:Int)) then 1099511627776 else (if (now:Int)<0 then 0 else (now:Int))) then (if (1099511627776:Int)<(if (now:Int)<0 then 0 else (now:Int)) then 1099511627776 else (if (now:Int)<0 then 0 else (now:Int))) else (s.latest:Int))=((max s.latest now:Nat):Int):=by
  rw [if_neg (show ¬((now:Int)<0) by omega),if_neg (show ¬((1099511627776:Int)<(now:Int)) by omega)]
  split <;> omega
 rw [e] at e2
 obtain ⟨x2,o2⟩:=h1.cells (s':=s.at now) (mm':=s.memb) (ma':=membAt s.log) (uns':=uns) e2 rfl rfl rfl rfl rfl h1.mem ⟨h1.len.v,h1.len.n,h1.len.m⟩
 exact ⟨_,x2.cell (by omega) rfl,rfl,⟨q,ops,dur,x2,h2,h3⟩,o2.mono fun b _ hb=>(h2 b).2 (.inl hb)⟩
theorem permitted_c {A:Nat->Prop} {c:Memb} {o1 o2:Option Addr} {c1 c2:Nat} (hp:Permit c) (w:World) (h:Mem w A c o1 o2) (hA:∀ b,A b->b<hs w):
  Calls Tryz.prog 22 #[memA c o1 c1 o2 c2] w fun e w'=>e=.returned (.bool true)/\Grow w w':=by
 refine nf22 o1 _ c1 o2 _ c2 w _ fun w1 e1=>?_
 have r1:=Row.new (l:=[_,_]) e1
 have g1:Grow w w1:=only_alloc e1
 have z1:=hs_alloc e1
 refine ⟨_,_,_,r1.cell rfl,_,_,_,r1.cell rfl,(valid_c (c:=c) hp w1 (h.grow g1)).mono ?_⟩
 rintro _ w10 ⟨rfl,g10⟩
 have r10:=r1.grow g10
 have G10:=g1.trans' g10
 have z10:=g10.size
 refine ⟨_,rfl,bT ⟨_,_,_,r10.cell rfl,_,_,_,r10.cell rfl,(members_c (c:=c) hp w10 (h.grow G10) (fun b hb=>by have:=hA b hb;omega)).mono ?_⟩⟩
 rintro _ w20 ⟨g,c',rfl,own,g20⟩
 have hne:0<(members c).length:=by
  obtain ⟨x,hx⟩:=List.exists_mem_of_length_pos (show 0<c.old.length by have:=hp.len;omega)
  exact List.length_pos_of_mem ((mem_members hp).2 (.inl hx))
 have hml:(members c).length<=9:=by unfold members;have:=List.length_filter_le (fun x=>decide (x∈c.old\/x∈c.new)) (List.range 9);simpa using this
 have ei:IntKind.wrap .i64 (((members c).length:Int) - 1)=(((members c).length - 1:Nat):Int):=by rw [wr (by omega)];omega
 have hat:=List.getElem?_eq_getElem (show (members c).length - 1<(members c).length by omega)
 have h9:=members_lt (List.getElem_mem (show (members c).length - 1<(members c).length by omega))
 obtain ⟨a,ha,-,hc⟩:=Ints.at (own_ints own) hat
 refine ⟨_,_,_,rfl,?_⟩
 rw [ei]
 exact ⟨a,ha,⟨by omega,by omega⟩,_,hc,yes (by omega) ⟨rfl,G10.trans' g20⟩⟩
theorem OkEnt.memb {e:Ent} (h:OkEnt e):(e.kind≠3/\mbOf e=none)\/∃ c,e.kind=3/\Permit c/\encM c=e.body/\mbOf e=some c:=by
 by_cases hk:e.kind=3
 ·obtain ⟨c,h1,h2⟩:=h.m hk
  refine .inr ⟨c,hk,h1,h2,?_⟩
  have:=mbOf_memb (T:=e.term) h1
  rw [h2,<- hk] at this
  exact this
 ·exact .inl ⟨hk,mbOf_not hk⟩
theorem membershipOf_c {A:Nat->Prop} {e:Ent} {o:Option Addr} {c:Nat} (he:OkEnt e) (w:World) (h:Byts w A o e.body) (hA:∀ b,A b->b<hs w):
  Calls Tryz.prog 63 #[entA e o c] w fun r w'=>Grow w w'/\((mbOf e=none/\∃ a b x d f g,r=.returned (.tuple #[.agg #[.slice a b x,.slice d f g],.bool false]))\/∃ c p1 k1 p2 k2,mbOf e=some c/\Permit c/\r=.returned (.tuple #[memA c p1 k1 p2 k2,.bool true])/\Mem w' (fun b=>hs w<=b/\b<hs w') c p1 p2):=by
 refine nf63 e.term e.kind o e.body.length c w _ fun w1 e1 w3 e3=>?_
 have r1:=Row.new (l:=[_,_,_]) e1
 have r3:=Row.new (l:=[_,_]) e3
 have g1:Grow w w1:=only_alloc e1
 have g3:Grow w1 w3:=only_alloc e3
 have z1:=hs_alloc e1
 have z3:=hs_alloc e3
 have r1':=r1.grow g3
 have G3:=g1.trans' g3
 rcases he.memb with ⟨hk,hm⟩ | ⟨cc,hk,hp,hb,hm⟩
 ·refine ⟨_,r1'.cell rfl,nyes (by omega) ⟨r3.there (by simp),fun w7 e7=>?_⟩⟩
  have r7:Row w7 (hs w1) 26 [.slice none 0 0,.slice none 0 0]:=r3.set e7
  exact ⟨_,_,_,r7.cell rfl,_,_,_,r7.cell rfl,G3.trans (only_set e7) fun b hb e=>by omega,.inl ⟨hm,_,_,_,_,_,_,rfl⟩⟩
 ·have h3:=h.grow G3
  refine ⟨_,r1'.cell rfl,nno (by omega) ⟨_,_,_,r1'.cell rfl,?_⟩⟩
  rw [<- hb] at h3 ⊢
  refine (decodeM_c hp w3 h3 (fun b hb=>by have:=hA b hb;omega)).mono ?_
  rintro _ w20 ⟨p1,k1,p2,k2,rfl,m20,g20⟩
  have z20:=g20.size
  refine ⟨_,_,_,_,_,_,_,rfl,fun w28 e28=>⟨(Row.new (l:=[_,_]) e28).there (by simp),fun w30 e30=>nno rfl ?_⟩⟩
  obtain ⟨r30,g30⟩:=loc (l:=[_,_]) (vs:=[.slice p1 cc.old.length k1,.slice p2 cc.new.length k2]) e28 e30 rfl
  have z30:=g30.size
  have lr:=r30.lt
  refine ⟨_,_,_,r30.cell rfl,_,_,_,r30.cell rfl,(permitted_c (c:=cc) hp w30 (m20.grow g30) (fun b hb=>by omega)).mono ?_⟩
  rintro _ w49 ⟨rfl,g49⟩
  have z49:=g49.size
  have r49:=r30.grow g49
  have q49:=((r3.grow g20).grow g30).grow g49
  refine ⟨_,rfl,bT ⟨_,_,_,r49.cell rfl,_,_,_,r49.cell rfl,q49.there (by simp),fun w58 e58=>?_⟩⟩
  have o58:Only (fun b=>b=hs w1) w49 w58:=only_set e58
  have z58:=o58.size
  have r58:Row w58 (hs w1) 26 [.slice p1 cc.old.length k1,.slice p2 cc.new.length k2]:=q49.set e58
  refine ⟨_,_,_,r58.cell rfl,_,_,_,r58.cell rfl,(((G3.trans' g20).trans' g30).trans' g49).trans o58 fun b hb e=>by omega,.inr ⟨cc,p1,k1,p2,k2,hm,hp,rfl,(((m20.grow g30).grow g49).keep o58 fun b hb e=>by omega).mono fun b hb=>⟨by omega,by omega⟩⟩⟩
theorem same_c {A:Nat->Prop} {e:Ent} {o:Option Addr} {c n:Nat} (h1:NodeX w D p t s mm ma ops dur uns outs q) (hl:s.log.length<=100000) (hn:1<=n) (hs':∀ e∈s.log,e.body.length<=8192) (hb:Byts w A o e.body) (hA:∀ b,A b->b<hs w):
  Calls Tryz.prog 108 #[.pointer (some ⟨p,0,none⟩),.int .i64 (n:Int),entA e o c] w fun r w'=>r=.returned (.bool (decide (s.log[n - 1]?=some e)))/\Grow w w':=by
 refine nf108 p n e.term e.kind o e.body.length c w _ fun w1 e1=>?_
 have r1:=Row.new (l:=[_,_,_]) e1
 have g1:Grow w w1:=only_alloc e1
 have z1:=hs_alloc e1
 have x1:=h1.grow g1
 refine ⟨_,x1.cell (by omega) rfl,?_⟩
 cases hat:s.log[n - 1]? with
 | none=>
  have hlen:s.log.length<n:=by
   rcases Nat.lt_or_ge (n - 1) s.log.length with h | h
   ·rw [List.getElem?_eq_getElem h] at hat;cases hat
   ·omega
  refine (get_none x1.log (by omega) (.inr hlen)).mono ?_
  rintro _ w5 ⟨rfl,g5⟩
  refine ⟨_,_,_,_,_,_,rfl,bF fun w37 e37=>⟨(Row.new (l:=[_,_,_]) e37).there (by simp),fun w39 e39=>?_⟩⟩
  obtain ⟨-,g39⟩:=loc (l:=[_,_,_]) (vs:=[_,_,_]) e37 e39 rfl
  exact ⟨by simp,(g1.trans' g5).trans' g39⟩
 | some f=>
  have hf8:=hs' f (List.mem_of_getElem? hat)
  refine (get_some x1.log (by omega) hn hat hf8).mono ?_
  rintro _ w5 ⟨of,cf,rfl,b5,g5⟩
  have z5:=g5.size
  refine ⟨_,_,_,_,_,_,rfl,bT fun w13 e13=>⟨(Row.new (l:=[_,_,_]) e13).there (by simp),fun w15 e15=>?_⟩⟩
  obtain ⟨r15,g15⟩:=loc (l:=[_,_,_]) (vs:=[.int .i64 (f.term:Int),.int .i64 (f.kind:Int),.slice of f.body.length cf]) e13 e15 rfl
  have r1':=(r1.grow g5).grow g15
  have G:=(g1.trans' g5).trans' g15
  have ee:decide (some f=some e)=decide (f=e):=by
   by_cases hfe:f=e
   ·rw [hfe];simp
   ·rw [decide_eq_false hfe,decide_eq_false fun k=>hfe (Option.some.inj k)]
  rw [ee]
  refine ⟨_,r15.cell rfl,_,r1'.cell rfl,fun ht=>⟨_,r15.cell rfl,_,r1'.cell rfl,fun hk=>⟨_,_,_,r15.cell rfl,_,_,_,r1'.cell rfl,(bytesEqual_c (b5.grow g15) (hb.grow G)).mono ?_⟩,fun hk=>?_⟩,fun ht=>?_⟩
  ·have ht:=dT ht
   have hk:=dT hk
   rintro _ w30 ⟨rfl,e30⟩
   have e30:=e30.symm
   subst e30
   have e2:decide (f=e)=decide (f.body=e.body):=by
    by_cases hbb:f.body=e.body
    ·rw [decide_eq_true hbb]
     have ht':f.term=e.term:=by omega
     have hk':f.kind=e.kind:=by omega
     exact decide_eq_true (by cases f;cases e;simp only at ht' hk' hbb;rw [ht',hk',hbb])
    ·rw [decide_eq_false hbb]
     exact decide_eq_false fun k=>hbb (by rw [k])
   rw [e2]
   exact ⟨_,rfl,fun hx=>⟨by rw [hx],G⟩,fun hx=>⟨by rw [hx],G⟩⟩
  ·have hk:=dF hk
   exact ⟨by rw [decide_eq_false fun x=>hk (by rw [x])],G⟩
  ·have ht:=dF ht
   exact ⟨by rw [decide_eq_false fun x=>ht (by rw [x])],G⟩
theorem entry_some {n:Nat} {e:Ent} (h:NodeAt w N D p t s uns outs k) (hl:s.log.length<=100000) (hn:1<=n) (he:s.log[n - 1]?=some e) (hb:e.body.length<=8192):
  Calls Tryz.prog 16 #[.pointer (some ⟨p,0,none⟩),.int .i64 (n:Int)] w fun r w'=>∃ o c,r=.returned (.tuple #[entA e o c,.bool true])/\Byts w' (fun b=>hs w<=b/\b<hs w') o e.body/\Grow w w':=by
 obtain ⟨q,ops,dur,h1,-⟩:=h.ex
 refine nf16 p n w _ fun w1 e1=>?_
 have r1:=Row.new (l:=[_,_,_]) e1
 have g1:Grow w w1:=only_alloc e1
 have z1:=hs_alloc e1
 have x1:=h1.grow g1
 refine ⟨_,x1.cell (by omega) rfl,(get_some x1.log (by omega) hn he hb).mono ?_⟩
 rintro _ w5 ⟨of,cf,rfl,b5,g5⟩
 have z5:=g5.size
 refine ⟨_,_,_,_,_,_,rfl,bT ⟨(r1.grow g5).there (by simp),fun w13 e13=>?_⟩⟩
 have o13:Only (fun b=>b=hs w) w5 w13:=only_set e13
 have z13:=o13.size
 have r13:Row w13 (hs w) 49 [.int .i64 (e.term:Int),.int .i64 (e.kind:Int),.slice of e.body.length cf]:=(r1.grow g5).set e13
 exact ⟨_,r13.cell rfl,_,r13.cell rfl,_,_,_,r13.cell rfl,of,cf,rfl,(b5.keep o13 fun b hb e=>by omega).mono fun b hb=>⟨by omega,by omega⟩,(g1.trans' g5).trans o13 fun b hb e=>by omega⟩
theorem member_c (h:NodeAt w N D p t s uns outs k) (hp:Permit s.memb) (hid:s.id<9):Calls Tryz.prog 31 #[.pointer (some ⟨p,0,none⟩)] w fun e w'=>e=.returned (.bool (decide (s.id∈members s.memb)))/\Grow w w':=by
 obtain ⟨q,ops,dur,h1,-⟩:=h.ex
 refine nf31 p w _ fun w1 e1=>?_
 have g1:Grow w w1:=only_drew e1
 have x1:=h1.grow g1
 refine ⟨_,_,_,x1.cell (by omega) rfl,_,_,_,x1.cell (by omega) rfl,_,x1.cell (by omega) rfl,(members_c (c:=s.memb) hp w1 x1.mem (fun b hb=>(x1.ap b hb).2)).mono ?_⟩
 rintro _ w11 ⟨g,c',rfl,own,g11⟩
 have hml:(members s.memb).length<=9:=by unfold members;have:=List.length_filter_le (fun x=>decide (x∈s.memb.old\/x∈s.memb.new)) (List.range 9);simpa using this
 refine ⟨_,_,_,rfl,kept_only g11 x1.row.lt (fun h=>h),(contains_c (members s.memb) s.id (by omega) w11 (own_ints own)).mono ?_⟩
 rintro _ w16 ⟨rfl,e16⟩
 have e16:=e16.symm
 subst e16
 exact ⟨_,rfl,fun hb=>⟨by rw [hb],g1.trans' g11⟩,fun hb=>⟨by rw [hb],g1.trans' g11⟩⟩
theorem others_c (h:NodeAt w N D p t s uns outs k) (hp:Permit s.memb) (hid:s.id<9):Calls Tryz.prog 44 #[.pointer (some ⟨p,0,none⟩)] w fun e w'=>∃ g c',e=.returned (.slice (some ⟨g,0,none⟩) s.others.length c')/\Own w' (hs w) 3 1 (some ⟨g,0,none⟩) s.others.length c' (s.others.flatMap in1)/\Grow w w':=by
 obtain ⟨q,ops,dur,h1,-⟩:=h.ex
 refine nf44 p w _ fun w1 e1=>?_
 have r1:Row w1 (hs w) 27 [.pointer (some ⟨p,0,none⟩)]:=Row.new (l:=[_]) e1
 have g1:Grow w w1:=only_alloc e1
 have z1:=hs_alloc e1
 have x1:=h1.grow g1
 refine ⟨_,r1.cell rfl,_,rfl,?_⟩
 rw [Addr.add_lit,Nat.zero_add]
 refine ⟨_,_,_,x1.cell (k:=8) (by omega) rfl,_,_,_,by rw [Addr.add_lit];exact x1.cell (k:=9) (by omega) rfl,(members_c (c:=s.memb) hp w1 x1.mem (fun b hb=>(x1.ap b hb).2)).mono ?_⟩
 rintro _ w12 ⟨g,c',rfl,own,g12⟩
 have hml:(members s.memb).length<=9:=by unfold members;have:=List.length_filter_le (fun x=>decide (x∈s.memb.old\/x∈s.memb.new)) (List.range 9);simpa using this
 have x12:=x1.grow g12
 have r12:=r1.grow g12
 have zp:=h1.row.lt
 have hg:=(own.base g ⟨_,rfl,rfl⟩).1
 refine ⟨_,_,_,rfl,(deleteFunc_c (f:=fun x=>decide (x=s.id)) own rfl (by omega) fun w' x o'=>.inl ⟨81,#[],#[.pointer (some ⟨hs w,0,none⟩)],rfl,by kernel_rfl,?_⟩).mono ?_⟩
 ·have r':=r12.keep o' (by omega)
  have c':w'.cell? ⟨p,0,none⟩=some (.int .i64 (s.id:Int)):=(x12.row.keep o' (by omega)).cell (nodeV_head (by omega))
  refine nf81 x (hs w) w' _ ⟨_,r'.cell rfl,_,rfl,_,c',fun hb=>⟨?_,rfl⟩,fun hb=>⟨?_,rfl⟩⟩
  ·have:=dT hb
   rw [decide_eq_true (show x=s.id by omega)]
  ·have:=dF hb
   rw [decide_eq_false (show ¬x=s.id by omega)]
 ·rintro _ w17 ⟨rfl,own17,o17⟩
  have e:((members s.memb).filter fun x=>!decide (x=s.id))=s.others:=by
   unfold PN.others
   exact List.filter_congr fun x _=>by simp
  rw [e] at own17 ⊢
  exact ⟨_,_,_,rfl,g,c',rfl,own17.mono (by omega),(g1.trans' g12).trans o17 fun b hb e=>by omega⟩
end
end
section
open Go Go.Nf Go.RowKit
section
variable {w:World} {N D:Nat->Prop} {p t ma dur k:Nat} {s:PN} {mm:Memb} {ops:List Op} {uns:Bool} {outs:List Msg} {q:Ptrs}
theorem NodeX.voted (h:NodeX w D p t s mm ma ops dur uns outs q) {w':World} {o:Op} {T:Nat} {v:Option Nat} {J' F' D':Nat->Prop} {dur':Nat} (hv:VRAt w' q.vr q.j T v) (hj:JAt w' J' F' D' q.j t (ops.map recOf++[recOf o]) dur') (ho:Only (fun b=>(q.J b\/q.F b)\/b=q.vr) w w')
  (nJ:∀ b,J' b->q.J b\/hs w<=b) (nF:∀ b,F' b->q.F b\/hs w<=b) (nD:∀ b,D' b->D b\/hs w<=b) (mD:∀ b,D b->D' b) {s':PN} (hrow:nodeV s' mm ma uns outs.length q=nodeV s mm ma uns outs.length q) (e1:s'.term=T) (e2:s'.voted=v) (e3:s'.log=s.log) (e4:s'.init=s.init) (hl:Lens s'):
  NodeX w' D' p t s' mm ma (ops++[o]) dur' uns outs { q with J:=J',F:=F' }/\Moves w w' (q.N p) D (({ q with J:=J',F:=F' }:Ptrs).N p) D':=by
 have d:=h.dj
 have z:=ho.size
 have lt:=h.lt
 have hSD:∀ b,D b->¬((q.J b\/q.F b)\/b=q.vr):=fun b hb k=>by
  have:=(h.ap b hb).1
  rcases k with (k | k) | k
  ·exact this (.inr (.inr (.inl k)))
  ·exact this (.inr (.inr (.inr (.inl k))))
  ·exact this (.inr (.inl k))
 have hSL:∀ b,q.L b->¬((q.J b\/q.F b)\/b=q.vr):=fun b hb k=>by
  rcases k with (k | k) | k
  ·exact d.JL b k hb
  ·exact d.FL b k hb
  ·exact d.vL (k ▸ hb)
 have hSo:∀ b,inBlock q.oo b->¬((q.J b\/q.F b)\/b=q.vr):=fun b hb k=>by
  rcases k with (k | k) | k
  ·exact d.Jo b k hb
  ·exact d.Fo b k hb
  ·exact d.vo (k ▸ hb)
 have hap:∀ b,D' b->¬(({ q with J:=J',F:=F' }:Ptrs).N p b)/\b<hs w':=fun b hb=>by
  have hlt:b<hs w':=(hj.b.ap b hb).2
  refine ⟨fun k=>?_,hlt⟩
  have old:b<hs w->D b:=fun hb'=>(nD b hb).elim id fun k=>by omega
  have key:q.N p b->False:=fun k=>by
   have:=lt b k
   exact (h.ap b (old this)).1 k
  rcases k with k | k | k | k | k | k
  ·exact key (.inl k)
  ·exact key (.inr (.inl k))
  ·exact (hj.b.ap b hb).1 k
  ·exact hj.ap b hb k
  ·exact key (.inr (.inr (.inr (.inr (.inl k)))))
  ·exact key (.inr (.inr (.inr (.inr (.inr k)))))
 refine ⟨⟨?_,by rw [List.map_append];exact hj,?_,?_,?_,(h.mem.keep ho hSD).mono mD,h.out.keep ho hSo,h.mps,fun x hx=>⟨((h.ents x hx).1.keep ho hSD).mono mD,(h.ents x hx).2⟩,hap,hl⟩,ho.mono fun b _ hb=>?_,fun b hb=>?_,nD,mD⟩
 ·have:=h.row.keep ho fun k=>by
   rcases k with (k | k) | k
   ·exact d.pJ k
   ·exact d.pF k
   ·exact d.pvr k
  rw [<- hrow] at this
  exact this
 ·rw [e1,e2];exact hv
 ·rw [e3]
  exact (h.log.keep ho hSL hSD).more mD fun b hb=>⟨fun k=>(hap b hb).1 (.inr (.inr (.inr (.inr (.inl k))))),(hap b hb).2⟩
 ·rw [e4];exact (h.ini.keep ho hSD).mono mD
 ·rcases hb with (hb | hb) | hb
  ·exact .inr (.inr (.inl hb))
  ·exact .inr (.inr (.inr (.inl hb)))
  ·exact .inr (.inl hb)
 ·rcases hb with k | k | k | k | k | k
  ·exact .inl (.inl k)
  ·exact .inl (.inr (.inl k))
  ·exact (nJ b k).imp (fun k=>.inr (.inr (.inl k))) id
  ·exact (nF b k).imp (fun k=>.inr (.inr (.inr (.inl k)))) id
  ·exact .inl (.inr (.inr (.inr (.inr (.inl k)))))
  ·exact .inl (.inr (.inr (.inr (.inr (.inr k)))))
theorem Moves.of {w w':World} {N N' D D' M M':Nat->Prop} (h:Moves w w' M D M' D') (e:∀ b,N b↔M b) (e':∀ b,N' b↔M' b):Moves w w' N D N' D':=
 ⟨h.o.mono fun b _ hb=>(e b).2 hb,fun b hb=>(h.n b ((e' b).1 hb)).imp (e b).2 id,h.d,h.m⟩
theorem Moves.iff {w w':World} {N D M M' D':Nat->Prop} (h:Moves w w' M D M' D') (e:∀ b,N b↔M b):Moves w w' N D M' D':=h.of e fun _=>Iff.rfl
theorem len_data {ops:List Op} (hh:Hist ops) (hl:ops.length<=100000):(encFrom sum0 (ops.map recOf)).length+8300<=16777216/\(ops.map recOf).length<=1000000:=by
 have:=encFrom_len (ops.map recOf) sum0 hh.lens
 rw [List.length_map] at this ⊢
 omega
theorem enter_c {T:Nat} (h:NodeAt w N D p t s uns outs k) (hk:k<=95000) (hT:s.term<T) (hT':T<=MaxT):
  Calls Tryz.prog 37 #[.pointer (some ⟨p,0,none⟩),.int .i64 (T:Int)] w fun e w'=>e=.returned (.bool true)/\∃ N' D',NodeAt w' N' D' p t (enterS s T) uns outs (k+1)/\Moves w w' N D N' D':=by
 obtain ⟨q,ops,dur,h1,h2,hh,hst,hol,hd1,hd2⟩:=h.ex
 obtain ⟨l1,l2⟩:=len_data hh (by omega)
 refine nf37 p T w _ ⟨_,h1.cell (by omega) rfl,(advance_c h1.jat h1.vr l2 l1 hT hT' (fun k=>(h1.ap _ k).1 (.inr (.inl rfl)))).mono ?_⟩
 rintro _ w3 ⟨rfl,hv,J',F',D',hj,ho,nJ,nF,nD,mD⟩
 obtain ⟨x3,m3⟩:=h1.voted (o:=.t T) (s':={ s with term:=T,voted:=none }) hv hj ho nJ nF nD mD rfl rfl rfl rfl rfl ⟨h1.len.v,h1.len.n,h1.len.m⟩
 refine ⟨_,rfl,(ok_c x3).mono ?_⟩
 rintro _ w6 ⟨rfl,e6⟩
 have e6:=e6.symm
 subst e6
 refine ⟨_,rfl,bT ⟨x3.there (by omega),fun w9 e9=>?_⟩⟩
 obtain ⟨x9,o9⟩:=x3.cells (s':={ s with term:=T,voted:=none,role:=1 }) (mm':=s.memb) (ma':=membAt s.log) (uns':=uns) e9 rfl rfl rfl rfl rfl x3.mem ⟨h1.len.v,h1.len.n,h1.len.m⟩
 refine ⟨x9.there (by omega),fun w11 e11=>?_⟩
 obtain ⟨x11,o11⟩:=x9.cells (s':=enterS s T) (mm':=s.memb) (ma':=membAt s.log) (uns':=uns) e11 rfl rfl rfl rfl rfl x9.mem ⟨h1.len.v,h1.len.n,h1.len.m⟩
 refine ⟨rfl,_,D',⟨{ q with J:=J',F:=F' },ops++[Op.t T],_,x11,fun b=>Iff.rfl,hh.snoc (o:=.t T) ⟨by rw [hst];exact hT,hT'⟩,?_,by rw [List.length_append];simp;omega,by rw [List.map_append];exact Nat.le_refl _,fun _=>by rw [List.map_append];rfl⟩,(m3.trans (Moves.only (o9.trans' o11) fun b hb=>.inl hb)).iff h2⟩
 rw [st_snoc,hst];rfl
/-! ### messages -/
abbrev msgA (m:Msg) (src term:Int) (o:Option Addr) (c:Nat):Value:=.agg #[.int .i64 (m.kind:Int),.int .i64 src,.int .i64 (m.dst:Int),.int .i64 term,.int .i64 (m.prev:Int),.int .i64 (m.prevTerm:Int),.int .i64 (m.commit:Int),.bool m.granted,.slice o m.ents.length c]
theorem elem35:Elem Tryz.prog 35 45 9 88:=elem_of (by kernel_rfl)
set_option maxHeartbeats 1000000 in
theorem send_c (m:Msg) {src0 term0:Int} {oe:Option Addr} {ce:Nat} (h:NodeAt w N D p t s uns outs k) (hol:outs.length<=1000) (e1:m.src=s.id) (e2:m.term=s.term) (he:Ents w D oe m.ents) (hce:m.ents.length<=ce):
  Calls Tryz.prog 67 #[.pointer (some ⟨p,0,none⟩),msgA m src0 term0 oe ce] w fun e w'=>e=.returned (.tuple #[])/\∃ N',NodeAt w' N' D p t s uns (outs++[m]) k/\Moves w w' N D N' D:=by
 obtain ⟨q,ops,dur,h1,h2,hrest⟩:=h.ex
 refine nf67 p m.kind src0 m.dst term0 m.prev m.prevTerm m.commit m.granted oe m.ents.length ce w _ fun w1 e1'=>?_
 have r1:=Row.new (l:=[_,_,_,_,_,_,_,_,_]) e1'
 have g1:Grow w w1:=only_alloc e1'
 have z1:=hs_alloc e1'
 have x1:=h1.grow g1
 have lt:=h1.lt
 refine ⟨_,x1.cell (by omega) rfl,r1.there (by simp),fun w4 e4=>?_⟩
 have o4:Only (fun b=>b=hs w) w1 w4:=only_set e4
 have r4:Row w4 (hs w) 45 [.int .i64 (m.kind:Int),.int .i64 (s.id:Int),.int .i64 (m.dst:Int),.int .i64 term0,.int .i64 (m.prev:Int),.int .i64 (m.prevTerm:Int),.int .i64 (m.commit:Int),.bool m.granted,.slice oe m.ents.length ce]:=r1.set e4
 have g4:Grow w w4:=g1.trans o4 fun b hb e=>by omega
 have x4:=h1.grow g4
 refine ⟨_,x4.cell (by omega) rfl,(term_c x4.vr).mono ?_⟩
 rintro _ w8 ⟨rfl,e8⟩
 have e8:=e8.symm
 subst e8
 refine ⟨_,rfl,r4.there (by simp),fun w10 e10=>?_⟩
 have o10:Only (fun b=>b=hs w) w4 w10:=only_set e10
 have r10:Row w10 (hs w) 45 (msgV (m,(oe,ce))):=by
  have:Row w10 (hs w) 45 [.int .i64 (m.kind:Int),.int .i64 (s.id:Int),.int .i64 (m.dst:Int),.int .i64 (s.term:Int),.int .i64 (m.prev:Int),.int .i64 (m.prevTerm:Int),.int .i64 (m.commit:Int),.bool m.granted,.slice oe m.ents.length ce]:=r4.set e10
  unfold msgV
  rw [e1,e2];exact this
 intro w12 e12
 have g12:Grow w10 w12:=only_drew e12
 have G12:Grow w w12:=(g4.trans o10 fun b hb e=>by omega).trans' g12
 have x12:=h1.grow G12
 have r12:=r10.grow g12
 have z12:=G12.size
 refine ⟨_,_,_,x12.cellT (k:=2) rfl,_,r12.cell rfl,_,r12.cell rfl,_,r12.cell rfl,_,r12.cell rfl,_,r12.cell rfl,_,r12.cell rfl,_,r12.cell rfl,_,r12.cell rfl,_,_,_,r12.cell rfl,fun w28 e28=>?_⟩
 have r28:=Row.new (l:=msgV (m,(oe,ce))) e28
 have g28:Grow w12 w28:=only_alloc e28
 have z28:=hs_alloc e28
 have x28:=x12.grow g28
 refine ⟨kept_only g28 x12.row.lt (fun h=>h),?_⟩
 refine run_append_at (B:=0) elem35 x28.out (news:=msgV (m,(oe,ce))) rfl (fun i u hu=>r28.cellAdd hu) (fun u hu=>msgV_one [(m,(oe,ce))] u (by simpa using hu)) (by simp only [maxLen];omega) (by omega) (Nat.zero_le _) fun o32 c34 w31 p1 p2 p3=>⟨_,_,_,rfl,?_⟩
 have d:=x28.dj
 have z31:=p2.size
 have hNo:∀ b,inBlock q.oo b->q.N p b:=fun b hb=>.inr (.inr (.inr (.inr (.inr hb))))
 have row31:=x28.row.keep p2 d.po
 refine ⟨row31.there (by rw [nodeV_length h1.len];decide),fun w35 e35=>?_⟩
 have o35:Only (fun b=>b=p) w31 w35:=only_set e35
 have O:Only (fun b=>b=p\/inBlock q.oo b) w28 w35:=(p2.mono fun b _ hb=>.inr hb).trans' (o35.mono fun b _ hb=>.inl hb)
 have hSD:∀ b,D b->¬(b=p\/inBlock q.oo b):=fun b hb k=>(h1.ap b hb).1 (k.elim .inl fun k=>hNo b k)
 have row35:Row w35 p 76 (nodeV s s.memb (membAt s.log) uns (outs.length+1) { q with oo:=o32,co:=c34,mps:=q.mps++[(m,(oe,ce))] }):=by
  have:=row31.set e35
  have e:setFrom (nodeV s s.memb (membAt s.log) uns outs.length q) 46 [.slice o32 (outs.length+1) c34]=nodeV s s.memb (membAt s.log) uns (outs.length+1) { q with oo:=o32,co:=c34,mps:=q.mps++[(m,(oe,ce))] }:=by
   unfold nodeV
   have hlen:(headV s s.memb (membAt s.log) q++(s.votes.map bo1++(s.next.map in0++s.mtch.map in0))).length=44:=by
    simp only [List.length_append,List.length_map,h1.len.v,h1.len.n,h1.len.m];rfl
   have e1:headV s s.memb (membAt s.log) q++(s.votes.map bo1++(s.next.map in0++(s.mtch.map in0++tailV uns outs.length q)))=(headV s s.memb (membAt s.log) q++(s.votes.map bo1++(s.next.map in0++s.mtch.map in0)))++([.int .i64 0,.bool uns]++([.slice q.oo outs.length q.co]++[])):=by simp [tailV,List.append_assoc]
   rw [e1,<- List.append_assoc _ [Value.int .i64 0,.bool uns] _,setFrom_mid _ [.slice q.oo outs.length q.co] [] 46 [.slice o32 (outs.length+1) c34] (by rw [List.length_append,hlen];rfl) rfl]
   simp [tailV,headV,List.append_assoc]
  rwa [e] at this
 have newN:∀ b,inBlock o32 b->inBlock q.oo b\/hs w<=b:=fun b hb=>(p3 b hb).imp id fun k=>by omega
 have hap:∀ b,D b->¬(({ q with oo:=o32,co:=c34,mps:=q.mps++[(m,(oe,ce))] }:Ptrs).N p b)/\b<hs w35:=fun b hb=>by
  have:=h1.ap b hb
  refine ⟨fun k=>?_,by have:=O.size;omega⟩
  rcases k with k | k | k | k | k | k
  ·exact this.1 (.inl k)
  ·exact this.1 (.inr (.inl k))
  ·exact this.1 (.inr (.inr (.inl k)))
  ·exact this.1 (.inr (.inr (.inr (.inl k))))
  ·exact this.1 (.inr (.inr (.inr (.inr (.inl k)))))
  ·rcases newN b k with k | k
   ·exact this.1 (hNo b k)
   ·omega
 refine ⟨rfl,_,⟨{ q with oo:=o32,co:=c34,mps:=q.mps++[(m,(oe,ce))] },ops,dur,⟨?_,x28.jat.keep O (fun b hb k=>k.elim (fun e=>d.pJ (e ▸ hb)) fun k=>d.Jo b hb k) (fun b hb k=>k.elim (fun e=>d.pF (e ▸ hb)) fun k=>d.Fo b hb k) hSD,x28.vr.keep O fun k=>k.elim (fun e=>d.pvr e.symm) d.vo,x28.log.keep O (fun b hb k=>k.elim (fun e=>d.pL (e ▸ hb)) fun k=>d.Lo b hb k) hSD,x28.ini.keep O hSD,x28.mem.keep O hSD,?_,?_,fun x hx=>?_,hap,h1.len⟩,fun b=>Iff.rfl,hrest⟩,?_⟩
 ·rw [List.length_append];exact row35
 ·rw [List.length_append]
  have:Own w35 0 45 9 o32 (outs.length+1) c34 (q.mps.flatMap msgV++msgV (m,(oe,ce))):=p1.keep o35 fun b hb e=>by
   obtain ⟨l',hl'⟩:=p1.row hb
   rw [e] at hl'
   cases (row31.inj hl').2
  simpa using this
 ·rw [List.map_append,h1.mps];rfl
 ·rcases List.mem_append.1 hx with hx | hx
  ·exact ⟨(x28.ents x hx).1.keep O hSD,(x28.ents x hx).2⟩
  ·rw [List.mem_singleton.1 hx]
   exact ⟨((he.grow G12).grow g28).keep O hSD,hce⟩
 ·refine Moves.iff (M:=q.N p) ⟨?_,fun b hb=>?_,fun b hb=>.inl hb,fun b hb=>hb⟩ h2
  ·exact ((Grow.only G12).trans' (Grow.only g28)).trans' (O.mono fun b _ hb=>hb.elim .inl fun k=>hNo b k)
  ·rcases hb with k | k | k | k | k | k
   ·exact .inl (.inl k)
   ·exact .inl (.inr (.inl k))
   ·exact .inl (.inr (.inr (.inl k)))
   ·exact .inl (.inr (.inr (.inr (.inl k))))
   ·exact .inl (.inr (.inr (.inr (.inr (.inl k)))))
   ·exact (newN b k).imp (hNo b) id
end
end
section
open Go Go.Nf Go.RowKit
theorem out_row {s:PN} (L:Lens s) (mm:Memb) (ma:Nat) (uns:Bool) (n n':Nat) (q:Ptrs) (o:Option Addr) (c:Nat) (ms:List MP):
  setFrom (nodeV s mm ma uns n q) 46 [.slice o n' c]=nodeV s mm ma uns n' { q with oo:=o,co:=c,mps:=ms }:=by
 unfold nodeV
 have hlen:(headV s mm ma q++(s.votes.map bo1++(s.next.map in0++s.mtch.map in0))).length=44:=by
  simp only [List.length_append,List.length_map,L.v,L.n,L.m];rfl
 have e1:headV s mm ma q++(s.votes.map bo1++(s.next.map in0++(s.mtch.map in0++tailV uns n q)))=(headV s mm ma q++(s.votes.map bo1++(s.next.map in0++s.mtch.map in0)))++([.int .i64 0,.bool uns]++([.slice q.oo n q.co]++[])):=by simp [tailV,List.append_assoc]
 rw [e1,<- List.append_assoc _ [Value.int .i64 0,.bool uns] _,setFrom_mid _ [.slice q.oo n q.co] [] 46 [.slice o n' c] (by rw [List.length_append,hlen];rfl) rfl]
 simp [tailV,headV,List.append_assoc]
theorem uns_row {s:PN} (L:Lens s) (mm:Memb) (ma:Nat) (uns uns':Bool) (n:Nat) (q:Ptrs):
  setFrom (nodeV s mm ma uns n q) 45 [.bool uns']=nodeV s mm ma uns' n q:=by
 unfold nodeV
 have hlen:(headV s mm ma q++(s.votes.map bo1++(s.next.map in0++s.mtch.map in0))).length=44:=by
  simp only [List.length_append,List.length_map,L.v,L.n,L.m];rfl
 have e1:headV s mm ma q++(s.votes.map bo1++(s.next.map in0++(s.mtch.map in0++tailV uns n q)))=(headV s mm ma q++(s.votes.map bo1++(s.next.map in0++s.mtch.map in0)))++([.int .i64 0]++([.bool uns]++[.slice q.oo n q.co])):=by simp [tailV,List.append_assoc]
 rw [e1,<- List.append_assoc _ [Value.int .i64 0] _,setFrom_mid _ [.bool uns] [.slice q.oo n q.co] 45 [.bool uns'] (by rw [List.length_append,hlen];rfl) rfl]
 simp [tailV,List.append_assoc]
section
variable {w:World} {N D:Nat->Prop} {p t ma dur k:Nat} {s:PN} {mm:Memb} {ops:List Op} {uns:Bool} {outs:List Msg} {q:Ptrs}
theorem sent_c (h:NodeAt w N D p t s uns outs k):Calls Tryz.prog 33 #[.pointer (some ⟨p,0,none⟩)] w fun e w'=>∃ o c,e=.returned (.slice o outs.length c)/\∃ N' A,NodeAt w' N' D p t s false [] k/\Moves w w' N D N' D/\MsgsAt w' A o outs/\outs.length<=c/\(∀ b,A b->D b\/(N b/\¬N' b))/\∀ b,N' b->N b:=by
 obtain ⟨q,ops,dur,h1,h2,hh,hst,hol,hd1,hd2⟩:=h.ex
 refine nf33 p w _ ⟨_,_,_,h1.cellT (k:=2) rfl,h1.there (by omega),fun w4 e4=>?_⟩
 have o4:Only (fun b=>b=p) w w4:=only_set e4
 have d:=h1.dj
 have hD:∀ b,D b->¬b=p:=fun b hb e=>(h1.ap b hb).1 (.inl e)
 have row4:Row w4 p 76 (nodeV s s.memb (membAt s.log) uns 0 { q with oo:=none,co:=0,mps:=[] }):=by
  have:=h1.row.set e4
  rwa [out_row h1.len s.memb (membAt s.log) uns outs.length 0 q none 0 []] at this
 have x4:NodeX w4 D p t s s.memb (membAt s.log) ops dur uns [] { q with oo:=none,co:=0,mps:=[] }:=by
  refine ⟨row4,h1.jat.keep o4 (fun b hb e=>d.pJ (e ▸ hb)) (fun b hb e=>d.pF (e ▸ hb)) hD,h1.vr.keep o4 fun k=>d.pvr k.symm,h1.log.keep o4 (fun b hb e=>d.pL (e ▸ hb)) hD,h1.ini.keep o4 hD,h1.mem.keep o4 hD,own_nil _ _ _ _,rfl,fun x hx=>(by cases hx),fun b hb=>?_,h1.len⟩
  have:=h1.ap b hb
  refine ⟨fun k=>this.1 ?_,Nat.lt_of_lt_of_le this.2 o4.size⟩
  rcases k with k | k | k | k | k | ⟨a,ha,_⟩
  ·exact .inl k
  ·exact .inr (.inl k)
  ·exact .inr (.inr (.inl k))
  ·exact .inr (.inr (.inr (.inl k)))
  ·exact .inr (.inr (.inr (.inr (.inl k))))
  ·cases ha
 have hsub:∀ b,({ q with oo:=none,co:=0,mps:=[] }:Ptrs).N p b->q.N p b:=fun b k=>by
  rcases k with k | k | k | k | k | ⟨a,ha,_⟩
  ·exact .inl k
  ·exact .inr (.inl k)
  ·exact .inr (.inr (.inl k))
  ·exact .inr (.inr (.inr (.inl k)))
  ·exact .inr (.inr (.inr (.inr (.inl k))))
  ·cases ha
 have hA:∀ b,inBlock q.oo b->q.N p b/\¬({ q with oo:=none,co:=0,mps:=[] }:Ptrs).N p b:=fun b hb=>by
  refine ⟨.inr (.inr (.inr (.inr (.inr hb)))),fun k=>?_⟩
  rcases k with k | k | k | k | k | ⟨a,ha,_⟩
  ·exact d.po (k ▸ hb)
  ·exact d.vo (k ▸ hb)
  ·exact d.Jo b k hb
  ·exact d.Fo b k hb
  ·exact d.Lo b k hb
  ·cases ha
 have m0:MsgsAt w (fun b=>inBlock q.oo b\/D b) q.oo outs:=⟨q.mps,h1.mps,(own_recs' msgV_len (by decide) h1.out).mono fun b hb=>.inl hb,fun x hx=>⟨(h1.ents x hx).1.mono fun b hb=>.inr hb,(h1.ents x hx).2⟩⟩
 have fin:∀ (w':World) (dur':Nat),NodeX w' D p t s s.memb (membAt s.log) ops dur' false [] { q with oo:=none,co:=0,mps:=[] }->Only (fun b=>({ q with oo:=none,co:=0,mps:=[] }:Ptrs).N p b) w4 w'->dur'=(encFrom sum0 (ops.map recOf)).length->∃ x11:Int,w'.cell? ⟨p,44,none⟩=some (.int .i64 x11)/\((!decide (x11=0))=true->∃ o c,Ending.returned (.slice none 0 0)=.returned (.slice o outs.length c)/\∃ N' A,NodeAt w' N' D p t s false [] k/\Moves w w' N D N' D/\MsgsAt w' A o outs/\outs.length<=c/\(∀ b,A b->D b\/(N b/\¬N' b))/\∀ b,N' b->N b)/\((!decide (x11=0))=false->∃ o c,Ending.returned (.slice q.oo outs.length q.co)=.returned (.slice o outs.length c)/\∃ N' A,NodeAt w' N' D p t s false [] k/\Moves w w' N D N' D/\MsgsAt w' A o outs/\outs.length<=c/\(∀ b,A b->D b\/(N b/\¬N' b))/\∀ b,N' b->N b):=by
  intro w' dur' x' o' hd'
  have O:Only (fun b=>({ q with oo:=none,co:=0,mps:=[] }:Ptrs).N p b) w w':=(o4.mono fun b _ hb=>.inl hb).trans' o'
  refine ⟨_,x'.cellT (k:=0) rfl,nno rfl ⟨q.oo,q.co,rfl,_,fun b=>inBlock q.oo b\/D b,⟨{ q with oo:=none,co:=0,mps:=[] },ops,dur',x',fun b=>Iff.rfl,hh,hst,hol,Nat.le_of_eq hd',fun _=>hd'⟩,⟨O.mono fun b _ hb=>(h2 b).2 (hsub b hb),fun b hb=>.inl ((h2 b).2 (hsub b hb)),fun b hb=>.inl hb,fun b hb=>hb⟩,m0.keep O fun b hb k=>?_,h1.out.le,fun b hb=>?_,fun b hb=>(h2 b).2 (hsub b hb)⟩⟩
  ·rcases hb with hb | hb
   ·exact (hA b hb).2 k
   ·exact (h1.ap b hb).1 (hsub b k)
  ·rcases hb with hb | hb
   ·exact .inr ⟨(h2 b).2 (hA b hb).1,(hA b hb).2⟩
   ·exact .inl hb
 intro k6 hk6
 refine ⟨_,x4.cellT (k:=0) rfl,yes rfl ⟨_,x4.cellT (k:=1) rfl,fun hu=>?_,fun hu=>?_⟩⟩
 ·subst hu
  refine ⟨x4.there (by omega),fun w18 e18=>?_⟩
  obtain ⟨x18,o18⟩:=x4.cells (s':=s) (mm':=s.memb) (ma':=membAt s.log) (uns':=false) e18 (uns_row h1.len _ _ _ _ _ _) rfl rfl rfl rfl x4.mem h1.len
  refine ⟨_,x18.cell (by omega) rfl,(jSync_c x18.jat).mono ?_⟩
  rintro _ w22 ⟨rfl,j22,o22⟩
  have d18:=x18.dj
  have hDF:∀ b,D b->¬q.F b:=fun b hb k=>(h1.ap b hb).1 (.inr (.inr (.inr (.inl k))))
  have x22:NodeX w22 D p t s s.memb (membAt s.log) ops (encFrom sum0 (ops.map recOf)).length false [] { q with oo:=none,co:=0,mps:=[] }:=
   ⟨x18.row.keep o22 d18.pF,j22,x18.vr.keep o22 d18.vF,x18.log.keep o22 (fun b hb hf=>d18.FL b hf hb) hDF,x18.ini.keep o22 hDF,x18.mem.keep o22 hDF,own_nil _ _ _ _,rfl,fun x hx=>(by cases hx),fun b hb=>⟨(x18.ap b hb).1,Nat.lt_of_lt_of_le (x18.ap b hb).2 o22.size⟩,h1.len⟩
  refine ⟨_,rfl,(ok_c x22).mono ?_⟩
  rintro _ w25 ⟨rfl,e25⟩
  have e25:=e25.symm
  subst e25
  exact ⟨_,rfl,bT (hk6 w22 fun _=>fin w22 _ x22 ((o18.mono fun b _ hb=>.inl hb).trans' (o22.mono fun b _ hb=>.inr (.inr (.inr (.inl hb))))) rfl)⟩
 ·subst hu
  exact hk6 w4 fun _=>fin w4 _ x4 (Only.refl _ _) (hd2 rfl)
theorem NodeX.setMemb {D':Nat->Prop} {c:Memb} {p1 p2:Option Addr} {k1 k2:Nat} {w1 w2:World} {n:Nat} (h:NodeX w D p t s mm ma ops dur uns outs q) (hD:∀ b,D b->D' b) (ha:∀ b,D' b->¬q.N p b/\b<hs w) (hm:Mem w D' c p1 p2)
  (e1:w1=setCells w ⟨p,8,none⟩ [.slice p1 c.old.length k1,.slice p2 c.new.length k2] 0) (e2:w2=setCells w1 ⟨p,10,none⟩ [.int .i64 (n:Int)] 0):
  There w1 ⟨p,10,none⟩ 1/\NodeX w2 D' p t s c n ops dur uns outs { q with om1:=p1,cm1:=k1,om2:=p2,cm2:=k2 }/\Only (fun b=>b=p) w w2:=by
 have h':=h.more hD ha
 have o1:Only (fun b=>b=p) w w1:=only_set e1
 have o2:Only (fun b=>b=p) w1 w2:=only_set e2
 have o:=o1.trans' o2
 have d:=h.dj
 have hDp:∀ b,D' b->¬b=p:=fun b hb e=>(ha b hb).1 (.inl e)
 have r1:=h'.row.set e1
 have r2:=r1.set e2
 refine ⟨r1.there (by rw [setFrom_length,nodeV_length h.len];decide),⟨r2,h'.jat.keep o (fun b hb e=>d.pJ (e ▸ hb)) (fun b hb e=>d.pF (e ▸ hb)) hDp,h'.vr.keep o fun k=>d.pvr k.symm,h'.log.keep o (fun b hb e=>d.pL (e ▸ hb)) hDp,h'.ini.keep o hDp,hm.keep o hDp,h'.out.keep o fun b hb e=>d.po (e ▸ hb),h'.mps,fun x hx=>⟨(h'.ents x hx).1.keep o hDp,(h'.ents x hx).2⟩,fun b hb=>⟨(ha b hb).1,Nat.lt_of_lt_of_le (ha b hb).2 o.size⟩,h.len⟩,o⟩
theorem cfg_snoc_none {init:Memb} {l:List Ent} {e:Ent} (h:mbOf e=none):cfg mbOf init (l++[e])=cfg mbOf init l/\membAt (l++[e])=membAt l:=by
 refine ⟨?_,?_⟩
 ·unfold cfg
  have:=cfgs_snoc_none (init:=init) (l:=l) h
  simp only [this]
 ·rw [membAt_snoc,h];rfl
theorem cfg_snoc {init:Memb} {l:List Ent} {e:Ent} {c:Memb} (h:mbOf e=some c):cfg mbOf init (l++[e])=c/\membAt (l++[e])=l.length+1:=by
 refine ⟨?_,?_⟩
 ·unfold cfg
  have:=cfgs_snoc (init:=init) (l:=l) h
  simp only [this,List.getLast_append,List.getLast_singleton]
  simp
 ·rw [membAt_snoc,h];rfl
theorem cfg_take {init:Memb} {l:List Ent} {n:Nat} (h:membAt l<=n):cfg mbOf init (l.take n)=cfg mbOf init l/\membAt (l.take n)=membAt l:=by
 refine ⟨?_,?_⟩
 ·unfold cfg
  have:=membAt_cfgs (init:=init) l n h
  simp only [this]
 ·have key:∀ k (l:List Ent),l.length=k->∀ n,membAt l<=n->membAt (l.take n)=membAt l:=by
   intro k
   induction k with
   | zero=>intro l h n _;rw [List.eq_nil_of_length_eq_zero h];simp
   | succ k ih=>
    intro l h n hn
    rcases List.eq_nil_or_concat l with rfl | ⟨l',e,rfl⟩
    ·simp
    ·rw [List.concat_eq_append] at*
     have hl:l'.length=k:=by simpa using h
     have hs':=membAt_snoc l' e
     rcases Nat.lt_or_ge n (l'.length+1) with hlt | hge
     ·rw [hs'] at hn ⊢
      split at hn
      ·omega
      ·rename_i hm
       rw [if_neg hm,List.take_append_of_le_length (by omega)]
       exact ih l' hl n hn
     ·rw [List.take_of_length_le (by rw [List.length_append,List.length_singleton];omega)]
  exact key _ l rfl n h
set_option maxHeartbeats 1000000 in
theorem findMembership_c {last:Nat} (h:NodeX w D p t s mm ma ops dur uns outs q) (hl:s.log.length<=100000) (hlast:last<=s.log.length) (hok:∀ e∈s.log,OkEnt e) (hp:Permit s.init):
  Calls Tryz.prog 28 #[.pointer (some ⟨p,0,none⟩),.int .i64 (last:Int)] w fun e w'=>e=.returned (.tuple #[])/\∃ D' p1 k1 p2 k2,NodeX w' D' p t s (cfg mbOf s.init (s.log.take last)) (membAt (s.log.take last)) ops dur uns outs { q with om1:=p1,cm1:=k1,om2:=p2,cm2:=k2 }/\Only (fun b=>b=p) w w'/\(∀ b,D' b->D b\/hs w<=b)/\∀ b,D b->D' b:=by
 refine nf28 p last w _ ⟨fun k x w'=>∃ n:Nat,x=(n:Int)/\n<=last/\k=n/\cfg mbOf s.init (s.log.take last)=cfg mbOf s.init (s.log.take n)/\membAt (s.log.take last)=membAt (s.log.take n)/\Grow w w',⟨_,last,rfl,Nat.le_refl _,rfl,rfl,rfl,Only.refl _ _⟩,?_⟩
 rintro k _ w5 x ⟨n,rfl,hn,rfl,hc,hm,g5⟩
 have x5:=h.grow g5
 refine ⟨fun hge=>?_,fun hlt=>?_⟩
 ·have hge:1<=k:=by have:=dT hge;omega
  have hat:=List.getElem?_eq_getElem (show k - 1<s.log.length by omega)
  have htk:s.log.take k=s.log.take (k - 1)++[s.log[k - 1]'(by omega)]:=by
   have:=List.take_succ_eq_append_getElem (show k - 1<s.log.length by omega)
   rwa [Nat.sub_add_cancel hge] at this
  have hmem:=List.getElem_mem (show k - 1<s.log.length by omega)
  generalize s.log[k - 1]'(by omega)=e at*
  have he:=hok e hmem
  have he8:e.body.length<=8192:=by have:=he.b;omega
  refine ⟨_,x5.cell (by omega) rfl,(get_some x5.log (by omega) hge hat he8).mono ?_⟩
  rintro _ w11 ⟨o,c,rfl,b11,g11⟩
  have z11:=g11.size
  refine ⟨_,_,_,_,_,_,rfl,bT fun w19 e19=>⟨(Row.new (l:=[_,_,_]) e19).there (by simp),fun w21 e21=>?_⟩⟩
  obtain ⟨r21,g21⟩:=loc (l:=[_,_,_]) (vs:=[.int .i64 (e.term:Int),.int .i64 (e.kind:Int),.slice o e.body.length c]) e19 e21 rfl
  have z21:=g21.size
  refine ⟨_,r21.cell rfl,_,r21.cell rfl,_,_,_,r21.cell rfl,(membershipOf_c (c:=c) he w21 (b11.grow g21) (fun b hb=>by omega)).mono ?_⟩
  rintro _ w29 ⟨g29,hcase⟩
  have z29:=g29.size
  have G29:=((g5.trans' g11).trans' g21).trans' g29
  rcases hcase with ⟨hm0,a1,a2,a3,a4,a5,a6,rfl⟩ | ⟨cc,p1,k1,p2,k2,hm1,hpc,rfl,m29⟩
  ·refine ⟨_,_,_,_,_,_,_,rfl,bF fun w53 e53=>⟨(Row.new (l:=[_,_]) e53).there (by simp),fun w55 e55=>?_⟩⟩
   obtain ⟨-,g55⟩:=loc (l:=[_,_]) (vs:=[_,_]) e53 e55 rfl
   obtain ⟨c1,c2⟩:=cfg_snoc_none (init:=s.init) (l:=s.log.take (k - 1)) hm0
   rw [<- htk] at c1 c2
   exact ⟨_,by omega,k - 1,by rw [wr (by omega)];omega,by omega,rfl,hc.trans c1,hm.trans c2,G29.trans' g55⟩
  ·refine ⟨_,_,_,_,_,_,_,rfl,bT fun w38 e38=>⟨(Row.new (l:=[_,_]) e38).there (by simp),fun w40 e40=>?_⟩⟩
   obtain ⟨r40,g40⟩:=loc (l:=[_,_]) (vs:=[.slice p1 cc.old.length k1,.slice p2 cc.new.length k2]) e38 e40 rfl
   have G40:=G29.trans' g40
   have z40:=g40.size
   have x40:=h.grow G40
   obtain ⟨c1,c2⟩:=cfg_snoc (init:=s.init) (l:=s.log.take (k - 1)) hm1
   rw [<- htk] at c1 c2
   have hlk:(s.log.take (k - 1)).length+1=k:=by rw [List.length_take];omega
   refine ⟨_,_,_,r40.cell rfl,_,_,_,r40.cell rfl,x40.there (by omega),fun w48 e48=>?_⟩
   have hD':∀ b,(D b\/(hs w<=b/\b<hs w40))->¬q.N p b/\b<hs w40:=fun b hb=>by
    rcases hb with hb | hb
    ·exact x40.ap b hb
    ·exact ⟨fun k=>by have:=h.lt b k;omega,hb.2⟩
   have zw:=(g5.trans' g11).size
   have key:=fun w50 e50=>x40.setMemb (c:=cc) (k1:=k1) (k2:=k2) (n:=k) (w2:=w50) (D':=fun b=>D b\/(hs w<=b/\b<hs w40)) (fun b hb=>.inl hb) hD' ((m29.grow g40).mono fun b hb=>.inr ⟨by omega,by omega⟩) e48 e50
   refine ⟨(key _ rfl).1,fun w50 e50=>?_⟩
   obtain ⟨-,x50,o50⟩:=key w50 e50
   rw [hc,hm,c1,c2,hlk]
   exact ⟨rfl,_,p1,k1,p2,k2,x50,(Grow.only G40).trans' o50,fun b hb=>hb.imp id fun k=>k.1,fun b hb=>.inl hb⟩
 ·have hk0:k=0:=by have:=dF hlt;omega
  subst hk0
  refine ⟨_,_,_,x5.cell (by omega) rfl,_,_,_,x5.cell (by omega) rfl,x5.there (by omega),fun w105 e105=>?_⟩
  have key:=fun w107 e107=>x5.setMemb (c:=s.init) (k1:=q.ci1) (k2:=q.ci2) (n:=0) (w2:=w107) (D':=D) (fun b hb=>hb) (fun b hb=>x5.ap b hb) x5.ini e105 e107
  refine ⟨(key _ rfl).1,fun w107 e107=>?_⟩
  obtain ⟨-,x107,o107⟩:=key w107 e107
  rw [hc,hm]
  exact ⟨rfl,D,q.oi1,q.ci1,q.oi2,q.ci2,x107,(Grow.only g5).trans' o107,fun b hb=>.inl hb,fun b hb=>hb⟩
end
end
end Go.Proofs.YtcaokpglbolkcaaGreat
