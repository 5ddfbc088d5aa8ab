import Derived.Test.YtcaokpglbolkcaaGreatOd
import Derived.Test.YtcaokpglbolkcaaGreatNf4
namespace Go.Proofs.YtcaokpglbolkcaaGreat
open Go Go.Nf Go.RowKit
def HandleP (p g:Nat) (now:Int) (w0:World) (K:World->Prop):Prop:=
(∃ x93,(((w0.cell? ⟨g,0,none⟩)=(some (.int .i64 x93)))/\
((((decide (x93=1))=true)->
(∃ x95,(((w0.cell? ⟨g,0,none⟩)=(some (.int .i64 x95)))/\
(∃ x96,(((w0.cell? ⟨g,1,none⟩)=(some (.int .i64 x96)))/\
(∃ x97,(((w0.cell? ⟨g,2,none⟩)=(some (.int .i64 x97)))/\
(∃ x98,(((w0.cell? ⟨g,3,none⟩)=(some (.int .i64 x98)))/\
(∃ x99,(((w0.cell? ⟨g,4,none⟩)=(some (.int .i64 x99)))/\
(∃ x100,(((w0.cell? ⟨g,5,none⟩)=(some (.int .i64 x100)))/\
(∃ x101,(((w0.cell? ⟨g,6,none⟩)=(some (.int .i64 x101)))/\
(∃ b102,(((w0.cell? ⟨g,7,none⟩)=(some (.bool b102)))/\
(∃ o103,(∃ n104,(∃ n105,(((w0.cell? ⟨g,8,none⟩)=(some (.slice o103 n104 n105)))/\
(Calls Tryz.prog 39 #[(.pointer (some ⟨p,0,none⟩)),(.agg #[(.int .i64 x95),(.int .i64 x96),(.int .i64 x97),(.int .i64 x98),(.int .i64 x99),(.int .i64 x100),(.int .i64 x101),(.bool b102),(.slice o103 n104 n105)]),(.int .i64 now)] w0 (fun e106=>(fun w107=>((e106=(.returned (.tuple #[])))/\
(K w107))))))))))))))))))))))))))/\
(((decide (x93=1))=false)->
((((decide (x93=2))=true)->
(∃ b110,(((w0.cell? ⟨g,7,none⟩)=(some (.bool b110)))/\
(((b110=true)->
(∃ x112,(((w0.cell? ⟨p,11,none⟩)=(some (.int .i64 x112)))/\
((((decide (x112=2))=true)->
(∀ w114,((w114=w0.drew)->
(∃ x116,(((w114.cell? ⟨g,1,none⟩)=(some (.int .i64 x116)))/\
((((0:Int)<=x116)/\
(x116<9))/\
((There w114 (Addr.add ⟨p,17,none⟩ ((x116).toNat*1)) 1)/\
(∀ w117,((w117=(setCells w114 (Addr.add ⟨p,17,none⟩ ((x116).toNat*1)) [(.bool true)] 0))->
(Calls Tryz.prog 40 #[(.pointer (some ⟨p,0,none⟩))] w117 (fun e119=>(fun w120=>(∃ b121,((e119=(.returned (.bool b121)))/\
(((b121=true)->
(Calls Tryz.prog 41 #[(.pointer (some ⟨p,0,none⟩)),(.int .i64 now)] w120 (fun e123=>(fun w124=>((e123=(.returned (.tuple #[])))/\
(K w124))))))/\
((b121=false)->
(K w120)))))))))))))))))/\
(((decide (x112=2))=false)->
(K w0))))))/\
((b110=false)->
(K w0))))))/\
(((decide (x93=2))=false)->
((((decide (x93=3))=true)->
(∃ x130,(((w0.cell? ⟨p,11,none⟩)=(some (.int .i64 x130)))/\
((((!(decide (x130=3)))=true)->
(∃ x132,(((w0.cell? ⟨g,0,none⟩)=(some (.int .i64 x132)))/\
(∃ x133,(((w0.cell? ⟨g,1,none⟩)=(some (.int .i64 x133)))/\
(∃ x134,(((w0.cell? ⟨g,2,none⟩)=(some (.int .i64 x134)))/\
(∃ x135,(((w0.cell? ⟨g,3,none⟩)=(some (.int .i64 x135)))/\
(∃ x136,(((w0.cell? ⟨g,4,none⟩)=(some (.int .i64 x136)))/\
(∃ x137,(((w0.cell? ⟨g,5,none⟩)=(some (.int .i64 x137)))/\
(∃ x138,(((w0.cell? ⟨g,6,none⟩)=(some (.int .i64 x138)))/\
(∃ b139,(((w0.cell? ⟨g,7,none⟩)=(some (.bool b139)))/\
(∃ o140,(∃ n141,(∃ n142,(((w0.cell? ⟨g,8,none⟩)=(some (.slice o140 n141 n142)))/\
(Calls Tryz.prog 42 #[(.pointer (some ⟨p,0,none⟩)),(.agg #[(.int .i64 x132),(.int .i64 x133),(.int .i64 x134),(.int .i64 x135),(.int .i64 x136),(.int .i64 x137),(.int .i64 x138),(.bool b139),(.slice o140 n141 n142)]),(.int .i64 now)] w0 (fun e143=>(fun w144=>((e143=(.returned (.tuple #[])))/\
(K w144))))))))))))))))))))))))))/\
(((!(decide (x130=3)))=false)->
(K w0))))))/\
(((decide (x93=3))=false)->
((((decide (x93=4))=true)->
(∀ w148,((w148=w0.drew)->
(∃ x150,(((w148.cell? ⟨p,11,none⟩)=(some (.int .i64 x150)))/\
((((decide (x150=3))=true)->
(∃ x152,(((w148.cell? ⟨g,1,none⟩)=(some (.int .i64 x152)))/\
(Calls Tryz.prog 44 #[(.pointer (some ⟨p,0,none⟩))] w148 (fun e153=>(fun w154=>(∃ o155,(∃ n156,(∃ n157,((e153=(.returned (.slice o155 n156 n157)))/\
((Kept w148 w154 ⟨g,1,none⟩ 1)/\
(Calls Tryz.prog 43 #[(.slice o155 n156 n157),(.int .i64 x152)] w154 (fun e158=>(fun w159=>(∃ b160,((e158=(.returned (.bool b160)))/\
(((b160=true)->
(∃ x162,(((w159.cell? ⟨g,0,none⟩)=(some (.int .i64 x162)))/\
(∃ x163,(((w159.cell? ⟨g,1,none⟩)=(some (.int .i64 x163)))/\
(∃ x164,(((w159.cell? ⟨g,2,none⟩)=(some (.int .i64 x164)))/\
(∃ x165,(((w159.cell? ⟨g,3,none⟩)=(some (.int .i64 x165)))/\
(∃ x166,(((w159.cell? ⟨g,4,none⟩)=(some (.int .i64 x166)))/\
(∃ x167,(((w159.cell? ⟨g,5,none⟩)=(some (.int .i64 x167)))/\
(∃ x168,(((w159.cell? ⟨g,6,none⟩)=(some (.int .i64 x168)))/\
(∃ b169,(((w159.cell? ⟨g,7,none⟩)=(some (.bool b169)))/\
(∃ o170,(∃ n171,(∃ n172,(((w159.cell? ⟨g,8,none⟩)=(some (.slice o170 n171 n172)))/\
(Calls Tryz.prog 45 #[(.pointer (some ⟨p,0,none⟩)),(.agg #[(.int .i64 x162),(.int .i64 x163),(.int .i64 x164),(.int .i64 x165),(.int .i64 x166),(.int .i64 x167),(.int .i64 x168),(.bool b169),(.slice o170 n171 n172)])] w159 (fun e173=>(fun w174=>((e173=(.returned (.tuple #[])))/\
(K w174))))))))))))))))))))))))))/\
((b160=false)->
(K w159)))))))))))))))))))/\
(((decide (x150=3))=false)->
(K w148))))))))/\
(((decide (x93=4))=false)->
(K w0)))))))))))
def RestP (p g:Nat) (now:Int) (w0:World) (R:Ending->World->Prop):Prop:=
(∀ w43,((w43=w0.drew)->
(∃ x45,(((w43.cell? ⟨g,3,none⟩)=(some (.int .i64 x45)))/\
(∃ o46,(((w43.cell? ⟨p,4,none⟩)=(some (.pointer o46)))/\
(Calls Tryz.prog 36 #[(.pointer o46)] w43 (fun e47=>(fun w48=>(∃ x49,((e47=(.returned (.int .i64 x49)))/\
((Kept w43 w48 ⟨g,3,none⟩ 1)/\
((((decide (x45>x49))=true)->
(∃ x51,(((w48.cell? ⟨g,3,none⟩)=(some (.int .i64 x51)))/\
(Calls Tryz.prog 37 #[(.pointer (some ⟨p,0,none⟩)),(.int .i64 x51)] w48 (fun e52=>(fun w53=>(∃ b54,((e52=(.returned (.bool b54)))/\
(((b54=true)->
(∀ w56,((w56=w53.drew)->
(∃ x58,(((w56.cell? ⟨g,3,none⟩)=(some (.int .i64 x58)))/\
(∃ o59,(((w56.cell? ⟨p,4,none⟩)=(some (.pointer o59)))/\
(Calls Tryz.prog 36 #[(.pointer o59)] w56 (fun e60=>(fun w61=>(∃ x62,((e60=(.returned (.int .i64 x62)))/\
((Kept w56 w61 ⟨g,3,none⟩ 1)/\
((((decide (x58<x62))=true)->
(∃ x64,(((w61.cell? ⟨g,0,none⟩)=(some (.int .i64 x64)))/\
(∃ x65,(((w61.cell? ⟨g,1,none⟩)=(some (.int .i64 x65)))/\
(∃ x66,(((w61.cell? ⟨g,2,none⟩)=(some (.int .i64 x66)))/\
(∃ x67,(((w61.cell? ⟨g,3,none⟩)=(some (.int .i64 x67)))/\
(∃ x68,(((w61.cell? ⟨g,4,none⟩)=(some (.int .i64 x68)))/\
(∃ x69,(((w61.cell? ⟨g,5,none⟩)=(some (.int .i64 x69)))/\
(∃ x70,(((w61.cell? ⟨g,6,none⟩)=(some (.int .i64 x70)))/\
(∃ b71,(((w61.cell? ⟨g,7,none⟩)=(some (.bool b71)))/\
(∃ o72,(∃ n73,(∃ n74,(((w61.cell? ⟨g,8,none⟩)=(some (.slice o72 n73 n74)))/\
(Calls Tryz.prog 38 #[(.pointer (some ⟨p,0,none⟩)),(.agg #[(.int .i64 x64),(.int .i64 x65),(.int .i64 x66),(.int .i64 x67),(.int .i64 x68),(.int .i64 x69),(.int .i64 x70),(.bool b71),(.slice o72 n73 n74)])] w61 (fun e75=>(fun w76=>((e75=(.returned (.tuple #[])))/\
(Calls Tryz.prog 33 #[(.pointer (some ⟨p,0,none⟩))] w76 (fun e77=>(fun w78=>(∃ o79,(∃ n80,(∃ n81,((e77=(.returned (.slice o79 n80 n81)))/\
(R (.returned (.slice o79 n80 n81)) w78)))))))))))))))))))))))))))))))))/\
(((decide (x58<x62))=false)->
(∀ k83:(World->Prop),((∀ w85:World,(((Nat->Value)->
(Calls Tryz.prog 33 #[(.pointer (some ⟨p,0,none⟩))] w85 (fun e88=>(fun w89=>(∃ o90,(∃ n91,(∃ n92,((e88=(.returned (.slice o90 n91 n92)))/\
(R (.returned (.slice o90 n91 n92)) w89)))))))))->
(k83 w85)))->
(HandleP p g now w61 k83))))))))))))))))))/\
((b54=false)->
(R (.returned (.slice none 0 0)) w53)))))))))))/\
(((decide (x45>x49))=false)->
(∀ w180,((w180=w48.drew)->
(∃ x182,(((w180.cell? ⟨g,3,none⟩)=(some (.int .i64 x182)))/\
(∃ o183,(((w180.cell? ⟨p,4,none⟩)=(some (.pointer o183)))/\
(Calls Tryz.prog 36 #[(.pointer o183)] w180 (fun e184=>(fun w185=>(∃ x186,((e184=(.returned (.int .i64 x186)))/\
((Kept w180 w185 ⟨g,3,none⟩ 1)/\
((((decide (x182<x186))=true)->
(∃ x188,(((w185.cell? ⟨g,0,none⟩)=(some (.int .i64 x188)))/\
(∃ x189,(((w185.cell? ⟨g,1,none⟩)=(some (.int .i64 x189)))/\
(∃ x190,(((w185.cell? ⟨g,2,none⟩)=(some (.int .i64 x190)))/\
(∃ x191,(((w185.cell? ⟨g,3,none⟩)=(some (.int .i64 x191)))/\
(∃ x192,(((w185.cell? ⟨g,4,none⟩)=(some (.int .i64 x192)))/\
(∃ x193,(((w185.cell? ⟨g,5,none⟩)=(some (.int .i64 x193)))/\
(∃ x194,(((w185.cell? ⟨g,6,none⟩)=(some (.int .i64 x194)))/\
(∃ b195,(((w185.cell? ⟨g,7,none⟩)=(some (.bool b195)))/\
(∃ o196,(∃ n197,(∃ n198,(((w185.cell? ⟨g,8,none⟩)=(some (.slice o196 n197 n198)))/\
(Calls Tryz.prog 38 #[(.pointer (some ⟨p,0,none⟩)),(.agg #[(.int .i64 x188),(.int .i64 x189),(.int .i64 x190),(.int .i64 x191),(.int .i64 x192),(.int .i64 x193),(.int .i64 x194),(.bool b195),(.slice o196 n197 n198)])] w185 (fun e199=>(fun w200=>((e199=(.returned (.tuple #[])))/\
(Calls Tryz.prog 33 #[(.pointer (some ⟨p,0,none⟩))] w200 (fun e201=>(fun w202=>(∃ o203,(∃ n204,(∃ n205,((e201=(.returned (.slice o203 n204 n205)))/\
(R (.returned (.slice o203 n204 n205)) w202)))))))))))))))))))))))))))))))))/\
(((decide (x182<x186))=false)->
(∀ k207:(World->Prop),((∀ w209:World,(((Nat->Value)->
(Calls Tryz.prog 33 #[(.pointer (some ⟨p,0,none⟩))] w209 (fun e212=>(fun w213=>(∃ o214,(∃ n215,(∃ n216,((e212=(.returned (.slice o214 n215 n216)))/\
(R (.returned (.slice o214 n215 n216)) w213)))))))))->
(k207 w209)))->
(HandleP p g now w185 k207)))))))))))))))))))))))))))))))
theorem inRange_c {n low:Nat} (h1:low<=n) (h2:n<=MaxT) (w:World):Calls Tryz.prog 71 #[.int .i64 (n:Int),.int .i64 (low:Int)] w fun e w'=>e=.returned (.bool true)/\w'=w:=by
 unfold MaxT at h2
 exact nf71 n low w _ (yes (by omega) (yes (by omega) ⟨rfl,rfl⟩))
section
variable {w:World} {N D A:Nat->Prop} {p t ma dur k:Nat} {s:PN} {mm:Memb} {ops:List Op} {uns:Bool} {outs:List Msg} {q:Ptrs} {m:Msg} {o:Option Addr} {c now:Nat}
theorem msgOk_c (wm:WfMsg m) (w:World) (he:Ents w A o m.ents) (hA:∀ b,A b->b<hs w):Calls Tryz.prog 35 #[msgA m m.src m.term o c] w fun e w'=>e=.returned (.bool true)/\Grow w w':=by
 have hk:=wm.kind
 have hsrc:=wm.src
 have hdst:=wm.dst
 have hne:=wm.ne
 have hlen:=wm.len
 refine nf35 m.kind m.src m.dst m.term m.prev m.prevTerm m.commit m.granted o m.ents.length c w _ fun w1 e1=>?_
 have r1:Row w1 (hs w) 45 (msgV (m,(o,c))):=Row.new (l:=[_,_,_,_,_,_,_,_,_]) e1
 have g1:Grow w w1:=only_alloc e1
 have z1:=hs_alloc e1
 refine ⟨_,r1.cell rfl,no (by show ¬((m.kind:Int)<1);omega) ⟨_,r1.cell rfl,no (by show ¬((m.kind:Int)>4);omega) ⟨_,r1.cell rfl,_,r1.cell rfl,no (by show ¬((m.src:Int)=(m.dst:Int));omega) ⟨_,r1.cell rfl,no (by show ¬((m.src:Int)<0);omega) ⟨_,r1.cell rfl,no (by show ¬((m.src:Int)>=9);omega) ⟨_,r1.cell rfl,no (by show ¬((m.dst:Int)<0);omega) ⟨_,r1.cell rfl,no (by show ¬((m.dst:Int)>=9);omega) ⟨_,r1.cell rfl,(inRange_c (low:=1) wm.t.1 wm.t.2 w1).mono ?_⟩⟩⟩⟩⟩⟩⟩⟩
 rintro _ w2 ⟨rfl,e2⟩
 have e2:=e2.symm
 subst e2
 refine ⟨_,rfl,bT ⟨_,r1.cell rfl,(inRange_c (low:=0) (Nat.zero_le _) wm.prev w1).mono ?_⟩⟩
 rintro _ w2 ⟨rfl,e2⟩
 have e2:=e2.symm
 subst e2
 refine ⟨_,rfl,bT ⟨_,r1.cell rfl,(inRange_c (low:=0) (Nat.zero_le _) wm.pt w1).mono ?_⟩⟩
 rintro _ w2 ⟨rfl,e2⟩
 have e2:=e2.symm
 subst e2
 refine ⟨_,rfl,bT ⟨_,r1.cell rfl,(inRange_c (low:=0) (Nat.zero_le _) wm.com w1).mono ?_⟩⟩
 rintro _ w2 ⟨rfl,e2⟩
 have e2:=e2.symm
 subst e2
 refine ⟨_,rfl,bT ⟨_,_,_,r1.cell rfl,no (by show ¬((m.ents.length:Int)>16);omega) ⟨_,_,_,r1.cell rfl,fun hpos=>?_,fun hzero=>?_⟩⟩⟩
 ·have hpos:0<m.ents.length:=by have:=dT hpos;have:(m.ents.length:Int)>0:=this;omega
  have h3:m.kind=3:=wm.app fun e=>by rw [e] at hpos;cases hpos
  refine ⟨_,r1.cell rfl,nno (by show (m.kind:Int)=3;omega) ⟨_,r1.cell rfl,_,_,_,r1.cell rfl,fun kk x y w'=>∃ i:Nat,y=(i:Int)/\x=(prevT m.prevTerm m.ents i:Int)/\i<=m.ents.length/\kk=m.ents.length - i/\Grow w1 w',⟨_,0,rfl,rfl,by omega,rfl,Only.refl _ _⟩,?_⟩⟩
  rintro kk _ w65 x y ⟨i,rfl,rfl,hi,rfl,g65⟩
  refine ⟨fun hlt=>?_,fun hge=>⟨rfl,g1.trans' g65⟩⟩
  have hlt:i<m.ents.length:=by have:=dT hlt;have:(i:Int)<(m.ents.length:Int):=this;omega
  have hat:=List.getElem?_eq_getElem hlt
  have hmem:=List.getElem_mem hlt
  generalize m.ents[i]=ei at*
  obtain ⟨a,ob,cb,ha,-,hc0,hc1,hc2,hbo⟩:=(he.grow (g1.trans' g65)).at hat
  refine ⟨a,ha,⟨by omega,by show (i:Int)<(m.ents.length:Int);omega⟩,_,hc0,_,hc1,_,_,_,hc2,fun w76 e76=>⟨(Row.new (l:=[_,_,_]) e76).there (by simp),fun w78 e78=>?_⟩⟩
  obtain ⟨r78,g78⟩:=loc (l:=[_,_,_]) (vs:=[.int .i64 (ei.term:Int),.int .i64 (ei.kind:Int),.slice ob ei.body.length cb]) e76 e78 rfl
  have G78:=(g1.trans' g65).trans' g78
  have z78:=G78.size
  obtain ⟨hok,htm⟩:=wm.ents ei hmem
  have hup:=wm.ups i ei hat
  refine ⟨_,r78.cell rfl,_,r78.cell rfl,_,_,_,r78.cell rfl,(eEncode_c ei ob cb hok w78 (hbo.grow g78) (fun b hb=>by have:=hA b hb;omega)).mono ?_⟩
  rintro _ w86 ⟨gg,n86,c86,rfl,g86⟩
  have r86:=r78.grow g86
  have m86:=((r1.grow g65).grow g78).grow g86
  have ei1:IntKind.wrap .i64 ((i:Int)+1)=((i+1:Nat):Int):=by rw [wr (by omega)];omega
  rw [ei1]
  refine ⟨_,_,_,rfl,bF ⟨_,r86.cell rfl,no (by show ¬((ei.term:Int)<_);omega) ⟨_,r86.cell rfl,_,m86.cell rfl,no (by show ¬((ei.term:Int)>(m.term:Int));omega) ⟨_,r86.cell rfl,_,?_,i+1,rfl,by rw [prevT_succ hat],hlt,rfl,(g65.trans' g78).trans' g86⟩⟩⟩⟩
  omega
 ·have hzero:m.ents.length=0:=by have:=dF hzero;have:¬(m.ents.length:Int)>0:=this;omega
  refine ⟨_,r1.cell rfl,_,_,_,r1.cell rfl,fun kk x y w'=>y=0/\w'=w1,⟨0,rfl,rfl⟩,?_⟩
  rintro kk _ w111 x y ⟨rfl,rfl⟩
  exact no (by show ¬((0:Int)<(m.ents.length:Int));omega) ⟨rfl,g1⟩
theorem Wf0.vote (h:Wf0 s k) (m:Msg):Wf0 ({ s with votes:=s.votes.set m.src true }:PN) k:={ h with lv:=by show (s.votes.set m.src true).length=9;rw [List.length_set];exact h.lv }
noncomputable def opH (s:PN) (m:Msg):Nat:=
 if m.kind=1 then opR s m else if m.kind=2 then (if m.granted=true/\s.role=2 then 40 else 0) else if m.kind=3 then (if s.role=3 then 0 else opV s m) else opA s
noncomputable def opT (s:PN) (m:Msg):Nat:=if m.term<s.term then 0 else if s.term<m.term then 1+opH (enterS s m.term) m else opH s m
set_option maxHeartbeats 1000000 in
theorem handle_c {g:Nat} {K:World->Prop} (h:NodeAt w N D p t s uns outs k) (wf:Wf0 s k) (hk:k<=90000) (wm:WfMsg m) (ht:m.term=s.term) (hnow:now<=MaxT) (he:Ents w A o m.ents) (hc:m.ents.length<=c) (hA:∀ b,A b->¬N b/\b<hs w) (hol:outs.length<=700) (hg:¬N g) (r:Row w g 45 (msgV (m,(o,c))))
  (fin:∀ w' N' D' uns',NodeAt w' N' D' p t (handleS s m now).1 uns' (outs++(handleS s m now).2) (k+opH s m)->Moves w w' N D N' D'->K w'):HandleP p g (now:Int) w K:=by
 classical
 have hsrc:=wm.src
 have hkd:=wm.kind
 have ht1:1<=s.term:=by rw [<- ht];exact wm.t.1
 obtain ⟨q,ops,dur,h1,h2,hrest⟩:=h.ex
 have L:=h1.len
 have s9:(0:Int)<=(m.src:Int)/\(m.src:Int)<9:=⟨by omega,by omega⟩
 unfold HandleP
 refine ⟨_,r.cell rfl,fun k1=>?_,fun k1=>⟨fun k2=>?_,fun k2=>⟨fun k3=>?_,fun k3=>?_⟩⟩⟩
 ·have k1:m.kind=1:=by have:(m.kind:Int)=1:=dT k1;omega
  have e:handleS s m now=requestedS s m now:=by unfold handleS;rw [if_pos k1]
  rw [e] at fin
  refine ⟨_,r.cell rfl,_,r.cell rfl,_,r.cell rfl,_,r.cell rfl,_,r.cell rfl,_,r.cell rfl,_,r.cell rfl,_,r.cell rfl,_,_,_,r.cell rfl,(requested_c (m:=m) h wf hk wm ht (by omega)).mono ?_⟩
  rintro _ w' ⟨rfl,N',D',n',mv⟩
  exact ⟨rfl,fin w' N' D' _ (n'.up (by rw [show opH s m=opR s m from if_pos k1];exact Nat.le_refl _)) mv⟩
 all_goals have k1:¬m.kind=1:=by have:¬(m.kind:Int)=1:=dF k1;omega
 ·have k2:m.kind=2:=by have:(m.kind:Int)=2:=dT k2;omega
  refine ⟨_,r.cell rfl,fun hgr=>⟨_,h1.cell (k:=11) (by omega) rfl,fun hro=>?_,fun hro=>?_⟩,fun hgr=>?_⟩
  ·have hro:s.role=2:=by have:=dT hro;omega
   have e:handleS s m now=(if Elected { s with votes:=s.votes.set m.src true } then leadS { s with votes:=s.votes.set m.src true } now else ({ s with votes:=s.votes.set m.src true },[])):=by unfold handleS;rw [if_neg k1,if_pos k2,if_pos ⟨hgr,hro⟩]
   rw [e] at fin
   intro w634 e634
   have g634:Grow w w634:=only_drew e634
   have x634:=h1.grow g634
   have r634:=r.grow g634
   refine ⟨_,r634.cell rfl,s9,?_,fun w637 e637=>?_⟩
   ·show There w634 (Addr.add ⟨p,17,none⟩ ((m.src:Int).toNat*1)) 1
    rw [Addr.add_lit,toNat_cast,Nat.mul_one];exact x634.there (by omega)
   have e637:w637=setCells w634 (Addr.add ⟨p,17,none⟩ ((m.src:Int).toNat*1)) [.bool true] 0:=e637
   rw [Addr.add_lit,toNat_cast,Nat.mul_one] at e637
   obtain ⟨x637,o637⟩:=x634.cells (k:=17+m.src) (s':={ s with votes:=s.votes.set m.src true }) (mm':=s.memb) (ma':=membAt s.log) (uns':=uns) e637 (vote_at L _ _ _ _ _ hsrc true) rfl rfl rfl rfl x634.mem ⟨by show (s.votes.set m.src true).length=9;rw [List.length_set];exact L.v,L.n,L.m⟩
   have n637:NodeAt w637 N D p t { s with votes:=s.votes.set m.src true } uns outs k:=⟨q,ops,dur,x637,h2,hrest⟩
   have mv637:Moves w w637 N D N D:=(Moves.grow g634).trans (Moves.only o637 fun b hb=>(h2 b).2 (.inl hb))
   refine (elected_c n637 (wf.vote m)).mono ?_
   rintro _ w640 ⟨b,rfl,hb,g640⟩
   refine ⟨_,rfl,fun hbt=>?_,fun hbf=>?_⟩
   ·have hE:=hb.1 hbt
    rw [if_pos hE] at fin
    refine (lead_c (now:=now) (n637.grow g640) (wf.vote m) (by omega) ht1 (by omega)).mono ?_
    rintro _ w644 ⟨rfl,N',D',uns',n',mv⟩
    have e40:opH s m=40:=by unfold opH;rw [if_neg k1,if_pos k2,if_pos ⟨hgr,hro⟩]
    exact ⟨rfl,fin w644 N' D' uns' (n'.up (by omega)) ((mv637.trans (Moves.grow g640)).trans mv)⟩
   ·have hE:¬Elected { s with votes:=s.votes.set m.src true }:=fun k=>by have:=hb.2 k;rw [hbf] at this;cases this
    rw [if_neg hE] at fin
    exact fin w640 N D uns (by rw [List.append_nil];exact (n637.grow g640).up (by omega)) (mv637.trans (Moves.grow g640))
  ·have hro:¬s.role=2:=by have:=dF hro;omega
   have e:handleS s m now=(s,[]):=by unfold handleS;rw [if_neg k1,if_pos k2,if_neg fun k=>hro k.2]
   rw [e] at fin
   exact fin w N D uns (by rw [List.append_nil];exact h.up (by omega)) (Moves.refl _ _ _)
  ·have e:handleS s m now=(s,[]):=by unfold handleS;rw [if_neg k1,if_pos k2,if_neg fun k=>by have hgr:m.granted=false:=hgr;rw [hgr] at k;cases k.1]
   rw [e] at fin
   exact fin w N D uns (by rw [List.append_nil];exact h.up (by omega)) (Moves.refl _ _ _)
 all_goals have k2:¬m.kind=2:=by have:¬(m.kind:Int)=2:=dF k2;omega
 ·have k3:m.kind=3:=by have:(m.kind:Int)=3:=dT k3;omega
  refine ⟨_,h1.cell (k:=11) (by omega) rfl,fun hro=>?_,fun hro=>?_⟩
  ·have hro:¬s.role=3:=by have:=nT hro;intro k;exact this (by rw [k];rfl)
   have e:handleS s m now=receiveS s m now:=by unfold handleS;rw [if_neg k1,if_neg k2,if_pos k3,if_neg hro]
   rw [e] at fin
   refine ⟨_,r.cell rfl,_,r.cell rfl,_,r.cell rfl,_,r.cell rfl,_,r.cell rfl,_,r.cell rfl,_,r.cell rfl,_,r.cell rfl,_,_,_,r.cell rfl,(receive_c (m:=m) h wf hk wm hnow he hc hA (by omega)).mono ?_⟩
   rintro _ w' ⟨rfl,N',D',uns',n',mv⟩
   exact ⟨rfl,fin w' N' D' _ (n'.up (by rw [show opH s m=opV s m by unfold opH;rw [if_neg k1,if_neg k2,if_pos k3,if_neg hro]];exact Nat.le_refl _)) mv⟩
  ·have hro:s.role=3:=by have:=nF hro;have:(s.role:Int)=3:=this;omega
   have e:handleS s m now=(s,[]):=by unfold handleS;rw [if_neg k1,if_neg k2,if_pos k3,if_pos hro]
   rw [e] at fin
   exact fin w N D uns (by rw [List.append_nil];exact h.up (by omega)) (Moves.refl _ _ _)
 have k3:¬m.kind=3:=by have:¬(m.kind:Int)=3:=dF k3;omega
 have k4:m.kind=4:=by omega
 refine yes (by show (m.kind:Int)=4;omega) fun w668 e668=>?_
 have g668:Grow w w668:=only_drew e668
 have x668:=h1.grow g668
 have n668:=h.grow g668
 have r668:=r.grow g668
 refine ⟨_,x668.cell (k:=11) (by omega) rfl,fun hro=>?_,fun hro=>?_⟩
 ·have hro:s.role=3:=by have:=dT hro;omega
  refine ⟨_,r668.cell rfl,(others_c n668 (permit_cfg wf.ini s.log) wf.id).mono ?_⟩
  rintro _ w674 ⟨g',c',rfl,own,g674⟩
  have h9:=others_len s
  have r674:=r668.grow g674
  refine ⟨_,_,_,rfl,kept_only g674 r668.lt (fun h=>h),(contains_c s.others m.src (by omega) w674 (own_ints own)).mono ?_⟩
  rintro _ w679 ⟨rfl,e679⟩
  have e679:=e679.symm
  subst e679
  have n674:=n668.grow g674
  have G:=g668.trans' g674
  have zz:=G.size
  refine ⟨_,rfl,fun hb=>?_,fun hb=>?_⟩
  ·have hb:=of_decide_eq_true hb
   have e:handleS s m now=repliedS s m:=by unfold handleS;rw [if_neg k1,if_neg k2,if_neg k3,if_pos ⟨hro,hb⟩]
   rw [e] at fin
   refine ⟨_,r674.cell rfl,_,r674.cell rfl,_,r674.cell rfl,_,r674.cell rfl,_,r674.cell rfl,_,r674.cell rfl,_,r674.cell rfl,_,r674.cell rfl,_,_,_,r674.cell rfl,(replied_c (m:=m) n674 wf hk wm hro ht1 (by omega)).mono ?_⟩
   rintro _ w' ⟨rfl,N',D',uns',n',mv⟩
   exact ⟨rfl,fin w' N' D' _ (n'.up (by rw [show opH s m=opA s by unfold opH;rw [if_neg k1,if_neg k2,if_neg k3]];exact Nat.le_refl _)) ((Moves.grow G).trans mv)⟩
  ·have hb:=of_decide_eq_false hb
   have e:handleS s m now=(s,[]):=by unfold handleS;rw [if_neg k1,if_neg k2,if_neg k3,if_neg fun k=>hb k.2]
   rw [e] at fin
   exact fin w674 N D uns (by rw [List.append_nil];exact n674.up (by omega)) (Moves.grow G)
 ·have hro:¬s.role=3:=by have:=dF hro;omega
  have e:handleS s m now=(s,[]):=by unfold handleS;rw [if_neg k1,if_neg k2,if_neg k3,if_neg fun k=>hro k.1]
  rw [e] at fin
  exact fin w668 N D uns (by rw [List.append_nil];exact n668.up (by omega)) (Moves.grow g668)
noncomputable def restS (s:PN) (m:Msg) (now:Nat):PN × List Msg:=if m.term<s.term then (s,refuseS s m) else if s.term<m.term then handleS (enterS s m.term) m now else handleS s m now
set_option maxHeartbeats 1000000 in
theorem rest_c {g:Nat} {R:Ending->World->Prop} (h:NodeAt w N D p t s false [] k) (wf:Wf0 s k) (hk:k<=89990) (wm:WfMsg m) (hnow:now<=MaxT) (he:Ents w A o m.ents) (hc:m.ents.length<=c) (hA:∀ b,A b->¬N b/\b<hs w) (hg:¬N g) (r:Row w g 45 (msgV (m,(o,c))))
  (fin:∀ w' o' c',Did w N D p t (restS s m now).1 (restS s m now).2 (k+opT s m) o' c' w'->R (.returned (.slice o' (restS s m now).2.length c')) w'):RestP p g (now:Int) w R:=by
 have lt:=h.lt
 obtain ⟨q,ops,dur,h1,h2,hrest⟩:=h.ex
 have ret:∀ (s1:PN) (o1:List Msg) w1 N1 D1 uns1,NodeAt w1 N1 D1 p t s1 uns1 o1 (k+opT s m)->Moves w w1 N D N1 D1->restS s m now=(s1,o1)->Calls Tryz.prog 33 #[.pointer (some ⟨p,0,none⟩)] w1 fun e w'=>∃ (o':Option Addr) (n' c':Nat),e=.returned (.slice o' n' c')/\R (.returned (.slice o' n' c')) w':=by
  intro s1 o1 w1 N1 D1 uns1 n1 mv1 e
  refine (sentD_c n1 mv1).mono ?_
  rintro _ w' ⟨o',c',rfl,hd⟩
  rw [e] at fin
  exact ⟨o',_,c',rfl,fin w' o' c' hd⟩
 unfold RestP
 intro w43 e43
 have g43:Grow w w43:=only_drew e43
 have x43:=h1.grow g43
 have n43:=h.grow g43
 have r43:=r.grow g43
 refine ⟨_,r43.cell rfl,_,x43.cell (k:=4) (by omega) rfl,(term_c x43.vr).mono ?_⟩
 rintro _ w48 ⟨rfl,e48⟩
 have e48:=e48.symm
 subst e48
 refine ⟨_,rfl,kept_only (S:=fun _=>False) (Only.refl _ _) r43.lt (fun h=>h),fun hgt=>?_,fun hle=>?_⟩
 ·have hgt:s.term<m.term:=by have:(m.term:Int)>(s.term:Int):=dT hgt;omega
  have e0:restS s m now=handleS (enterS s m.term) m now:=by unfold restS;rw [if_neg (by omega),if_pos hgt]
  refine ⟨_,r43.cell rfl,(enter_c n43 (by omega) hgt wm.t.2).mono ?_⟩
  rintro _ w53 ⟨rfl,N1,D1,n53,mv53⟩
  have z43:=g43.size
  have hgN:¬N g:=hg
  have r53:=r43.keep mv53.o hgN
  refine ⟨_,rfl,bT fun w56 e56=>?_⟩
  have g56:Grow w53 w56:=only_drew e56
  have n56:=n53.grow g56
  have r56:=r53.grow g56
  obtain ⟨q1,ops1,dur1,x56,k2,krest⟩:=n56.ex
  have zz:=mv53.o.size
  have zz2:=g56.size
  have hg1:¬N1 g:=fun k=>(mv53.n g k).elim hgN fun k=>by have:=r43.lt;omega
  have hA1:∀ b,A b->¬N1 b/\b<hs w56:=fun b hb=>⟨fun k=>(mv53.n b k).elim (hA b hb).1 fun k=>by have:=(hA b hb).2;omega,by have:=(hA b hb).2;omega⟩
  have he56:Ents w56 A o m.ents:=((he.grow g43).keep mv53.o fun b hb k=>(hA b hb).1 k).grow g56
  refine ⟨_,r56.cell rfl,_,x56.cell (k:=4) (by omega) rfl,(term_c x56.vr).mono ?_⟩
  rintro _ w61 ⟨rfl,e61⟩
  have e61:=e61.symm
  subst e61
  refine ⟨_,rfl,kept_only (S:=fun _=>False) (Only.refl _ _) r56.lt (fun h=>h),no (by show ¬((m.term:Int)<(m.term:Int));omega) fun k83 hk83=>?_⟩
  have wfE:Wf0 (enterS s m.term) (k+1):=(wf.enter hgt wm.t.2).more (by omega)
  exact handle_c (s:=enterS s m.term) (now:=now) n56 wfE (by omega) wm rfl hnow he56 hc hA1 (by simp) hg1 r56 fun w' N' D' uns' n' mv'=>hk83 w' fun _=>ret _ _ w' N' D' uns' ((List.nil_append _ ▸ n').up (by rw [show opT s m=1+opH (enterS s m.term) m by unfold opT;rw [if_neg (by omega),if_pos hgt]];omega)) ((((Moves.grow g43).trans mv53).trans (Moves.grow g56)).trans mv') e0
 ·have hle:m.term<=s.term:=by have:¬(m.term:Int)>(s.term:Int):=dF hle;omega
  intro w700 e700
  have g700:Grow w43 w700:=only_drew e700
  have x700:=x43.grow g700
  have n700:=n43.grow g700
  have r700:=r43.grow g700
  have G700:=g43.trans' g700
  have zz:=G700.size
  refine ⟨_,r700.cell rfl,_,x700.cell (k:=4) (by omega) rfl,(term_c x700.vr).mono ?_⟩
  rintro _ w705 ⟨rfl,e705⟩
  have e705:=e705.symm
  subst e705
  refine ⟨_,rfl,kept_only (S:=fun _=>False) (Only.refl _ _) r700.lt (fun h=>h),fun hlt=>?_,fun hge=>?_⟩
  ·have hlt:m.term<s.term:=by have:(m.term:Int)<(s.term:Int):=dT hlt;omega
   have e0:restS s m now=(s,refuseS s m):=by unfold restS;rw [if_pos hlt]
   refine ⟨_,r700.cell rfl,_,r700.cell rfl,_,r700.cell rfl,_,r700.cell rfl,_,r700.cell rfl,_,r700.cell rfl,_,r700.cell rfl,_,r700.cell rfl,_,_,_,r700.cell rfl,(refuse_c (m:=m) n700 (by simp)).mono ?_⟩
   rintro _ w720 ⟨rfl,N',D',n',mv'⟩
   exact ⟨rfl,ret _ _ w720 N' D' false ((List.nil_append _ ▸ n').up (by omega)) ((Moves.grow G700).trans mv') e0⟩
  ·have hge:m.term=s.term:=by have:¬(m.term:Int)<(s.term:Int):=dF hge;omega
   have e0:restS s m now=handleS s m now:=by unfold restS;rw [if_neg (by omega),if_neg (by omega)]
   intro k727 hk727
   exact handle_c (now:=now) n700 wf (by omega) wm hge hnow (he.grow G700) hc (fun b hb=>⟨(hA b hb).1,by have:=(hA b hb).2;omega⟩) (by simp) hg r700 fun w' N' D' uns' n' mv'=>hk727 w' fun _=>ret _ _ w' N' D' uns' ((List.nil_append _ ▸ n').up (by rw [show opT s m=opH s m by unfold opT;rw [if_neg (by omega),if_neg (by omega)]];exact Nat.le_refl _)) ((Moves.grow G700).trans mv') e0
open Classical in
noncomputable def opS (s:PN) (m:Msg) (now:Nat):Nat:=if deaf (s.at now) m (s.at now).latest then 0 else opT (s.at now) m
set_option maxHeartbeats 1000000 in
theorem step_c (h:NodeAt w N D p t s false [] k) (wf:Wf0 s k) (hk:k<=89990) (wm:WfMsg m) (hd:m.dst=s.id) (hnow:now<=MaxT) (he:Ents w A o m.ents) (hc:m.ents.length<=c) (hA:∀ b,A b->¬N b/\b<hs w):
  Calls Tryz.prog 12 #[.pointer (some ⟨p,0,none⟩),msgA m m.src m.term o c,.int .i64 (now:Int)] w fun e w'=>∃ o' c',e=.returned (.slice o' (stepS s m now).2.length c')/\Did w N D p t (stepS s m now).1 (stepS s m now).2 (k+opS s m now) o' c' w':=by
 classical
 have lt:=h.lt
 refine nf12 p m.kind m.src m.dst m.term m.prev m.prevTerm m.commit m.granted o m.ents.length c now w _ fun w1 e1=>?_
 have r1:Row w1 (hs w) 45 (msgV (m,(o,c))):=Row.new (l:=[_,_,_,_,_,_,_,_,_]) e1
 have g1:Grow w w1:=only_alloc e1
 have z1:=hs_alloc e1
 refine (tick_c (h.grow g1) now hnow).mono ?_
 rintro _ w4 ⟨rfl,n4,o4⟩
 have hgN:¬N (hs w):=fun k=>by have:=lt _ (.inl k);omega
 have r4:=r1.keep o4 hgN
 refine ⟨_,rfl,fun w6 e6=>?_⟩
 have g6:Grow w4 w6:=only_drew e6
 have n6:=n4.grow g6
 have r6:=r4.grow g6
 have mv6:Moves w w6 N D N D:=((Moves.grow g1).trans (Moves.only o4 fun b hb=>hb)).trans (Moves.grow g6)
 have zz:=mv6.o.size
 have wf2:=wf.at hnow
 have hla:=wf2.la
 have e0:stepS s m now=stepT (s.at now) m (s.at now).latest:=rfl
 have eO:opS s m now=if deaf (s.at now) m (s.at now).latest then 0 else opT (s.at now) m:=rfl
 rw [e0,eO]
 have hd:m.dst=(s.at now).id:=hd
 generalize s.at now=S at*
 have he6:Ents w6 A o m.ents:=he.keep mv6.o fun b hb k=>(hA b hb).1 k
 have hA6:∀ b,A b->¬N b/\b<hs w6:=fun b hb=>⟨(hA b hb).1,by have:=(hA b hb).2;omega⟩
 obtain ⟨q,ops,dur,x6,h2,hrest⟩:=n6.ex
 refine ⟨_,x6.cellT (k:=0) rfl,nno rfl ⟨_,r6.cell rfl,_,r6.cell rfl,_,r6.cell rfl,_,r6.cell rfl,_,r6.cell rfl,_,r6.cell rfl,_,r6.cell rfl,_,r6.cell rfl,_,_,_,r6.cell rfl,(msgOk_c wm w6 he6 (fun b hb=>(hA6 b hb).2)).mono ?_⟩⟩
 rintro _ w23 ⟨rfl,g23⟩
 have x23:=x6.grow g23
 have r23:=r6.grow g23
 refine ⟨_,rfl,bT ⟨_,r23.cell rfl,_,x23.cell (k:=0) (by omega) rfl,nno (by show (m.dst:Int)=(S.id:Int);omega) fun w30 e30=>?_⟩⟩
 have g30:Grow w23 w30:=only_drew e30
 have G30:=g23.trans' g30
 have x30:=x6.grow G30
 have n30:=n6.grow G30
 have r30:=r23.grow g30
 have zg:=G30.size
 have mv30:=mv6.trans (Moves.grow G30)
 have rest:¬deaf S m S.latest->RestP p (hs w) (S.latest:Int) w30 fun e w'=>∃ o' c',e=.returned (.slice o' (stepT S m S.latest).2.length c')/\Did w N D p t (stepT S m S.latest).1 (stepT S m S.latest).2 (k+if deaf S m S.latest then 0 else opT S m) o' c' w':=fun hdf=>by
  have e1:stepT S m S.latest=restS S m S.latest:=by unfold stepT restS;rw [if_neg hdf]
  rw [e1,if_neg hdf]
  exact rest_c n30 wf2 hk wm hla (he6.grow G30) hc (fun b hb=>⟨(hA6 b hb).1,by have:=(hA6 b hb).2;omega⟩) hgN r30 fun w' o' c' hdd=>⟨o',c',rfl,hdd.after mv30⟩
 have quiet:deaf S m S.latest->∃ o' c',Ending.returned (.slice none 0 0)=.returned (.slice o' (stepT S m S.latest).2.length c')/\Did w N D p t (stepT S m S.latest).1 (stepT S m S.latest).2 (k+if deaf S m S.latest then 0 else opT S m) o' c' w30:=fun hdf=>by
  have e1:stepT S m S.latest=(S,[]):=by unfold stepT;rw [if_pos hdf]
  rw [e1]
  exact ⟨none,0,rfl,((Did.quiet n30 (Only.refl _ _)).after mv30).up (by omega)⟩
 have b3:=wf2.si
 have b4:=wf2.wa
 unfold MaxT at b3 b4 hla
 refine ⟨_,r30.cell rfl,fun k1=>?_,fun k1=>?_⟩
 ·have k1:m.kind=1:=by have:(m.kind:Int)=1:=dT k1;omega
  refine ⟨_,x30.cell (k:=11) (by omega) rfl,fun hr=>?_,fun hr=>?_⟩
  ·have hr:S.role=3:=by have:=dT hr;omega
   exact quiet ⟨k1,.inl hr⟩
  ·have hr:¬S.role=3:=by have:=dF hr;omega
   refine ⟨_,x30.cell (k:=12) (by omega) rfl,fun hl=>?_,fun hl=>?_⟩
   ·have hl:S.leader≠none:=fun e=>by have:=dT hl;rw [e] at this;exact absurd this (by show ¬((-1:Int)>=0);decide)
    refine ⟨_,x30.cell (k:=14) (by omega) rfl,_,x30.cell (k:=1) (by omega) rfl,?_⟩
    rw [wr (x:=(S.latest:Int) - (S.since:Int)) (by omega)]
    refine ⟨fun hw=>quiet ⟨k1,.inr ⟨hl,by have:=dT hw;omega⟩⟩,fun hw=>rest fun k=>?_⟩
    have hw:=dF hw
    rcases k.2 with k | k
    ·exact hr k
    ·have:=k.2
     omega
   ·have hl:S.leader=none:=by
     have:=dF hl
     cases hx:S.leader with
     | none=>rfl
     | some n=>rw [hx] at this;exact absurd (show ((n:Int)>=0) by omega) this
    exact rest fun k=>k.2.elim hr fun k=>k.1 hl
 ·have k1:¬m.kind=1:=by have:¬(m.kind:Int)=1:=dF k1;omega
  exact rest fun k=>k1 k.1
end
end Go.Proofs.YtcaokpglbolkcaaGreat
