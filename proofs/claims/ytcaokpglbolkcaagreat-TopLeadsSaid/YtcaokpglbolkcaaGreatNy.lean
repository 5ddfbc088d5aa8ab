import Derived.Test.YtcaokpglbolkcaaGreatNx
namespace Go.Proofs.YtcaokpglbolkcaaGreat
open Go Go.Nf Go.RowKit
section
variable {w:World} {N D:Nat->Prop} {p t ma dur k:Nat} {s:PN} {mm:Memb} {ops:List Op} {uns:Bool} {outs:List Msg} {q:Ptrs}
theorem reach_c {g0 g1 m:Nat} (x:NodeX w D p t s mm ma ops dur uns outs q) (r0:Row w g0 27 [.pointer (some ⟨p,0,none⟩)]) (r1:Row w g1 2 [.int .i64 (s.log.length:Int)]) (hm:m<9):
  Calls Tryz.prog 104 #[.int .i64 (m:Int),.pointer (some ⟨g0,0,none⟩),.pointer (some ⟨g1,0,none⟩)] w fun e w'=>e=.returned (.int .i64 ((s.reach m:Nat):Int))/\w'=w:=by
 refine nf104 m g0 g1 w _ ⟨_,r0.cell rfl,_,rfl,_,x.cell (k:=0) (by omega) rfl,fun he=>?_,fun hne=>?_⟩
 ·have he:m=s.id:=by have:=dT he;omega
  refine ⟨_,r1.cell rfl,?_,rfl⟩
  unfold PN.reach
  rw [if_pos he]
 ·have hne:¬m=s.id:=by have:=dF hne;omega
  refine ⟨_,r0.cell rfl,_,rfl,⟨by omega,by omega⟩,_,by rw [Addr.add_lit];exact x.cellMtch hm,?_,rfl⟩
  unfold PN.reach
  rw [if_neg hne]
theorem callee104:calleeOk Tryz.prog 104=true:=by kernel_rfl
theorem advC_memb (s:PN):(advC s).memb=s.memb:=by
 obtain ⟨s1,s2,s3,s4,s5,s6,s7,s8,s9⟩:=advC_same s
 unfold PN.memb
 rw [s2,s5]
noncomputable def opA (s:PN):Nat:=if membAt s.log=0 then 0 else 16
theorem opA_le (s:PN):opA s<=16:=by unfold opA;split <;> omega
theorem Wf0.advO (h:Wf0 s k) (hk:k<=100000):Wf0 (advS s) (k+opA s):=by
 unfold opA
 split
 ·rename_i h0
  have e:advS s=Go.Proofs.YtcaokpglbolkcaaGreat.advC s:=by unfold advS;rw [if_pos (.inl h0)]
  rw [e];exact h.advC hk
 ·exact (h.adv hk).more (by omega)
set_option maxHeartbeats 1000000 in
theorem adv_c (h:NodeAt w N D p t s uns outs k) (wf:Wf s k) (hk:k<=90100) (ht1:1<=s.term):
  Calls Tryz.prog 70 #[.pointer (some ⟨p,0,none⟩)] w fun e w'=>e=.returned (.bool true)/\∃ N' D' uns',NodeAt w' N' D' p t (advS s) uns' outs (k+opA s)/\Moves w w' N D N' D':=by
 obtain ⟨q,ops,dur,h1,h2,hh,hst,hol,hd⟩:=h.ex
 have hl:=wf.ll
 have lt:=h.lt
 obtain ⟨s1,s2,s3,s4,s5,s6,s7,s8,s9⟩:=advC_same s
 have hmb:=advC_memb s
 refine nf70 p w _ fun w1 e1=>?_
 have r1:Row w1 (hs w) 27 [.pointer (some ⟨p,0,none⟩)]:=Row.new e1
 have g1:Grow w w1:=only_alloc e1
 have z1:=hs_alloc e1
 refine ⟨_,r1.cell rfl,(lastIndex_c (h.grow g1) (by omega)).mono ?_⟩
 rintro _ w5 ⟨rfl,g5⟩
 refine ⟨_,rfl,fun w7 e7=>⟨(Row.new (l:=[_]) e7).there (by simp),fun w9 e9=>?_⟩⟩
 obtain ⟨r9,g9⟩:=loc (l:=[_]) (vs:=[.int .i64 (s.log.length:Int)]) e7 e9 rfl
 have G9:=(g1.trans' g5).trans' g9
 have x9:=h1.grow G9
 have r0:=(r1.grow g5).grow g9
 have z9:=G9.size
 refine ⟨_,r0.cell rfl,_,rfl,_,_,_,x9.cell (k:=8) (by omega) rfl,_,_,_,x9.cell (k:=9) (by omega) rfl,(committed_c (c:=s.memb) (f:=s.reach) wf.memb w9 x9.mem (fun b hb=>(x9.ap b hb).2) fun w' m hm g'=>.inl ⟨104,#[],_,rfl,callee104,reach_c (x9.grow g') (r0.grow g') (r9.grow g') hm⟩).mono ?_⟩
 rintro _ w20 ⟨rfl,g20⟩
 have x20:=x9.grow g20
 have r20:=r0.grow g20
 have G20:=G9.trans' g20
 have hcw:committedS s.memb s.reach<=100000:=committed_le fun m=>by
  unfold PN.reach
  split
  ·omega
  ·have:=wf.mt m;omega
 refine ⟨_,rfl,fun k22 hk22=>?_⟩
 have fin:∀ w24,NodeX w24 D p t (advC s) s.memb (membAt s.log) ops dur uns outs q->Row w24 (hs w) 27 [.pointer (some ⟨p,0,none⟩)]->Only (fun b=>b=p) w w24->k22 w24:=by
  intro w24 x24 r24 o24
  refine hk22 w24 fun _ w27 e27=>?_
  have g27:Grow w24 w27:=only_drew e27
  have x27:=x24.grow g27
  have r27:=r24.grow g27
  have O27:Only (fun b=>b=p) w w27:=o24.trans' (Grow.only g27)
  have z27:=O27.size
  have n27:NodeAt w27 N D p t (advC s) uns outs k:=⟨q,ops,dur,by rw [hmb,s5];exact x27,h2,hh,by rw [s3,s4,s5];exact hst,by omega,hd⟩
  have mv27:Moves w w27 N D N D:=Moves.only O27 fun b hb=>(h2 b).2 (.inl hb)
  have wfc:Wf (advC s) k:=by
   refine ⟨by rw [s1];exact wf.id,by rw [s2];exact wf.ini,by rw [s3];exact wf.t,by rw [s4];exact wf.vt,?_,by rw [s5];exact wf.ll,by rw [s5,s3];exact wf.ent,by rw [s5];exact wf.mono,by rw [s6];exact wf.rl,?_,?_,?_,?_,?_,?_,by rw [s7];exact wf.nx,by rw [s6,s7];exact wf.nx1,by rw [s8];exact wf.mt⟩ <;> unfold Go.Proofs.YtcaokpglbolkcaaGreat.advC <;> split
   ·exact wf.ld
   ·exact wf.ld
   ·show committedS s.memb s.reach<=MaxT
    unfold MaxT;omega
   ·exact wf.cm
   ·exact wf.si
   ·exact wf.si
   ·exact wf.hb
   ·exact wf.hb
   ·exact wf.la
   ·exact wf.la
   ·exact wf.wa
   ·exact wf.wa
   ·exact wf.be
   ·exact wf.be
  refine ⟨_,r27.cell rfl,_,rfl,_,x27.cell (k:=10) (by omega) rfl,fun h0=>?_,fun h0=>?_⟩
  ·have h0:membAt s.log=0:=by have:=dT h0;omega
   have he:advS s=advC s:=by unfold advS;rw [if_pos (.inl h0)]
   rw [he]
   exact ⟨rfl,N,D,uns,n27.up (by omega),mv27⟩
  have h0:membAt s.log≠0:=by have:=dF h0;omega
  refine ⟨_,r27.cell rfl,_,rfl,_,x27.cell (k:=10) (by omega) rfl,_,r27.cell rfl,_,rfl,_,x27.cell (k:=13) (by omega) rfl,fun hc=>?_,fun hc=>?_⟩
  ·have hc:(advC s).commit<membAt s.log:=by have:=dT hc;omega
   have he:advS s=advC s:=by unfold advS;rw [if_pos (.inr hc)]
   rw [he]
   exact ⟨rfl,N,D,uns,n27.up (by omega),mv27⟩
  have hc:¬(membAt s.log=0\/(advC s).commit<membAt s.log):=by have:=dF hc;omega
  refine ⟨_,r27.cell rfl,_,rfl,_,_,_,x27.cell (k:=9) (by omega) rfl,fun hn=>?_,fun hn=>?_⟩
  ·have hn:s.memb.new≠[]:=fun e=>by rw [e] at hn;cases hn
   refine ⟨_,r27.cell rfl,_,rfl,_,_,_,x27.cell (k:=8) (by omega) rfl,_,_,_,x27.cell (k:=9) (by omega) rfl,(end_c (c:=s.memb) wf.memb hn w27 x27.mem (fun b hb=>(x27.ap b hb).2)).mono ?_⟩
   rintro _ w57 ⟨p1,k1,p2,k2,rfl,m57,g57⟩
   refine ⟨_,_,_,_,_,_,_,rfl,fun w65 e65=>⟨(Row.new (l:=[_,_]) e65).there (by simp),fun w67 e67 w69 e69=>?_⟩⟩
   obtain ⟨r67,g67⟩:=loc (l:=[_,_]) (vs:=[.slice p1 s.memb.new.length k1,.slice p2 0 k2]) e65 e67 rfl
   have g69:Grow w67 w69:=only_drew e69
   have G69:=(g57.trans' g67).trans' g69
   have z57:=g57.size
   have z67:=g67.size
   have z69:=g69.size
   have r69:=r27.grow G69
   have l69:=r67.grow g69
   refine ⟨_,r69.cell rfl,(ok_c (x27.grow G69)).mono ?_⟩
   rintro _ w73 ⟨rfl,e73⟩
   have e73:=e73.symm
   subst e73
   have hpm:Permit ⟨s.memb.new,[]⟩:=⟨wf.memb.new.resolve_left hn,.inl rfl⟩
   refine ⟨_,rfl,bT ⟨_,r69.cell rfl,_,_,_,l69.cell rfl,_,_,_,l69.cell rfl,(encodeM_c (c:=⟨s.memb.new,[]⟩) hpm w69 ((m57.grow g67).grow g69) (fun b hb=>by omega)).mono ?_⟩⟩
   rintro _ w84 ⟨g,rfl,r84,hg,g84⟩
   have G84:=G69.trans' g84
   refine ⟨_,_,_,rfl,kept_only g84 r69.lt (fun h=>h),?_⟩
   have hbl:=encM_len hpm
   refine (add_c (kind:=3) (body:=encM ⟨s.memb.new,[]⟩) (A:=fun b=>b=g) (n27.grow G84) wfc hk (row_byts r84) (fun b hb=>?_) ⟨by show 1<=(advC s).term;rw [s3];exact ht1,by show (advC s).term<=MaxT;rw [s3];exact wf.t,⟨by show (1:Nat)<=3;decide,by show (3:Nat)<=3;decide⟩,by show (encM ⟨s.memb.new,[]⟩).length<=64;omega,fun _=>⟨_,hpm,rfl⟩⟩).mono ?_
   ·rw [hb]
    exact ⟨fun k=>by have:=lt g (.inl k);omega,r84.lt⟩
   ·rintro _ w89 ⟨rfl,N',D',uns',n89,mv⟩
    have he:advS s=addS (advC s) ⟨(advC s).term,3,encM ⟨s.memb.new,[]⟩⟩:=by
     unfold advS addS
     rw [if_neg hc,if_pos hn]
     exact congrArg (fun x=>({ advC s with log:=x }:PN)) (by rw [s3,s5])
    rw [he]
    have e16:opA s=16:=if_neg fun k=>hc (.inl k)
    rw [e16]
    exact ⟨_,rfl,bT ⟨rfl,N',D',uns',n89,(mv27.trans (Moves.grow G84)).trans mv⟩⟩
  ·have hn:s.memb.new=[]:=by
    have:=dF hn
    exact List.eq_nil_of_length_eq_zero (by omega)
   refine fun k95 hk95=>⟨_,r27.cell rfl,(member_c n27 (by rw [hmb];exact wf.memb) (by rw [s1];exact wf.id)).mono ?_⟩
   rintro _ w102 ⟨rfl,g102⟩
   have x102:=x27.grow g102
   have r102:=r27.grow g102
   refine ⟨_,rfl,fun hb=>?_,fun hb=>?_⟩
   ·have hb:=of_decide_eq_true hb
    have he:advS s=advC s:=by unfold advS;rw [if_neg hc,if_neg (by simp [hn]),if_pos (by rw [hmb,s1] at hb;exact hb)]
    rw [he] at hk95
    exact hk95 w102 fun _=>⟨rfl,N,D,uns,(n27.grow g102).up (by omega),mv27.trans (Moves.grow g102)⟩
   ·have hb:=of_decide_eq_false hb
    intro w106 e106
    have g106:Grow w102 w106:=only_drew e106
    have x106:=x102.grow g106
    have r106:=r102.grow g106
    have he:advS s={ advC s with role:=1,leader:=none }:=by unfold advS;rw [if_neg hc,if_neg (by simp [hn]),if_neg (by rw [hmb,s1] at hb;exact hb)]
    rw [he] at hk95
    refine ⟨_,r106.cell rfl,_,r106.cell rfl,_,rfl,x106.there (k:=11) (by omega),fun w111 e111=>?_⟩
    obtain ⟨x111,o111⟩:=x106.cells (k:=11) (s':={ advC s with role:=1 }) (mm':=s.memb) (ma':=membAt s.log) (uns':=uns) e111 rfl rfl rfl rfl rfl x106.mem ⟨x106.len.v,x106.len.n,x106.len.m⟩
    refine ⟨kept_only o111 r106.lt (by have:=h1.row.lt;omega),_,rfl,x111.there (k:=12) (by omega),fun w114 e114=>?_⟩
    obtain ⟨x114,o114⟩:=x111.cells (k:=12) (s':={ advC s with role:=1,leader:=none }) (mm':=s.memb) (ma':=membAt s.log) (uns':=uns) e114 rfl rfl rfl rfl rfl x111.mem ⟨x106.len.v,x106.len.n,x106.len.m⟩
    refine hk95 w114 fun _=>⟨rfl,N,D,uns,⟨q,ops,dur,?_,h2,hh,?_,by omega,hd⟩,mv27.trans (Moves.only ((Grow.only (g102.trans' g106)).trans' (o111.trans' o114)) fun b hb=>(h2 b).2 (.inl hb))⟩
    ·have e1:({ advC s with role:=1,leader:=none }:PN).memb=s.memb:=hmb
     have e2:({ advC s with role:=1,leader:=none }:PN).log=s.log:=s5
     rw [e1,e2];exact x114
    ·show st ops=⟨(advC s).term,(advC s).voted,(advC s).log⟩
     rw [s3,s4,s5];exact hst
 have same:¬(termAt s.log (committedS s.memb s.reach)=some s.term/\s.commit<committedS s.memb s.reach)->∀ w24,Grow w20 w24->k22 w24:=fun hn w24 g24=>by
  have:advC s=s:=by unfold Go.Proofs.YtcaokpglbolkcaaGreat.advC;rw [if_neg hn]
  exact fin w24 (by rw [this];exact x20.grow g24) (r20.grow g24) (Grow.only (G20.trans' g24))
 refine ⟨_,r20.cell rfl,_,rfl,_,x20.cell (k:=5) (by omega) rfl,(lterm_c x20.log (by omega) _ (by omega)).mono ?_⟩
 rintro _ w120 ⟨rfl,e120⟩
 have e120:=e120.symm
 subst e120
 refine ⟨_,_,rfl,fun hb=>?_,fun hb=>?_⟩
 ·obtain ⟨T,hT⟩:=Option.isSome_iff_exists.1 hb
  refine ⟨_,r20.cell rfl,_,rfl,_,x20.cell (k:=13) (by omega) rfl,fun hgt=>?_,fun hgt=>?_⟩
  ·have hgt:s.commit<committedS s.memb s.reach:=by have:=dT hgt;omega
   refine ⟨_,r20.cell rfl,_,rfl,_,x20.cell (k:=4) (by omega) rfl,(term_c x20.vr).mono ?_⟩
   rintro _ w132 ⟨rfl,e132⟩
   have e132:=e132.symm
   subst e132
   rw [hT]
   refine ⟨_,rfl,fun heq=>?_,fun hne=>?_⟩
   ·have heq:T=s.term:=by have:=dT heq;simp only [Option.getD_some] at this;omega
    have he:advC s={ s with commit:=committedS s.memb s.reach }:=by unfold Go.Proofs.YtcaokpglbolkcaaGreat.advC;rw [if_pos ⟨by rw [hT,heq],hgt⟩]
    refine ⟨_,r20.cell rfl,_,rfl,x20.there (k:=13) (by omega),fun w137 e137=>?_⟩
    obtain ⟨x137,o137⟩:=x20.cells (k:=13) (s':={ s with commit:=committedS s.memb s.reach }) (mm':=s.memb) (ma':=membAt s.log) (uns':=uns) e137 rfl rfl rfl rfl rfl x20.mem ⟨h1.len.v,h1.len.n,h1.len.m⟩
    exact fin w137 (by rw [he];exact x137) (r20.keep o137 (by have:=h1.row.lt;omega)) ((Grow.only G20).trans' o137)
   ·have hne:T≠s.term:=by have:=dF hne;simp only [Option.getD_some] at this;omega
    exact same (fun k=>hne (by have:=k.1;rw [hT] at this;cases this;rfl)) w20 (Only.refl _ _)
  ·have hgt:¬s.commit<committedS s.memb s.reach:=by have:=dF hgt;omega
   exact same (fun k=>hgt k.2) w20 (Only.refl _ _)
 ·exact same (fun k=>by rw [k.1] at hb;cases hb) w20 (Only.refl _ _)
end
end Go.Proofs.YtcaokpglbolkcaaGreat
