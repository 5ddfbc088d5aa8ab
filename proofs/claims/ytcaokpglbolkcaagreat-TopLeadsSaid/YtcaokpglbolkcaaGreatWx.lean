import Derived.Test.YtcaokpglbolkcaaGreatNd
namespace Go.Proofs.YtcaokpglbolkcaaGreat
open Go Go.Nf Go.RowKit
structure WrM (w:World) (q:Nat) (M:Nat->Prop) (xs:List UInt8):Prop where
 ex:∃ o c,(∀ b,M b↔b=q\/inBlock o b)/\Row w q 137 [.slice o xs.length c]/\Own w 0 5 1 o xs.length c (byV xs)
theorem wrM_new {w w1:World} (e:w1=w.alloc (.cells #[.slice none 0 0] 137 (0,0))):WrM w1 (hs w) (fun b=>b=hs w) []:=⟨none,0,fun b=>⟨.inl,fun h=>h.elim id fun ⟨a,ha,_⟩=>by cases ha⟩,Row.new (l:=[.slice none 0 0]) e,own_nil _ _ _ _⟩
section
variable {w:World} {q:Nat} {M:Nat->Prop} {xs:List UInt8}
theorem WrM.keep {S:Nat->Prop} {w':World} (h:WrM w q M xs) (g:Only S w w') (hS:∀ b,M b->¬S b):WrM w' q M xs:=by
 obtain ⟨o,c,h1,h2,h3⟩:=h.ex
 exact ⟨o,c,h1,h2.keep g (hS q ((h1 q).2 (.inl rfl))),h3.keep g fun b hb=>hS b ((h1 b).2 (.inr hb))⟩
theorem WrM.grow {w':World} (h:WrM w q M xs) (g:Grow w w'):WrM w' q M xs:=h.keep g fun _ _ h=>h
theorem WrM.lt (h:WrM w q M xs):∀ b,M b->b<hs w:=fun b hb=>by
 obtain ⟨o,c,h1,h2,h3⟩:=h.ex
 rcases (h1 b).1 hb with rfl | hb
 ·exact h2.lt
 ·exact (h3.base b hb).2
def WrTo (w w':World) (q:Nat) (M:Nat->Prop) (ys:List UInt8):Prop:=∃ M',WrM w' q M' ys/\Only M w w'/\∀ b,M' b->M b\/hs w<=b
theorem WrTo.trans {w1 w2:World} {ys zs:List UInt8} (h:WrTo w w1 q M ys) (k:∀ M',WrM w1 q M' ys->(∀ b,M' b->M b\/hs w<=b)->WrTo w1 w2 q M' zs):WrTo w w2 q M zs:=by
 obtain ⟨M1,h1,o1,n1⟩:=h
 obtain ⟨M2,h2,o2,n2⟩:=k M1 h1 n1
 have z:=o1.size
 refine ⟨M2,h2,o1.trans o2 fun b hb k=>(n1 b k).elim id fun k=>by omega,fun b hb=>?_⟩
 rcases n2 b hb with k | k
 ·exact n1 b k
 ·right;omega
theorem WrM.put {ys:List UInt8} {w1 w2:World} {o o':Option Addr} {c c':Nat} (hM:∀ b,M b↔b=q\/inBlock o b) (h2:Only (inBlock o) w w1) (h3:Own w1 0 5 1 o' (xs.length+ys.length) c' (byV (xs++ys))) (hin:∀ b,inBlock o' b->inBlock o b\/hs w<=b) (hr:Row w1 q 137 [.slice o xs.length c]) (e:w2=setCells w1 ⟨q,0,none⟩ [.slice o' (xs.length+ys.length) c'] 0):WrTo w w2 q M (xs++ys):=by
 have hne:∀ b,inBlock o' b->¬b=q:=fun b hb eb=>by
  obtain ⟨l',hl'⟩:=h3.row hb
  rw [eb] at hl'
  cases (hr.inj hl').2
 refine ⟨fun b=>b=q\/inBlock o' b,⟨o',c',fun b=>Iff.rfl,?_,?_⟩,?_,fun b hb=>?_⟩
 ·rw [List.length_append];exact hr.set e
 ·rw [List.length_append];exact h3.keep (only_set e) hne
 ·exact (h2.mono fun b _ hb=>(hM b).2 (.inr hb)).trans' ((only_set e).mono fun b _ hb=>(hM b).2 (.inl hb))
 ·rcases hb with hb | hb
  ·exact .inl ((hM b).2 (.inl hb))
  ·exact (hin b hb).imp (fun k=>(hM b).2 (.inr k)) id
set_option maxHeartbeats 1000000 in
theorem wIntM_c (h:WrM w q M xs) (n:Nat) (hn:n<2305843009213693952) (hl:xs.length<=1000000000):
  Calls Tryz.prog 101 #[.pointer (some ⟨q,0,none⟩),.int .i64 (n:Int)] w fun e w'=>e=.returned (.tuple #[])/\WrTo w w' q M (xs++encI n):=by
 have e1:IntKind.wrap .u64 (IntKind.wrap .u64 (n:Int)*2)=((2*n:Nat):Int):=by rw [IntKind.wrap_u64,IntKind.wrap_u64];omega
 have e2:IntKind.wrap .u64 (Int.fdiv (n:Int) 9223372036854775808)=0:=by
  rw [Int.fdiv_eq_ediv_of_nonneg _ (by omega),IntKind.wrap_u64];omega
 refine nf101 q n w _ ?_
 rw [e1,e2]
 refine run_xor ⟨_,rfl,?_⟩
 rw [bits_xor0 (by omega) (by omega)]
 refine ⟨fun k x w'=>∃ (f v:Nat) (pre:List UInt8),x=(v:Int)/\k=f/\v<128 ^ f/\1<=f/\f<=10/\pre++encF f v=encI n/\pre.length<=10 - f/\WrTo w w' q M (xs++pre),⟨_,10,2*n,[],rfl,rfl,by omega,by omega,by omega,rfl,by simp,M,by simpa using h,Only.refl _ _,fun b hb=>.inl hb⟩,?_⟩
 rintro k _ w8 x ⟨f,v,pre,rfl,rfl,hv,hf1,hf,hp,hpl,h8⟩
 cases k with
 | zero=>omega
 | succ f=>
  have hlen:(xs++pre).length<=1000000010:=by rw [List.length_append];omega
  refine ⟨fun hge=>?_,fun hlt=>?_⟩
  ·have hge:128<=v:=by have:=dT hge;omega
   obtain ⟨M8,m8,o8,n8⟩:=h8
   obtain ⟨o,c,hM,r,own⟩:=m8.ex
   refine ⟨_,_,_,r.cell rfl,run_or ⟨_,rfl,fun w18 e18=>?_⟩⟩
   have eb:bits .or .u8 (IntKind.wrap .u8 (v:Int)) 128=((UInt8.ofNat (v % 128+128)).toNat:Int):=by
    rw [bits_or128 (by rw [IntKind.wrap_u8];omega) (by rw [IntKind.wrap_u8];omega),IntKind.wrap_u8,UInt8.toNat_ofNat']
    omega
   rw [eb] at e18
   have g18:Grow w8 w18:=only_alloc e18
   have z18:=g18.size
   refine append_at (B:=0) (ys:=[UInt8.ofNat (v % 128+128)]) elem42 (own.grow g18) (row_byts (Row.new (l:=byV [UInt8.ofNat (v % 128+128)]) e18)) (by simp only [maxLen,List.length_singleton];omega) (by simp only [List.length_singleton];omega) (Nat.zero_le _) fun o' c' w21 p1 p2 p3=>⟨_,_,_,rfl,?_⟩
   have r21:=(r.grow g18).keep p2 (WrAt.apart (own.grow g18 |>.mono (Nat.zero_le _)) (r.grow g18))
   refine ⟨r21.there (by simp),fun w25 e25=>?_⟩
   have step:WrTo w8 w25 q M8 ((xs++pre)++[UInt8.ofNat (v % 128+128)]):=WrM.put (ys:=[UInt8.ofNat (v % 128+128)]) (c:=c) hM ((Grow.only g18).trans' p2) p1 (fun b hb=>(p3 b hb).imp id fun k=>by omega) r21 e25
   refine ⟨f,by omega,f,v / 128,pre++[UInt8.ofNat (v % 128+128)],?_,rfl,?_,?_,by omega,?_,?_,?_⟩
   ·rw [Int.fdiv_eq_ediv_of_nonneg _ (by omega)];omega
   ·rw [Nat.pow_succ] at hv
    exact Nat.div_lt_of_lt_mul (by rw [Nat.mul_comm];exact hv)
   ·rcases Nat.eq_zero_or_pos f with e | e
    ·subst e;simp at hv;omega
    ·exact e
   ·rw [<- hp,encF,if_neg (by omega)]
    simp
   ·simp;omega
   ·rw [<- List.append_assoc]
    exact WrTo.trans ⟨M8,m8,o8,n8⟩ fun M' m' n'=>by
     obtain ⟨o2,c2,hM2,r2,own2⟩:=m'.ex
     have he:=(r.inj r2).1
     simp only [List.cons.injEq,Value.slice.injEq,and_true] at he
     obtain ⟨rfl,-⟩:=he
     have:∀ b,M' b↔M8 b:=fun b=>(hM2 b).trans (hM b).symm
     obtain ⟨M2,a1,a2,a3⟩:=step
     exact ⟨M2,a1,a2.mono fun b _ hb=>(this b).2 hb,fun b hb=>(a3 b hb).imp (this b).2 id⟩
  ·have hlt:v<128:=by have:=dF hlt;omega
   obtain ⟨M8,m8,o8,n8⟩:=h8
   obtain ⟨o,c,hM,r,own⟩:=m8.ex
   refine ⟨_,_,_,r.cell rfl,fun w18 e18=>?_⟩
   have eb:IntKind.wrap .u8 (v:Int)=((UInt8.ofNat v).toNat:Int):=by
    rw [IntKind.wrap_u8,UInt8.toNat_ofNat']
    omega
   rw [eb] at e18
   have g18:Grow w8 w18:=only_alloc e18
   have z18:=g18.size
   refine append_at (B:=0) (ys:=[UInt8.ofNat v]) elem42 (own.grow g18) (row_byts (Row.new (l:=byV [UInt8.ofNat v]) e18)) (by simp only [maxLen,List.length_singleton];omega) (by simp only [List.length_singleton];omega) (Nat.zero_le _) fun o' c' w21 p1 p2 p3=>⟨_,_,_,rfl,?_⟩
   have r21:=(r.grow g18).keep p2 (WrAt.apart (own.grow g18 |>.mono (Nat.zero_le _)) (r.grow g18))
   refine ⟨r21.there (by simp),fun w25 e25=>⟨rfl,?_⟩⟩
   have step:WrTo w8 w25 q M8 ((xs++pre)++[UInt8.ofNat v]):=WrM.put (ys:=[UInt8.ofNat v]) (c:=c) hM ((Grow.only g18).trans' p2) p1 (fun b hb=>(p3 b hb).imp id fun k=>by omega) r21 e25
   rw [<- hp,encF,if_pos hlt,<- List.append_assoc]
   exact WrTo.trans ⟨M8,m8,o8,n8⟩ fun M' m' n'=>by
    obtain ⟨o2,c2,hM2,r2,own2⟩:=m'.ex
    have he:=(r.inj r2).1
    simp only [List.cons.injEq,Value.slice.injEq,and_true] at he
    obtain ⟨rfl,-⟩:=he
    have:∀ b,M' b↔M8 b:=fun b=>(hM2 b).trans (hM b).symm
    obtain ⟨M2,a1,a2,a3⟩:=step
    exact ⟨M2,a1,a2.mono fun b _ hb=>(this b).2 hb,fun b hb=>(a3 b hb).imp (this b).2 id⟩
theorem wBytesM_c (h:WrM w q M xs) {A:Nat->Prop} (o2:Option Addr) (c2:Nat) (ys:List UInt8) (hy:Byts w A o2 ys) (hA:∀ b,A b->¬M b) (hyl:ys.length<=1000000000) (hl:xs.length<=100000000):
  Calls Tryz.prog 106 #[.pointer (some ⟨q,0,none⟩),.slice o2 ys.length c2] w fun e w'=>e=.returned (.tuple #[])/\WrTo w w' q M (xs++(encI ys.length++ys)):=by
 refine nf106 q o2 ys.length c2 w _ ((wIntM_c h ys.length (by omega) (by omega)).mono ?_)
 rintro _ w2 ⟨rfl,M2,m2,o2',n2⟩
 obtain ⟨o,c,hM,r,own⟩:=m2.ex
 have hel:=encI_len ys.length
 have hle:(xs++encI ys.length).length<=100000010:=by rw [List.length_append];omega
 refine ⟨rfl,_,_,_,r.cell rfl,append_at (B:=0) elem42 own (hy.keep o2' hA) (by simp only [maxLen];omega) (by omega) (Nat.zero_le _) fun o' c' w7 p1 p2 p3=>⟨_,_,_,rfl,?_⟩⟩
 have r7:=r.keep p2 (WrAt.apart (own.mono (Nat.zero_le _)) r)
 refine ⟨r7.there (by simp),fun w11 e11=>⟨rfl,?_⟩⟩
 rw [<- List.append_assoc]
 exact WrTo.trans ⟨M2,m2,o2',n2⟩ fun M' m' n'=>by
  obtain ⟨o3,c3,hM3,r3,own3⟩:=m'.ex
  have he:=(r.inj r3).1
  simp only [List.cons.injEq,Value.slice.injEq,and_true] at he
  obtain ⟨rfl,-⟩:=he
  exact WrM.put (ys:=ys) (c:=c) hM3 p2 p1 (fun b hb=>(p3 b hb).imp id fun k=>by omega) r7 e11
theorem encodedM_c (h:WrM w q M xs) (hl:xs.length<=1000000000):Calls Tryz.prog 85 #[.pointer (some ⟨q,0,none⟩)] w fun e w'=>∃ g,e=.returned (.slice (some ⟨g,0,none⟩) xs.length xs.length)/\Row w' g 5 (byV xs)/\hs w<=g/\Grow w w':=by
 obtain ⟨o,c,hM,r,own⟩:=h.ex
 exact encoded_c (B:=0) ⟨Nat.zero_le _,o,c,r,own⟩ hl
theorem writeEntry_c {A:Nat->Prop} {e:Ent} {o:Option Addr} {c:Nat} (h:WrM w q M xs) (he:OkEnt e) (hb:Byts w A o e.body) (hA:∀ b,A b->¬M b/\b<hs w) (hl:xs.length<=1000000):
  Calls Tryz.prog 109 #[.pointer (some ⟨q,0,none⟩),entA e o c] w fun r w'=>r=.returned (.tuple #[])/\WrTo w w' q M (xs++encE e):=by
 have h2:=he.t2
 unfold MaxT at h2
 have h3:=he.k
 have h4:=he.b
 have lt:=h.lt
 refine nf109 q e.term e.kind o e.body.length c w _ fun w1 e1=>?_
 have r1:=Row.new (l:=[.int .i64 (e.term:Int),.int .i64 (e.kind:Int),.slice o e.body.length c]) e1
 have g1:Grow w w1:=only_alloc e1
 have z1:=hs_alloc e1
 have hnM:¬M (hs w):=fun k=>by have:=lt _ k;omega
 refine ⟨_,r1.cell rfl,(wIntM_c (h.grow g1) e.term (by omega) (by omega)).mono ?_⟩
 rintro _ w5 ⟨rfl,M5,m5,o5,n5⟩
 have r5:=r1.keep o5 hnM
 have z5:=o5.size
 have l1:=encI_len e.term
 have l2:=encI_len e.kind
 have hn5:¬M5 (hs w):=fun k=>(n5 _ k).elim hnM fun k=>by omega
 refine ⟨rfl,_,r5.cell rfl,(wIntM_c m5 e.kind (by omega) (by rw [List.length_append];omega)).mono ?_⟩
 rintro _ w8 ⟨rfl,M8,m8,o8,n8⟩
 have r8:=r5.keep o8 hn5
 have z8:=o8.size
 have hA1:∀ b,A b->¬M5 b:=fun b hb k=>(n5 b k).elim (hA b hb).1 fun k=>by have:=(hA b hb).2;omega
 have hA2:∀ b,A b->¬M8 b:=fun b hb k=>(n8 b k).elim (hA1 b hb) fun k=>by have:=(hA b hb).2;omega
 have b8:Byts w8 A o e.body:=((hb.grow g1).keep o5 fun b hb=>(hA b hb).1).keep o8 hA1
 refine ⟨rfl,_,_,_,r8.cell rfl,(wBytesM_c m8 o c e.body b8 hA2 (by omega) (by rw [List.length_append,List.length_append];omega)).mono ?_⟩
 rintro _ w13 ⟨rfl,M13,m13,o13,n13⟩
 refine ⟨rfl,rfl,M13,?_,?_,fun b hb=>?_⟩
 ·unfold encE
  simp only [List.append_assoc] at m13
  exact m13
 ·have O8:Only M w1 w8:=o5.trans o8 fun b hb k=>(n5 b k).elim id fun k=>by omega
  have nM8:∀ b,M8 b->M b\/hs w1<=b:=fun b k=>(n8 b k).elim (n5 b) fun k=>by right;omega
  exact (Grow.only g1).trans' (O8.trans o13 fun b hb k=>(nM8 b k).elim id fun k=>by omega)
 ·rcases n13 b hb with k | k
  ·rcases n8 b k with k | k
   ·rcases n5 b k with k | k
    ·exact .inl k
    ·right;omega
   ·right;omega
  ·right;omega
end
end Go.Proofs.YtcaokpglbolkcaaGreat
