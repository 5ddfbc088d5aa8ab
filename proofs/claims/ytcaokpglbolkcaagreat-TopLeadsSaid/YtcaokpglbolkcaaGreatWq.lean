import Derived.Test.YtcaokpglbolkcaaGreatWp
namespace Go.Proofs.YtcaokpglbolkcaaGreat
open Go Go.Nf Go.RowKit
abbrev memA (c:Memb) (o1:Option Addr) (c1:Nat) (o2:Option Addr) (c2:Nat):Value:=.agg #[.slice o1 c.old.length c1,.slice o2 c.new.length c2]
def Mem (w:World) (A:Nat->Prop) (c:Memb) (o1 o2:Option Addr):Prop:=Ints w A o1 c.old/\Ints w A o2 c.new
theorem Mem.keep {w w':World} {A S:Nat->Prop} {c:Memb} {o1 o2:Option Addr} (h:Mem w A c o1 o2) (g:Only S w w') (hS:∀ b,A b->¬S b):Mem w' A c o1 o2:=⟨h.1.keep g hS,h.2.keep g hS⟩
theorem Mem.grow {w w':World} {A:Nat->Prop} {c:Memb} {o1 o2:Option Addr} (h:Mem w A c o1 o2) (g:Grow w w'):Mem w' A c o1 o2:=⟨h.1.grow g,h.2.grow g⟩
theorem Mem.mono {w:World} {A A':Nat->Prop} {c:Memb} {o1 o2:Option Addr} (h:Mem w A c o1 o2) (hA:∀ b,A b->A' b):Mem w A' c o1 o2:=⟨h.1.mono hA,h.2.mono hA⟩
section
variable {w:World} {A:Nat->Prop} {c:Memb} {o1 o2:Option Addr} {c1 c2:Nat}
theorem Permit.len (h:Permit c):1<=c.old.length/\c.old.length<=9/\c.new.length<=9:=by
 refine ⟨List.length_pos_iff.2 h.old.1,h.old.len,?_⟩
 rcases h.new with e | e
 ·rw [e];simp
 ·exact e.len
theorem memberList_c {l:List Nat} {o:Option Addr} {c:Nat} (hp:PermL l) (w:World) (h:Ints w A o l):Calls Tryz.prog 83 #[.slice o l.length c] w fun e w'=>e=.returned (.bool true)/\w'=w:=by
 have h1:=List.length_pos_iff.2 hp.1
 have h9:=hp.len
 refine nf83 o l.length c w _ (no (by omega) (no (by omega) ⟨fun k x w'=>∃ i:Nat,x=(i:Int)/\i<=l.length/\k=l.length - i/\w'=w,⟨_,0,rfl,by omega,rfl,rfl⟩,?_⟩))
 rintro k _ w9 x ⟨i,rfl,hi,rfl,rfl⟩
 refine ⟨fun hlt=>?_,fun _=>⟨rfl,rfl⟩⟩
 have hlt:i<l.length:=by have:=dT hlt;omega
 obtain ⟨a,ha,-,hc⟩:=h.at (List.getElem?_eq_getElem hlt)
 have hx9:=hp.2.2 _ (List.getElem_mem hlt)
 refine ⟨a,ha,⟨by omega,by omega⟩,_,hc,no (by omega) (no (by omega) ⟨fun hpos=>?_,fun hz=>⟨_,by omega,i+1,by rw [wr (by omega)];omega,hlt,rfl,rfl⟩⟩)⟩
 have hpos:0<i:=by have:=dT hpos;omega
 have e1:IntKind.wrap .i64 ((i:Int) - 1)=((i - 1:Nat):Int):=by rw [wr (by omega)];omega
 obtain ⟨a',ha',-,hc'⟩:=h.at (List.getElem?_eq_getElem (show i - 1<l.length by omega))
 have hlt2:l[i - 1]<l[i]:=List.pairwise_iff_getElem.1 hp.2.1 _ _ _ _ (by omega)
 rw [e1]
 exact ⟨a',ha',⟨by omega,by omega⟩,_,hc',no (by omega) ⟨_,by omega,i+1,by rw [wr (by omega)];omega,hlt,rfl,rfl⟩⟩
theorem majority_c (o:Option Addr) (n c:Nat) (hn:n<=1000000) (w:World):Calls Tryz.prog 121 #[.slice o n c] w fun e w'=>e=.returned (.int .i64 ((n / 2+1:Nat):Int))/\w'=w:=by
 refine nf121 o n c w _ ⟨?_,rfl⟩
 have e1:Int.tdiv (n:Int) 2=((n / 2:Nat):Int):=by rw [Int.tdiv_eq_ediv_of_nonneg (by omega)];omega
 rw [e1,wr (x:=((n / 2:Nat):Int)) (by omega),wr (by omega)];rfl
theorem valid_c (hp:Permit c) (w:World) (h:Mem w A c o1 o2):Calls Tryz.prog 51 #[memA c o1 c1 o2 c2] w fun e w'=>e=.returned (.bool true)/\Grow w w':=by
 refine nf51 o1 _ c1 o2 _ c2 w _ fun w1 e1=>?_
 have r1:=Row.new (l:=[_,_]) e1
 have g1:Grow w w1:=only_alloc e1
 refine ⟨_,_,_,r1.cell rfl,(memberList_c hp.old w1 (h.1.grow g1)).mono ?_⟩
 rintro _ w7 ⟨rfl,e7⟩
 have e7:=e7.symm
 subst e7
 refine ⟨_,rfl,bT ⟨_,_,_,r1.cell rfl,fun _=>⟨rfl,g1⟩,fun hne=>⟨_,_,_,r1.cell rfl,?_⟩⟩⟩
 have hne:=dF hne
 have hp2:PermL c.new:=hp.new.resolve_left fun e=>hne (by rw [e];rfl)
 refine (memberList_c hp2 w1 (h.2.grow g1)).mono ?_
 rintro _ w19 ⟨rfl,e19⟩
 have e19:=e19.symm
 subst e19
 exact ⟨_,rfl,bT ⟨rfl,g1⟩⟩
theorem containsMaj_c {B:Nat->Prop} {l yes':List Nat} {o oy:Option Addr} {c cy:Nat} (hl:l.length<=1000) (hy:yes'.length<=1000) (w:World) (h:Ints w A o l) (h2:Ints w B oy yes'):Calls Tryz.prog 107 #[.slice o l.length c,.slice oy yes'.length cy] w fun e w'=>e=.returned (.bool (decide (l.length / 2+1<=(l.filter fun m=>decide (m∈yes')).length)))/\w'=w:=by
 refine nf107 o _ c oy _ cy w _ ⟨fun k x i w'=>∃ j:Nat,i=(j:Int)/\j<=l.length/\k=l.length - j/\x=(((l.take j).filter fun m=>decide (m∈yes')).length:Int)/\w'=w,⟨_,0,rfl,by omega,rfl,rfl,rfl⟩,?_⟩
 rintro k _ w5 x i ⟨j,rfl,hj,rfl,rfl,rfl⟩
 have hfl:((l.take j).filter fun m=>decide (m∈yes')).length<=1000:=by
  have h1:=List.length_filter_le (fun m=>decide (m∈yes')) (l.take j)
  rw [List.length_take] at h1;omega
 refine ⟨fun hlt k10 hk10=>?_,fun hge=>?_⟩
 ·have hlt:j<l.length:=by have:=dT hlt;omega
  have hat:=List.getElem?_eq_getElem hlt
  have htk:l.take (j+1)=l.take j++[l[j]]:=List.take_succ_eq_append_getElem hlt
  generalize l[j]=m at*
  obtain ⟨a,ha,-,hc⟩:=h.at hat
  refine ⟨a,ha,⟨by omega,by omega⟩,_,hc,(contains_c yes' m (by omega) _ h2).mono ?_⟩
  rintro _ w20 ⟨rfl,e20⟩
  refine ⟨_,rfl,fun hb=>hk10 _ _ fun _=>⟨_,by omega,j+1,by rw [wr (by omega)];omega,hlt,rfl,?_,e20⟩,fun hb=>hk10 _ _ fun _=>⟨_,by omega,j+1,by rw [wr (by omega)];omega,hlt,rfl,?_,e20⟩⟩
  ·rw [htk,List.filter_append,List.filter_cons_of_pos (by rw [hb]),wr (by omega)];simp
  ·rw [htk,List.filter_append,List.filter_cons_of_neg (by rw [hb];decide)];simp
 ·have:j=l.length:=by have:=dF hge;omega
  subst this
  rw [List.take_length] at*
  refine (majority_c o _ c (by omega) _).mono ?_
  rintro _ w26 ⟨rfl,e26⟩
  refine ⟨_,rfl,fun hb=>⟨?_,e26⟩,fun hb=>⟨?_,e26⟩⟩
  ·have:=dT hb
   rw [decide_eq_true (by omega)]
  ·have:=dF hb
   rw [decide_eq_false (by omega)]
abbrev majY (l:List Nat) (yes':List Nat):Prop:=l.length / 2+1<=(l.filter fun m=>decide (m∈yes')).length
theorem reached_c {B:Nat->Prop} {yes':List Nat} {oy:Option Addr} {cy:Nat} (hp:Permit c) (hy:yes'.length<=1000) (w:World) (h:Mem w A c o1 o2) (h2:Ints w B oy yes'):
  Calls Tryz.prog 76 #[memA c o1 c1 o2 c2,.slice oy yes'.length cy] w fun e w'=>∃ b:Bool,e=.returned (.bool b)/\(b=true↔majY c.old yes'/\(c.new=[]\/majY c.new yes'))/\Grow w w':=by
 obtain ⟨l1,l2,l3⟩:=hp.len
 refine nf76 o1 _ c1 o2 _ c2 oy _ cy w _ fun w1 e1=>?_
 have r1:=Row.new (l:=[_,_]) e1
 have g1:Grow w w1:=only_alloc e1
 refine ⟨_,_,_,r1.cell rfl,_,_,_,r1.cell rfl,(valid_c (c:=c) hp w1 (h.grow g1)).mono ?_⟩
 rintro _ w10 ⟨rfl,g10⟩
 have r10:=r1.grow g10
 have G10:=g1.trans' g10
 refine ⟨_,rfl,bT ⟨_,_,_,r10.cell rfl,(containsMaj_c (by omega) hy w10 (h.1.grow G10) (h2.grow G10)).mono ?_⟩⟩
 rintro _ w17 ⟨rfl,e17⟩
 have e17:=e17.symm
 subst e17
 refine ⟨_,rfl,fun hb=>⟨_,_,_,r10.cell rfl,fun h0=>?_,fun h0=>?_⟩,fun hb=>?_⟩
 ·have h0:=dT h0
  exact ⟨_,rfl,⟨fun _=>⟨of_decide_eq_true hb,.inl (List.length_eq_zero_iff.1 (by omega))⟩,fun _=>rfl⟩,G10⟩
 ·have h0:=dF h0
  refine ⟨_,_,_,r10.cell rfl,(containsMaj_c (by omega) hy w10 (h.2.grow G10) (h2.grow G10)).mono ?_⟩
  rintro _ w29 ⟨rfl,e29⟩
  have e29:=e29.symm
  subst e29
  refine ⟨_,rfl,fun hb2=>⟨_,rfl,⟨fun _=>⟨of_decide_eq_true hb,.inr (of_decide_eq_true hb2)⟩,fun _=>rfl⟩,G10⟩,fun hb2=>⟨_,rfl,⟨fun k=>(by cases k),fun k=>?_⟩,G10⟩⟩
  rcases k.2 with k | k
  ·exact absurd (by rw [k];rfl) h0
  ·exact absurd k (of_decide_eq_false hb2)
 ·exact ⟨_,rfl,⟨fun k=>(by cases k),fun k=>absurd k.1 (of_decide_eq_false hb)⟩,G10⟩
theorem members_c (hp:Permit c) (w:World) (h:Mem w A c o1 o2) (hA:∀ b,A b->b<hs w):
  Calls Tryz.prog 52 #[memA c o1 c1 o2 c2] w fun e w'=>∃ g c',e=.returned (.slice (some ⟨g,0,none⟩) (members c).length c')/\Own w' (hs w) 3 1 (some ⟨g,0,none⟩) (members c).length c' ((members c).flatMap in1)/\Grow w w':=by
 obtain ⟨l1,l2,l3⟩:=hp.len
 refine nf52 o1 _ c1 o2 _ c2 w _ fun w1 e1=>?_
 have r1:=Row.new (l:=[_,_]) e1
 have g1:Grow w w1:=only_alloc e1
 have z1:=hs_alloc e1
 refine ⟨_,_,_,r1.cell rfl,_,_,_,r1.cell rfl,(valid_c (c:=c) hp w1 (h.grow g1)).mono ?_⟩
 rintro _ w10 ⟨rfl,g10⟩
 refine ⟨_,rfl,bT fun w13 e13=>?_⟩
 have g13:Grow w10 w13:=only_drew e13
 have G13:=(g1.trans' g10).trans' g13
 have r13:=(r1.grow g10).grow g13
 have z13:=G13.size
 have h13:=h.grow G13
 refine ⟨_,_,_,r13.cell rfl,_,_,_,r13.cell rfl,append_ints (B:=hs w13) (xs:=[]) (c2:=c1) elem24 (own_nil _ _ _ _) h13.1 (by simp only [maxLen];omega) (by omega) (Nat.le_refl _) fun o' c' w22 p1 p2=>⟨_,_,_,rfl,kept_only (p2.mono (S':=none') fun b _ ⟨a,ha,_⟩=>by cases ha) (by have:=r13.lt;omega) (fun h=>h),?_⟩⟩
 have g22:Grow w13 w22:=p2.mono fun b _ ⟨a,ha,_⟩=>by cases ha
 have z22:=g22.size
 rw [List.nil_append] at p1
 refine append_ints (c2:=c2) elem24 p1 (h13.2.grow g22) (by simp only [maxLen];omega) (by omega) (by omega) fun o'' c'' w27 q1 q2=>⟨_,_,_,rfl,?_⟩
 have O27:Only (fun b=>hs w<=b) w w27:=((Grow.only G13).trans' (Grow.only g22)).trans' (q2.mono fun b _ hb=>by have:=(p1.base b hb).1;omega)
 rw [in1_ints] at q1
 have hlen:0+c.old.length+c.new.length<=1000:=by omega
 refine (sort_c q1 hlen).mono ?_
 rintro _ w32 ⟨rfl,o32,s32⟩
 refine ⟨rfl,(compact_c s32 hlen).mono ?_⟩
 rintro _ w34 ⟨rfl,o34,t34⟩
 rw [members_compact hp] at t34 ⊢
 rw [List.length_map] at t34 ⊢
 rw [<- in1_ints] at t34
 have hne:0<(members c).length:=by
  obtain ⟨x,hx⟩:=List.exists_mem_of_length_pos (show 0<c.old.length by omega)
  exact List.length_pos_of_mem ((mem_members hp).2 (.inl hx))
 obtain ⟨g,l,rfl,-⟩:=t34.head hne
 refine ⟨_,_,_,rfl,g,c'',rfl,t34.mono (by omega),?_⟩
 refine ((O27.trans' (o32.mono fun b _ hb=>?_)).trans' (o34.mono fun b _ hb=>?_)).toGrow fun b hb=>hb
 ·have:=(q1.base b hb).1;omega
 ·have:=(s32.base b hb).1;omega
theorem end_c (hp:Permit c) (h0:c.new≠[]) (w:World) (h:Mem w A c o1 o2) (hA:∀ b,A b->b<hs w):
  Calls Tryz.prog 105 #[memA c o1 c1 o2 c2] w fun e w'=>∃ p1 k1 p2 k2,e=.returned (.tuple #[memA ⟨c.new,[]⟩ p1 k1 p2 k2,.int .i64 0])/\Mem w' (fun b=>hs w<=b/\b<hs w') ⟨c.new,[]⟩ p1 p2/\Grow w w':=by
 obtain ⟨l1,l2,l3⟩:=hp.len
 have hlen:=List.length_pos_iff.2 h0
 refine nf105 o1 _ c1 o2 _ c2 w _ fun w1 e1 w3 e3=>?_
 have r1:=Row.new (l:=[_,_]) e1
 have r3:=Row.new (l:=[_,_]) e3
 have g1:Grow w w1:=only_alloc e1
 have g3:Grow w1 w3:=only_alloc e3
 have z1:=hs_alloc e1
 have z3:=hs_alloc e3
 have r1':=r1.grow g3
 have G3:=g1.trans' g3
 refine ⟨_,_,_,r1'.cell rfl,_,_,_,r1'.cell rfl,(valid_c (c:=c) hp w3 (h.grow G3)).mono ?_⟩
 rintro _ w12 ⟨rfl,g12⟩
 have G12:=G3.trans' g12
 have z12:=g12.size
 have r12:=r1'.grow g12
 refine ⟨_,rfl,bT ⟨_,_,_,r12.cell rfl,no (by omega) ⟨_,_,_,r12.cell rfl,(sclone_c c.new (by omega) w12 (h.2.grow G12) (fun b hb=>by have:=hA b hb;omega)).mono ?_⟩⟩⟩
 rintro _ w36 ⟨p1,k1,rfl,i36,g36⟩
 have z36:=g36.size
 have r36:=(r3.grow g12).grow g36
 refine ⟨_,_,_,rfl,r36.there (by simp),fun w45 e45=>?_⟩
 have o45:Only (fun b=>b=hs w1) w36 w45:=only_set e45
 have z45:=o45.size
 have r45:Row w45 (hs w1) 26 [.slice p1 c.new.length k1,.slice none 0 0]:=r36.set e45
 refine ⟨_,_,_,r45.cell rfl,_,_,_,r45.cell rfl,p1,k1,none,0,rfl,⟨(i36.keep o45 fun b hb e=>by omega).mono fun b hb=>⟨by omega,by omega⟩,Recs.nil _ _ _ _⟩,?_⟩
 exact (G12.trans' g36).trans o45 fun b hb e=>by omega
theorem encodeM_c (hp:Permit c) (w:World) (h:Mem w A c o1 o2) (hA:∀ b,A b->b<hs w):
  Calls Tryz.prog 48 #[memA c o1 c1 o2 c2] w fun e w'=>∃ g,e=.returned (.slice (some ⟨g,0,none⟩) (encM c).length (encM c).length)/\Row w' g 5 (byV (encM c))/\hs w<=g/\Grow w w':=by
 obtain ⟨l1,l2,l3⟩:=hp.len
 obtain ⟨⟨a1,a2⟩,a3,a4⟩:=hp.lens
 refine nf48 o1 _ c1 o2 _ c2 w _ fun w1 e1=>?_
 have r1:=Row.new (l:=[_,_]) e1
 have g1:Grow w w1:=only_alloc e1
 have z1:=hs_alloc e1
 refine ⟨_,_,_,r1.cell rfl,_,_,_,r1.cell rfl,(valid_c (c:=c) hp w1 (h.grow g1)).mono ?_⟩
 rintro _ w10 ⟨rfl,g10⟩
 have z10:=g10.size
 refine ⟨_,rfl,bT fun w13 e13=>?_⟩
 have g13:Grow w10 w13:=only_alloc e13
 have z13:=hs_alloc e13
 have r13:=(r1.grow g10).grow g13
 have G13:=(g1.trans' g10).trans' g13
 refine ⟨_,_,_,r13.cell rfl,(wInts_c (wr_new (Nat.le_refl _) e13) (by omega) o1 c1 c.old (h.1.grow G13) (fun b hb=>by have:=hA b hb;omega) (by omega) (fun y hy=>by have:=a2 y hy;omega) (by simp)).mono ?_⟩
 rintro _ w19 ⟨rfl,h19,o19⟩
 rw [List.nil_append] at h19
 have z19:=o19.size
 have r19:=r13.keep o19 (by show ¬hs w10<=hs w;omega)
 have m19:=(h.grow G13).keep o19 fun b hb hb'=>by have:=hA b hb;have:hs w10<=b:=hb';omega
 have el:=encInts_len (l:=c.old) l2 a2
 refine ⟨rfl,_,_,_,r19.cell rfl,(wInts_c h19 (by omega) o2 c2 c.new m19.2 (fun b hb=>by have:=hA b hb;omega) (by omega) (fun y hy=>by have:=a4 y hy;omega) (by omega)).mono ?_⟩
 rintro _ w24 ⟨rfl,h24,o24⟩
 have hM:encInts c.old++encInts c.new=encM c:=rfl
 rw [hM] at h24
 have hml:=encM_len hp
 refine ⟨rfl,(encoded_c h24 (by omega)).mono ?_⟩
 rintro _ w26 ⟨g,rfl,r26,zg,g26⟩
 have z24:=o24.size
 refine ⟨_,_,_,rfl,g,rfl,r26,by omega,?_⟩
 exact (G13.trans (o19.trans' o24) fun b hb e=>by have:hs w10<=b:=e;omega).trans' g26
theorem decodeM_c {o:Option Addr} {k:Nat} (hp:Permit c) (w:World) (h:Byts w A o (encM c)) (hA:∀ b,A b->b<hs w):
  Calls Tryz.prog 98 #[.slice o (encM c).length k] w fun e w'=>∃ p1 k1 p2 k2,e=.returned (.tuple #[memA c p1 k1 p2 k2,.int .i64 0])/\Mem w' (fun b=>hs w<=b/\b<hs w') c p1 p2/\Grow w w':=by
 obtain ⟨l1,l2,l3⟩:=hp.len
 obtain ⟨⟨a1,a2⟩,a3,a4⟩:=hp.lens
 have hml:=encM_len hp
 refine nf98 o _ k w _ fun w1 e1=>?_
 have r1:=Row.new (l:=[_,_]) e1
 have g1:Grow w w1:=only_alloc e1
 have z1:=hs_alloc e1
 refine (newReader_c o k (encM c) (by omega) w1 (h.grow g1)).mono ?_
 rintro _ w4 ⟨r,g,rfl,h4,zr,zg,g4⟩
 have z4:=g4.size
 refine ⟨_,rfl,(rInts_c (ys:=c.old) (xs:=encInts c.new) (by omega) (fun y hy=>by have:=a2 y hy;omega) h4).mono ?_⟩
 rintro _ w7 ⟨p1,k1,rfl,i7,h7,o7⟩
 have z7:=o7.size
 refine ⟨_,_,_,rfl,(rInts_c (ys:=c.new) (xs:=[]) (by omega) (fun y hy=>by have:=a4 y hy;omega) (by rw [List.append_nil];exact h7)).mono ?_⟩
 rintro _ w12 ⟨p2,k2,rfl,i12,h12,o12⟩
 have z12:=o12.size
 have hrr:=h4.row
 refine ⟨_,_,_,rfl,fun w16 e16=>⟨(Row.new (l:=[_,_]) e16).there (by simp),fun w18 e18=>?_⟩⟩
 obtain ⟨r18,g18⟩:=loc (l:=[_,_]) (vs:=[.slice p1 c.old.length k1,.slice p2 c.new.length k2]) e16 e18 rfl
 have z18:=g18.size
 have lr18:=r18.lt
 refine (finish_c (h12.grow g18)).mono ?_
 rintro _ w21 ⟨rfl,e21⟩
 have e21:=e21.symm
 subst e21
 have m18:Mem w18 (fun b=>(hs w4<=b/\b<hs w7)\/(hs w7<=b/\b<hs w12)) c p1 p2:=⟨((i7.keep o12 fun b hb e=>by omega).grow g18).mono fun b hb=>.inl hb,(i12.grow g18).mono fun b hb=>.inr hb⟩
 refine ⟨_,rfl,nno rfl ⟨_,_,_,r18.cell rfl,_,_,_,r18.cell rfl,(valid_c (c:=c) hp w18 m18).mono ?_⟩⟩
 rintro _ w40 ⟨rfl,g40⟩
 have z40:=g40.size
 have r40:=r18.grow g40
 have q1:Row w4 (hs w) 26 [.slice none 0 0,.slice none 0 0]:=(Row.new (l:=[.slice none 0 0,.slice none 0 0]) e1).grow g4
 have q40:=((((q1.keep o7 (by omega)).keep o12 (by omega)).grow g18).grow g40)
 refine ⟨_,rfl,bT ⟨_,_,_,r40.cell rfl,_,_,_,r40.cell rfl,q40.there (by simp),fun w49 e49=>?_⟩⟩
 have o49:Only (fun b=>b=hs w) w40 w49:=only_set e49
 have z49:=o49.size
 have r49:Row w49 (hs w) 26 [.slice p1 c.old.length k1,.slice p2 c.new.length k2]:=q40.set e49
 refine ⟨_,_,_,r49.cell rfl,_,_,_,r49.cell rfl,p1,k1,p2,k2,rfl,((m18.grow g40).keep o49 fun b hb e=>by omega).mono fun b hb=>⟨by omega,by omega⟩,?_⟩
 exact (((((g1.trans' g4).trans o7 fun b hb e=>by omega).trans o12 fun b hb e=>by omega).trans' g18).trans' g40).trans o49 fun b hb e=>by omega
end
end Go.Proofs.YtcaokpglbolkcaaGreat
