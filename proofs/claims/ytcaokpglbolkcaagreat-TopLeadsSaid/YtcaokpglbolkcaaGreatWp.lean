import Derived.Test.YtcaokpglbolkcaaGreatWo
import Derived.Test.YtcaokpglbolkcaaGreatSh
import Derived.Test.YtcaokpglbolkcaaGreatNf5
namespace Go.Proofs.YtcaokpglbolkcaaGreat
open Go Go.Nf Go.RowKit
/-! ### the shelf's words in the engine's -/
theorem row_put {w:World} {g:Nat} {T:TypeId} {l:List Value} {d:List Int} (h:Row w g T l) (hd:d.length<=l.length):
  Row (Go.Sort.putRow (Value.int .i64) w g 0 d.toArray) g T (intsV d++l.drop d.length):=by
 unfold Row at*
 unfold Go.Sort.putRow Go.Sort.mapBlock
 simp only [Array.getElem?_modify,if_true,h,Option.map_some,Go.Sort.onCells,Option.some.injEq,Obj.cells.injEq,and_true]
 apply Array.ext_getElem?
 intro k
 simp only [Go.Sort.putCells,Array.getElem?_mapIdx,List.getElem?_toArray,Nat.zero_le,true_and,Nat.zero_add,Nat.sub_zero,List.size_toArray]
 rcases Nat.lt_or_ge k d.length with hk | hk
 ·have hl:k<l.length:=by omega
  rw [List.getElem?_eq_getElem hl,Option.map_some,if_pos hk,List.getElem?_append_left (by simp [intsV];omega)]
  simp [intsV,hk]
 ·rw [List.getElem?_append_right (by simp [intsV];omega)]
  simp only [intsV,List.length_map,List.getElem?_drop]
  rw [show d.length+(k - d.length)=k by omega]
  cases l[k]? with
  | none=>rfl
  | some v=>rw [Option.map_some,if_neg (by omega)]
theorem only_put {w:World} {g:Nat} {d:Array Int}:Only (fun k=>k=g) w (Go.Sort.putRow (Value.int .i64) w g 0 d):=by
 refine ⟨rfl,rfl,rfl,by simp [hs],fun k hk hn=>?_⟩
 unfold Go.Sort.putRow Go.Sort.mapBlock
 simp only [Array.getElem?_modify]
 rw [if_neg fun e=>hn e.symm]
theorem only_ahead {S:Nat->Prop} (w:World) (n:Nat):Only S w (Go.Sort.ahead w n):=⟨rfl,rfl,rfl,Nat.le_refl _,fun _ _ _=>rfl⟩
theorem only_growS {S:Nat->Prop} (w:World) (os:Array Obj):Only S w (Go.Sort.grow w os):=by
 refine ⟨rfl,rfl,rfl,by simp [hs,Go.Sort.grow],fun k hk _=>?_⟩
 have hk:k<w.heap.size:=hk
 simp [Go.Sort.grow,Array.getElem?_append,hk]
theorem Own.split {w:World} {B T:Nat} {o:Option Addr} {n c:Nat} {xs:List Value} (h:Own w B T 1 o n c xs) (hn:0<n):
  ∃ g l,o=some ⟨g,0,none⟩/\B<=g/\Row w g T l/\n<=c/\c<=maxLen/\l.length=c/\l.take n=xs:=by
 obtain ⟨h1,⟨_,h2⟩ | ⟨g,cap,cur,hv,hb,hg,hnc,hm,hcs,ht⟩⟩:=h
 ·omega
 ·simp only [Value.slice.injEq] at hv
  obtain ⟨ho,-,rfl⟩:=hv
  refine ⟨g,cur.toList,ho,hb,?_,hnc,hm,by simpa using hcs,by simpa using ht⟩
  unfold Row;rw [Array.toArray_toList];exact hg
theorem Own.holds {w:World} {g n:Nat} {T:TypeId} {l:List Value} {xs:List Int} (hr:Row w g T l) (ht:l.take n=intsV xs):Go.Sort.Holds (Value.int .i64) w g 0 xs.toArray:=fun j hj=>by
 have hj:j<xs.length:=by simpa using hj
 have e:l[j]?=some (Value.int .i64 (xs.toArray[j]!)):=get_of_take ht (by simp [intsV,hj])
 refine ⟨by rw [Nat.zero_add];exact hr.cell e,?_⟩
 unfold Row at hr
 simp [World.frozen?,hr]
theorem sort_c {w:World} {B:Nat} {o:Option Addr} {n c:Nat} {xs:List Int} (h:Own w B 3 1 o n c (intsV xs)) (hn:n<=1000):
  Calls Tryz.prog 87 #[.slice o n c] w fun e w'=>e=.returned (.tuple #[])/\Only (inBlock o) w w'/\Own w' B 3 1 o n c (intsV (xs.mergeSort fun x y=>decide (x<=y))):=by
 have hl:xs.length=n:=by have:=h.length;simpa [intsV] using this
 rcases Nat.eq_zero_or_pos n with h0 | h0
 ·subst h0
  refine (Tryz.slices_Sort_int_none o c w).mono ?_
  rintro _ _ ⟨rfl,rfl⟩
  have:xs=[]:=List.length_eq_zero_iff.1 hl
  subst this
  exact ⟨rfl,Only.refl _ _,by simpa using h⟩
 ·obtain ⟨g,l,rfl,hB,hr,hnc,hm,hlc,ht⟩:=Own.split h h0
  have:=Tryz.slices_Sort_int g 0 c xs w (Own.holds hr ht) hr.lt (by omega)
  rw [hl] at this
  refine this.mono ?_
  rintro _ _ ⟨rfl,q,os,rfl⟩
  have hlen:(xs.mergeSort fun x y=>decide (x<=y)).length=n:=by rw [List.length_mergeSort];exact hl
  have hr1:=hr.keep (only_ahead (S:=none') w q) fun h=>h
  have r2:=row_put hr1 (d:=xs.mergeSort fun x y=>decide (x<=y)) (by omega)
  have r3:=r2.keep (only_growS (S:=none') _ os) fun h=>h
  have g3:Only (fun k=>k=g) w (Go.Sort.grow (Go.Sort.putRow (Value.int .i64) (Go.Sort.ahead w q) g 0 (xs.mergeSort fun x y=>decide (x<=y)).toArray) os):=((only_ahead w q).trans' only_put).trans' (only_growS _ _)
  refine ⟨rfl,g3.mono fun k _ hk=>⟨_,rfl,hk.symm⟩,⟨by simp [intsV,hl],.inr ⟨g,c,_,rfl,hB,r3,hnc,hm,?_,?_⟩⟩⟩
  ·simp [intsV,hl];omega
  ·simp only [Nat.mul_one]
   rw [List.take_left']
   simp [intsV,hl]
theorem compact_len (xs:List Int):(Lib.compact xs).length<=xs.length:=by
 unfold Lib.compact Lib.compactUpTo
 rw [List.length_map]
 exact Nat.le_trans (List.length_filter_le _ _) (by simp)
theorem mem_compactUpTo (d:Array Int) (x:Int):∀ m,x∈Lib.compactUpTo d m↔∃ j,j<m/\d[j]! = x:=by
 intro m
 induction m with
 | zero=>simp [Lib.compactUpTo]
 | succ m ih=>
  rw [Lib.compactUpTo_succ,List.mem_append,ih]
  constructor
  ·rintro (⟨j,hj,e⟩ | h)
   ·exact ⟨j,by omega,e⟩
   ·split at h
    ·simp only [List.mem_singleton] at h;exact ⟨m,by omega,h.symm⟩
    ·simp at h
  ·rintro ⟨j,hj,e⟩
   rcases Nat.lt_or_ge j m with h | h
   ·exact .inl ⟨j,h,e⟩
   ·obtain rfl:j=m:=by omega
    by_cases hk:Lib.keeps d j=true
    ·right;rw [if_pos hk,e];simp
    ·left
     have hk1:¬(j=0\/d[j]! ≠ d[j - 1]!):=fun h=>hk (by unfold Lib.keeps;exact decide_eq_true h)
     have h0:j≠0:=fun h=>hk1 (.inl h)
     exact ⟨j - 1,by omega,(Decidable.byContradiction fun h=>hk1 (.inr fun e'=>h (e'.symm.trans e)))⟩
theorem mem_compact (xs:List Int) (x:Int):x∈Lib.compact xs↔x∈xs:=by
 unfold Lib.compact
 rw [mem_compactUpTo]
 constructor
 ·rintro ⟨j,hj,e⟩
  simp [hj] at e
  rw [<- e];exact List.getElem_mem hj
 ·intro h
  obtain ⟨j,hj,e⟩:=List.getElem_of_mem h
  exact ⟨j,hj,by simp [hj,e]⟩
theorem compact_c {w:World} {B:Nat} {o:Option Addr} {n c:Nat} {xs:List Int} (h:Own w B 3 1 o n c (intsV xs)) (hn:n<=1000):
  Calls Tryz.prog 88 #[.slice o n c] w fun e w'=>e=.returned (.slice o (Lib.compact xs).length c)/\Only (inBlock o) w w'/\Own w' B 3 1 o (Lib.compact xs).length c (intsV (Lib.compact xs)):=by
 have hl:xs.length=n:=by have:=h.length;simpa [intsV] using this
 rcases Nat.eq_zero_or_pos n with h0 | h0
 ·subst h0
  refine (Tryz.slices_Compact_int_empty o c w).mono ?_
  rintro _ _ ⟨rfl,rfl⟩
  have:xs=[]:=List.length_eq_zero_iff.1 hl
  subst this
  exact ⟨rfl,Only.refl _ _,h⟩
 ·obtain ⟨g,l,rfl,hB,hr,hnc,hm,hlc,ht⟩:=Own.split h h0
  have:=Tryz.slices_Compact_int g 0 c xs w (Own.holds hr ht) (by omega) (by omega)
  rw [hl] at this
  refine this.mono ?_
  rintro _ _ ⟨rfl,q,rfl⟩
  have hc:=compact_len xs
  have hr1:=hr.keep (only_ahead (S:=none') w q) fun h=>h
  have r2:=row_put hr1 (d:=Lib.compact xs++List.replicate (n - (Lib.compact xs).length) 0) (by simp;omega)
  have g3:Only (fun k=>k=g) w (Go.Sort.putRow (Value.int .i64) (Go.Sort.ahead w q) g 0 (Lib.compact xs++List.replicate (n - (Lib.compact xs).length) 0).toArray):=(only_ahead w q).trans' only_put
  refine ⟨rfl,g3.mono fun k _ hk=>⟨_,rfl,hk.symm⟩,⟨by simp [intsV],.inr ⟨g,c,_,rfl,hB,r2,by omega,hm,?_,?_⟩⟩⟩
  ·simp [intsV];omega
  ·simp only [Nat.mul_one,intsV,List.map_append,List.append_assoc]
   rw [List.take_left' (by simp)]
/-! ### numbers that are not negative -/
theorem in1_ints (l:List Nat):l.flatMap in1=intsV (l.map fun n:Nat=>(n:Int)):=by
 unfold intsV
 rw [List.map_map,List.flatMap_def]
 induction l with
 | nil=>rfl
 | cons a l ih=>simp only [List.map_cons,List.flatten_cons,ih];rfl
theorem sorted_cast (l:List Nat):((l.map fun n:Nat=>(n:Int)).mergeSort fun x y=>decide (x<=y))=(l.mergeSort fun x y=>decide (x<=y)).map fun n:Nat=>(n:Int):=by
 refine List.Perm.eq_of_pairwise (le:=fun a b=>decide (a<=b)=true) (fun a b _ _ h1 h2=>by simp at h1 h2;omega) ?_ ?_ ?_
 ·exact List.pairwise_mergeSort (fun a b c h1 h2=>by simp at *;omega) (fun a b=>by simp;omega) _
 ·rw [List.pairwise_map]
  refine (List.pairwise_mergeSort (le:=fun x y:Nat=>decide (x<=y)) (fun a b c h1 h2=>by simp at *;omega) (fun a b=>by simp;omega) l).imp fun h=>?_
  simp at h ⊢;exact h
 ·exact (List.mergeSort_perm _ _).trans ((List.mergeSort_perm l _).symm.map _)
theorem compact_sorted {xs:List Int} (h:xs.Pairwise fun a b=>a<=b):(Lib.compact xs).Pairwise fun a b=>a<b:=by
 unfold Lib.compact Lib.compactUpTo
 rw [List.pairwise_map]
 have hr:(List.range xs.length).Pairwise (·<·):=List.pairwise_lt_range
 have hf:((List.range xs.length).filter (Lib.keeps xs.toArray)).Pairwise (·<·):=hr.sublist List.filter_sublist
 refine List.Pairwise.imp_of_mem (R:=(·<·)) ?_ hf
 intro i j hi hj hij
 have hjl:j<xs.length:=List.mem_range.1 (List.mem_filter.1 hj).1
 have hk:=(List.mem_filter.1 hj).2
 have hil:i<xs.length:=by omega
 unfold Lib.keeps at hk
 have hk:=of_decide_eq_true hk
 have h1:xs.toArray[j]! = xs[j]:=by simp [hjl]
 have h2:xs.toArray[i]! = xs[i]:=by simp [hil]
 have hj1:j - 1<xs.length:=by omega
 have h3:xs.toArray[j - 1]! = xs[j - 1]:=by simp [hj1]
 rw [h1,h3] at hk
 rw [h1,h2]
 have h4:xs[j - 1]<=xs[j]:=List.pairwise_iff_getElem.1 h _ _ _ _ (by omega)
 have h5:xs[i]<=xs[j - 1]:=by
  rcases Nat.lt_or_ge i (j - 1) with hlt | hge
  ·exact List.pairwise_iff_getElem.1 h _ _ _ _ hlt
  ·have:i=j - 1:=by omega
   subst this;exact Int.le_refl _
 rcases hk with hk | hk
 ·omega
 ·omega
theorem strict_eq {a b:List Int} (ha:a.Pairwise fun x y=>x<y) (hb:b.Pairwise fun x y=>x<y) (h:∀ x,x∈a↔x∈b):a=b:=by
 have na:a.Nodup:=ha.imp fun h=>Int.ne_of_lt h
 have nb:b.Nodup:=hb.imp fun h=>Int.ne_of_lt h
 refine List.Perm.eq_of_pairwise (le:=fun x y=>x<=y) (fun x y _ _ h1 h2=>Int.le_antisymm h1 h2) (ha.imp fun h=>Int.le_of_lt h) (hb.imp fun h=>Int.le_of_lt h) ?_
 exact (List.perm_ext_iff_of_nodup na nb).2 h
theorem members_lt {c:Memb} {x:Nat} (h:x∈members c):x<9:=by
 unfold members at h
 exact List.mem_range.1 (List.mem_filter.1 h).1
theorem mem_members {c:Memb} (h:Permit c) {x:Nat}:x∈members c↔x∈c.old\/x∈c.new:=by
 unfold members
 rw [List.mem_filter,List.mem_range]
 simp only [decide_eq_true_eq]
 refine ⟨fun h=>h.2,fun k=>⟨?_,k⟩⟩
 rcases k with k | k
 ·exact h.old.2.2 x k
 ·rcases h.new with e | e
  ·rw [e] at k;cases k
  ·exact e.2.2 x k
theorem members_compact {c:Memb} (h:Permit c):Lib.compact (((c.old++c.new).map fun n:Nat=>(n:Int)).mergeSort fun x y=>decide (x<=y))=(members c).map fun n:Nat=>(n:Int):=by
 refine strict_eq (compact_sorted ?_) ?_ fun x=>?_
 ·refine (List.pairwise_mergeSort (le:=fun x y:Int=>decide (x<=y)) (fun a b c h1 h2=>by simp at *;omega) (fun a b=>by simp;omega) _).imp fun h=>?_
  simpa using h
 ·rw [List.pairwise_map]
  have hr:(List.range 9).Pairwise (·<·):=List.pairwise_lt_range
  have hf:(members c).Pairwise (·<·):=hr.sublist List.filter_sublist
  exact hf.imp fun h=>by omega
 ·rw [mem_compact,List.mem_mergeSort,List.mem_map,List.mem_map]
  constructor
  ·rintro ⟨n,hn,rfl⟩
   exact ⟨n,(mem_members h).2 (List.mem_append.1 hn),rfl⟩
  ·rintro ⟨n,hn,rfl⟩
   exact ⟨n,List.mem_append.2 ((mem_members h).1 hn),rfl⟩
section
variable {w:World}
theorem index_c {A:Nat->Prop} {o:Option Addr} {c:Nat} (l:List Nat) (v:Nat) (hl:l.length<=1000000) (w:World) (h:Ints w A o l):
  Calls Tryz.prog 79 #[.slice o l.length c,.int .i64 (v:Int)] w fun e w'=>∃ x:Int,e=.returned (.int .i64 x)/\(0<=x↔v∈l)/\w'=w:=by
 refine nf79 o l.length c v w _ ⟨fun k x w'=>∃ i:Nat,x=(i:Int)/\i<=l.length/\k=l.length - i/\v∉l.take i/\w'=w,⟨_,0,rfl,by omega,rfl,by simp,rfl⟩,?_⟩
 rintro k _ w5 x ⟨i,rfl,hi,rfl,hv,rfl⟩
 refine ⟨fun hlt=>?_,fun hge=>?_⟩
 ·have hlt:i<l.length:=by have:=dT hlt;omega
  obtain ⟨a,ha,-,hc⟩:=h.at (List.getElem?_eq_getElem hlt)
  refine ⟨a,ha,⟨by omega,by omega⟩,_,hc,fun he=>?_,fun hne=>?_⟩
  ·have he:=dT he
   exact ⟨_,rfl,⟨fun _=>by rw [show v=l[i] from by omega];exact List.getElem_mem hlt,fun _=>by omega⟩,rfl⟩
  ·have hne:=dF hne
   refine ⟨_,by omega,i+1,by rw [wr (by omega)];omega,hlt,rfl,?_,rfl⟩
   rw [List.take_succ_eq_append_getElem hlt,List.mem_append,List.mem_singleton]
   rintro (k | k)
   ·exact hv k
   ·exact hne (by rw [k])
 ·have:i=l.length:=by have:=dF hge;omega
  subst this
  rw [List.take_length] at hv
  exact ⟨_,rfl,⟨fun k=>absurd k (by omega),fun k=>absurd k hv⟩,rfl⟩
theorem contains_c {A:Nat->Prop} {o:Option Addr} {c:Nat} (l:List Nat) (v:Nat) (hl:l.length<=1000000) (w:World) (h:Ints w A o l):
  Calls Tryz.prog 43 #[.slice o l.length c,.int .i64 (v:Int)] w fun e w'=>e=.returned (.bool (decide (v∈l)))/\w'=w:=by
 refine nf43 o l.length c v w _ ((index_c l v hl w h).mono ?_)
 rintro _ w2 ⟨x,rfl,hx,e2⟩
 refine ⟨_,rfl,fun hp=>⟨?_,e2⟩,fun hp=>⟨?_,e2⟩⟩
 ·rw [decide_eq_true (hx.1 (by have:=dT hp;omega))]
 ·rw [decide_eq_false fun k=>by have:=hx.2 k;have:=dF hp;omega]
theorem append_ints {w:World} {B t ty T bytes n c c2:Nat} {o o2:Option Addr} {xs ys:List Nat} {A:Nat->Prop} {K:Value->World->Prop} (he:Elem Tryz.prog t T 1 bytes) (hown:Own w B T 1 o n c (xs.flatMap in1)) (hn:Ints w A o2 ys)
  (h63:n+ys.length<=maxLen) (hb:(n+ys.length)*bytes<=140737488355328) (hbase:B<=hs w)
  (h:∀ o' c' w',Own w' B T 1 o' (n+ys.length) c' ((xs++ys).flatMap in1)->Only (inBlock o) w w'->K (.slice o' (n+ys.length) c') w'):
  RunOk Tryz.prog (Hold (Builtin.append_ #[t,t] ty #[.slice o n c,.slice o2 ys.length c2])) w K:=append_recs in1_len he (by decide) hown hn (in1_one ys) h63 hb hbase h
theorem own_ints {w:World} {B T:Nat} {o:Option Addr} {n c:Nat} {xs:List Nat} (h:Own w B T 1 o n c (xs.flatMap in1)):Ints w (inBlock o) o xs:=own_recs' in1_len (by decide) h
theorem ints_none {w:World} {A:Nat->Prop} {l:List Nat} (h:Ints w A none l):l=[]:=by
 cases l with
 | nil=>rfl
 | cons x l=>obtain ⟨a,ha,-⟩:=h 0 (in1 x) rfl;cases ha
theorem sclone_c {A:Nat->Prop} {o:Option Addr} {c:Nat} (l:List Nat) (hl:l.length<=1000000) (w:World) (h:Ints w A o l) (hA:∀ b,A b->b<hs w):
  Calls Tryz.prog 25 #[.slice o l.length c] w fun e w'=>∃ o' c',e=.returned (.slice o' l.length c')/\Ints w' (fun b=>hs w<=b/\b<hs w') o' l/\Grow w w':=by
 refine nf25 o l.length c w _ ⟨fun hn=>?_,fun hn=>?_⟩
 ·cases o with
  | none=>
   have:l=[]:=ints_none h
   subst this
   exact ⟨none,0,rfl,Recs.nil _ _ _ _,Only.refl _ _⟩
  | some a=>cases hn
 ·intro w3 e3
  have g3:Grow w w3:=only_alloc e3
  have z3:=hs_alloc e3
  have own0:Own w3 (hs w) 3 1 (some ⟨hs w,0,none⟩) 0 0 (([]:List Nat).flatMap in1):=(Row.new (l:=[]) e3).own (Nat.le_refl _) rfl (by simp [maxLen])
  refine append_ints (c2:=c) elem24 own0 (h.grow g3) (by simp only [maxLen];omega) (by omega) (by omega) fun o' c' w6 p1 p2=>⟨_,_,_,rfl,?_⟩
  rw [Nat.zero_add,List.nil_append] at p1
  rw [Nat.zero_add]
  refine ⟨o',c',rfl,(own_ints p1).mono fun b hb=>p1.base b hb,g3.trans p2 fun b hb ⟨a,ha,hab⟩=>?_⟩
  cases ha
  have hab:hs w=b:=hab
  omega
/-! ### sorting few numbers -/
theorem isNaN_c (x:Int) (w:World):Calls Tryz.prog 159 #[.int .i64 x] w fun e w'=>e=.returned (.bool false)/\w'=w:=nf159 x w _ (nno rfl ⟨rfl,rfl⟩)
theorem less_c (x y:Int) (w:World):Calls Tryz.prog 153 #[.int .i64 x,.int .i64 y] w fun e w'=>e=.returned (.bool (decide (x<y)))/\w'=w:=by
 refine nf153 x y w _ ((isNaN_c x w).mono ?_)
 rintro _ w2 ⟨rfl,e2⟩
 refine ⟨_,rfl,bF ?_⟩
 by_cases h:x<y
 ·exact yes h ⟨by rw [decide_eq_true h],e2⟩
 ·exact no h ⟨by rw [decide_eq_false h],e2⟩
theorem getD_at {l:List Nat} {i:Nat} (h:i<l.length):l[i]?=some (l.getD i 0):=by rw [List.getD_eq_getElem?_getD,List.getElem?_eq_getElem h];rfl
theorem own_put1 {w w':World} {B T n c g:Nat} {xs:List Nat} (h:Own w B T 1 (some ⟨g,0,none⟩) n c (xs.flatMap in1)) {j x:Nat} (hj:j<xs.length) (hn:n=xs.length) (e:w'=setCells w ((⟨g,0,none⟩:Addr).add ((j:Int).toNat*1)) [.int .i64 (x:Int)] 0):
  Own w' B T 1 (some ⟨g,0,none⟩) n c ((xs.set j x).flatMap in1):=by
 have:=h.set e (by rw [toNat_cast];simp;omega)
 have hset:=flat_set in1_len xs j 0 (in1 x) x hj (by simp [in1]) rfl
 rw [Nat.add_zero] at hset
 rw [toNat_cast] at this
 have hset':setFrom (xs.flatMap in1) (j*1) [.int .i64 (x:Int)]=(xs.set j x).flatMap in1:=hset
 rw [hset'] at this
 exact this
theorem swap_perm {xs:List Nat} {i j:Nat} (hi:i<xs.length) (hj:j<xs.length) (hij:i≠j):((xs.set i (xs.getD j 0)).set j (xs.getD i 0)).Perm xs:=by
 have e1:xs.getD j 0=xs[j]:=by rw [List.getD_eq_getElem?_getD,List.getElem?_eq_getElem hj];rfl
 have e2:xs.getD i 0=xs[i]:=by rw [List.getD_eq_getElem?_getD,List.getElem?_eq_getElem hi];rfl
 rw [e1,e2,List.perm_iff_count]
 intro a
 rw [List.count_set (by simpa using hj),List.count_set hi,List.getElem_set_ne hij]
 by_cases h1:xs[i]=a <;> by_cases h2:xs[j]=a
 ·have:0<xs.count a:=List.count_pos_iff.2 (h1 ▸ List.getElem_mem hi)
  simp [h1,h2];omega
 ·have:0<xs.count a:=List.count_pos_iff.2 (h1 ▸ List.getElem_mem hi)
  simp [h1,h2];omega
 ·have:0<xs.count a:=List.count_pos_iff.2 (h2 ▸ List.getElem_mem hj)
  simp [h1,h2]
 ·simp [h1,h2]
theorem swap_getD {xs:List Nat} {i j k:Nat} (hi:i<xs.length) (hj:j<xs.length):((xs.set i (xs.getD j 0)).set j (xs.getD i 0)).getD k 0=if k=j then xs.getD i 0 else if k=i then xs.getD j 0 else xs.getD k 0:=by
 rw [set_getD,set_getD,List.length_set]
 by_cases h1:j=k
 ·subst h1;simp [hj]
 ·by_cases h2:i=k
  ·subst h2;simp [h1,hi,Ne.symm h1]
  ·simp [h1,h2,Ne.symm h1,Ne.symm h2]
set_option maxHeartbeats 1000000 in
theorem insertion_c {B n c g:Nat} {xs:List Nat} (h:Own w B 2 1 (some ⟨g,0,none⟩) n c (xs.flatMap in1)) (hn:n=xs.length) (hl:n<=1000):
  Calls Tryz.prog 147 #[.slice (some ⟨g,0,none⟩) n c,.int .i64 0,.int .i64 (n:Int)] w fun e w'=>e=.returned (.tuple #[])/\Only (fun b=>b=g) w w'/\Own w' B 2 1 (some ⟨g,0,none⟩) n c ((xs.mergeSort fun x y=>decide (x<=y)).flatMap in1):=by
 refine nf147 _ n c 0 n w _ ⟨fun k x w'=>∃ (i:Nat) (ys:List Nat),x=(i:Int)/\1<=i/\i<=n+1/\k=n+1 - i/\ys.Perm xs/\(∀ a b,a<b->b<i->b<n->ys.getD a 0<=ys.getD b 0)/\Own w' B 2 1 (some ⟨g,0,none⟩) n c (ys.flatMap in1)/\Only (fun b=>b=g) w w',⟨_,1,xs,by rw [wr (by omega)];rfl,by omega,by omega,rfl,List.Perm.refl _,fun a b h1 h2=>by omega,h,Only.refl _ _⟩,?_⟩
 rintro k _ w5 x ⟨i,ys,rfl,hi1,hi,rfl,hp,hs1,own5,o5⟩
 have hyl:ys.length=n:=by rw [hp.length_eq,hn]
 refine ⟨fun hlt=>?_,fun hge=>?_⟩
 ·have hlt:i<n:=by have:=dT hlt;omega
  refine ⟨fun k x w'=>∃ (j:Nat) (zs:List Nat),x=(j:Int)/\j<=i/\k=j/\zs.Perm xs/\(∀ a b,a<b->b<=i->b≠j->zs.getD a 0<=zs.getD b 0)/\Own w' B 2 1 (some ⟨g,0,none⟩) n c (zs.flatMap in1)/\Only (fun b=>b=g) w w',⟨_,i,ys,rfl,Nat.le_refl _,rfl,hp,fun a b h1 h2 h3=>hs1 a b h1 (by omega) (by omega),own5,o5⟩,?_⟩
  rintro k _ w13 x ⟨j,zs,rfl,hj,rfl,hq,hs2,own13,o13⟩ w16 e16
  have hzl:zs.length=n:=by rw [hq.length_eq,hn]
  have g16:Grow w13 w16:=only_drew e16
  have own16:=own13.grow g16
  have o16:=o13.trans' (Grow.only (S:=fun b=>b=g) g16)
  have next:∀ w',w'=w16->(∀ a b,a<b->b<=i->zs.getD a 0<=zs.getD b 0)->∃ n43,n43<n+1 - i/\∃ (i':Nat) (ys:List Nat),IntKind.wrap .i64 ((i:Int)+1)=(i':Int)/\1<=i'/\i'<=n+1/\n43=n+1 - i'/\ys.Perm xs/\(∀ a b,a<b->b<i'->b<n->ys.getD a 0<=ys.getD b 0)/\Own w' B 2 1 (some ⟨g,0,none⟩) n c (ys.flatMap in1)/\Only (fun b=>b=g) w w':=by
   rintro _ rfl hsort
   exact ⟨_,by omega,i+1,zs,by rw [wr (by omega)];omega,by omega,by omega,rfl,hq,fun a b h1 h2 _=>hsort a b h1 (by omega),own16,o16⟩
  refine ⟨fun hpos=>?_,fun hz=>?_⟩
  ·have hpos:0<k:=by have:=dT hpos;omega
   have e1:IntKind.wrap .i64 ((k:Int) - 1)=((k - 1:Nat):Int):=by rw [wr (by omega)];omega
   have hk:k<zs.length:=by omega
   have hk1:k - 1<zs.length:=by omega
   obtain ⟨a,ha,-,hc⟩:=Ints.at (own_ints own16) (getD_at hk)
   obtain ⟨a',ha',-,hc'⟩:=Ints.at (own_ints own16) (getD_at hk1)
   cases ha
   cases ha'
   rw [e1]
   refine ⟨_,rfl,⟨by omega,by omega⟩,_,hc,_,rfl,⟨by omega,by omega⟩,_,hc',(less_c _ _ _).mono ?_⟩
   rintro _ w24 ⟨rfl,e24⟩
   have e24:=e24.symm
   subst e24
   refine ⟨_,rfl,fun hless=>?_,fun hnot=>?_⟩
   ·have hless:=dT hless
    intro w27 e27
    have g27:Grow w16 w27:=only_drew e27
    have own27:=own16.grow g27
    obtain ⟨b1,hb1,-,d1⟩:=Ints.at (own_ints own27) (getD_at hk)
    obtain ⟨b2,hb2,-,d2⟩:=Ints.at (own_ints own27) (getD_at hk1)
    cases hb1
    cases hb2
    refine ⟨_,rfl,⟨by omega,by omega⟩,_,d2,_,rfl,⟨by omega,by omega⟩,_,d1,_,rfl,⟨by omega,by omega⟩,own27.there (by rw [toNat_cast];omega),fun w34 e34=>?_⟩
    have own34:=own_put1 own27 hk hzl.symm e34
    refine ⟨_,rfl,⟨by omega,by omega⟩,own34.there (by rw [toNat_cast];omega),fun w37 e37=>?_⟩
    have own37:=own_put1 own34 (j:=k - 1) (by rw [List.length_set];exact hk1) (by rw [List.length_set];exact hzl.symm) e37
    refine ⟨_,by omega,k - 1,_,rfl,by omega,rfl,(swap_perm hk hk1 (by omega)).trans hq,fun a b h1 h2 h3=>?_,own37,((o16.trans' (Grow.only (S:=fun b=>b=g) g27)).trans' (only_setAdd e34)).trans' (only_setAdd e37)⟩
    rw [swap_getD hk hk1,swap_getD hk hk1]
    by_cases ea:a=k - 1
    ·subst ea
     rw [if_pos rfl,if_neg h3]
     split
     ·omega
     ·exact hs2 k b (by omega) h2 (by omega)
    ·rw [if_neg ea]
     rw [if_neg h3]
     by_cases ea2:a=k
     ·subst ea2
      rw [if_pos rfl,if_neg (by omega)]
      exact hs2 (a - 1) b (by omega) h2 (by omega)
     ·rw [if_neg ea2]
      split
      ·rename_i eb
       subst eb
       exact hs2 a (b - 1) (by omega) (by omega) (by omega)
      ·exact hs2 a b h1 h2 (by assumption)
   ·have hnot:=dF hnot
    refine next _ rfl fun a b h1 h2=>?_
    by_cases eb:b=k
    ·subst eb
     by_cases ea:a=b - 1
     ·subst ea;omega
     ·have:=hs2 a (b - 1) (by omega) (by omega) (by omega)
      omega
    ·exact hs2 a b h1 h2 eb
  ·have hz:k=0:=by have:=dF hz;omega
   refine next _ rfl fun a b h1 h2=>hs2 a b h1 h2 (by omega)
 ·have hge:=dF hge
  refine ⟨rfl,o5,?_⟩
  have e:ys=xs.mergeSort fun x y=>decide (x<=y):=by
   refine List.Perm.eq_of_pairwise (le:=fun a b=>decide (a<=b)=true) (fun a b _ _ h1 h2=>by simp at h1 h2;omega) ?_ (List.pairwise_mergeSort (fun a b c h1 h2=>by simp at *;omega) (fun a b=>by simp;omega) _) (hp.trans (List.mergeSort_perm _ _).symm)
   rw [List.pairwise_iff_getElem]
   intro a b ha hb hab
   have:=hs1 a b hab (by omega) (by omega)
   rw [List.getD_eq_getElem?_getD,List.getElem?_eq_getElem ha,List.getD_eq_getElem?_getD,List.getElem?_eq_getElem hb] at this
   exact decide_eq_true this
  rw [<- e];exact own5
theorem sort64_c {B n c g:Nat} {xs:List Nat} (h:Own w B 2 1 (some ⟨g,0,none⟩) n c (xs.flatMap in1)) (hn:n=xs.length) (hl:n<=12):
  Calls Tryz.prog 138 #[.slice (some ⟨g,0,none⟩) n c] w fun e w'=>e=.returned (.tuple #[])/\Only (fun b=>b=g) w w'/\Own w' B 2 1 (some ⟨g,0,none⟩) n c ((xs.mergeSort fun x y=>decide (x<=y)).flatMap in1):=by
 have e0:IntKind.wrap .u64 (n:Int)=(n:Int):=by rw [IntKind.wrap_u64];omega
 refine nf138 _ n c w _ ?_
 rw [e0]
 refine (Tryz.bits_Len (n:Int) w (by omega) (by omega)).mono ?_
 rintro _ w2 ⟨rfl,e2⟩
 have e2:=e2.symm
 subst e2
 refine ⟨_,rfl,nf145 _ n c 0 n _ w _ ⟨fun k x6 x7 x8 b9 b10 w'=>x6=0/\x7=(n:Int)/\w'=w,⟨0,rfl,rfl,rfl⟩,?_⟩⟩
 rintro k _ w5 x6 x7 x8 b9 b10 ⟨rfl,rfl,rfl⟩
 refine yes (by rw [wr (by omega)];omega) ((insertion_c h hn (by omega)).mono ?_)
 rintro _ w14 ⟨rfl,o14,own14⟩
 exact ⟨rfl,rfl,rfl,o14,own14⟩
/-! ### filtering -/
theorem take_snocN {l:List Nat} {n:Nat} {x:Nat} (h:l[n]?=some x):l.take (n+1)=l.take n++[x]:=by
 obtain ⟨h1,h2⟩:=List.getElem?_eq_some_iff.1 h
 rw [List.take_succ_eq_append_getElem h1,h2]
theorem zeroI3:((Tryz.prog.info? 3).bind fun i=>i.zero)=some (.int .i64 0):=by kernel_rfl
theorem und24:Tryz.prog.underlying 24=some (.slice 3):=of_slice (by kernel_rfl)
set_option maxHeartbeats 1000000 in
theorem deleteFunc_c {B n c g:Nat} {xs:List Nat} {f:Nat->Bool} {ff:Fn} {fa fc:Array Value} (h:Own w B 3 1 (some ⟨g,0,none⟩) n c (xs.flatMap in1)) (hn:n=xs.length) (hl:n<=1000)
  (hf:∀ w' x,Only (fun b=>b=g) w w'->CallsV Tryz.prog (.func ff fa fc) [.int .i64 ((x:Nat):Int)] w' fun e w''=>e=.returned (.bool (f x))/\w''=w'):
  Calls Tryz.prog 80 #[.slice (some ⟨g,0,none⟩) n c,.func ff fa fc] w fun e w'=>e=.returned (.slice (some ⟨g,0,none⟩) (xs.filter fun x=>!f x).length c)/\Own w' B 3 1 (some ⟨g,0,none⟩) (xs.filter fun x=>!f x).length c ((xs.filter fun x=>!f x).flatMap in1)/\Only (fun b=>b=g) w w':=by
 refine nf80 _ n c ff fa fc w _ ?_
 have hidx:Calls Tryz.prog 112 #[.slice (some ⟨g,0,none⟩) n c,.func ff fa fc] w fun e w'=>w'=w/\((e=.returned (.int .i64 (-1))/\∀ x∈xs,f x=false)\/∃ i:Nat,i<n/\e=.returned (.int .i64 (i:Int))/\f (xs.getD i 0)=true/\∀ x∈xs.take i,f x=false):=by
  refine nf112 _ n c ff fa fc w _ ⟨fun k x w'=>∃ i:Nat,x=(i:Int)/\i<=n/\k=n - i/\w'=w/\∀ x∈xs.take i,f x=false,⟨_,0,rfl,by omega,rfl,rfl,by simp⟩,?_⟩
  rintro k _ w5 x ⟨i,rfl,hi,rfl,rfl,hx⟩
  refine ⟨fun hlt=>?_,fun hge=>?_⟩
  ·have hlt:i<n:=by have:=dT hlt;omega
   obtain ⟨a,ha,-,hc⟩:=Ints.at (own_ints h) (getD_at (show i<xs.length by omega))
   refine ⟨a,ha,⟨by omega,by omega⟩,_,hc,(hf _ _ (Only.refl _ _)).mono ?_⟩
   rintro _ w12 ⟨rfl,e12⟩
   refine ⟨_,rfl,fun hb=>⟨e12,.inr ⟨i,hlt,rfl,hb,hx⟩⟩,fun hb=>⟨_,by omega,i+1,by rw [wr (by omega)];omega,hlt,rfl,e12,fun x hx'=>?_⟩⟩
   rw [List.take_succ_eq_append_getElem (by omega)] at hx'
   rcases List.mem_append.1 hx' with k | k
   ·exact hx x k
   ·rw [List.mem_singleton.1 k]
    rw [List.getD_eq_getElem?_getD,List.getElem?_eq_getElem (by omega)] at hb
    exact hb
  ·have:i=n:=by have:=dF hge;omega
   subst this
   rw [hn,List.take_length] at hx
   exact ⟨rfl,.inl ⟨rfl,hx⟩⟩
 refine hidx.mono ?_
 rintro _ w2 ⟨e2,hcase⟩
 have e2:=e2.symm
 subst e2
 rcases hcase with ⟨rfl,hall⟩ | ⟨i,hi,rfl,hfi,hpre⟩
 ·refine ⟨_,rfl,yes rfl ?_⟩
  have e:(xs.filter fun x=>!f x)=xs:=List.filter_eq_self.2 fun x hx=>by rw [hall x hx];rfl
  rw [e,<- hn]
  exact ⟨rfl,h,Only.refl _ _⟩
 ·refine ⟨_,rfl,no (by omega) ?_⟩
  have hfil:(xs.take (i+1)).filter (fun x=>!f x)=xs.take i:=by
   have e1:xs.getD i 0=xs[i]'(by omega):=by rw [List.getD_eq_getElem?_getD,List.getElem?_eq_getElem (by omega)];rfl
   rw [e1] at hfi
   rw [List.take_succ_eq_append_getElem (by omega),List.filter_append,List.filter_eq_self.2 (fun x hx=>by rw [hpre x hx];rfl)]
   simp [hfi]
  refine ⟨fun k x y w'=>∃ (i' j:Nat) (ys:List Nat),x=(i':Int)/\y=(j:Int)/\j<=n/\i'<j/\k=n - j/\ys.length=n/\ys.take i'=(xs.take j).filter (fun x=>!f x)/\(∀ m,j<=m->ys[m]?=xs[m]?)/\Own w' B 3 1 (some ⟨g,0,none⟩) n c (ys.flatMap in1)/\Only (fun b=>b=g) w w',⟨_,i,i+1,xs,rfl,by rw [wr (by omega)];omega,by omega,by omega,rfl,hn.symm,hfil.symm,fun _ _=>rfl,h,Only.refl _ _⟩,?_⟩
  rintro k _ w10 x y ⟨i',j,ys,rfl,rfl,hj,hij,rfl,hyl,hyt,hyd,own10,o10⟩
  refine ⟨fun hlt k15 hk15=>?_,fun hge=>?_⟩
  ·have hlt:j<n:=by have:=dT hlt;omega
   have hatj:ys[j]?=some (xs.getD j 0):=by rw [hyd j (Nat.le_refl _)];exact getD_at (by omega)
   obtain ⟨a,ha,-,hc⟩:=Ints.at (own_ints own10) hatj
   have htk:xs.take (j+1)=xs.take j++[xs.getD j 0]:=take_snocN (getD_at (by omega))
   refine ⟨a,ha,⟨by omega,by omega⟩,_,hc,(hf _ _ o10).mono ?_⟩
   rintro _ w25 ⟨rfl,e25⟩
   have e25:=e25.symm
   subst e25
   refine ⟨_,rfl,fun hb=>?_,fun hb=>?_⟩
   ·refine hk15 w10 _ fun _=>⟨_,by omega,i',j+1,ys,rfl,by rw [wr (by omega)];omega,by omega,by omega,rfl,hyl,?_,fun m hm=>hyd m (by omega),own10,o10⟩
    rw [htk,List.filter_append,hyt,List.filter_cons_of_neg (by rw [hb];decide)];simp
   ·refine ⟨_,rfl,⟨by omega,by omega⟩,own10.there (by rw [toNat_cast];omega),fun w30 e30=>?_⟩
    have own30:=own_put1 own10 (by omega) hyl.symm e30
    refine hk15 w30 _ fun _=>⟨_,by omega,i'+1,j+1,_,by rw [wr (by omega)];omega,by rw [wr (by omega)];omega,by omega,by omega,rfl,by rw [List.length_set];exact hyl,?_,fun m hm=>?_,own30,o10.trans' (only_setAdd e30)⟩
    ·rw [take_snocN (x:=xs.getD j 0) (by rw [List.getElem?_set_self (by omega)]),List.take_set_of_le (Nat.le_refl _),htk,List.filter_append,hyt,List.filter_cons_of_pos (by rw [hb];rfl)];rfl
    ·rw [List.getElem?_set_ne (by omega)];exact hyd m (by omega)
  ·have:j=n:=by have:=dF hge;omega
   subst this
   rw [hn,List.take_length] at hyt
   have hle:=own10.le
   have hlen:(xs.filter fun x=>!f x).length=i':=by rw [<- hyt,List.length_take];omega
   rw [toNat_cast]
   refine ⟨⟨by omega,by omega⟩,run_clear (k:=1) (z:=.int .i64 0) und24 zeroI3 rfl rfl (by decide) rfl own10 (show i'<=j by omega) fun w34 p34 o34=>⟨_,rfl,⟨by omega,by omega⟩,?_⟩⟩
   rw [opt_id,ite_self,Nat.sub_zero,Nat.sub_zero,hlen]
   rw [flat_take in1_len _ _ (by omega),hyt] at p34
   exact ⟨rfl,p34,o10.trans' (o34.mono fun b _ ⟨a,ha,hab⟩=>by cases ha;exact hab.symm)⟩
end
end Go.Proofs.YtcaokpglbolkcaaGreat
