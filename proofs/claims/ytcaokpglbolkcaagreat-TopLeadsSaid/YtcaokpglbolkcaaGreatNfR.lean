import Derived.Test.YtcaokpglbolkcaaGreatNfU
import Derived.Test.YtcaokpglbolkcaaGreatNfS
import Derived.Maps.AppendAt
set_option linter.unusedVariables false
set_option linter.unusedSectionVars false
namespace Go.Nf
open Go Go.RowKit
theorem block_add1 (a:Addr) (i:Nat):(a.add i).block=a.block:=ChangeShapes.block_add a i
theorem loc {w w1 w2:World} {T:Nat} {l vs:List Value} (e1:w1=w.alloc (.cells l.toArray T (0,0))) (e2:w2=setCells w1 ⟨hs w,0,none⟩ vs 0) (hl:setFrom l 0 vs=vs):Row w2 (hs w) T vs/\Grow w w2:=by
 have:=(Row.new e1).set e2
 rw [hl] at this
 exact ⟨this,(only_alloc e1).trans (only_set e2) fun b hb e=>by omega⟩
/-! ### validity -/
theorem add_add (a:Addr) (i j:Nat):(a.add i).add j=a.add (i+j):=by
 rcases a with ⟨b,off,s⟩
 cases s with
 | none=>simp only [Addr.add_lit,Nat.add_assoc]
 | some s=>by_cases hi:i=0 <;> by_cases hj:j=0 <;> simp [Addr.add,hi,hj,Nat.add_assoc]
/-! ### records of one width -/
section
variable {α:Type} {f:α->List Value} {k:Nat} (hk:∀ m,(f m).length=k)
include hk
theorem recs_flat' (h0:0<k) {w:World} {A:Nat->Prop} {a:Addr} {bs:List α} (h:Recs w A (some a) k (bs.map f)):∀ j u,(bs.flatMap f)[j]?=some u->w.cell? (a.add j)=some u:=fun j u hj=>by
 have e:j=j / k*k+j % k:=by rw [Nat.mul_comm];exact (Nat.div_add_mod j k).symm
 rw [e,flat_get hk bs _ _ (Nat.mod_lt _ h0)] at hj
 cases hb:bs[j / k]? with
 | none=>rw [hb] at hj;cases hj
 | some b=>
  rw [hb] at hj
  obtain ⟨a',ha',-,hc⟩:=h (j / k) (f b) (by rw [List.getElem?_map,hb];rfl)
  cases ha'
  have:=hc _ _ hj
  rw [toNat_cast,add_add] at this
  rw [e];exact this
theorem own_recs' {w:World} {B T:Nat} {o:Option Addr} {n c:Nat} {bs:List α} (h0:0<k) (h:Own w B T k o n c (bs.flatMap f)):Recs w (inBlock o) o k (bs.map f):=fun i row hi=>by
 have hl:=h.length
 rw [flat_length hk] at hl
 have hl:=Nat.eq_of_mul_eq_mul_right h0 hl
 rw [List.getElem?_map] at hi
 cases hb:bs[i]? with
 | none=>rw [hb] at hi;cases hi
 | some b=>
  rw [hb] at hi
  cases hi
  have hil:i<bs.length:=by
   rcases Nat.lt_or_ge i bs.length with h | h
   ·exact h
   ·rw [List.getElem?_eq_none h] at hb;cases hb
  obtain ⟨g,l,rfl,hr,ht,_⟩:=h.head (by omega)
  refine ⟨_,rfl,⟨_,rfl,rfl⟩,fun j v hj=>h.cell2 ?_⟩
  have hjk:j<k:=by
   rcases Nat.lt_or_ge j k with h | h
   ·exact h
   ·rw [List.getElem?_eq_none (by rw [hk];exact h)] at hj;cases hj
  rw [toNat_cast,flat_get hk bs i j hjk,hb]
  exact hj
end
theorem run_append_at {P:Program} {w:World} {B t ty T size bytes:Nat} {o:Option Addr} {n c:Nat} {xs:List Value} {a:Addr} {m cx:Nat} {news:List Value} {K:Value->World->Prop}
  (he:Elem P t T size bytes) (hown:Own w B T size o n c xs) (hl:news.length=m*size) (hnews:∀ j u,news[j]?=some u->w.cell? (a.add j)=some u) (h1:∀ u∈news,u.oneCell'=true)
  (h63:n+m<=maxLen) (hbytes:(n+m)*bytes<=140737488355328) (hbase:B<=hs w)
  (h:∀ o' c' w',Own w' B T size o' (n+m) c' (xs++news)->Only (inBlock o) w w'->(∀ b,inBlock o' b->inBlock o b\/b=hs w)->K (.slice o' (n+m) c') w'):
  RunOk P (Hold (Builtin.append_ #[t,t] ty #[.slice o n c,.slice (some a) m cx])) w K:=by
 obtain ⟨i,z,ht,hi,hz,hsize,hby,hzs,hsz⟩:=he.ex
 obtain ⟨v',w',hr,h2,h3,h4,h5⟩:=run_append_own_at (P:=P) (w:=w) B t ty T i z size bytes ht hi hz hsize hby hzs hsz _ n xs hown a m cx news hl hnews h1 h63 hbytes hbase
 have hv:∃ o' c',v'=.slice o' (n+m) c':=by
  rcases h2.2 with ⟨e,e2⟩ | ⟨g,cap,cur,e,_⟩
  ·exact ⟨none,0,by rw [e,e2]⟩
  ·exact ⟨_,_,e⟩
 obtain ⟨o',c',rfl⟩:=hv
 refine ⟨_,w',hr,h o' c' w' h2 (grownBy_only h3) fun b hb=>?_⟩
 obtain ⟨a',rfl,rfl⟩:=hb
 rcases h2.2 with ⟨e,-⟩ | ⟨g,cap,cur,e,-⟩
 ·cases e
 ·simp only [Value.slice.injEq,Option.some.injEq] at e
  obtain ⟨rfl,-⟩:=e
  rcases h5 with h5 | h5
  ·refine .inl ?_
   cases o with
   | none=>simp [Value.ownBlock] at h5
   | some q=>
    refine ⟨q,rfl,?_⟩
    simp [Value.ownBlock] at h5
    exact h5.symm
  ·refine .inr ?_
   simp [Value.ownBlock] at h5
   exact h5
theorem copy_own {P:Program} {w:World} {B T k:Nat} {dT sT ty elem:TypeId} {g N C:Nat} {xs:List Value} {n c m c' j:Nat} {a:Addr} {news:List Value} {K:Value->World->Prop}
  (hu:P.underlying dT=some (.slice elem)) (hsz:(P.info? elem).map (·.size)=some k) (h:Own w B T k (some ⟨g,0,none⟩) N C xs) (hl:news.length=Nat.min m n*k)
  (hsrc:∀ i u,news[i]?=some u->w.cell? (a.add i)=some u) (hfit:j+news.length<=N*k) (h1:∀ u∈news,u.oneCell'=true)
  (hK:∀ w',Own w' B T k (some ⟨g,0,none⟩) N C (setFrom xs j news)->Only (fun b=>b=g) w w'->K (goInt (Nat.min m n)) w'):
  RunOk P (Hold (Builtin.copy_ #[dT,sT] ty #[.slice (some ((⟨g,0,none⟩:Addr).add j)) n c,.slice (some a) m c'])) w K:=by
 have hst:=run_storeCells (P:=P) (a:=(⟨g,0,none⟩:Addr).add j) news 0 w (h.there hfit) (by omega) (List.all_eq_true.2 h1)
 have hld:=run_loadCells_list (P:=P) w a news hsrc
 refine ⟨_,_,?_,hK _ (h.set rfl hfit) (only_setAdd rfl)⟩
 cases hq:P.info? elem with
 | none=>simp [hq] at hsz
 | some i=>
  have hi:i.size=k:=by simpa [hq] using hsz
  unfold Hold
  rw [hl] at hld
  simp [Builtin.copy_,run_underlying hu,Builtin.lenOf,Builtin.firstCells,sizeOf,typeInfo,hq,hi,hld,hst]
theorem copy_zero {P:Program} {w:World} {k:Nat} {dT sT ty elem:TypeId} {n c m c':Nat} {d a:Option Addr} {K:Value->World->Prop}
  (hu:P.underlying dT=some (.slice elem)) (hsz:(P.info? elem).map (·.size)=some k) (h0:Nat.min m n=0) (hK:K (goInt 0) w):
  RunOk P (Hold (Builtin.copy_ #[dT,sT] ty #[.slice d n c,.slice a m c'])) w K:=by
 refine ⟨_,w,?_,hK⟩
 cases hq:P.info? elem with
 | none=>simp [hq] at hsz
 | some i=>
  have hl:∀ (x:Addr),(loadCells x 0).run P w=.ok #[] w:=fun x=>by simpa using run_loadCells_list (P:=P) w x [] (by simp)
  unfold Hold
  cases d <;> cases a <;> simp [Builtin.copy_,run_underlying hu,Builtin.lenOf,Builtin.firstCells,sizeOf,typeInfo,hq,h0,storeCells,hl]
theorem Own.fewer {w:World} {B T size:Nat} {o:Option Addr} {n n' c:Nat} {xs:List Value} (h:Own w B T size o n c xs) (hn:n'<=n):Own w B T size o n' c (xs.take (n'*size)):=by
 have hl:=h.length
 have hle:=Nat.mul_le_mul_right size hn
 obtain ⟨h1,h2⟩:=h
 refine ⟨by rw [List.length_take,hl];omega,?_⟩
 rcases h2 with ⟨e,e2⟩ | ⟨g,cap,cur,hv,hb,hg,hnc,hm,hcs,ht⟩
 ·refine .inl ⟨?_,by omega⟩
  simp only [Value.slice.injEq] at e ⊢
  exact ⟨e.1,by omega,e.2.2⟩
 ·simp only [Value.slice.injEq] at hv
  refine .inr ⟨g,cap,cur,?_,hb,hg,by omega,hm,hcs,?_⟩
  ·simp only [Value.slice.injEq]
   exact ⟨hv.1,trivial,hv.2.2⟩
  ·rw [<- ht,List.take_take,Nat.min_eq_left hle]
section
variable {α:Type} {f:α->List Value} {k:Nat} (hk:∀ m,(f m).length=k)
include hk
end
theorem run_zeroV {P:Program} {t:TypeId} {v:Value} (h:((P.info? t).bind fun i=>i.zero)=some v) (w:World):(zeroValue t).run P w=.ok v w:=by
 cases hi:P.info? t with
 | none=>rw [hi] at h;cases h
 | some i=>
  rw [hi] at h
  simp only [Option.bind_some] at h
  simp [zeroValue,typeInfo,hi,h]
def mapOf (P:Program) (t:TypeId):Option (TypeId × TypeId):=match P.underlying t with
 | some (.map k e)=>some (k,e)
 | _=>none
def sliceOf (P:Program) (t:TypeId):Option TypeId:=match P.underlying t with
 | some (.slice e)=>some e
 | _=>none
theorem of_slice {P:Program} {t e:TypeId} (h:sliceOf P t=some e):P.underlying t=some (.slice e):=by
 unfold sliceOf at h
 split at h
 ·rename_i a hu
  simp only [Option.some.injEq] at h
  rw [hu,h]
 ·cases h
theorem flat_take {α:Type} {f:α->List Value} {k:Nat} (hk:∀ m,(f m).length=k) (l:List α) (j:Nat) (hj:j<=l.length):(l.flatMap f).take (j*k)=(l.take j).flatMap f:=by
 have e:l.flatMap f=(l.take j).flatMap f++(l.drop j).flatMap f:=by rw [<- List.flatMap_append,List.take_append_drop]
 have hlen:((l.take j).flatMap f).length=j*k:=by rw [flat_length hk,List.length_take];congr 1;omega
 rw [e,<- hlen,List.take_left]
section
variable {α:Type} {f:α->List Value} {k:Nat} (hk:∀ m,(f m).length=k)
include hk
theorem append_recs {P:Program} {w:World} {B t ty T bytes n c c2:Nat} {o o2:Option Addr} {xs ys:List α} {A:Nat->Prop} {K:Value->World->Prop} (he:Elem P t T k bytes) (h0:0<k) (hown:Own w B T k o n c (xs.flatMap f)) (hn:Recs w A o2 k (ys.map f))
  (h1:∀ u∈ys.flatMap f,u.oneCell'=true) (h63:n+ys.length<=maxLen) (hb:(n+ys.length)*bytes<=140737488355328) (hbase:B<=hs w)
  (h:∀ o' c' w',Own w' B T k o' (n+ys.length) c' ((xs++ys).flatMap f)->Only (inBlock o) w w'->K (.slice o' (n+ys.length) c') w'):
  RunOk P (Hold (Builtin.append_ #[t,t] ty #[.slice o n c,.slice o2 ys.length c2])) w K:=by
 cases ys with
 | nil=>
  refine run_append_nothing' he hown.le ?_
  have:=h o c w (by simpa using hown) (Only.refl _ _)
  simpa using this
 | cons y ys=>
  obtain ⟨a,rfl,-⟩:=hn 0 (f y) rfl
  exact run_append he hown (news:=(y::ys).flatMap f) (flat_length hk _) (recs_flat' hk h0 hn) h1 h63 hb hbase fun o' c' w' h1 h2 _=>h o' c' w' (by rw [List.flatMap_append];exact h1) h2
end
end Go.Nf
