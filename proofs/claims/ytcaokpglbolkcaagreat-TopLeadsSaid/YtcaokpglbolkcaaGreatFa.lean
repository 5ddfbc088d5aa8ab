import Derived.Test.YtcaokpglbolkcaaGreatOh
import Derived.Test.YtcaokpglbolkcaaGreatNfU
import Derived.ArgAppend
namespace Go.Proofs.YtcaokpglbolkcaaGreat
open Go Go.Nf Go.RowKit
def Fly (w:World) (T k:Nat) (o:Option Addr) (n c:Nat) (xs:List Value):Prop:=
 xs.length=n*k/\n<=c/\c<=maxLen/\((o=none/\c=0)\/∃ g off l,o=some ⟨g,off,none⟩/\Row w g T l/\off+c*k<=l.length/\(l.drop off).take (n*k)=xs)
section
variable {w w':World} {T k:Nat} {o:Option Addr} {n c:Nat} {xs:List Value}
theorem fly_nil (w:World) (T k:Nat):Fly w T k none 0 0 []:=⟨by simp,Nat.le_refl _,Nat.zero_le _,.inl ⟨rfl,rfl⟩⟩
theorem Fly.keep {S:Nat->Prop} (h:Fly w T k o n c xs) (g:Only S w w') (hS:∀ b,inBlock o b->¬S b):Fly w' T k o n c xs:=by
 obtain ⟨h1,h2,h3,h4⟩:=h
 refine ⟨h1,h2,h3,h4.imp id ?_⟩
 rintro ⟨gg,off,l,rfl,hr,r⟩
 exact ⟨gg,off,l,rfl,hr.keep g (hS gg ⟨_,rfl,rfl⟩),r⟩
theorem Fly.lt (h:Fly w T k o n c xs):∀ b,inBlock o b->b<hs w:=fun b hb=>by
 obtain ⟨h1,h2,h3,h4⟩:=h
 obtain ⟨a,ha,rfl⟩:=hb
 rcases h4 with ⟨e,-⟩ | ⟨g,off,l,e,hr,-⟩
 ·rw [e] at ha;cases ha
 ·rw [e] at ha;cases ha
  exact hr.lt
theorem Fly.row (h:Fly w T k o n c xs):∀ b,inBlock o b->∃ l,Row w b T l:=fun b hb=>by
 obtain ⟨h1,h2,h3,h4⟩:=h
 obtain ⟨a,ha,rfl⟩:=hb
 rcases h4 with ⟨e,-⟩ | ⟨g,off,l,e,hr,-⟩
 ·rw [e] at ha;cases ha
 ·rw [e] at ha;cases ha
  exact ⟨l,hr⟩
theorem Fly.at (h:Fly w T k o n c xs) {j:Nat} {u:Value} (hj:xs[j]?=some u):∃ a,o=some a/\inBlock o a.block/\∀ j u,xs[j]?=some u->w.cell? (a.add j)=some u:=by
 obtain ⟨h1,h2,h3,h4⟩:=h
 have hjl:=(List.getElem?_eq_some_iff.1 hj).1
 rcases h4 with ⟨e,hc⟩ | ⟨g,off,l,e,hr,hl,ht⟩
 ·have:n=0:=by omega
  rw [this,Nat.zero_mul] at h1
  omega
 ·refine ⟨_,e,⟨_,e,rfl⟩,fun j u hj=>?_⟩
  rw [Addr.add_lit]
  refine hr.cell ?_
  rw [<- ht,List.getElem?_take] at hj
  split at hj
  ·rwa [List.getElem?_drop] at hj
  ·cases hj
theorem Fly.drop (h:Fly w T k o n c xs) {j:Nat} (hj:j<=n):Fly w T k (if c=j then o else Option.map (fun x=>Addr.add x (j*k)) o) (n - j) (c - j) (xs.drop (j*k)):=by
 obtain ⟨h1,h2,h3,h4⟩:=h
 have hm:n*k=(n - j)*k+j*k:=by rw [<- Nat.add_mul];congr 1;omega
 have hmc:c*k=(c - j)*k+j*k:=by rw [<- Nat.add_mul];congr 1;omega
 refine ⟨by rw [List.length_drop,h1,hm];omega,by omega,by omega,?_⟩
 rcases h4 with ⟨rfl,rfl⟩ | ⟨g,off,l,rfl,hr,hl,ht⟩
 ·left
  refine ⟨?_,by omega⟩
  split <;> rfl
 ·right
  split
  ·rename_i hcj
   subst hcj
   have hn:n=c:=by omega
   subst hn
   refine ⟨g,off,l,rfl,hr,by rw [Nat.sub_self,Nat.zero_mul];omega,?_⟩
   rw [Nat.sub_self,Nat.zero_mul,List.take_zero,List.drop_of_length_le (by omega)]
  ·refine ⟨g,off+j*k,l,by simp [Addr.add_lit],hr,by omega,?_⟩
   rw [<- ht,List.drop_take,List.drop_drop]
   congr 1
   omega
theorem Fly.cut (h:Fly w T k o n c xs) {i:Nat} (hi:i<=n):Fly w T k o i i (xs.take (i*k)):=by
 obtain ⟨h1,h2,h3,h4⟩:=h
 have hm:i*k<=n*k:=Nat.mul_le_mul_right k hi
 have hmc:i*k<=c*k:=Nat.mul_le_mul_right k (by omega)
 refine ⟨by rw [List.length_take,h1];omega,Nat.le_refl _,by omega,?_⟩
 rcases h4 with ⟨rfl,rfl⟩ | ⟨g,off,l,rfl,hr,hl,ht⟩
 ·exact .inl ⟨rfl,by omega⟩
 ·refine .inr ⟨g,off,l,rfl,hr,by omega,?_⟩
  rw [<- ht,List.take_take,Nat.min_eq_left hm]
theorem setCells_eq (b o:Nat):∀ (vs:List Value) (i:Nat) (w:World),setCells w ⟨b,o,none⟩ vs i=w.setCells b (o+i) vs
 | [],_,_=>rfl
 | v::vs,i,w=>by
  rw [setCells,World.setCells,Addr.add_lit]
  exact setCells_eq b o vs (i+1) _
theorem setFrom_over (l vs:List Value) (p:Nat) (h:p+vs.length<=l.length):setFrom l p vs=l.take p++(vs++l.drop (p+vs.length)):=by
 have e1:l=l.take p++l.drop p:=(List.take_append_drop p l).symm
 have hp:(l.take p).length=p:=by rw [List.length_take];omega
 have e2:l.drop p=(l.drop p).take vs.length++(l.drop p).drop vs.length:=(List.take_append_drop _ _).symm
 have h1:=setFrom_right vs (l.take p) (l.drop p) 0
 rw [hp,Nat.add_zero,<- e1] at h1
 rw [h1]
 congr 1
 conv=>lhs;rw [e2]
 rw [setFrom_left vs _ _ 0 (by rw [List.length_take,List.length_drop];omega),setFrom_all vs _ (by rw [List.length_take,List.length_drop];omega),List.drop_drop]
theorem Own.fly {B:Nat} (h:Own w B T k o n c xs):Fly w T k o n c xs:=by
 obtain ⟨h1,h2⟩:=h
 rcases h2 with ⟨hv,hn⟩ | ⟨g,cap,cur,hv,hb,hg,hnc,hm,hcs,ht⟩
 ·simp only [Value.slice.injEq] at hv
  obtain ⟨rfl,h2,rfl⟩:=hv
  exact ⟨h1,by omega,Nat.zero_le _,.inl ⟨rfl,rfl⟩⟩
 ·simp only [Value.slice.injEq] at hv
  obtain ⟨rfl,-,rfl⟩:=hv
  refine ⟨h1,hnc,hm,.inr ⟨g,0,cur.toList,rfl,hg,?_,?_⟩⟩
  ·rw [Array.length_toList,hcs];omega
  ·rw [List.drop_zero];exact ht
theorem Fly.app {P:Program} {t ty bytes:Nat} {a2:Addr} {m cx:Nat} {news:List Value} {K:Value->World->Prop} (he:Elem P t T k bytes) (h:Fly w T k o n c xs) (hl:news.length=m*k) (hnews:∀ j u,news[j]?=some u->w.cell? (a2.add j)=some u) (h1:∀ u∈news,u.oneCell'=true)
  (h63:n+m<=maxLen) (hbytes:(n+m)*bytes<=140737488355328)
  (hK:∀ o' c' w',Fly w' T k o' (n+m) c' (xs++news)->Only (inBlock o) w w'->(∀ b,inBlock o' b->inBlock o b\/hs w<=b)->K (.slice o' (n+m) c') w'):
  RunOk P (Hold (Builtin.append_ #[t,t] ty #[.slice o n c,.slice (some a2) m cx])) w K:=by
 obtain ⟨i,z,ht,hi,hz,hsize,hby,hzs,hsz⟩:=he.ex
 obtain ⟨k1,k2,k3,k4⟩:=h
 rcases k4 with ⟨rfl,rfl⟩ | ⟨g,off,l,rfl,hr,hlen,htk⟩
 ·have hn:n=0:=by omega
  subst hn
  have hx:xs=[]:=List.eq_nil_of_length_eq_zero (by rw [k1,Nat.zero_mul])
  subst hx
  refine run_append_at (B:=0) he (own_nil w 0 T k) hl hnews h1 h63 hbytes (Nat.zero_le _) fun o' c' w' p1 p2 p3=>hK o' c' w' (Own.fly p1) p2 fun b hb=>(p3 b hb).imp id fun e=>by omega
 ·by_cases hroom:n+m<=c
  ·have hmul:n*k+m*k<=c*k:=by rw [<- Nat.add_mul];exact Nat.mul_le_mul_right k hroom
   have hin:off+n*k+news.length<=l.length:=by omega
   have run:=run_append_room_cells (P:=P) w t ty T i ht hi g off n c a2 m cx news (by rw [hsize];exact hl) hnews h1 hroom
    (fun j hj=>by
     rw [hsize,hr.cell (List.getElem?_eq_getElem (show off+n*k+j<l.length by omega))];rfl)
    (fun j hj=>by
     have:=(hr.there (o:=off+n*k+j) (n:=1) (by omega) 0 (by omega)).2
     rw [hsize]
     simpa [Addr.add_lit] using this)
   rw [hsize] at run
   have es:=setCells_eq g (off+n*k) news 0 w
   rw [Nat.add_zero] at es
   rw [<- es] at run
   refine ⟨_,_,run,hK _ _ _ ?_ ((only_set rfl).mono fun b _ hb=>⟨_,rfl,hb.symm⟩) fun b hb=>.inl hb⟩
   refine ⟨by rw [List.length_append,k1,hl,Nat.add_mul],hroom,k3,.inr ⟨g,off,_,rfl,hr.set rfl,by rw [setFrom_length];exact hlen,?_⟩⟩
   rw [setFrom_over _ _ _ hin,List.drop_append,List.length_take,Nat.min_eq_left (by omega),show off - (off+n*k)=0 by omega,List.drop_zero,List.drop_take,show off+n*k - off=n*k by omega,htk,List.take_append,k1,Nat.add_mul,List.take_of_length_le (by omega),Nat.add_sub_cancel_left,List.take_append,List.take_of_length_le (by omega),hl,Nat.sub_self,List.take_zero,List.append_nil]
  ·have holds:∀ j u,xs[j]?=some u->w.cell? ((⟨g,off,none⟩:Addr).add j)=some u:=fun j u hj=>by
    rw [Addr.add_lit]
    refine hr.cell ?_
    rw [<- htk,List.getElem?_take] at hj
    split at hj
    ·rwa [List.getElem?_drop] at hj
    ·cases hj
   obtain ⟨v',w',hrun,hown,hgr⟩:=run_append_arg_grows (P:=P) w t ty T i z k bytes ht hi hz hsize hby hzs hsz ⟨g,off,none⟩ n c xs k1 holds a2 m cx news hl hnews (by omega) h63 hbytes
   obtain ⟨o',c',rfl⟩:∃ o' c',v'=.slice o' (n+m) c':=by
    rcases hown.2 with ⟨e,e2⟩ | ⟨g',cap,cur,e,_⟩
    ·exact ⟨_,_,by rw [e,e2]⟩
    ·exact ⟨_,_,e⟩
   refine ⟨_,_,hrun,hK _ _ _ (Own.fly hown) ?_ fun b hb=>?_⟩
   ·obtain ⟨q1,q2,q3,q4,q5⟩:=hgr
    exact ⟨q1,q2,q3,q4,fun i hi _=>q5 i hi (fun e=>by cases e)⟩
   ·exact .inr (Own.base hown b hb).1
end
end Go.Proofs.YtcaokpglbolkcaaGreat
