import Derived.Test.YtcaokpglbolkcaaGreatNfZ
import Derived.Test.YtcaokpglbolkcaaGreatNfQ
namespace Go.Nf
open Go Go.RowKit
theorem run_append_nothing' {P:Program} {w:World} {t ty T size bytes:Nat} {o o2:Option Addr} {n c c2:Nat} {K:Value->World->Prop} (he:Elem P t T size bytes) (hnc:n<=c) (h:K (.slice o n c) w):
  RunOk P (Hold (Builtin.append_ #[t,t] ty #[.slice o n c,.slice o2 0 c2])) w K:=by
 obtain ⟨i,z,ht,hi,hz,hsize,hby,hzs,hsz⟩:=he.ex
 refine ⟨_,w,?_,h⟩
 unfold Hold
 cases o <;> cases o2 <;> simp [Builtin.append_,run_underlying ht,sizeOf,typeInfo,hi,Builtin.lenOf,Builtin.firstCells,loadCells,loadCellsFrom,hnc,storeCells]
theorem Own.le {w:World} {B T size:Nat} {o:Option Addr} {n c:Nat} {xs:List Value} (h:Own w B T size o n c xs):n<=c:=by
 rcases h.2 with ⟨e,e2⟩ | ⟨g,cap,cur,e,_,_,h,_⟩
 ·omega
 ·simp only [Value.slice.injEq] at e;omega
theorem Own.row {w:World} {B T size:Nat} {o:Option Addr} {n c:Nat} {xs:List Value} (h:Own w B T size o n c xs) {b:Nat} (hb:inBlock o b):∃ l,Row w b T l:=by
 obtain ⟨a,rfl,rfl⟩:=hb
 rcases h.2 with ⟨e,_⟩ | ⟨g,cap,cur,e,_,hg,_⟩
 ·cases e
 ·cases e
  exact ⟨cur.toList,by unfold Row;rw [Array.toArray_toList];exact hg⟩
theorem Own.apart {w:World} {B B' T T' size size':Nat} {o o':Option Addr} {n c n' c':Nat} {xs xs':List Value} (h:Own w B T size o n c xs) (h':Own w B' T' size' o' n' c' xs') (ht:T≠T'):∀ b,inBlock o b->¬inBlock o' b:=fun b hb hb'=>by
 obtain ⟨l,hl⟩:=h.row hb
 obtain ⟨l',hl'⟩:=h'.row hb'
 exact ht (hl.inj hl').2
theorem Own.apartR {w:World} {B T T' size:Nat} {o:Option Addr} {n c:Nat} {xs:List Value} {b:Nat} {l:List Value} (h:Own w B T size o n c xs) (hr:Row w b T' l) (ht:T≠T'):¬inBlock o b:=fun hb=>by
 obtain ⟨l',hl'⟩:=h.row hb
 exact ht (hl'.inj hr).2
end Go.Nf
