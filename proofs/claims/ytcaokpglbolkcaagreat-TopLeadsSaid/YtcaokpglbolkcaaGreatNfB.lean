import Derived.Test.YtcaokpglbolkcaaGreatNfA
import Derived.Laws.Cells
import Derived.Laws.StructEq
import Derived.Tactics
namespace Go.Nf
open Go
theorem run_typeInfo {P:Program} {t:TypeId} {i:TypeInfo} (h:P.info? t=some i) (w:World):(typeInfo t).run P w=.ok i w:=by
 simp [typeInfo,h]
theorem run_under {P:Program} {t:TypeId} {d:TypeDesc} (h:P.underlying t=some d) (w:World):(underlying t).run P w=.ok d w:=by
 simp [underlying,h]
theorem run_isAgg {P:Program} {t:TypeId} {d:TypeDesc} (h:P.underlying t=some d) (w:World):(isAgg t).run P w=.ok (isAggT P t) w:=by
 unfold isAgg isAggT
 simp only [Sem.run_bind,run_under h,Result.andThen_ok,h]
 cases d <;> rfl
theorem info_of_under {P:Program} {t:TypeId} {d:TypeDesc} (h:P.underlying t=some d):∃ i,P.info? t=some i:=by
 unfold Program.underlying at h
 cases hi:P.info? t with
 | none=>rw [hi] at h;cases h
 | some i=>exact ⟨i,rfl⟩
theorem run_sizeOf {P:Program} {t:TypeId} {d:TypeDesc} (h:P.underlying t=some d) (w:World):(sizeOf t).run P w=.ok (P.cellsOf t) w:=by
 obtain ⟨i,hi⟩:=info_of_under h
 simp [sizeOf,run_typeInfo hi,Program.cellsOf,hi]
theorem exCells_out {w:World} {a:Addr}:∀ {l:List Ty} {i:Nat} {acc:List Value} {K:Value->Prop},exCells w a l i acc K->
  ∃ vs:List Value,vs.length=l.length/\(∀ j v,vs[j]?=some v->w.cell? (a.add (i+j))=some v)/\K (.agg (acc.reverse++vs).toArray)
 | [],i,acc,K,h=>⟨[],rfl,by simp,by rw [List.append_nil];exact h⟩
 | ty::l,i,acc,K,h=>by
  obtain ⟨v,hv,h⟩:=exT_out h
  obtain ⟨vs,h1,h2,h3⟩:=exCells_out h
  refine ⟨v::vs,by simp [h1],fun j u hj=>?_,by simpa using h3⟩
  cases j with
  | zero=>simp at hj;subst hj;simpa using hv
  | succ j=>have:=h2 j u (by simpa using hj);rw [show i+(j+1)=i+1+j from by omega];exact this
theorem exCells_mono {w:World} {a:Addr}:∀ {l:List Ty} {i:Nat} {acc:List Value} {K K':Value->Prop},(∀ v,K v->K' v)->exCells w a l i acc K->exCells w a l i acc K'
 | [],_,_,_,_,hk,h=>hk _ h
 | _::_,_,_,_,_,hk,h=>exT_mono (fun _ h=>⟨h.1,exCells_mono hk h.2⟩) h
theorem vcLoad_mono {P:Program} {t:TypeId} {x:Value} {w:World} {K K':Value->Prop} (hk:∀ v,K v->K' v) (h:vcLoad P t x w K):vcLoad P t x w K':=by
 unfold vcLoad at h ⊢
 split at h
 ·cases hag:isAggT P t
  ·simp only [hag,cond_false] at h ⊢
   split at h
   ·exact exT_mono (fun v h=>⟨h.1,hk _ h.2⟩) h
   ·exact h.elim
  ·simp only [hag,cond_true] at h ⊢
   cases hl:Nat.beq (leaves P 64 t).length (P.cellsOf t)
   ·rw [hl] at h;exact h.elim
   ·rw [hl] at h;exact exCells_mono hk h
 ·exact h.elim
def loadN (P:Program) (t:TypeId):Nat:=bif isAggT P t then P.cellsOf t else 1
theorem vcLoad_out {P:Program} {t:TypeId} {x:Value} {w:World} {K:Value->Prop} (h:vcLoad P t x w K):
  ∃ a v,x=.pointer (some a)/\K v/\∀ w',Kept w w' a (loadN P t)->(Instr.loadAt t x).run P w'=.ok v w':=by
 unfold vcLoad at h
 split at h
 ·rename_i a
  cases hag:isAggT P t
  ·simp only [hag,cond_false] at h
   split at h
   ·rename_i d hd
    obtain ⟨v,hv,hk⟩:=exT_out h
    refine ⟨a,v,rfl,hk,fun w' hw'=>?_⟩
    have h0:=hw' 0 (by simp [loadN,hag])
    have e:a.add 0=a:=by simp [Addr.add]
    rw [e,hv] at h0
    simp [Instr.loadAt,Instr.sureAddr,loadVar,run_isAgg hd,hag,h0]
   ·exact h.elim
  ·simp only [hag,cond_true] at h
   cases hl:Nat.beq (leaves P 64 t).length (P.cellsOf t)
   ·rw [hl] at h;exact h.elim
   ·simp only [hl,cond_true] at h
    have hlen:=Nat.eq_of_beq_eq_true hl
    obtain ⟨vs,h1,h2,h3⟩:=exCells_out h
    refine ⟨a,_,rfl,h3,fun w' hw'=>?_⟩
    have hd:∃ d,P.underlying t=some d:=by
     unfold isAggT at hag
     cases hu:P.underlying t with
     | none=>rw [hu] at hag;cases hag
     | some d=>exact ⟨d,rfl⟩
    obtain ⟨d,hd⟩:=hd
    have hcells:(loadCells a (P.cellsOf t)).run P w'=.ok vs.toArray w':=by
     have:=run_loadCells_list (P:=P) (w:=w') a vs (fun j v hj=>by
      have hjl:j<vs.length:=(List.getElem?_eq_some_iff.1 hj).1
      rw [hw' j (by simp [loadN,hag];omega)]
      simpa using h2 j v hj)
     rwa [h1,hlen] at this
    simp [Instr.loadAt,Instr.sureAddr,loadVar,run_isAgg hd,hag,run_sizeOf hd,hcells]
 ·exact h.elim
theorem vcLoad_sound {P:Program} {t:TypeId} {x:Value} {w:World} {K:Value->World->Prop} (h:vcLoad P t x w fun v=>K v w):RunOk P (Instr.loadAt t x) w K:=by
 obtain ⟨a,v,_,hk,hrun⟩:=vcLoad_out h
 exact ⟨v,w,hrun w (fun i _=>rfl),hk⟩
/-! ### A store -/
def vcStore (P:Program) (t:TypeId) (x v:Value) (w:World) (K:World->Prop):Prop:=
 match x with
 | .pointer (some a)=>
  bif Nat.beq v.cells.toList.length (P.cellsOf t) && v.cells.toList.all Value.oneCell' then There w a (P.cellsOf t)/\∀ w1,w1=setCells w a v.cells.toList->K w1 else False
 | _=>False
theorem There.step {w:World} {a b:Addr} {n:Nat} {v:Value} (h:There w a n):There (w.setCell b v) a n:=fun i hi=>by
 obtain ⟨⟨u,hu⟩,hf⟩:=h i hi
 refine ⟨?_,by rw [World.frozen?_setCell];exact hf⟩
 by_cases e:b=a.add i
 ·subst e;exact ⟨v,World.cell?_setCell_same _ _ _ hu⟩
 ·exact ⟨u,by rw [World.cell?_setCell_other _ _ _ _ e];exact hu⟩
theorem run_storeCells {P:Program} {a:Addr} {n:Nat}:∀ (l:List Value) (i:Nat) (w:World),There w a n->i+l.length<=n->l.all Value.oneCell'=true->
  (storeCells a l i).run P w=.ok () (setCells w a l i)
 | [],_,_,_,_,_=>rfl
 | v::l,i,w,ht,hn,hone=>by
  simp only [List.all_cons,Bool.and_eq_true] at hone
  simp only [List.length_cons] at hn
  obtain ⟨⟨u,hu⟩,hf⟩:=ht i (by omega)
  have h1:(store (a.add i) v).run P w=.ok () (w.setCell (a.add i) v):=by
   rw [run_store P w _ _ _ hone.1,hu]
   simp [hf]
  simp only [storeCells,Sem.run_bind,h1,Result.andThen_ok,setCells]
  exact run_storeCells l (i+1) _ ht.step (by omega) hone.2
theorem vcStore_sound {P:Program} {t:TypeId} {x v:Value} {w:World} {K:World->Prop} (ht:(P.underlying t).isSome=true) (h:vcStore P t x v w K):RunOk P (Instr.storeAt t x v) w fun _ w'=>K w':=by
 obtain ⟨d,hd⟩:=Option.isSome_iff_exists.1 ht
 unfold vcStore at h
 split at h
 ·rename_i a
  cases hc:(Nat.beq v.cells.toList.length (P.cellsOf t) && v.cells.toList.all Value.oneCell')
  ·rw [hc] at h;exact h.elim
  ·simp only [hc,cond_true] at h
   simp only [Bool.and_eq_true] at hc
   have hl:=Nat.eq_of_beq_eq_true hc.1
   have hsz:v.cells.size=P.cellsOf t:=by simpa using hl
   refine ⟨(),_,?_,h.2 _ rfl⟩
   have:=run_storeCells (P:=P) v.cells.toList 0 w h.1 (by omega) hc.2
   simp [Instr.storeAt,Instr.sureAddr,storeVar,run_sizeOf hd,hsz,this]
 ·exact h.elim
theorem vcStore_mono {P:Program} {t:TypeId} {x v:Value} {w:World} {K K':World->Prop} (hk:∀ w,K w->K' w) (h:vcStore P t x v w K):vcStore P t x v w K':=by
 unfold vcStore at h ⊢
 split at h
 ·cases hc:(Nat.beq v.cells.toList.length (P.cellsOf t) && v.cells.toList.all Value.oneCell')
  ·rw [hc] at h;exact h.elim
  ·simp only [hc,cond_true] at h ⊢
   exact ⟨h.1,fun w1 e=>hk _ (h.2 w1 e)⟩
 ·exact h.elim
/-! ### Operations that may panic: the value alone (no world) -/
def vcIdx (P:Program) (t:TypeId) (x i:Value) (K:Value->Prop):Prop:=
 match P.underlying t,x,i with
 | some (.slice e),.slice base n _,.int _ i=>bif (P.underlying e).isSome then ∃ a,base=some a/\(0<=i/\i<(n:Int))/\K (.pointer (some (a.add (i.toNat*P.cellsOf e)))) else False
 | some (.array n e),.pointer (some a),.int _ i=>bif (P.underlying e).isSome then (0<=i/\i<(n:Int))/\K (.pointer (some (a.add (i.toNat*P.cellsOf e)))) else False
 | _,_,_=>False
theorem vcIdx_out {P:Program} {t:TypeId} {x i:Value} {K:Value->Prop} (h:vcIdx P t x i K):∃ v,K v/\∀ w,(Instr.indexAt t x i).run P w=.ok v w:=by
 unfold vcIdx at h
 split at h
 ·rename_i e base n c k i hu
  cases he:(P.underlying e).isSome
  ·rw [he] at h;exact h.elim
  ·simp only [he,cond_true] at h
   obtain ⟨d,hd⟩:=Option.isSome_iff_exists.1 he
   obtain ⟨a,rfl,hi,hk⟩:=h
   exact ⟨_,hk,fun w=>by simp [Instr.indexAt,asIntOf,run_under hu,hi,run_sizeOf hd]⟩
 ·rename_i n e a k i hu
  cases he:(P.underlying e).isSome
  ·rw [he] at h;exact h.elim
  ·simp only [he,cond_true] at h
   obtain ⟨d,hd⟩:=Option.isSome_iff_exists.1 he
   obtain ⟨hi,hk⟩:=h
   exact ⟨_,hk,fun w=>by simp [Instr.indexAt,Instr.sureAddr,asIntOf,run_under hu,hi,run_sizeOf hd]⟩
 ·exact h.elim
theorem vcIdx_mono {P:Program} {t:TypeId} {x i:Value} {K K':Value->Prop} (hk:∀ v,K v->K' v) (h:vcIdx P t x i K):vcIdx P t x i K':=by
 unfold vcIdx at h ⊢
 split at h
 ·rename_i e _ _ _ _ _ _
  cases he:(P.underlying e).isSome
  ·rw [he] at h;exact h.elim
  ·simp only [he,cond_true] at h ⊢
   obtain ⟨a,h1,h2,h3⟩:=h
   exact ⟨a,h1,h2,hk _ h3⟩
 ·rename_i e _ _ _ _
  cases he:(P.underlying e).isSome
  ·rw [he] at h;exact h.elim
  ·simp only [he,cond_true] at h ⊢
   exact ⟨h.1,hk _ h.2⟩
 ·exact h.elim
def vcNil (x:Value) (K:Value->Prop):Prop:=
 match x with
 | .pointer q=>∃ a,q=some a/\K (.pointer (some a))
 | _=>False
def vcDiv (op:BinOp) (x y:Value) (K:Value->Prop):Prop:=
 match op,x,y with
 | .quo,.int k a,.int k' b=>bif decide (k=k') then b≠0/\K (.int k (k.wrap (a.tdiv b))) else False
 | .rem,.int k a,.int k' b=>bif decide (k=k') then b≠0/\K (.int k (a.tmod b)) else False
 | _,_,_=>False
def byteAt (s:ByteArray) (i:Nat):Option UInt8:=s[i]?
def vcStrAt (P:Program) (t:TypeId) (x i:Value) (K:Value->Prop):Prop:=
 match P.underlying t,x,i with
 | some .string,.string s,.int _ i=>∃ b:UInt8,(0<=i/\byteAt s i.toNat=some b)/\K (.int .u8 b.toNat)
 | _,_,_=>False
def strEq (a b:ByteArray):Bool:=a == b
def andB (a b:Bool):Bool:=a && b
def bEq (a b:Bool):Bool:=a == b
def scalarEq (P:Program) (t:TypeId) (x y:Option Value):Option Bool:=
 match P.underlying t,x,y with
 | some (.int _),some (.int k a),some (.int k' b)=>bif decide (k=k') then some (decide (a=b)) else none
 | some .string,some (.string a),some (.string b)=>some (strEq a b)
 | some .bool,some (.bool a),some (.bool b)=>some (bEq a b)
 | _,_,_=>none
def fieldsEq (P:Program):List Field->List Value->List Value->Option Bool
 | [],_,_=>some true
 | f::fs,xs,ys=>
  bif f.name == "_" then none else
  match scalarEq P f.type xs[f.offset]? ys[f.offset]? with
  | some b=>
   match fs with
   | []=>some b
   | _=>match fieldsEq P fs xs ys with
    | some c=>some (andB b c)
    | none=>none
  | none=>none
theorem scalarEq_run {P:Program} {t:TypeId} {xs ys:Array Value} {off d:Nat} {b:Bool} (h:scalarEq P t xs.toList[off]? ys.toList[off]?=some b) (w:World):
  ∃ x y,(part t xs off).run P w=.ok x w/\(part t ys off).run P w=.ok y w/\(Op.equalIn (d+1) t x y).run P w=.ok b w:=by
 unfold scalarEq at h
 have key:∀ (zs:Array Value) (z:Value) {dd:TypeDesc},P.underlying t=some dd->isAggT P t=false->zs.toList[off]?=some z->(part t zs off).run P w=.ok z w:=fun zs z dd hu hag hz=>by
  have hz':zs[off]?=some z:=by rw [<- Array.getElem?_toList];exact hz
  simp [part,run_isAgg hu,hag,hz']
 split at h
 ·rename_i k0 k a k' c hu hx hy
  have hag:isAggT P t=false:=by unfold isAggT;rw [hu]
  cases hk:decide (k=k')
  ·rw [hk] at h;cases h
  ·rw [hk] at h
   have hk:=of_decide_eq_true hk
   subst hk
   simp only [cond_true,Option.some.injEq] at h
   subst h
   refine ⟨_,_,key xs _ hu hag hx,key ys _ hu hag hy,?_⟩
   rw [run_equalIn_int w d t k k0 a c hu]
   congr 1
 ·rename_i a c hu hx hy
  have hag:isAggT P t=false:=by unfold isAggT;rw [hu]
  simp only [Option.some.injEq] at h
  subst h
  refine ⟨_,_,key xs _ hu hag hx,key ys _ hu hag hy,?_⟩
  simp [Op.equalIn,run_under hu,strEq]
 ·rename_i a c hu hx hy
  have hag:isAggT P t=false:=by unfold isAggT;rw [hu]
  simp only [Option.some.injEq] at h
  subst h
  refine ⟨_,_,key xs _ hu hag hx,key ys _ hu hag hy,?_⟩
  simp [Op.equalIn,run_under hu,bEq]
 ·cases h
theorem fieldsEq_run {P:Program} {xs ys:Array Value} {d:Nat}:∀ (fs:List Field) (b:Bool) (w:World),fieldsEq P fs xs.toList ys.toList=some b->(Op.eqFields (d+1) xs ys fs).run P w=.ok b w
 | [],b,w,h=>by simp only [fieldsEq,Option.some.injEq] at h;subst h;simp [Op.eqFields]
 | f::fs,b,w,h=>by
  rw [fieldsEq] at h
  cases hn : (f.name == "_")
  ·rw [hn] at h
   simp only [cond_false] at h
   have hn' : f.name ≠ "_" := by simpa using hn
   split at h
   ·rename_i b1 h1
    obtain ⟨x,y,r1,r2,r3⟩:=scalarEq_run (d:=d) h1 w
    simp only [Op.eqFields,hn',ne_eq,not_false_eq_true,if_true,Sem.run_bind,r1,r2,r3,Result.andThen_ok]
    split at h
    ·simp only [Option.some.injEq] at h
     subst h
     cases b1 <;> simp [Op.eqFields]
    ·split at h
     ·rename_i c hc
      simp only [Option.some.injEq] at h
      subst h
      cases b1
      ·simp [andB]
      ·simp only [Bool.not_true,Bool.false_eq_true,if_false,andB,Bool.true_and]
       exact fieldsEq_run fs c w hc
     ·cases h
   ·cases h
  ·rw [hn] at h;cases h
def vcNilEq (P:Program) (op:BinOp) (t:TypeId) (x y:Value) (K:Value->Prop):Prop:=
 match P.underlying t,op,x,y with
 | some (.pointer _),.eql,.pointer q,.pointer none=>K (.bool q.isNone)
 | some (.pointer _),.neq,.pointer q,.pointer none=>K (.bool (!q.isNone))
 | some (.slice _),.eql,.slice q _ _,.slice none _ _=>K (.bool q.isNone)
 | some (.slice _),.neq,.slice q _ _,.slice none _ _=>K (.bool (!q.isNone))
 | some (.map _ _),.eql,.map q,.map none=>K (.bool q.isNone)
 | some (.map _ _),.neq,.map q,.map none=>K (.bool (!q.isNone))
 | some .string,.eql,.string a,.string b=>K (.bool (strEq a b))
 | some .string,.neq,.string a,.string b=>K (.bool (!strEq a b))
 | some (.struct fs),.eql,.agg xs,.agg ys=>bif P.eqGuardType P.depth t || P.stoodInHeld t then False else (match fieldsEq P fs.toList xs.toList ys.toList with
  | some b=>K (.bool b)
  | none=>False)
 | some (.struct fs),.neq,.agg xs,.agg ys=>bif P.eqGuardType P.depth t || P.stoodInHeld t then False else (match fieldsEq P fs.toList xs.toList ys.toList with
  | some b=>K (.bool (!b))
  | none=>False)
 | _,_,_,_=>False
theorem vcNilEq_mono {P:Program} {op:BinOp} {t:TypeId} {x y:Value} {K K':Value->Prop} (hk:∀ v,K v->K' v) (h:vcNilEq P op t x y K):vcNilEq P op t x y K':=by
 unfold vcNilEq at h ⊢
 split at h <;> first
  | exact hk _ h
  | exact h.elim
  | skip
 all_goals
  cases hc:(P.eqGuardType P.depth t || P.stoodInHeld t)
  ·rw [hc] at h
   simp only [cond_false] at h ⊢
   split at h
   ·exact hk _ h
   ·exact h.elim
  ·rw [hc] at h;exact h.elim
theorem equalIn_ptr {P:Program} {t e:TypeId} (hu:P.underlying t=some (.pointer e)) (q:Option Addr) (w:World) (d:Nat):(Op.equalIn (d+1) t (.pointer q) (.pointer none)).run P w=.ok q.isNone w:=by
 cases q <;> simp [Op.equalIn,run_under hu]
theorem equalIn_slice {P:Program} {t e:TypeId} (hu:P.underlying t=some (.slice e)) (q:Option Addr) (n c m k:Nat) (w:World) (d:Nat):(Op.equalIn (d+1) t (.slice q n c) (.slice none m k)).run P w=.ok q.isNone w:=by
 cases q <;> simp [Op.equalIn,run_under hu]
theorem equalIn_map {P:Program} {t e k:TypeId} (hu:P.underlying t=some (.map k e)) (q:Option Nat) (w:World) (d:Nat):(Op.equalIn (d+1) t (.map q) (.map none)).run P w=.ok q.isNone w:=by
 cases q <;> simp [Op.equalIn,run_under hu]
theorem vcNilEq_out {P:Program} {op:BinOp} {t:TypeId} {xo yo:Operand} {x y:Value} {K:Value->Prop} (h:vcNilEq P op t x y K):
  ∃ v,K v/\∀ w,(do eqGuard op t xo yo x y;binOp op t x y).run P w=.ok v w:=by
 unfold vcNilEq at h
 split at h
 ·rename_i e q hu
  refine ⟨_,h,fun w=>?_⟩
  simp only [eqGuard_at_pointer,pure_bind,binOp]
  simp [Op.equal,Op.maxDepth,equalIn_ptr hu q w 9999]
 ·rename_i e q hu
  refine ⟨_,h,fun w=>?_⟩
  simp only [eqGuard_at_pointer,pure_bind,binOp]
  simp [Op.equal,Op.maxDepth,equalIn_ptr hu q w 9999]
 ·rename_i e q n c m k hu
  refine ⟨_,h,fun w=>?_⟩
  simp only [eqGuard_at_slice,pure_bind,binOp]
  simp [Op.equal,Op.maxDepth,equalIn_slice hu q n c m k w 9999]
 ·rename_i e q n c m k hu
  refine ⟨_,h,fun w=>?_⟩
  simp only [eqGuard_at_slice,pure_bind,binOp]
  simp [Op.equal,Op.maxDepth,equalIn_slice hu q n c m k w 9999]
 ·rename_i k e q hu
  refine ⟨_,h,fun w=>?_⟩
  simp only [eqGuard_at_map,pure_bind,binOp]
  simp [Op.equal,Op.maxDepth,equalIn_map hu q w 9999]
 ·rename_i k e q hu
  refine ⟨_,h,fun w=>?_⟩
  simp only [eqGuard_at_map,pure_bind,binOp]
  simp [Op.equal,Op.maxDepth,equalIn_map hu q w 9999]
 ·refine ⟨_,h,fun w=>?_⟩
  simp [eqGuard,binOp,Op.stringOp,strEq,beq_toListBytes]
 ·refine ⟨_,h,fun w=>?_⟩
  simp [eqGuard,binOp,Op.stringOp,strEq,beq_toListBytes]
 ·rename_i fs xs ys hu
  cases hc:(P.eqGuardType P.depth t || P.stoodInHeld t)
  ·rw [hc] at h
   simp only [cond_false] at h
   simp only [Bool.or_eq_false_iff] at hc
   split at h
   ·rename_i b hb
    refine ⟨_,h,fun w=>?_⟩
    have hf:P.fieldsOf t=fs:=by unfold Program.fieldsOf;rw [hu]
    have e:=run_equalIn_struct w (9998+1) t xs ys (by rw [hf];exact hu) hc.2
    rw [hf,fieldsEq_run fs.toList b w hb] at e
    rw [Sem.run_bind,run_eqGuard_agg w .eql t xo yo xs ys hc.1,Result.andThen_ok,run_eql_struct,e];rfl
   ·exact h.elim
  ·rw [hc] at h;exact h.elim
 ·rename_i fs xs ys hu
  cases hc:(P.eqGuardType P.depth t || P.stoodInHeld t)
  ·rw [hc] at h
   simp only [cond_false] at h
   simp only [Bool.or_eq_false_iff] at hc
   split at h
   ·rename_i b hb
    refine ⟨_,h,fun w=>?_⟩
    have hf:P.fieldsOf t=fs:=by unfold Program.fieldsOf;rw [hu]
    have e:=run_equalIn_struct w (9998+1) t xs ys (by rw [hf];exact hu) hc.2
    rw [hf,fieldsEq_run fs.toList b w hb] at e
    rw [Sem.run_bind,run_eqGuard_agg w .neq t xo yo xs ys hc.1,Result.andThen_ok,run_neq_struct,e];rfl
   ·exact h.elim
  ·rw [hc] at h;exact h.elim
 ·exact h.elim
def vcCutHi (hi:Option Value) (n m:Nat) (K:Nat->Prop):Prop:=
 match hi with
 | none=>K n
 | some (.int _ h)=>(0<=h/\h<=(m:Int))/\K h.toNat
 | _=>False
def vcCutLo (lo:Option Value) (h:Nat) (K:Nat->Prop):Prop:=
 match lo with
 | none=>K 0
 | some (.int _ l)=>(0<=l/\l<=(h:Int))/\K l.toNat
 | _=>False
def vcCut (P:Program) (t:TypeId) (x:Value) (lo hi:Option Value) (K:Value->Prop):Prop:=
 match P.underlying t,x with
 | some .string,.string s=>vcCutHi hi s.size s.size fun h=>vcCutLo lo h fun l=>K (.string (s.extract l h))
 | some (.slice e),.slice a n c=>bif (P.underlying e).isSome then vcCutHi hi n c fun h=>vcCutLo lo h fun l=>K (.slice (if c=l then a else a.map (·.add (l*P.cellsOf e))) (h - l) (c - l)) else False
 | _,_=>False
def vcCut3 (P:Program) (t:TypeId) (x:Value) (lo:Option Value) (hi mx:Value) (K:Value->Prop):Prop:=
 match P.underlying t,x,hi,mx with
 | some (.slice e),.slice a _ c,.int _ h,.int _ m=>bif (P.underlying e).isSome then (0<=m/\m<=(c:Int))/\(0<=h/\h<=(m.toNat:Int))/\vcCutLo lo h.toNat fun l=>K (.slice (if m.toNat=l then a else a.map (·.add (l*P.cellsOf e))) (h.toNat - l) (m.toNat - l)) else False
 | _,_,_,_=>False
theorem vcNil_mono {x:Value} {K K':Value->Prop} (hk:∀ v,K v->K' v) (h:vcNil x K):vcNil x K':=by
 unfold vcNil at h ⊢
 split at h
 ·obtain ⟨a,h1,h2⟩:=h;exact ⟨a,h1,hk _ h2⟩
 ·exact h.elim
theorem vcDiv_mono {op:BinOp} {x y:Value} {K K':Value->Prop} (hk:∀ v,K v->K' v) (h:vcDiv op x y K):vcDiv op x y K':=by
 unfold vcDiv at h ⊢
 split at h
 ·rename_i k a k' b
  cases hd:decide (k=k')
  ·rw [hd] at h;exact h.elim
  ·simp only [hd,cond_true] at h ⊢;exact ⟨h.1,hk _ h.2⟩
 ·rename_i k a k' b
  cases hd:decide (k=k')
  ·rw [hd] at h;exact h.elim
  ·simp only [hd,cond_true] at h ⊢;exact ⟨h.1,hk _ h.2⟩
 ·exact h.elim
theorem vcStrAt_mono {P:Program} {t:TypeId} {x i:Value} {K K':Value->Prop} (hk:∀ v,K v->K' v) (h:vcStrAt P t x i K):vcStrAt P t x i K':=by
 unfold vcStrAt at h ⊢
 split at h
 ·obtain ⟨b,h1,h2⟩:=h;exact ⟨b,h1,hk _ h2⟩
 ·exact h.elim
theorem vcCutHi_mono {hi:Option Value} {n m:Nat} {K K':Nat->Prop} (hk:∀ v,K v->K' v) (h:vcCutHi hi n m K):vcCutHi hi n m K':=by
 unfold vcCutHi at h ⊢
 split at h
 ·exact hk _ h
 ·exact ⟨h.1,hk _ h.2⟩
 ·exact h.elim
theorem vcCutLo_mono {lo:Option Value} {n:Nat} {K K':Nat->Prop} (hk:∀ v,K v->K' v) (h:vcCutLo lo n K):vcCutLo lo n K':=by
 unfold vcCutLo at h ⊢
 split at h
 ·exact hk _ h
 ·exact ⟨h.1,hk _ h.2⟩
 ·exact h.elim
theorem vcCut_mono {P:Program} {t:TypeId} {x:Value} {lo hi:Option Value} {K K':Value->Prop} (hk:∀ v,K v->K' v) (h:vcCut P t x lo hi K):vcCut P t x lo hi K':=by
 unfold vcCut at h ⊢
 split at h
 ·exact vcCutHi_mono (fun _ h=>vcCutLo_mono (fun _ h=>hk _ h) h) h
 ·rename_i e _ _ _ _
  cases he:(P.underlying e).isSome
  ·rw [he] at h;exact h.elim
  ·simp only [he,cond_true] at h ⊢
   exact vcCutHi_mono (fun _ h=>vcCutLo_mono (fun _ h=>hk _ h) h) h
 ·exact h.elim
theorem vcCut3_mono {P:Program} {t:TypeId} {x:Value} {lo:Option Value} {hi mx:Value} {K K':Value->Prop} (hk:∀ v,K v->K' v) (h:vcCut3 P t x lo hi mx K):vcCut3 P t x lo hi mx K':=by
 unfold vcCut3 at h ⊢
 split at h
 ·rename_i e _ _ _ _ _ _ _ _
  cases he:(P.underlying e).isSome
  ·rw [he] at h;exact h.elim
  ·simp only [he,cond_true] at h ⊢
   exact ⟨h.1,h.2.1,vcCutLo_mono (fun _ h=>hk _ h) h.2.2⟩
 ·exact h.elim
theorem vcDiv_out {P:Program} {op:BinOp} {t:TypeId} {xo yo:Operand} {x y:Value} {K:Value->Prop} (h:vcDiv op x y K):
  ∃ v,K v/\∀ w,(do eqGuard op t xo yo x y;binOp op t x y).run P w=.ok v w:=by
 unfold vcDiv at h
 split at h
 ·rename_i k a k' b
  cases hd:decide (k=k')
  ·rw [hd] at h;exact h.elim
  ·simp only [hd,cond_true] at h
   have hk:=of_decide_eq_true hd
   subst hk
   exact ⟨_,h.2,fun w=>by simp [eqGuard_quo,binOp_quo,Op.intDiv,h.1]⟩
 ·rename_i k a k' b
  cases hd:decide (k=k')
  ·rw [hd] at h;exact h.elim
  ·simp only [hd,cond_true] at h
   have hk:=of_decide_eq_true hd
   subst hk
   exact ⟨_,h.2,fun w=>by simp [eqGuard_rem,binOp_rem,Op.intDiv,h.1]⟩
 ·exact h.elim
theorem vcStrAt_out {P:Program} {t:TypeId} {x i:Value} {K:Value->Prop} (h:vcStrAt P t x i K):∃ v,K v/\∀ w,(Instr.index t x i).run P w=.ok v w:=by
 unfold vcStrAt at h
 split at h
 ·rename_i s k i hu
  obtain ⟨b,⟨hb1,hb2⟩,hk⟩:=h
  unfold byteAt at hb2
  exact ⟨_,hk,fun w=>by simp [Instr.index,asIntOf,run_under hu,hb1,hb2]⟩
 ·exact h.elim
theorem run_sliceBounds {P:Program} {sl:Bool} {lo hi:Option Value} {n m:Nat} {K:Nat->Nat->Prop} (h:vcCutHi hi n m fun h=>vcCutLo lo h fun l=>K l h):
  ∃ l h,K l h/\∀ w,(Instr.sliceBounds sl n m lo hi none).run P w=.ok (l,h,m) w:=by
 unfold vcCutHi at h
 split at h
 ·unfold vcCutLo at h
  split at h
  ·exact ⟨_,_,h,fun w=>by simp [Instr.sliceBounds]⟩
  ·exact ⟨_,_,h.2,fun w=>by simp [Instr.sliceBounds,Instr.sliceBound,asIntOf,h.1]⟩
  ·exact h.elim
 ·obtain ⟨hb,h⟩:=h
  unfold vcCutLo at h
  split at h
  ·exact ⟨_,_,h,fun w=>by simp [Instr.sliceBounds,Instr.sliceBound,asIntOf,hb]⟩
  ·obtain ⟨hc,h⟩:=h
   exact ⟨_,_,h,fun w=>by simp only [Instr.sliceBounds,Instr.sliceBound,asIntOf,Sem.run_bind,Sem.run_pure,Result.andThen_ok,hb,hc,and_self,if_true,Option.isSome_none,Bool.false_eq_true,if_false]⟩
  ·exact h.elim
 ·exact h.elim
theorem vcCut_out {P:Program} {t:TypeId} {x:Value} {lo hi:Option Value} {K:Value->Prop} (h:vcCut P t x lo hi K):∃ v,K v/\∀ w,(Instr.sliceAt t x lo hi none).run P w=.ok v w:=by
 unfold vcCut at h
 split at h
 ·rename_i s hu
  obtain ⟨l,hh,h,e⟩:=run_sliceBounds (P:=P) (sl:=false) (K:=fun l h=>K (.string (s.extract l h))) h
  exact ⟨_,h,fun w=>by simp only [Instr.sliceAt,Sem.run_bind,run_under hu,Result.andThen_ok,Instr.slice,Option.isSome_none,Bool.false_eq_true,if_false,e w,Sem.run_pure]⟩
 ·rename_i e a n c hu
  cases he:(P.underlying e).isSome
  ·rw [he] at h;exact h.elim
  ·simp only [he,cond_true] at h
   obtain ⟨d,hd⟩:=Option.isSome_iff_exists.1 he
   obtain ⟨l,hh,h,e⟩:=run_sliceBounds (P:=P) (sl:=true) (K:=fun l h=>K (.slice (if c=l then a else a.map (·.add (l*P.cellsOf e))) (h - l) (c - l))) h
   exact ⟨_,h,fun w=>by simp only [Instr.sliceAt,Sem.run_bind,run_under hu,Result.andThen_ok,Instr.slice,e w,run_sizeOf hd,Sem.run_pure]⟩
 ·exact h.elim
theorem vcCut3_out {P:Program} {t:TypeId} {x:Value} {lo:Option Value} {hi mx:Value} {K:Value->Prop} (h:vcCut3 P t x lo hi mx K):∃ v,K v/\∀ w,(Instr.sliceAt t x lo (some hi) (some mx)).run P w=.ok v w:=by
 unfold vcCut3 at h
 split at h
 ·rename_i e a n c k hh k' m hu
  cases he:(P.underlying e).isSome
  ·rw [he] at h;exact h.elim
  ·simp only [he,cond_true] at h
   obtain ⟨d,hd⟩:=Option.isSome_iff_exists.1 he
   obtain ⟨h1,h2,h⟩:=h
   unfold vcCutLo at h
   split at h
   ·exact ⟨_,h,fun w=>by simp only [Instr.sliceAt,Sem.run_bind,run_under hu,Result.andThen_ok,Instr.slice,Instr.sliceBounds,Instr.sliceBound,asIntOf,Sem.run_pure,h1,h2,and_self,if_true,Option.isSome_some,run_sizeOf hd]⟩
   ·obtain ⟨h3,h⟩:=h
    exact ⟨_,h,fun w=>by simp only [Instr.sliceAt,Sem.run_bind,run_under hu,Result.andThen_ok,Instr.slice,Instr.sliceBounds,Instr.sliceBound,asIntOf,Sem.run_pure,h1,h2,h3,and_self,if_true,Option.isSome_some,run_sizeOf hd]⟩
   ·exact h.elim
 ·exact h.elim
/-! ### Aggregates,lengths,min and max: the value alone,by lists -/
def setFrom (cs:List Value) (off:Nat):List Value->List Value
 | []=>cs
 | v::vs=>setFrom (cs.set off v) (off+1) vs
theorem setFrom_length:∀ (vs:List Value) (cs:List Value) (off:Nat),(setFrom cs off vs).length=cs.length
 | [],_,_=>rfl
 | v::vs,cs,off=>by simp [setFrom,setFrom_length vs]
def fillL (place:Nat->Option (Nat × Nat)) (cells:List Value):List (Nat × Value)->Option (List Value)
 | []=>some cells
 |(i,v)::rest=>
  match place i with
  | none=>none
  | some (off,size)=>bif Nat.beq v.cells.toList.length size && Nat.ble (off+v.cells.toList.length) cells.length then fillL place (setFrom cells off v.cells.toList) rest else none
theorem foldl_setFrom:∀ (vs:List Value) (cs:Array Value) (off k:Nat),(vs.zipIdx k).foldl (fun (cs:Array Value) (p:Value × Nat)=>cs.setIfInBounds (off+p.2) p.1) cs=(setFrom cs.toList (off+k) vs).toArray
 | [],cs,off,k=>by simp [setFrom]
 | v::vs,cs,off,k=>by
  simp only [List.zipIdx_cons,List.foldl_cons,setFrom]
  rw [foldl_setFrom vs]
  simp [Nat.add_assoc]
theorem fill_eq {place:Nat->Option (Nat × Nat)}:∀ (l:List (Nat × Value)) (cells:List Value) (r:List Value),fillL place cells l=some r->Instr.fill place cells.toArray l=some r.toArray
 | [],cells,r,h=>by simp only [fillL,Option.some.injEq] at h;subst h;rfl
 |(i,v)::rest,cells,r,h=>by
  simp only [fillL] at h
  unfold Instr.fill
  cases hp:place i with
  | none=>rw [hp] at h;cases h
  | some q=>
   obtain ⟨off,size⟩:=q
   rw [hp] at h
   simp only at h ⊢
   cases hc:(Nat.beq v.cells.toList.length size && Nat.ble (off+v.cells.toList.length) cells.length)
   ·rw [hc] at h;cases h
   ·simp only [hc,cond_true] at h
    simp only [Bool.and_eq_true] at hc
    have h1:=Nat.eq_of_beq_eq_true hc.1
    have h2:=Nat.le_of_ble_eq_true hc.2
    have hsz:v.cells.size=size:=by simpa using h1
    have hle:¬(off+v.cells.size>cells.toArray.size):=by simp at h2 ⊢;omega
    rw [if_neg (by simp only [ne_eq,hsz,not_true_eq_false,decide_false,Bool.false_or,decide_eq_true_eq];rw [<- hsz];exact hle)]
    have e:=foldl_setFrom v.cells.toList cells.toArray off 0
    have e2:v.cells.zipIdx.foldl (fun (cs:Array Value) (p:Value × Nat)=>cs.setIfInBounds (off+p.2) p.1) cells.toArray=(setFrom cells off v.cells.toList).toArray:=by
     rw [<- Array.foldl_toList,Array.toList_zipIdx]
     simpa using e
    show Instr.fill place (v.cells.zipIdx.foldl (fun (cs:Array Value) (p:Value × Nat)=>cs.setIfInBounds (off+p.2) p.1) cells.toArray) rest=_
    rw [e2]
    exact fill_eq rest _ r h
def zeroL (P:Program) (t:TypeId):Option (List Value):=(P.info? t).bind fun i=>i.zero.map fun v=>v.cells.toList
def knownAll (P:Program) (fs:List Field):Bool:=fs.all fun f=>(P.info? f.type).isSome
def vcBuild (P:Program) (t:TypeId) (parts:List (Nat × Value)) (K:Value->Prop):Prop:=
 match P.underlying t,zeroL P t with
 | some (.struct fs),some z=>bif knownAll P fs.toList then
   match fillL (fun i=>(fs.toList.map fun f=>(f.offset,P.cellsOf f.type))[i]?) z parts with
   | some cs=>K (.agg cs.toArray)
   | none=>False
  else False
 | some (.array _ e),some z=>bif (P.info? e).isSome then
   match fillL (fun i=>some (i*P.cellsOf e,P.cellsOf e)) z parts with
   | some cs=>K (.agg cs.toArray)
   | none=>False
  else False
 | _,_=>False
theorem run_sizeOf' {P:Program} {t:TypeId} (h:(P.info? t).isSome=true) (w:World):(sizeOf t).run P w=.ok (P.cellsOf t) w:=by
 obtain ⟨i,hi⟩:=Option.isSome_iff_exists.1 h
 simp [sizeOf,run_typeInfo hi,Program.cellsOf,hi]
theorem run_mapM_places {P:Program}:∀ (fs:List Field) (w:World),knownAll P fs=true->
  (fs.mapM fun f=>do pure (f.offset,<- sizeOf f.type):Sem (List (Nat × Nat))).run P w=.ok (fs.map fun f=>(f.offset,P.cellsOf f.type)) w
 | [],w,_=>rfl
 | f::fs,w,h=>by
  simp only [knownAll,List.all_cons,Bool.and_eq_true] at h
  have ih:=run_mapM_places fs w h.2
  simp only [List.mapM_cons,Sem.run_bind,run_sizeOf' h.1,Result.andThen_ok,Sem.run_pure,ih,List.map_cons]
theorem run_zero {P:Program} {t:TypeId} {z:List Value} (h:zeroL P t=some z) (w:World):∃ v,(zeroValue t).run P w=.ok v w/\v.cells.toList=z:=by
 unfold zeroL at h
 cases hi:P.info? t with
 | none=>rw [hi] at h;cases h
 | some i=>
  rw [hi] at h
  simp only [Option.bind_some] at h
  cases hz:i.zero with
  | none=>rw [hz] at h;cases h
  | some v=>
   rw [hz] at h
   simp only [Option.map_some,Option.some.injEq] at h
   exact ⟨v,by simp [zeroValue,run_typeInfo hi,hz],h⟩
theorem vcBuild_out {P:Program} {t:TypeId} {parts:List (Nat × Value)} {K:Value->Prop} (h:vcBuild P t parts K):∃ v,K v/\∀ w,(Instr.build t parts.toArray).run P w=.ok v w:=by
 unfold vcBuild at h
 split at h
 ·rename_i fs z hu hz
  cases hk:knownAll P fs.toList
  ·rw [hk] at h;exact h.elim
  ·simp only [hk,cond_true] at h
   split at h
   ·rename_i cs hf
    refine ⟨_,h,fun w=>?_⟩
    obtain ⟨v,hv,hvz⟩:=run_zero hz w
    have hvz':v.cells=z.toArray:=by rw [<- hvz]
    have hm:(fs.mapM fun f=>do pure (f.offset,<- sizeOf f.type):Sem (Array (Nat × Nat))).run P w=.ok (fs.toList.map fun f=>(f.offset,P.cellsOf f.type)).toArray w:=by
     rw [Array.mapM_eq_mapM_toList]
     simp only [Sem.run_map,run_mapM_places _ w hk,Result.andThen_ok]
    have hfill:=fill_eq _ _ _ hf
    simp only [Instr.build,Sem.run_bind,hv,Result.andThen_ok,run_under hu,Sem.run_pure,hm,hvz',List.getElem?_toArray,hfill]
   ·exact h.elim
 ·rename_i n e z hu hz
  cases hk:(P.info? e).isSome
  ·rw [hk] at h;exact h.elim
  ·simp only [hk,cond_true] at h
   split at h
   ·rename_i cs hf
    refine ⟨_,h,fun w=>?_⟩
    obtain ⟨v,hv,hvz⟩:=run_zero hz w
    have hvz':v.cells=z.toArray:=by rw [<- hvz]
    have hfill:=fill_eq _ _ _ hf
    simp only [Instr.build,Sem.run_bind,hv,Result.andThen_ok,run_under hu,Sem.run_pure,run_sizeOf' hk,hvz',hfill]
   ·exact h.elim
 ·exact h.elim
theorem vcBuild_mono {P:Program} {t:TypeId} {parts:List (Nat × Value)} {K K':Value->Prop} (hk:∀ v,K v->K' v) (h:vcBuild P t parts K):vcBuild P t parts K':=by
 unfold vcBuild at h ⊢
 split at h
 ·rename_i fs z _ _
  cases hk':knownAll P fs.toList
  ·rw [hk'] at h;exact h.elim
  ·simp only [hk',cond_true] at h ⊢
   split at h
   ·exact hk _ h
   ·exact h.elim
 ·rename_i n e z _ _
  cases hk':(P.info? e).isSome
  ·rw [hk'] at h;exact h.elim
  ·simp only [hk',cond_true] at h ⊢
   split at h
   ·exact hk _ h
   ·exact h.elim
 ·exact h.elim
def vcBuildSlice (P:Program) (t:TypeId) (n:Nat) (parts:List (Nat × Value)) (w:World) (K:Value->World->Prop):Prop:=
 match P.underlying t with
 | some (.slice e)=>
  match zeroL P e with
  | some z=>bif Nat.blt 0 (n*P.cellsOf e) && Nat.ble (n*P.cellsOf e) 16777216 && Nat.blt 0 z.length then
    match fillL (fun i=>some (i*P.cellsOf e,P.cellsOf e)) ((List.range (n*P.cellsOf e)).map fun i=>z.getD (i % z.length) default) parts with
    | some cs=>∀ w1,w1=w.alloc (.cells cs.toArray e)->K (.slice (some ⟨hs w,0,none⟩) n n) w1
    | none=>False
   else bif Nat.beq n 0 && (P.info? e).isSome then
    match parts with
    | []=>∀ w1,w1=w.alloc (.cells #[] e)->K (.slice (some ⟨hs w,0,none⟩) 0 0) w1
    | _=>False
   else False
  | none=>False
 | _=>False
theorem vcBuildSlice_sound {P:Program} {t:TypeId} {n:Nat} {parts:List (Nat × Value)} {w:World} {K:Value->World->Prop} (h:vcBuildSlice P t n parts w K):RunOk P (Instr.buildSlice t n parts.toArray) w K:=by
 unfold vcBuildSlice at h
 split at h
 ·rename_i e hu
  split at h
  ·rename_i z hz
   obtain ⟨v,hv,hvz⟩:=run_zero hz w
   have hvz':v.cells=z.toArray:=by rw [<- hvz]
   have hinfo:(P.info? e).isSome=true:=by
    unfold zeroL at hz
    cases hi:P.info? e with
    | none=>rw [hi] at hz;cases hz
    | some i=>rfl
   cases hc:(Nat.blt 0 (n*P.cellsOf e) && Nat.ble (n*P.cellsOf e) 16777216 && Nat.blt 0 z.length)
   ·simp only [hc,cond_false] at h
    cases hn:(Nat.beq n 0 && (P.info? e).isSome)
    ·rw [hn] at h;exact h.elim
    ·simp only [hn,cond_true] at h
     simp only [Bool.and_eq_true] at hn
     obtain rfl:=Nat.eq_of_beq_eq_true hn.1
     split at h
     ·refine ⟨_,_,?_,h _ rfl⟩
      simp [Instr.buildSlice,run_under hu,run_sizeOf' hinfo,Instr.fill,newRow,hs,Array.range_zero']
     ·exact h.elim
   ·simp only [hc,cond_true] at h
    simp only [Bool.and_eq_true] at hc
    obtain ⟨⟨h1,h2⟩,h3⟩:=hc
    have h1':0<n*P.cellsOf e:=by simpa [Nat.blt_eq] using h1
    have h2':=Nat.le_of_ble_eq_true h2
    have h3':0<z.length:=by simpa [Nat.blt_eq] using h3
    split at h
    ·rename_i cs hf
     refine ⟨_,_,?_,h _ rfl⟩
     have hfill:=fill_eq _ _ _ hf
     have hcells:(Array.range (n*P.cellsOf e)).map (fun i=>v.cells[i % v.cells.size]!)=((List.range (n*P.cellsOf e)).map fun i=>z.getD (i % z.length) default).toArray:=by
      rw [hvz']
      apply Array.ext'
      simp [Array.toList_range,List.getD_eq_getElem?_getD]
     have hg:¬(n*P.cellsOf e>2 ^ 24):=by omega
     have hne:¬(n*P.cellsOf e=0):=by omega
     simp only [Instr.buildSlice,Sem.run_bind,run_under hu,Result.andThen_ok,run_sizeOf' hinfo,hg,if_false,hne,hv,Sem.run_pure,hcells,hfill,newRow,run_newObj]
     rfl
    ·exact h.elim
  ·exact h.elim
 ·exact h.elim
theorem vcBuildSlice_mono {P:Program} {t:TypeId} {n:Nat} {parts:List (Nat × Value)} {w:World} {K K':Value->World->Prop} (hk:∀ v w,K v w->K' v w) (h:vcBuildSlice P t n parts w K):vcBuildSlice P t n parts w K':=by
 unfold vcBuildSlice at h ⊢
 split at h
 ·rename_i e _
  split at h
  ·rename_i z _
   cases hc:(Nat.blt 0 (n*P.cellsOf e) && Nat.ble (n*P.cellsOf e) 16777216 && Nat.blt 0 z.length)
   ·simp only [hc,cond_false] at h ⊢
    cases hn:(Nat.beq n 0 && (P.info? e).isSome)
    ·rw [hn] at h;exact h.elim
    ·simp only [hn,cond_true] at h ⊢
     split at h
     ·exact fun w1 e=>hk _ _ (h w1 e)
     ·exact h.elim
   ·simp only [hc,cond_true] at h ⊢
    split at h
    ·exact fun w1 e=>hk _ _ (h w1 e)
    ·exact h.elim
  ·exact h.elim
 ·exact h.elim
def vcField (P:Program) (t:TypeId) (x:Value) (f:Nat) (K:Value->Prop):Prop:=
 match P.underlying t,x with
 | some (.struct fs),.agg cs=>
  match fs.toList[f]? with
  | some fd=>bif isAggT P fd.type then K (.agg ((cs.toList.drop fd.offset).take (P.cellsOf fd.type)).toArray)
   else bif (P.underlying fd.type).isSome then
    match cs.toList[fd.offset]? with
    | some v=>K v
    | none=>False
   else False
  | none=>False
 | _,_=>False
theorem vcField_out {P:Program} {t:TypeId} {x:Value} {f:Nat} {K:Value->Prop} (h:vcField P t x f K):∃ v,K v/\∀ w,(Instr.field t x f).run P w=.ok v w:=by
 unfold vcField at h
 split at h
 ·rename_i fs cs hu
  split at h
  ·rename_i fd hfd
   have hfd':fs[f]?=some fd:=by simpa using hfd
   cases ha:isAggT P fd.type
   ·simp only [ha,cond_false] at h
    cases hs:(P.underlying fd.type).isSome
    ·rw [hs] at h;exact h.elim
    ·simp only [hs,cond_true] at h
     obtain ⟨d,hd⟩:=Option.isSome_iff_exists.1 hs
     split at h
     ·rename_i v hv
      have hv':cs[fd.offset]?=some v:=by simpa using hv
      exact ⟨v,h,fun w=>by simp [Instr.field,run_under hu,hfd',asAgg,part,run_isAgg hd,ha,hv']⟩
     ·exact h.elim
   ·simp only [ha,cond_true] at h
    have hd:∃ d,P.underlying fd.type=some d:=by
     unfold isAggT at ha
     cases hu':P.underlying fd.type with
     | none=>rw [hu'] at ha;cases ha
     | some d=>exact ⟨d,rfl⟩
    obtain ⟨d,hd⟩:=hd
    refine ⟨_,h,fun w=>?_⟩
    have e:cs.extract fd.offset (fd.offset+P.cellsOf fd.type)=((cs.toList.drop fd.offset).take (P.cellsOf fd.type)).toArray:=by
     apply Array.ext'
     simp [Array.toList_extract,List.extract_eq_take_drop]
    simp [Instr.field,run_under hu,hfd',asAgg,part,run_isAgg hd,ha,run_sizeOf hd,e]
  ·exact h.elim
 ·exact h.elim
theorem vcField_mono {P:Program} {t:TypeId} {x:Value} {f:Nat} {K K':Value->Prop} (hk:∀ v,K v->K' v) (h:vcField P t x f K):vcField P t x f K':=by
 unfold vcField at h ⊢
 split at h
 ·split at h
  ·rename_i fd _
   cases ha:isAggT P fd.type
   ·simp only [ha,cond_false] at h ⊢
    cases hs:(P.underlying fd.type).isSome
    ·rw [hs] at h;exact h.elim
    ·simp only [hs,cond_true] at h ⊢
     split at h
     ·exact hk _ h
     ·exact h.elim
   ·simp only [ha,cond_true] at h ⊢
    exact hk _ h
  ·exact h.elim
 ·exact h.elim
def minL:Value->List Value->Option Value
 | v,[]=>some v
 | .int k x,.int _ y::l=>minL (.int k (if y<x then y else x)) l
 | _,_=>none
def maxL:Value->List Value->Option Value
 | v,[]=>some v
 | .int k x,.int _ y::l=>maxL (.int k (if x<y then y else x)) l
 | _,_=>none
def builtinV (P:Program) (b:Builtin) (ats:List TypeId) (args:List Value):Option Value:=
 match b,args with
 | .len,[.string s]=>match ats with | t::_=>(match P.underlying t with | some .string=>some (goInt s.size) | _=>none) | []=>none
 | .len,[.slice _ n _]=>match ats with | t::_=>(match P.underlying t with | some (.slice _)=>some (goInt n) | _=>none) | []=>none
 | .len,[_]=>match ats with | t::_=>(match P.underlying t with | some (.array n _)=>some (goInt n) | _=>none) | []=>none
 | .cap,[.slice _ _ c]=>match ats with | t::_=>(match P.underlying t with | some (.slice _)=>some (goInt c) | _=>none) | []=>none
 | .min,v::l=>minL v l
 | .max,v::l=>maxL v l
 | _,_=>none
theorem foldlM_min {P:Program}:∀ (l:List Value) (v r:Value) (w:World),minL v l=some r->(l.foldlM Builtin.min2 v:Sem Value).run P w=.ok r w
 | [],v,r,w,h=>by simp only [minL,Option.some.injEq] at h;subst h;rfl
 | y::l,v,r,w,h=>by
  cases v <;> cases y <;> simp only [minL] at h <;> first
   | cases h
   | skip
  simp only [List.foldlM_cons,Builtin.min2,pure_bind]
  exact foldlM_min l _ r w h
theorem foldlM_max {P:Program}:∀ (l:List Value) (v r:Value) (w:World),maxL v l=some r->(l.foldlM Builtin.max2 v:Sem Value).run P w=.ok r w
 | [],v,r,w,h=>by simp only [maxL,Option.some.injEq] at h;subst h;rfl
 | y::l,v,r,w,h=>by
  cases v <;> cases y <;> simp only [maxL] at h <;> first
   | cases h
   | skip
  simp only [List.foldlM_cons,Builtin.max2,pure_bind]
  exact foldlM_max l _ r w h
theorem builtinV_run {P:Program} {b:Builtin} {ats:List TypeId} {args:List Value} {v:Value} {t:TypeId} {cs:Array Bool} (h:builtinV P b ats args=some v) (w:World):
  (builtin b ats.toArray t cs args.toArray).run P w=.ok (.value v) w:=by
 unfold builtinV at h
 split at h
 ·split at h
  ·split at h
   ·rename_i hu
    simp only [Option.some.injEq] at h;subst h
    simp [builtin,Builtin.len_,run_under hu]
   ·cases h
  ·cases h
 ·split at h
  ·split at h
   ·rename_i hu
    simp only [Option.some.injEq] at h;subst h
    simp [builtin,Builtin.len_,run_under hu]
   ·cases h
  ·cases h
 ·split at h
  ·split at h
   ·rename_i hu
    simp only [Option.some.injEq] at h;subst h
    simp [builtin,Builtin.len_,run_under hu]
   ·cases h
  ·cases h
 ·split at h
  ·split at h
   ·rename_i hu
    simp only [Option.some.injEq] at h;subst h
    simp [builtin,Builtin.cap_,run_under hu]
   ·cases h
  ·cases h
 ·rename_i v0 l
  simp only [builtin,Builtin.min_,Sem.run_bind]
  rw [foldlM_min l v0 v w h]
  rfl
 ·rename_i v0 l
  simp only [builtin,Builtin.max_,Sem.run_bind]
  rw [foldlM_max l v0 v w h]
  rfl
 ·cases h
theorem builtinV_op {P:Program} {ρ:Operand->Value} {b:Builtin} {args:Array Operand} {ats:Array TypeId} {v:Value} {t:TypeId} (h:builtinV P b ats.toList (args.toList.map ρ)=some v) (w:World):
  (do let d <- resolve ρ { callee:=.builtin b,args:=args,argTypes:=ats } t;invoke d.target d.args).run P w=.ok (.value v) w:=by
 have:=builtinV_run (t:=t) (cs:=args.map fun | .const _=>true | _=>false) h w
 rw [<- List.map_toArray,Array.toArray_toList,Array.toArray_toList] at this
 simp only [resolve,pure_bind,invoke]
 exact this
/-! ### One operation,by its kind -/
def vcOp0 (P:Program) (alt:Nat) (o:Oper) (ρ:Operand->Value) (w:World) (K:Value->World->Prop):Prop:=
 match alt with
 | 1=>vcRun P o ρ w K
 | 2=>match o.op with
  | .nilCheck x=>vcNil (ρ x) fun v=>K v w
  | .binOp op _ x y _=>vcDiv op (ρ x) (ρ y) fun v=>K v w
  | .index t x i=>vcStrAt P t (ρ x) (ρ i) fun v=>K v w
  | .slice t x lo hi none=>vcCut P t (ρ x) (lo.map ρ) (hi.map ρ) fun v=>K v w
  | .slice t x lo (some hi) (some mx)=>vcCut3 P t (ρ x) (lo.map ρ) (ρ hi) (ρ mx) fun v=>K v w
  | _=>False
 | 3=>match o.op with
  | .binOp op t x y _=>vcNilEq P op t (ρ x) (ρ y) fun v=>K v w
  | _=>False
 | _=>match o.op with
  | .load t x=>vcLoad P t (ρ x) w fun v=>K v w
  | .store t x v=>bif (P.underlying t).isSome then vcStore P t (ρ x) (ρ v) w fun w1=>K undef w1 else False
  | .indexAddr t x i=>vcIdx P t (ρ x) (ρ i) fun v=>K v w
  | .call { callee:=.value f,args:=args,.. }=>vcCall P (ρ f) (args.toList.map ρ) o.type w K
  | .call { callee:=.builtin b,args:=args,argTypes:=ats }=>match builtinV P b ats.toList (args.toList.map ρ) with
   | some v=>K v w
   | none=>False
  | .build t ps=>vcBuild P t (ps.toList.map fun (i,x)=>(i,ρ x)) fun v=>K v w
  | .buildSlice t n ps=>vcBuildSlice P t n (ps.toList.map fun (i,x)=>(i,ρ x)) w K
  | .field t x f=>vcField P t (ρ x) f fun v=>K v w
  | _=>vcSem P (execOp ρ o) (fun n w'=>match n with | .value v=>K v w' | .skip=>K undef w' | _=>False) w
theorem opOk_pure {P:Program} {s:Sem Value} {v:Value} {w:World} {K:Value->World->Prop} (h:∀ w,s.run P w=.ok v w) (hk:K v w):OpOk P (do pure (.value (<- s))) w K:=
 opOk_v ⟨v,w,h w,hk⟩
theorem vcOp0_default {P:Program} {o:Oper} {ρ:Operand->Value} {w:World} {K:Value->World->Prop}
  (h:vcSem P (execOp ρ o) (fun n w'=>match n with | .value v=>K v w' | .skip=>K undef w' | _=>False) w):OpOk P (execOp ρ o) w K:=by
 refine RunOk.mono (fun n w' h=>?_) (vcSem_sound h)
 cases n <;> first
  | exact h
  | exact h.elim
theorem vcOp0_sound {P:Program} {alt:Nat} {o:Oper} {ρ:Operand->Value} {w:World} {K:Value->World->Prop} (h:vcOp0 P alt o ρ w K):OpOk P (execOp ρ o) w K:=by
 unfold vcOp0 at h
 split at h
 ·exact vcRun_sound h
 ·obtain ⟨dst,op,type,pos,after,guard⟩:=o
  dsimp only at h
  split at h
  ·rename_i x
   unfold vcNil at h
   split at h
   ·rename_i q hq
    obtain ⟨a,rfl,h⟩:=h
    exact ⟨.value (.pointer (some a)),w,by simp [execOp,hq],h⟩
   ·exact h.elim
  ·obtain ⟨v,hk,hr⟩:=vcDiv_out (P:=P) h
   exact opOk_pure hr hk
  ·obtain ⟨v,hk,hr⟩:=vcStrAt_out h
   exact opOk_pure hr hk
  ·obtain ⟨v,hk,hr⟩:=vcCut_out h
   exact opOk_pure hr hk
  ·obtain ⟨v,hk,hr⟩:=vcCut3_out h
   exact opOk_pure hr hk
  ·exact h.elim
 ·obtain ⟨dst,op,type,pos,after,guard⟩:=o
  dsimp only at h
  split at h
  ·obtain ⟨v,hk,hr⟩:=vcNilEq_out h
   exact opOk_pure hr hk
  ·exact h.elim
 ·obtain ⟨dst,op,type,pos,after,guard⟩:=o
  dsimp only at h
  split at h
  ·exact opOk_v (vcLoad_sound h)
  ·rename_i t x v
   cases ht:(P.underlying t).isSome
   ·rw [ht] at h;exact h.elim
   ·rw [ht] at h
    exact opOk_u (vcStore_sound ht h)
  ·obtain ⟨v,hk,hr⟩:=vcIdx_out h
   exact opOk_pure hr hk
  ·exact vcCall_sound h
  ·split at h
   ·rename_i v hv
    exact ⟨.value v,w,builtinV_op hv w,h⟩
   ·exact h.elim
  ·obtain ⟨v,hk,hr⟩:=vcBuild_out h
   rw [<- List.map_toArray,Array.toArray_toList] at hr
   exact opOk_pure hr hk
  ·have:=vcBuildSlice_sound h
   rw [<- List.map_toArray,Array.toArray_toList] at this
   exact opOk_v this
  ·obtain ⟨v,hk,hr⟩:=vcField_out h
   exact opOk_pure hr hk
  ·exact vcOp0_default h
theorem vcOp0_mono {P:Program} {alt:Nat} {o:Oper} {ρ:Operand->Value} {w:World} {K K':Value->World->Prop} (hk:∀ v w,K v w->K' v w) (h:vcOp0 P alt o ρ w K):vcOp0 P alt o ρ w K':=by
 unfold vcOp0 at h ⊢
 split at h
 ·exact vcRun_mono hk h
 ·split at h
  ·exact vcNil_mono (fun v h=>hk _ _ h) h
  ·exact vcDiv_mono (fun v h=>hk _ _ h) h
  ·exact vcStrAt_mono (fun v h=>hk _ _ h) h
  ·exact vcCut_mono (fun v h=>hk _ _ h) h
  ·exact vcCut3_mono (fun v h=>hk _ _ h) h
  ·exact h.elim
 ·split at h
  ·exact vcNilEq_mono (fun v h=>hk _ _ h) h
  ·exact h.elim
 ·split at h
  ·exact vcLoad_mono (fun v h=>hk _ _ h) h
  ·rename_i t x v _
   cases ht:(P.underlying t).isSome
   ·rw [ht] at h;exact h.elim
   ·rw [ht] at h;exact vcStore_mono (fun w h=>hk _ _ h) h
  ·exact vcIdx_mono (fun v h=>hk _ _ h) h
  ·exact vcCall_mono hk h
  ·split at h
   ·exact hk _ _ h
   ·exact h.elim
  ·exact vcBuild_mono (fun v h=>hk _ _ h) h
  ·exact vcBuildSlice_mono hk h
  ·exact vcField_mono (fun v h=>hk _ _ h) h
  ·refine vcSem_mono (fun n w h=>?_) h
   cases n <;> first
    | exact hk _ _ h
    | exact h.elim
abbrev Marks:=List (Nat × Nat × Bool)
def markOf (ms:Marks) (i:Nat):Nat × Bool:=
 match ms with
 | []=>(0,false)
 |(j,a,b)::ms=>bif Nat.beq i j then (a,b) else markOf ms i
def vcOp (P:Program) (m:Nat × Bool) (o:Oper) (ρ:Operand->Value) (w:World) (K:Value->World->Prop):Prop:=
 bif m.2 then vcOp0 P m.1 o ρ w (boolSplit K) else vcOp0 P m.1 o ρ w K
theorem vcOp_sound {P:Program} {m:Nat × Bool} {o:Oper} {ρ:Operand->Value} {w:World} {K:Value->World->Prop} (h:vcOp P m o ρ w K):OpOk P (execOp ρ o) w K:=by
 unfold vcOp at h
 cases hm:m.2
 ·rw [hm] at h;exact vcOp0_sound h
 ·rw [hm] at h;exact (vcOp0_sound h).mono fun _ _ h=>boolSplit_out h
theorem vcOp_mono {P:Program} {m:Nat × Bool} {o:Oper} {ρ:Operand->Value} {w:World} {K K':Value->World->Prop} (hk:∀ v w,K v w->K' v w) (h:vcOp P m o ρ w K):vcOp P m o ρ w K':=by
 unfold vcOp at h ⊢
 cases hm:m.2
 ·rw [hm] at h;exact vcOp0_mono hk h
 ·rw [hm] at h;exact vcOp0_mono (fun _ _ h=>boolSplit_mono hk h) h
/-! ### A list of operations,in the text's order -/
def vcOps (P:Program) (ops:Array Oper) (ms:Marks):List Oper->Nat->Env->World->(Env->World->Prop)->Prop
 | [],_,ρ,w,K=>K ρ w
 | o::l,i,ρ,w,K=>
  bif Region.wanted o (yE ops ρ) then vcOp P (markOf ms i) o (ev ρ) w fun v w'=>vcOps P ops ms l (i+1) (ρ.put o.dst v) w' K
  else vcOps P ops ms l (i+1) (ρ.put o.dst undef) w K
def dstsIn (l:List Oper) (n:Nat):Bool:=l.all fun o=>dstIn o.dst n
def dsts (l:List Oper):List Nat:=l.filterMap (·.dst)
def OffEq (ds:List Nat) (ρ ρ':Env):Prop:=∀ i,ds.contains i=false->ρ' i=ρ i
theorem put_off {ρ:Env} {d:Option Nat} {v:Value} {i:Nat} (h:d≠some i):ρ.put d v i=ρ i:=by
 cases d with
 | none=>rfl
 | some d=>
  have:Nat.beq i d=false:=by
   cases hb:Nat.beq i d
   ·rfl
   ·exact absurd (congrArg some (Nat.eq_of_beq_eq_true hb).symm) h
  simp [Env.put,Env.upd,this]
theorem OffEq.refl (ds:List Nat) (ρ:Env):OffEq ds ρ ρ:=fun _ _=>rfl
theorem OffEq.trans {ds:List Nat} {a b c:Env} (h:OffEq ds a b) (k:OffEq ds b c):OffEq ds a c:=fun i hi=>(k i hi).trans (h i hi)
theorem OffEq.mono {ds es:List Nat} {a b:Env} (hs:∀ i,es.contains i=false->ds.contains i=false) (h:OffEq ds a b):OffEq es a b:=fun i hi=>h i (hs i hi)
theorem vcOps_mono {P:Program} {ops:Array Oper} {ms:Marks}:∀ (l:List Oper) (i:Nat) (ρ:Env) (w:World) (K K':Env->World->Prop),(∀ ρ' w',OffEq (dsts l) ρ ρ'->K ρ' w'->K' ρ' w')->
  vcOps P ops ms l i ρ w K->vcOps P ops ms l i ρ w K'
 | [],_,_,_,_,_,hk,h=>hk _ _ (OffEq.refl _ _) h
 | o::l,i,ρ,w,K,K',hk,h=>by
  have key:∀ v ρ' w',OffEq (dsts l) (ρ.put o.dst v) ρ'->K ρ' w'->K' ρ' w':=fun v ρ' w' ho hK=>hk _ _ (fun j hj=>by
   have h1:(dsts l).contains j=false/\o.dst≠some j:=by
    cases hd:o.dst with
    | none=>simp only [dsts,List.filterMap_cons,hd] at hj;exact ⟨hj,by simp⟩
    | some d=>
     simp only [dsts,List.filterMap_cons,hd,List.contains_cons,Bool.or_eq_false_iff] at hj
     exact ⟨hj.2,fun e=>by simp at e;subst e;simp at hj⟩
   rw [ho j h1.1,put_off h1.2]) hK
  simp only [vcOps] at h ⊢
  cases hw:Region.wanted o (yE ops ρ)
  ·rw [hw] at h;exact vcOps_mono l (i+1) _ w K K' (fun _ _=>key _ _ _) h
  ·rw [hw] at h;exact vcOp_mono (fun v w' h=>vcOps_mono l (i+1) _ w' K K' (fun _ _=>key _ _ _) h) h
structure Fits (n:Nat) (d:List Deferred) (a:Act) (ρ:Env):Prop where
 env:envOf a=ρ
 size:a.tmps.size=n
 defers:a.defers=d
theorem Fits.put {n:Nat} {d:List Deferred} {a:Act} {ρ:Env} (h:Fits n d a ρ) {dst:Option Nat} (hd:dstIn dst n=true) (v:Value):Fits n d (a.put dst v) (ρ.put dst v):=
 ⟨by rw [envOf_put (by rw [h.size];exact hd),h.env],by rw [size_put,h.size],by rw [<- h.defers];cases dst <;> rfl⟩
theorem Fits.eval {n:Nat} {d:List Deferred} {a:Act} {ρ:Env} (h:Fits n d a ρ):a.eval=ev ρ:=by rw [eval_envOf,h.env]
theorem vcOps_sound {P:Program} {r:Option Nat} {ops:Array Oper} {ms:Marks} {n:Nat} {d:List Deferred} {Q:Exit->Act->World->Prop}:∀ (l:List Oper) (i:Nat) (ρ:Env) (w:World) (a:Act),Fits n d a ρ->dstsIn l n=true->
  vcOps P ops ms l i ρ w (fun ρ' w'=>∀ a',Fits n d a' ρ'->Q .normal a' w')->wpListIn (FW r) 0 P ops Q l a w
 | [],_,_,_,a,hf,_,h=>h a hf
 | o::l,i,ρ,w,a,hf,hd,h=>by
  simp only [dstsIn,List.all_cons,Bool.and_eq_true] at hd
  simp only [vcOps] at h
  unfold wpListIn
  rw [yielded_envOf,hf.env]
  cases hw:Region.wanted o (yE ops ρ)
  ·rw [hw] at h
   exact ⟨fun _ _=>trivial,vcOps_sound l (i+1) _ w _ (hf.put hd.1 undef) hd.2 h⟩
  ·rw [hw] at h
   have:=vcOp_sound h
   rw [<- hf.eval] at this
   exact (wpIn_of_opOk (this.mono fun v w' h=>vcOps_sound l (i+1) _ w' _ (hf.put hd.1 v) hd.2 h))
end Go.Nf
