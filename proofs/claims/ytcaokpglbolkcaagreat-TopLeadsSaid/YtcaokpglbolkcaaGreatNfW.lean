import Derived.Test.YtcaokpglbolkcaaGreatNfM
import Derived.WalkKit
import Derived.ProofKit
import Derived.OpenShut
import Derived.ChangeOld
import Derived.Carry
set_option linter.unusedVariables false
namespace Go.Nf
open Go Go.ChangeShapes Go.WideShapes Go.RowKit
def Tru (w:World):Ending->World->Prop:=fun e w'=>e=.returned (.bool true)/\Grow w w'
inductive Lf where
 | int (k:IntKind)
 | bool
 | string
 | slice (t:TypeId)
section
variable {H:Type} (enc:TypeId × Value->H) (P:Program) (w:World)
def SlIn (t:TypeId) (c:Value):Prop:=∃ fuel x,DataW.trod enc P w 0 (fun _=>true) true fuel t [c]=some x
def Lf.Ok:Lf->Value->Prop
 | .int k,c=>∃ n,c=.int k n/\(Lit.int k n).wf=true
 | .bool,c=>∃ b,c=.bool b
 | .string,c=>∃ s,c=.string s/\s.size<=maxLen
 | .slice t,c=>SlIn enc P w t c
def FitsL:List Lf->List Value->Prop
 | [],[]=>True
 | l::ls,c::cs=>Lf.Ok enc P w l c/\FitsL ls cs
 | _,_=>False
end
section
variable (P:Program)
def fieldsL (g:TypeId->Option (List Lf)):Nat->List Field->Option (List Lf)
 | _,[]=>some []
 | off,x::xs=>
  match g x.type with
  | some l=>if x.offset=off/\l.length=P.cellsOf x.type then (fieldsL g (off+l.length) xs).map (l++·) else none
  | none=>none
def leafs:Nat->TypeId->Option (List Lf)
 | 0,_=>none
 | f+1,t=>
  match P.underlying t with
  | some .bool=>some [.bool]
  | some (.int k)=>some [.int k]
  | some .string=>some [.string]
  | some (.slice _)=>some [.slice t]
  | some (.struct fs)=>
   match fieldsL P (leafs f) 0 fs.toList with
   | some l=>if l.length=P.cellsOf t then some l else none
   | none=>none
  | some (.array n e)=>
   match leafs f e with
   | some l=>if l.length=P.cellsOf e/\n*l.length=P.cellsOf t then some (List.replicate n l).flatten else none
   | none=>none
  | _=>none
end
theorem mapM_mem {α β:Type} {f:α->Option β}:∀ (l:List α) (r:List β),l.mapM f=some r->∀ a∈l,∃ y,f a=some y:=by
 intro l r h a ha
 obtain ⟨i,hi,rfl⟩:=List.mem_iff_getElem.1 ha
 have e:=mapM_some_get h i _ (List.getElem?_eq_getElem hi)
 have hl:=mapM_some_length h
 exact ⟨_,e.trans (List.getElem?_eq_getElem (by omega))⟩
section
variable {H:Type} {enc:TypeId × Value->H} {P:Program} {w:World}
theorem FitsL.append:∀ {a b:List Lf} {x y:List Value},FitsL enc P w a x->FitsL enc P w b y->FitsL enc P w (a++b) (x++y)
 | [],b,[],y,_,h=>h
 | l::a,b,c::x,y,h,k=>⟨h.1,FitsL.append h.2 k⟩
 | [],_,_::_,_,h,_=>h.elim
 | _::_,_,[],_,h,_=>h.elim
theorem FitsL.icons {k:IntKind} {ls:List Lf} {cs:List Value} (h:FitsL enc P w (.int k::ls) cs):∃ n rest,cs=.int k n::rest/\(Lit.int k n).wf=true/\FitsL enc P w ls rest:=by
 cases cs with
 | nil=>exact h.elim
 | cons c rest=>
  obtain ⟨⟨n,rfl,h1⟩,h2⟩:=h
  exact ⟨n,rest,rfl,h1,h2⟩
theorem FitsL.nil {cs:List Value} (h:FitsL enc P w [] cs):cs=[]:=by
 cases cs with
 | nil=>rfl
 | cons c rest=>exact h.elim
theorem fields_fits {g:TypeId->Option (List Lf)} {cs:List Value}:∀ (fs:List Field) (off:Nat) (L:List Lf),fieldsL P g off fs=some L->
  (∀ x∈fs,∀ l,g x.type=some l->FitsL enc P w l ((cs.drop x.offset).take (P.cellsOf x.type)))->FitsL enc P w L ((cs.drop off).take L.length)
 | [],off,L,h,_=>by
  cases h
  simp [FitsL]
 | x::xs,off,L,h,k=>by
  simp only [fieldsL] at h
  split at h
  ·rename_i l hl
   split at h
   ·rename_i hc
    cases hr:fieldsL P g (off+l.length) xs with
    | none=>rw [hr] at h;cases h
    | some L'=>
     rw [hr] at h
     simp only [Option.map_some,Option.some.injEq] at h
     subst h
     have h1:=k x (List.mem_cons_self ..) l hl
     have h2:=fields_fits xs _ L' hr fun y hy=>k y (List.mem_cons_of_mem _ hy)
     rw [hc.1,<- hc.2] at h1
     rw [List.length_append,List.take_add,List.drop_drop]
     exact h1.append h2
   ·cases h
  ·cases h
theorem trod_fits:∀ (f:Nat) (ls:List Lf) (t:TypeId) (fuel:Nat) (cs:List Value) (x:DataW H × List MemPlace),
  leafs P f t=some ls->DataW.trod enc P w 0 (fun _=>true) true fuel t cs=some x->FitsL enc P w ls cs
 | 0,_,_,_,_,_,h,_=>by cases h
 | f+1,ls,t,0,cs,x,_,h=>by cases h
 | f+1,ls,t,fuel+1,cs,x,hl,h=>by
  simp only [leafs] at hl
  split at hl
  ·rename_i ht
   cases hl
   simp only [DataW.trod,ht] at h
   split at h <;> simp_all [FitsL,Lf.Ok]
  ·rename_i k ht
   cases hl
   simp only [DataW.trod,ht] at h
   split at h <;> simp_all [FitsL,Lf.Ok]
  ·rename_i ht
   cases hl
   simp only [DataW.trod,ht] at h
   split at h <;> simp_all [FitsL,Lf.Ok]
  ·rename_i e ht
   cases hl
   have:∃ c,cs=[c]:=by
    simp only [DataW.trod,ht] at h
    split at h <;> simp_all
   obtain ⟨c,rfl⟩:=this
   exact ⟨⟨fuel+1,x,h⟩,trivial⟩
  ·rename_i fs ht
   simp only [DataW.trod,ht] at h
   split at hl
   ·rename_i l hf
    split at hl
    ·rename_i hlen
     cases hl
     split at h
     ·rename_i hcl
      cases hm:(fs.toList.mapM fun f=>DataW.trod enc P w 0 (fun _=>true) true fuel f.type ((cs.drop f.offset).take (P.cellsOf f.type))) with
      | none=>rw [hm] at h;cases h
      | some ys=>
       have:=fields_fits (enc:=enc) (P:=P) (w:=w) (cs:=cs) fs.toList 0 ls hf fun y hy l hl=>by
        obtain ⟨z,hz⟩:=mapM_mem _ _ hm y hy
        exact trod_fits f l y.type fuel _ z hl hz
       rwa [List.drop_zero,hlen,<- hcl,List.take_length] at this
     ·cases h
    ·cases hl
   ·cases hl
  ·rename_i n e ht
   simp only [DataW.trod,ht] at h
   split at hl
   ·rename_i l hf
    split at hl
    ·rename_i hlen
     cases hl
     split at h
     ·rename_i hcl
      cases hm:((List.range n).mapM fun i=>DataW.trod enc P w 0 (fun _=>true) true fuel e ((cs.drop (i*P.cellsOf e)).take (P.cellsOf e))) with
      | none=>rw [hm] at h;cases h
      | some ys=>
       have key:∀ k,k<=n->FitsL enc P w (List.replicate k l).flatten (cs.take (k*P.cellsOf e)):=by
        intro k
        induction k with
        | zero=>intro _;simp [FitsL]
        | succ k ih=>
         intro hk
         obtain ⟨z,hz⟩:=mapM_mem _ _ hm k (by simp;omega)
         have h2:=trod_fits f l e fuel _ z hf hz
         rw [List.replicate_succ',List.flatten_append,Nat.succ_mul,List.take_add]
         refine (ih (by omega)).append ?_
         simpa using h2
       have:=key n (Nat.le_refl _)
       rwa [<- hlen.1,hlen.2,<- hcl,List.take_length] at this
     ·cases h
    ·cases hl
   ·cases hl
  ·cases hl
end
/-! ### Slices that came in -/
def Rd (w:World) (o:Option Addr) (size:Nat) (rows:List (List Value)):Prop:=
 ∀ i row,rows[i]?=some row->∃ a,o=some a/\∀ j v,row[j]?=some v->w.cell? ((a.add (i*size)).add j)=some v
theorem cell_block {w:World} {a:Addr} {v:Value} (h:w.cell? a=some v):a.block<hs w:=by
 rcases Nat.lt_or_ge a.block w.heap.size with hb | hb
 ·exact hb
 ·simp [World.cell?,Array.getElem?_eq_none hb] at h
theorem Rd.at {w:World} {o:Option Addr} {size:Nat} {rows:List (List Value)} (h:Rd w o size rows) {i:Nat} {row:List Value} (hr:rows[i]?=some row):
  ∃ a,o=some a/\∀ j v,row[j]?=some v->w.cell? ((a.add ((i:Int).toNat*size)).add j)=some v:=by
 rw [Int.toNat_natCast];exact h i row hr
theorem add_zero (a:Addr):a.add 0=a:=by
 unfold Addr.add
 split <;> simp_all <;> (cases a;simp_all)
section
variable {H:Type} {enc:TypeId × Value->H} {P:Program} {w:World}
theorem slice_in {t e:TypeId} {v:Value} {d:DataW H} {p:List MemPlace} (ht:P.underlying t=some (.slice e)) (hv:∃ base,Value.okWide P w .any base t v) (h:DataW.Trod enc P w 0 (fun _=>true) true t v d p):SlIn enc P w t v:=by
 obtain ⟨base,hv⟩:=hv
 obtain ⟨o,n,c,rfl⟩:=okWide_slice ht hv
 obtain ⟨fuel,h⟩:=h
 exact ⟨fuel,_,by simpa [Value.cells] using h⟩
theorem slIn_open {t e:TypeId} {c:Value} {f:Nat} {ls:List Lf} (ht:P.underlying t=some (.slice e)) (hls:leafs P f e=some ls) (h:SlIn enc P w t c):
  ∃ o n cc rows,c=.slice o n cc/\rows.length=n/\n<=maxLen/\Rd w o (P.cellsOf e) rows/\∀ row∈rows,FitsL enc P w ls row:=by
 obtain ⟨fuel,x,h⟩:=h
 cases fuel with
 | zero=>cases h
 | succ fuel=>
  simp only [DataW.trod,ht] at h
  split at h <;> first | (simp_all;done) | skip
  ·rename_i e1 e2
   cases e1
   simp only [List.cons.injEq,and_true] at e2
   exact ⟨none,0,0,[],e2,rfl,Nat.zero_le _,fun i row hr=>by simp at hr,fun row hr=>by simp at hr⟩
  ·rename_i a len cap e1 e2
   cases e1
   simp only [List.cons.injEq,and_true] at e2
   split at h
   ·rename_i hb
    cases hm:((List.range len).mapM fun i=>(w.cells? 0 (a.add (i*P.cellsOf e)) (P.cellsOf e)).bind (DataW.trod enc P w 0 (fun _=>true) true fuel e)) with
    | none=>rw [hm] at h;cases h
    | some ys=>
     have key:∀ i,i<len->∃ cs y,w.cells? 0 (a.add (i*P.cellsOf e)) (P.cellsOf e)=some cs/\DataW.trod enc P w 0 (fun _=>true) true fuel e cs=some y:=fun i hi=>by
      obtain ⟨y,hy⟩:=mapM_mem _ _ hm i (by simpa using hi)
      simp only [Option.bind_eq_some_iff] at hy
      obtain ⟨cs,h1,h2⟩:=hy
      exact ⟨cs,y,h1,h2⟩
     refine ⟨some a,len,cap,(List.range len).map fun i=>(w.cells? 0 (a.add (i*P.cellsOf e)) (P.cellsOf e)).getD [],e2,by simp,by omega,fun i row hr=>?_,fun row hr=>?_⟩
     ·simp only [List.getElem?_map,Option.map_eq_some_iff] at hr
      obtain ⟨i',hi',rfl⟩:=hr
      have hlt:i<len:=by
       rcases Nat.lt_or_ge i len with h | h
       ·exact h
       ·rw [List.getElem?_eq_none (by simpa using h)] at hi';cases hi'
      rw [List.getElem?_range hlt] at hi'
      cases hi'
      obtain ⟨cs,y,h1,h2⟩:=key i hlt
      rw [h1]
      refine ⟨a,rfl,fun j v hj=>?_⟩
      obtain ⟨_,h4,h5⟩:=World.cells?_some h1
      have hjl:j<cs.length:=by
       rcases Nat.lt_or_ge j cs.length with h | h
       ·exact h
       ·rw [show (some cs).getD []=cs from rfl,List.getElem?_eq_none h] at hj;cases hj
      rw [h5 j (by omega)];exact hj
     ·simp only [List.mem_map,List.mem_range] at hr
      obtain ⟨i,hi,rfl⟩:=hr
      obtain ⟨cs,y,h1,h2⟩:=key i hi
      rw [h1]
      exact trod_fits f ls e fuel cs y hls h2
   ·cases h
end
/-! ### The end -/
theorem trodAll_below {H:Type} {enc:TypeId × Value->H} {P:Program} (hl:laidOutB P=true) {W W':World} (hb:Below W.heap.size W W'):
  ∀ (ts:List TypeId) (vs:List Value) (ds:List (DataW H)) (ps:List MemPlace),(ts.all fun t=>P.readableRec t && decide (t<P.types.size))=true->
   DataW.TrodAll enc P W 0 (fun _=>true) true ts vs ds ps->DataW.TrodAll enc P W' 0 (fun b=>decide (b<W.heap.size)) true ts vs ds ps
 | [],vs,ds,ps,_,h=>by
  obtain ⟨rfl,rfl,rfl⟩:=trodAll_nil h
  exact trodAll_mk0
 | t::ts,vs,ds,ps,ht,h=>by
  obtain ⟨v,vs',d,ds',p,q,rfl,rfl,rfl,h1,h2⟩:=trodAll_cons h
  simp only [List.all_cons,Bool.and_eq_true,decide_eq_true_eq] at ht
  have lt:∀ x∈p,x.block<W.heap.size:=by obtain ⟨m,hm⟩:=h1;exact DataW.trod_lt m _ _ _ hm
  exact trodAll_cons_mk (Below.trod hl ht.1.1 ht.1.2 h1 hb lt) (trodAll_below hl hb ts vs' ds' q ht.2 h2)
theorem trodAll_len {H:Type} {enc:TypeId × Value->H} {P:Program} {w:World}:∀ {ts:List TypeId} {vs:List Value} {ds:List (DataW H)} {ps:List MemPlace},DataW.TrodAll enc P w 0 (fun _=>true) true ts vs ds ps->ds.length=ts.length
 | [],_,_,_,h=>by
  obtain ⟨rfl,rfl,_⟩:=trodAll_nil h
  rfl
 | _::_,_,_,_,h=>by
  obtain ⟨_,_,_,_,_,_,rfl,rfl,rfl,_,h2⟩:=trodAll_cons h
  simp [trodAll_len h2]
theorem lift_true {C:Checked} {F:FuncId} {f:Func} {s:ChangeSpec} {os:Os} {H:Type} {enc:TypeId × Value->H} {ts:List TypeId} {tb:TypeId}
  (own:ownKnob C.prog.godebug=none) (lo:laidOutB C.prog=true) (started:os.Started) (noInit:C.prog.inits.idxOf? F=none) (hfn:C.prog.funcs[F]?=some f)
  (hts:f.params.toList=ts) (hgood:(ts.all fun t=>C.prog.readableRec t && decide (t<C.prog.types.size))=true) (hres:f.resultTypes=#[tb]) (hbool:C.prog.underlying tb=some .bool)
  (hvars:s.vars=[]) (hs:∀ ds:List (DataW H),ds.length=ts.length->(s.fn H ds).results=[.lit (.bool true)]/\(s.fn H ds).args=ds/\(s.fn H ds).vars=[])
  (witness:∃ (w:World) (tape:Tape) (i:Input),w.os=os/\(w.forCall tape i).Shaped C.prog/\i.vars=[]/\Input.okWide C.prog (w.forCall tape i) .any w.heap.size F i/\
   s.pre6 enc C.prog f [] false (w.forCall tape i).memory i.args/\({}:Assume).holds C.prog (lone (Frame.enter C.prog F i.args .normal) [] (w.forCall tape i)))
  (law:∀ (W:World) (args:List Value) (ds:List (DataW H)) (ps:List MemPlace),(∀ (j:Nat) t v,ts[j]?=some t->args[j]?=some v->∃ base,Value.okWide C.prog W .any base t v)->
   DataW.TrodAll enc C.prog W 0 (fun _=>true) true ts args ds ps->Calls C.prog F args.toArray W (Tru W)):
  ReturnsInHanded {} C os F .any (s.pre6 enc C.prog f [] false) (s.post enc C.prog f false true false false):=by
 subst hts
 refine returnsInHanded_of_change (C:=C) own started noInit hfn witness ?_
 intro W base args ds gs before hval hW hcnd _
 have hW':=hW
 obtain ⟨p,q,hA,hV,rfl,hfz,hnd⟩:=hW
 rw [hvars] at hV
 obtain ⟨rfl,rfl⟩:=trodVars_none hV
 have hlen:=trodAll_len hA
 refine (law W args.toList ds p (fun j t v h1 h2=>⟨base,hval j t v (by simpa using h1) (by simpa using h2)⟩) hA).mono fun e W' ⟨he,g⟩=>?_
 subst he
 have bel:=grow_below g
 obtain ⟨k1,k2,k3⟩:=hs ds hlen
 refine ⟨_,rfl,ds,[],_,[],p,[],hW',?_,?_,?_,bel.frame _,fun h=>by cases h⟩
 ·rw [List.append_nil,k1,hres]
  exact trodAll_mk1 (shut_bool hbool _)
 ·rw [List.append_nil,k2]
  exact trodAll_below lo bel _ _ _ _ hgood hA
 ·rw [List.append_nil,k3,hvars];rfl
end Go.Nf
