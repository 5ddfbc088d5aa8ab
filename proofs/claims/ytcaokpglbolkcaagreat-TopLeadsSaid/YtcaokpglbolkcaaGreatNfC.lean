import Derived.Test.YtcaokpglbolkcaaGreatNfB
import Derived.OrdersHeld
namespace Go.Nf
open Go
section
variable {P:Program} {ops:Array Oper} {Q:Exit->Act->World->Prop} {md:Region.Mode} {r:Option Nat}
def noDefer (ops:Array Oper):Bool:=ops.all fun o=>match o.op with | .defer _=>false | _=>true
theorem noDefer_spec (h:noDefer ops=true) (j:Nat) (o:Oper) (ho:ops[j]?=some o) (c:Call):o.op≠.defer c:=fun e=>by
 have:=(Array.all_eq_true'.1 h) o (Array.mem_of_getElem? ho)
 rw [e] at this
 cases this
theorem yieldsIf_wpOpIn {S:World->Prop} {i:Nat} {o:Oper} {v:Value} {a:Act} (hi:ops[i]?=some o) (hnd:∀ c,o.op≠.defer c) (hy:YieldsIf P ops S o v a)
  {K:Act->World->Prop} {w:World} (hS:S w) (h:K (a.put o.dst v) w):wpOpIn (FW r) 0 P ops Q i K a w:=by
 unfold Go.wpOpIn
 simp only [hi]
 rcases hy with ⟨hw,hv⟩ | ⟨hw,rfl⟩
 ·simp only [hw,if_true,Oper.wpIn]
  refine ⟨fun _ _=>trivial,?_⟩
  rw [Oper.semAt_eq _ _ _ hnd,hv w hS]
  exact h
 ·simp only [hw,Bool.false_eq_true,if_false];exact ⟨fun _ _=>trivial,h⟩
theorem wpOpIn_putIf {S:World->Prop} {j:Nat} {oi oj:Oper} {v:Value} (hj:ops[j]?=some oj) (hap:oi.apart ops oj=true)
  (hsi:∀ cs b,oi.op≠.select cs b) (hsj:∀ cs b,oj.op≠.select cs b) (hnj:∀ c,oj.op≠.defer c)
  (hQ:∀ c a w,Q (.panic c) (a.put oi.dst v) w->Q (.panic c) a w) {K:Act->World->Prop} {a:Act} {w:World}
  (hy:YieldsIf P ops S oi v a) (h:wpOpIn (FW r) 0 P ops Q j K (a.put oi.dst v) w):
  wpOpIn (FW r) 0 P ops Q j (fun a' w'=>YieldsIf P ops S oi v a'/\K (a'.put oi.dst v) w') a w:=by
 obtain ⟨h1,h2,h3⟩:=Oper.apart_spec hap
 have keep:∀ (a:Act),YieldsIf P ops S oi v a->∀ u,YieldsIf P ops S oi v (a.put oj.dst u):=fun a hy u=>
  hy.of_same (execOp_put oi hsi a oj.dst u h3) (wanted_put oi a oj.dst u h3)
 have keepD:∀ d,YieldsIf P ops S oi v { a with defers:=d::a.defers }:=fun d=>hy.of_same rfl rfl
 unfold wpOpIn at*
 simp only [hj] at*
 rw [wanted_put oj a oi.dst v h1] at h
 split
 ·rename_i hw
  simp only [hw,if_true] at h
  unfold Oper.wpIn at*
  refine ⟨fun _ _=>trivial,?_⟩
  have h:=h.2
  rw [Oper.semAt_eq _ _ _ hnj,execOp_put oj hsj a oi.dst v h1] at h
  rw [Oper.semAt_eq _ _ _ hnj]
  generalize (execOp a.eval oj).run P w=r at*
  cases r with
  | ok n w'=>
   cases n <;> simp only [Oper.uponIn] at h ⊢
   case value u=>exact ⟨keep a hy u,by rw [<- Act.put_comm a v u h2];exact h⟩
   case skip=>exact ⟨keep a hy _,by rw [<- Act.put_comm a v undef h2];exact h⟩
   case defer d=>
    refine ⟨keep _ (keepD d) _,?_⟩
    rw [<- Act.put_comm _ v undef h2,<- Act.put_defers]
    exact h
   case enter f args=>
    refine ⟨h.1,CallsIn.mono h.2 fun e w'' he=>?_⟩
    cases e with
    | returned u=>exact ⟨keep a hy u,by rw [<- Act.put_comm a v u h2];exact he⟩
    | panicked c=>exact hQ _ _ _ he
    | outgrown=>exact he
   case row row args=>exact ⟨h.1,RowsIn.mono h.2 fun u w'' he=>⟨keep a hy u,by rw [<- Act.put_comm a v u h2];exact he⟩⟩
   case round l f tmps assign body=>
    refine ⟨h.1,RoundIn.mono h.2 fun e w'' he=>?_⟩
    cases e with
    | returned u=>exact ⟨keep a hy u,by rw [<- Act.put_comm a v u h2];exact he⟩
    | panicked c=>exact hQ _ _ _ he
    | outgrown=>exact he
  | halt x w'=>
   cases x <;> simp only [Oper.uponIn] at h ⊢
   case panic u=>exact hQ _ _ _ h
 ·rename_i hw
  simp only [hw] at h
  exact ⟨fun _ _=>trivial,keep a hy _,by rw [<- Act.put_comm a v undef h2];exact h.2⟩
def wpAnyS (r:Option Nat) (P:Program) (md:Region.Mode) (ops:Array Oper) (Q:Exit->Act->World->Prop) (S:Array Bool->World->Prop):Nat->Array Bool->Act->World->Prop
 | 0,listed,a,w=>Region.ready md ops listed=[]/\Q .normal a w
 | fuel+1,listed,a,w=>
  (Region.ready md ops listed=[]->Q .normal a w)/\
  ∀ i∈Region.ready md ops listed,wpOpIn (FW r) 0 P ops Q i (fun a' w'=>S (listed.setIfInBounds i true) w'/\wpAnyS r P md ops Q S fuel (listed.setIfInBounds i true) a' w') a w
theorem wpAny_of_S {S:Array Bool->World->Prop}:∀ (fuel:Nat) (listed:Array Bool) (a:Act) (w:World),wpAnyS r P md ops Q S fuel listed a w->wpAnyIn (FW r) 0 P md ops Q fuel listed a w
 | 0,_,_,_,h=>h
 | fuel+1,_,_,_,h=>⟨h.1,fun i hi=>wpOpIn_mono (fun a' w' h'=>wpAny_of_S fuel _ a' w' h'.2) (h.2 i hi)⟩
theorem wpAnyS_weaken {S S':Array Bool->World->Prop} (hs:∀ L w,S L w->S' L w):∀ (fuel:Nat) (listed:Array Bool) (a:Act) (w:World),wpAnyS r P md ops Q S fuel listed a w->wpAnyS r P md ops Q S' fuel listed a w
 | 0,_,_,_,h=>h
 | fuel+1,_,_,_,h=>⟨h.1,fun i hi=>wpOpIn_mono (fun a' w' h'=>⟨hs _ _ h'.1,wpAnyS_weaken hs fuel _ a' w' h'.2⟩) (h.2 i hi)⟩
def Closed (md:Region.Mode) (ops:Array Oper) (L:Array Bool):Prop:=
 ∀ j oj,ops[j]?=some oj->L.getD j false=true->∀ e∈oj.after,Region.binds md e=true->L.getD e.on false=true
theorem getD_set_mono {L:Array Bool} {i j:Nat} (h:L.getD j false=true):(L.setIfInBounds i true).getD j false=true:=by
 rcases Nat.lt_or_ge j L.size with hj | hj
 ·by_cases hij:i=j
  ·subst hij;simp [Array.getD_eq_getD_getElem?,hj]
  ·simpa [Array.getD_eq_getD_getElem?,Array.getElem?_setIfInBounds_ne hij] using h
 ·simp [Array.getD_eq_getD_getElem?,Array.getElem?_eq_none hj] at h
theorem getD_set_inv {L:Array Bool} {i j:Nat} (h:(L.setIfInBounds i true).getD j false=true):j=i\/L.getD j false=true:=by
 by_cases hij:i=j
 ·exact .inl hij.symm
 ·right;simpa [Array.getD_eq_getD_getElem?,Array.getElem?_setIfInBounds_ne hij] using h
theorem Closed.set {L:Array Bool} {i:Nat} (h:Closed md ops L) (hr:i∈Region.ready md ops L):Closed md ops (L.setIfInBounds i true):=by
 intro j oj hj hl e he hb
 rcases getD_set_inv hl with rfl | hl
 ·obtain ⟨_,o,ho,hall⟩:=mem_ready.1 hr
  rw [hj] at ho
  cases ho
  exact getD_set_mono (hall e he hb)
 ·exact getD_set_mono (h j oj hj hl e he hb)
theorem wpAnyS_first {S:Array Bool->World->Prop} {Y:World->Prop} {Alive:Array Bool->Prop} {i:Nat} {oi:Oper} {v:Value} (hi:ops[i]?=some oi)
  (hnd:∀ (j:Nat) (o:Oper),ops[j]?=some o->∀ c,o.op≠.defer c) (hsel:∀ (j:Nat) (o:Oper) cs b,ops[j]?=some o->o.op≠.select cs b) (hQ:∀ c a w,Q (.panic c) (a.put oi.dst v) w->Q (.panic c) a w)
  (hSi:∀ L w,S (L.setIfInBounds i true) w->S L w) (hAl:∀ L,Closed md ops L->L.getD i true=false->Alive (L.setIfInBounds i true)):
  ∀ (fuel:Nat) (listed:Array Bool) (a:Act) (w:World),Closed md ops listed->
   (∀ j oj,ops[j]?=some oj->j≠i->listed.getD j true=false->(∀ e∈oj.after,Region.binds md e=true->e.on≠i)->oi.apart ops oj=true)->
   i∈Region.ready md ops listed->YieldsIf P ops Y oi v a->Y w->S (listed.setIfInBounds i true) w->
   wpAnyS r P md ops Q (fun L w=>S L w/\(Alive L->Y w)) fuel (listed.setIfInBounds i true) (a.put oi.dst v) w->wpAnyS r P md ops Q S (fuel+1) listed a w:=by
 intro fuel
 induction fuel with
 | zero=>
  intro listed a w _ _ hr hy hY hS H
  refine ⟨fun h=>(by rw [h] at hr;cases hr),fun j hj=>?_⟩
  by_cases hji:j=i
  ·subst hji;exact yieldsIf_wpOpIn hi (hnd _ _ hi) hy hY ⟨hS,H⟩
  ·have:=ready_mono hj hji
   rw [H.1] at this
   cases this
 | succ fuel ih=>
  intro listed a w hcl hfree hr hy hY hS H
  refine ⟨fun h=>(by rw [h] at hr;cases hr),fun j hj=>?_⟩
  by_cases hji:j=i
  ·subst hji;exact yieldsIf_wpOpIn hi (hnd _ _ hi) hy hY ⟨hS,wpAnyS_weaken (fun _ _ h=>h.1) _ _ _ _ H⟩
  ·have h1:=H.2 j (ready_mono hj hji)
   obtain ⟨hjun,oj,hoj,hall⟩:=mem_ready.1 hj
   have hnot:∀ e∈oj.after,Region.binds md e=true->e.on≠i:=fun e he hb heq=>by
    have h1:=hall e he hb
    have h0:=(mem_ready.1 hr).1
    rw [heq] at h1
    rcases Nat.lt_or_ge i listed.size with h' | h'
    ·simp [h'] at h0 h1;rw [h0] at h1;cases h1
    ·simp [Array.getElem?_eq_none h'] at h1
   have h2:=wpOpIn_putIf hoj (hfree j oj hoj hji hjun hnot) (fun cs b=>hsel i oi cs b hi) (fun cs b=>hsel j oj cs b hoj) (hnd j oj hoj) hQ hy h1
   have hfree':∀ k ok,ops[k]?=some ok->k≠i->(listed.setIfInBounds j true).getD k true=false->
     (∀ e∈ok.after,Region.binds md e=true->e.on≠i)->oi.apart ops ok=true:=fun k ok hk hki hun hno=>by
    refine hfree k ok hk hki ?_ hno
    by_cases hjk:j=k
    ·subst hjk;exact hjun
    ·rw [getD_set_ne true hjk] at hun;exact hun
   have hiun:(listed.setIfInBounds j true).getD i true=false:=by
    rw [getD_set_ne true hji];exact (mem_ready.1 hr).1
   have hcl':=hcl.set hj
   refine wpOpIn_mono (fun a' w' h3=>?_) h2
   obtain ⟨hy',⟨hS',hA'⟩,hrest⟩:=h3
   have hcomm:=Array.setIfInBounds_comm (xs:=listed) true true hji
   rw [<- hcomm] at hS' hA' hrest
   have hY':Y w':=hA' (hAl _ hcl' hiun)
   refine ⟨hSi _ _ hS',ih (listed.setIfInBounds j true) a' w' hcl' hfree' (ready_mono hr (Ne.symm hji)) hy' hY' hS' hrest⟩
end
/-! ### What is asked of such a region -/
def reach (md:Region.Mode) (ops:Array Oper):Nat->Nat->Nat->Bool
 | 0,_,_=>false
 | n+1,j,i=>
  match ops[j]? with
  | some o=>o.after.any fun e=>Region.binds md e && (Nat.beq e.on i || reach md ops n e.on i)
  | none=>false
theorem reach_listed {md:Region.Mode} {ops:Array Oper} {L:Array Bool} (hc:Closed md ops L):∀ (n j i:Nat),reach md ops n j i=true->L.getD j false=true->L.getD i false=true
 | 0,_,_,h,_=>by simp [reach] at h
 | n+1,j,i,h,hj=>by
  unfold reach at h
  cases ho:ops[j]? with
  | none=>rw [ho] at h;cases h
  | some o=>
   rw [ho] at h
   simp only [Array.any_eq_true,Bool.and_eq_true,Bool.or_eq_true] at h
   obtain ⟨k,hk,hb,h⟩:=h
   have he:=hc j o ho hj _ (Array.getElem_mem hk) hb
   rcases h with h | h
   ·rw [<- Nat.eq_of_beq_eq_true h];exact he
   ·exact reach_listed hc n _ _ h he
def dead (md:Region.Mode) (ops:Array Oper) (effs:List Nat) (L:Array Bool) (i:Nat):Bool:=effs.any fun j=>L.getD j false && reach md ops ops.size j i
abbrev HeldL:=List (Nat × (World->Prop))
def heldAll (dd:Nat->Bool) (w:World) (K:Prop):HeldL->Prop
 | []=>K
 |(i,Y)::hd=>bif dd i then heldAll dd w K hd else Y w/\heldAll dd w K hd
theorem heldAll_out {dd:Nat->Bool} {w:World} {K:Prop}:∀ {hd:HeldL},heldAll dd w K hd->K/\∀ p∈hd,dd p.1=false->p.2 w
 | [],h=>⟨h,by simp⟩
 |(i,Y)::hd,h=>by
  simp only [heldAll] at h
  cases hi:dd i
  ·rw [hi] at h
   obtain ⟨h1,h2⟩:=heldAll_out h.2
   refine ⟨h1,fun p hp hd=>?_⟩
   rcases List.mem_cons.1 hp with rfl | hp
   ·exact h.1
   ·exact h2 p hp hd
  ·rw [hi] at h
   obtain ⟨h1,h2⟩:=heldAll_out h
   refine ⟨h1,fun p hp hd=>?_⟩
   rcases List.mem_cons.1 hp with rfl | hp
   ·rw [hi] at hd;cases hd
   ·exact h2 p hp hd
theorem heldAll_mono {dd:Nat->Bool} {w:World} {K K':Prop} (hk:K->K'):∀ {hd:HeldL},heldAll dd w K hd->heldAll dd w K' hd
 | [],h=>hk h
 |(i,Y)::hd,h=>by
  simp only [heldAll] at h ⊢
  cases hi:dd i
  ·rw [hi] at h;exact ⟨h.1,heldAll_mono hk h.2⟩
  ·rw [hi] at h;exact heldAll_mono hk h
def vcTake0 (P:Program) (alt:Nat) (o:Oper) (ρ:Operand->Value) (w:World) (K:Value->Option (World->Prop)->Prop):Prop:=
 match alt with
 | 2=>match o.op with
  | .nilCheck x=>vcNil (ρ x) fun v=>K v none
  | .binOp op _ x y _=>vcDiv op (ρ x) (ρ y) fun v=>K v none
  | .index t x i=>vcStrAt P t (ρ x) (ρ i) fun v=>K v none
  | .slice t x lo hi none=>vcCut P t (ρ x) (lo.map ρ) (hi.map ρ) fun v=>K v none
  | .slice t x lo (some hi) (some mx)=>vcCut3 P t (ρ x) (lo.map ρ) (ρ hi) (ρ mx) fun v=>K v none
  | _=>False
 | 3=>match o.op with
  | .binOp op t x y _=>vcNilEq P op t (ρ x) (ρ y) fun v=>K v none
  | _=>False
 | _=>match o.op with
  | .load t x=>match ρ x with
   | .pointer (some a)=>vcLoad P t (.pointer (some a)) w fun v=>K v (some fun w'=>Kept w w' a (loadN P t))
   | _=>False
  | .indexAddr t x i=>vcIdx P t (ρ x) (ρ i) fun v=>K v none
  | .call { callee:=.builtin b,args:=args,argTypes:=ats }=>match builtinV P b ats.toList (args.toList.map ρ) with
   | some v=>K v none
   | none=>False
  | .build t ps=>vcBuild P t (ps.toList.map fun (i,x)=>(i,ρ x)) fun v=>K v none
  | .field t x f=>vcField P t (ρ x) f fun v=>K v none
  | _=>match pureRun P (execOp ρ o) with
   | some (.value v)=>K v none
   | _=>False
def boolSplitT (K:Value->Option (World->Prop)->Prop) (v:Value) (Y:Option (World->Prop)):Prop:=
 match v with
 | .bool b=>(b=true->K (.bool true) Y)/\(b=false->K (.bool false) Y)
 | v=>K v Y
theorem boolSplitT_out {K:Value->Option (World->Prop)->Prop} {v:Value} {Y:Option (World->Prop)} (h:boolSplitT K v Y):K v Y:=by
 cases v <;> first
  | exact h
  | skip
 rename_i b
 cases b
 ·exact h.2 rfl
 ·exact h.1 rfl
def vcTake (P:Program) (m:Nat × Bool) (o:Oper) (ρ:Operand->Value) (w:World) (K:Value->Option (World->Prop)->Prop):Prop:=
 bif m.2 then vcTake0 P m.1 o ρ w (boolSplitT K) else vcTake0 P m.1 o ρ w K
def meets (Y:Option (World->Prop)) (w:World):Prop:=
 match Y with
 | some Y=>Y w
 | none=>True
theorem run_v {P:Program} {s:Sem Value} {v:Value} {w:World} (h:s.run P w=.ok v w):(do pure (.value (<- s)):Sem Next).run P w=.ok (.value v) w:=by
 simp [h]
theorem vcTake0_out {P:Program} {alt:Nat} {o:Oper} {ρ:Operand->Value} {w:World} {K:Value->Option (World->Prop)->Prop} (h:vcTake0 P alt o ρ w K):
  ∃ v Y,K v Y/\meets Y w/\∀ w',meets Y w'->(execOp ρ o).run P w'=.ok (.value v) w':=by
 unfold vcTake0 at h
 obtain ⟨dst,op,type,pos,after,guard⟩:=o
 dsimp only at h
 split at h
 ·split at h
  ·unfold vcNil at h
   split at h
   ·rename_i q hq
    obtain ⟨a,rfl,h⟩:=h
    exact ⟨_,none,h,trivial,fun w' _=>by simp [execOp,hq]⟩
   ·exact h.elim
  ·obtain ⟨v,hk,hr⟩:=vcDiv_out (P:=P) h
   exact ⟨v,none,hk,trivial,fun w' _=>run_v (hr w')⟩
  ·obtain ⟨v,hk,hr⟩:=vcStrAt_out h
   exact ⟨v,none,hk,trivial,fun w' _=>run_v (hr w')⟩
  ·obtain ⟨v,hk,hr⟩:=vcCut_out h
   exact ⟨v,none,hk,trivial,fun w' _=>run_v (hr w')⟩
  ·obtain ⟨v,hk,hr⟩:=vcCut3_out h
   exact ⟨v,none,hk,trivial,fun w' _=>run_v (hr w')⟩
  ·exact h.elim
 ·split at h
  ·obtain ⟨v,hk,hr⟩:=vcNilEq_out h
   exact ⟨v,none,hk,trivial,fun w' _=>run_v (hr w')⟩
  ·exact h.elim
 ·split at h
  ·rename_i t x
   split at h
   ·rename_i a ha
    obtain ⟨a',v,hx,hk,hr⟩:=vcLoad_out h
    cases hx
    refine ⟨v,_,hk,fun i _=>rfl,fun w' hw'=>?_⟩
    have:=run_v (hr w' hw')
    rw [<- ha] at this
    exact this
   ·exact h.elim
  ·obtain ⟨v,hk,hr⟩:=vcIdx_out h
   exact ⟨v,none,hk,trivial,fun w' _=>run_v (hr w')⟩
  ·split at h
   ·rename_i v hv
    exact ⟨v,none,h,trivial,fun w' _=>builtinV_op hv w'⟩
   ·exact h.elim
  ·obtain ⟨v,hk,hr⟩:=vcBuild_out h
   rw [<- List.map_toArray,Array.toArray_toList] at hr
   exact ⟨v,none,hk,trivial,fun w' _=>run_v (hr w')⟩
  ·obtain ⟨v,hk,hr⟩:=vcField_out h
   exact ⟨v,none,hk,trivial,fun w' _=>run_v (hr w')⟩
  ·split at h
   ·rename_i v hp
    exact ⟨v,none,h,trivial,fun w' _=>pureRun_run hp w'⟩
   ·exact h.elim
theorem vcTake_out {P:Program} {m:Nat × Bool} {o:Oper} {ρ:Operand->Value} {w:World} {K:Value->Option (World->Prop)->Prop} (h:vcTake P m o ρ w K):
  ∃ v Y,K v Y/\meets Y w/\∀ w',meets Y w'->(execOp ρ o).run P w'=.ok (.value v) w':=by
 unfold vcTake at h
 cases hm:m.2
 ·rw [hm] at h;exact vcTake0_out h
 ·rw [hm] at h
  obtain ⟨v,Y,hk,h1,h2⟩:=vcTake0_out h
  exact ⟨v,Y,boolSplitT_out hk,h1,h2⟩
theorem vcTake_mono {P:Program} {m:Nat × Bool} {o:Oper} {ρ:Operand->Value} {w:World} {K K':Value->Option (World->Prop)->Prop} (hk:∀ v Y,K v Y->K' v Y) (h:vcTake P m o ρ w K):vcTake P m o ρ w K':=by
 have hk':∀ v Y,boolSplitT K v Y->boolSplitT K' v Y:=fun v Y h=>by
  cases v <;> first
   | exact hk _ _ h
   | exact ⟨fun e=>hk _ _ (h.1 e),fun e=>hk _ _ (h.2 e)⟩
 have base:∀ (K K':Value->Option (World->Prop)->Prop),(∀ v Y,K v Y->K' v Y)->vcTake0 P m.1 o ρ w K->vcTake0 P m.1 o ρ w K':=fun K K' hk h=>by
  unfold vcTake0 at h ⊢
  split at h
  ·split at h
   ·exact vcNil_mono (fun v h=>hk _ _ h) h
   ·exact vcDiv_mono (fun v h=>hk _ _ h) h
   ·exact vcStrAt_mono (fun v h=>hk _ _ h) h
   ·exact vcCut_mono (fun v h=>hk _ _ h) h
   ·exact vcCut3_mono (fun v h=>hk _ _ h) h
   ·exact h.elim
  ·split at h
   ·exact vcNilEq_mono (fun v h=>hk _ _ h) h
   ·exact h.elim
  ·split at h
   ·split at h
    ·exact vcLoad_mono (fun v h=>hk _ _ h) h
    ·exact h.elim
   ·exact vcIdx_mono (fun v h=>hk _ _ h) h
   ·split at h
    ·exact hk _ _ h
    ·exact h.elim
   ·exact vcBuild_mono (fun v h=>hk _ _ h) h
   ·exact vcField_mono (fun v h=>hk _ _ h) h
   ·split at h
    ·exact hk _ _ h
    ·exact h.elim
 unfold vcTake at h ⊢
 cases hm:m.2
 ·rw [hm] at h;exact base _ _ hk h
 ·rw [hm] at h;exact base _ _ hk' h
def addHeld (i:Nat) (Y:Option (World->Prop)) (hd:HeldL):HeldL:=
 match Y with
 | some Y=>(i,Y)::hd
 | none=>hd
def vcD (P:Program) (ops:Array Oper) (ms:Marks) (effs:List Nat):List Nat->Array Bool->HeldL->Env->World->(Env->World->Prop)->Prop
 | [],L,_,ρ,w,K=>bif (Region.ready .any ops L).isEmpty then K ρ w else False
 | i::l,L,hd,ρ,w,K=>
  match ops[i]? with
  | none=>False
  | some o=>
   bif effs.contains i then
    bif Region.ready .any ops L == [i] then
     bif Region.wanted o (yE ops ρ) then vcOp P (markOf ms i) o (ev ρ) w fun v w'=>heldAll (dead .any ops effs (L.setIfInBounds i true)) w' (vcD P ops ms effs l (L.setIfInBounds i true) hd (ρ.put o.dst v) w' K) hd
     else vcD P ops ms effs l (L.setIfInBounds i true) hd (ρ.put o.dst undef) w K
    else False
   else
    bif (Region.ready .any ops L).contains i && Region.free .any ops L i then
     bif Region.wanted o (yE ops ρ) then vcTake P (markOf ms i) o (ev ρ) w fun v Y=>vcD P ops ms effs l (L.setIfInBounds i true) (addHeld i Y hd) (ρ.put o.dst v) w K
     else vcD P ops ms effs l (L.setIfInBounds i true) hd (ρ.put o.dst undef) w K
    else False
def SHd (ops:Array Oper) (effs:List Nat) (hd:HeldL) (L:Array Bool) (w:World):Prop:=∀ p∈hd,dead .any ops effs L p.1=false->p.2 w
theorem dead_mono {ops:Array Oper} {effs:List Nat} {L:Array Bool} {j i:Nat} (h:dead .any ops effs (L.setIfInBounds j true) i=false):dead .any ops effs L i=false:=by
 unfold dead at*
 rw [List.any_eq_false] at*
 intro k hk hc
 refine h k hk ?_
 simp only [Bool.and_eq_true] at hc ⊢
 exact ⟨getD_set_mono hc.1,hc.2⟩
theorem dead_set_not {ops:Array Oper} {effs:List Nat} {L:Array Bool} {j i:Nat} (hj:effs.contains j=false):dead .any ops effs (L.setIfInBounds j true) i=dead .any ops effs L i:=by
 unfold dead
 rw [Bool.eq_iff_iff,List.any_eq_true,List.any_eq_true]
 constructor
 ·rintro ⟨k,hk,hc⟩
  refine ⟨k,hk,?_⟩
  simp only [Bool.and_eq_true] at hc ⊢
  rcases getD_set_inv hc.1 with rfl | h
  ·rw [List.contains_iff_mem.2 hk] at hj;cases hj
  ·exact ⟨h,hc.2⟩
 ·rintro ⟨k,hk,hc⟩
  refine ⟨k,hk,?_⟩
  simp only [Bool.and_eq_true] at hc ⊢
  exact ⟨getD_set_mono hc.1,hc.2⟩
theorem vcD_sound {P:Program} {ops:Array Oper} {ms:Marks} {effs:List Nat} {n:Nat} {d:List Deferred} {K:Env->World->Prop} {Q:Exit->Act->World->Prop} {r:Option Nat} (hnd:noDefer ops=true) (hsel:Region.noSelect ops=true)
  (hdst:dstsIn ops.toList n=true) (hQ:∀ c a w,¬Q (.panic c) a w) (hK:∀ ρ w a,K ρ w->Fits n d a ρ->Q .normal a w):
  ∀ (l:List Nat) (L:Array Bool) (hd:HeldL) (ρ:Env) (w:World) (a:Act) (fuel:Nat),Closed .any ops L->l.length<=fuel->Fits n d a ρ->SHd ops effs hd L w->
   vcD P ops ms effs l L hd ρ w K->wpAnyS r P .any ops Q (SHd ops effs hd) fuel L a w
 | [],L,hd,ρ,w,a,fuel,_,_,hf,_,h=>by
  simp only [vcD] at h
  cases hr:(Region.ready .any ops L).isEmpty
  ·rw [hr] at h;exact h.elim
  ·rw [hr] at h
   have hr':=List.isEmpty_iff.1 hr
   have hq:=hK ρ w a h hf
   cases fuel with
   | zero=>exact ⟨hr',hq⟩
   | succ fuel=>exact ⟨fun _=>hq,by rw [hr'];simp⟩
 | i::l,L,hd,ρ,w,a,fuel,hcl,hlen,hf,hS,h=>by
  cases fuel with
  | zero=>simp at hlen
  | succ fuel=>
  have hlen':l.length<=fuel:=by simpa using hlen
  simp only [vcD] at h
  cases ho:ops[i]? with
  | none=>rw [ho] at h;exact h.elim
  | some o=>
  simp only [ho] at h
  have hdo:dstIn o.dst n=true:=by
   have:=List.all_eq_true.1 hdst o (by rw [Array.mem_toList_iff];exact Array.mem_of_getElem? ho)
   exact this
  cases he:effs.contains i
  ·simp only [he,cond_false] at h
   cases hr:((Region.ready .any ops L).contains i && Region.free .any ops L i)
   ·rw [hr] at h;exact h.elim
   ·simp only [hr,cond_true] at h
    simp only [Bool.and_eq_true] at hr
    have hri:i∈Region.ready .any ops L:=List.contains_iff_mem.1 hr.1
    have hfree:=Region.free_spec ho hr.2
    have hcl':=hcl.set hri
    have hS':SHd ops effs hd (L.setIfInBounds i true) w:=fun p hp hdd=>hS p hp (dead_mono hdd)
    have hSi:∀ L w,SHd ops effs hd (L.setIfInBounds i true) w->SHd ops effs hd L w:=fun L w h p hp hdd=>h p hp (by rw [dead_set_not he];exact hdd)
    cases hw:Region.wanted o (yE ops ρ)
    ·simp only [hw,cond_false] at h
     have IH:=vcD_sound (r:=r) hnd hsel hdst hQ hK l (L.setIfInBounds i true) hd (ρ.put o.dst undef) w (a.put o.dst undef) fuel hcl' hlen' (hf.put hdo undef) hS' h
     refine wpAnyS_first (Y:=fun _=>True) (Alive:=fun _=>True) (v:=undef) ho (noDefer_spec hnd) (Region.noSelect_spec hsel) (fun c a w hq=>(hQ c _ w hq).elim) hSi (fun _ _ _=>trivial) fuel L a w hcl hfree hri
      (.inr ⟨by rw [yielded_envOf,hf.env];exact hw,rfl⟩) trivial hS' ?_
     exact wpAnyS_weaken (fun _ _ h=>⟨h,fun _=>trivial⟩) _ _ _ _ IH
    ·simp only [hw,cond_true] at h
     obtain ⟨v,Y,hk,hY,hrun⟩:=vcTake_out h
     have hyield:YieldsIf P ops (meets Y) o v a:=.inl ⟨by rw [yielded_envOf,hf.env];exact hw,fun w' hw'=>by rw [hf.eval];exact hrun w' hw'⟩
     have hSY:SHd ops effs (addHeld i Y hd) (L.setIfInBounds i true) w:=by
      intro p hp hdd
      cases Y with
      | none=>exact hS' p hp hdd
      | some Y=>
       rcases List.mem_cons.1 hp with rfl | hp
       ·exact hY
       ·exact hS' p hp hdd
     have IH:=vcD_sound (r:=r) hnd hsel hdst hQ hK l (L.setIfInBounds i true) (addHeld i Y hd) (ρ.put o.dst v) w (a.put o.dst v) fuel hcl' hlen' (hf.put hdo v) hSY hk
     refine wpAnyS_first (Y:=meets Y) (Alive:=fun L=>dead .any ops effs L i=false) (v:=v) ho (noDefer_spec hnd) (Region.noSelect_spec hsel) (fun c a w hq=>(hQ c _ w hq).elim) hSi ?_ fuel L a w hcl hfree hri hyield hY hS' ?_
     ·intro L' hc' hun
      rw [dead_set_not he]
      unfold dead
      rw [List.any_eq_false]
      intro k hk hc
      simp only [Bool.and_eq_true] at hc
      have:=reach_listed hc' _ _ _ hc.2 hc.1
      rcases Nat.lt_or_ge i L'.size with h' | h'
      ·simp [Array.getD_eq_getD_getElem?,h'] at this hun;rw [hun] at this;cases this
      ·simp [Array.getD_eq_getD_getElem?,Array.getElem?_eq_none h'] at hun
     ·refine wpAnyS_weaken (fun L' w' h=>?_) _ _ _ _ IH
      cases Y with
      | none=>exact ⟨h,fun _=>trivial⟩
      | some Y=>exact ⟨fun p hp hdd=>h p (List.mem_cons_of_mem _ hp) hdd,fun hal=>h (i,Y) List.mem_cons_self hal⟩
  ·simp only [he,cond_true] at h
   cases hr:(Region.ready .any ops L == [i])
   ·rw [hr] at h;exact h.elim
   ·simp only [hr,cond_true] at h
    have hr':Region.ready .any ops L=[i]:=by simpa using hr
    have hri:i∈Region.ready .any ops L:=by rw [hr'];simp
    have hcl':=hcl.set hri
    refine ⟨fun h0=>(by rw [hr'] at h0;cases h0),fun j hj=>?_⟩
    rw [hr'] at hj
    obtain rfl:j=i:=by simpa using hj
    unfold wpOpIn
    simp only [ho]
    rw [yielded_envOf,hf.env]
    cases hw:Region.wanted o (yE ops ρ)
    ·simp only [hw,cond_false] at h
     simp only [Bool.false_eq_true,if_false]
     have hS':SHd ops effs hd (L.setIfInBounds j true) w:=fun p hp hdd=>hS p hp (dead_mono hdd)
     exact ⟨fun _ _=>trivial,hS',vcD_sound (r:=r) hnd hsel hdst hQ hK l _ hd _ w _ fuel hcl' hlen' (hf.put hdo undef) hS' h⟩
    ·simp only [hw,cond_true] at h
     simp only [if_true]
     have h2:=vcOp_sound h
     rw [<- hf.eval] at h2
     refine wpIn_of_opOk (r:=r) (h2.mono fun v w' h3=>?_)
     obtain ⟨h4,h5⟩:=heldAll_out h3
     exact ⟨h5,vcD_sound (r:=r) hnd hsel hdst hQ hK l _ hd _ w' _ fuel hcl' hlen' (hf.put hdo v) h5 h4⟩
/-! ### Several that act may come up at once: each order is asked for -/
mutual
inductive OT where
 | nil
 | take (i:Nat) (t:OT)
 | eff (c:OC)
inductive OC where
 | one (i:Nat) (t:OT)
 | alt (a b:OC)
end
def OC.heads:OC->List Nat
 | .one i _=>[i]
 | .alt a b=>a.heads++b.heads
mutual
def OT.fits:OT->Nat->Bool
 | .nil,_=>true
 | .take _ _,0=>false
 | .take _ t,n+1=>t.fits n
 | .eff _,0=>false
 | .eff c,n+1=>c.fits n
def OC.fits:OC->Nat->Bool
 | .one _ t,n=>t.fits n
 | .alt a b,n=>a.fits n && b.fits n
end
mutual
def vcE (P:Program) (ops:Array Oper) (ms:Marks) (effs:List Nat):OT->Array Bool->HeldL->Env->World->(Env->World->Prop)->Prop
 | .nil,L,_,ρ,w,K=>bif (Region.ready .any ops L).isEmpty then K ρ w else False
 | .take i t,L,hd,ρ,w,K=>
  match ops[i]? with
  | none=>False
  | some o=>
   bif !effs.contains i && ((Region.ready .any ops L).contains i && Region.free .any ops L i) then
    bif Region.wanted o (yE ops ρ) then vcTake P (markOf ms i) o (ev ρ) w fun v Y=>vcE P ops ms effs t (L.setIfInBounds i true) (addHeld i Y hd) (ρ.put o.dst v) w K
    else vcE P ops ms effs t (L.setIfInBounds i true) hd (ρ.put o.dst undef) w K
   else False
 | .eff c,L,hd,ρ,w,K=>bif Region.ready .any ops L == c.heads && !c.heads.isEmpty then vcF P ops ms effs c L hd ρ w K else False
def vcF (P:Program) (ops:Array Oper) (ms:Marks) (effs:List Nat):OC->Array Bool->HeldL->Env->World->(Env->World->Prop)->Prop
 | .one i t,L,hd,ρ,w,K=>
  match ops[i]? with
  | none=>False
  | some o=>
   bif Region.wanted o (yE ops ρ) then vcOp P (markOf ms i) o (ev ρ) w fun v w'=>heldAll (dead .any ops effs (L.setIfInBounds i true)) w' (vcE P ops ms effs t (L.setIfInBounds i true) hd (ρ.put o.dst v) w' K) hd
   else vcE P ops ms effs t (L.setIfInBounds i true) hd (ρ.put o.dst undef) w K
 | .alt a b,L,hd,ρ,w,K=>vcF P ops ms effs a L hd ρ w K/\vcF P ops ms effs b L hd ρ w K
end
section
variable {P:Program} {ops:Array Oper} {ms:Marks} {effs:List Nat} {n:Nat} {d:List Deferred} {K:Env->World->Prop} {Q:Exit->Act->World->Prop} {r:Option Nat}
mutual
theorem vcE_sound (hnd:noDefer ops=true) (hsel:Region.noSelect ops=true)
  (hdst:dstsIn ops.toList n=true) (hQ:∀ c a w,¬Q (.panic c) a w) (hK:∀ ρ w a,K ρ w->Fits n d a ρ->Q .normal a w):
  ∀ (t:OT) (L:Array Bool) (hd:HeldL) (ρ:Env) (w:World) (a:Act) (fuel:Nat),t.fits fuel=true->Closed .any ops L->Fits n d a ρ->SHd ops effs hd L w->vcE P ops ms effs t L hd ρ w K->
   wpAnyS r P .any ops Q (SHd ops effs hd) fuel L a w
 | .nil,L,hd,ρ,w,a,fuel,_,_,hf,_,h=>by
  simp only [vcE] at h
  cases hr:(Region.ready .any ops L).isEmpty
  ·rw [hr] at h;exact h.elim
  ·rw [hr] at h
   have hr':=List.isEmpty_iff.1 hr
   have hq:=hK ρ w a h hf
   cases fuel with
   | zero=>exact ⟨hr',hq⟩
   | succ fuel=>exact ⟨fun _=>hq,by rw [hr'];simp⟩
 | .take i t,L,hd,ρ,w,a,0,hlen,_,_,_,_=>by simp [OT.fits] at hlen
 | .take i t,L,hd,ρ,w,a,fuel+1,hlen,hcl,hf,hS,h=>by
  have hlen':t.fits fuel=true:=by simpa [OT.fits] using hlen
  simp only [vcE] at h
  cases ho:ops[i]? with
  | none=>rw [ho] at h;exact h.elim
  | some o=>
  simp only [ho] at h
  have hdo:dstIn o.dst n=true:=by
   have:=List.all_eq_true.1 hdst o (by rw [Array.mem_toList_iff];exact Array.mem_of_getElem? ho)
   exact this
  cases hr:(!effs.contains i && ((Region.ready .any ops L).contains i && Region.free .any ops L i))
  ·rw [hr] at h;exact h.elim
  ·simp only [hr,cond_true] at h
   simp only [Bool.and_eq_true,Bool.not_eq_true'] at hr
   have he:=hr.1
   have hri:i∈Region.ready .any ops L:=List.contains_iff_mem.1 hr.2.1
   have hfree:=Region.free_spec ho hr.2.2
   have hcl':=hcl.set hri
   have hS':SHd ops effs hd (L.setIfInBounds i true) w:=fun p hp hdd=>hS p hp (dead_mono hdd)
   have hSi:∀ L w,SHd ops effs hd (L.setIfInBounds i true) w->SHd ops effs hd L w:=fun L w h p hp hdd=>h p hp (by rw [dead_set_not he];exact hdd)
   cases hw:Region.wanted o (yE ops ρ)
   ·simp only [hw,cond_false] at h
    have IH:=vcE_sound hnd hsel hdst hQ hK t (L.setIfInBounds i true) hd (ρ.put o.dst undef) w (a.put o.dst undef) fuel hlen' hcl' (hf.put hdo undef) hS' h
    refine wpAnyS_first (Y:=fun _=>True) (Alive:=fun _=>True) (v:=undef) ho (noDefer_spec hnd) (Region.noSelect_spec hsel) (fun c a w hq=>(hQ c _ w hq).elim) hSi (fun _ _ _=>trivial) fuel L a w hcl hfree hri
     (.inr ⟨by rw [yielded_envOf,hf.env];exact hw,rfl⟩) trivial hS' ?_
    exact wpAnyS_weaken (fun _ _ h=>⟨h,fun _=>trivial⟩) _ _ _ _ IH
   ·simp only [hw,cond_true] at h
    obtain ⟨v,Y,hk,hY,hrun⟩:=vcTake_out h
    have hyield:YieldsIf P ops (meets Y) o v a:=.inl ⟨by rw [yielded_envOf,hf.env];exact hw,fun w' hw'=>by rw [hf.eval];exact hrun w' hw'⟩
    have hSY:SHd ops effs (addHeld i Y hd) (L.setIfInBounds i true) w:=by
     intro p hp hdd
     cases Y with
     | none=>exact hS' p hp hdd
     | some Y=>
      rcases List.mem_cons.1 hp with rfl | hp
      ·exact hY
      ·exact hS' p hp hdd
    have IH:=vcE_sound hnd hsel hdst hQ hK t (L.setIfInBounds i true) (addHeld i Y hd) (ρ.put o.dst v) w (a.put o.dst v) fuel hlen' hcl' (hf.put hdo v) hSY hk
    refine wpAnyS_first (Y:=meets Y) (Alive:=fun L=>dead .any ops effs L i=false) (v:=v) ho (noDefer_spec hnd) (Region.noSelect_spec hsel) (fun c a w hq=>(hQ c _ w hq).elim) hSi ?_ fuel L a w hcl hfree hri hyield hY hS' ?_
    ·intro L' hc' hun
     rw [dead_set_not he]
     unfold dead
     rw [List.any_eq_false]
     intro k hk hc
     simp only [Bool.and_eq_true] at hc
     have:=reach_listed hc' _ _ _ hc.2 hc.1
     rcases Nat.lt_or_ge i L'.size with h' | h'
     ·simp [Array.getD_eq_getD_getElem?,h'] at this hun;rw [hun] at this;cases this
     ·simp [Array.getD_eq_getD_getElem?,Array.getElem?_eq_none h'] at hun
    ·refine wpAnyS_weaken (fun L' w' h=>?_) _ _ _ _ IH
     cases Y with
     | none=>exact ⟨h,fun _=>trivial⟩
     | some Y=>exact ⟨fun p hp hdd=>h p (List.mem_cons_of_mem _ hp) hdd,fun hal=>h (i,Y) List.mem_cons_self hal⟩
 | .eff c,L,hd,ρ,w,a,0,hlen,_,_,_,_=>by simp [OT.fits] at hlen
 | .eff c,L,hd,ρ,w,a,fuel+1,hlen,hcl,hf,hS,h=>by
  have hlen':c.fits fuel=true:=by simpa [OT.fits] using hlen
  simp only [vcE] at h
  cases hr:(Region.ready .any ops L == c.heads && !c.heads.isEmpty)
  ·rw [hr] at h;exact h.elim
  ·simp only [hr,cond_true] at h
   simp only [Bool.and_eq_true,beq_iff_eq,Bool.not_eq_true'] at hr
   refine ⟨fun h0=>?_,fun j hj=>?_⟩
   ·rw [<- hr.1,h0] at hr;cases hr.2
   ·rw [hr.1] at hj
    exact vcF_sound hnd hsel hdst hQ hK c L hd ρ w a fuel hlen' hcl hf hS (fun j hj=>by rw [hr.1];exact hj) h j hj
theorem vcF_sound (hnd:noDefer ops=true) (hsel:Region.noSelect ops=true)
  (hdst:dstsIn ops.toList n=true) (hQ:∀ c a w,¬Q (.panic c) a w) (hK:∀ ρ w a,K ρ w->Fits n d a ρ->Q .normal a w):
  ∀ (c:OC) (L:Array Bool) (hd:HeldL) (ρ:Env) (w:World) (a:Act) (fuel:Nat),c.fits fuel=true->Closed .any ops L->Fits n d a ρ->SHd ops effs hd L w->(∀ j∈c.heads,j∈Region.ready .any ops L)->vcF P ops ms effs c L hd ρ w K->
   ∀ j∈c.heads,wpOpIn (FW r) 0 P ops Q j (fun a' w'=>SHd ops effs hd (L.setIfInBounds j true) w'/\wpAnyS r P .any ops Q (SHd ops effs hd) fuel (L.setIfInBounds j true) a' w') a w
 | .one i t,L,hd,ρ,w,a,fuel,hlen,hcl,hf,hS,hready,h=>by
  intro j hj
  obtain rfl:j=i:=by simpa [OC.heads] using hj
  have hlen':t.fits fuel=true:=by simpa [OC.fits] using hlen
  have hcl':=hcl.set (hready j hj)
  simp only [vcF] at h
  cases ho:ops[j]? with
  | none=>rw [ho] at h;exact h.elim
  | some o=>
  simp only [ho] at h
  have hdo:dstIn o.dst n=true:=by
   have:=List.all_eq_true.1 hdst o (by rw [Array.mem_toList_iff];exact Array.mem_of_getElem? ho)
   exact this
  unfold wpOpIn
  simp only [ho]
  rw [yielded_envOf,hf.env]
  cases hw:Region.wanted o (yE ops ρ)
  ·simp only [hw,cond_false] at h
   simp only [Bool.false_eq_true,if_false]
   have hS':SHd ops effs hd (L.setIfInBounds j true) w:=fun p hp hdd=>hS p hp (dead_mono hdd)
   exact ⟨fun _ _=>trivial,hS',vcE_sound hnd hsel hdst hQ hK t _ hd _ w _ fuel hlen' hcl' (hf.put hdo undef) hS' h⟩
  ·simp only [hw,cond_true] at h
   simp only [if_true]
   have h2:=vcOp_sound h
   rw [<- hf.eval] at h2
   refine wpIn_of_opOk (r:=r) (h2.mono fun v w' h3=>?_)
   obtain ⟨h4,h5⟩:=heldAll_out h3
   exact ⟨h5,vcE_sound hnd hsel hdst hQ hK t _ hd _ w' _ fuel hlen' hcl' (hf.put hdo v) h5 h4⟩
 | .alt x y,L,hd,ρ,w,a,fuel,hlen,hcl,hf,hS,hready,h=>by
  simp only [OC.fits,Bool.and_eq_true] at hlen
  simp only [vcF] at h
  intro j hj
  simp only [OC.heads] at hj hready
  rcases List.mem_append.1 hj with hj | hj
  ·exact vcF_sound hnd hsel hdst hQ hK x L hd ρ w a fuel hlen.1 hcl hf hS (fun j hj=>hready j (List.mem_append.2 (.inl hj))) h.1 j hj
  ·exact vcF_sound hnd hsel hdst hQ hK y L hd ρ w a fuel hlen.2 hcl hf hS (fun j hj=>hready j (List.mem_append.2 (.inr hj))) h.2 j hj
end
end
end Go.Nf
