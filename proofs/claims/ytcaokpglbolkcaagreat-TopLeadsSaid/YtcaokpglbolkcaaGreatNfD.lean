import Derived.Test.YtcaokpglbolkcaaGreatNfC
namespace Go.Nf
open Go
/-! ### Predicates on the typed slots of a loop or of a meeting of ways -/
abbrev Live:=List (Nat × Ty)
def PT:Live->Type
 | []=>World->Prop
 |(_,.int _)::l=>Int->PT l
 |(_,.bool)::l=>Bool->PT l
 |(_,.str)::l=>ByteArray->PT l
 |(_,.ptr)::l=>Option Addr->PT l
 |(_,.slice)::l=>Option Addr->Nat->Nat->PT l
 |(_,.map)::l=>Option Nat->PT l
 |(_,.val)::l=>Value->PT l
 |(_,.fn)::l=>Fn->Array Value->Array Value->PT l
def PT.at:(l:Live)->PT l->Env->World->Prop
 | [],p,_,w=>p w
 |(i,.int k)::l,p,ρ,w=>match ρ i with | .int k' n=>bif decide (k'=k) then PT.at l (p n) ρ w else False | _=>False
 |(i,.bool)::l,p,ρ,w=>match ρ i with | .bool b=>PT.at l (p b) ρ w | _=>False
 |(i,.str)::l,p,ρ,w=>match ρ i with | .string s=>PT.at l (p s) ρ w | _=>False
 |(i,.ptr)::l,p,ρ,w=>match ρ i with | .pointer a=>PT.at l (p a) ρ w | _=>False
 |(i,.slice)::l,p,ρ,w=>match ρ i with | .slice a n c=>PT.at l (p a n c) ρ w | _=>False
 |(i,.map)::l,p,ρ,w=>match ρ i with | .map r=>PT.at l (p r) ρ w | _=>False
 |(i,.val)::l,p,ρ,w=>PT.at l (p (ρ i)) ρ w
 |(i,.fn)::l,p,ρ,w=>match ρ i with | .func f a c=>PT.at l (p f a c) ρ w | _=>False
def PT.all:(l:Live)->PT l->Env->World->(Env->Prop)->Prop
 | [],p,ρ,w,K=>p w->K ρ
 |(i,.int k)::l,p,ρ,w,K=>∀ n:Int,PT.all l (p n) (ρ.upd i (.int k n)) w K
 |(i,.bool)::l,p,ρ,w,K=>∀ b:Bool,PT.all l (p b) (ρ.upd i (.bool b)) w K
 |(i,.str)::l,p,ρ,w,K=>∀ s:ByteArray,PT.all l (p s) (ρ.upd i (.string s)) w K
 |(i,.ptr)::l,p,ρ,w,K=>∀ a:Option Addr,PT.all l (p a) (ρ.upd i (.pointer a)) w K
 |(i,.slice)::l,p,ρ,w,K=>∀ (a:Option Addr) (n c:Nat),PT.all l (p a n c) (ρ.upd i (.slice a n c)) w K
 |(i,.map)::l,p,ρ,w,K=>∀ r:Option Nat,PT.all l (p r) (ρ.upd i (.map r)) w K
 |(i,.val)::l,p,ρ,w,K=>∀ v:Value,PT.all l (p v) (ρ.upd i v) w K
 |(i,.fn)::l,p,ρ,w,K=>∀ (f:Fn) (a c:Array Value),PT.all l (p f a c) (ρ.upd i (.func f a c)) w K
def PT.imp:(l:Live)->PT l->World->((Env->Env)->Prop)->(Env->Env)->Prop
 | [],p,w,H,f=>H f->p w
 |(i,.int k)::l,p,w,H,f=>∀ n:Int,PT.imp l (p n) w H (fun e=>(f e).upd i (.int k n))
 |(i,.bool)::l,p,w,H,f=>∀ b:Bool,PT.imp l (p b) w H (fun e=>(f e).upd i (.bool b))
 |(i,.str)::l,p,w,H,f=>∀ s:ByteArray,PT.imp l (p s) w H (fun e=>(f e).upd i (.string s))
 |(i,.ptr)::l,p,w,H,f=>∀ a:Option Addr,PT.imp l (p a) w H (fun e=>(f e).upd i (.pointer a))
 |(i,.slice)::l,p,w,H,f=>∀ (a:Option Addr) (n c:Nat),PT.imp l (p a n c) w H (fun e=>(f e).upd i (.slice a n c))
 |(i,.map)::l,p,w,H,f=>∀ r:Option Nat,PT.imp l (p r) w H (fun e=>(f e).upd i (.map r))
 |(i,.val)::l,p,w,H,f=>∀ v:Value,PT.imp l (p v) w H (fun e=>(f e).upd i v)
 |(i,.fn)::l,p,w,H,f=>∀ (g:Fn) (a c:Array Value),PT.imp l (p g a c) w H (fun e=>(f e).upd i (.func g a c))
def PT.mk:(l:Live)->((Env->Env)->World->Prop)->(Env->Env)->PT l
 | [],H,f=>H f
 |(i,.int k)::l,H,f=>fun n=>PT.mk l H (fun e=>(f e).upd i (.int k n))
 |(i,.bool)::l,H,f=>fun n=>PT.mk l H (fun e=>(f e).upd i (.bool n))
 |(i,.str)::l,H,f=>fun n=>PT.mk l H (fun e=>(f e).upd i (.string n))
 |(i,.ptr)::l,H,f=>fun n=>PT.mk l H (fun e=>(f e).upd i (.pointer n))
 |(i,.slice)::l,H,f=>fun a n c=>PT.mk l H (fun e=>(f e).upd i (.slice a n c))
 |(i,.map)::l,H,f=>fun n=>PT.mk l H (fun e=>(f e).upd i (.map n))
 |(i,.val)::l,H,f=>fun n=>PT.mk l H (fun e=>(f e).upd i n)
 |(i,.fn)::l,H,f=>fun g a c=>PT.mk l H (fun e=>(f e).upd i (.func g a c))
theorem upd_self {ρ:Env} {i:Nat} {v:Value} (h:ρ i=v):ρ.upd i v=ρ:=by
 funext j
 unfold Env.upd
 cases hb:Nat.beq j i
 ·rfl
 ·rw [Nat.eq_of_beq_eq_true hb];exact h.symm
theorem PT.all_use:∀ {l:Live} {p:PT l} {ρ:Env} {w:World} {K:Env->Prop},PT.at l p ρ w->PT.all l p ρ w K->K ρ
 | [],_,_,_,_,h,k=>k h
 |(i,ty)::l,p,ρ,w,K,h,k=>by
  cases ty <;> simp only [PT.at] at h <;> simp only [PT.all] at k
  case int kk=>
   split at h
   ·rename_i k' n hv
    cases hk:decide (k'=kk)
    ·rw [hk] at h;exact h.elim
    ·rw [hk] at h
     have:=of_decide_eq_true hk
     subst this
     have:=k n
     rw [upd_self hv] at this
     exact PT.all_use h this
   ·exact h.elim
  case val=>
   have:=k (ρ i)
   rw [upd_self rfl] at this
   exact PT.all_use h this
  all_goals
   split at h
   ·rename_i hv
    have e:=upd_self hv
    first
     | exact PT.all_use h (Eq.mp (congrArg (fun r=>PT.all l _ r w K) e) (k _))
     | exact PT.all_use h (Eq.mp (congrArg (fun r=>PT.all l _ r w K) e) (k _ _ _))
   ·exact h.elim
theorem PT.all_mono:∀ {l:Live} {p:PT l} {ρ:Env} {w:World} {K K':Env->Prop},(∀ ρ',(∀ j,(l.map (·.1)).contains j=false->ρ' j=ρ j)->K ρ'->K' ρ')->PT.all l p ρ w K->PT.all l p ρ w K'
 | [],_,_,_,_,_,hk,k=>fun h=>hk _ (fun _ _=>rfl) (k h)
 |(i,ty)::l,p,ρ,w,K,K',hk,k=>by
  have key:∀ v,∀ ρ',(∀ j,(l.map (·.1)).contains j=false->ρ' j=(ρ.upd i v) j)->K ρ'->K' ρ':=fun v ρ' h hK=>hk _ (fun j hj=>by
   simp only [List.map_cons,List.contains_cons,Bool.or_eq_false_iff] at hj
   rw [h j hj.2]
   exact put_off (d:=some i) (fun e=>by simp at e;subst e;simp at hj)) hK
  cases ty <;> simp only [PT.all] at k ⊢
  case slice=>exact fun a n c=>PT.all_mono (key _) (k a n c)
  case fn=>exact fun a n c=>PT.all_mono (key _) (k a n c)
  all_goals exact fun x=>PT.all_mono (key _) (k x)
theorem PT.imp_mk:∀ (l:Live) (H:(Env->Env)->World->Prop) (f:Env->Env) (w:World),PT.imp l (PT.mk l H f) w (fun f=>H f w) f
 | [],_,_,_=>fun h=>h
 |(i,ty)::l,H,f,w=>by
  cases ty <;> simp only [PT.imp,PT.mk]
  case slice=>exact fun a n c=>PT.imp_mk l H _ w
  case fn=>exact fun a n c=>PT.imp_mk l H _ w
  all_goals exact fun x=>PT.imp_mk l H _ w
theorem PT.at_mk:∀ {l:Live} {H:(Env->Env)->World->Prop} {f:Env->Env} {ρ:Env} {w:World},f ρ=ρ->PT.at l (PT.mk l H f) ρ w->∃ f',f' ρ=ρ/\H f' w
 | [],_,f,_,_,hf,h=>⟨f,hf,h⟩
 |(i,ty)::l,H,f,ρ,w,hf,h=>by
  cases ty <;> simp only [PT.at,PT.mk] at h
  case int kk=>
   split at h
   ·rename_i k' n hv
    cases hk:decide (k'=kk)
    ·rw [hk] at h;exact h.elim
    ·rw [hk] at h
     have:=of_decide_eq_true hk
     subst this
     exact PT.at_mk (by rw [hf];exact upd_self hv) h
   ·exact h.elim
  case val=>exact PT.at_mk (by rw [hf];exact upd_self rfl) h
  all_goals
   split at h
   ·rename_i hv
    exact PT.at_mk (by rw [hf];exact upd_self hv) h
   ·exact h.elim
theorem PT.imp_mono:∀ {l:Live} {p:PT l} {w:World} {H H':(Env->Env)->Prop} {f:Env->Env},(∀ f',(∀ e j,(l.map (·.1)).contains j=false->f' e j=f e j)->H' f'->H f')->PT.imp l p w H f->PT.imp l p w H' f
 | [],_,_,_,_,f,hk,k=>fun h=>k (hk f (fun _ _ _=>rfl) h)
 |(i,ty)::l,p,w,H,H',f,hk,k=>by
  have key:∀ v,∀ f',(∀ e j,(l.map (·.1)).contains j=false->f' e j=((f e).upd i v) j)->H' f'->H f':=fun v f' h hH=>hk _ (fun e j hj=>by
   simp only [List.map_cons,List.contains_cons,Bool.or_eq_false_iff] at hj
   rw [h e j hj.2]
   exact put_off (d:=some i) (fun e=>by simp at e;subst e;simp at hj)) hH
  cases ty <;> simp only [PT.imp] at k ⊢
  case slice=>exact fun a n c=>PT.imp_mono (key _) (k a n c)
  case fn=>exact fun a n c=>PT.imp_mono (key _) (k a n c)
  all_goals exact fun x=>PT.imp_mono (key _) (k x)
/-! ### Code -/
inductive An where
 | nil
 | reg (ms:Marks)
 | regD (ms:Marks) (order effs:List Nat)
 | seq (a b:An)
 | cut (live:Live) (a b:An)
 | cond (a b:An)
 | blk (a:An)
 | loop (live:Live) (a:An)
 | regE (ms:Marks) (t:OT) (effs:List Nat)
 | condS (a b:An)
def asg:Code->List Nat
 | .region _ ops _=>dsts ops.toList
 | .seq a b=>asg a++asg b
 | .cond _ a b=>asg a++asg b
 | .block _ a=>asg a
 | .loop a=>asg a
 | _=>[]
def havoc (ds:List Nat) (ρ g:Env):Env:=fun i=>bif ds.contains i then g i else ρ i
theorem havoc_self {ds:List Nat} {ρ ρ':Env} (h:OffEq ds ρ ρ'):havoc ds ρ ρ'=ρ':=by
 funext i
 unfold havoc
 cases hc:ds.contains i
 ·exact (h i hc).symm
 ·rfl
def liveIn (live:Live) (ds:List Nat):Bool:=live.all fun p=>ds.contains p.1
abbrev Post:=Exit->Env->World->Prop
def Post.seq (K:Env->World->Prop) (Q:Post):Post
 | .normal,ρ,w=>K ρ w
 | e,ρ,w=>Q e ρ w
def Post.blk (id:Nat) (Q:Post):Post
 | .exit id',ρ,w=>bif Nat.beq id' id then Q .normal ρ w else Q (.exit id') ρ w
 | e,ρ,w=>Q e ρ w
def vcCond (v:Value) (x y:Prop):Prop:=
 match v with
 | .bool b=>match b with
  | true=>x
  | false=>y
 | _=>False
def vcSplit (v:Value) (x y:Prop):Prop:=
 match v with
 | .bool b=>(b=true->x)/\(b=false->y)
 | _=>False
def vc (P:Program):Code->An->Post->Env->World->Prop
 | .skip,_,Q,ρ,w=>Q .normal ρ w
 | .exit id,_,Q,ρ,w=>Q (.exit id) ρ w
 | .ret,_,Q,ρ,w=>Q .ret ρ w
 | .region _ ops false,.reg ms,Q,ρ,w=>vcOps P ops ms ops.toList 0 ρ w (Q .normal)
 | .region _ ops true,.regD ms order effs,Q,ρ,w=>
  bif Nat.ble order.length ops.size && (Region.noSelect ops && noDefer ops) then ∀ w1,w1=w.drew->vcD P ops ms effs order (Array.replicate ops.size false) [] ρ w1 (Q .normal) else False
 | .region _ ops true,.regE ms t effs,Q,ρ,w=>
  bif t.fits ops.size && (Region.noSelect ops && noDefer ops) then ∀ w1,w1=w.drew->vcE P ops ms effs t (Array.replicate ops.size false) [] ρ w1 (Q .normal) else False
 | .seq a b,.seq x y,Q,ρ,w=>vc P a x (Q.seq fun ρ' w'=>vc P b y Q ρ' w') ρ w
 | .seq a b,.cut live x y,Q,ρ,w=>
  bif liveIn live (asg a) then
   ∀ K:PT live,(∀ w',PT.imp live K w' (fun f=>∀ g,vc P b y Q (f (havoc (asg a) ρ g)) w') id)->vc P a x (Q.seq fun ρ' w'=>PT.at live K ρ' w') ρ w
  else False
 | .cond c a b,.cond x y,Q,ρ,w=>vcCond (ev ρ c) (vc P a x Q ρ w) (vc P b y Q ρ w)
 | .cond c a b,.condS x y,Q,ρ,w=>vcSplit (ev ρ c) (vc P a x Q ρ w) (vc P b y Q ρ w)
 | .block id a,.blk x,Q,ρ,w=>vc P a x (Q.blk id) ρ w
 | .loop a,.loop live x,Q,ρ,w=>
  bif liveIn live (asg a) then
   ∃ I:Nat->PT live,(∃ n,PT.at live (I n) ρ w)/\∀ (n:Nat) (g:Env) (w':World),PT.all live (I n) (havoc (asg a) ρ g) w' fun ρ'=>vc P a x (Q.seq fun ρ'' w''=>∃ n',n'<n/\PT.at live (I n') ρ'' w'') ρ' w'
  else False
 | _,_,_,_,_=>False
theorem contains_append_false {a b:List Nat} {i:Nat}:(a++b).contains i=false↔a.contains i=false/\b.contains i=false:=by
 simp [List.contains_eq_mem]
theorem havoc_off {ds:List Nat} {ρ g:Env}:OffEq ds ρ (havoc ds ρ g):=fun i hi=>by
 show (bif ds.contains i then g i else ρ i)=ρ i
 rw [hi]
 rfl
theorem live_off {live:Live} {ds:List Nat} (h:liveIn live ds=true) {i:Nat} (hi:ds.contains i=false):(live.map (·.1)).contains i=false:=by
 rw [Bool.eq_false_iff]
 intro hc
 rw [List.contains_iff_mem] at hc
 obtain ⟨p,hp,rfl⟩:=List.mem_map.1 hc
 have:=List.all_eq_true.1 h p hp
 rw [this] at hi
 cases hi
theorem vcD_mono {P:Program} {ops:Array Oper} {ms:Marks} {effs:List Nat}:∀ (l:List Nat) (L:Array Bool) (hd:HeldL) (ρ:Env) (w:World) (K K':Env->World->Prop),(∀ ρ' w',OffEq (dsts ops.toList) ρ ρ'->K ρ' w'->K' ρ' w')->
  vcD P ops ms effs l L hd ρ w K->vcD P ops ms effs l L hd ρ w K'
 | [],L,_,ρ,w,K,K',hk,h=>by
  simp only [vcD] at h ⊢
  cases hr:(Region.ready .any ops L).isEmpty
  ·rw [hr] at h;exact h.elim
  ·rw [hr] at h;exact hk _ _ (OffEq.refl _ _) h
 | i::l,L,hd,ρ,w,K,K',hk,h=>by
  simp only [vcD] at h ⊢
  cases ho:ops[i]? with
  | none=>rw [ho] at h;exact h.elim
  | some o=>
  simp only [ho] at h ⊢
  have key:∀ v ρ' w',OffEq (dsts ops.toList) (ρ.put o.dst v) ρ'->K ρ' w'->K' ρ' w':=fun v ρ' w' hoff hK=>hk _ _ (fun j hj=>by
   rw [hoff j hj]
   refine put_off fun hd=>?_
   rw [Bool.eq_false_iff] at hj
   exact hj (List.contains_iff_mem.2 (List.mem_filterMap.2 ⟨o,by rw [Array.mem_toList_iff];exact Array.mem_of_getElem? ho,hd⟩))) hK
  cases he:effs.contains i
  ·simp only [he,cond_false] at h ⊢
   cases hr:((Region.ready .any ops L).contains i && Region.free .any ops L i)
   ·rw [hr] at h;exact h.elim
   ·simp only [hr,cond_true] at h ⊢
    cases hw:Region.wanted o (yE ops ρ)
    ·simp only [hw,cond_false] at h ⊢
     exact vcD_mono l _ _ _ _ K K' (key _) h
    ·simp only [hw,cond_true] at h ⊢
     exact vcTake_mono (fun v Y h=>vcD_mono l _ _ _ _ K K' (key _) h) h
  ·simp only [he,cond_true] at h ⊢
   cases hr:(Region.ready .any ops L == [i])
   ·rw [hr] at h;exact h.elim
   ·simp only [hr,cond_true] at h ⊢
    cases hw:Region.wanted o (yE ops ρ)
    ·simp only [hw,cond_false] at h ⊢
     exact vcD_mono l _ _ _ _ K K' (key _) h
    ·simp only [hw,cond_true] at h ⊢
     exact vcOp_mono (fun v w' h=>heldAll_mono (fun h=>vcD_mono l _ _ _ _ K K' (key _) h) h) h
mutual
theorem vcE_mono {P:Program} {ops:Array Oper} {ms:Marks} {effs:List Nat}:∀ (t:OT) (L:Array Bool) (hd:HeldL) (ρ:Env) (w:World) (K K':Env->World->Prop),(∀ ρ' w',OffEq (dsts ops.toList) ρ ρ'->K ρ' w'->K' ρ' w')->
  vcE P ops ms effs t L hd ρ w K->vcE P ops ms effs t L hd ρ w K'
 | .nil,L,_,ρ,w,K,K',hk,h=>by
  simp only [vcE] at h ⊢
  cases hr:(Region.ready .any ops L).isEmpty
  ·rw [hr] at h;exact h.elim
  ·rw [hr] at h;exact hk _ _ (OffEq.refl _ _) h
 | .take i t,L,hd,ρ,w,K,K',hk,h=>by
  simp only [vcE] at h ⊢
  cases ho:ops[i]? with
  | none=>rw [ho] at h;exact h.elim
  | some o=>
  simp only [ho] at h ⊢
  have key:∀ v ρ' w',OffEq (dsts ops.toList) (ρ.put o.dst v) ρ'->K ρ' w'->K' ρ' w':=fun v ρ' w' hoff hK=>hk _ _ (fun j hj=>by
   rw [hoff j hj]
   refine put_off fun hd=>?_
   rw [Bool.eq_false_iff] at hj
   exact hj (List.contains_iff_mem.2 (List.mem_filterMap.2 ⟨o,by rw [Array.mem_toList_iff];exact Array.mem_of_getElem? ho,hd⟩))) hK
  cases hr:(!effs.contains i && ((Region.ready .any ops L).contains i && Region.free .any ops L i))
  ·rw [hr] at h;exact h.elim
  ·simp only [hr,cond_true] at h ⊢
   cases hw:Region.wanted o (yE ops ρ)
   ·simp only [hw,cond_false] at h ⊢
    exact vcE_mono t _ _ _ _ K K' (key _) h
   ·simp only [hw,cond_true] at h ⊢
    exact vcTake_mono (fun v Y h=>vcE_mono t _ _ _ _ K K' (key _) h) h
 | .eff c,L,hd,ρ,w,K,K',hk,h=>by
  simp only [vcE] at h ⊢
  cases hr:(Region.ready .any ops L == c.heads && !c.heads.isEmpty)
  ·rw [hr] at h;exact h.elim
  ·rw [hr] at h;exact vcF_mono c L hd ρ w K K' hk h
theorem vcF_mono {P:Program} {ops:Array Oper} {ms:Marks} {effs:List Nat}:∀ (c:OC) (L:Array Bool) (hd:HeldL) (ρ:Env) (w:World) (K K':Env->World->Prop),(∀ ρ' w',OffEq (dsts ops.toList) ρ ρ'->K ρ' w'->K' ρ' w')->
  vcF P ops ms effs c L hd ρ w K->vcF P ops ms effs c L hd ρ w K'
 | .one i t,L,hd,ρ,w,K,K',hk,h=>by
  simp only [vcF] at h ⊢
  cases ho:ops[i]? with
  | none=>rw [ho] at h;exact h.elim
  | some o=>
  simp only [ho] at h ⊢
  have key:∀ v ρ' w',OffEq (dsts ops.toList) (ρ.put o.dst v) ρ'->K ρ' w'->K' ρ' w':=fun v ρ' w' hoff hK=>hk _ _ (fun j hj=>by
   rw [hoff j hj]
   refine put_off fun hd=>?_
   rw [Bool.eq_false_iff] at hj
   exact hj (List.contains_iff_mem.2 (List.mem_filterMap.2 ⟨o,by rw [Array.mem_toList_iff];exact Array.mem_of_getElem? ho,hd⟩))) hK
  cases hw:Region.wanted o (yE ops ρ)
  ·simp only [hw,cond_false] at h ⊢
   exact vcE_mono t _ _ _ _ K K' (key _) h
  ·simp only [hw,cond_true] at h ⊢
   exact vcOp_mono (fun v w' h=>heldAll_mono (fun h=>vcE_mono t _ _ _ _ K K' (key _) h) h) h
 | .alt a b,L,hd,ρ,w,K,K',hk,h=>by
  simp only [vcF] at h ⊢
  exact ⟨vcF_mono a L hd ρ w K K' hk h.1,vcF_mono b L hd ρ w K K' hk h.2⟩
end
theorem vc_mono {P:Program}:∀ (c:Code) (x:An) (Q Q':Post) (ρ:Env) (w:World),(∀ e ρ' w',OffEq (asg c) ρ ρ'->Q e ρ' w'->Q' e ρ' w')->vc P c x Q ρ w->vc P c x Q' ρ w:=by
 intro c
 induction c with
 | skip=>intro x Q Q' ρ w hk h;simp only [vc] at h ⊢;exact hk _ _ _ (OffEq.refl _ _) h
 | exit id=>intro x Q Q' ρ w hk h;simp only [vc] at h ⊢;exact hk _ _ _ (OffEq.refl _ _) h
 | ret=>intro x Q Q' ρ w hk h;simp only [vc] at h ⊢;exact hk _ _ _ (OffEq.refl _ _) h
 | region id ops b=>
  intro x Q Q' ρ w hk h
  cases b
  ·cases x <;> simp only [vc] at h ⊢
   exact vcOps_mono _ _ _ _ _ _ (fun ρ' w' ho hq=>hk _ _ _ ho hq) h
  ·cases x <;> simp only [vc] at h ⊢
   case regE ms t effs=>
    cases hl:(t.fits ops.size && (Region.noSelect ops && noDefer ops))
    ·rw [hl] at h;exact h.elim
    ·rw [hl] at h
     exact fun w1 e=>vcE_mono _ _ _ _ _ _ _ (fun ρ' w' ho hq=>hk _ _ _ ho hq) (h w1 e)
   rename_i order effs
   cases hl:(Nat.ble order.length ops.size && (Region.noSelect ops && noDefer ops))
   ·rw [hl] at h;exact h.elim
   ·rw [hl] at h
    exact fun w1 e=>vcD_mono _ _ _ _ _ _ _ (fun ρ' w' ho hq=>hk _ _ _ ho hq) (h w1 e)
 | seq a b iha ihb=>
  intro x Q Q' ρ w hk h
  have hoff:∀ {ρ' ρ''},OffEq (asg a) ρ ρ'->OffEq (asg b) ρ' ρ''->OffEq (asg (.seq a b)) ρ ρ'':=fun h1 h2 i hi=>by
   have:=contains_append_false.1 hi
   rw [h2 i this.2,h1 i this.1]
  have hoffa:∀ {ρ'},OffEq (asg a) ρ ρ'->OffEq (asg (.seq a b)) ρ ρ':=fun h1=>hoff h1 (OffEq.refl _ _)
  cases x <;> simp only [vc] at h ⊢
  case seq x y=>
   refine iha x _ _ ρ w (fun e ρ' w' ho hq=>?_) h
   cases e <;> first
    | exact ihb y _ _ ρ' w' (fun e ρ'' w'' ho' hq=>hk _ _ _ (hoff ho ho') hq) hq
    | exact hk _ _ _ (hoffa ho) hq
  case cut live x y=>
   cases hl:liveIn live (asg a)
   ·rw [hl] at h;exact h.elim
   ·simp only [hl,cond_true] at h ⊢
    intro K hK
    refine iha x _ _ ρ w (fun e ρ' w' ho hq=>?_) (h K fun w'=>?_)
    ·cases e <;> first
      | exact hq
      | exact hk _ _ _ (hoffa ho) hq
    ·refine PT.imp_mono (fun f' hf' hh g=>?_) (hK w')
     refine ihb y _ _ _ w' (fun e ρ'' w'' ho' hq=>hk _ _ _ (hoff ?_ ho') hq) (hh g)
     intro i hi
     rw [hf' _ i (live_off hl hi)]
     exact havoc_off i hi
 | cond c a b iha ihb=>
  intro x Q Q' ρ w hk h
  cases x <;> simp only [vc] at h ⊢
  ·rename_i x y
   unfold vcCond at h ⊢
   split at h
   ·split at h
    ·exact iha x _ _ ρ w (fun e ρ' w' ho hq=>hk _ _ _ (ho.mono fun i hi=>(contains_append_false.1 hi).1) hq) h
    ·exact ihb y _ _ ρ w (fun e ρ' w' ho hq=>hk _ _ _ (ho.mono fun i hi=>(contains_append_false.1 hi).2) hq) h
   ·exact h.elim
  ·rename_i x y
   unfold vcSplit at h ⊢
   split at h
   ·exact ⟨fun hb=>iha x _ _ ρ w (fun e ρ' w' ho hq=>hk _ _ _ (ho.mono fun i hi=>(contains_append_false.1 hi).1) hq) (h.1 hb),fun hb=>ihb y _ _ ρ w (fun e ρ' w' ho hq=>hk _ _ _ (ho.mono fun i hi=>(contains_append_false.1 hi).2) hq) (h.2 hb)⟩
   ·exact h.elim
 | block id a iha=>
  intro x Q Q' ρ w hk h
  cases x <;> simp only [vc] at h ⊢
  rename_i x
  refine iha x _ _ ρ w (fun e ρ' w' ho hq=>?_) h
  cases e <;> first
   | exact hk _ _ _ ho hq
   | skip
  rename_i id'
  simp only [Post.blk] at hq ⊢
  cases hb:Nat.beq id' id
  ·rw [hb] at hq;exact hk _ _ _ ho hq
  ·rw [hb] at hq;exact hk _ _ _ ho hq
 | loop a iha=>
  intro x Q Q' ρ w hk h
  cases x <;> simp only [vc] at h ⊢
  rename_i live x
  cases hl:liveIn live (asg a)
  ·rw [hl] at h;exact h.elim
  ·simp only [hl,cond_true] at h ⊢
   obtain ⟨I,h0,h⟩:=h
   refine ⟨I,h0,fun n g w'=>PT.all_mono (fun ρ' hρ' hv=>?_) (h n g w')⟩
   refine iha x _ _ ρ' w' (fun e ρ'' w'' ho hq=>?_) hv
   have hoff:OffEq (asg a) ρ ρ'':=fun i hi=>by
    rw [ho i hi,hρ' i (live_off hl hi)]
    exact havoc_off i hi
   cases e <;> first
    | exact hq
    | exact hk _ _ _ hoff hq
 | _=>intro x Q Q' ρ w hk h;cases x <;> simp only [vc] at h
theorem wp_loop_n {P:Program} {r:Option Nat} {c:Code} {Q:Exit->Act->World->Prop} (I:Nat->Act->World->Prop)
  (round:∀ n a w,I n a w->c.wpIn (FW r) 0 P (Exit.then (fun a' w'=>∃ n',n'<n/\I n' a' w') Q) a w) {n:Nat} {a:Act} {w:World} (h0:I n a w):(Code.loop c).wpIn (FW r) 0 P Q a w:=by
 intro b k cs hro hb hr
 have key:∀ n a w,I n a w->∃ e a' w',Q e a' w'/\ArrivesIn (Machine.fenced P (FW r)) P (lone (b.atR a (.code c::.inLoop c::k)) cs w) b k cs e a' w':=by
  intro n
  induction n using Nat.strongRecOn with
  | _ n ih=>
   intro a w hI
   obtain ⟨e,a₁,w₁,hq,harr⟩:=round n a w hI b (.inLoop c::k) cs hro hb hr
   cases e with
   | normal=>
    obtain ⟨n',hlt,hI₁⟩:=hq
    obtain ⟨e₂,a₂,w₂,hq₂,harr₂⟩:=ih n' hlt a₁ w₁ hI₁
    exact ⟨e₂,a₂,w₂,hq₂,.of_steps (StepsIn.trans harr (.one (fenced_calm hb hr rfl) stepR_inLoop)) harr₂⟩
   | exit id=>exact ⟨_,a₁,w₁,hq,.pass (x:=.inLoop c) rfl (fun _ _=>.inl (by simp)) harr⟩
   | goto l=>exact ⟨_,a₁,w₁,hq,.pass (x:=.inLoop c) rfl (fun _ _=>.inl (by simp)) harr⟩
   | ret=>exact ⟨_,a₁,w₁,hq,.pass (x:=.inLoop c) rfl (fun _ _=>.inl (by simp)) harr⟩
   | panic ch=>exact ⟨_,a₁,w₁,hq,.pass (x:=.inLoop c) rfl (fun _ _=>.inl (by simp)) harr⟩
   | outgrown=>exact ⟨_,a₁,w₁,hq,.pass (x:=.inLoop c) rfl (fun _ _=>.inl (by simp)) harr⟩
 obtain ⟨e,a',w',hq,harr⟩:=key n a w h0
 exact ⟨e,a',w',hq,.of_steps (.one (fenced_calm hb hr rfl) stepR_loop) harr⟩
def okC (n:Nat):Code->Bool
 | .region _ ops _=>dstsIn ops.toList n
 | .seq a b=>okC n a && okC n b
 | .cond _ a b=>okC n a && okC n b
 | .block _ a=>okC n a
 | .loop a=>okC n a
 | _=>true
def onAct (n:Nat) (d:List Deferred) (Q:Post):Exit->Act->World->Prop:=fun e a w=>∃ ρ,Fits n d a ρ/\Q e ρ w
theorem vc_sound {P:Program} (hm:P.follows .mixedOrders=true) {r:Option Nat} {n:Nat} {d:List Deferred}:∀ (c:Code) (x:An) (Q:Post) (ρ:Env) (w:World) (a:Act),okC n c=true->Fits n d a ρ->vc P c x Q ρ w->c.wpIn (FW r) 0 P (onAct n d Q) a w:=by
 intro c
 induction c with
 | skip=>intro x Q ρ w a _ hf h;simp only [vc] at h;exact wpIn_skip ⟨ρ,hf,h⟩
 | exit id=>intro x Q ρ w a _ hf h;simp only [vc] at h;exact wpIn_exit ⟨ρ,hf,h⟩
 | ret=>intro x Q ρ w a _ hf h;simp only [vc] at h;exact wpIn_ret ⟨ρ,hf,h⟩
 | region id ops b=>
  intro x Q ρ w a hok hf h
  simp only [okC] at hok
  cases b
  ·cases x <;> simp only [vc] at h
   rename_i ms
   refine wpIn_region_list (vcOps_sound (r:=r) (ms:=ms) _ 0 ρ w a hf hok ?_)
   exact vcOps_mono _ _ _ _ _ _ (fun ρ' w' _ hq a' hf'=>⟨ρ',hf',hq⟩) h
  ·cases x <;> simp only [vc] at h
   case regE ms t effs=>
    cases hl:(t.fits ops.size && (Region.noSelect ops && noDefer ops))
    ·rw [hl] at h;exact h.elim
    ·rw [hl] at h
     simp only [Bool.and_eq_true] at hl
     let Q':Exit->Act->World->Prop:=fun e a w=>match e with | .normal=>onAct n d Q .normal a w | _=>False
     have hq':∀ e a w,Q' e a w->onAct n d Q e a w:=fun e a w hq=>by
      cases e <;> first
       | exact hq
       | exact hq.elim
     refine wpIn_mono (Q:=Q') (wpIn_region_any hm (wpAny_of_S (S:=SHd ops effs []) _ _ _ _ ?_)) hq'
     have hcl:Closed .any ops (Array.replicate ops.size false):=fun j oj _ hj=>by
      rcases Nat.lt_or_ge j ops.size with h' | h'
      ·simp [Array.getD_eq_getD_getElem?,h'] at hj
      ·simp [Array.getD_eq_getD_getElem?,h'] at hj
     exact vcE_sound (n:=n) (d:=d) (K:=Q .normal) hl.2.2 hl.2.1 hok (fun c a w hq=>hq.elim) (fun ρ' w' a' hk hf'=>⟨ρ',hf',hk⟩) t _ [] ρ _ a ops.size hl.1 hcl hf
      (fun p hp=>(by cases hp)) (h _ rfl)
   rename_i ms order effs
   cases hl:(Nat.ble order.length ops.size && (Region.noSelect ops && noDefer ops))
   ·rw [hl] at h;exact h.elim
   ·rw [hl] at h
    simp only [Bool.and_eq_true] at hl
    let Q':Exit->Act->World->Prop:=fun e a w=>match e with | .normal=>onAct n d Q .normal a w | _=>False
    have hq':∀ e a w,Q' e a w->onAct n d Q e a w:=fun e a w hq=>by
     cases e <;> first
      | exact hq
      | exact hq.elim
    refine wpIn_mono (Q:=Q') (wpIn_region_any hm (wpAny_of_S (S:=SHd ops effs []) _ _ _ _ ?_)) hq'
    have hcl:Closed .any ops (Array.replicate ops.size false):=fun j oj _ hj=>by
     rcases Nat.lt_or_ge j ops.size with h' | h'
     ·simp [Array.getD_eq_getD_getElem?,h'] at hj
     ·simp [Array.getD_eq_getD_getElem?,h'] at hj
    exact vcD_sound (n:=n) (d:=d) (K:=Q .normal) hl.2.2 hl.2.1 hok (fun c a w hq=>hq.elim) (fun ρ' w' a' hk hf'=>⟨ρ',hf',hk⟩) order _ [] ρ _ a ops.size hcl (Nat.le_of_ble_eq_true hl.1) hf
     (fun p hp=>(by cases hp)) (h _ rfl)
 | seq p q ihp ihq=>
  intro x Q ρ w a hok hf h
  simp only [okC,Bool.and_eq_true] at hok
  cases x <;> simp only [vc] at h
  case seq x y=>
   refine wpIn_seq (wpIn_mono (ihp x _ ρ w a hok.1 hf h) fun e a' w' hq=>?_)
   obtain ⟨ρ',hf',hq⟩:=hq
   cases e <;> first
    | exact ihq y Q ρ' w' a' hok.2 hf' hq
    | exact ⟨ρ',hf',hq⟩
  case cut live x y=>
   cases hl:liveIn live (asg p)
   ·rw [hl] at h;exact h.elim
   ·simp only [hl,cond_true] at h
    have h1:=h (PT.mk live (fun f w'=>∀ g,vc P q y Q (f (havoc (asg p) ρ g)) w') id) (fun w'=>PT.imp_mk live _ id w')
    have h2:=vc_mono p x _ (fun e ρ' w'=>OffEq (asg p) ρ ρ'/\Post.seq (fun ρ' w'=>PT.at live (PT.mk live (fun f w'=>∀ g,vc P q y Q (f (havoc (asg p) ρ g)) w') id) ρ' w') Q e ρ' w') ρ w (fun e ρ' w' ho hq=>⟨ho,hq⟩) h1
    refine wpIn_seq (wpIn_mono (ihp x _ ρ w a hok.1 hf h2) fun e a' w' hq=>?_)
    obtain ⟨ρ',hf',ho,hq⟩:=hq
    cases e <;> first
     | exact ⟨ρ',hf',hq⟩
     | skip
    obtain ⟨f,hfix,hg⟩:=PT.at_mk rfl hq
    have:=hg ρ'
    rw [havoc_self ho,hfix] at this
    exact ihq y Q ρ' w' a' hok.2 hf' this
 | cond v p q ihp ihq=>
  intro x Q ρ w a hok hf h
  simp only [okC,Bool.and_eq_true] at hok
  cases x <;> simp only [vc] at h
  ·rename_i x y
   unfold vcCond at h
   split at h
   ·rename_i b hb
    split at h
    ·exact wpIn_cond (t:=true) (by rw [hf.eval];exact hb) (ihp x Q ρ w a hok.1 hf h)
    ·exact wpIn_cond (t:=false) (by rw [hf.eval];exact hb) (ihq y Q ρ w a hok.2 hf h)
   ·exact h.elim
  ·rename_i x y
   unfold vcSplit at h
   split at h
   ·rename_i b hb
    cases b
    ·exact wpIn_cond (t:=false) (by rw [hf.eval];exact hb) (ihq y Q ρ w a hok.2 hf (h.2 rfl))
    ·exact wpIn_cond (t:=true) (by rw [hf.eval];exact hb) (ihp x Q ρ w a hok.1 hf (h.1 rfl))
   ·exact h.elim
 | block id p ihp=>
  intro x Q ρ w a hok hf h
  simp only [okC] at hok
  cases x <;> simp only [vc] at h
  rename_i x
  refine wpIn_block (wpIn_mono (ihp x _ ρ w a hok hf h) fun e a' w' hq=>?_)
  obtain ⟨ρ',hf',hq⟩:=hq
  cases e <;> first
   | exact ⟨ρ',hf',hq⟩
   | skip
  rename_i id'
  simp only [Post.blk] at hq
  simp only [Exit.inBlock]
  cases hb:Nat.beq id' id
  ·rw [hb] at hq
   rw [if_neg (fun e=>by rw [e,Nat.beq_refl] at hb;cases hb)]
   exact ⟨ρ',hf',hq⟩
  ·rw [hb] at hq
   rw [if_pos (Nat.eq_of_beq_eq_true hb)]
   exact ⟨ρ',hf',hq⟩
 | loop p ihp=>
  intro x Q ρ w a hok hf h
  simp only [okC] at hok
  cases x <;> simp only [vc] at h
  rename_i live x
  cases hl:liveIn live (asg p)
  ·rw [hl] at h;exact h.elim
  ·simp only [hl,cond_true] at h
   obtain ⟨I,⟨n0,h0⟩,h⟩:=h
   refine wp_loop_n (fun k a' w'=>∃ ρ',Fits n d a' ρ'/\OffEq (asg p) ρ ρ'/\PT.at live (I k) ρ' w') ?_ (n:=n0) ⟨ρ,hf,OffEq.refl _ _,h0⟩
   rintro k a' w' ⟨ρ',hf',ho,hI⟩
   have h1:=PT.all_use (ρ:=ρ') (w:=w') hI (by
    have:=h k ρ' w'
    rw [havoc_self ho] at this
    exact this)
   have h2:=vc_mono p x _ (fun e ρ'' w''=>OffEq (asg p) ρ' ρ''/\Post.seq (fun ρ'' w''=>∃ n',n'<k/\PT.at live (I n') ρ'' w'') Q e ρ'' w'') ρ' w' (fun e ρ' w' ho hq=>⟨ho,hq⟩) h1
   refine wpIn_mono (ihp x _ ρ' w' a' hok hf' h2) fun e a'' w'' hq=>?_
   obtain ⟨ρ'',hf'',ho',hq⟩:=hq
   cases e <;> first
    | exact ⟨ρ'',hf'',hq⟩
    | skip
   obtain ⟨n',hlt,hI'⟩:=hq
   exact ⟨n',hlt,ρ'',hf'',ho.trans ho',hI'⟩
 | _=>intro x Q ρ w a _ _ h;cases x <;> simp only [vc] at h
/-! ### A function -/
def vcRes (P:Program):List ResultVar->List Value->Env->World->(Value->Prop)->Prop
 | [],[v],_,_,K=>K v
 | [],acc,_,_,K=>K (.tuple acc.reverse.toArray)
 | .tmp t::l,acc,ρ,w,K=>vcRes P l (ρ t::acc) ρ w K
 | .cell a t::l,acc,ρ,w,K=>vcLoad P t (ρ a) w fun v=>vcRes P l (v::acc) ρ w K
def retQ (P:Program) (fn:Func) (R:Ending->World->Prop):Post
 | .normal,ρ,w | .ret,ρ,w=>vcRes P fn.results.toList [] ρ w fun v=>R (.returned v) w
 | _,_,_=>False
def argEnv (args:Array Value):Env:=fun i=>args.toList.getD i undef
theorem vcRes_out {P:Program} {tmps:Array Value} {w:World} {K:Value->Prop}:∀ (l:List ResultVar) (acc:List Value),vcRes P l acc (fun i=>tmps.getD i undef) w K->
  ∃ vs:List Value,(l.mapM (fun (x:ResultVar)=>match x with
   | .tmp t=>(pure (tmps.getD t undef):Sem Value)
   | .cell a t=>do loadVar t (<- asAddr (tmps.getD a undef)))).run P w=.ok vs w/\K (match acc.reverse++vs with | [v]=>v | vs=>.tuple vs.toArray)
 | [],[],h=>⟨[],rfl,h⟩
 | [],[v],h=>⟨[],rfl,h⟩
 | [],u::v::l,h=>by
  refine ⟨[],rfl,?_⟩
  rw [List.append_nil]
  split
  ·rename_i v' hv
   have:=congrArg List.length hv
   simp at this
  ·exact h
 | .tmp t::l,acc,h=>by
  simp only [vcRes] at h
  obtain ⟨vs,h1,h2⟩:=vcRes_out l _ h
  refine ⟨tmps.getD t undef::vs,?_,by simpa using h2⟩
  simp only [List.mapM_cons,Sem.run_bind,Sem.run_pure,Result.andThen_ok,h1]
 | .cell a t::l,acc,h=>by
  simp only [vcRes] at h
  obtain ⟨p,v,hx,h,hrun⟩:=vcLoad_out h
  obtain ⟨vs,h1,h2⟩:=vcRes_out l _ h
  refine ⟨v::vs,?_,by simpa using h2⟩
  have hr:=hrun w (fun i _=>rfl)
  rw [hx] at hr
  simp only [Instr.loadAt,Instr.sureAddr,Sem.run_bind,Sem.run_pure,Result.andThen_ok] at hr
  have ha:(asAddr (tmps.getD a undef)).run P w=.ok p w:=by rw [hx];rfl
  simp only [List.mapM_cons,Sem.run_bind,Sem.run_pure,Result.andThen_ok,ha,hr,h1]
theorem results_of {P:Program} {fn:Func} {tmps:Array Value} {w:World} {K:Value->Prop} (h:vcRes P fn.results.toList [] (fun i=>tmps.getD i undef) w K):∃ v,(results fn tmps).run P w=.ok v w/\K v:=by
 obtain ⟨vs,h1,h2⟩:=vcRes_out _ _ h
 simp only [List.reverse_nil,List.nil_append] at h2
 refine ⟨_,?_,h2⟩
 have:(fn.results.mapM (fun (x:ResultVar)=>match x with
   | .tmp t=>(pure (tmps.getD t undef):Sem Value)
   | .cell a t=>do loadVar t (<- asAddr (tmps.getD a undef)))).run P w=.ok vs.toArray w:=by
  rw [Array.mapM_eq_mapM_toList]
  simp only [Sem.run_map,h1,Result.andThen_ok]
 unfold results
 simp only [Sem.run_bind]
 erw [this]
 simp only [Result.andThen_ok,Sem.run_pure]
 congr 1
 match vs with
 | []=>rfl
 | [v]=>rfl
 | v::u::l=>simp
theorem calls_of_vc {P:Program} {f:FuncId} {fn:Func} {c:Code} {args:Array Value} {w:World} {R:Ending->World->Prop} (x:An) (hf:P.funcs[f]?=some fn) (hb:fn.body=some c) (hm:P.follows .mixedOrders=true)
  (hok:(okC fn.ntmps c && Nat.ble args.toList.length fn.ntmps)=true) (h:vc P c x (retQ P fn R) (argEnv args) w):Calls P f args w R:=by
 simp only [Bool.and_eq_true] at hok
 have hsz:args.size<=fn.ntmps:=Nat.le_of_ble_eq_true (by simpa using hok.2)
 refine calls_of_wp hf hb (wp_mono ((wpIn_wide (n:=0)).1 (vc_sound hm (r:=none) (n:=fn.ntmps) (d:=[]) c x _ _ w _ hok.1 ⟨?_,by simp;omega,rfl⟩ h)) ?_)
 ·funext i
  simp only [envOf,argEnv,Array.getD_eq_getD_getElem?,List.getD_eq_getElem?_getD]
  rw [Array.getElem?_append]
  split
  ·simp
  ·rename_i hi
   rw [Array.getElem?_replicate]
   have:args.toList[i]?=none:=by simp;omega
   rw [this]
   split <;> rfl
 ·rintro e a' w' ⟨ρ,hfit,hq⟩
  have henv:ρ=fun i=>a'.tmps.getD i undef:=hfit.env.symm
  subst henv
  cases e <;> simp only [retQ] at hq <;> first
   | exact hq.elim
   |(obtain ⟨v,h1,h2⟩:=results_of hq
     exact ⟨hfit.defers,v,h1,h2⟩)
end Go.Nf
