import Derived.Test.YtcaokpglbolkcaaGreatGz
import Derived.Test.YtcaokpglbolkcaaGreatNfW
namespace Go.Proofs.YtcaokpglbolkcaaGreat
open Go Go.Nf Go.ChangeShapes Go.WideShapes Go.RowKit
theorem ownK:ownKnob Tryz.prog.godebug=none:=by kernel_rfl
theorem laidOut:laidOutB Tryz.prog=true:=by kernel_rfl
theorem leaf37:leafs Tryz.prog 4 37=some [.int .u8,.int .u8,.int .u8]:=by kernel_rfl
theorem undS22:Tryz.prog.underlying 22=some (.slice 37):=by kernel_rfl
theorem rows_with {α:Type} (f:α->List Value) (Q:α->Prop):∀ rows:List (List Value),(∀ row∈rows,∃ a,row=f a/\Q a)->∃ xs:List α,rows=xs.map f/\∀ x∈xs,Q x
 | [],_=>⟨[],rfl,fun x hx=>(by cases hx)⟩
 | row::rows,h=>by
  obtain ⟨a,rfl,ha⟩:=h row (.head _)
  obtain ⟨xs,rfl,hx⟩:=rows_with f Q rows fun r hr=>h r (.tail _ hr)
  exact ⟨a::xs,rfl,fun x hx'=>by
   rcases List.mem_cons.1 hx' with rfl | k
   ·exact ha
   ·exact hx x k⟩
theorem u8_lit {a:Int} (h:(Lit.int .u8 a).wf=true):a=((a.toNat:Nat):Int)/\a.toNat<256:=by
 simp only [Lit.wf,Bool.and_eq_true,decide_eq_true_eq] at h
 have h1:IntKind.min .u8=0:=rfl
 have h2:IntKind.max .u8=255:=rfl
 omega
section
variable {H:Type} {enc:TypeId × Value->H} {W:World}
theorem turns_in {v:Value} {d:DataW H} {p:List MemPlace} (hv:∃ base,Value.okWide Tryz.prog W .any base 22 v) (hh:DataW.Trod enc Tryz.prog W 0 (fun _=>true) true 22 v d p):
  ∃ o c,∃ n:Nat,v=.slice o n c/\TurnsAt W (fun b=>b<hs W) o n:=by
 obtain ⟨o,n,cc,rows,rfl,hl,hm,hrd,hrow⟩:=slIn_open (e:=37) undS22 leaf37 (slice_in undS22 hv hh)
 obtain ⟨xs,rfl,hx⟩:=rows_with turnV (fun t=>t.1<256/\t.2.1<256/\t.2.2<256) rows fun row hr=>by
  have h:=hrow row hr
  obtain ⟨a1,r1,rfl,b1,h⟩:=h.icons
  obtain ⟨a2,r2,rfl,b2,h⟩:=h.icons
  obtain ⟨a3,r3,rfl,b3,h⟩:=h.icons
  obtain rfl:=h.nil
  obtain ⟨e1,q1⟩:=u8_lit b1
  obtain ⟨e2,q2⟩:=u8_lit b2
  obtain ⟨e3,q3⟩:=u8_lit b3
  refine ⟨(a1.toNat,a2.toNat,a3.toNat),?_,q1,q2,q3⟩
  unfold turnV
  rw [<- e1,<- e2,<- e3]
 rw [List.length_map] at hl
 have hsz:Tryz.prog.cellsOf 37=3:=by kernel_rfl
 rw [hsz] at hrd
 refine ⟨o,cc,n,rfl,xs,hl,hx,fun i row hi=>?_⟩
 obtain ⟨a,h1,h2⟩:=hrd.at hi
 refine ⟨a,h1,?_,h2⟩
 rw [List.getElem?_map] at hi
 cases hxi:xs[i]? with
 | none=>rw [hxi] at hi;cases hi
 | some t=>
  rw [hxi] at hi
  cases hi
  have:=cell_block (h2 0 _ rfl)
  have e:((a.add ((i:Int).toNat*3)).add 0).block=a.block:=by
   have ab:∀ (x:Addr) (k:Nat),(x.add k).block=x.block:=fun x k=>by unfold Addr.add;split <;> rfl
   rw [ab,ab]
  rw [e] at this
  exact this
end
end Go.Proofs.YtcaokpglbolkcaaGreat
