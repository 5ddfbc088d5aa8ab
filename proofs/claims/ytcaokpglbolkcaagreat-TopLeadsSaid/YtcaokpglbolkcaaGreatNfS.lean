import Derived.Test.YtcaokpglbolkcaaGreatNfU
namespace Go.Nf
open Go Go.RowKit
def Recs (w:World) (A:Nat->Prop) (o:Option Addr) (k:Nat) (rows:List (List Value)):Prop:=
 ∀ (i:Nat) row,rows[i]?=some row->∃ a,o=some a/\A a.block/\∀ j v,row[j]?=some v->w.cell? ((a.add ((i:Int).toNat*k)).add j)=some v
theorem block_add2 (a:Addr) (i j:Nat):((a.add i).add j).block=a.block:=by
 have h1:∀ (a:Addr) (n:Nat),(a.add n).block=a.block:=fun a n=>ChangeShapes.block_add a n
 rw [h1,h1]
theorem Recs.keep {w w':World} {A S:Nat->Prop} {o:Option Addr} {k:Nat} {rows:List (List Value)} (h:Recs w A o k rows) (g:Only S w w') (hS:∀ b,A b->¬S b):Recs w' A o k rows:=fun i row hi=>by
 obtain ⟨a,ha,hA,hc⟩:=h i row hi
 exact ⟨a,ha,hA,fun j v hj=>cell_keep g (by rw [block_add2];exact hS _ hA) (hc j v hj)⟩
theorem Recs.grow {w w':World} {A:Nat->Prop} {o:Option Addr} {k:Nat} {rows:List (List Value)} (h:Recs w A o k rows) (g:Grow w w'):Recs w' A o k rows:=h.keep g fun _ _ h=>h
theorem Recs.mono {w:World} {A A':Nat->Prop} {o:Option Addr} {k:Nat} {rows:List (List Value)} (h:Recs w A o k rows) (hA:∀ b,A b->A' b):Recs w A' o k rows:=fun i row hi=>by
 obtain ⟨a,h1,h2,h3⟩:=h i row hi
 exact ⟨a,h1,hA _ h2,h3⟩
theorem Recs.nil (w:World) (A:Nat->Prop) (o:Option Addr) (k:Nat):Recs w A o k []:=fun i row h=>by simp at h
/-! ### strings -/
def sb (s:ByteArray):List UInt8:=s.data.toList
theorem sb_inj {s t:ByteArray} (h:sb s=sb t):s=t:=by
 cases s with | mk a=>cases t with | mk b=>exact congrArg ByteArray.mk (Array.ext' h)
end Go.Nf
