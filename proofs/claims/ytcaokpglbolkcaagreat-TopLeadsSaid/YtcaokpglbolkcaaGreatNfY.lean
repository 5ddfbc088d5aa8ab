import Derived.Test.YtcaokpglbolkcaaGreatNfW
namespace Go.Nf
open Go
theorem dT {p:Prop} [Decidable p] (h:decide p=true):p:=of_decide_eq_true h
theorem dF {p:Prop} [Decidable p] (h:decide p=false):¬p:=of_decide_eq_false h
theorem nT {p:Prop} [Decidable p] (h:(!decide p)=true):¬p:=by simpa using h
theorem nF {p:Prop} [Decidable p] (h:(!decide p)=false):p:=by simpa using h
theorem wr {x:Int} (h:-9223372036854775808<=x/\x<=9223372036854775807):IntKind.wrap .i64 x=x:=by rw [IntKind.wrap_i64];omega
theorem yes {p A B:Prop} [Decidable p] (h:p) (a:A):(decide p=true->A)/\(decide p=false->B):=⟨fun _=>a,fun k=>absurd h (dF k)⟩
theorem no {p A B:Prop} [Decidable p] (h:¬p) (b:B):(decide p=true->A)/\(decide p=false->B):=⟨fun k=>absurd (dT k) h,fun _=>b⟩
theorem nyes {p A B:Prop} [Decidable p] (h:¬p) (a:A):((!decide p)=true->A)/\((!decide p)=false->B):=⟨fun _=>a,fun k=>absurd (nF k) h⟩
theorem nno {p A B:Prop} [Decidable p] (h:p) (b:B):((!decide p)=true->A)/\((!decide p)=false->B):=⟨fun k=>absurd h (nT k),fun _=>b⟩
theorem bT {A B:Prop} (a:A):(true=true->A)/\(true=false->B):=⟨fun _=>a,fun k=>Bool.noConfusion k⟩
theorem bF {A B:Prop} (b:B):(false=true->A)/\(false=false->B):=⟨fun k=>Bool.noConfusion k,fun _=>b⟩
theorem toNat_cast (k:Nat):((k:Int)).toNat=k:=Int.toNat_natCast k
theorem cell_keep {S:Nat->Prop} {w w':World} {a:Addr} {v:Value} (g:Only S w w') (hs:¬S a.block) (h:w.cell? a=some v):w'.cell? a=some v:=by
 have e:=g.block a.block (cell_block h) hs
 rw [<- h]
 simp only [World.cell?,e]
end Go.Nf
