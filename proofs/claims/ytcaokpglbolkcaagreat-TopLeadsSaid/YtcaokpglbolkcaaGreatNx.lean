import Derived.Test.YtcaokpglbolkcaaGreatNw
namespace Go.Proofs.YtcaokpglbolkcaaGreat
open Go Go.Nf Go.RowKit
theorem termAt_last (l:List Ent):termAt l l.length=some (lastT l):=by
 unfold termAt lastT
 split
 ·rename_i h
  rw [List.eq_nil_of_length_eq_zero h];rfl
 ·rename_i h
  rw [List.getLast?_eq_getElem?,List.getElem?_eq_getElem (show l.length - 1<l.length by omega)];rfl
theorem mergeL_end (log:List Ent) (e:Ent):mergeL log log.length [e]=log++[e]:=by
 unfold mergeL
 rw [List.getElem?_eq_none (Nat.le_refl _),if_neg (by simp),List.take_length]
theorem ents_one {w:World} {g:Nat} {A:Nat->Prop} {e:Ent} {o:Option Addr} {c:Nat} (r:Row w g 49 [.int .i64 (e.term:Int),.int .i64 (e.kind:Int),.slice o e.body.length c]) (hb:Byts w A o e.body):Ents w (fun b=>b=g\/A b) (some ⟨g,0,none⟩) [e]:=by
 refine ⟨[(e,(o,c))],rfl,?_,fun x hx=>?_⟩
 ·have:Row w g 49 (([(e,(o,c))]:List EP).flatMap entV):=r
  exact (row_recs (f:=entV) (fun _=>rfl) (by decide) this).mono fun b hb=>.inl hb
 ·rw [List.mem_singleton.1 hx];exact hb.mono fun b hb=>.inr hb
section
variable {w:World} {N D:Nat->Prop} {p t ma dur k:Nat} {s:PN} {mm:Memb} {ops:List Op} {uns:Bool} {outs:List Msg} {q:Ptrs}
theorem Wf.lastLe (h:Wf s k):lastT s.log<=s.term:=by
 unfold lastT
 rw [List.getLast?_eq_getElem?]
 cases hx:s.log[s.log.length - 1]? with
 | none=>exact Nat.zero_le _
 | some e=>exact (h.ent e (List.mem_of_getElem? hx)).2
theorem NodeX.cellNext (h:NodeX w D p t s mm ma ops dur uns outs q) {to:Nat} (ht:to<9):w.cell? (Addr.add (⟨p,26,none⟩:Addr) ((to:Int).toNat*1))=some (.int .i64 ((s.next.getD to 0:Nat):Int)):=by
 rw [Addr.add_lit,toNat_cast,Nat.mul_one]
 exact h.row.cell (nodeV_next h.len ht)
theorem NodeX.cellMtch (h:NodeX w D p t s mm ma ops dur uns outs q) {to:Nat} (ht:to<9):w.cell? (Addr.add (⟨p,35,none⟩:Addr) ((to:Int).toNat*1))=some (.int .i64 ((s.mtch.getD to 0:Nat):Int)):=by
 rw [Addr.add_lit,toNat_cast,Nat.mul_one]
 exact h.row.cell (nodeV_mtch h.len ht)
theorem NodeAt.up {k':Nat} (h:NodeAt w N D p t s uns outs k) (hk:k<=k'):NodeAt w N D p t s uns outs k':=by
 obtain ⟨q,ops,dur,h1,h2,hh,hst,hol,hd⟩:=h.ex
 exact ⟨q,ops,dur,h1,h2,hh,hst,by omega,hd⟩
theorem add_c {A:Nat->Prop} {o:Option Addr} {c kind:Nat} {body:List UInt8} (h:NodeAt w N D p t s uns outs k) (wf:Wf s k) (hk:k<=90100) (hb:Byts w A o body) (hA:∀ b,A b->¬N b/\b<hs w) (hok:OkEnt ⟨s.term,kind,body⟩):
  Calls Tryz.prog 69 #[.pointer (some ⟨p,0,none⟩),.int .i64 (kind:Int),.slice o body.length c] w fun e w'=>e=.returned (.bool true)/\∃ N' D' uns',NodeAt w' N' D' p t (addS s ⟨s.term,kind,body⟩) uns' outs (k+16)/\Moves w w' N D N' D':=by
 obtain ⟨q,ops,dur,h1,h2,hrest⟩:=h.ex
 have hl:=wf.ll
 refine nf69 p kind o body.length c w _ ⟨_,h1.cell (by omega) rfl,(last_c h1.log (by omega)).mono ?_⟩
 rintro _ w3 ⟨rfl,g3⟩
 have x3:=h1.grow g3
 refine ⟨_,_,rfl,_,x3.cell (by omega) rfl,(term_c x3.vr).mono ?_⟩
 rintro _ w8 ⟨rfl,e8⟩
 have e8:=e8.symm
 subst e8
 refine ⟨_,rfl,fun w10 e10=>?_⟩
 have r10:Row w10 (hs w3) 49 [.int .i64 (s.term:Int),.int .i64 (kind:Int),.slice o body.length c]:=Row.new e10
 have g10:Grow w3 w10:=only_alloc e10
 have z10:=hs_alloc e10
 have z3:=g3.size
 have G10:=g3.trans' g10
 have lt:=h.lt
 have he:Ents w10 (fun b=>b=hs w3\/A b) (some ⟨hs w3,0,none⟩) [⟨s.term,kind,body⟩]:=ents_one r10 (hb.grow G10)
 refine (write_c (c2:=1) (l:=[⟨s.term,kind,body⟩]) (h.grow G10) wf hk (termAt_last s.log) (Nat.le_trans wf.lastLe wf.t) (by simp) (by simp) he (fun e he=>by rw [List.mem_singleton.1 he];exact hok) (fun i e he=>?_) (fun b hb=>?_)).mono ?_
 ·have hi:i=0:=by
   rcases Nat.eq_zero_or_pos i with h | h
   ·exact h
   ·rw [List.getElem?_eq_none (by simp;omega)] at he;cases he
  subst hi
  cases he
  exact wf.lastLe
 ·rcases hb with rfl | hb
  ·exact ⟨fun k=>by have:=lt _ (.inl k);omega,by omega⟩
  ·have:=hA b hb
   exact ⟨this.1,by omega⟩
 ·rintro _ w13 ⟨rfl,N',D',uns',n13,mv⟩
  refine ⟨_,rfl,bT ⟨rfl,N',D',uns',?_,(Moves.grow G10).trans mv⟩⟩
  rw [mergeL_end] at n13
  exact n13.up (by have:=newE_le s.log s.log.length [⟨s.term,kind,body⟩];simp at this;omega)
theorem sendAppend_c {to:Nat} (h:NodeAt w N D p t s uns outs k) (wf:Wf s k) (hk:k<=95000) (hn1:1<=s.next.getD to 0) (hto:to<9) (hol:outs.length<=1000):
  Calls Tryz.prog 64 #[.pointer (some ⟨p,0,none⟩),.int .i64 (to:Int)] w fun e w'=>e=.returned (.tuple #[])/\∃ N' D',NodeAt w' N' D' p t s uns (outs++[sendAppendS s to]) k/\Moves w w' N D N' D':=by
 obtain ⟨q,ops,dur,h1,h2,hrest⟩:=h.ex
 have hn:=wf.nx to
 have hl:=wf.ll
 have hw:IntKind.wrap .i64 (((s.next.getD to 0:Nat):Int) - 1)=((s.next.getD to 0 - 1:Nat):Int):=by rw [wr (by omega)];omega
 have hs8:∀ e∈s.log,e.body.length<=8192:=fun e he=>by have:=(wf.ent e he).1.b;omega
 refine nf64 p to w _ ⟨⟨by omega,by omega⟩,_,h1.cellNext hto,_,h1.cell (by omega) rfl,?_⟩
 rw [hw]
 refine (lterm_c h1.log (by omega) _ (by omega)).mono ?_
 rintro _ w4 ⟨rfl,e4⟩
 have e4:=e4.symm
 subst e4
 refine ⟨_,_,rfl,fun _ w8 e8=>?_,fun _ w8 e8=>?_⟩ <;>
 ·have g8:Grow w w8:=only_drew e8
  have z8:=g8.size
  have x8:=h1.grow g8
  refine ⟨_,x8.cell (by omega) rfl,⟨by omega,by omega⟩,_,x8.cellNext hto,(slice_c x8.log (by omega) hn1 (by omega) hs8).mono ?_⟩
  rintro _ w13 ⟨o,c,rfl,he,hc,g13⟩
  generalize hel:(s.log.drop (s.next.getD to 0 - 1)).take 16=l at*
  have hl16:l.length<=16:=by rw [<- hel,List.length_take];omega
  have hbd:∀ e∈l,e.body.length<=64:=fun e he=>by
   rw [<- hel] at he
   exact (wf.ent e (List.mem_of_mem_drop (List.mem_of_mem_take he))).1.b
  have z13:=g13.size
  have lt:=h.lt
  refine ⟨_,_,_,rfl,fun k17 hk17=>?_⟩
  have fin:∀ w19,Grow w13 w19->k17 o l.length c w19:=fun w19 g19=>by
   refine hk17 w19 o l.length c fun _=>?_
   have G:=(g8.trans' g13).trans' g19
   have z19:=g19.size
   have x19:=h1.grow G
   refine ⟨_,x19.cell (by omega) rfl,?_⟩
   have n19:NodeAt w19 N (fun b=>D b\/(hs w8<=b/\b<hs w13)) p t s uns outs k:=⟨q,ops,dur,x19.more (fun b hb=>.inl hb) (fun b hb=>by
    rcases hb with hb | hb
    ·exact x19.ap b hb
    ·exact ⟨fun k=>by have:=h1.lt b k;omega,by omega⟩),h2,hrest⟩
   have hm:(sendAppendS s to).ents=l:=hel
   have key:=send_c (sendAppendS s to) (src0:=0) (term0:=0) (oe:=o) (ce:=c) n19 hol rfl rfl (by rw [hm];exact (he.grow g19).mono fun b hb=>.inr hb) (by rw [hm];exact hc)
   unfold msgA at key
   rw [hm] at key
   refine key.mono ?_
   rintro _ w27 ⟨rfl,N',n27,mv⟩
   exact ⟨rfl,rfl,N',_,n27,(Moves.trans ⟨Grow.only G,fun b hb=>.inl hb,fun b hb=>hb.imp id fun k=>by omega,fun b hb=>.inl hb⟩ mv)⟩
  refine ⟨fun kk o' n' c' x36 x37 w32=>∃ i tot:Nat,o'=o/\n'=l.length/\c'=c/\x36=(tot:Int)/\x37=(i:Int)/\i<=l.length/\tot<=i*64/\kk=l.length - i/\Grow w13 w32,⟨_,0,0,rfl,rfl,rfl,rfl,rfl,by omega,by omega,rfl,Only.refl _ _⟩,?_⟩
  rintro kk _ w32 o' n' c' x36 x37 ⟨i,tot,rfl,rfl,rfl,rfl,rfl,hi,htot,rfl,g32⟩
  refine ⟨fun hlt=>?_,fun hge=>fin w32 g32⟩
  have hlt:i<l.length:=by have:=dT hlt;omega
  have hat:=List.getElem?_eq_getElem hlt
  have hb64:=hbd _ (List.getElem_mem hlt)
  generalize l[i]=ei at*
  obtain ⟨a,ob,cb,ha,-,hc0,hc1,hc2,hbo⟩:=(he.grow g32).at hat
  refine ⟨a,ha,⟨by omega,by omega⟩,_,hc0,_,hc1,_,_,_,hc2,fun w46 e46=>⟨(Row.new (l:=[_,_,_]) e46).there (by simp),fun w48 e48=>?_⟩⟩
  obtain ⟨r48,g48⟩:=loc (l:=[_,_,_]) (vs:=[.int .i64 (ei.term:Int),.int .i64 (ei.kind:Int),.slice ob ei.body.length cb]) e46 e48 rfl
  have ew:IntKind.wrap .i64 ((tot:Int)+(ei.body.length:Int))=((tot+ei.body.length:Nat):Int):=by rw [wr (by omega)];omega
  refine ⟨_,_,_,r48.cell rfl,?_⟩
  rw [ew]
  exact no (by omega) ⟨_,by omega,i+1,tot+ei.body.length,rfl,rfl,rfl,rfl,by rw [wr (by omega)];omega,hlt,by omega,rfl,g32.trans' g48⟩
theorem others_len (s:PN):s.others.length<=9:=by
 unfold PN.others members
 have a:=List.length_filter_le (fun x=>decide (x∈s.memb.old\/x∈s.memb.new)) (List.range 9)
 have b:=List.length_filter_le (fun x=>decide (x≠s.id)) ((List.range 9).filter fun x=>decide (x∈s.memb.old\/x∈s.memb.new))
 rw [List.length_range] at a
 omega
theorem sendAppends_c (h:NodeAt w N D p t s uns outs k) (wf:Wf s k) (hk:k<=95000) (h3:∀ u,u<9->1<=s.next.getD u 0) (hol:outs.length<=900):
  Calls Tryz.prog 30 #[.pointer (some ⟨p,0,none⟩)] w fun e w'=>e=.returned (.tuple #[])/\∃ N' D',NodeAt w' N' D' p t s uns (outs++sendAll s) k/\Moves w w' N D N' D':=by
 refine nf30 p w _ ((others_c h wf.memb wf.id).mono ?_)
 rintro _ w2 ⟨g,c',rfl,own,g2⟩
 have h9:s.others.length<=9:=others_len s
 have z2:=g2.size
 have lt:=h.lt
 refine ⟨_,_,_,rfl,fun kk x w'=>∃ (i:Nat) (N' D':Nat->Prop),x=(i:Int)/\i<=s.others.length/\kk=s.others.length - i/\NodeAt w' N' D' p t s uns (outs++(s.others.take i).map (sendAppendS s)) k/\Moves w2 w' N D N' D',⟨_,0,N,D,rfl,by omega,rfl,by simpa using h.grow g2,Moves.refl _ _ _⟩,?_⟩
 rintro kk _ w10 x ⟨i,N',D',rfl,hi,rfl,n10,mv⟩
 refine ⟨fun hlt=>?_,fun hge=>?_⟩
 ·have hlt:i<s.others.length:=by have:=dT hlt;omega
  have hat:=List.getElem?_eq_getElem hlt
  have htk:=List.take_succ_eq_append_getElem hlt
  have hm9:s.others[i]<9:=members_lt (List.mem_filter.1 (List.getElem_mem hlt)).1
  generalize s.others[i]=to at*
  obtain ⟨a,ha,-,hc⟩:=Ints.at ((own_ints own).keep mv.o fun b hb hN=>by
   obtain ⟨a,ha,e⟩:=hb
   cases ha
   have:=own.base b ⟨_,rfl,e⟩
   have:=lt b (.inl hN)
   omega) hat
  refine ⟨a,ha,⟨by omega,by omega⟩,_,hc,(sendAppend_c n10 wf hk (h3 _ hm9) hm9 (by rw [List.length_append,List.length_map,List.length_take];omega)).mono ?_⟩
  rintro _ w17 ⟨rfl,N2,D2,n17,mv17⟩
  refine ⟨rfl,_,by omega,i+1,N2,D2,by rw [wr (by omega)];omega,hlt,rfl,?_,mv.trans mv17⟩
  rw [htk,List.map_append,<- List.append_assoc]
  exact n17
 ·have:i=s.others.length:=by have:=dF hge;omega
  subst this
  rw [List.take_length] at n10
  exact ⟨rfl,N',D',n10,(Moves.grow g2).trans mv⟩
end
end Go.Proofs.YtcaokpglbolkcaaGreat
