/- The state of the law between its turns. -/
import Derived.Test.YtcaokpglbolkcaaGreatFb
import Derived.Test.YtcaokpglbolkcaaGreatRz
import Derived.Test.YtcaokpglbolkcaaGreatNf6
namespace Go.Proofs.YtcaokpglbolkcaaGreat
open Go Go.Nf Go.RowKit Go.MapKept

abbrev conf3 : Memb := ⟨[0, 1, 2], []⟩
theorem permit3 : Permit conf3 := ⟨⟨by decide, by decide, by decide⟩, .inl rfl⟩
def prow (n : Nat) (f : Nat → Nat) : List Value := (List.range n).map fun j => .pointer (some ⟨f j, 0, none⟩)
theorem prow_at {n : Nat} {f : Nat → Nat} {i : Nat} (h : i < n) : (prow n f)[i]? = some (.pointer (some ⟨f i, 0, none⟩)) := by
  unfold prow
  rw [List.getElem?_map, List.getElem?_range h]; rfl
theorem prow_len (n : Nat) (f : Nat → Nat) : (prow n f).length = n := by unfold prow; simp
theorem prow_set {n : Nat} {f : Nat → Nat} {i x : Nat} (h : i < n) : setFrom (prow n f) i [.pointer (some ⟨x, 0, none⟩)] = prow n fun j => if j = i then x else f j := by
  rw [setFrom_one]
  apply List.ext_getElem?
  intro j
  rw [List.getElem?_set]
  by_cases hj : j < n
  · rw [prow_at hj, prow_at hj]
    by_cases e : i = j
    · subst e
      rw [if_pos rfl, if_pos (by rw [prow_len]; exact h), if_pos rfl]
    · rw [if_neg e, if_neg (fun k => e k.symm)]
  · rw [List.getElem?_eq_none (l := prow n f) (by rw [prow_len]; omega), List.getElem?_eq_none (l := prow n _) (by rw [prow_len]; omega), prow_len]
    by_cases e : i = j
    · omega
    · rw [if_neg e]
theorem cell_arr {w : World} {b T : Nat} {l : List Value} {i : Nat} {v : Value} (r : Row w b T l) (h : l[i]? = some v) : w.cell? (Addr.add (⟨b, 0, none⟩ : Addr) ((i : Int).toNat * 1)) = some v := by
  rw [Addr.add_lit, toNat_cast, Nat.mul_one, Nat.zero_add]
  exact r.cell h
structure LS (w0 w : World) (nn c0 r : Nat) (W E : Nat → Prop) (nd : Nat → Nd) (PB : Nat → Nat) (b : Nat) (all ms : List Msg) (es : List Ent) (fo : Option Addr) (fn fc : Nat) (ao : Option Addr) (an ac : Nat) (g : G) : Prop where
  net : Net w (hs w0) nn W E nd
  gw : Grow w0 w
  conf : Row w (c0 + 1) 26 [.slice (some ⟨c0, 0, none⟩) 3 3, .slice none 0 0] ∧ E (c0 + 1)
  old : Row w c0 3 [.int .i64 0, .int .i64 1, .int .i64 2] ∧ E c0
  pr : Row w (c0 + 2) 54 (prow nn fun j => (nd j).p) ∧ W (c0 + 2)
  tr : Row w (c0 + 3) 55 (prow nn fun j => (nd j).t) ∧ E (c0 + 3)
  fly : FlyAt w W E fo fn fc ms
  agr : AgrAt w W E ao an ac es
  lead : LeadAt w r (fun T i => g.el T = some i) ∧ W r
  sys : Sys conf3 g (fun j => (nd j).s) nn all
  agd : Agreed g es
  good : ∀ j, j < nn → Good (nd j).s (nd j).k (PB j) ∧ (nd j).k ≤ 50 * PB j
  msg : ∀ m ∈ all, WfMsg m ∧ m.term ≤ b
  sub : ∀ m ∈ ms, m ∈ all
section
variable {w0 w w' : World} {nn c0 r b : Nat} {W E : Nat → Prop} {nd : Nat → Nd} {PB : Nat → Nat} {all ms : List Msg} {es : List Ent} {fo ao : Option Addr} {fn fc an ac : Nat} {g : G}
theorem LS.grow (h : LS w0 w nn c0 r W E nd PB b all ms es fo fn fc ao an ac g) (k : Grow w w') : LS w0 w' nn c0 r W E nd PB b all ms es fo fn fc ao an ac g :=
  { h with net := h.net.grow k, gw := h.gw.trans' k, conf := ⟨h.conf.1.grow k, h.conf.2⟩, old := ⟨h.old.1.grow k, h.old.2⟩, pr := ⟨h.pr.1.grow k, h.pr.2⟩, tr := ⟨h.tr.1.grow k, h.tr.2⟩, fly := h.fly.grow k, agr := h.agr.grow k, lead := ⟨h.lead.1.keep k fun h => h, h.lead.2⟩ }
theorem LS.base (h : LS w0 w nn c0 r W E nd PB b all ms es fo fn fc ao an ac g) : hs w0 ≤ hs w := h.gw.size
theorem LS.up {PB' : Nat → Nat} {b' : Nat} (h : LS w0 w nn c0 r W E nd PB b all ms es fo fn fc ao an ac g) (hP : ∀ j, j < nn → PB j ≤ PB' j) (hb : b ≤ b') : LS w0 w nn c0 r W E nd PB' b' all ms es fo fn fc ao an ac g :=
  { h with good := fun j hj => ⟨(h.good j hj).1.up (Nat.le_refl _) (hP j hj), Nat.le_trans (h.good j hj).2 (Nat.mul_le_mul_left 50 (hP j hj))⟩, msg := fun m hm => ⟨(h.msg m hm).1, Nat.le_trans (h.msg m hm).2 hb⟩ }
/-- the caller reads a block more -/
theorem LS.read {E' : Nat → Prop} (h : LS w0 w nn c0 r W E nd PB b all ms es fo fn fc ao an ac g) (hE : ∀ b, E' b → E b ∨ (b < hs w ∧ ¬ W b ∧ ∀ i, i < nn → ¬ (nd i).N b)) (hm : ∀ b, E b → E' b) : LS w0 w nn c0 r W E' nd PB b all ms es fo fn fc ao an ac g :=
  { h with net := h.net.read hE, conf := ⟨h.conf.1, hm _ h.conf.2⟩, old := ⟨h.old.1, hm _ h.old.2⟩, tr := ⟨h.tr.1, hm _ h.tr.2⟩, fly := h.fly.mono (fun _ h => h) hm, agr := h.agr.mono (fun _ h => h) hm }
theorem LS.pcell (h : LS w0 w nn c0 r W E nd PB b all ms es fo fn fc ao an ac g) {i : Nat} (hi : i < nn) : w.cell? (Addr.add (⟨c0 + 2, 0, none⟩ : Addr) ((i : Int).toNat * 1)) = some (.pointer (some ⟨(nd i).p, 0, none⟩)) := cell_arr h.pr.1 (prow_at hi)
theorem LS.tcell (h : LS w0 w nn c0 r W E nd PB b all ms es fo fn fc ao an ac g) {i : Nat} (hi : i < nn) : w.cell? (Addr.add (⟨c0 + 3, 0, none⟩ : Addr) ((i : Int).toNat * 1)) = some (.pointer (some ⟨(nd i).t, 0, none⟩)) := cell_arr h.tr.1 (prow_at hi)
theorem sys_upd {all' : List Msg} {i : Nat} {x : Nd} (h : Sys conf3 g (fun j => if j = i then x.s else (nd j).s) nn all') : Sys conf3 g (fun j => (updN nd i x j).s) nn all' :=
  ⟨fun j hj => by
    have := h.live j hj
    by_cases e : j = i
    · subst e
      rw [updN_self]
      simpa using this
    · rw [updN_ne nd x e]
      simpa [e] using this, h.msg⟩
/-- a node's call -/
theorem LS.did {i : Nat} {s' : PN} {out : List Msg} {o : Option Addr} {c bi b' : Nat} (h : LS w0 w nn c0 r W E nd PB b all ms es fo fn fc ao an ac g) (hi : i < nn) (hd : Did w (nd i).N (nd i).D (nd i).p (nd i).t s' out ((nd i).k + 50) o c w')
    (st : Steps conf3 g (nd i).s s' out) (hg : Good s' ((nd i).k + 50) bi) (ho : Outs s' out) (hb1 : PB i + 1 ≤ 600) (hb2 : bi ≤ PB i + 1) (hb3 : bi ≤ b') (hb4 : b ≤ b') :
    ∃ x E' g', LS w0 w' nn c0 r W E' (updN nd i x) (fun j => if j = i then PB i + 1 else PB j) b' (all ++ out) ms es fo fn fc ao an ac g' ∧ MsgsAt w' E' o out ∧ out.length ≤ c ∧ (∀ b, E b → E' b) ∧ x.p = (nd i).p ∧ Only (fun b => hs w0 ≤ b ∧ ¬ W b ∧ ¬ E b) w w' := by
  obtain ⟨x, E', hn, ep, et, es', ek, hE, hm, hc, hO⟩ := h.net.did hi h.base hd
  obtain ⟨g', hle, hsys⟩ := h.sys.step hi (s' := s') (out := out) st (F' := all ++ out) fun m hm => List.mem_append.1 hm
  rw [← es'] at hsys
  have hkb := (h.good i hi).2
  have nW : ∀ b, W b ∨ E b → ¬ (hs w0 ≤ b ∧ ¬ W b ∧ ¬ E b) := fun b hb k => hb.elim k.2.1 k.2.2
  have hwf : Wf s' ((nd i).k + 50) := by
    have := hn.node i hi
    rw [updN_self, es', ek] at this
    exact hg.w.up this
  refine ⟨x, E', g', ⟨hn, h.gw.trans hO fun b hb k => by omega, ⟨h.conf.1.keep hO (nW _ (.inr h.conf.2)), hE _ h.conf.2⟩, ⟨h.old.1.keep hO (nW _ (.inr h.old.2)), hE _ h.old.2⟩, ⟨?_, h.pr.2⟩, ⟨?_, hE _ h.tr.2⟩, (h.fly.keep hO nW).mono (fun _ h => h) hE, (h.agr.keep hO nW).mono (fun _ h => h) hE, ⟨(h.lead.1.keep hO (nW _ (.inl h.lead.2))).mono fun T j hj => ?_, h.lead.2⟩, sys_upd hsys, h.agd.le (h.sys.live i hi).1.ok hle, fun j hj => ?_, fun m hm' => ?_, fun m hm' => List.mem_append_left _ (h.sub m hm')⟩, hm, hc, hE, ep, hO⟩
  · have := h.pr.1.keep hO (nW _ (.inl h.pr.2))
    have e : (prow nn fun j => (updN nd i x j).p) = prow nn fun j => (nd j).p := by
      unfold prow
      refine List.map_congr_left fun j hj => ?_
      show Value.pointer (some ⟨(updN nd i x j).p, 0, none⟩) = .pointer (some ⟨(nd j).p, 0, none⟩)
      by_cases e : j = i
      · subst e; rw [updN_self, ep]
      · rw [updN_ne nd x e]
    rw [e]; exact this
  · have := h.tr.1.keep hO (nW _ (.inr h.tr.2))
    have e : (prow nn fun j => (updN nd i x j).t) = prow nn fun j => (nd j).t := by
      unfold prow
      refine List.map_congr_left fun j hj => ?_
      show Value.pointer (some ⟨(updN nd i x j).t, 0, none⟩) = .pointer (some ⟨(nd j).t, 0, none⟩)
      by_cases e : j = i
      · subst e; rw [updN_self, et]
      · rw [updN_ne nd x e]
    rw [e]; exact this
  · have hj : g.el T = some j := hj
    rw [(hle.el T (by rw [hj]; exact fun h => by cases h)).1]; exact hj
  · by_cases e : j = i
    · subst e
      rw [updN_self, if_pos rfl, es', ek]
      exact ⟨hg.up (Nat.le_refl _) hb2, by omega⟩
    · rw [updN_ne nd x e, if_neg e]
      exact h.good j hj
  · rcases List.mem_append.1 hm' with hm' | hm'
    · exact ⟨(h.msg m hm').1, Nat.le_trans (h.msg m hm').2 hb4⟩
    · obtain ⟨q1, q2, -⟩ := ho _ (by omega) hwf m hm'
      exact ⟨q1, by rw [q2]; exact Nat.le_trans hg.t hb3⟩
/-- the caller has written to the messages -/
theorem LS.wrote {W' S : Nat → Prop} {ms' : List Msg} {o' : Option Addr} {n' c' : Nat} (h : LS w0 w nn c0 r W E nd PB b all ms es fo fn fc ao an ac g) (hO : Only S w w') (hS : ∀ b, S b → W b) (h1 : ¬ S (c0 + 2)) (h2 : ∀ b, inBlock ao b → ¬ S b) (h3 : ¬ S r)
    (hn : Net w' (hs w0) nn W' E nd) (hW : ∀ b, W b → W' b) (hf : FlyAt w' W' E o' n' c' ms') (hsub : ∀ m ∈ ms', m ∈ all) : LS w0 w' nn c0 r W' E nd PB b all ms' es o' n' c' ao an ac g := by
  have hE : ∀ b, E b → ¬ S b := fun b hb k => (h.net.wz b (hS b k)).2.2 hb
  exact { h with net := hn, gw := h.gw.trans hO fun b hb k => by have := (h.net.wz b (hS b k)).1; omega, conf := ⟨h.conf.1.keep hO (hE _ h.conf.2), h.conf.2⟩, old := ⟨h.old.1.keep hO (hE _ h.old.2), h.old.2⟩, pr := ⟨h.pr.1.keep hO h1, hW _ h.pr.2⟩, tr := ⟨h.tr.1.keep hO (hE _ h.tr.2), h.tr.2⟩, fly := hf, agr := (h.agr.keepB hO fun b hb => hb.elim (h2 b) (hE b)).mono hW fun _ h => h, lead := ⟨h.lead.1.keep hO h3, hW _ h.lead.2⟩, sub := hsub }
theorem LS.more {o2 : Option Addr} {c2 : Nat} {out : List Msg} {K : Value → World → Prop} (h : LS w0 w nn c0 r W E nd PB b all ms es fo fn fc ao an ac g) (hm : MsgsAt w E o2 out) (hs' : ∀ m ∈ out, m ∈ all) (hl : fn + out.length ≤ 100000)
    (hK : ∀ o' c' w' W', LS w0 w' nn c0 r W' E nd PB b all (ms ++ out) es o' (fn + out.length) c' ao an ac g → (∀ b, W b → W' b) → Only W w w' → K (.slice o' (fn + out.length) c') w') :
    RunOk Tryz.prog (Hold (Builtin.append_ #[35, 35] 35 #[.slice fo fn fc, .slice o2 out.length c2])) w K := by
  refine h.net.more h.base h.fly hm hl fun o' c' w' W' hn hf hO hW => hK o' c' w' W' (h.wrote hO (fun b hb => h.fly.inW b hb) (h.fly.apart h.pr.1 (by decide)) (fun b hb k => ?_) (fun k => ?_) hn hW hf fun m hm => (List.mem_append.1 hm).elim (h.sub m) (hs' m)) hW (hO.mono fun b _ hb => h.fly.inW b hb)
  · obtain ⟨l, hr⟩ := h.agr.row hb
    exact h.fly.apart hr (by decide) k
  · obtain ⟨ps, h1, h2, h3, h4, h5⟩ := h.fly
    obtain ⟨l, hr⟩ := h3.row r k
    exact h.lead.1.norow hr
theorem LS.less {j : Nat} {K : Value → World → Prop} (h : LS w0 w nn c0 r W E nd PB b all ms es fo fn fc ao an ac g) (hj : j < fn) (hl : fn ≤ 100000)
    (hK : ∀ o' c' w' W', LS w0 w' nn c0 r W' E nd PB b all (ms.take j ++ ms.drop (j + 1)) es o' (fn - 1) c' ao an ac g → (∀ b, W b → W' b) → Only W w w' → K (.slice o' (fn - 1) c') w') :
    RunOk Tryz.prog (Hold (Builtin.append_ #[35, 35] 35 #[.slice fo j j, .slice (if fc = j + 1 then fo else Option.map (fun x => Addr.add x ((j + 1) * 9)) fo) (fn - (j + 1)) (fc - (j + 1))])) w K := by
  refine h.net.less h.base h.fly hj hl fun o' c' w' W' hn hf hO hW => hK o' c' w' W' (h.wrote hO (fun b hb => h.fly.inW b hb) (h.fly.apart h.pr.1 (by decide)) (fun b hb k => ?_) (fun k => ?_) hn hW hf fun m hm => h.sub m ((List.mem_append.1 hm).elim List.mem_of_mem_take List.mem_of_mem_drop)) hW (hO.mono fun b _ hb => h.fly.inW b hb)
  · obtain ⟨l, hr⟩ := h.agr.row hb
    exact h.fly.apart hr (by decide) k
  · obtain ⟨ps, h1, h2, h3, h4, h5⟩ := h.fly
    obtain ⟨l, hr⟩ := h3.row r k
    exact h.lead.1.norow hr
end
end Go.Proofs.YtcaokpglbolkcaaGreat
