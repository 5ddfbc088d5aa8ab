/- A node opened first, a node opened again, the turns that are told. -/
import Derived.Test.YtcaokpglbolkcaaGreatFd
namespace Go.Proofs.YtcaokpglbolkcaaGreat
open Go Go.Nf Go.RowKit Go.MapKept

section
variable {w w' : World} {B nn : Nat} {W E : Nat → Prop} {nd : Nat → Nd}
/-- one node more -/
theorem Net.add {x : Nd} (h : Net w B nn W E nd) (hB : B ≤ hs w) (o : Only W w w') (n : NodeAt w' x.N x.D x.p x.t x.s false [] x.k) (hN : ∀ b, x.N b → hs w ≤ b) (hD : ∀ b, x.D b → hs w ≤ b) : Net w' B (nn + 1) W E (updN nd nn x) := by
  have h' := h.own o fun b hb => .inl hb
  have lt := fun {i} (hi : i < nn) b hb => h.lt hi b hb
  refine ⟨fun i hi => ?_, fun i j hi hj hij b hb => ?_, fun i hi b hb => ?_, fun i hi b hb => ?_, h'.wz, h'.ez⟩
  · by_cases e : i = nn
    · subst e; rw [updN_self]; exact n
    · rw [updN_ne nd x e]; exact h'.node i (by omega)
  · by_cases ei : i = nn
    · subst ei
      rw [updN_self] at hb
      rw [updN_ne nd x (Ne.symm hij)]
      have := hN b hb
      exact ⟨fun k => by have := lt (show j < i by omega) b (.inl k); omega, fun k => by have := lt (show j < i by omega) b (.inr k); omega⟩
    · rw [updN_ne nd x ei] at hb
      have hl := lt (show i < nn by omega) b (.inl hb)
      by_cases ej : j = nn
      · subst ej
        rw [updN_self]
        exact ⟨fun k => by have := hN b k; omega, fun k => by have := hD b k; omega⟩
      · rw [updN_ne nd x ej]
        exact h.np i j (by omega) (by omega) hij b hb
  · by_cases e : i = nn
    · subst e
      rw [updN_self] at hb
      have := hN b hb
      exact ⟨by omega, fun k => by have := (h.wz b k).2.1; omega, fun k => by have := h.ez b k; omega⟩
    · rw [updN_ne nd x e] at hb
      exact h.nz i (by omega) b hb
  · by_cases e : i = nn
    · subst e
      rw [updN_self] at hb
      have := hD b hb
      exact fun k => by have := (h.wz b k).2.1; omega
    · rw [updN_ne nd x e] at hb
      exact h.dz i (by omega) b hb
/-- what the caller writes, and what it only reads, told anew -/
theorem Net.re {W' E' : Nat → Prop} (h : Net w B nn W E nd) (hW : ∀ b, W' b → W b) (hE : ∀ b, E' b → E b ∨ W b) (hd : ∀ b, W' b → ¬ E' b) : Net w B nn W' E' nd :=
  ⟨h.node, h.np, fun i hi b hb => ⟨(h.nz i hi b hb).1, fun k => (h.nz i hi b hb).2.1 (hW b k), fun k => (hE b k).elim (h.nz i hi b hb).2.2 (h.nz i hi b hb).2.1⟩, fun i hi b hb k => h.dz i hi b hb (hW b k), fun b hb => ⟨(h.wz b (hW b hb)).1, (h.wz b (hW b hb)).2.1, hd b hb⟩, fun b hb => (hE b hb).elim (h.ez b) fun k => (h.wz b k).2.1⟩
end
section
variable {w0 w w' : World} {nn c0 r b : Nat} {W E : Nat → Prop} {nd : Nat → Nd} {PB : Nat → Nat} {all ms : List Msg} {es : List Ent} {fo ao : Option Addr} {fn fc an ac : Nat} {g : G}
theorem sys_open {i wait beat now : Nat} {x : Nd} (h : Sys conf3 g (fun j => (nd j).s) nn all) (hi : i < nn) (hx : x.s = openS i wait beat conf3 (nd i).s.term (nd i).s.voted (nd i).s.log now) : Sys conf3 g (fun j => (updN nd i x j).s) nn all := by
  refine ⟨fun j hj => ?_, h.msg⟩
  by_cases e : j = i
  · subst e
    obtain ⟨l1, l2⟩ := h.live j hi
    have l1 : Live conf3 g (nd j).s := l1
    have l2 : (nd j).s.id = j := l2
    have := l1.open wait beat now
    rw [l2, l1.i] at this
    show Live conf3 g (updN nd j x j).s ∧ (updN nd j x j).s.id = j
    rw [updN_self, hx]
    exact ⟨this, rfl⟩
  · show Live conf3 g (updN nd i x j).s ∧ (updN nd i x j).s.id = j
    rw [updN_ne nd x e]
    exact h.live j hj
theorem LS.reopen {F N D : Nat → Prop} {i p wait beat now : Nat} (h : LS w0 w nn c0 r W E nd PB b all ms es fo fn fc ao an ac g) (hi : i < nn) (hF : ∀ b, F b → (nd i).N b) (o : Only F w w')
    (n : NodeAt w' N D p (nd i).t (openS i wait beat conf3 (nd i).s.term (nd i).s.voted (nd i).s.log now) false [] (nd i).k) (hN : ∀ b, N b → F b ∨ hs w ≤ b) (hD : ∀ b, D b → hs w ≤ b) (hw : wait ≤ MaxT) (hb : beat ≤ MaxT) (hn : now ≤ MaxT) :
    There w' (Addr.add (⟨c0 + 2, 0, none⟩ : Addr) ((i : Int).toNat * 1)) 1 ∧ ∀ w2, w2 = setCells w' (Addr.add (⟨c0 + 2, 0, none⟩ : Addr) ((i : Int).toNat * 1)) [.pointer (some ⟨p, 0, none⟩)] 0 →
      ∃ x, x.p = p ∧ LS w0 w2 nn c0 r W E (updN nd i x) PB b all ms es fo fn fc ao an ac g := by
  have hO : Only (fun b => hs w0 ≤ b ∧ ¬ W b ∧ ¬ E b) w w' := h.net.calm hi (o.mono fun b _ hb => hF b hb)
  have nW : ∀ b, W b ∨ E b → ¬ (hs w0 ≤ b ∧ ¬ W b ∧ ¬ E b) := fun b hb k => hb.elim k.2.1 k.2.2
  have hpr := h.pr.1.keep hO (nW _ (.inl h.pr.2))
  have hbase := h.base
  have hnet := h.net.replace hi hbase (x := ⟨p, (nd i).t, N, D, openS i wait beat conf3 (nd i).s.term (nd i).s.voted (nd i).s.log now, (nd i).k⟩) (A := fun _ => False) (o.mono fun b _ hb => hF b hb) n (fun b hb => (hN b hb).imp (hF b) id) (fun b hb => .inr (hD b hb)) fun b hb => hb.elim
  have hE : ∀ b, (E b ∨ False) → E b := fun b hb => hb.elim id False.elim
  have hnet := hnet.re (W' := W) (E' := E) (fun b hb => hb) (fun b hb => .inl (.inl hb)) fun b hb => (h.net.wz b hb).2.2
  refine ⟨?_, fun w2 e2 => ?_⟩
  · rw [Addr.add_lit, toNat_cast, Nat.mul_one, Nat.zero_add]; exact hpr.there (by rw [prow_len]; omega)
  rw [Addr.add_lit, toNat_cast, Nat.mul_one, Nat.zero_add] at e2
  have o2 : Only (fun b => b = c0 + 2) w' w2 := only_set e2
  have r2 := hpr.set e2
  rw [prow_set hi] at r2
  have hsys := h.sys
  have hg := (h.good i hi).1
  obtain ⟨l1, l2⟩ := hsys.live i hi
  have l1 : Live conf3 g (nd i).s := l1
  have l2 : (nd i).s.id = i := l2
  have hgo := hg.open (wait := wait) (beat := beat) hn hw hb
  rw [l2, l1.i] at hgo
  have nc : ∀ b, E b → ¬ b = c0 + 2 := fun b hb e => (h.net.wz _ h.pr.2).2.2 (e ▸ hb)
  have hWp : ∀ b, b = c0 + 2 → W b := fun b e => e ▸ h.pr.2
  refine ⟨⟨p, (nd i).t, N, D, openS i wait beat conf3 (nd i).s.term (nd i).s.voted (nd i).s.log now, (nd i).k⟩, rfl, ⟨hnet.own (o2.mono fun b _ hb => hWp b hb) fun b hb => .inl hb, (h.gw.trans hO fun b hb k => by omega).trans o2 fun b hb k => by have := (h.net.wz _ h.pr.2).1; omega, ⟨(h.conf.1.keep hO (nW _ (.inr h.conf.2))).keep o2 (nc _ h.conf.2), h.conf.2⟩, ⟨(h.old.1.keep hO (nW _ (.inr h.old.2))).keep o2 (nc _ h.old.2), h.old.2⟩, ⟨?_, h.pr.2⟩, ⟨?_, h.tr.2⟩, (h.fly.keep hO nW).keepB o2 fun b hb => hb.elim (fun hb e => ?_) (nc b), (h.agr.keep hO nW).keepB o2 fun b hb => hb.elim (fun hb e => ?_) (nc b), ⟨(h.lead.1.keep hO (nW _ (.inl h.lead.2))).keep o2 fun e => ?_, h.lead.2⟩, sys_open hsys hi rfl, h.agd, fun j hj => ?_, h.msg, h.sub⟩⟩
  · have e : (prow nn fun j => (updN nd i ⟨p, (nd i).t, N, D, openS i wait beat conf3 (nd i).s.term (nd i).s.voted (nd i).s.log now, (nd i).k⟩ j).p) = prow nn fun j => if j = i then p else (nd j).p := by
      unfold prow
      refine List.map_congr_left fun j hj => ?_
      show Value.pointer (some ⟨(updN nd i _ j).p, 0, none⟩) = .pointer (some ⟨(if j = i then p else (nd j).p), 0, none⟩)
      by_cases e : j = i
      · subst e; rw [updN_self, if_pos rfl]
      · rw [updN_ne nd _ e, if_neg e]
    rw [e]; exact r2
  · have := (h.tr.1.keep hO (nW _ (.inr h.tr.2))).keep o2 (nc _ h.tr.2)
    have e : (prow nn fun j => (updN nd i ⟨p, (nd i).t, N, D, openS i wait beat conf3 (nd i).s.term (nd i).s.voted (nd i).s.log now, (nd i).k⟩ j).t) = prow nn fun j => (nd j).t := by
      unfold prow
      refine List.map_congr_left fun j hj => ?_
      show Value.pointer (some ⟨(updN nd i _ j).t, 0, none⟩) = .pointer (some ⟨(nd j).t, 0, none⟩)
      by_cases e : j = i
      · subst e; rw [updN_self]
      · rw [updN_ne nd _ e]
    rw [e]; exact this
  · exact (h.fly.keep hO nW).apart hpr (by decide) (e ▸ hb)
  · exact (h.agr.keep hO nW).apart hpr (by decide) (e ▸ hb)
  · exact (h.lead.1.keep hO (nW _ (.inl h.lead.2))).norow (e ▸ hpr)
  · by_cases e : j = i
    · subst e
      rw [updN_self]
      exact ⟨hgo, (h.good j hj).2⟩
    · rw [updN_ne nd _ e]
      exact h.good j hj
/-- fewer messages fly -/
theorem LS.flies {o' : Option Addr} {n' c' : Nat} {ms' : List Msg} (h : LS w0 w nn c0 r W E nd PB b all ms es fo fn fc ao an ac g) (hf : FlyAt w W E o' n' c' ms') (hs' : ∀ m ∈ ms', m ∈ ms) : LS w0 w nn c0 r W E nd PB b all ms' es o' n' c' ao an ac g :=
  { h with fly := hf, sub := fun m hm => h.sub m (hs' m hm) }
theorem LS.only {b2 : Nat} {all2 : List Msg} (h : LS w0 w nn c0 r W E nd PB b all ms es fo fn fc ao an ac g) (hm : ∀ m ∈ all2, m ∈ all) (hs2 : ∀ m ∈ ms, m ∈ all2) (hb : b ≤ b2) : LS w0 w nn c0 r W E nd PB b2 all2 ms es fo fn fc ao an ac g :=
  { h with sys := ⟨h.sys.live, fun m k => h.sys.msg m (hm m k)⟩, msg := fun m k => ⟨(h.msg m (hm m k)).1, Nat.le_trans (h.msg m (hm m k)).2 hb⟩, sub := hs2 }
end
/-! ### the turns -/
abbrev TV := Nat × Nat × Nat
def turnV (t : TV) : List Value := [.int .u8 (t.1 : Int), .int .u8 (t.2.1 : Int), .int .u8 (t.2.2 : Int)]
def TurnsAt (w : World) (A : Nat → Prop) (o : Option Addr) (n : Nat) : Prop := ∃ ts : List TV, ts.length = n ∧ (∀ t ∈ ts, t.1 < 256 ∧ t.2.1 < 256 ∧ t.2.2 < 256) ∧ Recs w A o 3 (ts.map turnV)
theorem TurnsAt.keep {w w' : World} {A S : Nat → Prop} {o : Option Addr} {n : Nat} (h : TurnsAt w A o n) (g : Only S w w') (hS : ∀ b, A b → ¬ S b) : TurnsAt w' A o n := by
  obtain ⟨ts, h1, h2, h3⟩ := h
  exact ⟨ts, h1, h2, h3.keep g hS⟩
theorem TurnsAt.grow {w w' : World} {A : Nat → Prop} {o : Option Addr} {n : Nat} (h : TurnsAt w A o n) (g : Grow w w') : TurnsAt w' A o n := h.keep g fun _ _ h => h
theorem TurnsAt.at {w : World} {A : Nat → Prop} {o : Option Addr} {n i : Nat} (h : TurnsAt w A o n) (hi : i < n) :
    ∃ a x y z, o = some a ∧ x < 256 ∧ y < 256 ∧ z < 256 ∧ w.cell? (a.add ((i : Int).toNat * 3)) = some (.int .u8 ((x : Nat) : Int)) ∧ w.cell? ((a.add ((i : Int).toNat * 3)).add 1) = some (.int .u8 ((y : Nat) : Int)) ∧ w.cell? ((a.add ((i : Int).toNat * 3)).add 2) = some (.int .u8 ((z : Nat) : Int)) := by
  obtain ⟨ts, rfl, h2, h3⟩ := h
  have hat := List.getElem?_eq_getElem hi
  obtain ⟨q1, q2, q3⟩ := h2 _ (List.getElem_mem hi)
  generalize ts[i] = t at *
  obtain ⟨a, ha, -, hc, hc0⟩ := Recs.atE h3 hat
  exact ⟨a, t.1, t.2.1, t.2.2, ha, q1, q2, q3, hc0 _ rfl, hc 1 _ rfl, hc 2 _ rfl⟩
theorem tmodN (a c : Nat) : Int.tmod (a : Int) (c : Int) = ((a % c : Nat) : Int) := rfl
end Go.Proofs.YtcaokpglbolkcaaGreat
