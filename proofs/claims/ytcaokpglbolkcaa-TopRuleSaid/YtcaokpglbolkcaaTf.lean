/- search: the iterator of a node's edges, the state, one edge. -/
import Derived.Test.YtcaokpglbolkcaaTi
namespace Go.Proofs.Ytcaokpglbolkcaa
open Go Go.Nf Go.RowKit

/-- an edge's number, one of a node's -/
def ValI (l : List Int) : Int → Value → (Nat → Prop) → World → Prop := fun x v _ _ => v = .int .i64 x ∧ x ∈ l
set_option maxHeartbeats 1000000 in
theorem enum_gives {w : World} {B cl cn v : Nat} {oo : Option Addr} {co : Nat} {outs : List (List Int)} {l : List Int} (hm : Mat w (fun b => b < B) oo outs) (hcl : Row w cl 68 [.slice oo outs.length co]) (hcn : Row w cn 3 [.int .i64 (v : Int)])
    (hv : outs[v]? = some l) (hl : outs.length ≤ 1000000) (hll : l.length ≤ 1000000) : GivesB B Try.prog (ValI l) 79 #[.pointer (some ⟨cn, 0, none⟩), .pointer (some ⟨cl, 0, none⟩)] (fun b => b < B ∨ b = cn ∨ b = cl) w l := by
  intro l' R Rx W hY gW hR
  have hvl := (List.getElem?_eq_some_iff.1 hv).1
  show Calls Try.prog 79 #[.func (.yield l') #[] #[], .pointer (some ⟨cn, 0, none⟩), .pointer (some ⟨cl, 0, none⟩)] W _
  obtain ⟨a, oi, ci, ha, -, hc, hn⟩ := (hm.grow gW) v l hv
  have rl := hcl.grow gW
  have rn := hcn.grow gW
  refine nf79 (.yield l') #[] #[] cn cl W _ ⟨_, rn.cell rfl, fun k => absurd (dT k) (by omega), fun _ => ⟨_, rn.cell rfl, _, _, _, rl.cell rfl, fun k => absurd (dT k) (by omega), fun _ => ⟨_, _, _, rl.cell rfl, _, rn.cell rfl, a, ha, ⟨by omega, by omega⟩, _, _, _, hc, ?_⟩⟩⟩
  refine ⟨fun k x W' => ∃ i : Nat, x = (i : Int) ∧ i ≤ l.length ∧ k = l.length - i ∧ R (l.take i) (fun b => b < B ∨ b = cn ∨ b = cl) W' ∧ Only (fun b => ¬ (b < B ∨ b = cn ∨ b = cl)) W W', ⟨_, 0, rfl, Nat.zero_le _, rfl, hR, Only.refl _ _⟩, ?_⟩
  rintro k _ W1 x ⟨i, rfl, hi, rfl, hR1, o1⟩
  refine ⟨fun hlt => ?_, fun hge => ⟨⟨_, rfl⟩, .inl ⟨_, by rwa [List.take_of_length_le (by have := dF hge; omega)] at hR1⟩⟩⟩
  have hlt : i < l.length := by have := dT hlt; omega
  obtain ⟨a', ha', hc'⟩ := (hn.keep o1 fun b hb k => k (.inl hb)).get hlt
  refine ⟨a', ha', ⟨by omega, by omega⟩, _, hc', .inr ⟨l', rfl, yieldAt_mono (hY.yield _ _ _ _ _ hR1 ⟨rfl, List.getElem_mem hlt⟩) ?_⟩⟩
  rw [← List.take_succ_eq_append_getElem hlt]
  rintro e W2 ⟨o2, ⟨rfl, h2⟩ | ⟨rfl, h2⟩⟩
  · exact ⟨_, rfl, fun _ => ⟨_, by omega, i + 1, by rw [wr (by omega)]; omega, hlt, rfl, h2, o1.trans' o2⟩, fun k => by cases k⟩
  · exact ⟨_, rfl, fun k => (by cases k), fun _ => ⟨⟨_, rfl⟩, .inr ⟨_, List.take_prefix _ _, h2⟩⟩⟩

theorem Lab.imp {E : List Edg} {wt : Nat → Int} {n : Nat} {s : Int} {D xs : List Int} {u0 u1 : Nat} {X Y : Nat → Prop} (h : Lab E wt n s D xs u0 X) (hXY : ∀ i u, u = u0 → X i → u = u1 ∧ Y i) : Lab E wt n s D xs u1 Y :=
  ⟨h.len, h.lab, h.src, fun v hv hf => (h.opn v hv hf).imp (fun k i e h1 h2 h3 h4 v' h5 => k i e h1 h2 (fun q => h3 (hXY i v q.1 q.2)) h4 v' h5) id, h.keys, h.few⟩

/-- what search holds in memory -/
structure St (w0 : World) (q : Nat) (ow : Option Addr) (nw cw n p4 p5 p7 p9 p11 bd : Nat) (D xs : List Int) (S : Nat → Prop) (w : World) : Prop where
  grow : Grow w0 w
  r4 : Row w p4 35 [.pointer (some ⟨q, 0, none⟩)]
  r5 : Row w p5 32 [.slice ow nw cw]
  r7 : Row w p7 4 [.bool true]
  r9 : Row w p9 32 [.slice (some ⟨bd, 0, none⟩) n n]
  rd : Row w bd 2 (intsV D)
  qa : QAt w p11 S xs
  lo : hs w0 ≤ p4 ∧ hs w0 ≤ p5 ∧ hs w0 ≤ p7 ∧ hs w0 ≤ p9 ∧ hs w0 ≤ bd
  hi : p4 < p11 ∧ p5 < p11 ∧ p7 < p11 ∧ p9 < p11 ∧ bd < p11
  sp : ∀ b, S b → p11 ≤ b
  ne : p9 ≠ bd ∧ p4 ≠ bd ∧ p5 ≠ bd ∧ p7 ≠ bd
section
variable {w0 : World} {q : Nat} {ow : Option Addr} {nw cw n p4 p5 p7 p9 p11 bd : Nat} {D xs : List Int} {S : Nat → Prop} {w : World}
theorem St.keep {w' : World} {X : Nat → Prop} (h : St w0 q ow nw cw n p4 p5 p7 p9 p11 bd D xs S w) (g : Only X w w') (hX : ∀ b, X b → hs w0 ≤ b ∧ b ≠ p4 ∧ b ≠ p5 ∧ b ≠ p7 ∧ b ≠ p9 ∧ b ≠ bd ∧ ¬ S b) : St w0 q ow nw cw n p4 p5 p7 p9 p11 bd D xs S w' :=
  ⟨h.grow.trans g fun b hb k => by have := (hX b k).1; omega, h.r4.keep g fun k => (hX _ k).2.1 rfl, h.r5.keep g fun k => (hX _ k).2.2.1 rfl, h.r7.keep g fun k => (hX _ k).2.2.2.1 rfl, h.r9.keep g fun k => (hX _ k).2.2.2.2.1 rfl,
    h.rd.keep g fun k => (hX _ k).2.2.2.2.2.1 rfl, h.qa.keep g fun b hb k => (hX _ k).2.2.2.2.2.2 hb, h.lo, h.hi, h.sp, h.ne⟩
theorem St.more {w' : World} (h : St w0 q ow nw cw n p4 p5 p7 p9 p11 bd D xs S w) (g : Grow w w') : St w0 q ow nw cw n p4 p5 p7 p9 p11 bd D xs S w' := h.keep g fun _ k => k.elim
/-- the queue has changed -/
theorem St.queue {w' : World} {S' : Nat → Prop} {ys : List Int} (h : St w0 q ow nw cw n p4 p5 p7 p9 p11 bd D xs S w) (hq : QAt w' p11 S' ys) (g : Only S w w') (hS : ∀ b, S' b → S b ∨ hs w ≤ b) : St w0 q ow nw cw n p4 p5 p7 p9 p11 bd D ys S' w' := by
  have hi := h.hi
  have lo := h.lo
  have l11 := h.qa.lt p11 h.qa.memq
  have no : ∀ b, b < p11 → ¬ S b := fun b hb k => by have := h.sp b k; omega
  exact ⟨h.grow.trans g fun b hb k => by have := h.sp b k; omega, h.r4.keep g (no _ hi.1), h.r5.keep g (no _ hi.2.1), h.r7.keep g (no _ hi.2.2.1), h.r9.keep g (no _ hi.2.2.2.1), h.rd.keep g (no _ hi.2.2.2.2), hq, lo, hi, fun b hb => by
    rcases hS b hb with k | k
    · exact h.sp b k
    · omega, h.ne⟩
theorem St.mem {E : List Edg} {ins outs : List (List Int)} (h : St w0 q ow nw cw n p4 p5 p7 p9 p11 bd D xs S w) (hG : GraphAt w0 (fun b => b < hs w0) q E ins outs) : GraphAt w (fun b => b < hs w0) q E ins outs := hG.grow h.grow
/-- a label is set -/
theorem St.put {w' : World} {v : Nat} {x : Int} (h : St w0 q ow nw cw n p4 p5 p7 p9 p11 bd D xs S w) (hv : v < D.length) (e : w' = setCells w ((⟨bd, 0, none⟩ : Addr).add ((v : Int).toNat * 1)) [.int .i64 x] 0) :
    St w0 q ow nw cw n p4 p5 p7 p9 p11 bd (D.set v x) xs S w' ∧ Only (fun b => b = bd) w w' := by
  have g : Only (fun b => b = bd) w w' := only_setAdd e
  have rd := h.rd.setAdd e
  rw [intsV_set _ _ _ hv] at rd
  have hi := h.hi
  have ne := h.ne
  have lo := h.lo
  exact ⟨⟨h.grow.trans g fun b hb k => by omega, h.r4.keep g ne.2.1, h.r5.keep g ne.2.2.1, h.r7.keep g ne.2.2.2, h.r9.keep g ne.1, rd, h.qa.keep g fun b hb k => by have := h.sp b hb; omega, lo, hi, h.sp, ne⟩, g⟩
theorem St.get {v : Nat} (h : St w0 q ow nw cw n p4 p5 p7 p9 p11 bd D xs S w) (hv : v < D.length) : w.cell? ((⟨bd, 0, none⟩ : Addr).add ((v : Int).toNat * 1)) = some (.int .i64 (gD D v)) := by
  refine h.rd.cellAdd ?_
  rw [toNat_cast, Nat.mul_one, gD_at hv]
  simp [intsV, hv]
theorem St.room {v : Nat} (h : St w0 q ow nw cw n p4 p5 p7 p9 p11 bd D xs S w) (hv : v < D.length) : There w ((⟨bd, 0, none⟩ : Addr).add ((v : Int).toNat * 1)) 1 := by
  refine h.rd.thereAdd ?_
  rw [toNat_cast, Nat.mul_one, intsV_len]
  omega
end
set_option maxRecDepth 100000 in
set_option maxHeartbeats 4000000 in
theorem edge_step {w0 : World} {q : Nat} {ow : Option Addr} {cw n p4 p5 p7 p9 p11 bd : Nat} {D xs : List Int} {S : Nat → Prop} {w : World} {E : List Edg} {wt : Nat → Int} {s : Int} {u i0 p15 : Nat} {e0 : Edg} {rem : List Int} {K : World → Prop} {node : Int} (g : Env)
    (hG : GraphAt w0 (fun b => b < hs w0) q E (insL E n) (outsL E n)) (hn : n ≤ 10) (hE : okEdge n e0) (hwt : OkW wt) (hl : E.length ≤ 1000000) (hW : Nums w0 (fun b => b < hs w0) ow ((List.range E.length).map wt))
    (st : St w0 q ow E.length cw n p4 p5 p7 p9 p11 bd D xs S w) (lab : Lab E wt n s D xs u fun i => (i : Int) ∈ (i0 : Int) :: rem) (r15 : Row w p15 2 [.int .i64 (gD D u)]) (s15 : p11 < p15 ∧ ¬ S p15)
    (hu : u < n) (huf : gD D u ≠ FarT) (he : E[i0]? = some e0) (hsrc : e0.src = (u : Int))
    (hK : ∀ D' xs' S' w', St w0 q ow E.length cw n p4 p5 p7 p9 p11 bd D' xs' S' w' → Lab E wt n s D' xs' u (fun i => (i : Int) ∈ rem) → gD D' u = gD D u → Only (fun b => S b ∨ b = bd) w w' → (∀ b, S' b → S b ∨ hs w ≤ b) → 2 * capS D' + xs'.length ≤ 2 * capS D + xs.length → K w') :
    vc Try.prog (at50 Try.f50.body pC) an50C (fun e _ w => match e with | .normal => K w | _ => False) (g.fill [4, 5, 7, 9, 11, 14, 15, 16, 17] [(.pointer (some ⟨p4, 0, none⟩)), (.pointer (some ⟨p5, 0, none⟩)), (.pointer (some ⟨p7, 0, none⟩)), (.pointer (some ⟨p9, 0, none⟩)), (.pointer (some ⟨p11, 0, none⟩)), (.func (.func 67) #[.pointer (some ⟨q, 0, none⟩)] #[]), (.pointer (some ⟨p15, 0, none⟩)), (.int .i64 node), (.int .i64 (i0 : Int))]) w := by
  obtain ⟨k1, k2, k3, k4, -⟩ := hE
  obtain ⟨v0, hv0⟩ : ∃ v0 : Nat, e0.dst = (v0 : Int) := ⟨e0.dst.toNat, by omega⟩
  have hv0n : v0 < n := by omega
  have hil := (List.getElem?_eq_some_iff.1 he).1
  have lD := lab.len
  refine nf50C g p4 p5 p7 p9 p11 q p15 node (i0 : Int) w K ⟨_, st.r4.cell rfl, (edge_c (st.mem hG) he).mono ?_⟩
  rintro _ w3 ⟨rfl, g3⟩
  refine ⟨_, _, _, _, rfl, fun w8 e8 => ⟨(Row.new e8).there (by simp), fun w10 e10 => ?_⟩⟩
  have r8 := Row.new e8
  have r10 := r8.set e10
  have g10 : Grow w w10 := (g3.trans' (only_alloc e8)).trans (only_set e10) fun b hb e => by have := g3.size; omega
  have st10 := st.more g10
  have r15' := r15.grow g10
  refine ⟨_, r10.cell rfl, _, st10.r7.cell rfl, fun _ => ⟨_, r10.cell rfl, fun w16 e16 => ?_⟩, fun h => by cases h⟩
  have g16 : Grow w w16 := g10.trans' (only_drew e16)
  have st16 := st.more g16
  have r16 := r15.grow g16
  have wl : ((List.range E.length).map wt).length = E.length := by simp
  obtain ⟨a, ha, hc⟩ := (hW.grow st16.grow).get (j := i0) (by omega)
  have ew : ((List.range E.length).map wt)[i0]'(by omega) = wt i0 := by simp
  rw [ew] at hc
  have pass : gD D v0 ≤ gD D u + wt i0 ∨ wt i0 = FarT → K w16 := fun h => hK D xs S w16 st16 (lab.pass he hv0 fun h' => h.resolve_right h') rfl g16.only (fun b hb => .inl hb) (Nat.le_refl _)
  refine ⟨_, _, _, st16.r5.cell rfl, a, ha, ⟨by omega, by omega⟩, _, hc, fun hne => ?_, fun heq => pass (.inr (nF heq))⟩
  have hne := nT hne
  have fu := (lab.fin hwt hn hu).resolve_left huf
  have wq := (hwt i0).resolve_left hne
  have ewr : IntKind.wrap .i64 (gD D u + wt i0) = gD D u + wt i0 := wr (by omega)
  refine ⟨_, r16.cell rfl, _, _, _, st16.r5.cell rfl, a, ha, ⟨by omega, by omega⟩, _, hc, _, _, _, st16.r9.cell rfl, _, rfl, ?_⟩
  rw [hv0, ewr]
  refine ⟨⟨by omega, by omega⟩, _, st16.get (by omega), fun hlt => fun w36 e36 => ?_, fun hge => pass (.inl (by have := dF hge; omega))⟩
  have hlt := dT hlt
  have g36 : Grow w w36 := g16.trans' (only_drew e36)
  have st36 := st.more g36
  have hc36 : w36.cell? (a.add ((i0 : Int).toNat * 1)) = some (.int .i64 (wt i0)) := by rw [e36]; exact hc
  refine ⟨_, _, _, st36.r9.cell rfl, _, (r15.grow g36).cell rfl, _, _, _, st36.r5.cell rfl, a, ha, ⟨by omega, by omega⟩, _, hc36, _, rfl, ⟨by omega, by omega⟩, st36.room (by omega), fun w48 e48 => ?_⟩
  rw [ewr] at e48
  obtain ⟨st48, g48⟩ := st36.put (by omega) e48
  have eD : gD (D.set v0 (gD D u + wt i0)) v0 = gD D u + wt i0 := by rw [gD_set (by omega), if_pos rfl]
  have c48 := st48.get (v := v0) (by rw [List.length_set]; omega)
  rw [eD] at c48
  have few := lab.few
  refine ⟨_, _, _, st48.r9.cell rfl, _, rfl, ⟨by omega, by omega⟩, _, c48, (push_c st48.qa (by omega) (gD D u + wt i0) (v0 : Int) (by omega) (by omega)).mono ?_⟩
  rintro _ w56 ⟨rfl, ys, S', hp, q56, g56, hS'⟩
  have s48 := g36.size
  have s48' := g48.size
  have o48 : Only (fun b => b = bd) w w48 := g36.only.trans' g48
  have huv : u ≠ v0 := fun e => by subst e; omega
  have lab' := lab.better hwt hn he hu hsrc hv0 hv0n hne huf hlt hp
  have fin' := lab'.fin hwt hn hv0n
  rw [eD] at fin'
  refine ⟨rfl, hK _ _ S' w56 (st48.queue q56 g56 hS') lab' (by rw [gD_set (by omega), if_neg huv]) ((o48.mono fun b _ h => .inr h).trans (g56.mono fun b _ h => .inl h) fun b _ h => h) (fun b hb => ?_) ?_⟩
  · rcases hS' b hb with h | h
    · exact .inl h
    · exact .inr (by omega)
  · have h1 := capS_set (D := D) (v := v0) (x := gD D u + wt i0) (by omega)
    have h3 := hp.length_eq
    rw [List.length_append, List.length_singleton] at h3
    have c1 : cap (gD D u + wt i0) = (gD D u + wt i0).toNat := by
      unfold cap; rw [if_neg (by simp only [FarT]; omega)]
    have c2 : (gD D u + wt i0).toNat + 1 ≤ cap (gD D v0) := by
      have hf : ¬ gD D u + wt i0 = FarT := by simp only [FarT]; omega
      have := fin'.resolve_left hf
      unfold cap
      split
      · omega
      · omega
    omega
end Go.Proofs.Ytcaokpglbolkcaa
