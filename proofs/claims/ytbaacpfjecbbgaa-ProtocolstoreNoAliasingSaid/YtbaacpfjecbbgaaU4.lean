/- Chapter 15: one operation on both; they step alike; 'same'; what is small; the statements' own example. -/
import Derived.Test.YtbaacpfjecbbgaaNf8
import Derived.Test.YtbaacpfjecbbgaaU3
namespace Go.Proofs.Ytbaacpfjecbbgaa
open Go Go.Nf

structure Ac where
  kind : Int
  t : Prot
  call : Int
  name : ByteArray
  version : Int
abbrev actV (a : Ac) (qo : Option Addr) (qc : Nat) : Value := .agg #[.int .u8 a.kind, .string a.t.name, .int .i64 a.t.version, .slice qo a.t.qs.length qc, .int .i64 a.call, .string a.name, .int .i64 a.version]
def bit (b : Bool) : Int := if b then 1 else 0
theorem bit_inj {a b : Bool} : bit a = bit b ↔ a = b := by cases a <;> cases b <;> decide
/-- what the operation does to the store; its two answers -/
inductive SStep (S : List Prot) (P : List Pn) (a : Ac) : List Prot → List Pn → Int → Int → Prop
  | put {x q : Int} {g r : Option Prot} {S' : List Prot} (h0 : Int.tmod a.kind 4 = 0) (hE : Ending' a.t x q) (hg : IsGet S a.t.name a.t.version g) (hr : IsNew S a.t.name r)
      (h1 : putE q g r S.length a.t.version = 0 → ∃ X Y, Cut S X Y a.t.name a.t.version ∧ hit Y a.t.name a.t.version = false ∧ S' = X ++ a.t :: Y) (h2 : putE q g r S.length a.t.version ≠ 0 → S' = S) : SStep S P a S' P (putE q g r S.length a.t.version) 0
  | pin {r : Option Prot} (h0 : Int.tmod a.kind 4 = 1) (hr : IsNew S a.name r) : SStep S P a S (pinStep r P a.call a.name).1 (pinStep r P a.call a.name).2.1 (pinStep r P a.call a.name).2.2
  | free (h0 : Int.tmod a.kind 4 = 2) : SStep S P a S (freeStep P a.call).1 (bit (freeStep P a.call).2) 0
  | drop {g r : Option Prot} {S' : List Prot} (h0 : ¬ Int.tmod a.kind 4 = 0) (h0' : ¬ Int.tmod a.kind 4 = 1) (h0'' : ¬ Int.tmod a.kind 4 = 2) (hg : IsGet S a.name a.version g) (hr : IsNew S a.name r)
      (h1 : dropE g r P a.name a.version = 0 → S' = S.filter (offB a.name a.version)) (h2 : dropE g r P a.name a.version ≠ 0 → S' = S) : SStep S P a S' P (dropE g r P a.name a.version) 0
/-- what it does to the book -/
inductive BStep (L : List Prot) (P : List Pn) (a : Ac) : List Prot → List Pn → Int → Int → Prop
  | put {x q : Int} {g r : Option Prot} {L' : List Prot} (h0 : Int.tmod a.kind 4 = 0) (hE : Ending' a.t x q) (hg : IsGet L a.t.name a.t.version g) (hr : IsNew L a.t.name r)
      (h1 : putE q g r L.length a.t.version = 0 → L' = L ++ [a.t]) (h2 : putE q g r L.length a.t.version ≠ 0 → L' = L) : BStep L P a L' P (putE q g r L.length a.t.version) 0
  | pin {r : Option Prot} (h0 : Int.tmod a.kind 4 = 1) (hr : IsNew L a.name r) : BStep L P a L (pinStep r P a.call a.name).1 (pinStep r P a.call a.name).2.1 (pinStep r P a.call a.name).2.2
  | free (h0 : Int.tmod a.kind 4 = 2) : BStep L P a L (freeStep P a.call).1 (bit (freeStep P a.call).2) 0
  | drop {g r : Option Prot} {L' : List Prot} (h0 : ¬ Int.tmod a.kind 4 = 0) (h0' : ¬ Int.tmod a.kind 4 = 1) (h0'' : ¬ Int.tmod a.kind 4 = 2) (hg : IsGet L a.name a.version g) (hr : IsNew L a.name r)
      (h1 : dropE g r P a.name a.version = 0 → L' = L.filter (offB a.name a.version)) (h2 : dropE g r P a.name a.version ≠ 0 → L' = L) : BStep L P a L' P (dropE g r P a.name a.version) 0
def DoPost (w : World) (B t m : Nat) (M D E : Nat → Prop) (S : List Prot) (P : List Pn) (L : List Prot) (P' : List Pn) (a : Ac) (e : Ending) (w' : World) : Prop :=
  ∃ S' P1 L' P2 M' D' E' r1 r2 r1' r2' b oL cL oP cP, e = .returned (.tuple #[bookV oL (List.length L') cL oP (List.length P2) cP, .bool b]) ∧ (b = true ↔ r1 = r1' ∧ r2 = r2') ∧ SStep S P a S' P1 r1 r2 ∧ BStep L P' a L' P2 r1' r2' ∧
    St w' B t m M' D' S' P1 ∧ Bk w' E' oL oP L' P2 ∧ P2.length ≤ cP ∧ (∀ b, E b → E' b) ∧ (∀ b, E' b → ¬ M' b) ∧ (∀ b, M' b → M b ∨ hs w ≤ b) ∧ (∀ b, D' b → D b ∨ hs w ≤ b) ∧ (∀ b, E' b → E b ∨ hs w ≤ b) ∧ Only M w w'

theorem giveR {wX : World} {rb T : Nat} {o o' : Option Addr} {n c n' c' : Nat} {z1 z2 : Value} (q : Row wX rb T [z1, z2]) {Q : Option Addr → Nat → Nat → Option Addr → Nat → Nat → World → Prop}
    (h : ∀ wY, Only (fun b => b = rb) wX wY → Q o n c o' n' c' wY) :
    There wX ⟨rb, 0, none⟩ 2 ∧ ∀ wY, wY = setCells wX ⟨rb, 0, none⟩ [.slice o n c, .slice o' n' c'] 0 →
      ∃ x y z, wY.cell? ⟨rb, 0, none⟩ = some (.slice x y z) ∧ ∃ x' y' z', wY.cell? ⟨rb, 1, none⟩ = some (.slice x' y' z') ∧ Q x y z x' y' z' wY :=
  ⟨q.there (by simp), fun wY e => ⟨_, _, _, (q.set e).cell rfl, _, _, _, (q.set e).cell rfl, h wY (only_set e)⟩⟩

section
variable {w : World} {B t m : Nat} {M D E : Nat → Prop} {S L : List Prot} {P P' : List Pn} {oL oP : Option Addr} {cL cP : Nat}
/-- the end of an operation: wX stands behind both -/
theorem do_end {a : Ac} {w5 w33 wX wY : World} {rb : Nat} {M' D' : Nat → Prop} {S' L' : List Prot} {P1 P2 : List Pn} {r1 r2 r1' r2' : Int} {b : Bool} {oL' oP' : Option Addr} {cL' cP' : Nat}
    (hst : St w B t m M D S P) (hbk : Bk w E oL oP L P') (hEM : ∀ b, E b → ¬ M b) (g5 : Grow w w5) (hrb : hs w ≤ rb) (hrb' : rb < hs w5) {w21 : World} (g21 : Grow w5 w21) (g33 : Grow w21 w33)
    (hb' : Bk w21 (fun b => E b ∨ (hs w5 ≤ b ∧ b < hs w21)) oL' oP' L' P2) (hc : P2.length ≤ cP') (hX : Only M w33 wX) (hs' : St wX B t m M' D' S' P1) (hM : ∀ b, M' b → M b ∨ hs w33 ≤ b) (hD : ∀ b, D' b → D b ∨ hs w33 ≤ b)
    (gY : Only (fun b => b = rb) wX wY) (hs1 : SStep S P a S' P1 r1 r2) (hs2 : BStep L P' a L' P2 r1' r2') (hb : b = true ↔ r1 = r1' ∧ r2 = r2') :
    DoPost w B t m M D E S P L P' a (.returned (.tuple #[bookV oL' L'.length cL' oP' P2.length cP', .bool b])) wY := by
  have z5 := g5.size
  have z21 := g21.size
  have z33 := g33.size
  have hM2 : ∀ b, M' b → ¬ b = rb := fun b hb e => by
    rcases hM b hb with q | q
    · have := (hst.ms b q).2; omega
    · omega
  have hD2 : ∀ b, D' b → ¬ b = rb := fun b hb e => by
    rcases hD b hb with q | q
    · have := (hst.ds b q).1; omega
    · omega
  have hEM' : ∀ b, E b ∨ (hs w5 ≤ b ∧ b < hs w21) → ¬ M b := fun b hb hm => by
    rcases hb with q | q
    · exact hEM b q hm
    · have := (hst.ms b hm).2; omega
  refine ⟨S', P1, L', P2, M', D', _, r1, r2, r1', r2', b, oL', cL', oP', cP', rfl, hb, hs1, hs2, hs'.keep gY hM2 hD2, ((hb'.grow g33).keep hX hEM').keep gY fun b hb e => ?_, hc, fun b hb => .inl hb, fun b hb hm => ?_, fun b hb => ?_, fun b hb => ?_, fun b hb => ?_, ?_⟩
  · rcases hb with q | q
    · have := hbk.es b q; omega
    · omega
  · rcases hM b hm with q | q
    · exact hEM' b hb q
    · rcases hb with k | k
      · have := hbk.es b k; omega
      · omega
  · rcases hM b hb with q | q
    · exact .inl q
    · exact .inr (by omega)
  · rcases hD b hb with q | q
    · exact .inl q
    · exact .inr (by omega)
  · rcases hb with q | q
    · exact .inl q
    · exact .inr (by omega)
  · exact ((Grow.only (S := M) ((g5.trans' g21).trans' g33)).trans' hX).trans gY fun b hb e => by omega
set_option maxHeartbeats 4000000 in
theorem do_c {a : Ac} {qo : Option Addr} {qc : Nat} (hT : FitP a.t) (hq : Qs w E qo a.t.qs) (hEM : ∀ b, E b → ¬ M b) (hso : Sorted S) (hlS : S.length ≤ 1000) (hlL : L.length ≤ 1000) (hlP : P'.length ≤ 1000) (hcP : P'.length ≤ cP) (hone : (P'.map (·.call)).Nodup)
    (hst : St w B t m M D S P) (hbk : Bk w E oL oP L P') :
    Calls Try.prog 45 #[.pointer (some ⟨t, 0, none⟩), bookV oL L.length cL oP P'.length cP, actV a qo qc] w (DoPost w B t m M D E S P L P' a) := by
  refine nf45n _ oL L.length cL oP P'.length cP a.kind a.t.name a.t.version qo a.t.qs.length qc a.call a.name a.version w _ fun w1 e1 w3 e3 w5 e5 => ?_
  have g1 : Grow w w1 := only_alloc e1
  have g3 : Grow w1 w3 := only_alloc e3
  have g5 : Grow w3 w5 := only_alloc e5
  have rb := ((Row.new e1).grow g3).grow g5
  have ra := (Row.new e3).grow g5
  have rr := Row.new e5
  have G5 := (g1.trans' g3).trans' g5
  have z1 := hs_alloc e1
  have z3 := hs_alloc e3
  have z5 := hs_alloc e5
  have bk5 := hbk.grow G5
  have q5 := hq.grow G5
  have notM : ∀ {b : Nat}, hs w ≤ b → ¬ M b := fun {b} hb hm => by have := (hst.ms b hm).2; omega
  refine ⟨_, ra.cell rfl, fun h0 => ?_, fun h0 => ⟨fun h1 => ?_, fun h1 => ⟨fun h2 => ?_, fun h2 => ?_⟩⟩⟩
  · refine ⟨_, _, _, rb.cell rfl, _, _, _, rb.cell rfl, _, ra.cell rfl, _, ra.cell rfl, _, _, _, ra.cell rfl, (refPut_c hT q5 hlL hcP bk5).mono ?_⟩
    rintro _ w21 ⟨x, q, g, r, v, L', hE', hg, hr, rfl, hL1, hL2, ⟨oL', cL', oP', cP', rfl, hb', hc'⟩, g21⟩
    refine ⟨_, _, _, _, _, _, _, rfl, fun w29 e29 => ⟨(Row.new e29).there (by simp), fun w31 e31 w33 e33 => ?_⟩⟩
    obtain ⟨r31, g31⟩ := loc e29 e31 rfl
    have g33 : Grow w31 w33 := only_drew e33
    have gg := g31.trans' g33
    have rn := r31.grow g33
    have ra33 := (ra.grow g21).grow gg
    have rr33 := (rr.grow g21).grow gg
    have G33 := (G5.trans' g21).trans' gg
    refine ⟨_, _, _, rn.cell rfl, _, _, _, rn.cell rfl, _, ra33.cell rfl, _, ra33.cell rfl, _, _, _, ra33.cell rfl, (put_c hT.qs (hq.grow G33) hEM hso hlS (hst.grow G33)).mono ?_⟩
    rintro _ wX ⟨x2, q2, gg2, rr2, S', M', D', hE2, hg2, hr2, rfl, hS1, hS2, hs', oX, hM, hD⟩
    have z21 := g21.size
    have zg := gg.size
    refine ⟨_, rfl, kept_only oX rn.lt (notM (by omega)), fun hb => giveR (rr33.keep oX (notM (by omega))) fun wY gY => ?_, fun hb => giveR (rr33.keep oX (notM (by omega))) fun wY gY => ?_⟩
    · exact do_end hst hbk hEM G5 (by omega) (by omega) g21 gg hb' hc' oX hs' hM hD gY (.put (dT h0) hE2 hg2 hr2 hS1 hS2) (.put (dT h0) hE' hg hr hL1 hL2) ⟨fun _ => ⟨dT hb, rfl⟩, fun _ => rfl⟩
    · exact do_end hst hbk hEM G5 (by omega) (by omega) g21 gg hb' hc' oX hs' hM hD gY (.put (dT h0) hE2 hg2 hr2 hS1 hS2) (.put (dT h0) hE' hg hr hL1 hL2) ⟨fun h => (by cases h), fun h => absurd h.1 (dF hb)⟩
  · refine ⟨_, _, _, rb.cell rfl, _, _, _, rb.cell rfl, _, ra.cell rfl, _, ra.cell rfl, (refPinTo_c a.call a.name hlL hlP hcP bk5).mono ?_⟩
    rintro _ w21 ⟨r, v, hr, rfl, ⟨oL', cL', oP', cP', rfl, hb', hc'⟩, g21⟩
    refine ⟨_, _, _, _, _, _, _, _, rfl, fun w29 e29 => ⟨(Row.new e29).there (by simp), fun w33 e33 => ?_⟩⟩
    obtain ⟨rn, gg⟩ := loc e29 e33 rfl
    have ra33 := (ra.grow g21).grow gg
    have rr33 := (rr.grow g21).grow gg
    have G33 := (G5.trans' g21).trans' gg
    refine ⟨_, ra33.cell rfl, _, ra33.cell rfl, (pin_c a.call a.name hso hlS (hst.grow G33)).mono ?_⟩
    rintro _ wX ⟨r2, hr2, rfl, hs', oX⟩
    have z21 := g21.size
    have zg := gg.size
    have rnX := rn.keep oX (notM (by omega))
    have rrX := rr33.keep oX (notM (by omega))
    refine ⟨_, _, rfl, _, _, _, rnX.cell rfl, _, _, _, rnX.cell rfl, fun hb => ⟨fun hb2 => giveR rrX fun wY gY => ?_, fun hb2 => giveR rrX fun wY gY => ?_⟩, fun hb => giveR rrX fun wY gY => ?_⟩
    · exact do_end hst hbk hEM G5 (by omega) (by omega) g21 gg hb' hc' oX hs' (fun b h => .inl h) (fun b h => .inl h) gY (.pin (dT h1) hr2) (.pin (dT h1) hr) ⟨fun _ => ⟨dT hb, dT hb2⟩, fun _ => rfl⟩
    · exact do_end hst hbk hEM G5 (by omega) (by omega) g21 gg hb' hc' oX hs' (fun b h => .inl h) (fun b h => .inl h) gY (.pin (dT h1) hr2) (.pin (dT h1) hr) ⟨fun h => (by cases h), fun h => absurd h.2 (dF hb2)⟩
    · exact do_end hst hbk hEM G5 (by omega) (by omega) g21 gg hb' hc' oX hs' (fun b h => .inl h) (fun b h => .inl h) gY (.pin (dT h1) hr2) (.pin (dT h1) hr) ⟨fun h => (by cases h), fun h => absurd h.1 (dF hb)⟩
  · refine ⟨_, _, _, rb.cell rfl, _, _, _, rb.cell rfl, _, ra.cell rfl, (refFree_c a.call hlP hcP hone bk5).mono ?_⟩
    rintro _ w21 ⟨v, rfl, ⟨oL', cL', oP', cP', rfl, hb', hc'⟩, g21⟩
    refine ⟨_, _, _, _, _, _, _, rfl, fun w29 e29 => ⟨(Row.new e29).there (by simp), fun w31 e31 w33 e33 => ?_⟩⟩
    obtain ⟨r31, g31⟩ := loc e29 e31 rfl
    have g33 : Grow w31 w33 := only_drew e33
    have gg := g31.trans' g33
    have rn := r31.grow g33
    have ra33 := (ra.grow g21).grow gg
    have rr33 := (rr.grow g21).grow gg
    have G33 := (G5.trans' g21).trans' gg
    refine ⟨_, _, _, rn.cell rfl, _, _, _, rn.cell rfl, _, ra33.cell rfl, (unpin_c a.call (hst.grow G33)).mono ?_⟩
    rintro _ wX ⟨rfl, hs', oX⟩
    have z21 := g21.size
    have zg := gg.size
    have rrX := rr33.keep oX (notM (by omega))
    refine ⟨_, rfl, kept_only oX rn.lt (notM (by omega)), fun hb => giveR rrX fun wY gY => ?_, fun hb => giveR rrX fun wY gY => ?_⟩
    · exact do_end hst hbk hEM G5 (by omega) (by omega) g21 gg hb' hc' oX hs' (fun b h => .inl h) (fun b h => .inl h) gY (.free (dT h2)) (.free (dT h2)) ⟨fun _ => ⟨bit_inj.2 (dT hb), rfl⟩, fun _ => rfl⟩
    · exact do_end hst hbk hEM G5 (by omega) (by omega) g21 gg hb' hc' oX hs' (fun b h => .inl h) (fun b h => .inl h) gY (.free (dT h2)) (.free (dT h2)) ⟨fun h => (by cases h), fun h => absurd (bit_inj.1 h.1) (dF hb)⟩
  · refine ⟨_, _, _, rb.cell rfl, _, _, _, rb.cell rfl, _, ra.cell rfl, _, ra.cell rfl, (refDrop_c a.name a.version hlL hlP hcP bk5).mono ?_⟩
    rintro _ w21 ⟨g, r, v, L', hg, hr, rfl, hL1, hL2, ⟨oL', cL', oP', cP', rfl, hb', hc'⟩, g21⟩
    refine ⟨_, _, _, _, _, _, _, rfl, fun w29 e29 => ⟨(Row.new e29).there (by simp), fun w31 e31 w33 e33 => ?_⟩⟩
    obtain ⟨r31, g31⟩ := loc e29 e31 rfl
    have g33 : Grow w31 w33 := only_drew e33
    have gg := g31.trans' g33
    have rn := r31.grow g33
    have ra33 := (ra.grow g21).grow gg
    have rr33 := (rr.grow g21).grow gg
    have G33 := (G5.trans' g21).trans' gg
    refine ⟨_, _, _, rn.cell rfl, _, _, _, rn.cell rfl, _, ra33.cell rfl, _, ra33.cell rfl, (drop_c a.name a.version hso hlS (hst.grow G33)).mono ?_⟩
    rintro _ wX ⟨g2, r2, S', hg2, hr2, rfl, hS1, hS2, hs', oX⟩
    have z21 := g21.size
    have zg := gg.size
    have rrX := rr33.keep oX (notM (by omega))
    refine ⟨_, rfl, kept_only oX rn.lt (notM (by omega)), fun hb => giveR rrX fun wY gY => ?_, fun hb => giveR rrX fun wY gY => ?_⟩
    · exact do_end hst hbk hEM G5 (by omega) (by omega) g21 gg hb' hc' oX hs' (fun b h => .inl h) (fun b h => .inl h) gY (.drop (dF h0) (dF h1) (dF h2) hg2 hr2 hS1 hS2) (.drop (dF h0) (dF h1) (dF h2) hg hr hL1 hL2) ⟨fun _ => ⟨dT hb, rfl⟩, fun _ => rfl⟩
    · exact do_end hst hbk hEM G5 (by omega) (by omega) g21 gg hb' hc' oX hs' (fun b h => .inl h) (fun b h => .inl h) gY (.drop (dF h0) (dF h1) (dF h2) hg2 hr2 hS1 hS2) (.drop (dF h0) (dF h1) (dF h2) hg hr hL1 hL2) ⟨fun h => (by cases h), fun h => absurd h.1 (dF hb)⟩
end

theorem Ending'.valid0 {p : Prot} {x : Int} (h : Ending' p x 0) : validB p = true := by
  rcases h with ⟨-, -, h⟩ | ⟨h, -⟩ | ⟨h, -⟩ | ⟨h, -⟩
  · cases h
  · exact h
  · exact h
  · exact h
def Ok (S : List Prot) : Prop := ∀ p, p ∈ S → ∃ x, Ending' p x 0
theorem Ok.fine {S : List Prot} (h : Ok S) : Fine S := fun p hp => by
  obtain ⟨x, hx⟩ := h p hp
  have V := valid_of hx.valid0
  have := V.top
  exact ⟨by omega, fun q hq => by have := V.ans q hq; omega⟩
theorem putE_zero {q : Int} {g r : Option Prot} {n : Nat} {v : Int} (h : putE q g r n v = 0) : q = 0 ∧ g = none ∧ later r v = false ∧ n < 100 := by
  unfold putE at h
  by_cases h1 : q ≠ 0
  · rw [if_pos h1] at h; exact absurd h h1
  rw [if_neg h1] at h
  have h1 : q = 0 := by simpa using h1
  by_cases h2 : g.isSome = true
  · rw [if_pos h2] at h; cases h
  rw [if_neg h2] at h
  by_cases h3 : later r v = true
  · rw [if_pos h3] at h; cases h
  rw [if_neg h3] at h
  by_cases h4 : 100 ≤ n
  · rw [if_pos h4] at h; cases h
  exact ⟨h1, by cases g with | none => rfl | some u => exact absurd rfl h2, by simpa using h3, by omega⟩
theorem later_not {S : List Prot} {n : ByteArray} {r : Option Prot} {v : Int} (hr : IsNew S n r) (h : later r v = false) : ∀ u, u ∈ S → u.name = n → u.version ≤ v := fun u hu hn => by
  rcases hr with ⟨rfl, hr⟩ | ⟨t, rfl, -, -, hr⟩
  · exact absurd hn (hr u hu)
  · have h := of_decide_eq_false (show decide (v < t.version) = false from h)
    have := hr u hu hn
    omega
theorem freeStep_len {P : List Pn} {call : Int} : (freeStep P call).1.length ≤ P.length := by
  unfold freeStep
  split
  · exact List.length_filter_le _ _
  · exact Nat.le_refl _
theorem pinStep_len {r : Option Prot} {P : List Pn} {call : Int} {n : ByteArray} : (pinStep r P call n).1.length ≤ P.length + 1 := by
  unfold pinStep
  split
  · simp
  · cases r with
    | none => simp
    | some u =>
      simp only
      split <;> simp
theorem pinStep_one {r : Option Prot} {P : List Pn} {call : Int} {n : ByteArray} (h : (P.map (·.call)).Nodup) : ((pinStep r P call n).1.map (·.call)).Nodup := by
  unfold pinStep
  split
  · exact h
  · cases r with
    | none => exact h
    | some u =>
      simp only
      split
      · exact h
      · rename_i hp
        rw [List.map_append]
        refine List.nodup_append.2 ⟨h, by simp, fun x hx y hy e => ?_⟩
        obtain ⟨p, hp', rfl⟩ := List.mem_map.1 hx
        simp only [List.map_cons, List.map_nil, List.mem_singleton] at hy
        exact hp (pinned_of hp' (e.trans hy))
theorem freeStep_one {P : List Pn} {call : Int} (h : (P.map (·.call)).Nodup) : ((freeStep P call).1.map (·.call)).Nodup := by
  unfold freeStep
  split
  · exact List.Nodup.sublist (List.filter_sublist.map _) h
  · exact h
section
variable {S L : List Prot} {P : List Pn} {a : Ac} {S' L' : List Prot} {P1 P2 : List Pn} {r1 r2 r1' r2' : Int}
theorem Sim.self (h : Sorted S) : Sim S S := ⟨h, .refl _, fun _ => rfl⟩
theorem step_sorted (hso : Sorted S) (h : SStep S P a S' P1 r1 r2) : Sorted S' := by
  cases h with
  | @put x q g r _ h0 hE hg hr h1 h2 =>
    by_cases hz : putE q g r S.length a.t.version = 0
    · obtain ⟨X, Y, hc, hh, rfl⟩ := h1 hz
      exact ((Sim.self hso).put hc hh (later_not hr (putE_zero hz).2.2.1)).sorted
    · rw [h2 hz]; exact hso
  | pin h0 hr => exact hso
  | free h0 => exact hso
  | @drop g r _ h0 h0' h0'' hg hr h1 h2 =>
    by_cases hz : dropE g r P a.name a.version = 0
    · rw [h1 hz]; exact hso.sublist List.filter_sublist
    · rw [h2 hz]; exact hso
theorem step_ok (hok : Ok S) (h : SStep S P a S' P1 r1 r2) : Ok S' := by
  cases h with
  | @put x q g r _ h0 hE hg hr h1 h2 =>
    by_cases hz : putE q g r S.length a.t.version = 0
    · obtain ⟨X, Y, hc, hh, rfl⟩ := h1 hz
      have hq := (putE_zero hz).1
      subst hq
      intro p hp
      rw [hc.eq] at hok
      rcases List.mem_append.1 hp with hp | hp
      · exact hok p (List.mem_append_left _ hp)
      · rcases List.mem_cons.1 hp with rfl | hp
        · exact ⟨x, hE⟩
        · exact hok p (List.mem_append_right _ hp)
    · rw [h2 hz]; exact hok
  | pin h0 hr => exact hok
  | free h0 => exact hok
  | @drop g r _ h0 h0' h0'' hg hr h1 h2 =>
    by_cases hz : dropE g r P a.name a.version = 0
    · rw [h1 hz]; exact fun p hp => hok p (List.mem_filter.1 hp).1
    · rw [h2 hz]; exact hok
theorem step_len (hl : S.length ≤ 100) (h : SStep S P a S' P1 r1 r2) : S'.length ≤ 100 := by
  cases h with
  | @put x q g r _ h0 hE hg hr h1 h2 =>
    by_cases hz : putE q g r S.length a.t.version = 0
    · obtain ⟨X, Y, hc, hh, rfl⟩ := h1 hz
      have := (putE_zero hz).2.2.2
      have e := congrArg List.length hc.eq
      simp only [List.length_append, List.length_cons] at e ⊢
      omega
    · rw [h2 hz]; exact hl
  | pin h0 hr => exact hl
  | free h0 => exact hl
  | @drop g r _ h0 h0' h0'' hg hr h1 h2 =>
    by_cases hz : dropE g r P a.name a.version = 0
    · rw [h1 hz]; exact Nat.le_trans (List.length_filter_le _ _) hl
    · rw [h2 hz]; exact hl
theorem bstep_pins (h : BStep L P a L' P2 r1' r2') (hone : (P.map (·.call)).Nodup) : P2.length ≤ P.length + 1 ∧ (P2.map (·.call)).Nodup := by
  cases h with
  | put => exact ⟨Nat.le_succ _, hone⟩
  | pin h0 hr => exact ⟨pinStep_len, pinStep_one hone⟩
  | free h0 => exact ⟨Nat.le_trans freeStep_len (Nat.le_succ _), freeStep_one hone⟩
  | drop => exact ⟨Nat.le_succ _, hone⟩
theorem step_agree (hs : Sim S L) (h : SStep S P a S' P1 r1 r2) (h' : BStep L P a L' P2 r1' r2') : Sim S' L' ∧ P1 = P2 ∧ r1 = r1' ∧ r2 = r2' := by
  cases h with
  | @put x q g r _ h0 hE hg hr h1 h2 =>
    cases h' with
    | @put x' q' g' r' _ k0 hE' hg' hr' k1 k2 =>
      obtain ⟨-, rfl⟩ := ending_one hE hE'
      obtain rfl := hs.get hg hg'
      obtain rfl := hs.new hr hr'
      rw [← hs.perm.length_eq] at *
      refine ⟨?_, rfl, rfl, rfl⟩
      by_cases hz : putE q g r L.length a.t.version = 0
      · obtain ⟨X, Y, hc, hh, rfl⟩ := h1 hz
        rw [k1 hz]
        exact hs.put hc hh (later_not hr (putE_zero hz).2.2.1)
      · rw [h2 hz, k2 hz]; exact hs
    | pin k0 => rw [h0] at k0; cases k0
    | free k0 => rw [h0] at k0; cases k0
    | drop k0 => exact absurd h0 k0
  | @pin r h0 hr =>
    cases h' with
    | put k0 => rw [h0] at k0; cases k0
    | @pin r' k0 hr' =>
      obtain rfl := hs.new hr hr'
      exact ⟨hs, rfl, rfl, rfl⟩
    | free k0 => rw [h0] at k0; cases k0
    | drop k0 k1 => exact absurd h0 k1
  | free h0 =>
    cases h' with
    | put k0 => rw [h0] at k0; cases k0
    | pin k0 => rw [h0] at k0; cases k0
    | free k0 => exact ⟨hs, rfl, rfl, rfl⟩
    | drop k0 k1 k2 => exact absurd h0 k2
  | @drop g r _ h0 h0' h0'' hg hr h1 h2 =>
    cases h' with
    | put k0 => exact absurd k0 h0
    | pin k0 => exact absurd k0 h0'
    | free k0 => exact absurd k0 h0''
    | @drop g' r' _ k0 k0' k0'' hg' hr' k1 k2 =>
      obtain rfl := hs.get hg hg'
      obtain rfl := hs.new hr hr'
      refine ⟨?_, rfl, rfl, rfl⟩
      by_cases hz : dropE g r P a.name a.version = 0
      · rw [h1 hz, k1 hz]; exact hs.drop _ _
      · rw [h2 hz, k2 hz]; exact hs
theorem Sim.pinned (hs : Sim S L) (hone : (P.map (·.call)).Nodup) {call : Int} {r r' : Option Prot} (h : IsPinned S P call r) (h' : IsPinned L P call r') : r = r' := by
  rcases h with ⟨rfl, h⟩ | ⟨p, hp, hc, hg⟩ <;> rcases h' with ⟨rfl, h'⟩ | ⟨p', hp', hc', hg'⟩
  · rfl
  · exact absurd hc' (h p' hp')
  · exact absurd hc (h' p hp)
  · obtain rfl := nodup_eq hone hp hp' (hc.trans hc'.symm)
    exact hs.get hg hg'
end

/-! ### equal protocols at two places -/
theorem fit_of_valid {p : Prot} (h : validB p = true) : FitP p := by
  unfold validB at h
  simp only [Bool.and_eq_true, decide_eq_true_eq] at h
  obtain ⟨⟨⟨⟨⟨h1, h2⟩, -⟩, -⟩, -⟩, h6⟩ := h
  unfold nameB at h2
  simp only [Bool.and_eq_true, decide_eq_true_eq] at h2
  refine ⟨by omega, by omega, fun q hq => ?_⟩
  have := List.all_eq_true.1 h1 q hq
  unfold qstB phraseB at this
  simp only [Bool.and_eq_true, decide_eq_true_eq] at this
  obtain ⟨⟨⟨k1, -⟩, k3⟩, k4⟩ := this
  refine ⟨by have := k1.1.1.1.2; omega, by omega, fun a ha => ?_⟩
  have := List.all_eq_true.1 k4 a ha
  unfold ansB phraseB codeB at this
  simp only [Bool.and_eq_true, decide_eq_true_eq] at this
  refine ⟨by have := this.1.1.1.1.2; omega, ?_⟩
  have h2 := this.2
  split at h2
  · simp only [Bool.and_eq_true, decide_eq_true_eq] at h2; have := h2.2.1.2; omega
  · simp only [Bool.and_eq_true, decide_eq_true_eq] at h2; have := h2.2; omega
theorem fit_zero : FitP zeroP := ⟨by decide, by decide, fun q hq => by cases hq⟩
theorem strEq_self (s : ByteArray) : strEq s s = true := strEq_iff.2 rfl
set_option maxHeartbeats 1000000 in
theorem eqP_c (o o' : Option Addr) (c c' : Nat) (p : Prot) (hf : FitP p) (w : World) {A A' : Nat → Prop} (h : Qs w A o p.qs) (h' : Qs w A' o' p.qs) :
    Calls Try.prog 38 #[aggP p o c, aggP p o' c'] w fun e w' => e = .returned (.bool true) ∧ Grow w w' := by
  have hfl := hf.qs
  have eS : ∀ s : ByteArray, (!strEq s s) = false := fun s => by rw [strEq_self]; rfl
  have ee : ∀ x : Ans, (!(andB (strEq x.text x.text) (andB (decide (x.next = x.next)) (andB (decide (x.urg = x.urg)) (strEq x.code x.code))))) = false := fun x => by simp [andB, strEq_self]
  refine nf38 p.name p.version o p.qs.length c p.name p.version o' p.qs.length c' w _ fun w1 e1 w3 e3 => ?_
  have r1 := Row.new e1
  have r3 := Row.new e3
  have g1 : Grow w w1 := only_alloc e1
  have g3 : Grow w1 w3 := only_alloc e3
  have r13 := r1.grow g3
  have G := g1.trans' g3
  refine ⟨_, r13.cell rfl, _, r3.cell rfl, fun h1 => (by rw [eS] at h1; cases h1), fun _ => ⟨_, r13.cell rfl, _, r3.cell rfl, fun h1 => absurd rfl (nT h1), fun _ => ⟨_, _, _, r13.cell rfl, _, _, _, r3.cell rfl, fun h1 => absurd rfl (nT h1), fun _ => ⟨_, _, _, r13.cell rfl, fun k x w' => ∃ j : Nat, x = (j : Int) ∧ j ≤ p.qs.length ∧ k = p.qs.length - j ∧ Grow w3 w', ⟨_, 0, rfl, Nat.zero_le _, rfl, Only.refl _ _⟩, ?_⟩⟩⟩⟩
  rintro k _ w4 x ⟨j, rfl, hj, rfl, g4⟩
  refine ⟨fun hlt => ?_, fun _ => ⟨rfl, G.trans' g4⟩⟩
  have hlt : j < p.qs.length := by have := dT hlt; omega
  obtain ⟨a, oi, ci, ha, c0, c1, hr⟩ := ((h.grow G).grow g4).get hlt
  obtain ⟨b, pi, di, hb, b0, b1, hr'⟩ := ((h'.grow G).grow g4).get hlt
  have hfq := (hf.each _ (List.getElem_mem hlt)).2.1
  generalize p.qs[j] = q at *
  refine ⟨a, ha, ⟨by omega, by omega⟩, _, c0, _, _, _, c1, fun w5 e5 => ⟨(Row.new e5).there (by simp), fun w6 e6 => ?_⟩⟩
  obtain ⟨r6, g6⟩ := loc e5 e6 rfl
  refine ⟨_, _, _, ((r3.grow g4).grow g6).cell rfl, b, hb, ⟨by omega, by omega⟩, _, cell_keep g6 (fun h => h) b0, _, _, _, cell_keep g6 (fun h => h) b1, fun w7 e7 => ⟨(Row.new e7).there (by simp), fun w8 e8 => ?_⟩⟩
  obtain ⟨r8, g8⟩ := loc e7 e8 rfl
  have r68 := r6.grow g8
  have G48 := (g4.trans' g6).trans' g8
  refine ⟨_, r68.cell rfl, _, r8.cell rfl, fun h1 => (by rw [eS] at h1; cases h1), fun _ => ⟨_, _, _, r68.cell rfl, _, _, _, r8.cell rfl, fun h1 => absurd rfl (nT h1), fun _ => ⟨_, _, _, r68.cell rfl, fun k x w' => ∃ t : Nat, x = (t : Int) ∧ t ≤ q.ans.length ∧ k = q.ans.length - t ∧ Grow w8 w', ⟨_, 0, rfl, Nat.zero_le _, rfl, Only.refl _ _⟩, ?_⟩⟩⟩
  rintro k _ w9 x ⟨t, rfl, ht, rfl, g9⟩
  refine ⟨fun hlt2 w10 e10 => ?_, fun _ => ⟨_, by omega, j + 1, by rw [wr (by omega)]; omega, hlt, rfl, G48.trans' g9⟩⟩
  have hlt2 : t < q.ans.length := by have := dT hlt2; omega
  have g10 : Grow w8 w10 := g9.trans' (only_drew e10)
  obtain ⟨a', ha', d0, d1, d2, d3⟩ := Recs.ans (((hr.grow g6).grow g8).grow g10) hlt2
  obtain ⟨b', hb', f0, f1, f2, f3⟩ := Recs.ans (((hr'.grow g6).grow g8).grow g10) hlt2
  exact ⟨_, _, _, (r68.grow g10).cell rfl, a', ha', ⟨by omega, by omega⟩, _, d0, _, d1, _, d2, _, d3, _, _, _, (r8.grow g10).cell rfl, b', hb', ⟨by omega, by omega⟩, _, f0, _, f1, _, f2, _, f3, fun h1 => (by rw [ee] at h1; cases h1), fun _ => ⟨_, by omega, t + 1, by rw [wr (by omega)]; omega, hlt2, rfl, g10⟩⟩
theorem sameI_c (o o' : Option Addr) (c c' : Nat) (xs : List Int) (hl : xs.length ≤ 1000000) (w : World) {A A' : Nat → Prop} (h : Nums w A o xs) (h' : Nums w A' o' xs) :
    Calls Try.prog 106 #[.slice o xs.length c, .slice o' xs.length c'] w fun e w' => e = .returned (.bool true) ∧ Grow w w' := by
  refine nf106 o xs.length c o' xs.length c' w _ ⟨fun h1 => absurd rfl (nT h1), fun h1 => ⟨fun k x w' => ∃ j : Nat, x = (j : Int) ∧ j ≤ xs.length ∧ k = xs.length - j ∧ Grow w w', ⟨_, 0, rfl, Nat.zero_le _, rfl, Only.refl _ _⟩, ?_⟩⟩
  rintro k _ w1 x ⟨j, rfl, hj, rfl, g1⟩
  refine ⟨fun hlt w2 e2 => ?_, fun hge => ⟨rfl, g1⟩⟩
  have hlt : j < xs.length := by have := dT hlt; omega
  have g2 : Grow w w2 := g1.trans' (only_drew e2)
  obtain ⟨a, ha, hc⟩ := (h.grow g2).get hlt
  obtain ⟨a', ha', hc'⟩ := (h'.grow g2).get hlt
  exact ⟨a, ha, ⟨by omega, by omega⟩, _, hc, a', ha', ⟨by omega, by omega⟩, _, hc', fun hne => absurd rfl (nT hne), fun he => ⟨_, by omega, j + 1, by rw [wr (by omega)]; omega, hlt, rfl, g2⟩⟩

theorem fit_of {S : List Prot} (hok : Ok S) {n : ByteArray} {r : Option Prot} (h : ∀ t, r = some t → t ∈ S) : FitP (r.getD zeroP) := by
  cases r with
  | none => exact fit_zero
  | some t => obtain ⟨x, hx⟩ := hok t (h t rfl); exact fit_of_valid hx.valid0
theorem IsNew.mem {S : List Prot} {n : ByteArray} {r : Option Prot} (h : IsNew S n r) : ∀ t, r = some t → t ∈ S := fun t e => by
  rcases h with ⟨rfl, -⟩ | ⟨u, rfl, h, -⟩
  · cases e
  · cases e; exact h
theorem IsGet.mem {S : List Prot} {n : ByteArray} {v : Int} {r : Option Prot} (h : IsGet S n v r) : ∀ t, r = some t → t ∈ S := fun t e => by
  rcases h with ⟨rfl, -⟩ | ⟨u, rfl, h, -⟩
  · cases e
  · cases e; exact h
theorem IsPinned.mem {S : List Prot} {P : List Pn} {call : Int} {r : Option Prot} (h : IsPinned S P call r) : ∀ t, r = some t → t ∈ S := fun t e => by
  rcases h with ⟨rfl, -⟩ | ⟨p, -, -, h⟩
  · cases e
  · exact IsGet.mem h t e
section
variable {w : World} {B t m : Nat} {M D E : Nat → Prop} {S L : List Prot} {P : List Pn} {oL oP : Option Addr} {cL cP : Nat}
set_option maxHeartbeats 4000000 in
theorem sameB_c {a : Ac} {qo : Option Addr} {qc : Nat} (hsim : Sim S L) (hok : Ok S) (hl : S.length ≤ 100) (hlP : P.length ≤ 1000) (hst : St w B t m M D S P) (hbk : Bk w E oL oP L P) :
    Calls Try.prog 69 #[.pointer (some ⟨t, 0, none⟩), bookV oL L.length cL oP P.length cP, actV a qo qc] w fun e w' => e = .returned (.bool true) ∧ Grow w w' := by
  have hlL : L.length ≤ 100 := by rw [hsim.perm.length_eq]; exact hl
  have hso := hsim.sorted
  have hfine := hok.fine
  obtain ⟨o, c, rt, hp⟩ := hst.read
  refine nf69n _ oL L.length cL oP P.length cP a.kind a.t.name a.t.version qo a.t.qs.length qc a.call a.name a.version w _ fun w1 e1 w3 e3 w5 e5 => ?_
  have g1 : Grow w w1 := only_alloc e1
  have g3 : Grow w1 w3 := only_alloc e3
  have g5 : Grow w3 w5 := only_drew e5
  have rb := ((Row.new e1).grow g3).grow g5
  have ra := (Row.new e3).grow g5
  have G5 := (g1.trans' g3).trans' g5
  refine ⟨_, _, _, rb.cell rfl, _, _, _, rb.cell rfl, (names_c hso (by omega) (rt.grow G5) (hp.grow G5)).mono ?_⟩
  rintro _ w6 ⟨ns, o6, c6, rfl, hN, hnl, own6, g6⟩
  have G6 := G5.trans' g6
  refine ⟨_, _, _, rfl, kept_only g6 rb.lt (fun h => h), (refNames_c P.length (by omega) (hbk.grow G6).l).mono ?_⟩
  rintro _ w7 ⟨ns', o7, c7, rfl, hN', -, own7, g7⟩
  obtain rfl := hsim.names hN hN'
  have G7 := G6.trans' g7
  refine ⟨_, _, _, rfl, (texts_c o6 o7 c6 c7 ns ns (by omega) w7 (own_recs' encS_len (by omega) (own6.grow g7)) (own_recs' encS_len (by omega) own7)).mono ?_⟩
  rintro _ w8 ⟨b, rfl, hb, g8⟩
  have hb := hb rfl
  subst hb
  have G8 := G7.trans' g8
  have rb8 := ((rb.grow g6).grow g7).grow g8
  have ra8 := ((ra.grow g6).grow g7).grow g8
  refine ⟨_, rfl, fun _ => ⟨_, _, _, rb8.cell rfl, _, _, _, rb8.cell rfl, (refNames_c P.length (by omega) (hbk.grow G8).l).mono ?_⟩, fun h => (by cases h)⟩
  rintro _ w9 ⟨ns', o9, c9, rfl, hN', -, own9, g9⟩
  obtain rfl := hsim.names hN hN'
  have G9 := G8.trans' g9
  refine ⟨_, _, _, rfl, fun k x w' => ∃ j : Nat, x = (j : Int) ∧ j ≤ ns.length ∧ k = ns.length - j ∧ Grow w9 w', ⟨_, 0, rfl, Nat.zero_le _, rfl, Only.refl _ _⟩, ?_⟩
  rintro k _ w10 x ⟨j, rfl, hj, rfl, g10⟩
  have G10 := G9.trans' g10
  have rb10 := (rb8.grow g9).grow g10
  have ra10 := (ra8.grow g9).grow g10
  refine ⟨fun hlt => ?_, fun hge => ⟨_, ra10.cell rfl, (pinnedP_c a.call hso (by omega) hfine (hst.grow G10)).mono ?_⟩⟩
  · have hlt : j < ns.length := by have := dT hlt; omega
    obtain ⟨aN, haN, cN⟩ := text_get (own_recs' encS_len (by omega) (own9.grow g10)) hlt
    have hmem : ns[j] ∈ ns := List.getElem_mem hlt
    generalize ns[j] = n at *
    refine ⟨aN, haN, ⟨by omega, by omega⟩, _, cN, (newestP_c n hso (by omega) hfine (rt.grow G10) (hp.grow G10)).mono ?_⟩
    rintro _ w11 ⟨r, hr, ⟨o11, c11, rfl, hq11⟩, g11⟩
    have G11 := G10.trans' g11
    obtain ⟨u, rfl⟩ : ∃ u, r = some u := by
      rcases hr with ⟨rfl, hr⟩ | ⟨u, rfl, -⟩
      · obtain ⟨u, hu, hun⟩ := (hN.2 n).1 hmem
        exact absurd hun (hr u hu)
      · exact ⟨u, rfl⟩
    have hu : FitP u := fit_of (n := n) hok hr.mem
    refine ⟨_, _, _, _, _, _, rfl, fun _ w12 e12 => ⟨(Row.new e12).there (by simp), fun w13 e13 => ?_⟩, fun h => (by cases h)⟩
    obtain ⟨r13, g13⟩ := loc e12 e13 rfl
    have G13 := G11.trans' g13
    have rb13 := (rb10.grow g11).grow g13
    have bk13 := hbk.grow G13
    refine ⟨_, _, _, rb13.cell rfl, _, _, _, rb13.cell rfl, (refNew_c n P.length (by omega) bk13.es bk13.l).mono ?_⟩
    rintro _ w14 ⟨r', hr', ⟨o14, c14, rfl, hq14⟩, g14⟩
    obtain rfl := hsim.new hr hr'
    refine ⟨_, _, _, _, _, _, rfl, fun w15 e15 => ⟨(Row.new e15).there (by simp), fun w16 e16 w17 e17 => ?_⟩⟩
    obtain ⟨r16, g16⟩ := loc e15 e16 rfl
    have g17 : Grow w16 w17 := only_drew e17
    have gg := g16.trans' g17
    have r17 := r16.grow g17
    have r137 := (r13.grow g14).grow gg
    have G17 := (G13.trans' g14).trans' gg
    refine ⟨_, r137.cell rfl, _, r137.cell rfl, _, _, _, r137.cell rfl, _, r17.cell rfl, _, r17.cell rfl, _, _, _, r17.cell rfl, (eqP_c o11 o14 c11 c14 u hu w17 (((hq11.grow g13).grow g14).grow gg) (hq14.grow gg)).mono ?_⟩
    rintro _ w18 ⟨rfl, g18⟩
    have G18 := G17.trans' g18
    have rb18 := ((rb13.grow g14).grow gg).grow g18
    refine ⟨_, rfl, fun _ => ⟨_, _, _, rb18.cell rfl, _, _, _, rb18.cell rfl, (versions_c n (by omega) (rt.grow G18) (hp.grow G18)).mono ?_⟩, fun h => (by cases h)⟩
    rintro _ w19 ⟨o19, c19, rfl, own19, g19⟩
    have G19 := G18.trans' g19
    refine ⟨_, _, _, rfl, kept_only g19 rb18.lt (fun h => h), (refVersions_c n P.length (by omega) (hbk.grow G19).l).mono ?_⟩
    rintro _ w20 ⟨o20, c20, rfl, own20, g20⟩
    have ev := hsim.versions n
    rw [← ev] at own20
    have hvl : (versionsOf S n).length ≤ 1000 := by
      unfold versionsOf
      rw [List.length_map]
      exact Nat.le_trans (List.length_filter_le _ _) (by omega)
    rw [← ev]
    refine ⟨_, _, _, rfl, (sameI_c o19 o20 c19 c20 (versionsOf S n) (by omega) w20 (own19.grow g20).nums own20.nums).mono ?_⟩
    rintro _ w21 ⟨rfl, g21⟩
    exact ⟨_, rfl, fun _ => ⟨_, by omega, j + 1, by rw [wr (by omega)]; omega, hlt, rfl, ((((((((g10.trans' g11).trans' g13).trans' g14).trans' gg).trans' g18).trans' g19).trans' g20).trans' g21)⟩, fun h => (by cases h)⟩
  · rintro _ w11 ⟨r, hr, ⟨o11, c11, rfl, hq11⟩, g11⟩
    refine ⟨_, _, _, _, _, _, rfl, fun w12 e12 => ⟨(Row.new e12).there (by simp), fun w13 e13 => ?_⟩⟩
    obtain ⟨r13, g13⟩ := loc e12 e13 rfl
    have gA := g11.trans' g13
    have G13 := G10.trans' gA
    have rb13 := rb10.grow gA
    have ra13 := ra10.grow gA
    refine ⟨_, _, _, rb13.cell rfl, _, _, _, rb13.cell rfl, _, ra13.cell rfl, (refPinned_c a.call (by omega) hlP (hbk.grow G13)).mono ?_⟩
    rintro _ w14 ⟨r', hr', ⟨o14, c14, rfl, hq14⟩, g14⟩
    obtain rfl := hsim.pinned hst.one hr hr'
    refine ⟨_, _, _, _, _, _, rfl, fun w15 e15 => ⟨(Row.new e15).there (by simp), fun w16 e16 => ?_⟩⟩
    obtain ⟨r16, g16⟩ := loc e15 e16 rfl
    have gB := g14.trans' g16
    have G16 := G13.trans' gB
    have ra16 := ra13.grow gB
    refine ⟨_, ra16.cell rfl, _, ra16.cell rfl, (getP_c a.name a.version hso (by omega) hfine (rt.grow G16) (hp.grow G16)).mono ?_⟩
    rintro _ w17 ⟨g, hg, ⟨o17, c17, rfl, hq17⟩, g17⟩
    refine ⟨_, _, _, _, _, _, rfl, fun w18 e18 => ⟨(Row.new e18).there (by simp), fun w19 e19 => ?_⟩⟩
    obtain ⟨r19, g19⟩ := loc e18 e19 rfl
    have gC := g17.trans' g19
    have G19 := G16.trans' gC
    have rb19 := (rb13.grow gB).grow gC
    have ra19 := ra16.grow gC
    have bk19 := hbk.grow G19
    refine ⟨_, _, _, rb19.cell rfl, _, _, _, rb19.cell rfl, _, ra19.cell rfl, _, ra19.cell rfl, (refGet_c a.name a.version P.length (by omega) bk19.es bk19.l).mono ?_⟩
    rintro _ w20 ⟨g', hg', ⟨o20, c20, rfl, hq20⟩, g20⟩
    obtain rfl := hsim.get hg hg'
    refine ⟨_, _, _, _, _, _, rfl, fun w21 e21 => ⟨(Row.new e21).there (by simp), fun w22 e22 => ?_⟩⟩
    obtain ⟨r22, g22⟩ := loc e21 e22 rfl
    have gD := g20.trans' g22
    have G22 := G19.trans' gD
    have p13 := ((r13.grow gB).grow gC).grow gD
    have p16 := (r16.grow gC).grow gD
    have p19 := r19.grow gD
    have f1 : FitP (r.getD zeroP) := fit_of (n := a.name) hok hr.mem
    have f2 : FitP (g.getD zeroP) := fit_of (n := a.name) hok hg.mem
    refine yes rfl ⟨_, p13.cell rfl, _, p13.cell rfl, _, _, _, p13.cell rfl, _, p16.cell rfl, _, p16.cell rfl, _, _, _, p16.cell rfl, (eqP_c o11 o14 c11 c14 _ f1 w22 ((((hq11.grow g13).grow gB).grow gC).grow gD) (((hq14.grow g16).grow gC).grow gD)).mono ?_⟩
    rintro _ w23 ⟨rfl, g23⟩
    have p19' := p19.grow g23
    have r22' := r22.grow g23
    refine ⟨_, rfl, fun _ => yes rfl ⟨_, p19'.cell rfl, _, p19'.cell rfl, _, _, _, p19'.cell rfl, _, r22'.cell rfl, _, r22'.cell rfl, _, _, _, r22'.cell rfl, (eqP_c o17 o20 c17 c20 _ f2 w23 (((hq17.grow g19).grow gD).grow g23) ((hq20.grow g22).grow g23)).mono ?_⟩, fun h => (by cases h)⟩
    rintro _ w24 ⟨rfl, g24⟩
    exact ⟨_, rfl, rfl, (G22.trans' g23).trans' g24⟩
end

def fallS : ByteArray := ByteArray.mk #[102, 97, 108, 108]
def mainS : ByteArray := ByteArray.mk #[109, 97, 105, 110]
def plA : Ans := ⟨fallS, -1, 3, fallS⟩
def plQ : Qst := ⟨ByteArray.mk #[87, 104, 97, 116, 63], [plA]⟩
def plP (n : ByteArray) (v : Int) : Prot := ⟨n, v, [plQ]⟩
theorem plP_valid {n : ByteArray} {v : Int} (hn : nameB n = true) (h1 : 1 ≤ v) (h2 : v ≤ 1048576) : validB (plP n v) = true := by
  have hq : qstB 1 plQ = true := by kernel_rfl
  unfold validB
  show (((([plQ].all (qstB ([plQ].length : Nat))) && nameB n) && decide (1 ≤ v) && decide (v ≤ 1048576)) && decide (1 ≤ [plQ].length) && decide ([plQ].length ≤ 64)) = true
  rw [hn, decide_eq_true h1, decide_eq_true h2]
  have : [plQ].all (qstB ([plQ].length : Nat)) = true := by
    show (qstB (([plQ].length : Nat) : Int) plQ && true) = true
    have e : (([plQ].length : Nat) : Int) = 1 := rfl
    rw [e, hq]; rfl
  rw [this]; rfl
theorem pl_nx0 : nxP [plQ] 0 = [] := by kernel_rfl
theorem plP_ending {n : ByteArray} {v : Int} (hn : nameB n = true) (h1 : 1 ≤ v) (h2 : v ≤ 1048576) : Ending' (plP n v) (-1) 0 := by
  have h0 : ∀ j, j < (plP n v).qs.length → j = 0 := fun j hj => by
    have : (plP n v).qs.length = 1 := rfl
    omega
  refine .inr (.inr (.inr ⟨plP_valid hn h1 h2, fun j hj => ?_, fun j hj => ?_, rfl, rfl⟩))
  · obtain rfl := h0 j hj
    rintro ⟨x, hx, -⟩
    have : x ∈ nxP [plQ] 0 := hx
    rw [pl_nx0] at this; cases this
  · obtain rfl := h0 j hj
    exact .refl _
theorem main_name : nameB mainS = true := by kernel_rfl
theorem plain_c (n : ByteArray) (v : Int) (w : World) : Calls Try.prog 43 #[.string n, .int .i64 v] w fun e w' => ∃ o, e = .returned (aggP (plP n v) o 1) ∧ Qs w' (fun b => hs w ≤ b ∧ b < hs w') o (plP n v).qs ∧ Grow w w' := by
  refine nf43 n v w _ fun w1 e1 w3 e3 w5 e5 => ?_
  have g1 : Grow w w1 := only_alloc e1
  have g3 : Grow w1 w3 := only_alloc e3
  have g5 : Grow w3 w5 := only_alloc e5
  have r1 := ((Row.new e1).grow g3).grow g5
  have ra : Row w3 (hs w1) 58 ([plA].flatMap encA) := Row.new e3
  have rq := Row.new e5
  refine ⟨r1.there (by simp), fun w7 e7 => ?_⟩
  have r7 := r1.set e7
  have g7 : Only (fun b => b = hs w) w5 w7 := only_set e7
  have z1 := hs_alloc e1
  have z3 := hs_alloc e3
  have z5 := hs_alloc e5
  have z7 := g7.size
  have ra7 := (ra.grow g5).keep g7 (by omega)
  have rq7 := rq.keep g7 (by omega)
  have G : Grow w w7 := ((g1.trans' g3).trans' g5).trans g7 fun b hb e => by omega
  have hrec : Recs w7 (fun b => hs w ≤ b ∧ b < hs w7) (some ⟨hs w1, 0, none⟩) 4 ([plA].map encA) := (own_recs (B := hs w) (c := 1) (n := 1) (bs := [plA]) (ra7.own (by omega) rfl (by simp [maxLen]))).mono fun _ h => h
  refine ⟨_, r7.cell rfl, _, r7.cell rfl, _, _, _, r7.cell rfl, some ⟨hs w3, 0, none⟩, rfl, fun i q hi => ?_, G⟩
  have : i = 0 := by
    rcases Nat.lt_or_ge i 1 with h | h
    · omega
    · rw [List.getElem?_eq_none (by exact h)] at hi; cases hi
  subst this
  cases hi
  exact ⟨_, _, 1, rfl, ⟨show hs w ≤ hs w3 by omega, rq7.lt⟩, rq7.cellAdd rfl, rq7.cellAdd2 rfl, hrec⟩

/-! ### what is small -/
set_option maxHeartbeats 1000000 in
theorem small15_c (o : Option Addr) (c : Nat) (p : Prot) (hf : FitP p) (w : World) {A : Nat → Prop} (h : Qs w A o p.qs) :
    Calls Try.prog 48 #[aggP p o c] w fun e w' => ∃ b, e = .returned (.bool b) ∧ (b = true → p.qs.length ≤ 12) ∧ Grow w w' := by
  have hfl := hf.qs
  refine nf48 p.name p.version o p.qs.length c w _ fun w1 e1 => ?_
  have r := Row.new e1
  have g : Grow w w1 := only_alloc e1
  refine ⟨_, r.cell rfl, fun k y x w' => ∃ j : Nat, x = (j : Int) ∧ j ≤ p.qs.length ∧ k = p.qs.length - j ∧ Grow w1 w', ⟨_, 0, rfl, Nat.zero_le _, rfl, Only.refl _ _⟩, ?_⟩
  rintro k _ w2 y x ⟨j, rfl, hj, rfl, g2⟩
  have G2 := g.trans' g2
  have r2 := r.grow g2
  refine ⟨_, _, _, r2.cell rfl, fun hlt => ?_, fun hge => ⟨_, _, _, r2.cell rfl, fun h1 => ⟨fun h2 => ⟨true, rfl, fun _ => by have := dT h1; omega, G2⟩, fun h2 => ⟨false, rfl, fun h => (by cases h), G2⟩⟩, fun h1 => ⟨false, rfl, fun h => (by cases h), G2⟩⟩⟩
  have hlt : j < p.qs.length := by have := dT hlt; omega
  obtain ⟨a, oi, ci, ha, c0, c1, hr⟩ := (h.grow G2).get hlt
  have hfq := (hf.each _ (List.getElem_mem hlt)).2.1
  generalize p.qs[j] = q at *
  refine ⟨_, _, _, r2.cell rfl, a, ha, ⟨by omega, by omega⟩, _, c0, fun k y x w' => ∃ t : Nat, x = (t : Int) ∧ t ≤ q.ans.length ∧ k = q.ans.length - t ∧ Grow w2 w', ⟨_, 0, rfl, Nat.zero_le _, rfl, Only.refl _ _⟩, ?_⟩
  rintro k _ w3 y2 x ⟨t, rfl, ht, rfl, g3⟩
  have r3 := r2.grow g3
  refine ⟨_, _, _, r3.cell rfl, a, ha, ⟨by omega, by omega⟩, _, _, _, cell_grow g3 c1, fun hlt2 w4 e4 => ?_, fun hge2 => ⟨fun h1 => ⟨false, rfl, fun h => (by cases h), G2.trans' g3⟩, fun h1 => ⟨_, by omega, j + 1, by rw [wr (by omega)]; omega, hlt, rfl, g2.trans' g3⟩⟩⟩
  have hlt2 : t < q.ans.length := by have := dT hlt2; omega
  have g4 : Grow w3 w4 := only_drew e4
  have r4 := r3.grow g4
  have c1' := cell_grow (g3.trans' g4) c1
  obtain ⟨a', ha', d0, d1, d2, d3⟩ := Recs.ans ((hr.grow g3).grow g4) hlt2
  exact ⟨_, _, _, r4.cell rfl, a, ha, ⟨by omega, by omega⟩, _, _, _, c1', a', ha', ⟨by omega, by omega⟩, _, d0, _, _, _, r4.cell rfl, a, ha, ⟨by omega, by omega⟩, _, _, _, c1', a', ha', ⟨by omega, by omega⟩, _, d3, _, by omega, t + 1, by rw [wr (by omega)]; omega, hlt2, rfl, g3.trans' g4⟩
/-- operations behind a slice -/
def Acs (w : World) (A : Nat → Prop) (o : Option Addr) (l : List Ac) : Prop :=
  ∀ (i : Nat) a, l[i]? = some a → ∃ ad qo qc, o = some ad ∧ A ad.block ∧ (∀ j v, [Value.int .u8 a.kind, .string a.t.name, .int .i64 a.t.version, .slice qo a.t.qs.length qc, .int .i64 a.call, .string a.name, .int .i64 a.version][j]? = some v → w.cell? ((ad.add ((i : Int).toNat * 7)).add j) = some v) ∧ Qs w A qo a.t.qs
theorem Acs.keep {w w' : World} {A S : Nat → Prop} {o : Option Addr} {l : List Ac} (h : Acs w A o l) (g : Only S w w') (hS : ∀ b, A b → ¬ S b) : Acs w' A o l := fun i a hi => by
  obtain ⟨ad, qo, qc, h1, h2, h3, h4⟩ := h i a hi
  exact ⟨ad, qo, qc, h1, h2, fun j v hj => cell_keep g (by rw [block_add2]; exact hS _ h2) (h3 j v hj), h4.keep g hS⟩
theorem Acs.grow {w w' : World} {A : Nat → Prop} {o : Option Addr} {l : List Ac} (h : Acs w A o l) (g : Grow w w') : Acs w' A o l := h.keep g fun _ _ h => h
theorem Acs.get {w : World} {A : Nat → Prop} {o : Option Addr} {l : List Ac} (h : Acs w A o l) {i : Nat} (hi : i < l.length) :
    ∃ ad qo qc, o = some ad ∧ w.cell? (ad.add ((i : Int).toNat * 7)) = some (.int .u8 l[i].kind) ∧ w.cell? ((ad.add ((i : Int).toNat * 7)).add 1) = some (.string l[i].t.name) ∧ w.cell? ((ad.add ((i : Int).toNat * 7)).add 2) = some (.int .i64 l[i].t.version) ∧
      w.cell? ((ad.add ((i : Int).toNat * 7)).add 3) = some (.slice qo l[i].t.qs.length qc) ∧ w.cell? ((ad.add ((i : Int).toNat * 7)).add 4) = some (.int .i64 l[i].call) ∧ w.cell? ((ad.add ((i : Int).toNat * 7)).add 5) = some (.string l[i].name) ∧
      w.cell? ((ad.add ((i : Int).toNat * 7)).add 6) = some (.int .i64 l[i].version) ∧ Qs w A qo l[i].t.qs := by
  obtain ⟨ad, qo, qc, h1, -, h3, h4⟩ := h i _ (List.getElem?_eq_getElem hi)
  have h0 := h3 0 _ rfl
  rw [add_zero] at h0
  exact ⟨ad, qo, qc, h1, h0, h3 1 _ rfl, h3 2 _ rfl, h3 3 _ rfl, h3 4 _ rfl, h3 5 _ rfl, h3 6 _ rfl, h4⟩
theorem smallL_c (o : Option Addr) (c : Nat) (l : List Ac) (hf : ∀ a, a ∈ l → FitP a.t) (hl : l.length ≤ 9223372036854775807) (w : World) {A : Nat → Prop} (h : Acs w A o l) :
    Calls Try.prog 40 #[.slice o l.length c] w fun e w' => ∃ b, e = .returned (.bool b) ∧ (b = true → l.length ≤ 40) ∧ Grow w w' := by
  refine nf40 o l.length c w _ ⟨fun k x w' => ∃ j : Nat, x = (j : Int) ∧ j ≤ l.length ∧ k = l.length - j ∧ Grow w w', ⟨_, 0, rfl, Nat.zero_le _, rfl, Only.refl _ _⟩, ?_⟩
  rintro k _ w1 x ⟨j, rfl, hj, rfl, g1⟩
  refine ⟨fun hlt => ?_, fun hge => ⟨fun h1 => ⟨true, rfl, fun _ => by have := dT h1; omega, g1⟩, fun h1 => ⟨false, rfl, fun h => (by cases h), g1⟩⟩⟩
  have hlt : j < l.length := by have := dT hlt; omega
  obtain ⟨ad, qo, qc, ha, c0, c1, c2, c3, c4, c5, c6, hq⟩ := (h.grow g1).get hlt
  have hfa := hf _ (List.getElem_mem hlt)
  generalize l[j] = a at *
  refine ⟨ad, ha, ⟨by omega, by omega⟩, _, c0, _, c1, _, c2, _, _, _, c3, _, c4, _, c5, _, c6, fun w2 e2 => ⟨(Row.new e2).there (by simp), fun w3 e3 => ?_⟩⟩
  obtain ⟨r3, g3⟩ := loc e2 e3 rfl
  refine ⟨_, r3.cell rfl, _, r3.cell rfl, _, _, _, r3.cell rfl, (small15_c qo qc a.t hfa w3 (hq.grow g3)).mono ?_⟩
  rintro _ w4 ⟨b, rfl, -, g4⟩
  have G := (g1.trans' g3).trans' g4
  exact ⟨_, rfl, fun _ => ⟨_, (r3.grow g4).cell rfl, fun h1 => ⟨false, rfl, fun h => (by cases h), G⟩, fun h1 => ⟨_, by omega, j + 1, by rw [wr (by omega)]; omega, hlt, rfl, G⟩⟩, fun _ => ⟨false, rfl, fun h => (by cases h), G⟩⟩

abbrev p1 : Prot := plP mainS 1
abbrev p2 : Prot := plP mainS 2
theorem p1_end : Ending' p1 (-1) 0 := plP_ending main_name (by decide) (by decide)
theorem p2_end : Ending' p2 (-1) 0 := plP_ending main_name (by decide) (by decide)
theorem lt12 : Lt mainS 1 mainS 2 := .inr ⟨rfl, by decide⟩
theorem sorted1 : Sorted [p1] := List.pairwise_singleton _ _
theorem sorted2 : Sorted [p1, p2] := List.pairwise_cons.2 ⟨fun u hu => by rw [List.mem_singleton] at hu; rw [hu]; exact lt12, List.pairwise_singleton _ _⟩
theorem get0 (n : ByteArray) (v : Int) : IsGet [] n v none := .inl ⟨rfl, fun u hu => by cases hu⟩
theorem new0 (n : ByteArray) : IsNew [] n none := .inl ⟨rfl, fun u hu => by cases hu⟩
theorem new1 : IsNew [p1] mainS (some p1) := .inr ⟨_, rfl, .head _, rfl, fun u hu _ => by rw [List.mem_singleton] at hu; rw [hu]; exact Int.le_refl _⟩
theorem new2 : IsNew [p1, p2] mainS (some p2) := .inr ⟨_, rfl, by simp, rfl, fun u hu _ => by
  simp only [List.mem_cons, List.not_mem_nil, or_false] at hu
  rcases hu with rfl | rfl <;> decide⟩
theorem get12 : IsGet [p1] mainS 2 none := .inl ⟨rfl, fun u hu h => by rw [List.mem_singleton] at hu; rw [hu] at h; exact absurd h.2 (by decide)⟩
theorem get21 : IsGet [p1, p2] mainS 1 (some p1) := .inr ⟨_, rfl, .head _, rfl, rfl⟩
theorem cut_nil {X Y : List Prot} {n : ByteArray} {v : Int} (h : Cut [] X Y n v) : X = [] ∧ Y = [] := by
  have := h.eq
  exact List.append_eq_nil_iff.1 this.symm
theorem cut_p2 {X Y : List Prot} (h : Cut [p1] X Y mainS 2) : X = [p1] ∧ Y = [] := by
  cases X with
  | nil =>
    have e : Y = [p1] := h.eq.symm
    exact absurd lt12 (h.above p1 (by rw [e]; simp))
  | cons x X =>
    have e := h.eq
    simp only [List.cons_append, List.cons.injEq] at e
    obtain ⟨rfl, e⟩ := e
    obtain ⟨rfl, rfl⟩ := List.append_eq_nil_iff.1 e.symm
    exact ⟨rfl, rfl⟩
/-- what Put does where the protocol is good, new and the newest -/
theorem put_good {S : List Prot} {p : Prot} {x q : Int} {g r : Option Prot} (hu : Uniq S) (hl : S.length < 100) (hE : Ending' p x q) (hp : Ending' p (-1) 0) (hg : IsGet S p.name p.version g) (hr : IsNew S p.name r) (hg' : IsGet S p.name p.version none) (hr' : ∀ u, u ∈ S → u.name = p.name → u.version ≤ p.version) : putE q g r S.length p.version = 0 := by
  obtain ⟨-, rfl⟩ := ending_one hE hp
  obtain rfl := isGet_one hu hg hg'
  have hlat : later r p.version = false := by
    rcases hr with ⟨rfl, -⟩ | ⟨t, rfl, h1, h2, -⟩
    · rfl
    · have := hr' t h1 h2
      exact decide_eq_false (by omega)
  unfold putE
  rw [if_neg (by simp), if_neg (by simp), hlat, if_neg (by simp), if_neg (by omega)]
set_option maxHeartbeats 4000000 in
theorem wakes_c (w : World) : Calls Try.prog 39 #[] w fun e w' => e = .returned (.bool true) ∧ Grow w w' := by
  refine nf39n w _ ((newB_c w).mono ?_)
  rintro _ w2 ⟨t, m, rfl, s2, g2⟩
  refine ⟨_, rfl, fun h => (by cases h), fun _ => (plain_c mainS 1 w2).mono ?_⟩
  rintro _ w7 ⟨o7, rfl, q7, g7⟩
  have s7 := s2.grow g7
  have low7 : ∀ b, (hs w2 ≤ b ∧ b < hs w7) → ¬ (b = t ∨ b = m) := fun b hb hm => by have := (s2.ms b hm).2; omega
  refine ⟨_, _, _, _, _, rfl, (put_c (p := p1) (by decide) q7 low7 .nil (Nat.zero_le _) s7).mono ?_⟩
  rintro _ w14 ⟨x, q, g, r, S1, M1, D1, hE, hg, hr, rfl, h1, -, s14, o14, hM1, hD1⟩
  have e0 : putE q g r 0 1 = 0 := put_good (S := []) (p := p1) .nil (by decide) hE p1_end hg hr (get0 _ _) (fun u hu => by cases hu)
  obtain ⟨X, Y, hc, -, rfl⟩ := h1 e0
  obtain ⟨rfl, rfl⟩ := cut_nil hc
  have e0' : putE q g r ([] : List Prot).length p1.version = 0 := e0
  rw [e0']
  refine ⟨_, rfl, fun h => absurd rfl (nT h), fun _ => (pin_c 7 mainS sorted1 (by decide) s14).mono ?_⟩
  rintro _ w19 ⟨r, hr, rfl, s19, o19⟩
  obtain rfl := isNew_one sorted1.uniq hr new1
  have e1 : pinStep (some p1) [] 7 mainS = ([⟨7, mainS, 1⟩], 1, 0) := by kernel_rfl
  rw [e1] at s19
  rw [show (pinStep (some (plP mainS 1)) [] 7 mainS) = ([⟨7, mainS, 1⟩], 1, 0) from e1]
  refine ⟨_, _, rfl, (plain_c mainS 2 w19).mono ?_⟩
  rintro _ w23 ⟨o23, rfl, q23, g23⟩
  have s23 := s19.grow g23
  have low23 : ∀ b, (hs w19 ≤ b ∧ b < hs w23) → ¬ M1 b := fun b hb hm => by have := (s19.ms b hm).2; omega
  refine ⟨_, _, _, _, _, rfl, (put_c (p := p2) (by decide) q23 low23 sorted1 (by decide) s23).mono ?_⟩
  rintro _ w30 ⟨x, q, g, r, S2, M2, D2, hE, hg, hr, rfl, h1, -, s30, o30, hM2, hD2⟩
  have e2 : putE q g r 1 2 = 0 := put_good (S := [p1]) (p := p2) sorted1.uniq (by decide) hE p2_end hg hr get12 (fun u hu _ => by rw [List.mem_singleton] at hu; rw [hu]; decide)
  obtain ⟨X, Y, hc, -, rfl⟩ := h1 e2
  obtain ⟨rfl, rfl⟩ := cut_p2 hc
  have hok : Ok [p1, p2] := fun u hu => by
    simp only [List.mem_cons, List.not_mem_nil, or_false] at hu
    rcases hu with rfl | rfl
    · exact ⟨_, p1_end⟩
    · exact ⟨_, p2_end⟩
  refine ⟨_, rfl, (pinnedP_c 7 sorted2 (by decide) hok.fine s30).mono ?_⟩
  rintro _ w33 ⟨r, hr, ⟨o33, c33, rfl, -⟩, g33⟩
  have hrp : r = some p1 := by
    rcases hr with ⟨-, hno⟩ | ⟨p, hp, -, hg⟩
    · exact absurd rfl (hno _ (.head _))
    · rw [List.mem_singleton] at hp
      subst hp
      exact isGet_one sorted2.uniq hg get21
  subst hrp
  refine ⟨_, _, _, _, _, _, rfl, fun _ w41 e41 => ⟨(Row.new e41).there (by simp), fun w43 e43 => ?_⟩, fun h => (by cases h)⟩
  obtain ⟨r43, g43⟩ := loc e41 e43 rfl
  have s43 := (s30.grow g33).grow g43
  obtain ⟨o, c, rt, hp⟩ := s43.read
  refine (newestP_c mainS sorted2 (by decide) hok.fine rt hp).mono ?_
  rintro _ w46 ⟨r, hr, ⟨o46, c46, rfl, -⟩, g46⟩
  obtain rfl := isNew_one sorted2.uniq hr new2
  refine ⟨_, _, _, _, _, _, rfl, fun _ w54 e54 => ⟨(Row.new e54).there (by simp), fun w56 e56 => ?_⟩, fun h => (by cases h)⟩
  obtain ⟨r56, g56⟩ := loc e54 e56 rfl
  have s56 := (s43.grow g46).grow g56
  have z2 := s2.ms t (.inl rfl)
  have r43' := (r43.grow g46).grow g56
  refine (drop_c mainS 1 sorted2 (by decide) s56).mono ?_
  rintro _ w59 ⟨g, r, S3, hg, hr, rfl, -, h2, s59, o59⟩
  obtain rfl := isGet_one sorted2.uniq hg get21
  obtain rfl := isNew_one sorted2.uniq hr new2
  have e3 : dropE (some p1) (some p2) [⟨7, mainS, 1⟩] mainS 1 = 10 := by kernel_rfl
  rw [e3] at h2
  obtain rfl := h2 (by decide)
  refine ⟨_, rfl, (unpin_c 7 s59).mono ?_⟩
  rintro _ w62 ⟨rfl, s62, o62⟩
  have e4 : freeStep [⟨7, mainS, 1⟩] 7 = ([], true) := by kernel_rfl
  rw [e4] at s62
  rw [e4, e3]
  have n43 : ∀ {b : Nat}, hs w30 ≤ b → ¬ M2 b := fun {b} hb hm => by have := (s30.ms b hm).2; omega
  have z33 := g33.size
  have z46 : hs w33 ≤ hs w46 := by have := g43.size; have := g46.size; omega
  have rA := (r43'.keep o59 (n43 (by omega))).keep o62 (n43 (by omega))
  have rB := (r56.keep o59 (n43 (by omega))).keep o62 (n43 (by omega))
  refine ⟨_, rfl, fun _ => yes rfl (yes rfl ⟨_, rA.cell rfl, yes rfl ⟨_, rB.cell rfl, yes rfl (yes rfl ((drop_c mainS 1 sorted2 (by decide) s62).mono ?_))⟩⟩), fun h => (by cases h)⟩
  rintro _ w73 ⟨g, r, S4, hg, hr, rfl, -, -, s73, o73⟩
  obtain rfl := isGet_one sorted2.uniq hg get21
  obtain rfl := isNew_one sorted2.uniq hr new2
  have e5 : dropE (some p1) (some p2) [] mainS 1 = 0 := by kernel_rfl
  rw [e5]
  refine ⟨_, rfl, yes rfl ⟨rfl, ?_⟩⟩
  have c1 : Only (fun b => hs w ≤ b) w w14 := (Grow.only (g2.trans' g7)).trans' (o14.mono fun b _ hb => (s7.ms b hb).1)
  have c2 := ((c1.trans' (o19.mono fun b _ hb => (s14.ms b hb).1)).grow g23).trans' (o30.mono fun b _ hb => (s23.ms b hb).1)
  have c3 := (((c2.grow g33).grow g43).grow g46).grow g56
  have c4 := ((c3.trans' (o59.mono fun b _ hb => (s56.ms b hb).1)).trans' (o62.mono fun b _ hb => (s59.ms b hb).1)).trans' (o73.mono fun b _ hb => (s62.ms b hb).1)
  exact c4.toGrow fun b hb => hb
end Go.Proofs.Ytbaacpfjecbbgaa
