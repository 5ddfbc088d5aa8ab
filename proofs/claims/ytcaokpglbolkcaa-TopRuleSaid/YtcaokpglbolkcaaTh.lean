/- search: from one node, the shortest distances to all. -/
import Derived.Test.YtcaokpglbolkcaaTg
namespace Go.Proofs.Ytcaokpglbolkcaa
open Go Go.Nf Go.RowKit

/-! ### the stages, as steps of the walk -/
abbrev L9 : List Nat := [4, 5, 7, 9, 11, 14, 15, 16, 17]
section
variable {d : List Deferred} {r : Option Nat} {a : Act} {ρ : Env} {w : World} {Q : Exit → Act → World → Prop}
theorem stageA {K1 K2 : List Value → World → Prop} (F : Fits 122 d a ρ) (h : vc Try.prog (at50 Try.f50.body pA) an50A (fun e ρ w => match e with | .normal => K1 (L6.map ρ) w | .exit i => bif Nat.beq i 4 then K2 (L6.map ρ) w else False | _ => False) ρ w)
    (h1 : ∀ ρ' w' a', Fits 122 d a' ρ' → K1 (L6.map ρ') w' → Q .normal a' w') (h2 : ∀ ρ' w' a', Fits 122 d a' ρ' → K2 (L6.map ρ') w' → Q (.exit 4) a' w') : (at50 Try.f50.body pA).wpIn (FW r) 0 Try.prog Q a w := by
  refine wpIn_mono (vc_sound hm50 _ an50A _ ρ w a okA50 F h) ?_
  rintro e a' w' ⟨ρ', F', hq⟩
  cases e <;> first
    | exact hq.elim
    | exact h1 ρ' w' a' F' hq
    | skip
  rename_i id
  revert hq
  show (bif Nat.beq id 4 then K2 (L6.map ρ') w' else False) → _
  by_cases h4 : id = 4
  · subst h4
    exact h2 ρ' w' a' F'
  · rw [show Nat.beq id 4 = false from by cases hb : Nat.beq id 4 with | false => rfl | true => exact absurd (Nat.eq_of_beq_eq_true hb) h4]
    exact False.elim
theorem stageB {K1 K2 : List Value → World → Prop} (F : Fits 122 d a ρ) (h : vcN Try.prog (fun e ρ w => match e with | .exit i => bif Nat.beq i 5 then K2 (L6.map ρ) w else False | _ => False) 3 (at50 Try.f50.body pB) an50B ρ w (fun ρ w => K1 ([4, 5, 7, 9, 11, 14, 15, 16, 75].map ρ) w))
    (h1 : ∀ ρ' w' a', Fits 122 d a' ρ' → K1 ([4, 5, 7, 9, 11, 14, 15, 16, 75].map ρ') w' → (seqR 3 (at50 Try.f50.body pB)).wpIn (FW r) 0 Try.prog Q a' w') (h2 : ∀ ρ' w' a', Fits 122 d a' ρ' → K2 (L6.map ρ') w' → Q (.exit 5) a' w') : (at50 Try.f50.body pB).wpIn (FW r) 0 Try.prog Q a w := by
  refine wp_of_vcN hm50 (fun e ρ' w' a' hn F' hq => ?_) 3 _ an50B ρ w a _ okB50 F h h1
  cases e <;> first
    | exact hq.elim
    | skip
  rename_i id
  revert hq
  show (bif Nat.beq id 5 then K2 (L6.map ρ') w' else False) → _
  by_cases h4 : id = 5
  · subst h4
    exact h2 ρ' w' a' F'
  · rw [show Nat.beq id 5 = false from by cases hb : Nat.beq id 5 with | false => rfl | true => exact absurd (Nat.eq_of_beq_eq_true hb) h4]
    exact False.elim
theorem stageS {K : List Value → World → Prop} (F : Fits 122 d a ρ) (h : vc Try.prog (at50 Try.f50.body pS) (.reg []) (fun e ρ w => match e with | .normal => K (L9.map ρ) w | _ => False) ρ w)
    (h1 : ∀ ρ' w' a', Fits 122 d a' ρ' → K (L9.map ρ') w' → Q .normal a' w') : (at50 Try.f50.body pS).wpIn (FW r) 0 Try.prog Q a w := by
  refine wpIn_mono (vc_sound hm50 _ (.reg []) _ ρ w a okS50 F h) ?_
  rintro e a' w' ⟨ρ', F', hq⟩
  cases e <;> first
    | exact hq.elim
    | exact h1 ρ' w' a' F' hq
theorem stageC {K : World → Prop} (F : Fits 122 d a ρ) (h : vc Try.prog (at50 Try.f50.body pC) an50C (fun e _ w => match e with | .normal => K w | _ => False) ρ w)
    (h1 : ∀ ρ' w' a', Fits 122 d a' ρ' → K w' → Q .normal a' w') : (at50 Try.f50.body pC).wpIn (FW r) 0 Try.prog Q a w := by
  refine wpIn_mono (vc_sound hm50 _ an50C _ ρ w a okC50 F h) ?_
  rintro e a' w' ⟨ρ', F', hq⟩
  cases e <;> first
    | exact hq.elim
    | exact h1 ρ' w' a' F' hq
theorem stageD {K : Value → World → Prop} (F : Fits 122 d a ρ) (h : vc Try.prog (at50 Try.f50.body pD) an50D (fun e ρ w => match e with | .ret => K (ρ 8) w | _ => False) ρ w)
    (h1 : ∀ ρ' w' a', Fits 122 d a' ρ' → K (ρ' 8) w' → Q .ret a' w') : (at50 Try.f50.body pD).wpIn (FW r) 0 Try.prog Q a w := by
  refine wpIn_mono (vc_sound hm50 _ an50D _ ρ w a okD50 F h) ?_
  rintro e a' w' ⟨ρ', F', hq⟩
  cases e <;> first
    | exact hq.elim
    | exact h1 ρ' w' a' F' hq
set_option maxRecDepth 100000 in
theorem stageP {K : Env → World → Prop} (F : Fits 122 d a ρ) (h : vcN Try.prog (fun _ _ _ => False) 7 (at50 Try.f50.body []) an50P ρ w K) (h1 : ∀ ρ' w' a', Fits 122 d a' ρ' → K ρ' w' → (seqR 7 (at50 Try.f50.body [])).wpIn (FW r) 0 Try.prog Q a' w') : (at50 Try.f50.body []).wpIn (FW r) 0 Try.prog Q a w :=
  wp_of_vcN hm50 (fun _ _ _ _ _ _ h => h.elim) 7 _ an50P ρ w a K okP50 F h h1
end
/-- what is promised to search's caller -/
def Found (w : World) (E : List Edg) (wt : Nat → Int) (n : Nat) (s : Int) (e : Ending) (w' : World) : Prop := ∃ bd D, e = .returned (.slice (some ⟨bd, 0, none⟩) n n) ∧ Row w' bd 2 (intsV D) ∧ IsDist E wt n s D ∧ hs w ≤ bd ∧ Grow w w'
/-- what holds ahead of the loop over a node's edges -/
def PopK1 (w0 : World) (q : Nat) (E : List Edg) (n : Nat) (s : Int) (wt : Nat → Int) (ow : Option Addr) (cw p4 p5 p7 p9 p11 bd : Nat) (oo : Option Addr) (co u : Nat) (D : List Int) (S : Nat → Prop) (ds : List Nat) (m z : Nat) (vs : List Value) (w' : World) : Prop :=
  ∃ (p15 cl cn : Nat) (ys : List Int), vs = vals6 p4 p5 p7 p9 p11 q ++ [.pointer (some ⟨p15, 0, none⟩), .int .i64 (u : Int), .func (.func 79) #[] #[.pointer (some ⟨cn, 0, none⟩), .pointer (some ⟨cl, 0, none⟩)]] ∧ St w0 q ow E.length cw n p4 p5 p7 p9 p11 bd D ys S w' ∧
      Lab E wt n s D ys u (fun i => (i : Int) ∈ idxs (fun e => decide (e.src = (u : Int))) E 0) ∧ Marks w0 ds S w' ∧ 2 * capS D + ys.length < m ∧ Row w' p15 2 [.int .i64 (gD D u)] ∧ Row w' cl 68 [.slice oo (outsL E n).length co] ∧ Row w' cn 3 [.int .i64 (u : Int)] ∧ gD D u ≠ FarT ∧ p11 < p15 ∧ ¬ S p15 ∧ z ≤ p15 ∧ p15 < cl ∧ p15 < cn
/-- what holds ahead of the next round -/
def PopK2 (w0 : World) (q : Nat) (E : List Edg) (n : Nat) (s : Int) (wt : Nat → Int) (ow : Option Addr) (cw p4 p5 p7 p9 p11 bd : Nat) (ds : List Nat) (m : Nat) (vs : List Value) (w' : World) : Prop :=
  vs = vals6 p4 p5 p7 p9 p11 q ∧ ∃ D' xs' S', St w0 q ow E.length cw n p4 p5 p7 p9 p11 bd D' xs' S' w' ∧ Lab E wt n s D' xs' 0 (fun _ => False) ∧ Marks w0 ds S' w' ∧ 2 * capS D' + xs'.length < m
/-- what holds within the loop over a node's edges -/
def RoundJ (w0 : World) (q : Nat) (E : List Edg) (n : Nat) (s : Int) (wt : Nat → Int) (ow : Option Addr) (cw p4 p5 p7 p9 p11 bd u p15 : Nat) (dd : Int) (l : List Int) (ds : List Nat) (m : Nat) (pre : List Int) (M : Nat → Prop) (W : World) : Prop :=
  ∃ D' xs' S', St w0 q ow E.length cw n p4 p5 p7 p9 p11 bd D' xs' S' W ∧ Lab E wt n s D' xs' u (fun i => (i : Int) ∈ l ∧ (i : Int) ∉ pre) ∧ gD D' u = dd ∧ Row W p15 2 [.int .i64 dd] ∧ Marks w0 ds S' W ∧ 2 * capS D' + xs'.length < m ∧ ¬ S' p15 ∧
      (∀ b, M b → hs w0 ≤ b → b ≠ p4 ∧ b ≠ p5 ∧ b ≠ p7 ∧ b ≠ p9 ∧ b ≠ bd ∧ b ≠ p15 ∧ ¬ S' b ∧ b ∉ ds) ∧ (∀ b, M b → b < hs W)
attribute [local irreducible] vc vcN
section
variable {w : World} {q : Nat} {E : List Edg} {n : Nat} {ow : Option Addr} {cw : Nat} {wt : Nat → Int} {s : Int} {p4 p5 p7 p9 p11 bd : Nat}
set_option maxRecDepth 100000 in
/-- what is done behind the loop -/
theorem search_fin (hn : n ≤ 10) (hwt : OkW wt) {ds : List Nat} {ρ : Env} {D : List Int} {S : Nat → Prop} {W : World} {a : Act} (F : Fits 122 (ds.map mkD) a ρ) (hρ : L6.map ρ = vals6 p4 p5 p7 p9 p11 q) (st : St w q ow E.length cw n p4 p5 p7 p9 p11 bd D [] S W) (lab : Lab E wt n s D [] 0 (fun _ => False)) (mk : Marks w ds S W) :
    (at50 Try.f50.body pD).wpIn (FW none) 0 Try.prog (bodyPostM Fence.wide 0 Try.prog Try.f50 (Found w E wt n s)) a W := by
  have e := Env.fill_self ρ L6
  rw [hρ] at e
  have h := nf50D ρ p4 p5 p7 p9 p11 q W (fun v w' => v = .slice (some ⟨bd, 0, none⟩) n n ∧ w' = W) ⟨_, _, _, st.r9.cell rfl, rfl, rfl⟩
  have h' := h
  rw [show (ρ.fill L6 [(.pointer (some ⟨p4, 0, none⟩)), (.pointer (some ⟨p5, 0, none⟩)), (.pointer (some ⟨p7, 0, none⟩)), (.pointer (some ⟨p9, 0, none⟩)), (.pointer (some ⟨p11, 0, none⟩)), (.func (.func 67) #[.pointer (some ⟨q, 0, none⟩)] #[])]) = ρ from e] at h'
  refine stageD (K := fun v w' => v = .slice (some ⟨bd, 0, none⟩) n n ∧ w' = W) F h' ?_
  rintro ρ' w' a' F' ⟨h8, rfl⟩
  show LeavesInM Fence.wide 0 Try.prog Try.f50 a'.tmps _ a'.defers .returning _
  rw [F'.defers]
  refine leaves_marks ds _ mk.1 (fun r hr => (mk.2 r hr).1) fun w2 g2 => ?_
  obtain ⟨v, hv1, hv2⟩ := results_of (P := Try.prog) (fn := Try.f50) (tmps := a'.tmps) (w := w2) (K := fun v => v = .slice (some ⟨bd, 0, none⟩) n n) (by
    have e : ∀ (ρ : Env) (w : World) (K : Value → Prop), K (ρ 8) = vcRes Try.prog Try.f50.results.toList [] ρ w K := fun ρ w K => by kernel_rfl
    rw [← e]
    have := F'.env
    rw [← h8, ← this]
    rfl)
  subst hv2
  exact ⟨_, hv1, bd, D, rfl, st.rd.keep g2 fun h => mk.noRow st.rd h, lab.done (fun _ h => h) hwt hn, st.lo.2.2.2.2, st.grow.trans g2 fun b hb h => by have := (mk.2 b h).2.1; omega⟩

set_option maxRecDepth 100000 in
set_option maxHeartbeats 4000000 in
/-- the least key comes up -/
theorem search_pop {oo : Option Addr} {co : Nat} {oe' oi : Option Addr} {ce' ci ni : Nat} {ρ : Env} {D : List Int} {S : Nat → Prop} {W : World} {ds : List Nat} {x : Int} {rest : List Int} {u : Nat} {d : Int}
    (hq1 : Row w q 70 [.slice oe' E.length ce', .slice oo (outsL E n).length co, .slice oi ni ci]) (hn : n ≤ 10) (hρ : L6.map ρ = vals6 p4 p5 p7 p9 p11 q) (st : St w q ow E.length cw n p4 p5 p7 p9 p11 bd D (x :: rest) S W) (lab : Lab E wt n s D (x :: rest) 0 (fun _ => False)) (mk : Marks w ds S W)
    (hu : u < n) (hx : x = key d u) (hud : gD D u ≤ d) (hd0 : 0 ≤ d) (hdm : d ≤ 9437184) :
    vcN Try.prog (fun e ρ w' => match e with | .exit i => bif Nat.beq i 5 then PopK2 w q E n s wt ow cw p4 p5 p7 p9 p11 bd ds (2 * capS D + (x :: rest).length) (L6.map ρ) w' else False | _ => False) 3 (at50 Try.f50.body pB) an50B ρ W
      (fun ρ w' => PopK1 w q E n s wt ow cw p4 p5 p7 p9 p11 bd oo co u D S ds (2 * capS D + (x :: rest).length) (hs W) ([4, 5, 7, 9, 11, 14, 15, 16, 75].map ρ) w') := by
  have eρ := Env.fill_self ρ L6
  rw [hρ] at eρ
  have few := lab.few
  rw [List.length_cons] at few
  have lD := lab.len
  obtain ⟨kd, ke⟩ := key_div hd0 (show u < 4096 by omega)
  have h := nf50B ρ p4 p5 p7 p9 p11 q W (PopK1 w q E n s wt ow cw p4 p5 p7 p9 p11 bd oo co u D S ds (2 * capS D + (x :: rest).length) (hs W)) (PopK2 w q E n s wt ow cw p4 p5 p7 p9 p11 bd ds (2 * capS D + (x :: rest).length)) ?_
  · rw [show (ρ.fill L6 [(.pointer (some ⟨p4, 0, none⟩)), (.pointer (some ⟨p5, 0, none⟩)), (.pointer (some ⟨p7, 0, none⟩)), (.pointer (some ⟨p9, 0, none⟩)), (.pointer (some ⟨p11, 0, none⟩)), (.func (.func 67) #[.pointer (some ⟨q, 0, none⟩)] #[])]) = ρ from eρ] at h
    exact h
  refine (pop_c st.qa (by omega)).mono ?_
  rintro _ w4 ⟨x', rest', ys, hxr, rfl, hp, q4, o4⟩
  cases hxr
  have hpl := hp.length_eq
  rw [hx, kd, ke, wr (by omega)]
  have st4 := st.queue q4 o4 fun b hb => .inl hb
  have mk4 : Marks w ds S w4 := mk.keep o4 (fun r hr k => (mk.2 r hr).2.2 k) fun b hb => .inl hb
  have z4 := o4.size
  refine ⟨_, _, rfl, fun w5 e5 => ⟨(Row.new e5).there (by simp), fun w7 e7 w9 e9 => ?_⟩⟩
  have r7 := (Row.new e5).set e7
  have g7 : Grow w4 w9 := ((only_alloc e5).trans (only_set e7) fun b hb e => by omega).trans' (only_drew e9)
  have r9 : Row w9 (hs w4) 2 [.int .i64 d] := r7.grow (only_drew e9)
  have st9 := st4.more g7
  have mk9 : Marks w ds S w9 := mk4.keep g7 (fun _ _ h => h) fun b hb => .inl hb
  refine ⟨_, r9.cell rfl, _, _, _, st9.r9.cell rfl, _, rfl, ⟨by omega, by omega⟩, _, st9.get (by omega), fun hgt => ?_, fun hle => ?_⟩
  · have hgt := dT hgt
    exact ⟨rfl, D, ys, S, st9, lab.stale hn hx hu (by omega) hp, mk9, by rw [List.length_cons]; omega⟩
  · have hle := dF hle
    have ed : d = gD D u := by omega
    refine .inl ⟨67, #[.pointer (some ⟨q, 0, none⟩)], #[], rfl, by kernel_rfl, ?_⟩
    show Calls Try.prog 67 #[.pointer (some ⟨q, 0, none⟩), .int .i64 (u : Int)] w9 _
    refine nf67 q (u : Int) w9 _ ⟨_, _, _, (hq1.grow st9.grow).cell rfl, nf77 oo _ co (u : Int) w9 _ fun w10 e10 w11 e11 => ?_⟩
    have g10 : Grow w9 w10 := only_alloc e10
    have g11 : Grow w10 w11 := only_alloc e11
    have z10 := hs_alloc e10
    have l15 := r9.lt
    have lq := st4.qa.lt p11 st4.qa.memq
    refine ⟨_, _, _, rfl, _, _, _, rfl, hs w4, hs w9, hs w10, ys, rfl, (st9.more g10).more g11, lab.open' (fun _ h => h) hn hx hu hp, (mk9.keep g10 (fun _ _ h => h) fun b hb => .inl hb).keep g11 (fun _ _ h => h) fun b hb => .inl hb, by rw [List.length_cons]; omega,
      by rw [← ed]; exact (r9.grow g10).grow g11, (Row.new e10).grow g11, Row.new e11, fun e => by rw [e] at ed; simp only [FarT] at ed; omega, lq, fun k => by have := st4.qa.lt _ k; omega, z4, by omega, by omega⟩
/-- an iterator writes: what holds within the loop goes on -/
theorem RoundJ.step {w : World} {q : Nat} {E : List Edg} {n : Nat} {s : Int} {wt : Nat → Int} {ow : Option Addr} {cw p4 p5 p7 p9 p11 bd u p15 : Nat} {dd : Int} {l : List Int} {ds : List Nat} {m : Nat} {pre : List Int} {M M' : Nat → Prop} {W W' : World}
    (h : RoundJ w q E n s wt ow cw p4 p5 p7 p9 p11 bd u p15 dd l ds m pre M W) (g : Only (fun b => M b ∧ hs w ≤ b) W W') (hM' : ∀ b, M' b → M b ∨ (hs W ≤ b ∧ b < hs W')) : RoundJ w q E n s wt ow cw p4 p5 p7 p9 p11 bd u p15 dd l ds m pre M' W' := by
  obtain ⟨D', xs', S', j1, j2, j3, j4, j5, j6, j7, j8, j9⟩ := h
  have gz := g.size
  have lo := j1.lo
  have hi := j1.hi
  have lq := j1.qa.lt p11 j1.qa.memq
  refine ⟨D', xs', S', j1.keep g fun b hb => ?_, j2, j3, j4.keep g fun hb => (j8 _ hb.1 hb.2).2.2.2.2.2.1 rfl, j5.keep g (fun r hr hb => (j8 _ hb.1 hb.2).2.2.2.2.2.2.2 hr) fun b hb => .inl hb, j6, j7, fun b hb hwb => ?_, fun b hb => ?_⟩
  · have := j8 b hb.1 hb.2
    exact ⟨hb.2, this.1, this.2.1, this.2.2.1, this.2.2.2.1, this.2.2.2.2.1, this.2.2.2.2.2.2.1⟩
  · rcases hM' b hb with h | h
    · exact j8 b h hwb
    · have := j4.lt
      refine ⟨by omega, by omega, by omega, by omega, by omega, by omega, fun k => ?_, fun k => ?_⟩
      · have := j1.qa.lt b k; omega
      · have := j5.lt k; omega
  · rcases hM' b hb with h | h
    · have := j9 b h; omega
    · omega
set_option maxRecDepth 100000 in
set_option maxHeartbeats 4000000 in
/-- one round of the loop over a node's edges -/
theorem search_edge {ρ : Env} {W : World} {ds : List Nat} {u p15 m : Nat} {dd : Int} {l pre : List Int} {M : Nat → Prop} {y : Int} {node : Int} (hG : GraphAt w (fun b => b < hs w) q E (insL E n) (outsL E n)) (hn : n ≤ 10) (hE : ∀ e ∈ E, okEdge n e) (hwt : OkW wt) (hl : E.length ≤ 1000000)
    (hW : Nums w (fun b => b < hs w) ow ((List.range E.length).map wt)) (hlm : ∀ y ∈ l, ∃ (i : Nat) (e : Edg), E[i]? = some e ∧ e.src = (u : Int) ∧ y = (i : Int)) (hu : u < n) (huf : dd ≠ FarT) (h15 : p11 < p15)
    (hρ : L9.map ρ = vals6 p4 p5 p7 p9 p11 q ++ [.pointer (some ⟨p15, 0, none⟩), .int .i64 node, .int .i64 y]) (j : RoundJ w q E n s wt ow cw p4 p5 p7 p9 p11 bd u p15 dd l ds m pre M W) (hy : y ∈ l) :
    vc Try.prog (at50 Try.f50.body pC) an50C (fun e _ w' => match e with | .normal => Only (fun b => ¬ M b) W w' ∧ RoundJ w q E n s wt ow cw p4 p5 p7 p9 p11 bd u p15 dd l ds m (pre ++ [y]) M w' | _ => False) ρ W := by
  obtain ⟨D', xs', S', j1, j2, j3, j4, j5, j6, j7, j8, j9⟩ := j
  obtain ⟨i0, e0, he, hsr, rfl⟩ := hlm y hy
  have e := Env.fill_self ρ L9
  rw [hρ] at e
  have lo := j1.lo
  have hi := j1.hi
  have h := edge_step (K := fun w' => Only (fun b => ¬ M b) W w' ∧ RoundJ w q E n s wt ow cw p4 p5 p7 p9 p11 bd u p15 dd l ds m (pre ++ [(i0 : Int)]) M w') (node := node) (rem := l.filter fun z => decide (z ∉ pre ++ [(i0 : Int)])) ρ hG hn (hE _ (List.mem_of_getElem? he)) hwt hl hW j1 (j2.imp fun i v e h => ⟨e, ?_⟩) (by rw [j3]; exact j4) ⟨h15, j7⟩ hu (by rw [j3]; exact huf) he hsr
    fun D'' xs'' S'' w'' k1 k2 k3 k4 k5 k6 => ⟨k4.mono fun b _ h hm => ?_, D'', xs'', S'', k1, k2.imp fun i v e h => ⟨e, ?_⟩, k3.trans j3, j4.keep k4 fun h => ?_, j5.keep k4 (fun r hr h => ?_) k5, by omega, fun h => ?_, fun b hb hwb => ?_, fun b hb => ?_⟩
  · rw [show (ρ.fill [4, 5, 7, 9, 11, 14, 15, 16, 17] [(.pointer (some ⟨p4, 0, none⟩)), (.pointer (some ⟨p5, 0, none⟩)), (.pointer (some ⟨p7, 0, none⟩)), (.pointer (some ⟨p9, 0, none⟩)), (.pointer (some ⟨p11, 0, none⟩)), (.func (.func 67) #[.pointer (some ⟨q, 0, none⟩)] #[]), (.pointer (some ⟨p15, 0, none⟩)), (.int .i64 node), (.int .i64 (i0 : Int))]) = ρ from e] at h
    exact h
  · by_cases e' : (i : Int) = (i0 : Int)
    · rw [e']; exact .head _
    · refine .tail _ (List.mem_filter.2 ⟨h.1, decide_eq_true fun k => ?_⟩)
      rcases List.mem_append.1 k with k | k
      · exact h.2 k
      · exact e' (List.mem_singleton.1 k)
  · rcases h with h | h
    · have := j1.sp b h
      exact (j8 b hm (by omega)).2.2.2.2.2.2.1 h
    · rw [h] at hm; exact (j8 bd hm (by omega)).2.2.2.2.1 rfl
  · have := List.mem_filter.1 h
    exact ⟨this.1, of_decide_eq_true this.2⟩
  · rcases h with h | h
    · exact j7 h
    · omega
  · rcases h with h | h
    · exact (j5.2 r hr).2.2 h
    · rw [h] at hr; exact j5.noRow j1.rd hr
  · rcases k5 _ h with k | k
    · exact j7 k
    · have := j4.lt; omega
  · have := j8 b hb hwb
    refine ⟨this.1, this.2.1, this.2.2.1, this.2.2.2.1, this.2.2.2.2.1, this.2.2.2.2.2.1, fun k => ?_, this.2.2.2.2.2.2.2⟩
    rcases k5 b k with k | k
    · exact this.2.2.2.2.2.2.1 k
    · have := j9 b hb; omega
  · have := j9 b hb
    have := k4.size
    omega
end
end Go.Proofs.Ytcaokpglbolkcaa
