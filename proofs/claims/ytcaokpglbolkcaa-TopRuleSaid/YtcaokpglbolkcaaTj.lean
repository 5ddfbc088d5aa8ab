/- search: the whole; From, farthest. -/
import Derived.Test.YtcaokpglbolkcaaTh
namespace Go.Proofs.Ytcaokpglbolkcaa
open Go Go.Nf Go.RowKit

attribute [local irreducible] vc vcN
set_option maxRecDepth 100000 in
set_option maxHeartbeats 4000000 in
/-- a node's edges, one by one -/
theorem search_range {w : World} {q : Nat} {E : List Edg} {n : Nat} {ow : Option Addr} {cw : Nat} {wt : Nat → Int} {s : Int} {p4 p5 p7 p9 p11 bd : Nat} {oo : Option Addr} {co u : Nat} {D : List Int} {S : Nat → Prop} {ds : List Nat} {m : Nat} {W : World} {a : Act} {ρ : Env} {W0 : World} {Q : Exit → Act → World → Prop}
    (hG : GraphAt w (fun b => b < hs w) q E (insL E n) (outsL E n)) (hq3 : Mat w (fun b => b < hs w) oo (outsL E n)) (hn : n ≤ 10) (hE : ∀ e ∈ E, okEdge n e) (hwt : OkW wt) (hl : E.length ≤ 1000000)
    (hW : Nums w (fun b => b < hs w) ow ((List.range E.length).map wt)) (hu : u < n) (F : Fits 122 (ds.map mkD) a ρ) (mlt : ∀ r ∈ ds, r < hs W0) (slt : ∀ c, S c → c < hs W0) (h : PopK1 w q E n s wt ow cw p4 p5 p7 p9 p11 bd oo co u D S ds m (hs W0) ([4, 5, 7, 9, 11, 14, 15, 16, 75].map ρ) W)
    (hQ : ∀ (ds' : List Nat) (ρ' : Env) (D' xs' : List Int) (S' : Nat → Prop) (w' : World) (a' : Act), Fits 122 (ds'.map mkD) a' ρ' → L6.map ρ' = vals6 p4 p5 p7 p9 p11 q → St w q ow E.length cw n p4 p5 p7 p9 p11 bd D' xs' S' w' → Lab E wt n s D' xs' 0 (fun _ => False) → Marks w ds' S' w' → 2 * capS D' + xs'.length < m → Q .normal a' w') :
    (seqR 3 (at50 Try.f50.body pB)).wpIn (FW none) 0 Try.prog Q a W := by
  obtain ⟨p15, cl, cn, ys, hρ4, st4, lab4, mk4, hk, r15, rcl, rcn, huf, h15, s15, z15, ltl, ltn⟩ := h
  rw [shapeB]
  simp only [vals6, List.map_cons, List.map_nil, List.cons_append, List.nil_append, List.cons.injEq, and_true] at hρ4
  obtain ⟨h4, h5, h7, h9, h11, h14, h15', h16, h75⟩ := hρ4
  have hG4 := st4.grow
  have hlt : (outsL E n)[u]? = some (idxs (fun e => decide (e.src = (u : Int))) E 0) := outsL_get hu
  obtain ⟨l, hl'⟩ : ∃ l, l = idxs (fun e => decide (e.src = (u : Int))) E 0 := ⟨_, rfl⟩
  rw [← hl'] at lab4 hlt
  have hlm : ∀ y ∈ l, ∃ (i : Nat) (e : Edg), E[i]? = some e ∧ e.src = (u : Int) ∧ y = (i : Int) := fun y hy => by
    rw [hl', idxs_mem] at hy
    obtain ⟨i, e, h1, h2, h3⟩ := hy
    exact ⟨i, e, h1, of_decide_eq_true h2, by rw [h3, Nat.zero_add]⟩
  have hll : l.length ≤ 1000000 := by
    rw [hl']
    have : ∀ (p : Edg → Bool) (E : List Edg) (i : Nat), (idxs p E i).length ≤ E.length := fun p E => by
      induction E with
      | nil => intro i; simp [idxs]
      | cons e E ih =>
        intro i
        have := ih (i + 1)
        simp only [idxs]
        split <;> simp <;> omega
    exact Nat.le_trans (this _ _ _) hl
  clear hl'
  refine wpIn_block ((wpIn_wide (n := 0)).2 ?_)
  refine wp_rangeFuncB (B := hs w) (g := .tmp 75) (p := 76) (gf := 79) (lb := #[.pointer (some ⟨cn, 0, none⟩), .pointer (some ⟨cl, 0, none⟩)]) (all := l) (Val := ValI l) (M0 := fun b => b < hs w ∨ b = cn ∨ b = cl) (by rw [F.eval]; exact h75) (by kernel_rfl) hG4.size
    (enum_gives (hq3.grow hG4) rcl rcn hlt (by rw [outsL_len]; omega) hll) (fun x v M W k o h _ _ => h) (fun x v M W k o o' h _ _ => h)
    (RoundJ w q E n s wt ow cw p4 p5 p7 p9 p11 bd u p15 (gD D u) l ds m) (fun _ _ _ _ => False) (fun pre M M' W W' j g hM => j.step g hM) (fun _ _ _ _ _ h _ => h) ?_ ?_
    (fun v a' => ∃ ρ' : Env, Fits 122 [] a' ρ' ∧ L9.map ρ' = vals6 p4 p5 p7 p9 p11 q ++ [.pointer (some ⟨p15, 0, none⟩), .int .i64 (u : Int), v]) ?_ ?_ ?_ ?_
  · have lo := st4.lo
    have hi := st4.hi
    refine ⟨D, ys, S, st4, lab4.imp fun i v e h => ⟨e, h, by simp⟩, rfl, r15, mk4, hk, s15, fun b hb hwb => ?_, fun b hb => ?_⟩
    · have hcl : b = cn ∨ b = cl := by
        rcases hb with h | h | h
        · omega
        · exact .inl h
        · exact .inr h
      refine ⟨by omega, by omega, by omega, by omega, by omega, by omega, fun k => ?_, fun k => ?_⟩
      · have := slt b k; omega
      · have := mlt b k; omega
    · rcases hb with h | h | h
      · have := hG4.size; omega
      · rw [h]; exact rcn.lt
      · rw [h]; exact rcl.lt
  · rintro b (h | h | h)
    · have := hG4.size; omega
    · rw [h]; exact rcn.lt
    · rw [h]; exact rcl.lt
  · intro l0 v W K hK
    have Fp : Fits 122 [] { tmps := a.tmps.setIfInBounds 76 v, defers := [] } (ρ.put (some 76) v) := by
      have F' : Fits 122 [] { a with defers := [] } ρ := ⟨F.env, F.size, rfl⟩
      exact F'.put (dst := some 76) rfl v
    have e := Env.fill_self (ρ.put (some 76) v) [4, 5, 7, 9, 11, 14, 15, 16, 76]
    have em : [4, 5, 7, 9, 11, 14, 15, 16, 76].map (ρ.put (some 76) v) = vals6 p4 p5 p7 p9 p11 q ++ [.pointer (some ⟨p15, 0, none⟩), .int .i64 (u : Int), v] := by
      show [ρ 4, ρ 5, ρ 7, ρ 9, ρ 11, ρ 14, ρ 15, ρ 16, v] = _
      rw [h4, h5, h7, h9, h11, h14, h15', h16]
      rfl
    rw [em] at e
    have h := nf50S (ρ.put (some 76) v) p4 p5 p7 p9 p11 q p15 (u : Int) v W (fun vs w' => vs = vals6 p4 p5 p7 p9 p11 q ++ [.pointer (some ⟨p15, 0, none⟩), .int .i64 (u : Int), v] ∧ w' = W) ⟨rfl, rfl⟩
    rw [show ((ρ.put (some 76) v).fill [4, 5, 7, 9, 11, 14, 15, 16, 76] [(.pointer (some ⟨p4, 0, none⟩)), (.pointer (some ⟨p5, 0, none⟩)), (.pointer (some ⟨p7, 0, none⟩)), (.pointer (some ⟨p9, 0, none⟩)), (.pointer (some ⟨p11, 0, none⟩)), (.func (.func 67) #[.pointer (some ⟨q, 0, none⟩)] #[]), (.pointer (some ⟨p15, 0, none⟩)), (.int .i64 (u : Int)), v]) = ρ.put (some 76) v from e] at h
    refine stageS (K := fun vs w' => vs = vals6 p4 p5 p7 p9 p11 q ++ [.pointer (some ⟨p15, 0, none⟩), .int .i64 (u : Int), v] ∧ w' = W) Fp h ?_
    rintro ρ' w' a' F' ⟨hq1', rfl⟩
    exact hK a' ⟨ρ', F', hq1'⟩
  · rintro l0 pre y v M W a' ⟨ρ', F', hρ'⟩ j ⟨rfl, hy⟩
    exact stageC (K := fun w' => Only (fun b => ¬ M b) W w' ∧ RoundJ w q E n s wt ow cw p4 p5 p7 p9 p11 bd u p15 (gD D u) l ds m (pre ++ [y]) M w') F' (search_edge hG hn hE hwt hl hW hlm hu huf h15 hρ' j hy) fun ρ'' w'' a'' F'' hq => hq
  · rintro D1 M W hD hMD ⟨D', xs', S', j1, j2, j3, j4, j5, j6, j7, j8, j9⟩ hdef
    have hwD : hs w ≤ D1 := by have := hG4.size; omega
    have hD1 := j8 D1 hMD hwD
    refine hQ (D1 :: ds) ρ D' xs' S' W _ ⟨F.env, F.size, by rw [F.defers]; rfl⟩ ?_ j1 (j2.imp fun i v e h => absurd h.1 h.2) ⟨List.nodup_cons.2 ⟨hD1.2.2.2.2.2.2.2, j5.1⟩, fun r hr => ?_⟩ j6
    · show [ρ 4, ρ 5, ρ 7, ρ 9, ρ 11, ρ 14] = _
      rw [h4, h5, h7, h9, h11, h14]
      rfl
    · rcases List.mem_cons.1 hr with rfl | hr
      · exact ⟨hdef, hwD, hD1.2.2.2.2.2.2.1⟩
      · exact j5.2 r hr
  · rintro D1 c m' M W - - - h
    exact h.elim
set_option maxRecDepth 100000 in
set_option maxHeartbeats 4000000 in
theorem search_c {w : World} {q : Nat} {E : List Edg} {n : Nat} {A B C : Nat → Prop} (hG : GraphAt w A q E (insL E n) (outsL E n)) (hn : n ≤ 10) (hE : ∀ e ∈ E, okEdge n e) (hl : E.length ≤ 1000000) (ow : Option Addr) (cw : Nat) (wt : Nat → Int) (hwt : OkW wt)
    (hW : Nums w B ow ((List.range E.length).map wt)) (oe : Option Addr) (ce : Nat) (s : Int) (hsrc : Nums w C oe [s]) :
    Calls Try.prog 50 #[.pointer (some ⟨q, 0, none⟩), .slice ow E.length cw, .slice oe 1 ce, .bool true] w (Found w E wt n s) := by
  have hG := hG.low
  have hW := Nums.low hW
  refine (callsIn_wide (n := 0)).1 (callsIn_of_wp_marks (F := Fence.wide) Try.func50 body50 trivial ?_)
  refine stageP (d := []) (r := none) (fits_args (args := #[.pointer (some ⟨q, 0, none⟩), .slice ow E.length cw, .slice oe 1 ce, .bool true]) (n := 122) (by simp)) (search_start (wt := wt) hG hn hsrc) ?_
  rintro ρ1 w1 a1 F1 ⟨p4, p5, p7, p9, p11, bd, D0, xs0, S0, hρ1, st1, lab1⟩
  rw [shape7]
  obtain ⟨oe', ce', oo, co, oi, ci, hq1, hq2, hq3, hq4, hq5⟩ := hG.ex
  refine wpIn_seq (wpIn_block (wp_loop_n (r := none) (fun k a' w' => ∃ ds ρ D xs S, Fits 122 (ds.map mkD) a' ρ ∧ L6.map ρ = vals6 p4 p5 p7 p9 p11 q ∧ St w q ow E.length cw n p4 p5 p7 p9 p11 bd D xs S w' ∧ Lab E wt n s D xs 0 (fun _ => False) ∧ Marks w ds S w' ∧ k = 2 * capS D + xs.length) ?_
    ⟨[], ρ1, D0, xs0, S0, F1, hρ1, st1, lab1, ⟨List.nodup_nil, fun r hr => by cases hr⟩, rfl⟩))
  rintro k a2 w2 ⟨ds, ρ, D, xs, S, F, hρ, st, lab, mk, rfl⟩
  have eρ := Env.fill_self ρ L6
  rw [hρ] at eρ
  obtain ⟨ox, cx, qr, qo, qi⟩ := st.qa.ex
  have hA := nf50A ρ p4 p5 p7 p9 p11 q w2 (fun vs w' => vs = vals6 p4 p5 p7 p9 p11 q ∧ w' = w2 ∧ xs ≠ []) (fun vs w' => vs = vals6 p4 p5 p7 p9 p11 q ∧ w' = w2 ∧ xs = []) ⟨_, _, _, qr.cell rfl, fun h => ⟨rfl, rfl, fun e => by rw [e] at h; exact absurd (dT h) (by decide)⟩, fun h => ⟨rfl, rfl, by
      cases xs with
      | nil => rfl
      | cons x r => exact absurd (dF h) (by simp; try omega)⟩⟩
  rw [show (ρ.fill L6 [(.pointer (some ⟨p4, 0, none⟩)), (.pointer (some ⟨p5, 0, none⟩)), (.pointer (some ⟨p7, 0, none⟩)), (.pointer (some ⟨p9, 0, none⟩)), (.pointer (some ⟨p11, 0, none⟩)), (.func (.func 67) #[.pointer (some ⟨q, 0, none⟩)] #[])]) = ρ from eρ] at hA
  refine wpIn_seq (stageA (K1 := fun vs w' => vs = vals6 p4 p5 p7 p9 p11 q ∧ w' = w2 ∧ xs ≠ []) (K2 := fun vs w' => vs = vals6 p4 p5 p7 p9 p11 q ∧ w' = w2 ∧ xs = []) F hA ?_ ?_)
  rotate_left
  · rintro ρ3 w3 a3 F3 ⟨h1, rfl, rfl⟩
    show Exit.inBlock 4 (Exit.then (fun a w' => (at50 Try.f50.body pD).wpIn (FW none) 0 Try.prog (bodyPostM Fence.wide 0 Try.prog Try.f50 (Found w E wt n s)) a w') (bodyPostM Fence.wide 0 Try.prog Try.f50 (Found w E wt n s))) (.exit 4) a3 w3
    exact inBlock_eq' (search_fin hn hwt F3 h1 st lab mk)
  rintro ρ3 w3 a3 F3 ⟨hρ3, rfl, hne⟩
  obtain ⟨x, rest, rfl⟩ : ∃ x rest, xs = x :: rest := by
    cases xs with
    | nil => exact absurd rfl hne
    | cons x rest => exact ⟨x, rest, rfl⟩
  obtain ⟨u, d, hu, hx, hud, hd0, hdm⟩ := lab.keys x (.head _)
  show (Code.block 5 (at50 Try.f50.body pB)).wpIn (FW none) 0 Try.prog _ a3 w3
  refine wpIn_block (stageB F3 (search_pop hq1 hn hρ3 st lab mk hu hx hud hd0 hdm) ?_ ?_)
  · intro ρ4 w4 a4 F4 hk
    exact search_range hG hq3 hn hE hwt hl hW hu F4 (fun r hr => mk.lt hr) (fun c hc => st.qa.lt c hc) hk fun ds' ρ' D' xs' S' w' a' h1 h2 h3 h4 h5 h6 => ⟨_, h6, ds', ρ', D', xs', S', h1, h2, h3, h4, h5, rfl⟩
  · rintro ρ4 w4 a4 F4 ⟨h1, D', xs', S', h2, h3, h4, h6⟩
    exact inBlock_eq' ⟨_, h6, ds, ρ4, D', xs', S', F4, h1, h2, h3, h4, rfl⟩
/-- the distances from one node -/
theorem from_c {w : World} {q : Nat} {E : List Edg} {n : Nat} {A B C : Nat → Prop} (hG : GraphAt w A q E (insL E n) (outsL E n)) (hn : n ≤ 10) (hE : ∀ e ∈ E, okEdge n e) (hl : E.length ≤ 1000000) (o : Option Addr) (c : Nat) (ts : List Int) (ht : Nums w B o ts)
    (oe : Option Addr) (ce : Nat) (s : Int) (hsrc : Nums w C oe [s]) : Calls Try.prog 30 #[.pointer (some ⟨q, 0, none⟩), .slice o ts.length c, .slice oe 1 ce] w (Found w E (wOf ts) n s) := by
  refine nf30 q o ts.length c oe 1 ce w _ ((times51_c hG hl o c ts ht).mono ?_)
  rintro _ w2 ⟨b, rfl, r2, hb, g2⟩
  have hN : Nums w2 (fun b' => b' < hs w2) (some ⟨b, 0, none⟩) ((List.range E.length).map (wOf ts)) := by
    have h := (r2.own (B := 0) (size := 1) (Nat.zero_le _) (n := E.length) (by rw [intsV_len]; simp) (by simp only [maxLen]; omega)).nums
    exact Nums.low h
  refine ⟨_, _, _, rfl, (search_c (hG.grow g2) hn hE hl (some ⟨b, 0, none⟩) E.length (wOf ts) (fun i => wOf_bd ts i) hN oe ce s (hsrc.grow g2)).mono ?_⟩
  rintro _ w7 ⟨bd, D, rfl, h1, h2, h4, h3⟩
  exact ⟨_, _, _, rfl, bd, D, rfl, h1, h2, Nat.le_trans g2.size h4, g2.trans' h3⟩
/-- the farthest of some nodes -/
def farD (D : List Int) (nodes : List Int) : Int → Int
  | m => match nodes with
    | [] => m
    | x :: l => if x < 0 ∨ (D.length : Int) ≤ x then FarT else farD D l (if m < gD D x.toNat then gD D x.toNat else m)
def farthest (D nodes : List Int) : Int := if nodes = [] then FarT else farD D nodes 0
theorem farD_drop {D nodes : List Int} {i : Nat} (h : i < nodes.length) (m : Int) : farD D (nodes.drop i) m = if nodes[i] < 0 ∨ (D.length : Int) ≤ nodes[i] then FarT else farD D (nodes.drop (i + 1)) (if m < gD D nodes[i].toNat then gD D nodes[i].toNat else m) := by
  rw [List.drop_eq_getElem_cons h]
  rfl
set_option maxHeartbeats 1000000 in
theorem farthest_c (o : Option Addr) (c : Nat) (D : List Int) (o' : Option Addr) (c' : Nat) (nodes : List Int) (hl : nodes.length ≤ 1000000) (w : World) {A B : Nat → Prop} (h : Nums w A o D) (h' : Nums w B o' nodes) :
    Calls Try.prog 31 #[.slice o D.length c, .slice o' nodes.length c'] w fun e w' => e = .returned (.int .i64 (farthest D nodes)) ∧ Grow w w' := by
  refine nf31 o D.length c o' nodes.length c' w _ ⟨fun h0 => ⟨ret_int (by
    have := dT h0
    unfold farthest
    rw [if_pos (List.length_eq_zero_iff.1 (by omega))]), Only.refl _ _⟩, fun hne => ?_⟩
  have hne : nodes ≠ [] := fun e => by subst e; exact dF hne rfl
  refine ⟨fun k m x w' => ∃ i : Nat, x = (i : Int) ∧ i ≤ nodes.length ∧ k = nodes.length - i ∧ farD D nodes 0 = farD D (nodes.drop i) m ∧ w' = w, ⟨_, 0, rfl, Nat.zero_le _, rfl, rfl, rfl⟩, ?_⟩
  rintro k _ _ m x ⟨i, rfl, hi, rfl, hI, rfl⟩
  have ef : farthest D nodes = farD D (nodes.drop i) m := by unfold farthest; rw [if_neg hne, hI]
  refine ⟨fun hlt => ?_, fun hge => ⟨ret_int (by
    rw [ef, List.drop_eq_nil_of_le (by have := dF hge; omega)]; rfl), Only.refl _ _⟩⟩
  have hlt : i < nodes.length := by have := dT hlt; omega
  rw [farD_drop hlt] at ef hI
  obtain ⟨a, ha, hc⟩ := h'.get hlt
  refine ⟨a, ha, ⟨by omega, by omega⟩, _, hc, fun h1 => ⟨ret_int (by rw [ef, if_pos (.inl (dT h1))]), Only.refl _ _⟩, fun h1 => ⟨fun h2 => ⟨ret_int (by rw [ef, if_pos (.inr (dT h2))]), Only.refl _ _⟩, fun h2 => ?_⟩⟩
  have h1 := dF h1
  have h2 := dF h2
  rw [if_neg (by omega)] at hI
  obtain ⟨v, hv⟩ : ∃ v : Nat, nodes[i] = (v : Int) := ⟨nodes[i].toNat, by omega⟩
  rw [hv] at hI h2 ⊢
  obtain ⟨a', ha', hc'⟩ := h.get (j := v) (by omega)
  rw [Int.toNat_natCast, gD_at (by omega)] at hI
  exact ⟨a', ha', ⟨by omega, by omega⟩, _, hc', _, by omega, i + 1, by rw [wr (by omega)]; omega, hlt, rfl, hI, rfl⟩
end Go.Proofs.Ytcaokpglbolkcaa
