/- The graph: New, build, TravelTimes. -/
import Derived.Test.YtcaokpglbolkcaaTb
namespace Go.Proofs.Ytcaokpglbolkcaa
open Go Go.Nf Go.RowKit

/-! ### what is read lies in blocks that stand -/
theorem Nums.low {w : World} {A : Nat → Prop} {o : Option Addr} {xs : List Int} (h : Nums w A o xs) : Nums w (fun b => b < hs w) o xs := fun j v hj => by
  obtain ⟨a, ha, -, hc⟩ := h j v hj
  refine ⟨a, ha, ?_, hc⟩
  have := cell_block hc
  rwa [ChangeShapes.block_add] at this
theorem Mat.low {w : World} {A : Nat → Prop} {o : Option Addr} {xs : List (List Int)} (h : Mat w A o xs) : Mat w (fun b => b < hs w) o xs := fun j v hj => by
  obtain ⟨a, oi, ci, ha, -, hc, hn⟩ := h j v hj
  refine ⟨a, oi, ci, ha, ?_, hc, Nums.low hn⟩
  have := cell_block hc
  rwa [ChangeShapes.block_add] at this
theorem Recs.low {w : World} {A : Nat → Prop} {o : Option Addr} {k : Nat} {rows : List (List Value)} (h : Recs w A o k rows) (hne : ∀ r ∈ rows, r ≠ []) : Recs w (fun b => b < hs w) o k rows := fun i row hi => by
  obtain ⟨a, ha, -, hc⟩ := h i row hi
  refine ⟨a, ha, ?_, hc⟩
  cases hr : row with
  | nil => exact absurd hr (hne row (List.mem_of_getElem? hi))
  | cons v l =>
    have := cell_block (hc 0 v (by rw [hr]; rfl))
    rwa [ChangeShapes.block_add, ChangeShapes.block_add] at this
theorem encs_ne {α : Type} {f : α → List Value} {k : Nat} (hk : ∀ m, (f m).length = k + 1) (l : List α) : ∀ r ∈ l.map f, r ≠ [] := fun r hr e => by
  obtain ⟨x, -, rfl⟩ := List.mem_map.1 hr
  have := hk x
  rw [e] at this
  cases this
theorem GraphAt.low {w : World} {A : Nat → Prop} {q : Nat} {E : List Edg} {ins outs : List (List Int)} (h : GraphAt w A q E ins outs) : GraphAt w (fun b => b < hs w) q E ins outs := by
  obtain ⟨oe, ce, oo, co, oi, ci, h1, h2, h3, h4, h5⟩ := h.ex
  exact ⟨oe, ce, oo, co, oi, ci, h1, Recs.low h2 (encs_ne encE_len E), Mat.low h3, Mat.low h4, h1.lt⟩
theorem Incs.low {w : World} {A : Nat → Prop} {o : Option Addr} {l : List Inc} (h : Incs w A o l) : Incs w (fun b => b < hs w) o l := ⟨Recs.low h.1 (encs_ne encInc_len l), fun x hx => Nums.low (h.2 x hx)⟩
theorem Uns.low {w : World} {A : Nat → Prop} {o : Option Addr} {l : List Un} (h : Uns w A o l) : Uns w (fun b => b < hs w) o l := Recs.low h (encs_ne encUn_len l)

/-! ### the edges of each node -/
def idxs (p : Edg → Bool) : List Edg → Nat → List Int
  | [], _ => []
  | e :: l, i => if p e then (i : Int) :: idxs p l (i + 1) else idxs p l (i + 1)
theorem idxs_append (p : Edg → Bool) (e : Edg) : ∀ (l : List Edg) (i : Nat), idxs p (l ++ [e]) i = idxs p l i ++ if p e then [((i + l.length : Nat) : Int)] else []
  | [], i => by simp only [List.nil_append, idxs, List.length_nil, Nat.add_zero]
  | x :: l, i => by
    simp only [List.cons_append, idxs, idxs_append p e l (i + 1), List.length_cons]
    have : i + 1 + l.length = i + (l.length + 1) := by omega
    rw [this]
    split <;> rfl
theorem idxs_mem (p : Edg → Bool) : ∀ (l : List Edg) (i : Nat) (x : Int), x ∈ idxs p l i ↔ ∃ (k : Nat) (e : Edg), l[k]? = some e ∧ p e = true ∧ x = ((i + k : Nat) : Int)
  | [], i, x => by simp [idxs]
  | y :: l, i, x => by
    have ih := idxs_mem p l (i + 1) x
    have key : (∃ (k : Nat) (e : Edg), (y :: l)[k]? = some e ∧ p e = true ∧ x = ((i + k : Nat) : Int)) ↔ (p y = true ∧ x = (i : Int)) ∨ ∃ (k : Nat) (e : Edg), l[k]? = some e ∧ p e = true ∧ x = ((i + 1 + k : Nat) : Int) := by
      constructor
      · rintro ⟨k, e, h1, h2, h3⟩
        cases k with
        | zero => cases h1; exact .inl ⟨h2, by simpa using h3⟩
        | succ k => exact .inr ⟨k, e, by simpa using h1, h2, by rw [h3]; congr 1; omega⟩
      · rintro (⟨h1, h2⟩ | ⟨k, e, h1, h2, h3⟩)
        · exact ⟨0, y, rfl, h1, by simpa using h2⟩
        · exact ⟨k + 1, e, by simpa using h1, h2, by rw [h3]; congr 1; omega⟩
    rw [key, ← ih]
    simp only [idxs]
    split
    · rename_i h
      simp [h]
    · rename_i h
      simp [h]
theorem idxs_len (p : Edg → Bool) : ∀ (l : List Edg) (i : Nat), (idxs p l i).length ≤ l.length
  | [], _ => Nat.le_refl _
  | x :: l, i => by
    have := idxs_len p l (i + 1)
    simp only [idxs, List.length_cons]
    split
    · simp only [List.length_cons]; omega
    · omega
def outsL (E : List Edg) (n : Nat) : List (List Int) := (List.range n).map fun v : Nat => idxs (fun e => decide (e.src = (v : Int))) E 0
def insL (E : List Edg) (n : Nat) : List (List Int) := (List.range n).map fun v : Nat => idxs (fun e => decide (e.dst = (v : Int))) E 0
theorem outsL_len (E : List Edg) (n : Nat) : (outsL E n).length = n := by simp [outsL]
theorem insL_len (E : List Edg) (n : Nat) : (insL E n).length = n := by simp [insL]
theorem outsL_get {E : List Edg} {n v : Nat} (h : v < n) : (outsL E n)[v]? = some (idxs (fun e => decide (e.src = (v : Int))) E 0) := by simp [outsL, h]
theorem insL_get {E : List Edg} {n v : Nat} (h : v < n) : (insL E n)[v]? = some (idxs (fun e => decide (e.dst = (v : Int))) E 0) := by simp [insL, h]
theorem lists_step (f : Edg → Int) (E : List Edg) (e : Edg) (n s : Nat) (hs : f e = (s : Int)) (h : s < n) :
    ((List.range n).map fun v : Nat => idxs (fun e => decide (f e = (v : Int))) (E ++ [e]) 0) = ((List.range n).map fun v : Nat => idxs (fun e => decide (f e = (v : Int))) E 0).set s (idxs (fun e => decide (f e = (s : Int))) E 0 ++ [(E.length : Int)]) := by
  apply List.ext_getElem?
  intro v
  by_cases hv : v < n
  · rw [List.getElem?_map, List.getElem?_range hv, Option.map_some, idxs_append]
    by_cases e1 : s = v
    · subst e1
      rw [List.getElem?_set_self (by simpa using hv), if_pos (by rw [decide_eq_true hs])]
      simp
    · rw [List.getElem?_set_ne e1, List.getElem?_map, List.getElem?_range hv, Option.map_some, if_neg (by rw [hs]; simp; omega), List.append_nil]
  · rw [List.getElem?_eq_none (by simp; omega), List.getElem?_eq_none (by simp; omega)]
theorem outsL_step {E : List Edg} {e : Edg} {n s : Nat} (hs : e.src = (s : Int)) (h : s < n) (hl : s < (outsL E n).length) : outsL (E ++ [e]) n = (outsL E n).set s ((outsL E n)[s] ++ [(E.length : Int)]) := by
  have := lists_step (·.src) E e n s hs h
  have hg := outsL_get (E := E) h
  rw [List.getElem?_eq_getElem hl] at hg
  unfold outsL at *
  rw [this, Option.some.inj hg]
theorem insL_step {E : List Edg} {e : Edg} {n s : Nat} (hs : e.dst = (s : Int)) (h : s < n) (hl : s < (insL E n).length) : insL (E ++ [e]) n = (insL E n).set s ((insL E n)[s] ++ [(E.length : Int)]) := by
  have := lists_step (·.dst) E e n s hs h
  have hg := insL_get (E := E) h
  rw [List.getElem?_eq_getElem hl] at hg
  unfold insL at *
  rw [this, Option.some.inj hg]
theorem lists_nil (n : Nat) : outsL [] n = List.replicate n [] ∧ insL [] n = List.replicate n [] := by
  unfold outsL insL
  constructor <;> (apply List.ext_getElem?; intro v; by_cases h : v < n <;> simp [h, idxs])
theorem outs_row {E : List Edg} {n s : Nat} (hl : s < (outsL E n).length) : (outsL E n)[s].length ≤ E.length := by
  have hg := outsL_get (E := E) (n := n) (v := s) (by rw [outsL_len] at hl; exact hl)
  rw [List.getElem?_eq_getElem hl] at hg
  rw [Option.some.inj hg]
  exact idxs_len _ _ _
theorem ins_row {E : List Edg} {n s : Nat} (hl : s < (insL E n).length) : (insL E n)[s].length ≤ E.length := by
  have hg := insL_get (E := E) (n := n) (v := s) (by rw [insL_len] at hl; exact hl)
  rw [List.getElem?_eq_getElem hl] at hg
  rw [Option.some.inj hg]
  exact idxs_len _ _ _

/-! ### build -/
theorem elem68 : Elem Try.prog 68 31 1 24 := elem_of (by kernel_rfl)
theorem zero31 : zeroL Try.prog 31 = some [.slice none 0 0] := by kernel_rfl
theorem rep_nils (n : Nat) : (List.replicate n [Value.slice none 0 0]).flatten = List.replicate n (.slice none 0 0) := by
  induction n with
  | zero => rfl
  | succ n ih => rw [List.replicate_succ, List.flatten_cons, ih, List.replicate_succ]; rfl
theorem make_nils {w : World} {n : Nat} {K : Value → World → Prop} (hn : n ≤ 4096) (h : ∀ w', Row w' (hs w) 31 (List.replicate n (.slice none 0 0)) → Grow w w' → hs w' = hs w + 1 → K (.slice (some ⟨hs w, 0, none⟩) n n) w') :
    RunOk Try.prog (Hold (Instr.makeSlice 68 (.int .i64 (n : Int)) (.int .i64 (n : Int)))) w K := by
  refine run_make_row elem68 zero31 (by omega) (by omega) (by omega) (by omega) fun w1 e1 => ?_
  rw [toNat_cast] at *
  refine h w1 ?_ (only_alloc e1) (hs_alloc e1)
  rw [← rep_nils]; exact Row.new e1
/-- what stands while the edges are taken up -/
structure Bt (w0 : World) (E : List Edg) (n q go gi : Nat) (i : Nat) (w : World) (Mo Mi : Nat → Prop) : Prop where
  g : Grow w0 w
  out : Grid w Mo 31 3 go (outsL (E.take i) n)
  inn : Grid w Mi 31 3 gi (insL (E.take i) n)
  lo : ∀ b, Mo b → hs w0 ≤ b
  li : ∀ b, Mi b → hs w0 ≤ b
  ap : ∀ b, Mo b → ¬ Mi b
  qo : ¬ Mo q
  qi : ¬ Mi q
theorem Bt.graph {w0 w : World} {E : List Edg} {n q go gi : Nat} {oe : Option Addr} {ce : Nat} {Mo Mi A : Nat → Prop} (h : Bt w0 E n q go gi E.length w Mo Mi) (hr : Row w q 70 [.slice oe E.length ce, .slice (some ⟨go, 0, none⟩) n n, .slice (some ⟨gi, 0, none⟩) n n]) (hE : Edgs w A oe E) :
    GraphAt w (fun b => b < hs w) q E (insL E n) (outsL E n) := by
  have h1 := grid_mat h.out
  have h2 := grid_mat h.inn
  rw [List.take_length] at h1 h2
  exact ⟨oe, ce, _, n, _, n, by rw [outsL_len, insL_len]; exact hr, Recs.low hE (encs_ne encE_len E), Mat.low h1, Mat.low h2, hr.lt⟩
set_option maxHeartbeats 8000000 in
theorem build_c (n : Nat) (oe : Option Addr) (ce : Nat) (E : List Edg) (hn : n ≤ 4096) (hl : E.length ≤ 16384) (hEn : ∀ e ∈ E, 0 ≤ e.src ∧ e.src < n ∧ 0 ≤ e.dst ∧ e.dst < n) (w : World) {A : Nat → Prop} (hE : Edgs w A oe E) :
    Calls Try.prog 18 #[.int .i64 (n : Int), .slice oe E.length ce] w fun e w' => ∃ q, e = .returned (.pointer (some ⟨q, 0, none⟩)) ∧ GraphAt w' (fun b => b < hs w') q E (insL E n) (outsL E n) ∧ Grow w w' := by
  refine nf18 (n : Int) oe E.length ce w _ fun w1 e1 => ⟨?_, ?_⟩
  · refine make_nils hn fun w4 r4 g4 z4 => ⟨_, _, _, rfl, make_nils hn fun w9 r9 g9 z9 => ⟨_, _, _, rfl, fun w13 e13 => ?_⟩⟩
    have z1 := hs_drew e1
    have gA : Grow w9 w13 := only_alloc e13
    have z13 := hs_alloc e13
    have g13 : Grow w w13 := (((only_drew (S := none') e1).trans' g4).trans' g9).trans' gA
    have s0 : Bt w E n (hs w9) (hs w1) (hs w4) 0 w13 (fun b => b = (hs w1)) (fun b => b = (hs w4)) := by
      refine ⟨g13, ?_, ?_, fun b e => by omega, fun b e => by omega, fun b e e' => by omega, fun e => by omega, fun e => by omega⟩
      · rw [List.take_zero, (lists_nil n).1]; exact (grid_new (r4.grow g9) (by decide)).grow gA
      · rw [List.take_zero, (lists_nil n).2]; exact (grid_new r9 (by decide)).grow gA
    refine ⟨fun k x w' => ∃ (i : Nat) (Mo Mi : Nat → Prop), x = (i : Int) ∧ i ≤ E.length ∧ k = E.length - i ∧ Bt w E n (hs w9) (hs w1) (hs w4) i w' Mo Mi ∧ Row w' (hs w9) 70 [.slice oe E.length ce, .slice (some ⟨(hs w1), 0, none⟩) n n, .slice (some ⟨(hs w4), 0, none⟩) n n], ⟨_, 0, _, _, rfl, Nat.zero_le _, rfl, s0, Row.new e13⟩, ?_⟩
    rintro k _ w19 x ⟨i, Mo, Mi, rfl, hi, rfl, s, rq⟩
    have ltq := rq.lt
    have zs := s.g.size
    refine ⟨fun hlt => ?_, fun hge => ⟨_, rfl, by
      have : i = E.length := by have := dF hge; omega
      subst this
      exact s.graph rq (hE.grow s.g), s.g⟩⟩
    have hlt : i < E.length := by have := dT hlt; omega
    have hat := List.getElem?_eq_getElem hlt
    have hok := hEn _ (List.getElem_mem hlt)
    obtain ⟨a, ha, -, hc, hc0⟩ := Recs.atE (hE.grow s.g) hat
    have htake := List.take_succ_eq_append_getElem hlt
    generalize hex : E[i] = e at *
    obtain ⟨sv, hsv⟩ : ∃ sv : Nat, e.src = (sv : Int) := ⟨e.src.toNat, by omega⟩
    obtain ⟨dv, hdv⟩ : ∃ dv : Nat, e.dst = (dv : Int) := ⟨e.dst.toNat, by omega⟩
    refine ⟨a, ha, ⟨by omega, by omega⟩, _, hc0 _ rfl, _, hc 1 _ rfl, _, hc 2 _ rfl, fun w27 e27 => ⟨(Row.new e27).there (by simp), fun w29 e29 w31 e31 => ?_⟩⟩
    have r29 := (Row.new e27).set e29
    have g27 : Grow w19 w27 := only_alloc e27
    have z27 := hs_alloc e27
    have g29 : Grow w19 w29 := g27.trans (only_set e29) fun b hb e => by omega
    have g31 : Grow w19 w31 := g29.trans' (only_drew e31)
    have r31 := r29.grow (only_drew e31)
    have lr31 := r31.lt
    have q31 := rq.grow g31
    have z31 := g31.size
    have hol : sv < (outsL (E.take i) n).length := by rw [outsL_len]; omega
    have hil : dv < (insL (E.take i) n).length := by rw [insL_len]; omega
    have horl := outs_row hol
    have hirl := ins_row hil
    have htl : (E.take i).length = i := by rw [List.length_take]; omega
    obtain ⟨o42, c44, hcell, -, -⟩ := grid_get (s.out.grow g31) hol
    refine ⟨_, _, _, q31.cell rfl, _, r31.cell rfl, _, _, _, q31.cell rfl, _, r31.cell rfl, _, rfl, ⟨by omega, by omega⟩, o42, _, c44, by
      show w31.cell? ((⟨(hs w1), 0, none⟩ : Addr).add (e.src.toNat * 1)) = _
      rw [hsv]; exact hcell, fun w45 e45 => ?_⟩
    have g45 : Grow w31 w45 := only_alloc e45
    have z45 := hs_alloc e45
    have k45 := g31.trans' g45
    have hsv' : (e.src).toNat * 1 = ((sv : Int)).toNat * 1 := by rw [hsv]
    have hdv' : (e.dst).toNat * 1 = ((dv : Int)).toNat * 1 := by rw [hdv]
    have lto : ∀ b, Mo b → b < hs w19 := s.out.lt
    have lti : ∀ b, Mi b → b < hs w19 := s.inn.lt
    have lgo := lto _ s.out.memg
    have lgi := lti _ s.inn.memg
    refine ⟨kept_onlyAdd g45 (by show (hs w1) < _; omega) (fun h => h), kept_only g45 lr31 (fun h => h), kept_only g45 q31.lt (fun h => h), kept_only g45 lr31 (fun h => h), kept_only g45 q31.lt (fun h => h), ?_⟩
    have out45 := s.out.grow k45
    have c45 : w45.cell? ((⟨(hs w1), 0, none⟩ : Addr).add ((sv : Int).toNat * 1)) = some (.slice o42 (outsL (E.take i) n)[sv].length c44) := cell_keep g45 (fun h => h) hcell
    refine grid_push elem31 out45 hol c45 (Row.new e45) (by simp only [maxLen]; omega) (by omega) fun o49 c51 w48 hth g48 hset => ⟨_, _, _, rfl, ?_⟩
    have g48' : Only Mo w31 w48 := g45.only.trans' g48
    have z48 := g48.size
    refine ⟨kept_only g48' lr31 (fun h => by have := lto _ h; omega), kept_only g48' q31.lt s.qo, _, rfl, ⟨by omega, by omega⟩, by rw [hsv']; exact hth, fun w53 e53 w55 e55 => ?_⟩
    obtain ⟨out53, g53⟩ := hset w53 (by rw [e53, hsv'])
    have z53 := g53.size
    have g53' : Only Mo w31 w53 := g45.only.trans' g53
    have g55 : Only Mo w31 w55 := g53'.trans' (only_drew e55)
    have z55 := hs_drew e55
    have r55 := r31.keep g55 (fun h => by have := lto _ h; omega)
    have q55 := q31.keep g55 s.qo
    have in55 := (s.inn.grow g31).keep g55 fun b hb h => s.ap b h hb
    obtain ⟨o66, c68, hcell2, -, -⟩ := grid_get in55 hil
    refine ⟨_, _, _, q55.cell rfl, _, r55.cell rfl, _, _, _, q55.cell rfl, _, r55.cell rfl, _, rfl, ⟨by omega, by omega⟩, o66, _, c68, by rw [hdv']; exact hcell2, fun w69 e69 => ?_⟩
    have g69 : Grow w55 w69 := only_alloc e69
    have z69 := hs_alloc e69
    refine ⟨kept_onlyAdd g69 (by show (hs w4) < _; omega) (fun h => h), kept_only g69 r55.lt (fun h => h), kept_only g69 q55.lt (fun h => h), kept_only g69 r55.lt (fun h => h), kept_only g69 q55.lt (fun h => h), ?_⟩
    have c69 : w69.cell? ((⟨(hs w4), 0, none⟩ : Addr).add ((dv : Int).toNat * 1)) = some (.slice o66 (insL (E.take i) n)[dv].length c68) := cell_keep g69 (fun h => h) hcell2
    refine grid_push elem31 (in55.grow g69) hil c69 (Row.new e69) (by simp only [maxLen]; omega) (by omega) fun o73 c75 w72 hth2 g72 hset2 => ⟨_, _, _, rfl, ?_⟩
    have g72' : Only Mi w55 w72 := g69.only.trans' g72
    have z72 := g72.size
    refine ⟨kept_only g72' r55.lt (fun h => by have := lti _ h; omega), kept_only g72' q55.lt s.qi, _, rfl, ⟨by omega, by omega⟩, by rw [hdv']; exact hth2, fun w77 e77 => ⟨_, by omega, i + 1, (fun b => Mo b ∨ (hs w45 ≤ b ∧ b < hs w53)), (fun b => Mi b ∨ (hs w69 ≤ b ∧ b < hs w77)), by rw [wr (by omega)]; omega, hlt, rfl, ?_, ?_⟩⟩
    · obtain ⟨in77, g77⟩ := hset2 w77 (by rw [e77, hdv'])
      have g77' : Only Mi w55 w77 := g69.only.trans' g77
      have z77 := g77.size
      refine ⟨?_, ?_, ?_, fun b hb => ?_, fun b hb => ?_, fun b hb hb' => ?_, fun h => ?_, fun h => ?_⟩
      · refine (s.g.trans' g31).trans ((g55.mono fun b _ hb => Or.inl hb).trans (g77'.mono fun b _ hb => Or.inr hb) fun b _ hb => hb) fun b hb h => ?_
        rcases h with h | h
        · have := s.lo b h; omega
        · have := s.li b h; omega
      · rw [htake, outsL_step hsv (by omega) hol, htl]
        have k := (out53.grow (only_drew e55)).keep g77' fun b hb h => by
          rcases hb with hb | hb
          · exact s.ap b hb h
          · have := lti b h; omega
        exact k
      · rw [htake, insL_step hdv (by omega) hil, htl]
        exact in77
      · rcases hb with hb | hb
        · exact s.lo b hb
        · omega
      · rcases hb with hb | hb
        · exact s.li b hb
        · omega
      · rcases hb with hb | hb <;> rcases hb' with hb' | hb'
        · exact s.ap b hb hb'
        · have := lto b hb; omega
        · have := lti b hb'; omega
        · omega
      · rcases h with h | h
        · exact s.qo h
        · omega
      · rcases h with h | h
        · exact s.qi h
        · omega
    · obtain ⟨in77, g77⟩ := hset2 w77 (by rw [e77, hdv'])
      exact q55.keep (g69.only.trans' g77) s.qi
  · refine make_nils hn fun w4 r4 g4 z4 => ⟨_, _, _, rfl, make_nils hn fun w9 r9 g9 z9 => ⟨_, _, _, rfl, fun w13 e13 => ?_⟩⟩
    have z1 := hs_drew e1
    have gA : Grow w9 w13 := only_alloc e13
    have z13 := hs_alloc e13
    have g13 : Grow w w13 := (((only_drew (S := none') e1).trans' g4).trans' g9).trans' gA
    have s0 : Bt w E n (hs w9) (hs w4) (hs w1) 0 w13 (fun b => b = (hs w4)) (fun b => b = (hs w1)) := by
      refine ⟨g13, ?_, ?_, fun b e => by omega, fun b e => by omega, fun b e e' => by omega, fun e => by omega, fun e => by omega⟩
      · rw [List.take_zero, (lists_nil n).1]; exact (grid_new r9 (by decide)).grow gA
      · rw [List.take_zero, (lists_nil n).2]; exact (grid_new (r4.grow g9) (by decide)).grow gA
    refine ⟨fun k x w' => ∃ (i : Nat) (Mo Mi : Nat → Prop), x = (i : Int) ∧ i ≤ E.length ∧ k = E.length - i ∧ Bt w E n (hs w9) (hs w4) (hs w1) i w' Mo Mi ∧ Row w' (hs w9) 70 [.slice oe E.length ce, .slice (some ⟨(hs w4), 0, none⟩) n n, .slice (some ⟨(hs w1), 0, none⟩) n n], ⟨_, 0, _, _, rfl, Nat.zero_le _, rfl, s0, Row.new e13⟩, ?_⟩
    rintro k _ w19 x ⟨i, Mo, Mi, rfl, hi, rfl, s, rq⟩
    have ltq := rq.lt
    have zs := s.g.size
    refine ⟨fun hlt => ?_, fun hge => ⟨_, rfl, by
      have : i = E.length := by have := dF hge; omega
      subst this
      exact s.graph rq (hE.grow s.g), s.g⟩⟩
    have hlt : i < E.length := by have := dT hlt; omega
    have hat := List.getElem?_eq_getElem hlt
    have hok := hEn _ (List.getElem_mem hlt)
    obtain ⟨a, ha, -, hc, hc0⟩ := Recs.atE (hE.grow s.g) hat
    have htake := List.take_succ_eq_append_getElem hlt
    generalize hex : E[i] = e at *
    obtain ⟨sv, hsv⟩ : ∃ sv : Nat, e.src = (sv : Int) := ⟨e.src.toNat, by omega⟩
    obtain ⟨dv, hdv⟩ : ∃ dv : Nat, e.dst = (dv : Int) := ⟨e.dst.toNat, by omega⟩
    refine ⟨a, ha, ⟨by omega, by omega⟩, _, hc0 _ rfl, _, hc 1 _ rfl, _, hc 2 _ rfl, fun w27 e27 => ⟨(Row.new e27).there (by simp), fun w29 e29 w31 e31 => ?_⟩⟩
    have r29 := (Row.new e27).set e29
    have g27 : Grow w19 w27 := only_alloc e27
    have z27 := hs_alloc e27
    have g29 : Grow w19 w29 := g27.trans (only_set e29) fun b hb e => by omega
    have g31 : Grow w19 w31 := g29.trans' (only_drew e31)
    have r31 := r29.grow (only_drew e31)
    have lr31 := r31.lt
    have q31 := rq.grow g31
    have z31 := g31.size
    have hol : sv < (outsL (E.take i) n).length := by rw [outsL_len]; omega
    have hil : dv < (insL (E.take i) n).length := by rw [insL_len]; omega
    have horl := outs_row hol
    have hirl := ins_row hil
    have htl : (E.take i).length = i := by rw [List.length_take]; omega
    obtain ⟨o42, c44, hcell, -, -⟩ := grid_get (s.out.grow g31) hol
    refine ⟨_, _, _, q31.cell rfl, _, r31.cell rfl, _, _, _, q31.cell rfl, _, r31.cell rfl, _, rfl, ⟨by omega, by omega⟩, o42, _, c44, by
      show w31.cell? ((⟨(hs w4), 0, none⟩ : Addr).add (e.src.toNat * 1)) = _
      rw [hsv]; exact hcell, fun w45 e45 => ?_⟩
    have g45 : Grow w31 w45 := only_alloc e45
    have z45 := hs_alloc e45
    have k45 := g31.trans' g45
    have hsv' : (e.src).toNat * 1 = ((sv : Int)).toNat * 1 := by rw [hsv]
    have hdv' : (e.dst).toNat * 1 = ((dv : Int)).toNat * 1 := by rw [hdv]
    have lto : ∀ b, Mo b → b < hs w19 := s.out.lt
    have lti : ∀ b, Mi b → b < hs w19 := s.inn.lt
    have lgo := lto _ s.out.memg
    have lgi := lti _ s.inn.memg
    refine ⟨kept_onlyAdd g45 (by show (hs w4) < _; omega) (fun h => h), kept_only g45 lr31 (fun h => h), kept_only g45 q31.lt (fun h => h), kept_only g45 lr31 (fun h => h), kept_only g45 q31.lt (fun h => h), ?_⟩
    have out45 := s.out.grow k45
    have c45 : w45.cell? ((⟨(hs w4), 0, none⟩ : Addr).add ((sv : Int).toNat * 1)) = some (.slice o42 (outsL (E.take i) n)[sv].length c44) := cell_keep g45 (fun h => h) hcell
    refine grid_push elem31 out45 hol c45 (Row.new e45) (by simp only [maxLen]; omega) (by omega) fun o49 c51 w48 hth g48 hset => ⟨_, _, _, rfl, ?_⟩
    have g48' : Only Mo w31 w48 := g45.only.trans' g48
    have z48 := g48.size
    refine ⟨kept_only g48' lr31 (fun h => by have := lto _ h; omega), kept_only g48' q31.lt s.qo, _, rfl, ⟨by omega, by omega⟩, by rw [hsv']; exact hth, fun w53 e53 w55 e55 => ?_⟩
    obtain ⟨out53, g53⟩ := hset w53 (by rw [e53, hsv'])
    have z53 := g53.size
    have g53' : Only Mo w31 w53 := g45.only.trans' g53
    have g55 : Only Mo w31 w55 := g53'.trans' (only_drew e55)
    have z55 := hs_drew e55
    have r55 := r31.keep g55 (fun h => by have := lto _ h; omega)
    have q55 := q31.keep g55 s.qo
    have in55 := (s.inn.grow g31).keep g55 fun b hb h => s.ap b h hb
    obtain ⟨o66, c68, hcell2, -, -⟩ := grid_get in55 hil
    refine ⟨_, _, _, q55.cell rfl, _, r55.cell rfl, _, _, _, q55.cell rfl, _, r55.cell rfl, _, rfl, ⟨by omega, by omega⟩, o66, _, c68, by rw [hdv']; exact hcell2, fun w69 e69 => ?_⟩
    have g69 : Grow w55 w69 := only_alloc e69
    have z69 := hs_alloc e69
    refine ⟨kept_onlyAdd g69 (by show (hs w1) < _; omega) (fun h => h), kept_only g69 r55.lt (fun h => h), kept_only g69 q55.lt (fun h => h), kept_only g69 r55.lt (fun h => h), kept_only g69 q55.lt (fun h => h), ?_⟩
    have c69 : w69.cell? ((⟨(hs w1), 0, none⟩ : Addr).add ((dv : Int).toNat * 1)) = some (.slice o66 (insL (E.take i) n)[dv].length c68) := cell_keep g69 (fun h => h) hcell2
    refine grid_push elem31 (in55.grow g69) hil c69 (Row.new e69) (by simp only [maxLen]; omega) (by omega) fun o73 c75 w72 hth2 g72 hset2 => ⟨_, _, _, rfl, ?_⟩
    have g72' : Only Mi w55 w72 := g69.only.trans' g72
    have z72 := g72.size
    refine ⟨kept_only g72' r55.lt (fun h => by have := lti _ h; omega), kept_only g72' q55.lt s.qi, _, rfl, ⟨by omega, by omega⟩, by rw [hdv']; exact hth2, fun w77 e77 => ⟨_, by omega, i + 1, (fun b => Mo b ∨ (hs w45 ≤ b ∧ b < hs w53)), (fun b => Mi b ∨ (hs w69 ≤ b ∧ b < hs w77)), by rw [wr (by omega)]; omega, hlt, rfl, ?_, ?_⟩⟩
    · obtain ⟨in77, g77⟩ := hset2 w77 (by rw [e77, hdv'])
      have g77' : Only Mi w55 w77 := g69.only.trans' g77
      have z77 := g77.size
      refine ⟨?_, ?_, ?_, fun b hb => ?_, fun b hb => ?_, fun b hb hb' => ?_, fun h => ?_, fun h => ?_⟩
      · refine (s.g.trans' g31).trans ((g55.mono fun b _ hb => Or.inl hb).trans (g77'.mono fun b _ hb => Or.inr hb) fun b _ hb => hb) fun b hb h => ?_
        rcases h with h | h
        · have := s.lo b h; omega
        · have := s.li b h; omega
      · rw [htake, outsL_step hsv (by omega) hol, htl]
        have k := (out53.grow (only_drew e55)).keep g77' fun b hb h => by
          rcases hb with hb | hb
          · exact s.ap b hb h
          · have := lti b h; omega
        exact k
      · rw [htake, insL_step hdv (by omega) hil, htl]
        exact in77
      · rcases hb with hb | hb
        · exact s.lo b hb
        · omega
      · rcases hb with hb | hb
        · exact s.li b hb
        · omega
      · rcases hb with hb | hb <;> rcases hb' with hb' | hb'
        · exact s.ap b hb hb'
        · have := lto b hb; omega
        · have := lti b hb'; omega
        · omega
      · rcases h with h | h
        · exact s.qo h
        · omega
      · rcases h with h | h
        · exact s.qi h
        · omega
    · obtain ⟨in77, g77⟩ := hset2 w77 (by rw [e77, hdv'])
      exact q55.keep (g69.only.trans' g77) s.qi
end Go.Proofs.Ytcaokpglbolkcaa
