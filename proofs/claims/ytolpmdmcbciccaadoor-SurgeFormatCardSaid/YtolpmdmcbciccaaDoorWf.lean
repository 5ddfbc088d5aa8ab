/- Contracts: New; the reference's state: New, steps, Rise, Done. -/
import Derived.Test.YtolpmdmcbciccaaDoorWe
namespace Go.Proofs.YtolpmdmcbciccaaDoor
open Go Go.Nf Go.RowKit

/-! ### New -/
def okR (p : Pl) (calm : Int) : Prop := rightL p = -1 ∧ 0 ≤ calm ∧ calm ≤ 1099511627776
instance (p : Pl) (calm : Int) : Decidable (okR p calm) := by unfold okR; exact inferInstance
def startR (p : Pl) (calm : Int) (drill : Bool) : Rn := ⟨p.steps, fun _ => false, calm, drill, 0, false, 0⟩
/-- rows of flags that a call builds, all down -/
def Flags (w : World) (B : Nat) (o : Option Addr) (n c : Nat) (gs : List Nat) (l : List (List Str)) : Prop :=
  ∃ rows : List (Nat × Nat), rows.map (·.1) = gs ∧ rows.map (·.2) = l.map List.length ∧ Own w B 85 1 o n c (rows.flatMap fun x => [.slice (some ⟨x.1, 0, none⟩) x.2 x.2]) ∧ (∀ x ∈ rows, B ≤ x.1 ∧ Row w x.1 4 (List.replicate x.2 (.bool false))) ∧ gs.Nodup
theorem Flags.keep {S : Nat → Prop} {w w' : World} {B : Nat} {o : Option Addr} {n c : Nat} {gs : List Nat} {l : List (List Str)} (h : Flags w B o n c gs l) (g : Only S w w') (hS : ∀ b, B ≤ b → b < hs w → (∀ T x, Row w b T x → T = 85 ∨ T = 4) → ¬ S b) : Flags w' B o n c gs l := by
  obtain ⟨rows, h1, h2, h3, h4, h5⟩ := h
  refine ⟨rows, h1, h2, h3.keep g fun b hb => ?_, fun x hx => ⟨(h4 x hx).1, (h4 x hx).2.keep g (hS _ (h4 x hx).1 (h4 x hx).2.lt fun T y hy => .inr ((h4 x hx).2.inj hy).2.symm)⟩, h5⟩
  obtain ⟨y, hy⟩ := h3.row hb
  exact hS b (h3.base b hb).1 (h3.base b hb).2 fun T z hz => .inl (hy.inj hz).2.symm
theorem Flags.grow {w w' : World} {B : Nat} {o : Option Addr} {n c : Nat} {gs : List Nat} {l : List (List Str)} (h : Flags w B o n c gs l) (g : Grow w w') : Flags w' B o n c gs l := h.keep g fun _ _ _ _ h => h
theorem Built.keepT {S : Nat → Prop} {w w' : World} {B : Nat} {o : Option Addr} {n c : Nat} {l : List (List Str)} (h : Built w B o n c l) (g : Only S w w') (hS : ∀ b, B ≤ b → b < hs w → (∀ T x, Row w b T x → T = 52 ∨ T = 9) → ¬ S b) : Built w' B o n c l := by
  obtain ⟨rows, h1, h2, h3⟩ := h
  refine ⟨rows, h1, h2.keep g fun b hb => ?_, fun x hx => (h3 x hx).keep g fun b hb => ?_⟩
  · obtain ⟨y, hy⟩ := h2.row hb
    exact hS b (h2.base b hb).1 (h2.base b hb).2 fun T z hz => .inl (hy.inj hz).2.symm
  · obtain ⟨y, hy⟩ := (h3 x hx).row hb
    exact hS b ((h3 x hx).base b hb).1 ((h3 x hx).base b hb).2 fun T z hz => .inr (hy.inj hz).2.symm
theorem Built.lolT {w : World} {B : Nat} {o : Option Addr} {n c : Nat} {l : List (List Str)} (h : Built w B o n c l) : Lol w (fun b => B ≤ b ∧ b < hs w ∧ ∀ T x, Row w b T x → T = 52 ∨ T = 9) o l := by
  obtain ⟨rows, h1, h2, h3⟩ := h
  refine ⟨rows, h1, (own_recs' encL_len (by omega) h2).mono fun b hb => ?_, fun x hx => (own_recs' encS_len (by omega) (h3 x hx)).mono fun b hb => ?_⟩
  · obtain ⟨y, hy⟩ := h2.row hb
    exact ⟨(h2.base b hb).1, (h2.base b hb).2, fun T z hz => .inl (hy.inj hz).2.symm⟩
  · obtain ⟨y, hy⟩ := (h3 x hx).row hb
    exact ⟨((h3 x hx).base b hb).1, ((h3 x hx).base b hb).2, fun T z hz => .inr (hy.inj hz).2.symm⟩
theorem flags_push {w : World} {B n c cx b m g : Nat} {o : Option Addr} {gs : List Nat} {l : List (List Str)} {x : List Str} {K : Value → World → Prop} (h : Flags w B o n c gs l) (hrow : Row w b 85 [.slice (some ⟨g, 0, none⟩) m m]) (hg : Row w g 4 (List.replicate m (.bool false))) (hB : B ≤ g) (hno : g ∉ gs) (hm : m = x.length)
    (hb : (n + 1) * 24 ≤ 140737488355328) (hbase : B ≤ hs w) (hK : ∀ o' c' w', Flags w' B o' (n + 1) c' (gs ++ [g]) (l ++ [x]) → Only (inBlock o) w w' → (∀ b, inBlock o b → B ≤ b ∧ ∃ y, Row w b 85 y) → K (.slice o' (n + 1) c') w') :
    RunOk Tryd.prog (Hold (Builtin.append_ #[82, 82] 82 #[.slice o n c, .slice (some ⟨b, 0, none⟩) 1 cx])) w K := by
  subst hm
  obtain ⟨rows, h1, h2, h3, h4, h5⟩ := h
  have hkeep : ∀ {w' : World} {b' : Nat} {y : List Value}, Only (inBlock o) w w' → Row w b' 4 y → Row w' b' 4 y := fun o hr => hr.keep o fun k => by
    obtain ⟨z, hz⟩ := h3.row k
    exact absurd (hz.inj hr).2 (by decide)
  refine run_append_row elem82 h3 hrow rfl (by simp [Value.oneCell']) (by simp only [maxLen]; omega) hb hbase fun o' c' w' p1 p2 _ => hK o' c' w' ⟨rows ++ [(g, x.length)], ?_, ?_, ?_, fun y hy => ?_, ?_⟩ p2 fun b hb => ⟨(h3.base b hb).1, h3.row hb⟩
  · rw [List.map_append, h1]; rfl
  · rw [List.map_append, List.map_append, h2]; rfl
  · rw [List.flatMap_append]
    simpa using p1
  · rcases List.mem_append.1 hy with hy | hy
    · exact ⟨(h4 y hy).1, hkeep p2 (h4 y hy).2⟩
    · rw [List.mem_singleton] at hy
      subst hy
      exact ⟨hB, hkeep p2 hg⟩
  · refine List.nodup_append.2 ⟨h5, by simp, fun a ha b hb e => ?_⟩
    rw [List.mem_singleton] at hb
    subst hb; subst e
    exact hno ha
def NewPost (w : World) (p : Pl) (calm : Int) (drill : Bool) (e : Ending) (w' : World) : Prop :=
  Grow w w' ∧ ((okR p calm ∧ ∃ t gs D, e = .returned (.tuple #[.pointer (some ⟨t, 0, none⟩), .int .i64 0]) ∧ RunAt w' (hs w) t gs D (startR p calm drill) ∧ ∀ b, D b → hs w ≤ b) ∨ (¬ okR p calm ∧ e = .returned (.tuple #[.pointer none, .int .i64 1])))
set_option maxHeartbeats 4000000 in
theorem new_c (o : Option Addr) (c : Nat) (p : Pl) (calm : Int) (drill : Bool) (hf : p.Fit) (w : World) {A : Nat → Prop} (h : Lol w A o p.steps) :
    Calls Tryd.prog 19 #[plV p.name o p.steps.length c, .int .i64 calm, .bool drill] w (NewPost w p calm drill) := by
  refine nf19 (BA p.name) o p.steps.length c calm drill w _ fun w1 e1 => ?_
  have r1 := Row.new e1
  have g1 : Grow w w1 := only_alloc e1
  refine ⟨_, r1.cell rfl, _, _, _, r1.cell rfl, (validate_c o c p hf w1 (h.grow g1)).mono ?_⟩
  rintro _ w8 ⟨rfl, g8⟩
  have G8 := g1.trans' g8
  have r8 := r1.grow g8
  refine ⟨_, rfl, fun hv => ⟨G8, .inr ⟨fun k => nT hv k.1, rfl⟩⟩, fun hv => ⟨fun h1 => ⟨G8, .inr ⟨fun k => by have := dT h1; have := k.2.1; omega, rfl⟩⟩, fun h1 => ⟨fun h2 => ⟨G8, .inr ⟨fun k => by have := dT h2; have := k.2.2; omega, rfl⟩⟩, fun h2 => ?_⟩⟩⟩
  have hv := nF hv
  have hok : okR p calm := ⟨hv, by have := dF h1; omega, by have := dF h2; omega⟩
  have hR := right_iff.1 hv
  have hfew := hR.few
  refine ⟨fun hd => ?_, fun hd => ?_⟩
  all_goals
    intro w17 e17
    have r17 := Row.new e17
    have g17 : Grow w8 w17 := only_alloc e17
    have z8 := G8.size
    have z17 := hs_alloc e17
    refine ⟨_, _, _, (r8.grow g17).cell rfl, fun n x w' => ∃ (i : Nat) (os : Option Addr) (cs : Nat) (oo : Option Addr) (co : Nat) (gs : List Nat), x = (i : Int) ∧ i ≤ p.steps.length ∧ n = p.steps.length - i ∧ Row w' (hs w8) 84 [.slice os i cs, .slice oo i co, .int .i64 calm, .bool drill, .int .i64 0, .bool false, .int .i64 0] ∧ Built w' (hs w17) os i cs (p.steps.take i) ∧ Flags w' (hs w17) oo i co gs (p.steps.take i) ∧ Grow w8 w',
      ⟨_, 0, none, 0, none, 0, [], rfl, Nat.zero_le _, rfl, by rw [hd]; exact r17, Built.nil _ _, ⟨[], rfl, rfl, own_nil _ _ _ _, (fun x hx => by cases hx), List.nodup_nil⟩, g17⟩, ?_⟩
    rintro n _ w26 x ⟨i, os, cs, oo, co, gs, rfl, hi, rfl, r26, hB, hFl, g26⟩
    have G26 := G8.trans' g26
    refine ⟨fun hlt => ?_, fun hge => ?_⟩
    · have hlt : i < p.steps.length := by have := dT hlt; omega
      obtain ⟨a, oi, ci, ha, -, hc, hS⟩ := (h.grow G26).at (List.getElem?_eq_getElem hlt)
      have hll := hR.each _ (List.getElem_mem hlt)
      have ht := List.take_succ_eq_append_getElem hlt
      generalize p.steps[i] = l at *
      refine ⟨a, ha, ⟨by omega, by omega⟩, _, _, _, hc, fun w34 e34 => ?_⟩
      have g34 : Grow w26 w34 := only_drew e34
      have r34 := r26.grow g34
      have z26 := r26.lt
      have z34 := g34.size
      refine ⟨_, _, _, r34.cell rfl, append_recs (B := hs w17) (xs := []) encS_len elem52 (by omega) (own_nil w34 (hs w17) 9 1) (Recs.grow hS g34) encS_one (by simp only [maxLen]; omega) (by omega) (by omega) fun o41 c43 w40 p1 p2 => ⟨_, _, _, rfl, ?_⟩⟩
      have g40 : Grow w34 w40 := p2.mono fun b _ k => by obtain ⟨a', ha', -⟩ := k; cases ha'
      rw [List.nil_append, Nat.zero_add] at p1
      rw [Nat.zero_add]
      have z40 := g40.size
      refine ⟨kept_only g40 r34.lt (fun h => h), fun w44 e44 => ?_⟩
      have g44 : Grow w40 w44 := only_alloc e44
      have r44 : Row w44 (hs w40) 52 [.slice o41 l.length c43] := Row.new e44
      have z44 := hs_alloc e44
      have g34' : Grow w34 w44 := g40.trans' g44
      refine ⟨kept_only g34' r34.lt (fun h => h), built_push ((hB.grow g34).grow g34') r44 (p1.grow g44) rfl (by omega) (by omega) fun o48 c50 w47 q1 q2 q3 => ⟨_, _, _, rfl, ?_⟩⟩
      have r47 := (r34.grow g34').keep q2 fun k => by have := q3 _ k; omega
      refine ⟨r47.there (by simp), fun w51 e51 w53 e53 => ?_⟩
      have o51 : Only (fun b => b = hs w8) w47 w51 := only_set e51
      have g53 : Grow w51 w53 := only_drew e53
      have r53 : Row w53 (hs w8) 84 [.slice o48 (i + 1) c50, .slice oo i co, .int .i64 calm, .bool drill, .int .i64 0, .bool false, .int .i64 0] := (r47.set e51).grow g53
      have hF44 := (hFl.grow g34).grow g34'
      have hB44 := (hB.grow g34).grow g34'
      have hF53 := ((hF44.keep q2 fun b _ _ hT k => by
        obtain ⟨rows, -, h2, -⟩ := hB44
        obtain ⟨y, hy⟩ := h2.row k
        exact absurd (hT _ _ hy) (by decide)).keep o51 fun b hb _ _ e => by omega).grow g53
      have hB53 := (q1.keep o51 fun b hb e => by omega).grow g53
      rw [← ht] at hB53
      have G53 : Grow w8 w53 := ((((g26.trans' g34).trans' g34').trans q2 fun b hb k => by have := q3 _ k; omega).trans o51 fun b hb e => by omega).trans' g53
      have l53 := r53.lt
      refine ⟨_, _, _, r53.cell rfl, run_make_row elem85 zeroL4 (by omega) (by omega) (by omega) (by omega) fun w59 e59 => ?_⟩
      rw [toNat_cast] at e59 ⊢
      have g59 : Grow w53 w59 := only_alloc e59
      have hfl : (List.replicate l.length [Value.bool false]).flatten = List.replicate l.length (.bool false) := by
        rw [List.flatten_replicate_singleton]
      rw [hfl] at e59
      have r59 : Row w59 (hs w53) 4 (List.replicate l.length (.bool false)) := Row.new e59
      have z59 := hs_alloc e59
      refine ⟨_, _, _, rfl, kept_only g59 r53.lt (fun h => h), fun w63 e63 => ?_⟩
      have g63 : Grow w59 w63 := only_alloc e63
      have z63 := hs_alloc e63
      have r63 : Row w63 (hs w59) 85 [.slice (some ⟨hs w53, 0, none⟩) l.length l.length] := Row.new e63
      have g5363 : Grow w53 w63 := g59.trans' g63
      have hFlow : hs w53 ∉ gs := fun k => by
        obtain ⟨rows, k1, -, -, k4, -⟩ := hF53
        rw [← k1] at k
        obtain ⟨y, hy, ey⟩ := List.mem_map.1 k
        have := (k4 y hy).2.lt
        omega
      refine ⟨kept_only g5363 r53.lt (fun h => h), flags_push ((hF53.grow g59).grow g63) r63 (r59.grow g63) (by omega) hFlow rfl (by omega) (by omega) fun o67 c69 w66 s1 s2 s3 => ⟨_, _, _, rfl, ?_⟩⟩
      have r66 := (r53.grow g5363).keep s2 fun k => by have := (s3 _ k).1; omega
      refine ⟨r66.there (by simp), fun w70 e70 => ?_⟩
      have o70 : Only (fun b => b = hs w8) w66 w70 := only_set e70
      have r70 : Row w70 (hs w8) 84 [.slice o48 (i + 1) c50, .slice o67 (i + 1) c69, .int .i64 calm, .bool drill, .int .i64 0, .bool false, .int .i64 0] := r66.set e70
      have hF70 := s1.keep o70 fun b hb _ _ e => by omega
      rw [← ht] at hF70
      have hB70 := ((hB53.grow g5363).keepT s2 fun b _ _ hT k => by
        obtain ⟨y, hy⟩ := (s3 _ k).2
        exact absurd (hT _ _ hy) (by decide)).keep o70 fun b hb e => by omega
      exact ⟨_, by omega, i + 1, o48, c50, o67, c69, _, by rw [wr (by omega)]; omega, hlt, rfl, r70, hB70, hF70, ((G53.trans' g5363).trans s2 fun b hb k => by have := (s3 _ k).1; omega).trans o70 fun b hb e => by omega⟩
    · have := dF hge
      obtain rfl : i = p.steps.length := by omega
      rw [List.take_length] at hB hFl
      have l26 := r26.lt
      obtain ⟨rows, k1, k2, k3, k4, k5⟩ := hFl
      have hrl : rows.length = p.steps.length := by have := congrArg List.length k2; simpa using this
      have hL := hB.lolT
      refine ⟨G26, .inl ⟨hok, hs w8, gs, fun b => hs w17 ≤ b ∧ b < hs w26 ∧ ∀ T x, Row w26 b T x → T = 52 ∨ T = 9 ∨ T = 85, rfl, ⟨⟨os, cs, oo, co, r26, hL.mono fun b hb => ⟨hb.1, hb.2.1, fun T x k => (hb.2.2 T x k).elim .inl fun k => .inr (.inl k)⟩, fun i l hi => ?_⟩, ?_, fun b hb => ?_, fun b hb => ⟨hb.2.1, fun k => ?_⟩⟩, fun b hb => by have := hb.1; omega⟩⟩
      · have hi : p.steps[i]? = some l := hi
        have hil := (List.getElem?_eq_some_iff.1 hi).1
        have hx := List.getElem?_eq_getElem (l := rows) (i := i) (by omega)
        have hxm := List.getElem_mem (l := rows) (n := i) (by omega)
        generalize rows[i]'(by omega) = x at *
        have e2 : x.2 = l.length := by
          have := congrArg (fun z => z[i]?) k2
          simp only [List.getElem?_map, hx, hi, Option.map_some, Option.some.injEq] at this
          exact this
        obtain ⟨gO, lO, rfl, hOr, -⟩ := k3.head (by omega)
        refine ⟨_, x.1, rfl, ⟨(k3.base gO ⟨_, rfl, rfl⟩).1, (k3.base gO ⟨_, rfl, rfl⟩).2, fun T y hy => .inr (.inr (hOr.inj hy).2.symm)⟩, by rw [← k1, List.getElem?_map, hx]; rfl, ?_, ?_⟩
        · refine k3.cell ?_
          rw [toNat_cast]
          have := flat_get (f := fun x : Nat × Nat => [Value.slice (some ⟨x.1, 0, none⟩) x.2 x.2]) (k := 1) (fun _ => rfl) rows i 0 (by omega)
          rw [Nat.add_zero, hx] at this
          rw [this, ← e2]; rfl
        · have := (k4 x hxm).2
          rw [e2] at this
          show Row w26 x.1 4 (rowV (fun _ => false) l)
          unfold rowV
          rw [List.map_const']
          exact this
      · refine List.nodup_cons.2 ⟨fun k => ?_, k5⟩
        rw [← k1] at k
        obtain ⟨y, hy, ey⟩ := List.mem_map.1 k
        have := (k4 y hy).1
        omega
      · rcases hb with rfl | k
        · exact ⟨by omega, l26⟩
        · rw [← k1] at k
          obtain ⟨y, hy, rfl⟩ := List.mem_map.1 k
          exact ⟨by have := (k4 y hy).1; omega, (k4 y hy).2.lt⟩
      · rcases k with rfl | k
        · have := hb.1; omega
        · rw [← k1] at k
          obtain ⟨y, hy, rfl⟩ := List.mem_map.1 k
          exact absurd (hb.2.2 _ _ (k4 y hy).2) (by decide)
end Go.Proofs.YtolpmdmcbciccaaDoor
