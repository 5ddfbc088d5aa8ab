/- Chapter 15: the store's pins; appends and copies in memory; Put; Remove. -/
import Derived.Test.YtbaacpfjecbbgaaU1
import Derived.Maps.AppendAt
namespace Go.Proofs.Ytbaacpfjecbbgaa
open Go Go.Nf

theorem run_zeroV {P : Program} {t : TypeId} {v : Value} (h : ((P.info? t).bind fun i => i.zero) = some v) (w : World) : (zeroValue t).run P w = .ok v w := by
  cases hi : P.info? t with
  | none => rw [hi] at h; cases h
  | some i =>
    rw [hi] at h
    simp only [Option.bind_some] at h
    simp [zeroValue, typeInfo, hi, h]
theorem zero123 (w : World) : (zeroValue 123).run Try.prog w = .ok (.agg #[.string (ByteArray.mk #[]), .int .i64 0]) w := run_zeroV (by kernel_rfl) w
def mapOf (P : Program) (t : TypeId) : Option (TypeId × TypeId) := match P.underlying t with
  | some (.map k e) => some (k, e)
  | _ => none
theorem of_map {P : Program} {t k e : TypeId} (h : mapOf P t = some (k, e)) : P.underlying t = some (.map k e) := by
  unfold mapOf at h
  split at h
  · rename_i a b hu
    simp only [Option.some.injEq, Prod.mk.injEq] at h
    rw [hu, h.1, h.2]
  · cases h
theorem und115 : Try.prog.underlying 115 = some (.map 2 123) := of_map (by kernel_rfl)
theorem und2 : Try.prog.underlying 2 = some (.int .i64) := by kernel_rfl

theorem newB_c (w : World) : Calls Try.prog 41 #[] w fun e w' => ∃ t m, e = .returned (.pointer (some ⟨t, 0, none⟩)) ∧ St w' (hs w) t m (fun b => b = t ∨ b = m) (fun _ => False) [] [] ∧ Grow w w' := by
  refine nf41 w _ fun w1 e1 w3 e3 => ?_
  have g1 : Grow w w1 := only_alloc e1
  have g3 : Grow w1 w3 := only_alloc e3
  have z1 := hs_alloc e1
  have z3 := hs_alloc e3
  refine ⟨hs w1, hs w, rfl, ⟨⟨none, 0, [], Row.new e3, own_nil _ _ _ _, rfl, fun x hx => (by cases hx), fun b ⟨a, ha, _⟩ => (by cases ha)⟩, (map_new e1).grow g3, .inl rfl, .inr rfl, fun b hb => ?_, fun b hb => hb.elim, .nil⟩, g1.trans' g3⟩
  rcases hb with rfl | rfl <;> omega

/-! ### pins -/
def pinned (P : List Pn) (call : Int) : Bool := P.any fun p => decide (p.call = call)
theorem pinned_of {P : List Pn} {call : Int} {p : Pn} (h : p ∈ P) (e : p.call = call) : pinned P call = true := List.any_eq_true.2 ⟨p, h, by simpa using e⟩
theorem pinned_not {P : List Pn} {call : Int} (h : ∀ p, p ∈ P → p.call ≠ call) : pinned P call = false := by
  unfold pinned
  rw [List.any_eq_false]
  intro p hp
  simpa using h p hp
/-- Pin, where the newest of the name is r -/
def pinStep (r : Option Prot) (P : List Pn) (call : Int) (n : ByteArray) : List Pn × Int × Int :=
  if call < 1 then (P, 0, 1) else match r with
  | none => (P, 0, 4)
  | some u => if pinned P call = true then (P, 0, 5) else (P ++ [⟨call, n, u.version⟩], u.version, 0)
def freeStep (P : List Pn) (call : Int) : List Pn × Bool := if pinned P call = true then (P.filter fun p => !decide (p.call = call), true) else (P, false)
/-- the protocol of a pinned call -/
def IsPinned (S : List Prot) (P : List Pn) (call : Int) (r : Option Prot) : Prop := (r = none ∧ ∀ p, p ∈ P → p.call ≠ call) ∨ ∃ p, p ∈ P ∧ p.call = call ∧ IsGet S p.name p.version r
theorem nodup_eq {P : List Pn} (h : (P.map (·.call)).Nodup) {p q : Pn} (hp : p ∈ P) (hq : q ∈ P) (e : p.call = q.call) : p = q := by
  induction P with
  | nil => cases hp
  | cons x P ih =>
    rw [List.map_cons, List.nodup_cons] at h
    rcases List.mem_cons.1 hp with rfl | hp' <;> rcases List.mem_cons.1 hq with rfl | hq'
    · rfl
    · exact absurd (List.mem_map.2 ⟨q, hq', e.symm⟩) h.1
    · exact absurd (List.mem_map.2 ⟨p, hp', e⟩) h.1
    · exact ih h.2 hp' hq'
theorem erase_filter {P : List Pn} (h : (P.map (·.call)).Nodup) {j : Nat} {p : Pn} (hj : P[j]? = some p) : P.eraseIdx j = P.filter fun q => !decide (q.call = p.call) := by
  induction P generalizing j with
  | nil => cases hj
  | cons x P ih =>
    rw [List.map_cons, List.nodup_cons] at h
    cases j with
    | zero =>
      simp only [List.getElem?_cons_zero, Option.some.injEq] at hj
      subst hj
      rw [List.eraseIdx_cons_zero, List.filter_cons, if_neg (by simp)]
      refine (List.filter_eq_self.2 fun q hq => ?_).symm
      have : q.call ≠ x.call := fun e => h.1 (List.mem_map.2 ⟨q, hq, e⟩)
      simpa using this
    | succ j =>
      simp only [List.getElem?_cons_succ] at hj
      have hne : x.call ≠ p.call := fun e => h.1 (List.mem_map.2 ⟨p, List.mem_of_getElem? hj, e.symm⟩)
      rw [List.eraseIdx_cons_succ, List.filter_cons, if_pos (by simpa using hne), ih h.2 hj]
theorem pin_at {P : List Pn} {j : Nat} {p : Int × Value} (h : (P.map pinV)[j]? = some p) : ∃ q, P[j]? = some q ∧ p = pinV q := by
  rw [List.getElem?_map, Option.map_eq_some_iff] at h
  obtain ⟨q, h1, h2⟩ := h
  exact ⟨q, h1, h2.symm⟩
theorem pin_none {P : List Pn} {k : Int} (h : ∀ p : Int × Value, p ∈ P.map pinV → p.1 ≠ k) : ∀ p, p ∈ P → p.call ≠ k := fun p hp e => h (pinV p) (List.mem_map_of_mem hp) e

section
variable {w : World} {B t m : Nat} {M D : Nat → Prop} {S : List Prot} {P : List Pn}
theorem pinnedP_c (call : Int) (hso : Sorted S) (hl : S.length ≤ 1000) (hf : Fine S) (h : St w B t m M D S P) :
    Calls Try.prog 46 #[.pointer (some ⟨t, 0, none⟩), .int .i64 call] w fun e w' => ∃ r, IsPinned S P call r ∧ Found (fun b => hs w ≤ b ∧ b < hs w') r e w' ∧ Grow w w' := by
  refine nf46 _ call w _ fun w1 e1 => ?_
  have r1 := Row.new e1
  have g1 : Grow w w1 := only_alloc e1
  have h1 := h.grow g1
  obtain ⟨o, c, rt, hp⟩ := h1.read
  refine ⟨_, rfl, _, rt.cellAdd rfl, map_look und115 und2 (zero123 w1) h1.pins (fun hn => ?_) (fun j p hj hk => ?_)⟩
  · refine ⟨_, _, _, rfl, fun hb => (by cases hb), fun _ w2 e2 => ⟨(Row.new e2).there (by simp), fun w3 e3 => ?_⟩⟩
    obtain ⟨r3, g3⟩ := loc e2 e3 rfl
    have q1 := r1.grow g3
    refine ⟨q1.there (by simp), fun w4 e4 => ?_⟩
    have r4 := q1.set e4
    have g4 : Only (fun b => b = hs w) w3 w4 := only_set e4
    exact ⟨_, r4.cell rfl, _, r4.cell rfl, _, _, _, r4.cell rfl, none, .inl ⟨rfl, pin_none hn⟩, .none, (g1.trans' g3).trans g4 fun b hb e => by omega⟩
  · obtain ⟨q, hq, rfl⟩ := pin_at hj
    refine ⟨_, _, _, rfl, fun _ w2 e2 => ⟨(Row.new e2).there (by simp), fun w3 e3 => ?_⟩, fun hb => (by cases hb)⟩
    obtain ⟨r3, g3⟩ := loc e2 e3 rfl
    refine ⟨_, r3.cell rfl, _, r3.cell rfl, (getP_c q.name q.version hso hl hf (rt.grow g3) (hp.grow g3)).mono ?_⟩
    rintro _ w4 ⟨r, hr, ⟨o4, c4, rfl, hq4⟩, g4⟩
    have G4 := (g1.trans' g3).trans' g4
    have q1 := (r1.grow g3).grow g4
    have z3 := (g1.trans' g3).size
    have l1 := r1.lt
    have z1 := g3.size
    have hpin : IsPinned S P call r := .inr ⟨q, List.mem_of_getElem? hq, hk, hr⟩
    refine ⟨_, _, _, _, _, _, rfl, fun hb => ⟨q1.there (by simp), fun w5 e5 => ?_⟩, fun hb => ⟨q1.there (by simp), fun w5 e5 => ?_⟩⟩
    all_goals
      have r5 := q1.set e5
      have g5 : Only (fun b => b = hs w) w4 w5 := only_set e5
      have z5 := g5.size
      exact ⟨_, r5.cell rfl, _, r5.cell rfl, _, _, _, r5.cell rfl, r, hpin, ⟨_, _, by rw [hb], (hq4.keep g5 fun b hb e => by omega).mono fun b hb => ⟨by omega, by omega⟩⟩, G4.trans g5 fun b hb e => by omega⟩
theorem unpin_c (call : Int) (h : St w B t m M D S P) :
    Calls Try.prog 47 #[.pointer (some ⟨t, 0, none⟩), .int .i64 call] w fun e w' => e = .returned (.bool (freeStep P call).2) ∧ St w' B t m M D S (freeStep P call).1 ∧ Only M w w' := by
  obtain ⟨o, c, rt, hp⟩ := h.read
  refine nf47 _ call w _ ⟨_, rfl, _, rt.cellAdd rfl, map_look und115 und2 (zero123 w) h.pins (fun hn => ?_) (fun j p hj hk => ?_)⟩
  · refine ⟨_, _, _, rfl, fun hb => (by cases hb), fun _ w2 e2 => ⟨(Row.new e2).there (by simp), fun w3 e3 => ?_⟩⟩
    obtain ⟨r3, g3⟩ := loc e2 e3 rfl
    have e : freeStep P call = (P, false) := by unfold freeStep; rw [pinned_not (pin_none hn)]; rfl
    rw [e]
    exact ⟨rfl, h.grow g3, g3.only⟩
  · obtain ⟨q, hq, rfl⟩ := pin_at hj
    refine ⟨_, _, _, rfl, fun _ w2 e2 => ⟨(Row.new e2).there (by simp), fun w3 e3 => ?_⟩, fun hb => (by cases hb)⟩
    obtain ⟨r3, g3⟩ := loc e2 e3 rfl
    have h3 := h.grow g3
    have hk' : q.call = call := hk
    have e : freeStep P call = (P.filter (fun p => !decide (p.call = call)), true) := by unfold freeStep; rw [pinned_of (List.mem_of_getElem? hq) hk']; rfl
    rw [e]
    refine ⟨_, rfl, _, (rt.grow g3).cellAdd rfl, map_drop und115 und2 h3.pins hj hk fun w4 h4 g4 => ⟨_, rfl, rfl, ?_, (g3.only (S := M)).trans' (g4.mono fun b _ e => by rw [e]; exact h.mm)⟩⟩
    obtain ⟨o', c', rows, a1, a2, a3, a4, a5⟩ := h3.ex
    have hz := g4.size
    have hmt : t ≠ m := fun e => by
      have q1 := h3.pins.ex
      obtain ⟨es, clock, hb, -⟩ := q1
      rw [← e] at hb
      unfold Row at a1
      rw [a1] at hb; cases hb
    have hmo : ∀ b, inBlock o' b → b ≠ m := fun b hb e => by
      obtain ⟨l, hl⟩ := a2.row hb
      obtain ⟨es, clock, hb, -⟩ := h3.pins.ex
      rw [← e] at hb
      unfold Row at hl
      rw [hl] at hb; cases hb
    refine ⟨⟨o', c', rows, a1.keep g4 hmt, a2.keep g4 hmo, a3, fun x hx => (a4 x hx).keep g4 fun b hb e => (h3.ds b hb).2 (by rw [e]; exact h3.mm), a5⟩, ?_, h3.mt, h3.mm, fun b hb => ⟨(h3.ms b hb).1, by have := (h3.ms b hb).2; omega⟩, fun b hb => ⟨by have := (h3.ds b hb).1; omega, (h3.ds b hb).2⟩, ?_⟩
    · rw [← ChangeMaps.map_eraseIdx, erase_filter h.one hq, hk'] at h4
      exact h4
    · exact List.Nodup.sublist (List.filter_sublist.map _) h.one
theorem pin_c (call : Int) (n : ByteArray) (hso : Sorted S) (hl : S.length ≤ 1000) (h : St w B t m M D S P) :
    Calls Try.prog 44 #[.pointer (some ⟨t, 0, none⟩), .int .i64 call, .string n] w fun e w' => ∃ r, IsNew S n r ∧ e = .returned (.tuple #[.int .i64 (pinStep r P call n).2.1, .int .i64 (pinStep r P call n).2.2]) ∧ St w' B t m M D S (pinStep r P call n).1 ∧ Only M w w' := by
  obtain ⟨o, c, rt, hp⟩ := h.read
  have hex : ∃ r, IsNew S n r := by
    by_cases hx : ∃ u, u ∈ S ∧ u.name = n
    · obtain ⟨u, hu, hn⟩ := hx
      have : ∀ (l : List Prot), (∃ u, u ∈ l ∧ u.name = n) → ∃ t, t ∈ l ∧ t.name = n ∧ ∀ u, u ∈ l → u.name = n → u.version ≤ t.version := by
        intro l
        induction l with
        | nil => rintro ⟨u, hu, -⟩; cases hu
        | cons x l ih =>
          intro hx
          by_cases hl : ∃ u, u ∈ l ∧ u.name = n
          · obtain ⟨t, h1, h2, h3⟩ := ih hl
            by_cases hb : x.name = n ∧ t.version ≤ x.version
            · refine ⟨x, .head _, hb.1, fun u hu hn => ?_⟩
              rcases List.mem_cons.1 hu with rfl | hu
              · exact Int.le_refl _
              · have := h3 u hu hn; omega
            · refine ⟨t, .tail _ h1, h2, fun u hu hn => ?_⟩
              rcases List.mem_cons.1 hu with rfl | hu
              · exact Decidable.byContradiction fun k => hb ⟨hn, by omega⟩
              · exact h3 u hu hn
          · obtain ⟨u, hu, hn⟩ := hx
            rcases List.mem_cons.1 hu with rfl | hu
            · refine ⟨u, .head _, hn, fun v hv hn' => ?_⟩
              rcases List.mem_cons.1 hv with rfl | hv
              · exact Int.le_refl _
              · exact absurd ⟨v, hv, hn'⟩ hl
            · exact absurd ⟨u, hu, hn⟩ hl
      obtain ⟨t, ht⟩ := this S ⟨u, hu, hn⟩
      exact ⟨some t, .inr ⟨t, rfl, ht⟩⟩
    · exact ⟨none, .inl ⟨rfl, fun u hu e => hx ⟨u, hu, e⟩⟩⟩
  refine nf44 _ call n w _ ⟨fun hc => ?_, fun hc => (newest_c n hso hl rt hp).mono ?_⟩
  · obtain ⟨r, hr⟩ := hex
    have e : pinStep r P call n = (P, 0, 1) := by unfold pinStep; rw [if_pos (dT hc)]
    refine ⟨r, hr, ?_⟩
    rw [e]
    exact ⟨rfl, h, Only.refl _ _⟩
  · rintro _ w1 ⟨x, hx, rfl, g1⟩
    have hc := dF hc
    have h1 := h.grow g1
    have rt1 := rt.grow g1
    have hp1 := hp.grow g1
    refine ⟨_, rfl, fun hh => ?_, fun hh => ?_⟩
    · rcases hx.new hso with ⟨rfl, hr⟩ | ⟨i, hi, rfl, -, -⟩
      · have e : pinStep none P call n = (P, 0, 4) := by unfold pinStep; rw [if_neg hc]
        refine ⟨none, hr, ?_⟩
        rw [e]
        exact ⟨rfl, h1, g1.only⟩
      · have := dT hh; omega
    · rcases hx.new hso with ⟨rfl, hr⟩ | ⟨i, hi, rfl, hn, hr⟩
      · have := dF hh; omega
      obtain ⟨a, qo, qc, ha, -, c0, c1, -, -⟩ := hp1.get hi
      refine ⟨_, rfl, _, rt1.cellAdd rfl, map_look und115 und2 (zero123 w1) h1.pins (fun hno => ?_) (fun j p hj hk => ?_)⟩
      · refine ⟨_, _, _, rfl, fun hb => (by cases hb), fun _ w2 e2 => ⟨(Row.new e2).there (by simp), fun w3 e3 => ?_⟩⟩
        obtain ⟨r3, g3⟩ := loc e2 e3 rfl
        refine ⟨_, rfl, _, _, _, (rt1.grow g3).cell rfl, a, ha, ⟨by omega, by omega⟩, _, cell_grow g3 c1, fun w4 e4 => ?_⟩
        have g4 : Grow w3 w4 := only_drew e4
        have G4 := g3.trans' g4
        have h4 := h1.grow G4
        refine ⟨_, rfl, _, (rt1.grow G4).cellAdd rfl, _, rfl, _, _, _, (rt1.grow G4).cell rfl, a, ha, ⟨by omega, by omega⟩, _, cell_grow G4 c0, map_put und115 und2 h4.pins hno fun w5 h5 g5 => ?_⟩
        have hno' := pin_none hno
        have e : pinStep (some S[i]) P call n = (P ++ [⟨call, n, S[i].version⟩], S[i].version, 0) := by
          unfold pinStep; rw [if_neg hc]; simp only; rw [pinned_not hno', if_neg Bool.false_ne_true]
        refine ⟨some S[i], hr, ?_⟩
        rw [e]
        refine ⟨rfl, ?_, (Grow.only (S := M) (g1.trans' G4)).trans' (g5.mono fun b _ e => by rw [e]; exact h.mm)⟩
        obtain ⟨o', c', rows, a1, a2, a3, a4, a5⟩ := h4.ex
        have hz := g5.size
        have hmt : t ≠ m := fun e => by
          obtain ⟨es, clock, hb, -⟩ := h4.pins.ex
          rw [← e] at hb
          unfold Row at a1
          rw [a1] at hb; cases hb
        have hmo : ∀ b, inBlock o' b → b ≠ m := fun b hb e => by
          obtain ⟨l, hl⟩ := a2.row hb
          obtain ⟨es, clock, hb, -⟩ := h4.pins.ex
          rw [← e] at hb
          unfold Row at hl
          rw [hl] at hb; cases hb
        refine ⟨⟨o', c', rows, a1.keep g5 hmt, a2.keep g5 hmo, a3, fun x hx => (a4 x hx).keep g5 fun b hb e => (h4.ds b hb).2 (by rw [e]; exact h4.mm), a5⟩, ?_, h4.mt, h4.mm, fun b hb => ⟨(h4.ms b hb).1, by have := (h4.ms b hb).2; omega⟩, fun b hb => ⟨by have := (h4.ds b hb).1; omega, (h4.ds b hb).2⟩, ?_⟩
        · rw [List.map_append]
          rw [hn] at h5
          exact h5
        · rw [List.map_append]
          refine List.nodup_append.2 ⟨h.one, by simp, fun x hx y hy e => ?_⟩
          obtain ⟨p, hp, rfl⟩ := List.mem_map.1 hx
          simp only [List.map_cons, List.map_nil, List.mem_singleton] at hy
          exact hno' p hp (e.trans hy)
      · obtain ⟨q, hq, rfl⟩ := pin_at hj
        refine ⟨_, _, _, rfl, fun _ w2 e2 => ⟨(Row.new e2).there (by simp), fun w3 e3 => ?_⟩, fun hb => (by cases hb)⟩
        obtain ⟨r3, g3⟩ := loc e2 e3 rfl
        have e : pinStep (some S[i]) P call n = (P, 0, 5) := by
          unfold pinStep; rw [if_neg hc]; simp only; rw [pinned_of (List.mem_of_getElem? hq) hk, if_pos rfl]
        refine ⟨some S[i], hr, ?_⟩
        rw [e]
        exact ⟨rfl, h1.grow g3, Grow.only (g1.trans' g3)⟩
end

theorem run_append_at {P : Program} {w : World} {B t ty T size bytes : Nat} {o : Option Addr} {n c : Nat} {xs : List Value} {a : Addr} {m cx : Nat} {news : List Value} {K : Value → World → Prop}
    (he : Elem P t T size bytes) (hown : Own w B T size o n c xs) (hl : news.length = m * size) (hnews : ∀ j u, news[j]? = some u → w.cell? (a.add j) = some u) (h1 : ∀ u ∈ news, u.oneCell' = true)
    (h63 : n + m ≤ maxLen) (hbytes : (n + m) * bytes ≤ 140737488355328) (hbase : B ≤ hs w)
    (h : ∀ o' c' w', Own w' B T size o' (n + m) c' (xs ++ news) → Only (inBlock o) w w' → (∀ b, inBlock o' b → inBlock o b ∨ b = hs w) → K (.slice o' (n + m) c') w') :
    RunOk P (Hold (Builtin.append_ #[t, t] ty #[.slice o n c, .slice (some a) m cx])) w K := by
  obtain ⟨i, z, ht, hi, hz, hsize, hby, hzs, hsz⟩ := he.ex
  obtain ⟨v', w', hr, h2, h3, h4, h5⟩ := run_append_own_at (P := P) (w := w) B t ty T i z size bytes ht hi hz hsize hby hzs hsz _ n xs hown a m cx news hl hnews h1 h63 hbytes hbase
  have hv : ∃ o' c', v' = .slice o' (n + m) c' := by
    rcases h2.2 with ⟨e, e2⟩ | ⟨g, cap, cur, e, _⟩
    · exact ⟨none, 0, by rw [e, e2]⟩
    · exact ⟨_, _, e⟩
  obtain ⟨o', c', rfl⟩ := hv
  refine ⟨_, w', hr, h o' c' w' h2 (grownBy_only h3) fun b hb => ?_⟩
  obtain ⟨a', rfl, rfl⟩ := hb
  rcases h2.2 with ⟨e, -⟩ | ⟨g, cap, cur, e, -⟩
  · cases e
  · simp only [Value.slice.injEq, Option.some.injEq] at e
    obtain ⟨rfl, -⟩ := e
    rcases h5 with h5 | h5
    · refine .inl ?_
      cases o with
      | none => simp [Value.ownBlock] at h5
      | some q =>
        refine ⟨q, rfl, ?_⟩
        simp [Value.ownBlock] at h5
        exact h5.symm
    · refine .inr ?_
      simp [Value.ownBlock] at h5
      exact h5
theorem copy_own {P : Program} {w : World} {B T k : Nat} {dT sT ty elem : TypeId} {g N C : Nat} {xs : List Value} {n c m c' j : Nat} {a : Addr} {news : List Value} {K : Value → World → Prop}
    (hu : P.underlying dT = some (.slice elem)) (hsz : (P.info? elem).map (·.size) = some k) (h : Own w B T k (some ⟨g, 0, none⟩) N C xs) (hl : news.length = Nat.min m n * k)
    (hsrc : ∀ i u, news[i]? = some u → w.cell? (a.add i) = some u) (hfit : j + news.length ≤ N * k) (h1 : ∀ u ∈ news, u.oneCell' = true)
    (hK : ∀ w', Own w' B T k (some ⟨g, 0, none⟩) N C (setFrom xs j news) → Only (fun b => b = g) w w' → K (goInt (Nat.min m n)) w') :
    RunOk P (Hold (Builtin.copy_ #[dT, sT] ty #[.slice (some ((⟨g, 0, none⟩ : Addr).add j)) n c, .slice (some a) m c'])) w K := by
  have hst := run_storeCells (P := P) (a := (⟨g, 0, none⟩ : Addr).add j) news 0 w (h.there hfit) (by omega) (List.all_eq_true.2 h1)
  have hld := run_loadCells_list (P := P) w a news hsrc
  refine ⟨_, _, ?_, hK _ (h.set rfl hfit) (only_setAdd rfl)⟩
  cases hq : P.info? elem with
  | none => simp [hq] at hsz
  | some i =>
    have hi : i.size = k := by simpa [hq] using hsz
    unfold Hold
    rw [hl] at hld
    simp [Builtin.copy_, run_underlying hu, Builtin.lenOf, Builtin.firstCells, sizeOf, typeInfo, hq, hi, hld, hst]
theorem copy_zero {P : Program} {w : World} {k : Nat} {dT sT ty elem : TypeId} {n c m c' : Nat} {d a : Option Addr} {K : Value → World → Prop}
    (hu : P.underlying dT = some (.slice elem)) (hsz : (P.info? elem).map (·.size) = some k) (h0 : Nat.min m n = 0) (hK : K (goInt 0) w) :
    RunOk P (Hold (Builtin.copy_ #[dT, sT] ty #[.slice d n c, .slice a m c'])) w K := by
  refine ⟨_, w, ?_, hK⟩
  cases hq : P.info? elem with
  | none => simp [hq] at hsz
  | some i =>
    have hl : ∀ (x : Addr), (loadCells x 0).run P w = .ok #[] w := fun x => by simpa using run_loadCells_list (P := P) w x [] (by simp)
    unfold Hold
    cases d <;> cases a <;> simp [Builtin.copy_, run_underlying hu, Builtin.lenOf, Builtin.firstCells, sizeOf, typeInfo, hq, h0, storeCells, hl]
/-- fewer of a row's elements -/
theorem Own.fewer {w : World} {B T size : Nat} {o : Option Addr} {n n' c : Nat} {xs : List Value} (h : Own w B T size o n c xs) (hn : n' ≤ n) : Own w B T size o n' c (xs.take (n' * size)) := by
  have hl := h.length
  have hle := Nat.mul_le_mul_right size hn
  obtain ⟨h1, h2⟩ := h
  refine ⟨by rw [List.length_take, hl]; omega, ?_⟩
  rcases h2 with ⟨e, e2⟩ | ⟨g, cap, cur, hv, hb, hg, hnc, hm, hcs, ht⟩
  · refine .inl ⟨?_, by omega⟩
    simp only [Value.slice.injEq] at e ⊢
    exact ⟨e.1, by omega, e.2.2⟩
  · simp only [Value.slice.injEq] at hv
    refine .inr ⟨g, cap, cur, ?_, hb, hg, by omega, hm, hcs, ?_⟩
    · simp only [Value.slice.injEq]
      exact ⟨hv.1, trivial, hv.2.2⟩
    · rw [← ht, List.take_take, Nat.min_eq_left hle]

section
variable {α : Type} {f : α → List Value} {k : Nat} (hk : ∀ m, (f m).length = k)
include hk
/-- the records from j + 1 on are written over by as many others -/
theorem flat_over (l vs : List α) (j : Nat) (hj : j + vs.length = l.length) : setFrom (l.flatMap f) (j * k) (vs.flatMap f) = (l.take j ++ vs).flatMap f := by
  have e : l.flatMap f = (l.take j).flatMap f ++ (l.drop j).flatMap f := by rw [← List.flatMap_append, List.take_append_drop]
  have hlen : ((l.take j).flatMap f).length = j * k := by rw [flat_length hk, List.length_take]; congr 1; omega
  have := setFrom_right (vs.flatMap f) ((l.take j).flatMap f) ((l.drop j).flatMap f) 0
  rw [Nat.add_zero, hlen] at this
  rw [e, this, setFrom_all, List.flatMap_append]
  rw [flat_length hk, flat_length hk, List.length_drop]
  congr 1; omega
theorem flat_over' (l vs : List α) (j : Nat) (hj : j + vs.length ≤ l.length) : setFrom (l.flatMap f) (j * k) (vs.flatMap f) = (l.take j ++ vs ++ l.drop (j + vs.length)).flatMap f := by
  have e : l.flatMap f = (l.take (j + vs.length)).flatMap f ++ (l.drop (j + vs.length)).flatMap f := by rw [← List.flatMap_append, List.take_append_drop]
  have hl : (l.take (j + vs.length)).length = j + vs.length := by rw [List.length_take]; omega
  rw [e, setFrom_left, flat_over hk _ _ _ (by rw [hl]), ← List.flatMap_append, List.take_take, Nat.min_eq_left (by omega)]
  rw [flat_length hk, flat_length hk, hl, ← Nat.add_mul]
  exact Nat.le_refl _
end

theorem elem71 : Elem Try.prog 71 24 3 48 := elem_of (by kernel_rfl)
def sliceOf (P : Program) (t : TypeId) : Option TypeId := match P.underlying t with
  | some (.slice e) => some e
  | _ => none
theorem of_slice {P : Program} {t e : TypeId} (h : sliceOf P t = some e) : P.underlying t = some (.slice e) := by
  unfold sliceOf at h
  split at h
  · rename_i a hu
    simp only [Option.some.injEq] at h
    rw [hu, h]
  · cases h
theorem und71 : Try.prog.underlying 71 = some (.slice 24) := of_slice (by kernel_rfl)
theorem size24 : (Try.prog.info? 24).map (·.size) = some 3 := by kernel_rfl
def zeroR : PR := (zeroP, none, 0)
theorem map_neRow {w : World} {m b T : Nat} {l : List Value} {P : List (Int × Value)} (h : MapAt w m P) (r : Row w b T l) : b ≠ m := fun e => by
  obtain ⟨es, clock, hb, -⟩ := h.ex
  subst e
  unfold Row at r
  rw [r] at hb; cases hb
theorem map_neOwn {w : World} {m B T k n c : Nat} {o : Option Addr} {l : List Value} {P : List (Int × Value)} (h : MapAt w m P) (r : Own w B T k o n c l) : ∀ b, inBlock o b → b ≠ m := fun b hb => by
  obtain ⟨l', hl⟩ := r.row hb
  exact map_neRow h hl
theorem flat_take {α : Type} {f : α → List Value} {k : Nat} (hk : ∀ m, (f m).length = k) (l : List α) (j : Nat) (hj : j ≤ l.length) : (l.flatMap f).take (j * k) = (l.take j).flatMap f := by
  have e : l.flatMap f = (l.take j).flatMap f ++ (l.drop j).flatMap f := by rw [← List.flatMap_append, List.take_append_drop]
  have hlen : ((l.take j).flatMap f).length = j * k := by rw [flat_length hk, List.length_take]; congr 1; omega
  rw [e, ← hlen, List.take_left]
theorem new_exists (S : List Prot) (n : ByteArray) : ∃ r, IsNew S n r := by
  induction S with
  | nil => exact ⟨none, .inl ⟨rfl, fun u hu => by cases hu⟩⟩
  | cons x l ih =>
    obtain ⟨r, hr⟩ := ih
    by_cases hx : x.name = n
    · rcases hr with ⟨rfl, hr⟩ | ⟨t, rfl, h1, h2, h3⟩
      · refine ⟨some x, .inr ⟨x, rfl, .head _, hx, fun u hu hn => ?_⟩⟩
        rcases List.mem_cons.1 hu with rfl | hu
        · exact Int.le_refl _
        · exact absurd hn (hr u hu)
      · by_cases hb : t.version ≤ x.version
        · refine ⟨some x, .inr ⟨x, rfl, .head _, hx, fun u hu hn => ?_⟩⟩
          rcases List.mem_cons.1 hu with rfl | hu
          · exact Int.le_refl _
          · have := h3 u hu hn; omega
        · refine ⟨some t, .inr ⟨t, rfl, .tail _ h1, h2, fun u hu hn => ?_⟩⟩
          rcases List.mem_cons.1 hu with rfl | hu
          · omega
          · exact h3 u hu hn
    · rcases hr with ⟨rfl, hr⟩ | ⟨t, rfl, h1, h2, h3⟩
      · refine ⟨none, .inl ⟨rfl, fun u hu => ?_⟩⟩
        rcases List.mem_cons.1 hu with rfl | hu
        · exact hx
        · exact hr u hu
      · refine ⟨some t, .inr ⟨t, rfl, .tail _ h1, h2, fun u hu hn => ?_⟩⟩
        rcases List.mem_cons.1 hu with rfl | hu
        · exact absurd hn hx
        · exact h3 u hu hn
theorem get_exists (S : List Prot) (n : ByteArray) (v : Int) : ∃ r, IsGet S n v r := by
  by_cases h : ∃ u, u ∈ S ∧ u.name = n ∧ u.version = v
  · obtain ⟨u, h1, h2, h3⟩ := h
    exact ⟨some u, .inr ⟨u, rfl, h1, h2, h3⟩⟩
  · exact ⟨none, .inl ⟨rfl, fun u h1 h2 => h ⟨u, h1, h2⟩⟩⟩
def later (r : Option Prot) (v : Int) : Bool := match r with
  | some u => decide (v < u.version)
  | none => false
/-- what Put answers: q the check's answer, g the protocol of the key, r the newest of the name -/
def putE (q : Int) (g r : Option Prot) (len : Nat) (v : Int) : Int :=
  if q ≠ 0 then q else if g.isSome = true then 5 else if later r v = true then 9 else if 100 ≤ len then 3 else 0
def busy (P : List Pn) (n : ByteArray) (v : Int) : Bool := P.any fun p => strEq p.name n && decide (p.version = v)
/-- what Remove answers -/
def dropE (g r : Option Prot) (P : List Pn) (n : ByteArray) (v : Int) : Int :=
  if g.isNone = true then 4 else if (r.getD zeroP).version = v then 8 else if busy P n v = true then 10 else 0

/-- the elements from i on move up by one -/
theorem shift_c {w : World} {B g C l i : Nat} {rows : List PR} {z : PR} {K : Value → World → Prop} (h : Own w B 24 3 (some ⟨g, 0, none⟩) (l + 1) C ((rows ++ [z]).flatMap encP)) (hl : rows.length = l) (hi : i ≤ l)
    (hK : ∀ (w' : World) (R : List PR) (n : Int), R.length = l + 1 → R.take i = rows.take i → R.drop (i + 1) = rows.drop i → Own w' B 24 3 (some ⟨g, 0, none⟩) (l + 1) C (R.flatMap encP) → Only (fun b => b = g) w w' → K (goInt n) w') :
    RunOk Try.prog (Hold (Builtin.copy_ #[71, 71] 3 #[.slice (if C = i + 1 then some (⟨g, 0, none⟩ : Addr) else Option.map (fun x : Addr => x.add ((i + 1) * 3)) (some (⟨g, 0, none⟩ : Addr))) (l + 1 - (i + 1)) (C - (i + 1)), .slice (if C = i then some (⟨g, 0, none⟩ : Addr) else Option.map (fun x : Addr => x.add (i * 3)) (some (⟨g, 0, none⟩ : Addr))) (l + 1 - i) (C - i)])) w K := by
  have hc := h.le
  by_cases hil : i = l
  · subst hil
    refine copy_zero und71 size24 (by rw [show i + 1 - (i + 1) = 0 by omega]; exact Nat.min_zero _) (hK w _ _ (by simp [hl]) ?_ ?_ h (Only.refl _ _))
    · rw [List.take_append_of_le_length (by omega)]
    · rw [List.drop_eq_nil_of_le (by simp [hl]), List.drop_eq_nil_of_le (by omega)]
  · rw [if_neg (by omega), if_neg (by omega)]
    have hnl : (rows.drop i).length = l - i := by rw [List.length_drop, hl]
    refine copy_own und71 size24 h (news := (rows.drop i).flatMap encP) ?_ (fun j u hj => ?_) ?_ encP_one fun w' h' g' => ?_
    · rw [flat_length encP_len, hnl, show Nat.min (l + 1 - i) (l + 1 - (i + 1)) = l - i by show min (l + 1 - i) (l + 1 - (i + 1)) = l - i; omega]
    · refine h.cell2 ?_
      have hjl : j < (l - i) * 3 := by
        rcases Nat.lt_or_ge j ((rows.drop i).flatMap encP).length with h | h
        · rw [flat_length encP_len, hnl] at h; exact h
        · rw [List.getElem?_eq_none h] at hj; cases hj
      have e : (rows ++ [z]).flatMap encP = (rows.take i).flatMap encP ++ ((rows.drop i).flatMap encP ++ encP z) := by
        rw [← List.append_assoc, ← List.flatMap_append, List.take_append_drop, List.flatMap_append]; simp
      have hlen : ((rows.take i).flatMap encP).length = i * 3 := by rw [flat_length encP_len, List.length_take]; congr 1; omega
      rw [e, List.getElem?_append_right (by omega), hlen, Nat.add_sub_cancel_left, List.getElem?_append_left (by rw [flat_length encP_len, hnl]; exact hjl)]
      exact hj
    · rw [flat_length encP_len, hnl, ← Nat.add_mul]
      exact Nat.mul_le_mul_right 3 (by omega)
    · have e := flat_over encP_len (rows ++ [z]) (rows.drop i) (i + 1) (by simp; omega)
      rw [e] at h'
      have ht : (rows ++ [z]).take (i + 1) = rows.take (i + 1) := List.take_append_of_le_length (by omega)
      have hl1 : (rows.take (i + 1)).length = i + 1 := by rw [List.length_take]; omega
      refine hK w' _ _ ?_ ?_ ?_ h' g'
      · rw [List.length_append, ht, hl1, hnl]; omega
      · rw [ht, List.take_append_of_le_length (by omega), List.take_take, Nat.min_eq_left (by omega)]
      · rw [ht, List.drop_left' hl1]
/-- the elements behind i move down by one -/
theorem close_c {w : World} {B g C l i : Nat} {rows : List PR} {K : Value → World → Prop} (h : Own w B 24 3 (some ⟨g, 0, none⟩) l C (rows.flatMap encP)) (hl : rows.length = l) (hi : i + 1 < l)
    (hK : ∀ (w' : World) (R : List PR) (n : Int), R.length = l → R.take (l - 1) = rows.take i ++ rows.drop (i + 1) → Own w' B 24 3 (some ⟨g, 0, none⟩) l C (R.flatMap encP) → Only (fun b => b = g) w w' → K (goInt n) w') :
    RunOk Try.prog (Hold (Builtin.copy_ #[71, 71] 3 #[.slice (if C = i then some (⟨g, 0, none⟩ : Addr) else Option.map (fun x : Addr => x.add (i * 3)) (some (⟨g, 0, none⟩ : Addr))) (l - i) (C - i), .slice (if C = i + 1 then some (⟨g, 0, none⟩ : Addr) else Option.map (fun x : Addr => x.add ((i + 1) * 3)) (some (⟨g, 0, none⟩ : Addr))) (l - (i + 1)) (C - (i + 1))])) w K := by
  have hc := h.le
  rw [if_neg (by omega), if_neg (by omega)]
  have hnl : (rows.drop (i + 1)).length = l - (i + 1) := by rw [List.length_drop, hl]
  refine copy_own und71 size24 h (news := (rows.drop (i + 1)).flatMap encP) ?_ (fun j u hj => ?_) ?_ encP_one fun w' h' g' => ?_
  · rw [flat_length encP_len, hnl, show Nat.min (l - (i + 1)) (l - i) = l - (i + 1) by show min (l - (i + 1)) (l - i) = l - (i + 1); omega]
  · refine h.cell2 ?_
    have e : rows.flatMap encP = (rows.take (i + 1)).flatMap encP ++ (rows.drop (i + 1)).flatMap encP := by rw [← List.flatMap_append, List.take_append_drop]
    have hlen : ((rows.take (i + 1)).flatMap encP).length = (i + 1) * 3 := by rw [flat_length encP_len, List.length_take]; congr 1; omega
    rw [e, List.getElem?_append_right (by omega), hlen, Nat.add_sub_cancel_left]
    exact hj
  · rw [flat_length encP_len, hnl, ← Nat.add_mul]
    exact Nat.mul_le_mul_right 3 (by omega)
  · have e := flat_over' encP_len rows (rows.drop (i + 1)) i (by rw [hnl]; omega)
    rw [e] at h'
    have hl1 : (rows.take i ++ rows.drop (i + 1)).length = l - 1 := by rw [List.length_append, hnl, List.length_take]; omega
    refine hK w' _ _ ?_ ?_ h' g'
    · rw [List.length_append, hl1, List.length_drop, hnl]; omega
    · rw [List.take_append_of_le_length (by omega), List.take_of_length_le (by omega)]

section
variable {w : World} {B t m : Nat} {M D : Nat → Prop} {S : List Prot} {P : List Pn}
set_option maxHeartbeats 2000000 in
theorem put_c {qo : Option Addr} {qc : Nat} {p : Prot} {A : Nat → Prop} (hfp : p.qs.length ≤ 9223372036854775807) (hq : Qs w A qo p.qs) (hAM : ∀ b, A b → ¬ M b) (hso : Sorted S) (hl : S.length ≤ 1000) (h : St w B t m M D S P) :
    Calls Try.prog 42 #[.pointer (some ⟨t, 0, none⟩), aggP p qo qc] w fun e w' => ∃ x q g r S' M' D', Ending' p x q ∧ IsGet S p.name p.version g ∧ IsNew S p.name r ∧ e = .returned (.int .i64 (putE q g r S.length p.version)) ∧
      (putE q g r S.length p.version = 0 → ∃ X Y, Cut S X Y p.name p.version ∧ hit Y p.name p.version = false ∧ S' = X ++ p :: Y) ∧ (putE q g r S.length p.version ≠ 0 → S' = S) ∧
      St w' B t m M' D' S' P ∧ Only M w w' ∧ (∀ b, M' b → M b ∨ hs w ≤ b) ∧ (∀ b, D' b → D b ∨ hs w ≤ b) := by
  obtain ⟨g0, hg0⟩ := get_exists S p.name p.version
  obtain ⟨r0, hr0⟩ := new_exists S p.name
  refine nf42 _ p.name p.version qo p.qs.length qc w _ fun w1 e1 => ?_
  have r1 := Row.new e1
  have g1 : Grow w w1 := only_alloc e1
  have bad : ∀ {w' : World} {x y : Int}, Ending' p x y → y ≠ 0 → Grow w w' → ∃ x q g r S' M' D', Ending' p x q ∧ IsGet S p.name p.version g ∧ IsNew S p.name r ∧ Ending.returned (.int .i64 y) = .returned (.int .i64 (putE q g r S.length p.version)) ∧
      (putE q g r S.length p.version = 0 → ∃ X Y, Cut S X Y p.name p.version ∧ hit Y p.name p.version = false ∧ S' = X ++ p :: Y) ∧ (putE q g r S.length p.version ≠ 0 → S' = S) ∧
      St w' B t m M' D' S' P ∧ Only M w w' ∧ (∀ b, M' b → M b ∨ hs w ≤ b) ∧ (∀ b, D' b → D b ∨ hs w ≤ b) := fun {w' x y} hE hy g => by
    have e : putE y g0 r0 S.length p.version = y := by unfold putE; rw [if_pos hy]
    exact ⟨x, y, g0, r0, S, M, D, hE, hg0, hr0, by rw [e], fun h0 => absurd (e.symm.trans h0) hy, fun _ => rfl, h.grow g, g.only, fun b hb => .inl hb, fun b hb => .inl hb⟩
  refine ⟨_, r1.cell rfl, _, r1.cell rfl, _, _, _, r1.cell rfl, (validate_c qo qc p hfp w1 (hq.grow g1)).mono ?_⟩
  rintro _ w2 ⟨⟨x2, rfl⟩, g2⟩
  have r2 := r1.grow g2
  have G2 := g1.trans' g2
  refine ⟨_, _, rfl, fun hv => ?_, fun hv => ⟨_, r2.cell rfl, _, r2.cell rfl, _, _, _, r2.cell rfl, (check_c qo qc p hfp w2 (hq.grow G2)).mono ?_⟩⟩
  · cases hvb : validB p with
    | true => rw [hvb] at hv; exact absurd rfl (nT hv)
    | false => exact bad (x := 0) (.inl ⟨hvb, rfl, rfl⟩) (by decide) G2
  rintro _ w3 ⟨x3, y3, rfl, hE, g3⟩
  have r3 := r2.grow g3
  have G3 := G2.trans' g3
  have h3 := h.grow G3
  obtain ⟨o, c, rt3, hp3⟩ := h3.read
  refine ⟨_, _, rfl, fun hy => bad hE (nT hy) G3, fun hy => ⟨_, r3.cell rfl, _, r3.cell rfl, (find_c p.name p.version hso hl rt3 hp3).mono ?_⟩⟩
  obtain rfl : y3 = 0 := nF hy
  have hv : validB p = true := by
    rcases hE with ⟨-, -, h⟩ | ⟨h, -⟩ | ⟨h, -⟩ | ⟨h, -⟩
    · cases h
    · exact h
    · exact h
    · exact h
  have V := valid_of hv
  rintro _ w4 ⟨X, Y, hc, rfl, g4⟩
  have r4 := r3.grow g4
  have G4 := G3.trans' g4
  have keep : ∀ {w' : World} {g r : Option Prot} {y : Int}, IsGet S p.name p.version g → IsNew S p.name r → y = putE 0 g r S.length p.version → y ≠ 0 → Grow w w' → ∃ x q g r S' M' D', Ending' p x q ∧ IsGet S p.name p.version g ∧ IsNew S p.name r ∧ Ending.returned (.int .i64 y) = .returned (.int .i64 (putE q g r S.length p.version)) ∧
      (putE q g r S.length p.version = 0 → ∃ X Y, Cut S X Y p.name p.version ∧ hit Y p.name p.version = false ∧ S' = X ++ p :: Y) ∧ (putE q g r S.length p.version ≠ 0 → S' = S) ∧
      St w' B t m M' D' S' P ∧ Only M w w' ∧ (∀ b, M' b → M b ∨ hs w ≤ b) ∧ (∀ b, D' b → D b ∨ hs w ≤ b) := fun {w' g r y} hg hr e hy gr =>
    ⟨x3, 0, g, r, S, M, D, hE, hg, hr, by rw [e], fun h0 => absurd (e.trans h0) hy, fun _ => rfl, h.grow gr, gr.only, fun b hb => .inl hb, fun b hb => .inl hb⟩
  refine ⟨_, _, rfl, fun hh => ?_, fun hh => ⟨_, r4.cell rfl, (newest_c p.name hso hl (rt3.grow g4) (hp3.grow g4)).mono ?_⟩⟩
  · obtain ⟨u, Y', -, h1, h2, h3⟩ := hc.some hh
    exact keep (g := some u) (r := r0) (.inr ⟨u, rfl, h1, h2, h3⟩) hr0 (by unfold putE; rfl) (by decide) G4
  rintro _ w5 ⟨x5, hx, rfl, g5⟩
  refine ⟨_, rfl, fun w37 e37 => ?_⟩
  have g37 : Grow w5 w37 := only_drew e37
  have r37 := (r4.grow g5).grow g37
  have G37 := (G4.trans' g5).trans' g37
  have gg := (g4.trans' g5).trans' g37
  have rt37 := rt3.grow gg
  have hp37 := hp3.grow gg
  have h37 := h3.grow gg
  have hgn : IsGet S p.name p.version none := .inl ⟨rfl, hc.none hso hh⟩
  refine ⟨fun hge => ?a, fun hlt => ?b⟩
  case' a =>
    rcases hx.new hso with ⟨rfl, -⟩ | ⟨k, hk, rfl, hn, hr⟩
    · have := dT hge; omega
    obtain ⟨a, ko, kc, ha, -, c0, c1, -, -⟩ := hp37.get hk
    refine ⟨_, rfl, _, _, _, rt37.cell rfl, a, ha, ⟨by omega, by omega⟩, _, c1, _, r37.cell rfl, fun hgt => ?_, fun hle => ⟨_, rfl, _, _, _, rt37.cell rfl, fun hful => ?_, fun hroom => ?_⟩⟩
    · have hlater : later (some S[k]) p.version = true := by unfold later; exact decide_eq_true (by have := dT hgt; omega)
      exact keep hgn hr (by unfold putE; rw [if_neg (by simp), if_neg (by simp), hlater, if_pos rfl]) (by decide) G37
    · have hlater : later (some S[k]) p.version = false := by unfold later; exact decide_eq_false (by have := dF hle; omega)
      exact keep hgn hr (by unfold putE; rw [if_neg (by simp), if_neg (by simp), hlater, if_neg (by simp), if_pos (by have := dT hful; omega)]) (by decide) G37
    obtain ⟨r, hr, hlater⟩ : ∃ r, IsNew S p.name r ∧ later r p.version = false := ⟨_, hr, by unfold later; exact decide_eq_false (by have := dF hle; omega)⟩
  case' b =>
    rcases hx.new hso with ⟨rfl, hr⟩ | ⟨k, hk, rfl, hn, hr⟩
    rotate_left
    · have := dF hlt; omega
    refine ⟨_, rfl, _, _, _, rt37.cell rfl, fun hful => ?_, fun hroom => ?_⟩
    · exact keep hgn hr (by unfold putE; rw [if_neg (by simp), if_neg (by simp), if_neg (by simp [later]), if_pos (by have := dT hful; omega)]) (by decide) G37
    obtain ⟨r, hr, hlater⟩ : ∃ r, IsNew S p.name r ∧ later r p.version = false := ⟨_, hr, rfl⟩
  all_goals
    have hroom : S.length < 100 := by have := dF hroom; omega
    have hput : putE 0 none r S.length p.version = 0 := by unfold putE; rw [if_neg (by simp), if_neg (by simp), hlater, if_neg (by simp), if_neg (by omega)]
    obtain ⟨o', c', rows, a1, a2, a3, a4, a5⟩ := h37.ex
    refine ⟨_, rfl, _, _, _, a1.cell rfl, fun w59 e59 => ?_⟩
    have g59 : Grow w37 w59 := only_alloc e59
    have rz : Row w59 (hs w37) 24 (encP zeroR) := Row.new e59
    have z37 := G37.size
    have z59 := hs_alloc e59
    have l1 := r1.lt
    have z1 := hs_alloc e1
    have z137 : hs w1 ≤ hs w37 := ((g2.trans' g3).trans' gg).size
    have hBt := (h.ms t h.mt).1
    have hB : B ≤ hs w59 := by have := (h.ms t h.mt).2; omega
    refine run_append_at elem71 (a2.grow g59) (news := encP zeroR) rfl (fun j u hj => rz.cellAdd hj) (by simp [encP, Value.oneCell']) (by simp [maxLen]; omega) (by omega) hB fun o6 c6 w62 p1 p2 p3 => ?_
    obtain ⟨g, l6, rfl, rg62, -, -, hBg⟩ := p1.head (by omega)
    have e6 : rows.flatMap encP ++ encP zeroR = (rows ++ [zeroR]).flatMap encP := by rw [List.flatMap_append]; simp
    rw [e6] at p1
    have rt59 := a1.grow g59
    have pins59 := h37.pins.grow g59
    have rt62 := rt59.keep p2 ((a2.grow g59).apartR rt59 (by decide))
    have hgM : M g ∨ g = hs w59 := by
      rcases p3 g ⟨_, rfl, rfl⟩ with hb | hb
      · exact .inl (a5 g hb)
      · exact .inr hb
    have pins62 := pins59.keep p2 fun hm => (map_neOwn pins59 (a2.grow g59)) _ hm rfl
    refine ⟨_, _, _, rfl, _, rfl, rt62.there (by simp), fun w67 e67 w69 e69 => ?_⟩
    have g67 : Only (fun b => b = t) w62 w67 := only_set e67
    have g69 : Grow w67 w69 := only_drew e69
    have rt69 := (rt62.set e67).grow g69
    have own69 := (p1.keep g67 fun b hb e => p1.apartR rt62 (by decide) (by rw [← e]; exact hb)).grow g69
    have pins69 := (pins62.keep g67 fun e => map_neRow pins62 rt62 e.symm).grow g69
    have hX : X.length ≤ S.length := by rw [hc.eq]; simp
    have hrl : rows.length = S.length := by rw [← a3]; simp
    have hw1 : IntKind.wrap .i64 ((X.length : Int) + 1) = ((X.length + 1 : Nat) : Int) := by rw [wr (by omega)]; omega
    rw [hw1]
    simp only [toNat_cast]
    refine ⟨_, rfl, _, _, _, rt69.cell rfl, ⟨by omega, by omega⟩, _, rfl, _, _, _, rt69.cell rfl, ⟨by omega, by omega⟩, shift_c own69 hrl hX fun w80 R n80 hR hRt hRd own80 g80 => ⟨_, rfl, fun w82 e82 => ?_⟩⟩
    have g82 : Grow w80 w82 := only_drew e82
    have hgt : t ≠ g := fun e => by
      have q := (rg62.inj (by rw [← e]; exact rt62)).2
      cases q
    have rt82 := (rt69.keep g80 hgt).grow g82
    have own82 := own80.grow g82
    have pins82 := (pins69.keep g80 fun e => (map_neOwn pins69 own69) g ⟨_, rfl, rfl⟩ e.symm).grow g82
    have hgw : g ≠ hs w := by
      rcases hgM with hb | hb
      · have := (h.ms g hb).2; omega
      · omega
    have htw : t ≠ hs w := by have := (h.ms t h.mt).2; omega
    have hmw : m ≠ hs w := by have := (h.ms m h.mm).2; omega
    have c62 : Only (fun b => M b ∨ b = g) w37 w62 := (Grow.only g59).trans p2 fun b _ hb => .inl (a5 b hb)
    have c69 := (c62.trans g67 fun b _ e => .inl (by rw [e]; exact h.mt)).grow g69
    have c82 := (c69.trans g80 fun b _ e => .inr e).grow g82
    have up : ∀ {w' : World}, Only (fun b => M b ∨ b = g) w37 w' → Only M w w' := fun c => (Grow.only (S := M) G37).trans c fun b hb hX => by
      rcases hX with q | q
      · exact q
      · rcases hgM with k | k
        · rw [q]; exact k
        · omega
    have z82 := c82.size
    have r82 : Row w82 (hs w) 24 [.string p.name, .int .i64 p.version, .slice qo p.qs.length qc] := r37.keep c82 fun hb => by
      rcases hb with q | q
      · have := (h.ms _ q).2; omega
      · exact hgw q.symm
    have htop := V.top
    refine ⟨_, rfl, _, _, _, rt82.cell rfl, _, r82.cell rfl, _, r82.cell rfl, _, _, _, r82.cell rfl, (cloneP_c qo qc p (by omega) (fun q hq' => by have := V.ans q hq'; omega) w82 (hq.keep (up c82) hAM)).mono ?_⟩
    rintro _ w94 ⟨o97, c98, rfl, hq94, g94⟩
    have own94 := own82.grow g94
    have z94 := g94.size
    refine ⟨_, _, _, _, _, rfl, kept_only g94 rt82.lt (fun h => h), _, rfl, ⟨by omega, by omega⟩, own94.there (by omega), fun w101 e101 => ?_⟩
    have g101 : Only (fun b => b = g) w94 w101 := only_setAdd e101
    have own101 := own94.set e101 (by simp only [List.length_cons, List.length_nil]; omega)
    have hset : setFrom (R.flatMap encP) (X.length * 3) [.string p.name, .int .i64 p.version, .slice o97 p.qs.length c98] = (R.set X.length (p, o97, c98)).flatMap encP := by
      have := flat_set encP_len R X.length 0 [.string p.name, .int .i64 p.version, .slice o97 p.qs.length c98] (p, o97, c98) (by omega) (by simp) rfl
      rw [Nat.add_zero] at this
      exact this
    have hRs : R.set X.length (p, o97, c98) = rows.take X.length ++ (p, o97, c98) :: rows.drop X.length := by
      rw [List.set_eq_take_append_cons_drop, if_pos (by omega), hRt, hRd]
    rw [hset, hRs] at own101
    have hS' : (rows.take X.length ++ (p, o97, c98) :: rows.drop X.length).map (·.1) = X ++ p :: Y := by
      rw [List.map_append, List.map_cons, List.map_take, List.map_drop, a3, hc.eq, List.take_left, List.drop_left]
    have hlen' : (X ++ p :: Y).length = S.length + 1 := by rw [hc.eq]; simp only [List.length_append, List.length_cons]; omega
    have c101 := (c82.grow g94).trans g101 fun b _ e => .inr e
    have z101 := g101.size
    have rt101 := (rt82.grow g94).keep g101 hgt
    have pins101 := (pins82.grow g94).keep g101 fun e => (map_neOwn (pins82.grow g94) own94) g ⟨_, rfl, rfl⟩ e.symm
    have hgl := (own101.base g ⟨_, rfl, rfl⟩).2
    have hg62 := rg62.lt
    have z62 : hs w62 ≤ hs w82 := by
      have := g67.size; have := g69.size; have := g80.size; have := g82.size
      omega
    have hDg : ∀ b, D b → ¬ (M b ∨ b = g) := fun b hb hX => by
      rcases hX with q | q
      · exact (h.ds b hb).2 q
      · rcases hgM with k | k
        · exact (h.ds b hb).2 (by rw [q]; exact k)
        · have := (h.ds b hb).1; omega
    refine ⟨x3, 0, none, r, X ++ p :: Y, (fun b => M b ∨ b = g), (fun b => D b ∨ (hs w82 ≤ b ∧ b < hs w94)), hE, hgn, hr, by rw [hput], fun _ => ⟨X, Y, hc, hh, rfl⟩, fun hne => absurd hput hne,
      ⟨⟨_, c6, _, by rw [hlen']; exact rt101, by rw [hlen']; exact own101, hS', fun x hx => ?_, fun b hb => ?_⟩, pins101, .inl h.mt, .inl h.mm, fun b hb => ?_, fun b hb => ?_, h.one⟩, up c101, fun b hb => ?_, fun b hb => ?_⟩
    · have old : x ∈ rows → Qs w101 (fun b => D b ∨ (hs w82 ≤ b ∧ b < hs w94)) x.2.1 x.1.qs := fun hx => ((a4 x hx).keep c101 hDg).mono fun b hb => .inl hb
      rcases List.mem_append.1 hx with hx | hx
      · exact old (List.mem_of_mem_take hx)
      · rcases List.mem_cons.1 hx with rfl | hx
        · exact (hq94.keep g101 fun b hb e => by omega).mono fun b hb => .inr hb
        · exact old (List.mem_of_mem_drop hx)
    · obtain ⟨a, ha, rfl⟩ := hb
      cases ha
      exact .inr rfl
    · rcases hb with q | q
      · exact ⟨(h.ms b q).1, by have := (h.ms b q).2; omega⟩
      · exact ⟨by omega, by omega⟩
    · rcases hb with q | q
      · exact ⟨by have := (h.ds b q).1; omega, hDg b q⟩
      · refine ⟨by omega, fun hX => ?_⟩
        rcases hX with k | k
        · have := (h.ms b k).2; omega
        · omega
    · rcases hb with q | q
      · exact .inl q
      · rcases hgM with k | k
        · rw [q]; exact .inl k
        · exact .inr (by omega)
    · rcases hb with q | q
      · exact .inl q
      · exact .inr (by omega)
end

theorem run_entryK {w : World} {it : Nat} {k x : Value} {K : Value → World → Prop} (hr : (Instr.entry (.pointer (some ⟨it, 0, none⟩))).run Try.prog w = .ok (.tuple #[k, x]) w) (h : K (.tuple #[k, x]) w) :
    RunOk Try.prog (Hold (Instr.entry (.pointer (some ⟨it, 0, none⟩)))) w K := ⟨_, w, hr, h⟩
def matchB (n : ByteArray) (v : Int) (p : Pn) : Bool := strEq p.name n && decide (p.version = v)
section
variable {w : World} {B t m : Nat} {M D : Nat → Prop} {S : List Prot} {P : List Pn}
set_option maxHeartbeats 2000000 in
theorem drop_c (n : ByteArray) (v : Int) (hso : Sorted S) (hl : S.length ≤ 1000) (h : St w B t m M D S P) :
    Calls Try.prog 53 #[.pointer (some ⟨t, 0, none⟩), .string n, .int .i64 v] w fun e w' => ∃ g r S', IsGet S n v g ∧ IsNew S n r ∧ e = .returned (.int .i64 (dropE g r P n v)) ∧
      (dropE g r P n v = 0 → S' = S.filter (offB n v)) ∧ (dropE g r P n v ≠ 0 → S' = S) ∧ St w' B t m M D S' P ∧ Only M w w' := by
  obtain ⟨o, c, rt, hp⟩ := h.read
  refine nf53 _ n v w _ ((find_c n v hso hl rt hp).mono ?_)
  rintro _ w2 ⟨X, Y, hc, rfl, g2⟩
  have keep : ∀ {w' : World} {g r : Option Prot} {y : Int}, IsGet S n v g → IsNew S n r → y = dropE g r P n v → y ≠ 0 → Grow w w' → ∃ g r S', IsGet S n v g ∧ IsNew S n r ∧ Ending.returned (.int .i64 y) = .returned (.int .i64 (dropE g r P n v)) ∧
      (dropE g r P n v = 0 → S' = S.filter (offB n v)) ∧ (dropE g r P n v ≠ 0 → S' = S) ∧ St w' B t m M D S' P ∧ Only M w w' := fun {w' g r y} hg hr e hy gr =>
    ⟨g, r, S, hg, hr, by rw [e], fun h0 => absurd (e.trans h0) hy, fun _ => rfl, h.grow gr, gr.only⟩
  refine ⟨_, _, rfl, fun hh => (newest_c n hso hl (rt.grow g2) (hp.grow g2)).mono ?_, fun hh => ?_⟩
  rotate_left
  · obtain ⟨r0, hr0⟩ := new_exists S n
    exact keep (g := none) (r := r0) (.inl ⟨rfl, hc.none hso hh⟩) hr0 rfl (by decide) g2
  rintro _ w7 ⟨x, hx, rfl, g7⟩
  obtain ⟨u, Y', rfl, hmem, hun, huv⟩ := hc.some hh
  have hXl : X.length < S.length := by rw [hc.eq]; simp
  have hu : S[X.length] = u := by simp [hc.eq]
  have hg : IsGet S n v (some u) := .inr ⟨u, rfl, hmem, hun, huv⟩
  have G7 := g2.trans' g7
  rcases hx.new hso with ⟨rfl, hr⟩ | ⟨k, hk, rfl, hkn, hr⟩
  · rcases hr with ⟨-, hr⟩ | ⟨t, ht, -⟩
    · exact absurd hun (hr u hmem)
    · cases ht
  have hver : ((some S[k]).getD zeroP).version = S[k].version := rfl
  refine ⟨_, rfl, fun hi => ?_, fun hi => ?_⟩
  · have hi := dT hi
    have hkx : k = X.length := by omega
    subst hkx
    refine keep hg hr ?_ (by decide) G7
    unfold dropE
    rw [if_neg (by simp), if_pos (by rw [hver, hu]; exact huv)]
  have hi := dF hi
  have hkx : X.length < k := by
    rcases Nat.lt_trichotomy X.length k with q | q | q
    · exact q
    · exact absurd (by rw [q]) hi
    · have hb := sorted_get hso q hXl
      rw [hu] at hb
      rcases hb with hb | ⟨-, hb⟩
      · rw [hkn, hun, ltB_irrefl] at hb; cases hb
      · rcases hr with ⟨hr, -⟩ | ⟨t, ht, -, -, hm⟩
        · cases hr
        · cases ht
          have := hm u hmem hun
          omega
  have hvk : S[k].version ≠ v := fun e => by
    have hb := sorted_get hso hkx hk
    rw [hu] at hb
    rcases hb with hb | ⟨-, hb⟩
    · rw [hkn, hun, ltB_irrefl] at hb; cases hb
    · omega
  have hd : dropE (some u) (some S[k]) P n v = if busy P n v = true then 10 else 0 := by
    unfold dropE
    rw [if_neg (by simp), if_neg (by rw [hver]; exact hvk)]
  have h7 := h.grow G7
  have rt7 := rt.grow G7
  refine ⟨_, rfl, _, rt7.cellAdd rfl, map_range und115 h7.pins fun w14 hI g14 hlt14 => ⟨_, rfl, fun k' w' => ∃ todo : List (Int × Value), k' = todo.length ∧ IterAt w' (hs w7) m (P.map pinV) todo ∧ (∀ q, q ∈ todo → q ∈ P.map pinV) ∧ (∀ p, p ∈ P → matchB n v p = true → pinV p ∈ todo) ∧ Only (fun b => b = hs w7) w14 w',
    ⟨_, P.map pinV, rfl, hI, fun q hq => hq, fun p hp _ => List.mem_map_of_mem hp, Only.refl _ _⟩, ?_⟩⟩
  rintro k' _ w20 ⟨todo, rfl, hI, hsub, hall, g20⟩
  have z7 := G7.size
  have G14 := G7.trans' g14
  have G20 : Grow w w20 := G14.trans g20 fun b hb e => by omega
  refine map_next hI (fun he => ⟨false, .bool false, .bool false, fun hb => (by cases hb), fun _ => ⟨rfl, fun hb => (by cases hb), fun _ w48 e48 => ?_⟩⟩) (fun A q C w23 he hI' g23 hent => ⟨true, _, _, fun _ => ⟨rfl, fun _ => run_entryK hent ?_, fun hb => (by cases hb)⟩, fun hb => (by cases hb)⟩)
  · subst he
    have hb : busy P n v = false := by
      unfold busy
      rw [List.any_eq_false]
      intro p hp hm
      have := hall p hp hm
      cases this
    rw [hb, if_neg Bool.false_ne_true] at hd
    have g48 : Grow w20 w48 := only_drew e48
    have G48 := G20.trans' g48
    have h48 := h.grow G48
    obtain ⟨o', c', rows, a1, a2, a3, a4, a5⟩ := h48.ex
    have hrl : rows.length = S.length := by rw [← a3]; simp
    obtain ⟨g, l', rfl, rg, -, -, hBg⟩ := a2.head (by omega)
    have hw1 : IntKind.wrap .i64 ((X.length : Int) + 1) = ((X.length + 1 : Nat) : Int) := by rw [wr (by omega)]; omega
    have hw2 : IntKind.wrap .i64 ((S.length : Int) - 1) = ((S.length - 1 : Nat) : Int) := by rw [wr (by omega)]; omega
    rw [hw1]
    simp only [toNat_cast]
    have hMg : M g := a5 g ⟨_, rfl, rfl⟩
    have hcap := a2.le
    have hgt : t ≠ g := fun e => by
      have q := (rg.inj (by rw [← e]; exact a1)).2
      cases q
    refine ⟨_, rfl, _, _, _, a1.cell rfl, ⟨by omega, by omega⟩, _, rfl, _, _, _, a1.cell rfl, ⟨by omega, by omega⟩, close_c a2 hrl (by omega) fun w59 R n59 hR hRt own59 g59 => ⟨_, rfl, fun w61 e61 => ?_⟩⟩
    have g61 : Grow w59 w61 := only_drew e61
    have rt61 := (a1.keep g59 hgt).grow g61
    have own61 := own59.grow g61
    refine ⟨_, rfl, _, _, _, rt61.cell rfl, _, rfl, _, _, _, rt61.cell rfl, _, rfl, ?_⟩
    rw [hw2]
    simp only [toNat_cast]
    refine ⟨⟨by omega, by omega⟩, own61.there (by omega), fun w72 e72 w74 e74 => ?_⟩
    have g72 : Only (fun b => b = g) w61 w72 := only_setAdd e72
    have own72 := own61.set e72 (by simp only [List.length_cons, List.length_nil]; omega)
    have hset : setFrom (R.flatMap encP) ((S.length - 1) * 3) [.string (ByteArray.mk #[]), .int .i64 0, .slice none 0 0] = (R.set (S.length - 1) zeroR).flatMap encP := by
      have := flat_set encP_len R (S.length - 1) 0 [.string (ByteArray.mk #[]), .int .i64 0, .slice none 0 0] zeroR (by omega) (by simp) rfl
      rw [Nat.add_zero] at this
      exact this
    rw [hset] at own72
    have g74 : Grow w72 w74 := only_drew e74
    have rt74 := (rt61.keep g72 hgt).grow g74
    have own74 := own72.grow g74
    refine ⟨_, rfl, _, _, _, rt74.cell rfl, _, rfl, _, _, _, rt74.cell rfl, ?_⟩
    rw [hw2]
    simp only [toNat_cast]
    refine ⟨⟨by omega, by omega⟩, _, rfl, rt74.there (by simp), fun w85 e85 => ?_⟩
    have hsame : (if c' = 0 then some (⟨g, 0, none⟩ : Addr) else Option.map (fun x => x) (some (⟨g, 0, none⟩ : Addr))) = some ⟨g, 0, none⟩ := by split <;> rfl
    rw [hsame, Nat.sub_zero, Nat.sub_zero] at e85
    have g85 : Only (fun b => b = t) w74 w85 := only_set e85
    have rt85 := rt74.set e85
    have own85 := (Own.fewer own74 (show S.length - 1 ≤ S.length by omega)).keep g85 fun b hb e => by
      obtain ⟨a, ha, rfl⟩ := hb
      cases ha
      exact hgt e.symm
    rw [flat_take encP_len _ _ (by rw [List.length_set]; omega), List.take_set_of_le (by omega), hRt] at own85
    have hS' : (rows.take X.length ++ rows.drop (X.length + 1)).map (·.1) = X ++ Y' := by
      rw [List.map_append, List.map_take, List.map_drop, a3, hc.eq, List.take_left]
      congr 1
      rw [show X.length + 1 = (X ++ [u]).length by simp, show X ++ u :: Y' = (X ++ [u]) ++ Y' by simp, List.drop_left]
    have hlen' : (X ++ Y').length = S.length - 1 := by rw [hc.eq]; simp
    have c85 : Only M w20 w85 := (((((Grow.only (S := M) g48).trans g59 fun b _ e => by rw [e]; exact hMg).grow g61).trans g72 fun b _ e => by rw [e]; exact hMg).grow g74).trans g85 fun b _ e => by rw [e]; exact h.mt
    have pins85 := ((((h48.pins.keep g59 fun e => (map_neOwn h48.pins a2) g ⟨_, rfl, rfl⟩ e.symm).grow g61).keep g72 fun e => (map_neOwn h48.pins a2) g ⟨_, rfl, rfl⟩ e.symm).grow g74).keep g85 fun e => (map_neRow h48.pins a1) e.symm
    have up : Only M w w85 := (Grow.only (S := M) G20).trans' c85
    have d85 : Only M w48 w85 := ((((g59.mono fun b _ e => by rw [e]; exact hMg).grow g61).trans g72 fun b _ e => by rw [e]; exact hMg).grow g74).trans g85 fun b _ e => by rw [e]; exact h.mt
    have hz := up.size
    have hfil : S.filter (offB n v) = X ++ Y' := by
      have := hc
      rw [← hun, ← huv] at this ⊢
      exact this.erase hso
    refine ⟨some u, some S[k], X ++ Y', hg, hr, by rw [hd], fun _ => hfil.symm, fun hne => absurd hd hne,
      ⟨⟨some ⟨g, 0, none⟩, c', _, by rw [hlen']; exact rt85, by rw [hlen']; exact own85, hS', fun x hx => ?_, fun b hb => a5 b hb⟩, pins85, h.mt, h.mm, fun b hb => ⟨(h.ms b hb).1, by have := (h.ms b hb).2; omega⟩, fun b hb => ⟨by have := (h.ds b hb).1; omega, (h.ds b hb).2⟩, h.one⟩, up⟩
    have : x ∈ rows := by
      rcases List.mem_append.1 hx with hx | hx
      · exact List.mem_of_mem_take hx
      · exact List.mem_of_mem_drop hx
    exact (a4 x this).keep d85 fun b hb => (h.ds b hb).2
  · have hqm : q ∈ todo := by rw [he]; simp
    obtain ⟨p, hpP, rfl⟩ := List.mem_map.1 (hsub q hqm)
    have G23 : Grow w w23 := G20.trans g23 fun b hb e => by omega
    refine ⟨_, _, rfl, _, _, rfl, fun w35 e35 => ⟨(Row.new e35).there (by simp), fun w37 e37 => ?_⟩⟩
    obtain ⟨r37, g37⟩ := loc e35 e37 rfl
    have G37 := G23.trans' g37
    have next : matchB n v p = false → ∃ n44, n44 < todo.length ∧ ∃ todo' : List (Int × Value), n44 = todo'.length ∧ IterAt w37 (hs w7) m (P.map pinV) todo' ∧ (∀ q, q ∈ todo' → q ∈ P.map pinV) ∧ (∀ p, p ∈ P → matchB n v p = true → pinV p ∈ todo') ∧ Only (fun b => b = hs w7) w14 w37 := fun hm =>
      ⟨_, by rw [he]; simp only [List.length_append, List.length_cons]; omega, A ++ C, rfl, hI'.grow g37, fun q hq => hsub q (by rw [he]; simp only [List.mem_append, List.mem_cons] at hq ⊢; rcases hq with hq | hq; exact .inl hq; exact .inr (.inr hq)), fun p' hp' hm' => by
        have := hall p' hp' hm'
        rw [he] at this
        simp only [List.mem_append, List.mem_cons] at this ⊢
        rcases this with q | q | q
        · exact .inl q
        · have e1 : p'.name = p.name ∧ p'.version = p.version := by
            simp only [pinV, Prod.mk.injEq, Value.agg.injEq, Array.mk.injEq, List.cons.injEq, Value.string.injEq, Value.int.injEq, true_and, and_true] at q
            exact q.2
          unfold matchB at hm hm'
          rw [e1.1, e1.2, hm] at hm'
          cases hm'
        · exact .inr q, (g20.trans' g23).grow g37⟩
    refine ⟨_, r37.cell rfl, fun h1 => ⟨_, r37.cell rfl, fun h2 => ?_, fun h2 => next ?_⟩, fun h1 => next ?_⟩
    · have hb : busy P n v = true := List.any_eq_true.2 ⟨p, hpP, by rw [h1, h2]; rfl⟩
      rw [hb, if_pos rfl] at hd
      exact keep hg hr hd.symm (by decide) G37
    · unfold matchB; rw [h1, h2]; rfl
    · unfold matchB; rw [h1]; rfl
end
end Go.Proofs.Ytbaacpfjecbbgaa
