/- The order in which the questions are visited: each behind all that can follow it. -/
import Derived.Test.YtbaacpfjecbbgaaNf3
import Derived.Test.YtbaacpfjecbbgaaHs
namespace Go.Proofs.Ytbaacpfjecbbgaa
open Go Go.Nf

/-! ### Plain -/
theorem count_mono : ∀ (d d' : List Bool), d.length = d'.length → (∀ x, gB d x = true → gB d' x = true) → d.count true ≤ d'.count true
  | [], [], _, _ => Nat.le_refl _
  | [], _ :: _, h, _ => by simp at h
  | _ :: _, [], h, _ => by simp at h
  | a :: d, b :: d', h, hs => by
    have ih := count_mono d d' (by simpa using h) (fun x hx => by have := hs (x + 1) (by simpa [gB] using hx); simpa [gB] using this)
    have h0 := hs 0
    cases a <;> cases b <;> simp [gB] at h0 ⊢ <;> omega
/-- each behind all that can follow it, none twice -/
structure Topo (nx : Nat → List Nat) (l : List Nat) : Prop where
  nodup : ∀ (i j x : Nat), l[i]? = some x → l[j]? = some x → i = j
  follows : ∀ (i x : Nat), l[i]? = some x → ∀ y, y ∈ nx x → ∃ j : Nat, j < i ∧ l[j]? = some y
theorem topo_nil (nx : Nat → List Nat) : Topo nx [] := ⟨fun i j x h => by simp at h, fun i x h => by simp at h⟩
theorem Topo.snoc {nx : Nat → List Nat} {l : List Nat} {q : Nat} (h : Topo nx l) (hq : q ∉ l) (hf : ∀ y, y ∈ nx q → y ∈ l) : Topo nx (l ++ [q]) := by
  have at' : ∀ (i x : Nat), (l ++ [q])[i]? = some x → (i < l.length ∧ l[i]? = some x) ∨ (i = l.length ∧ x = q) := fun i x hi => by
    rcases Nat.lt_or_ge i l.length with hl | hl
    · rw [List.getElem?_append_left hl] at hi; exact .inl ⟨hl, hi⟩
    · rw [List.getElem?_append_right hl] at hi
      have : i - l.length = 0 := by
        rcases Nat.eq_zero_or_pos (i - l.length) with h | h
        · exact h
        · rw [List.getElem?_eq_none (by simp; omega)] at hi; cases hi
      rw [this] at hi
      exact .inr ⟨by omega, by simpa using hi.symm⟩
  refine ⟨fun i j x hi hj => ?_, fun i x hi y hy => ?_⟩
  · rcases at' i x hi with ⟨h1, h2⟩ | ⟨h1, rfl⟩ <;> rcases at' j _ hj with ⟨h3, h4⟩ | ⟨h3, h4⟩
    · exact h.nodup i j x h2 h4
    · subst h4; exact absurd (List.mem_of_getElem? h2) hq
    · exact absurd (List.mem_of_getElem? h4) hq
    · omega
  · rcases at' i x hi with ⟨h1, h2⟩ | ⟨h1, rfl⟩
    · obtain ⟨j, hj, hy⟩ := h.follows i x h2 y hy
      exact ⟨j, hj, by rw [List.getElem?_append_left (by omega)]; exact hy⟩
    · obtain ⟨j, hj, e⟩ := List.getElem_of_mem (hf y hy)
      exact ⟨j, by omega, by rw [List.getElem?_append_left hj, List.getElem?_eq_getElem hj, e]⟩
/-- what has been visited, what is finished -/
structure Vs (nx : Nat → List Nat) (n q0 : Nat) (d : List Bool) (l : List Nat) : Prop where
  len : d.length = n
  topo : Topo nx l
  seen : ∀ x, x ∈ l → gB d x = true
  from0 : ∀ x, x ∈ l → Rch nx q0 x
  few : l.length ≤ d.count true
/-- .. and has grown -/
structure Gr (d : List Bool) (l : List Nat) (d' : List Bool) (l' : List Nat) : Prop where
  more : ∃ m, l' = l ++ m
  seen : ∀ x, gB d x = true → gB d' x = true
  gray : ∀ x, (gB d' x = true ∧ x ∉ l') ↔ (gB d x = true ∧ x ∉ l)
  few : l'.length + d.count true ≤ l.length + d'.count true
theorem Gr.refl (d : List Bool) (l : List Nat) : Gr d l d l := ⟨⟨[], by simp⟩, fun _ h => h, fun _ => Iff.rfl, Nat.le_refl _⟩
theorem Gr.trans {a b c : List Bool} {l m k : List Nat} (h : Gr a l b m) (g : Gr b m c k) : Gr a l c k := by
  obtain ⟨x, hx⟩ := h.more
  obtain ⟨y, hy⟩ := g.more
  exact ⟨⟨x ++ y, by rw [hy, hx, List.append_assoc]⟩, fun z hz => g.seen z (h.seen z hz), fun z => (g.gray z).trans (h.gray z), by have := h.few; have := g.few; omega⟩
theorem cyc_of_back {nx : Nat → List Nat} {x q y : Nat} (h : Rch nx x q) (hy : y ∈ nx q) (e : x = y) : Cyc nx y := by
  subst e
  cases h with
  | refl => exact ⟨_, hy, .refl _⟩
  | step hs hr => exact ⟨_, hs, hr.snoc hy⟩

/-! ### The closure's boxes -/
structure VisAt (w : World) (B c0 c1 c2 c3 bv n : Nat) (o : Option Addr) (c : Nat) (d : List Bool) (l : List Nat) (lo : Option Addr) (lc : Nat) : Prop where
  r0 : Row w c0 99 [.slice (some ⟨bv, 0, none⟩) n n]
  r1 : Row w c1 91 [.slice o n c]
  r2 : Row w c2 159 [.func (.func 121) #[] #[.pointer (some ⟨c0, 0, none⟩), .pointer (some ⟨c1, 0, none⟩), .pointer (some ⟨c2, 0, none⟩), .pointer (some ⟨c3, 0, none⟩)]]
  r3 : Row w c3 48 [.slice lo l.length lc]
  rv : Row w bv 4 (boolsV d)
  own : Own w B 3 1 lo l.length lc (intsV (castL l))
  base : B ≤ c0 ∧ B ≤ c1 ∧ B ≤ c2 ∧ B ≤ c3 ∧ B ≤ bv
end Go.Proofs.Ytbaacpfjecbbgaa
namespace Go.Nf
open Go Go.Proofs.Ytbaacpfjecbbgaa
theorem Row.ne {w : World} {b b' : Nat} {T T' : TypeId} {l l' : List Value} (h : Row w b T l) (h' : Row w b' T' l') (ht : T ≠ T') : b ≠ b' := fun e => by
  subst e
  exact ht (h.inj h').2
end Go.Nf
namespace Go.Proofs.Ytbaacpfjecbbgaa
open Go Go.Nf
theorem VisAt.keep {S : Nat → Prop} {w w' : World} {B c0 c1 c2 c3 bv n : Nat} {o lo : Option Addr} {c lc : Nat} {d : List Bool} {l : List Nat} (h : VisAt w B c0 c1 c2 c3 bv n o c d l lo lc) (g : Only S w w') (hS : ∀ b, B ≤ b → ¬ S b) : VisAt w' B c0 c1 c2 c3 bv n o c d l lo lc :=
  have b := h.base
  ⟨h.r0.keep g (hS _ b.1), h.r1.keep g (hS _ b.2.1), h.r2.keep g (hS _ b.2.2.1), h.r3.keep g (hS _ b.2.2.2.1), h.rv.keep g (hS _ b.2.2.2.2), h.own.keep g fun x hx => hS x (h.own.base x hx).1, b⟩
theorem castL_snoc (l : List Nat) (q : Nat) : castL (l ++ [q]) = castL l ++ [(q : Int)] := by simp [castL]
theorem nxR_get {rows : List (List Int)} {q : Nat} (h : q < rows.length) : nxR rows q = rows[q].map Int.toNat := by unfold nxR; rw [List.getElem?_eq_getElem h]; rfl

set_option maxHeartbeats 2000000 in
theorem visit_c {B c0 c1 c2 c3 bv c q0 : Nat} {o : Option Addr} {rows : List (List Int)} {A : Nat → Prop} (hn : rows.length ≤ 100) (hR : OkRows rows) (hA : ∀ b, A b → b < B) (hac : ∀ j, Rch (nxR rows) q0 j → ¬ Cyc (nxR rows) j) :
    ∀ (k : Nat) (w : World) (q : Nat) (d : List Bool) (l : List Nat) (lo : Option Addr) (lc : Nat), rows.length - d.count true ≤ k → VisAt w B c0 c1 c2 c3 bv rows.length o c d l lo lc → Mat w A o rows → Vs (nxR rows) rows.length q0 d l →
      q < rows.length → Rch (nxR rows) q0 q → gB d q = false → (∀ x, gB d x = true → x ∉ l → Rch (nxR rows) x q) → B ≤ hs w →
      Calls Try.prog 121 #[.int .i64 q, .pointer (some ⟨c0, 0, none⟩), .pointer (some ⟨c1, 0, none⟩), .pointer (some ⟨c2, 0, none⟩), .pointer (some ⟨c3, 0, none⟩)] w fun e w' => e = .returned (.tuple #[]) ∧ ∃ d' l' lo' lc', VisAt w' B c0 c1 c2 c3 bv rows.length o c d' l' lo' lc' ∧
        Vs (nxR rows) rows.length q0 d' l' ∧ Gr d l d' l' ∧ q ∈ l' ∧ Only (fun b => B ≤ b) w w' := by
  intro k
  induction k with
  | zero =>
    intro w q d l lo lc hk _ _ hV hq _ hd _ _
    have h1 := count_set_true d q (by rw [hV.len]; exact hq) hd
    have h2 := count_le (d.set q true)
    rw [List.length_set, hV.len] at h2
    omega
  | succ k ih =>
    intro w q d l lo lc hk hM hMat hV hq hrq hd hgray hBw
    have hlen := hV.len
    have hcnt := count_set_true d q (by omega) hd
    have hb := hM.base
    refine nf121 q c0 c1 c2 c3 w _ ⟨_, _, _, hM.r0.cell rfl, _, rfl, ⟨by omega, by omega⟩, hM.rv.thereAdd (by rw [toNat_cast, boolsV_len]; simp; omega), fun w5 e5 => ?_⟩
    have rv5 := hM.rv.setAdd e5
    rw [boolsV_set] at rv5
    have g5 : Only (fun b => b = bv) w w5 := only_setAdd e5
    have G5 : Only (fun b => B ≤ b) w w5 := g5.mono fun b _ e => by rw [e]; exact hb.2.2.2.2
    have hM5 : VisAt w5 B c0 c1 c2 c3 bv rows.length o c (d.set q true) l lo lc :=
      ⟨hM.r0.keep g5 (hM.r0.ne hM.rv (by decide)), hM.r1.keep g5 (hM.r1.ne hM.rv (by decide)), hM.r2.keep g5 (hM.r2.ne hM.rv (by decide)), hM.r3.keep g5 (hM.r3.ne hM.rv (by decide)), rv5, hM.own.keep g5 fun b hx e => by
        rw [e] at hx; exact hM.own.apartR hM.rv (by decide) hx, hb⟩
    have hMat5 := hMat.keep G5 fun b hb h => by have := hA b hb; omega
    obtain ⟨a, oi, ci, ha, hc, hN⟩ := hMat5.get hq
    have hrow := hR q _ (List.getElem?_eq_getElem hq)
    have hnx := nxR_get hq
    generalize hxs : rows[q] = xs at *
    have hgd : ∀ x, gB (d.set q true) x = true ↔ x = q ∨ gB d x = true := fun x => by
      rw [gB_set (by omega)]
      by_cases e : x = q
      · simp [e]
      · simp [e]
    have hql : q ∉ l := fun h => by rw [hV.seen q h] at hd; cases hd
    refine ⟨_, _, _, hM5.r1.cell rfl, a, ha, ⟨by omega, by omega⟩, _, _, _, hc, fun k x w' => ∃ (u : Nat) (d' : List Bool) (l' : List Nat) (lo' : Option Addr) (lc' : Nat), x = (u : Int) ∧ u ≤ xs.length ∧ k = xs.length - u ∧ VisAt w' B c0 c1 c2 c3 bv rows.length o c d' l' lo' lc' ∧
      Vs (nxR rows) rows.length q0 d' l' ∧ Gr (d.set q true) l d' l' ∧ (∀ (v : Nat) (h : v < xs.length), v < u → xs[v].toNat ∈ l') ∧ Only (fun b => B ≤ b) w5 w',
      ⟨_, 0, _, l, lo, lc, rfl, Nat.zero_le _, rfl, hM5, ⟨by simpa using hlen, hV.topo, fun x hx => (hgd x).2 (.inr (hV.seen x hx)), hV.from0, by have := hV.few; omega⟩, Gr.refl _ _, fun v _ hv => by omega, Only.refl _ _⟩, ?_⟩
    rintro k' _ w6 x ⟨u, d', l', lo', lc', rfl, hu, rfl, hM6, hV6, hG6, hdone, g6⟩
    have hs6 := g6.size
    have hAB : ∀ b, A b → ¬ B ≤ b := fun b hb h => by have := hA b hb; omega
    have hMat6 := hMat5.keep g6 hAB
    have hN6 := hN.keep g6 hAB
    have hs5 := G5.size
    have hgray6 : ∀ x, gB d' x = true → x ∉ l' → x = q ∨ (gB d x = true ∧ x ∉ l) := fun x h1 h2 => by
      have := (hG6.gray x).1 ⟨h1, h2⟩
      rcases (hgd x).1 this.1 with e | e
      · exact .inl e
      · exact .inr ⟨e, this.2⟩
    have hqg : gB d' q = true ∧ q ∉ l' := (hG6.gray q).2 ⟨(hgd q).2 (.inl rfl), hql⟩
    refine ⟨fun hlt K hK => ?_, fun hge => ?_⟩
    · have hlt : u < xs.length := by have := dT hlt; omega
      have next : ∀ w' d'' l'' lo'' lc'', VisAt w' B c0 c1 c2 c3 bv rows.length o c d'' l'' lo'' lc'' → Vs (nxR rows) rows.length q0 d'' l'' → Gr d' l' d'' l'' → xs[u].toNat ∈ l'' → Only (fun b => B ≤ b) w5 w' → K w' := by
        intro w' d'' l'' lo'' lc'' q1 q2 q3 q4 q5
        refine hK _ fun _ => ⟨_, by omega, u + 1, d'', l'', lo'', lc'', by rw [wr (by omega)]; omega, hlt, rfl, q1, q2, hG6.trans q3, fun v hv hvu => ?_, q5⟩
        by_cases e : v = u
        · subst e; exact q4
        · obtain ⟨m, hm⟩ := q3.more
          rw [hm]; exact List.mem_append.2 (.inl (hdone v hv (by omega)))
      obtain ⟨a', ha', hc'⟩ := hN6.get hlt
      have hy := hrow.2 _ (List.getElem_mem hlt)
      obtain ⟨y, hyy⟩ : ∃ y : Nat, xs[u] = (y : Int) := ⟨xs[u].toNat, by omega⟩
      have hynx : y ∈ nxR rows q := by rw [hnx]; exact List.mem_map.2 ⟨xs[u], List.getElem_mem hlt, by rw [hyy, toNat_cast]⟩
      have hyq : Rch (nxR rows) q0 y := hrq.snoc hynx
      rw [hyy] at hc' next hy
      rw [toNat_cast] at next
      refine ⟨a', ha', ⟨by omega, by omega⟩, _, hc', _, _, _, hM6.r0.cell rfl, _, rfl, ⟨by omega, by omega⟩, _, hM6.rv.cellAdd (boolsV_get (by rw [hV6.len]; omega)), fun hb1 => ?_, fun hb1 => ⟨_, _, _, hM6.r2.cell rfl, .inl ⟨121, #[], _, rfl, by kernel_rfl, (ih w6 y d' l' lo' lc' ?_ hM6 hMat6 hV6 (by omega) hyq hb1 (fun x h1 h2 => ?_) (by omega)).mono ?_⟩⟩⟩
      · -- it has been visited: it is finished, for it can't be under way
        refine next w6 d' l' lo' lc' hM6 hV6 (Gr.refl _ _) ?_ g6
        refine Classical.byContradiction fun hny => ?_
        rcases hgray6 y hb1 hny with e | ⟨h1, h2⟩
        · exact hac y hyq (cyc_of_back (.refl q) hynx e.symm |> fun h => e ▸ h)
        · exact hac y hyq (cyc_of_back (hgray y h1 h2) hynx rfl)
      · have h1 := count_mono _ _ (by simp [hlen, hV6.len]) hG6.seen
        omega
      · rcases hgray6 x h1 h2 with rfl | ⟨h3, h4⟩
        · exact .step hynx (.refl _)
        · exact (hgray x h3 h4).snoc hynx
      · rintro _ w7 ⟨rfl, d2, l2, lo2, lc2, q1, q2, q3, q4, q5⟩
        exact ⟨rfl, next w7 d2 l2 lo2 lc2 q1 q2 q3 q4 (g6.trans' q5)⟩
    · have := dF hge
      obtain rfl : u = xs.length := by omega
      have hfew := hV6.few
      have hct := count_le d'
      rw [hV6.len] at hct
      have hnoq := hqg.2
      have hg6 := hG6.few
      have hll : (castL l').length = l'.length := castL_len l'
      have hc3 := hM6.r3
      have hown := hM6.own
      refine ⟨_, _, _, hc3.cell rfl, fun w7 e7 => push_int hown e7 (by omega) (by omega) fun o8 c8 w8 p1 p2 => ⟨_, _, _, rfl, ?_⟩⟩
      have g8 : Only (fun b => B ≤ b) w6 w8 := p2.mono fun b _ hb => (hown.base b hb).1
      have r3 := hc3.keep p2 (hown.apartR hc3 (by decide))
      refine ⟨r3.there (by simp), fun w9 e9 => ?_⟩
      have r39 : Row w9 c3 48 [.slice o8 (l'.length + 1) c8] := r3.set e9
      have g9 : Only (fun b => b = c3) w8 w9 := only_set e9
      have el : l'.length + 1 = (l' ++ [q]).length := by simp
      rw [el] at r39 p1
      rw [← castL_snoc] at p1
      have k0 := (hM6.r0.keep p2 (hown.apartR hM6.r0 (by decide))).keep g9 (hM6.r0.ne hc3 (by decide))
      have k1 := (hM6.r1.keep p2 (hown.apartR hM6.r1 (by decide))).keep g9 (hM6.r1.ne hc3 (by decide))
      have k2 := (hM6.r2.keep p2 (hown.apartR hM6.r2 (by decide))).keep g9 (hM6.r2.ne hc3 (by decide))
      have kv := (hM6.rv.keep p2 (hown.apartR hM6.rv (by decide))).keep g9 (hM6.rv.ne hc3 (by decide))
      refine ⟨rfl, d', l' ++ [q], o8, c8, ⟨k0, k1, k2, r39, kv, p1.keep g9 fun b hx e => ?_, hb⟩, ⟨hV6.len, hV6.topo.snoc hnoq fun y hy => ?_, fun x hx => ?_, fun x hx => ?_, ?_⟩, ⟨?_, fun x hx => hG6.seen x ((hgd x).2 (.inr hx)), fun x => ?_, ?_⟩, by simp, (G5.trans' g6).trans' (g8.trans' (g9.mono fun b _ e => by rw [e]; exact hb.2.2.2.1))⟩
      · rw [e] at hx; exact p1.apartR r3 (by decide) hx
      · rw [hnx] at hy
        obtain ⟨z, hz, rfl⟩ := List.mem_map.1 hy
        obtain ⟨v, hv, rfl⟩ := List.getElem_of_mem hz
        exact hdone v hv hv
      · rcases List.mem_append.1 hx with hx | hx
        · exact hV6.seen x hx
        · rw [List.mem_singleton.1 hx]; exact hqg.1
      · rcases List.mem_append.1 hx with hx | hx
        · exact hV6.from0 x hx
        · rw [List.mem_singleton.1 hx]; exact hrq
      · have := hV.few; simp; omega
      · obtain ⟨m, hm⟩ := hG6.more
        exact ⟨m ++ [q], by rw [hm, List.append_assoc]⟩
      · have h1 := hG6.gray x
        rw [hgd] at h1
        constructor
        · rintro ⟨h2, h3⟩
          have h4 : x ∉ l' := fun h => h3 (List.mem_append.2 (.inl h))
          have h5 := h1.1 ⟨h2, h4⟩
          rcases h5.1 with e | e
          · exact absurd (List.mem_append.2 (.inr (by simp [e]))) h3
          · exact ⟨e, h5.2⟩
        · rintro ⟨h2, h3⟩
          have h5 := h1.2 ⟨.inr h2, h3⟩
          refine ⟨h5.1, fun h => ?_⟩
          rcases List.mem_append.1 h with h | h
          · exact h5.2 h
          · rw [List.mem_singleton.1 h] at h2; rw [h2] at hd; cases hd
      · simp; omega
set_option maxHeartbeats 1000000 in
theorem order_c (o : Option Addr) (c : Nat) (rows : List (List Int)) (q : Nat) (hn : rows.length ≤ 100) (hR : OkRows rows) (hq : q < rows.length) (hac : ∀ j, Rch (nxR rows) q j → ¬ Cyc (nxR rows) j) (w : World) {A : Nat → Prop} (hA : ∀ b, A b → b < hs w) (h : Mat w A o rows) :
    Calls Try.prog 98 #[.slice o rows.length c, .int .i64 q] w fun e w' => ∃ l lo lc, e = .returned (.slice lo l.length lc) ∧ Topo (nxR rows) l ∧ (∀ x, x ∈ l → Rch (nxR rows) q x) ∧ q ∈ l ∧ l.length ≤ rows.length ∧ Nums w' (fun b => hs w ≤ b ∧ b < hs w') lo (castL l) ∧ Grow w w' := by
  refine nf98 o rows.length c q w _ fun w1 e1 w3 e3 => ?_
  have r1 := Row.new e1
  have g1 : Grow w w1 := only_alloc e1
  have r3 := Row.new e3
  have g3 : Grow w1 w3 := only_alloc e3
  refine ⟨_, _, _, (r1.grow g3).cell rfl, make_bools (by omega) fun w9 r9 g9 _ => ⟨_, _, _, rfl, fun w13 e13 => ⟨(Row.new e13).there (by simp), fun w15 e15 w17 e17 => ⟨(Row.new e17).there (by simp), fun w19 e19 => ?_⟩⟩⟩⟩
  obtain ⟨r15, g15⟩ := loc e13 e15 rfl
  obtain ⟨r19, g19⟩ := loc e17 e19 rfl
  have s1 := g1.size
  have s3 := g3.size
  have s9 := g9.size
  have s15 := g15.size
  have s19 := g19.size
  have G : Grow w w19 := (((g1.trans' g3).trans' g9).trans' g15).trans' g19
  have hAt : VisAt w19 (hs w) (hs w9) (hs w) (hs w15) (hs w1) (hs w3) rows.length o c (List.replicate rows.length false) [] none 0 :=
    ⟨r15.grow g19, (((r1.grow g3).grow g9).grow g15).grow g19, r19, ((r3.grow g9).grow g15).grow g19, (r9.grow g15).grow g19, own_nil _ _ _ _, by omega⟩
  refine ⟨_, _, _, r19.cell rfl, .inl ⟨121, #[], _, rfl, by kernel_rfl, (visit_c hn hR hA hac rows.length w19 q _ _ _ _ (by omega) hAt (h.grow G) ⟨by simp, topo_nil _, fun x hx => (by simp at hx), fun x hx => (by simp at hx), Nat.zero_le _⟩ hq (.refl _) gB_rep (fun x h1 => (by rw [gB_rep] at h1; cases h1)) (by omega)).mono ?_⟩⟩
  rintro _ w20 ⟨rfl, d, l, lo, lc, q1, q2, q3, q4, q5⟩
  have hl := q2.few
  have hct := count_le d
  rw [q2.len] at hct
  refine ⟨rfl, _, _, _, q1.r3.cell rfl, l, lo, lc, rfl, q2.topo, q2.from0, q4, by omega, q1.own.nums, G.trans q5 fun b hb hh => by omega⟩
end Go.Proofs.Ytbaacpfjecbbgaa
