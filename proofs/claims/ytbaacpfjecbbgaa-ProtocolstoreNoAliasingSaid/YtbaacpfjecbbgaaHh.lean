/- Contracts: what is reachable in a matrix of successors; cycles; Check. -/
import Derived.Test.YtbaacpfjecbbgaaHg
namespace Go.Proofs.Ytbaacpfjecbbgaa
open Go Go.Nf

def castL (l : List Nat) : List Int := l.map fun (k : Nat) => (k : Int)
theorem castL_len (l : List Nat) : (castL l).length = l.length := by simp [castL]
def nxR (rows : List (List Int)) (q : Nat) : List Nat := ((rows[q]?).getD []).map Int.toNat
theorem castL_toNat {l : List Int} (h : ∀ y, y ∈ l → 0 ≤ y) : castL (l.map Int.toNat) = l := by
  unfold castL
  rw [List.map_map]
  conv => rhs; rw [← List.map_id l]
  refine List.map_congr_left fun y hy => ?_
  have := h y hy
  simp only [Function.comp, id]
  omega
theorem sumL_le {f : Nat → Nat} {b : Nat} (h : ∀ i, f i ≤ b) : ∀ n, sumL f n ≤ b * n
  | 0 => Nat.le_refl _
  | n + 1 => by
    have := sumL_le h n
    have := h n
    rw [sumL, Nat.mul_succ]; omega
/-- the rows name nodes, few each -/
def OkRows (rows : List (List Int)) : Prop := ∀ (i : Nat) r, rows[i]? = some r → r.length ≤ 20 ∧ ∀ y, y ∈ r → 0 ≤ y ∧ y < rows.length
theorem left_le {rows : List (List Int)} (h : OkRows rows) (n : Nat) (d : List Bool) : left (nxR rows) n d ≤ 20 * n := by
  refine sumL_le (fun i => ?_) n
  split
  · omega
  · unfold nxR
    cases hr : rows[i]? with
    | none => simp
    | some r => simpa using (h i r hr).1

set_option maxHeartbeats 1000000 in
theorem reachable_c (o of' : Option Addr) (c cf : Nat) (rows : List (List Int)) (ss : List Nat) (hn : rows.length ≤ 100) (hR : OkRows rows) (hs20 : ss.length ≤ 20) (hss : ∀ x, x ∈ ss → x < rows.length) (w : World) {A A' : Nat → Prop} (h : Mat w A o rows) (hf : Nums w A' of' (castL ss)) :
    Calls Try.prog 96 #[.slice o rows.length c, .slice of' ss.length cf] w fun e w' => ∃ d, e = .returned (.slice (some ⟨hs w, 0, none⟩) rows.length rows.length) ∧ Row w' (hs w) 4 (boolsV d) ∧ d.length = rows.length ∧ (∀ q, gB d q = true ↔ ∃ f, f ∈ ss ∧ Rch (nxR rows) f q) ∧ Grow w w' := by
  refine nf96 o rows.length c of' ss.length cf w _ (make_bools (by omega) fun w2 r2 g2 hs2 => ⟨_, _, _, rfl, ?_⟩)
  have hc := clone_c (w := w2) (c := cf) (xs := castL ss) (by rw [castL_len]; omega) (hf.grow g2)
  rw [castL_len] at hc
  refine hc.mono ?_
  rintro _ w3 ⟨o3, c3, rfl, own3, g3⟩
  obtain ⟨M, hM⟩ : ∃ M, M = ss.length + left (nxR rows) rows.length (List.replicate rows.length false) := ⟨_, rfl⟩
  have hMle : M ≤ 2020 := by have := left_le hR rows.length (List.replicate rows.length false); omega
  refine ⟨_, _, _, rfl, fun k o' n' c' x w' => ∃ (i : Nat) (d : List Bool) (l : List Nat), x = (i : Int) ∧ k = M - i ∧ n' = l.length ∧ Own w' (hs w2) 3 1 o' l.length c' (intsV (castL l)) ∧ Work (nxR rows) rows.length ss d l i ∧ l.length + left (nxR rows) rows.length d = M ∧ Row w' (hs w) 4 (boolsV d) ∧ Grow w w',
    ⟨_, 0, _, ss, rfl, rfl, rfl, own3, Work.start hss, hM.symm, r2.grow g3, g2.trans' g3⟩, ?_⟩
  rintro k _ w4 o4 n4 c4 x ⟨i, d, l, rfl, rfl, rfl, own4, hW, hMl, r4, g4⟩
  have hb4 : ∀ b, inBlock o4 b → hs w < b := fun b hb => by have := (own4.base b hb).1; omega
  refine ⟨fun hlt k22 hk22 => ?_, fun hge => ?_⟩
  · have hlt : i < l.length := by have := dT hlt; omega
    have next : ∀ o' c' w' d' l', Own w' (hs w2) 3 1 o' l'.length c' (intsV (castL l')) → Work (nxR rows) rows.length ss d' l' (i + 1) → l'.length + left (nxR rows) rows.length d' = M → Row w' (hs w) 4 (boolsV d') → Grow w w' → k22 o' l'.length c' w' := fun o' c' w' d' l' q1 q2 q3 q4 q5 =>
      hk22 _ _ _ _ fun _ => ⟨_, by omega, i + 1, d', l', by rw [wr (by omega)]; omega, rfl, rfl, q1, q2, q3, q4, q5⟩
    obtain ⟨a, ha, hcx⟩ := (own4.nums).get (show i < (castL l).length by rw [castL_len]; exact hlt)
    have hq : (castL l)[i]'(by rw [castL_len]; exact hlt) = ((l[i] : Nat) : Int) := by simp [castL]
    rw [hq] at hcx
    have hil : l[i]? = some l[i] := List.getElem?_eq_getElem hlt
    have hqn : l[i] < rows.length := hW.lt _ (List.getElem_mem hlt)
    generalize l[i] = q at *
    have hqd : q < d.length := by rw [hW.len]; exact hqn
    refine ⟨a, ha, ⟨by omega, by omega⟩, _, hcx, _, rfl, ⟨by omega, by omega⟩, _, r4.cellAdd (boolsV_get hqd), fun hb => next _ _ _ d l own4 (hW.skip hil hb) hMl r4 g4, fun hb => ⟨_, rfl, ⟨by omega, by omega⟩, r4.thereAdd (by rw [toNat_cast, boolsV_len]; simp; omega), fun w5 e5 => ?_⟩⟩
    have r5 := r4.setAdd e5
    rw [boolsV_set] at r5
    have g5 : Only (fun b => b = hs w) w4 w5 := only_setAdd e5
    have G5 : Grow w w5 := g4.trans g5 fun b hb e => by omega
    have own5 := own4.keep g5 fun b hb e => by have := hb4 b hb; omega
    obtain ⟨ar, oi, ci, har, hcr, hnr⟩ := (h.grow G5).get hqn
    have hrow := hR q _ (List.getElem?_eq_getElem hqn)
    have hnx : castL (nxR rows q) = rows[q] := by
      unfold nxR
      rw [List.getElem?_eq_getElem hqn]
      exact castL_toNat fun y hy => (hrow.2 y hy).1
    have hnl : rows[q].length = (nxR rows q).length := by rw [← hnx, castL_len]
    have hleft := left_set (nx := nxR rows) hW.len hqn hb
    have hlen : l.length ≤ 2020 := by omega
    have hbase : hs w2 ≤ hs w5 := by have := r5.lt; omega
    refine ⟨ar, har, ⟨by omega, by omega⟩, _, _, _, hcr, append_nums elem48 own5 hnr (by simp [maxLen]; omega) (by omega) hbase fun o' c' w6 p1 p2 => ⟨_, _, _, rfl, ?_⟩⟩
    have el : l.length + rows[q].length = (l ++ nxR rows q).length := by rw [hnl]; simp
    have ec : castL l ++ rows[q] = castL (l ++ nxR rows q) := by rw [← hnx]; simp [castL]
    rw [el, ec] at p1
    rw [el]
    refine next _ _ _ (d.set q true) (l ++ nxR rows q) p1 (hW.take hil fun x hx => ?_) (by simp; omega) (r5.keep p2 fun hh => ?_) (G5.trans p2 fun b hb hh => ?_)
    · have hx' : ((x : Nat) : Int) ∈ rows[q] := by rw [← hnx]; exact List.mem_map.2 ⟨x, hx, rfl⟩
      have := (hrow.2 _ hx').2
      omega
    · have := hb4 _ hh; omega
    · have := hb4 _ hh; omega
  · have := dF hge
    obtain rfl : i = l.length := by have := hW.kl; omega
    exact ⟨d, rfl, r4, hW.len, hW.end_, g4⟩
theorem cyclic_c (o : Option Addr) (c : Nat) (rows : List (List Int)) (q : Nat) (hn : rows.length ≤ 100) (hR : OkRows rows) (hq : q < rows.length) (w : World) {A : Nat → Prop} (h : Mat w A o rows) :
    Calls Try.prog 95 #[.slice o rows.length c, .int .i64 q] w fun e w' => ∃ b, e = .returned (.bool b) ∧ (b = true ↔ Cyc (nxR rows) q) ∧ Grow w w' := by
  obtain ⟨a, oi, ci, ha, hc, hnr⟩ := h.get hq
  have hrow := hR q _ (List.getElem?_eq_getElem hq)
  have e1 : nxR rows q = rows[q].map Int.toNat := by unfold nxR; rw [List.getElem?_eq_getElem hq]; rfl
  have hnx : castL (nxR rows q) = rows[q] := by rw [e1]; exact castL_toNat fun y hy => (hrow.2 y hy).1
  have hnl : rows[q].length = (nxR rows q).length := by rw [← hnx, castL_len]
  refine nf95 o rows.length c q w _ ⟨a, ha, ⟨by omega, by omega⟩, _, _, _, hc, ?_⟩
  rw [hnl]
  refine (reachable_c o oi c ci rows (nxR rows q) hn hR (by omega) (fun x hx => ?_) w h (by rw [hnx]; exact hnr)).mono ?_
  · rw [e1] at hx
    obtain ⟨y, hy, rfl⟩ := List.mem_map.1 hx
    have := hrow.2 y hy
    omega
  · rintro _ w2 ⟨d, rfl, r2, hd, hr, g2⟩
    refine ⟨_, _, _, rfl, _, rfl, ⟨by omega, by omega⟩, _, r2.cellAdd (boolsV_get (by omega)), fun hb => ⟨_, rfl, ?_, g2⟩, fun hb => ⟨_, rfl, ?_, g2⟩⟩
    · exact ⟨fun _ => (hr q).1 hb, fun _ => rfl⟩
    · exact ⟨(fun h => by cases h), fun hc => by rw [(hr q).2 hc] at hb; cases hb⟩
end Go.Proofs.Ytbaacpfjecbbgaa
