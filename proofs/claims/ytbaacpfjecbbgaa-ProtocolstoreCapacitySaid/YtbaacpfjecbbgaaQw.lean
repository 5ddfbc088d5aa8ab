/- Law: a store holds up to a hundred protocols. -/
import Derived.Test.YtbaacpfjecbbgaaU4
namespace Go.Proofs.Ytbaacpfjecbbgaa
open Go Go.Nf

def capL (v : Int) (i : Nat) : List Prot := (List.range i).map fun k : Nat => plP mainS (v + (k : Int))
theorem capL_len (v : Int) (i : Nat) : (capL v i).length = i := by simp [capL]
theorem capL_succ (v : Int) (i : Nat) : capL v (i + 1) = capL v i ++ [plP mainS (v + (i : Int))] := by simp [capL, List.range_succ]
theorem capL_mem {v : Int} {i : Nat} {p : Prot} (h : p ∈ capL v i) : ∃ k : Nat, k < i ∧ p = plP mainS (v + (k : Int)) := by
  obtain ⟨k, hk, rfl⟩ := List.mem_map.1 h
  exact ⟨k, List.mem_range.1 hk, rfl⟩
theorem capL_has {v : Int} {i k : Nat} (h : k < i) : plP mainS (v + (k : Int)) ∈ capL v i := List.mem_map.2 ⟨k, List.mem_range.2 h, rfl⟩
theorem capL_sorted (v : Int) (i : Nat) : Sorted (capL v i) := by
  unfold capL Sorted
  rw [List.pairwise_map]
  exact List.pairwise_lt_range.imp fun {a b} h => .inr ⟨rfl, by show v + (a : Int) < v + (b : Int); omega⟩
theorem capL_new (v : Int) (i : Nat) : IsNew (capL v (i + 1)) mainS (some (plP mainS (v + (i : Int)))) := .inr ⟨_, rfl, capL_has (Nat.lt_succ_self i), rfl, fun u hu _ => by
  obtain ⟨k, hk, rfl⟩ := capL_mem hu
  show v + (k : Int) ≤ v + (i : Int)
  omega⟩
theorem capL_get (v : Int) {i : Nat} : IsGet (capL v i) mainS (v + (i : Int)) none := .inl ⟨rfl, fun u hu h => by
  obtain ⟨k, hk, rfl⟩ := capL_mem hu
  have : v + (k : Int) = v + (i : Int) := h.2
  omega⟩
theorem capL_cut {v : Int} {i : Nat} {X Y : List Prot} (h : Cut (capL v i) X Y mainS (v + (i : Int))) : X = capL v i ∧ Y = [] := by
  have hY : Y = [] := by
    cases Y with
    | nil => rfl
    | cons y Y =>
      exfalso
      have hy : y ∈ capL v i := by rw [h.eq]; simp
      obtain ⟨k, hk, rfl⟩ := capL_mem hy
      exact h.above _ (.head _) (.inr ⟨rfl, by show v + (k : Int) < v + (i : Int); omega⟩)
  subst hY
  exact ⟨by rw [h.eq, List.append_nil], rfl⟩
theorem capL_drop (v : Int) (i : Nat) : ((capL v (i + 1)).filter (offB mainS v)).length = i ∧ ∀ u, u ∈ (capL v (i + 1)).filter (offB mainS v) → ∃ k : Nat, k < i + 1 ∧ u = plP mainS (v + (k : Int)) := by
  refine ⟨?_, fun u hu => capL_mem (List.mem_filter.1 hu).1⟩
  have e : capL v (i + 1) = plP mainS v :: (List.range i).map fun k : Nat => plP mainS (v + ((k + 1 : Nat) : Int)) := by
    unfold capL
    rw [List.range_succ_eq_map, List.map_cons, List.map_map]
    congr 1
    show plP mainS (v + 0) = plP mainS v
    rw [Int.add_zero]
  rw [e, List.filter_cons, if_neg, List.filter_eq_self.2]
  · simp
  · intro u hu
    obtain ⟨k, -, rfl⟩ := List.mem_map.1 hu
    rw [offB_iff]
    rintro ⟨-, k2⟩
    have : v + ((k + 1 : Nat) : Int) = v := k2
    omega
  · intro k
    exact (offB_iff.1 k) ⟨rfl, rfl⟩
def xS : ByteArray := ByteArray.mk #[120]
theorem x_name : nameB xS = true := by kernel_rfl
theorem x_main : xS ≠ mainS := fun e => absurd (congrArg ByteArray.size e) (by decide)
set_option maxHeartbeats 4000000 in
theorem law12_c (first k : Int) (hf : 0 ≤ first ∧ first ≤ 65535) (hk : 0 ≤ k ∧ k ≤ 255) (w : World) : Calls Try.prog 12 #[.int .u16 first, .int .u8 k] w (Tru w) := by
  have wf : IntKind.wrap .i64 first = first := wr (by omega)
  have wk : IntKind.wrap .i64 k = k := wr (by omega)
  have wv : IntKind.wrap .i64 (1 + first) = 1 + first := wr (by omega)
  refine nf12n first k w _ ((wakes_c w).mono ?_)
  rintro _ w2 ⟨rfl, g2⟩
  rw [wf, wk, wv]
  generalize hv : 1 + first = v at *
  refine ⟨_, rfl, fun _ => (newB_c w2).mono ?_, fun h => (by cases h)⟩
  rintro _ w6 ⟨t, m, rfl, s6, g6⟩
  have G6 := g2.trans' g6
  have z2 := g2.size
  have hM6 : ∀ {a : World} {M D : Nat → Prop} {S : List Prot} {P : List Pn}, St a (hs w2) t m M D S P → ∀ {u u' : World}, Only M u u' → Only (fun b => hs w2 ≤ b) u u' := by
    intro a M D S P s u u' o
    exact o.mono fun b _ hb => (s.ms b hb).1
  have fresh : ∀ {a a' : World} {M D : Nat → Prop} {S : List Prot} {P : List Pn}, St a (hs w2) t m M D S P → ∀ b, (hs a ≤ b ∧ b < hs a') → ¬ M b := fun s b hb hm => by have := (s.ms b hm).2; omega
  refine ⟨_, rfl, fun n x w' => ∃ (i : Nat) (M D : Nat → Prop), x = (i : Int) ∧ i ≤ 100 ∧ n = 100 - i ∧ St w' (hs w2) t m M D (capL v i) [] ∧ Only (fun b => hs w2 ≤ b) w w', ⟨_, 0, _, _, rfl, by omega, rfl, s6, Grow.only G6⟩, ?_⟩
  rintro n _ w12 x ⟨i, M, D, rfl, hi, rfl, hst, o12⟩
  refine ⟨fun hlt => ?_, fun hge => ?_⟩
  · have hlt : i < 100 := by have := dT hlt; omega
    have e1 : IntKind.wrap .i64 (v + (i : Int)) = v + (i : Int) := wr (by omega)
    rw [e1]
    have hE := plP_ending (n := mainS) (v := v + (i : Int)) main_name (by omega) (by omega)
    refine (plain_c mainS (v + (i : Int)) w12).mono ?_
    rintro _ w17 ⟨o17, rfl, q17, g17⟩
    refine ⟨_, _, _, _, _, rfl, (put_c (p := plP mainS (v + (i : Int))) (show 1 ≤ 9223372036854775807 by decide) q17 (fresh hst) (capL_sorted v i) (by rw [capL_len]; omega) (hst.grow g17)).mono ?_⟩
    rintro _ w24 ⟨x, q, g, r, S', M', D', hE', hg, hr, rfl, h1, -, s24, o24, -, -⟩
    have e0 : putE q g r (capL v i).length (plP mainS (v + (i : Int))).version = 0 := put_good (capL_sorted v i).uniq (by rw [capL_len]; omega) hE' hE hg hr (capL_get _) fun u hu _ => by
      obtain ⟨k, hk, rfl⟩ := capL_mem hu
      show v + (k : Int) ≤ v + (i : Int)
      omega
    obtain ⟨X, Y, hc, -, rfl⟩ := h1 e0
    obtain ⟨rfl, rfl⟩ := capL_cut hc
    rw [e0]
    refine ⟨_, rfl, fun h => absurd rfl (nT h), fun _ => ⟨_, by omega, i + 1, M', D', by rw [wr (by omega)]; omega, by omega, rfl, by rw [capL_succ]; exact s24, (o12.grow g17).trans' (hM6 hst o24)⟩⟩
  · obtain rfl : i = 100 := by have := dF hge; omega
    have e1 : IntKind.wrap .i64 (v + 100) = v + 100 := wr (by omega)
    have e2 : IntKind.wrap .i64 (v + Int.tmod k 100) = v + k % 100 := by
      have : Int.tmod k 100 = k % 100 := Int.tmod_eq_emod_of_nonneg hk.1
      rw [this, wr (by omega)]
    rw [e1, e2]
    have hso := capL_sorted v 100
    have hlen := capL_len v 100
    have hnew := capL_new v 99
    have hE := plP_ending (n := mainS) (v := v + 100) main_name (by omega) (by omega)
    refine (plain_c mainS (v + 100) w12).mono ?_
    rintro _ w31 ⟨o31, rfl, q31, g31⟩
    refine ⟨_, _, _, _, _, rfl, (put_c (p := plP mainS (v + 100)) (show 1 ≤ 9223372036854775807 by decide) q31 (fresh hst) hso (by omega) (hst.grow g31)).mono ?_⟩
    rintro _ w38 ⟨x, q, g, r, S', M1, D1, hE', hg, hr, rfl, -, h2, s38, o38, -, -⟩
    have p3 : putE q g r (capL v 100).length (v + 100) = 3 := by
      obtain ⟨-, rfl⟩ := ending_one hE' hE
      obtain rfl := isGet_one hso.uniq hg (capL_get (i := 100) v)
      obtain rfl := isNew_one hso.uniq hr hnew
      have : later (some (plP mainS (v + ((99 : Nat) : Int)))) (v + 100) = false := decide_eq_false (by show ¬ v + 100 < v + ((99 : Nat) : Int); omega)
      unfold putE
      rw [if_neg (by simp), if_neg (by simp), this, if_neg (by simp), if_pos (by omega)]
    have p3' : putE q g r (capL v 100).length (plP mainS (v + 100)).version = 3 := p3
    obtain rfl := h2 (by rw [p3']; decide)
    rw [p3']
    refine ⟨_, rfl, fun h => absurd rfl (nT h), fun _ => (plain_c xS 1 w38).mono ?_⟩
    have c38 := (o12.grow g31).trans' (hM6 hst o38)
    rintro _ w43 ⟨o43, rfl, q43, g43⟩
    refine ⟨_, _, _, _, _, rfl, (put_c (p := plP xS 1) (show 1 ≤ 9223372036854775807 by decide) q43 (fresh s38) hso (by omega) (s38.grow g43)).mono ?_⟩
    rintro _ w50 ⟨x, q, g, r, S', M2, D2, hE', hg, hr, rfl, -, h2, s50, o50, -, -⟩
    have hnox : ∀ u, u ∈ capL v 100 → u.name ≠ xS := fun u hu => by
      obtain ⟨k, -, rfl⟩ := capL_mem hu
      exact fun e => x_main e.symm
    have p4 : putE q g r (capL v 100).length (plP xS 1).version = 3 := by
      obtain ⟨-, rfl⟩ := ending_one hE' (plP_ending x_name (by decide) (by decide))
      obtain rfl := isGet_one hso.uniq hg (.inl ⟨rfl, fun u hu h => hnox u hu h.1⟩)
      obtain rfl := isNew_one hso.uniq hr (.inl ⟨rfl, hnox⟩)
      unfold putE
      rw [if_neg (by simp), if_neg (by simp), if_neg (by simp [later]), if_pos (by omega)]
    obtain rfl := h2 (by rw [p4]; decide)
    rw [p4]
    have c50 := (c38.grow g43).trans' (hM6 s38 o50)
    refine ⟨_, rfl, fun h => absurd rfl (nT h), fun _ => (plain_c mainS (v + k % 100) w50).mono ?_⟩
    rintro _ w55 ⟨o55, rfl, q55, g55⟩
    refine ⟨_, _, _, _, _, rfl, (put_c (p := plP mainS (v + k % 100)) (show 1 ≤ 9223372036854775807 by decide) q55 (fresh s50) hso (by omega) (s50.grow g55)).mono ?_⟩
    rintro _ w62 ⟨x, q, g, r, S', M3, D3, hE', hg, hr, rfl, -, h2, s62, o62, -, -⟩
    have p5 : putE q g r (capL v 100).length (plP mainS (v + k % 100)).version = 5 := by
      obtain ⟨-, rfl⟩ := ending_one hE' (plP_ending main_name (by omega) (by omega))
      have hin : plP mainS (v + (((k % 100).toNat : Nat) : Int)) ∈ capL v 100 := capL_has (by omega)
      have ek : (((k % 100).toNat : Nat) : Int) = k % 100 := Int.toNat_of_nonneg (by omega)
      rw [ek] at hin
      obtain rfl := isGet_one hso.uniq hg (.inr ⟨_, rfl, hin, rfl, rfl⟩)
      rfl
    obtain rfl := h2 (by rw [p5]; decide)
    rw [p5]
    have c62 := (c50.grow g55).trans' (hM6 s50 o62)
    refine ⟨_, rfl, fun h => absurd rfl (nT h), fun _ => (drop_c mainS v hso (by omega) s62).mono ?_⟩
    rintro _ w67 ⟨g, r, S', hg, hr, rfl, h1, -, s67, o67⟩
    have d0 : dropE g r [] mainS v = 0 := by
      have hin : plP mainS (v + ((0 : Nat) : Int)) ∈ capL v 100 := capL_has (by omega)
      have e0 : v + ((0 : Nat) : Int) = v := by omega
      rw [e0] at hin
      obtain rfl := isGet_one hso.uniq hg (.inr ⟨_, rfl, hin, rfl, rfl⟩)
      obtain rfl := isNew_one hso.uniq hr hnew
      unfold dropE
      rw [if_neg (by simp), if_neg (by show ¬ v + ((99 : Nat) : Int) = v; omega), if_neg (by simp [busy])]
    obtain rfl := h1 d0
    rw [d0]
    have c67 := c62.trans' (hM6 s62 o67)
    obtain ⟨hfl, hfm⟩ := capL_drop v 99
    have hso2 : Sorted ((capL v 100).filter (offB mainS v)) := hso.sublist List.filter_sublist
    refine ⟨_, rfl, yes rfl ((plain_c mainS (v + 100) w67).mono ?_)⟩
    rintro _ w71 ⟨o71, rfl, q71, g71⟩
    refine ⟨_, _, _, _, _, rfl, (put_c (p := plP mainS (v + 100)) (show 1 ≤ 9223372036854775807 by decide) q71 (fresh s67) hso2 (by rw [hfl]; omega) (s67.grow g71)).mono ?_⟩
    rintro _ w78 ⟨x, q, g, r, S', M4, D4, hE', hg, hr, rfl, h1, -, s78, o78, -, -⟩
    have p6 : putE q g r ((capL v 100).filter (offB mainS v)).length (plP mainS (v + 100)).version = 0 := put_good hso2.uniq (by rw [hfl]; omega) hE' hE hg hr (.inl ⟨rfl, fun u hu h => by
        obtain ⟨k, hk, rfl⟩ := hfm u hu
        have : v + (k : Int) = v + 100 := h.2
        omega⟩) fun u hu _ => by
      obtain ⟨k, hk, rfl⟩ := hfm u hu
      show v + (k : Int) ≤ v + 100
      omega
    obtain ⟨X, Y, hc, hh, rfl⟩ := h1 p6
    rw [p6]
    have c78 := (c67.grow g71).trans' (hM6 s67 o78)
    have hlen2 : (X ++ plP mainS (v + 100) :: Y).length = 100 := by
      have := congrArg List.length hc.eq
      rw [hfl] at this
      simp only [List.length_append, List.length_cons] at this ⊢
      omega
    have hall : ∀ u, u ∈ X ++ plP mainS (v + 100) :: Y → u.name = mainS := fun u hu => by
      have : u ∈ X ++ Y ∨ u = plP mainS (v + 100) := by
        rcases List.mem_append.1 hu with h | h
        · exact .inl (List.mem_append_left _ h)
        · rcases List.mem_cons.1 h with h | h
          · exact .inr h
          · exact .inl (List.mem_append_right _ h)
      rcases this with h | rfl
      · rw [← hc.eq] at h
        obtain ⟨k, -, rfl⟩ := hfm u h
        rfl
      · rfl
    obtain ⟨o, c, rt, hp⟩ := s78.read
    refine ⟨_, rfl, yes rfl ((versions_c mainS (by omega) rt hp).mono ?_)⟩
    rintro _ w82 ⟨o82, c82, rfl, -, g82⟩
    have hvl : (versionsOf (X ++ plP mainS (v + 100) :: Y) mainS).length = 100 := by
      unfold versionsOf
      rw [List.length_map, List.filter_eq_self.2 fun u hu => strEq_iff.2 (hall u hu), hlen2]
    refine ⟨_, _, _, rfl, yes (by rw [hvl]; rfl) ⟨rfl, ?_⟩⟩
    exact (c78.grow g82).toGrow fun b hb => by omega
end Go.Proofs.Ytbaacpfjecbbgaa
