/- Contract: the reference's Text; the law on the text. -/
import Derived.Test.YtneklhmkiememaaDoorZn
namespace Go.Proofs.YtneklhmkiememaaDoor
open Go Go.Nf Go.RowKit

theorem numsL_len' {xs : List Int} (h : I64 xs) (i : Nat) (hx : xs.length ≤ 1000) : (numsL (xs.take i)).length ≤ 21000 := by
  have := numsL_len (h.take i)
  have : (xs.take i).length ≤ xs.length := by rw [List.length_take]; omega
  omega
/-- one of the three loops: what it has written so far -/
def TextInv (base : Str) (xs : List Int) (w1 : World) (n : Nat) (s : ByteArray) (x : Int) (w' : World) : Prop :=
  ∃ i : Nat, x = (i : Int) ∧ i ≤ xs.length ∧ n = xs.length - i ∧ s = BA (base ++ numsL (xs.take i)) ∧ Grow w1 w'
theorem TextInv.start (base : Str) (xs : List Int) {w1 w : World} (g : Grow w1 w) : ∃ n, TextInv base xs w1 n (BA base) 0 w := ⟨_, 0, rfl, Nat.zero_le _, rfl, by simp [numsL], g⟩
theorem TextInv.next {base : Str} {xs : List Int} {w1 w' : World} {i : Nat} (h : i < xs.length) (h6 : I64 xs) (hx : xs.length ≤ 1000) (g : Grow w1 w') :
    ∃ n, n < xs.length - i ∧ TextInv base xs w1 n (BA (base ++ numsL (xs.take i) ++ [32] ++ numL xs[i])) (IntKind.wrap .i64 ((i : Int) + 1)) w' :=
  ⟨_, by omega, i + 1, by rw [wr (by omega)]; omega, h, rfl, by rw [numsL_take h]; simp, g⟩
set_option maxHeartbeats 4000000 in
theorem Text_c (oU oV oH : Option Addr) (cU cV cH : Nat) (U V H : List Int) (w : World) {A B C : Nat → Prop} (nU : Nums w A oU U) (nV : Nums w B oV V) (nH : Nums w C oH H) (iU : I64 U) (iV : I64 V) (iH : I64 H)
    (lU : U.length ≤ 200) (lV : V.length ≤ 200) (lH : H.length ≤ 200) :
    Calls Tryd.prog 24 #[certV oU U.length cU oV V.length cV oH H.length cH] w fun e w' => e = .returned (.string (BA (certL U V H))) ∧ Grow w w' := by
  refine nf24 oU U.length cU oV V.length cV oH H.length cH w _ fun w1 e1 => ?_
  have r1 := Row.new e1
  have g1 : Grow w w1 := only_alloc e1
  refine ⟨TextInv rowsW U w1, TextInv.start rowsW U (Only.refl _ _), ?_⟩
  rintro n _ w7 _ x ⟨i, rfl, hi, rfl, rfl, g7⟩
  have l1 := numsL_len' iU i (by omega)
  have hR : rowsW.length = 4 := rfl
  refine ⟨_, _, _, (r1.grow g7).cell rfl, fun hlt => ?_, fun hge => ?_⟩
  · have hlt : i < U.length := by have := dT hlt; omega
    obtain ⟨a, ha, hc⟩ := (nU.grow (g1.trans' g7)).get hlt
    have hxi := iU _ (List.getElem_mem hlt)
    have hnl := num_len20 hxi.1 hxi.2
    refine run_cat (b := [32]) (by rw [List.length_append, List.length_singleton]; omega) ⟨_, rfl, _, _, _, (r1.grow g7).cell rfl, a, ha, ⟨by omega, by omega⟩, _, hc, (num64_c _ w7 hxi.1 hxi.2).mono ?_⟩
    rintro _ w24 ⟨rfl, g24⟩
    exact ⟨_, rfl, run_cat (by rw [List.length_append, List.length_append, List.length_singleton]; omega) ⟨_, rfl, TextInv.next hlt iU (by omega) (g7.trans' g24)⟩⟩
  have hil : i = U.length := by have := dF hge; omega
  subst hil
  rw [List.take_length] at l1 ⊢
  refine run_cat (b := 10 :: columnsW) (by rw [List.length_append]; show 4 + _ + 8 ≤ _; omega) ⟨_, rfl, TextInv (rowsW ++ numsL U ++ (10 :: columnsW)) V w1, TextInv.start _ V g7, ?_⟩
  clear g7
  rintro n _ w38 _ x ⟨i, rfl, hi, rfl, rfl, g38⟩
  have l2 := numsL_len' iV i (by omega)
  have hB : (rowsW ++ numsL U ++ (10 :: columnsW)).length ≤ 21012 := by rw [List.length_append, List.length_append]; show 4 + _ + 8 ≤ _; omega
  generalize hbase : rowsW ++ numsL U ++ (10 :: columnsW) = base at hB ⊢
  refine ⟨_, _, _, (r1.grow g38).cell rfl, fun hlt => ?_, fun hge => ?_⟩
  · have hlt : i < V.length := by have := dT hlt; omega
    obtain ⟨a, ha, hc⟩ := (nV.grow (g1.trans' g38)).get hlt
    have hxi := iV _ (List.getElem_mem hlt)
    have hnl := num_len20 hxi.1 hxi.2
    refine run_cat (b := [32]) (by rw [List.length_append, List.length_singleton]; omega) ⟨_, rfl, _, _, _, (r1.grow g38).cell rfl, a, ha, ⟨by omega, by omega⟩, _, hc, (num64_c _ w38 hxi.1 hxi.2).mono ?_⟩
    rintro _ w24 ⟨rfl, g24⟩
    exact ⟨_, rfl, run_cat (by rw [List.length_append, List.length_append, List.length_singleton]; omega) ⟨_, rfl, TextInv.next hlt iV (by omega) (g38.trans' g24)⟩⟩
  have hil : i = V.length := by have := dF hge; omega
  subst hil
  rw [List.take_length] at l2 ⊢
  refine run_cat (b := 10 :: shortW) (by rw [List.length_append]; show _ + 6 ≤ _; omega) ⟨_, rfl, TextInv (base ++ numsL V ++ (10 :: shortW)) H w1, TextInv.start _ H g38, ?_⟩
  clear g38
  rintro n _ w69 _ x ⟨i, rfl, hi, rfl, rfl, g69⟩
  have l3 := numsL_len' iH i (by omega)
  have hB' : (base ++ numsL V ++ (10 :: shortW)).length ≤ 42018 := by rw [List.length_append, List.length_append]; show _ + _ + 6 ≤ _; omega
  generalize hbase' : base ++ numsL V ++ (10 :: shortW) = base' at hB' ⊢
  refine ⟨_, _, _, (r1.grow g69).cell rfl, fun hlt => ?_, fun hge => ?_⟩
  · have hlt : i < H.length := by have := dT hlt; omega
    obtain ⟨a, ha, hc⟩ := (nH.grow (g1.trans' g69)).get hlt
    have hxi := iH _ (List.getElem_mem hlt)
    have hnl := num_len20 hxi.1 hxi.2
    refine run_cat (b := [32]) (by rw [List.length_append, List.length_singleton]; omega) ⟨_, rfl, _, _, _, (r1.grow g69).cell rfl, a, ha, ⟨by omega, by omega⟩, _, hc, (num64_c _ w69 hxi.1 hxi.2).mono ?_⟩
    rintro _ w24 ⟨rfl, g24⟩
    exact ⟨_, rfl, run_cat (by rw [List.length_append, List.length_append, List.length_singleton]; omega) ⟨_, rfl, TextInv.next hlt iH (by omega) (g69.trans' g24)⟩⟩
  have hil : i = H.length := by have := dF hge; omega
  subst hil
  rw [List.take_length] at l3 ⊢
  refine run_cat (b := [10]) (by rw [List.length_append]; show _ + 1 ≤ _; omega) ⟨_, rfl, ?_, g1.trans' g69⟩
  have e : base' ++ numsL H ++ [10] = certL U V H := by
    rw [← hbase', ← hbase]
    unfold certL lineL
    simp [List.append_assoc]
  rw [e]
set_option maxHeartbeats 2000000 in
theorem law7_c (oU oV oH : Option Addr) (cU cV cH : Nat) (U V H : List Int) (w : World) (ha : AwakeOk w) (ht : Tab w) {A B C : Nat → Prop} (nU : Nums w A oU U) (nV : Nums w B oV V) (nH : Nums w C oH H) (iU : I64 U) (iV : I64 V) (iH : I64 H) :
    Calls Tryd.prog 7 #[certV oU U.length cU oV V.length cV oH H.length cH] w (Tr w) := by
  refine nf7 oU U.length cU oV V.length cV oH H.length cH w _ fun w1 e1 => ?_
  have r1 := Row.new e1
  have g1 : Grow w w1 := only_alloc e1
  refine (ha w1 g1).mono ?_
  rintro _ w4 ⟨rfl, g4⟩
  have G4 := g1.trans' g4
  have r4 := r1.grow g4
  refine ⟨_, rfl, fun _ => ⟨_, _, _, r4.cell rfl, _, _, _, r4.cell rfl, _, _, _, r4.cell rfl, (few_c oU oV oH U.length cU V.length cV H.length cH w4).mono ?_⟩, fun k => by cases k⟩
  rintro _ w17 ⟨b, rfl, hb, g17⟩
  have G17 := G4.trans' g17
  refine ⟨_, rfl, fun hbt w20 e20 => ?_, fun _ => ha.run G17⟩
  obtain ⟨f1, f2, f3⟩ := hb hbt
  have g20 : Grow w17 w20 := only_drew e20
  have G20 := G17.trans' g20
  have r20 := (r4.grow g17).grow g20
  have lt20 := r20.lt
  refine ⟨_, _, _, r20.cell rfl, _, _, _, r20.cell rfl, _, _, _, r20.cell rfl, _, _, _, r20.cell rfl, _, _, _, r20.cell rfl, _, _, _, r20.cell rfl, (own_c oU oV oH cU cV cH U V H (by omega) (by omega) (by omega) w20 (Nums.any (nU.grow G20)) (Nums.any (nV.grow G20)) (Nums.any (nH.grow G20))).mono ?_⟩
  rintro _ w41 ⟨p1, d1, p2, d2, p3, d3, rfl, ⟨q1, q2, q3, -⟩, g41⟩
  have G41 := G20.trans' g41
  refine ⟨_, _, _, _, _, _, _, _, _, rfl, kept_only g41 lt20 (fun h => h), (Format_c p1 p2 p3 d1 d2 d3 U V H w41 q1.nums q2.nums q3.nums iU iV iH (by omega) (by omega) (by omega) (ht.grow G41)).mono ?_⟩
  rintro _ w52 ⟨rfl, g52⟩
  have G52 := G41.trans' g52
  refine ⟨_, rfl, kept_only (g41.trans' g52) lt20 (fun h => h), (Text_c oU oV oH cU cV cH U V H w52 (nU.grow G52) (nV.grow G52) (nH.grow G52) iU iV iH (by omega) (by omega) (by omega)).mono ?_⟩
  rintro _ w55 ⟨rfl, g55⟩
  exact ⟨_, rfl, fun _ => ⟨rfl, G52.trans' g55⟩, fun k => by rw [strEq_iff.2 rfl] at k; cases k⟩
end Go.Proofs.YtneklhmkiememaaDoor
