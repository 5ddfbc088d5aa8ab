/- Contracts: lines, Format, the reference's Text; the law on the text. -/
import Derived.Test.YtneklhmkiememaaDoorZm
namespace Go.Proofs.YtneklhmkiememaaDoor
open Go Go.Nf Go.RowKit

/-! ### the builder -/
theorem below_only {B : Nat} {w w' : World} (h : Below B w w') : Only (fun b => B ≤ b) w w' :=
  ⟨h.os, h.tape, h.output, h.size, fun i _ hn => h.block i (Nat.lt_of_not_le hn)⟩
theorem cells_eq (s : Str) : Lib.strCells (BA s) = Lib.byteCells s := by unfold Lib.strCells Lib.byteCells; simp
theorem bytes_append (a b : Str) : Lib.byteCells (a ++ b) = Lib.byteCells a ++ Lib.byteCells b := by unfold Lib.byteCells; simp
theorem bytes_one (c : UInt8) : Lib.byteCells [c] = [.int .u8 (c.toNat : Int)] := by unfold Lib.byteCells; simp
theorem bytes_len (a : Str) : (Lib.byteCells a).length = a.length := by unfold Lib.byteCells; simp
/-- a builder at block b that holds a text -/
abbrev Bld (b : Nat) (t : Str) (w : World) : Prop := Lib.IsBuilder 84 5 b b (Lib.byteCells t) w
theorem bld_new {w w1 : World} (e : w1 = w.alloc (.cells #[.pointer none, .slice none 0 0] 84 (0, 0))) : Bld (hs w) [] w1 := by
  refine .inl ⟨Nat.le_refl _, .slice none 0 0, ?_, World.ownsRow_nil _ _ _ _, by simp [Value.ownBlock]⟩
  exact Row.new (l := [.pointer none, .slice none 0 0]) e
theorem bldAt_grow {b : Nat} {p : Value} {bs : List Value} {w w' : World} (h : Lib.BuilderAt 84 5 b b p bs w) (g : Grow w w') : Lib.BuilderAt 84 5 b b p bs w' := by
  have hl := h.lt
  obtain ⟨h1, v, h2, h3, h4⟩ := h
  refine ⟨h1, v, by rw [g.block b hl fun h => h]; exact h2, h3.kept (row := none) ⟨g.os, g.tape, g.output, g.size, fun k hk _ => g.block k hk fun h => h⟩ ?_, h4⟩
  cases he : v.ownBlock with
  | none => exact .inl rfl
  | some x => exact .inr (by simp)
theorem bld_grow {b : Nat} {t : Str} {w w' : World} (h : Bld b t w) (g : Grow w w') : Bld b t w' := h.imp (bldAt_grow · g) (bldAt_grow · g)
theorem write_c {b : Nat} {t s : Str} {w : World} (h : Bld b t w) (hl : t.length + s.length ≤ 140737488355328) (hb : b ≤ hs w) :
    Calls Tryd.prog 51 #[.pointer (some ⟨b, 0, none⟩), .string (BA s)] w fun e w' => (∃ x v, e = .returned (.tuple #[.int .i64 x, v])) ∧ Bld b (t ++ s) w' ∧ Only (fun x => b ≤ x) w w' := by
  refine (Tryd.Builder_WriteString b b (Lib.byteCells t) (BA s) w h (by rw [bytes_len, BA_size]; exact hl) hb).mono ?_
  rintro _ w' ⟨rfl, h1, h2⟩
  rw [cells_eq, ← bytes_append] at h1
  exact ⟨⟨_, _, rfl⟩, .inr h1, below_only h2⟩
theorem byte_c {b : Nat} {t : Str} {w : World} (h : Bld b t w) (c : UInt8) (hl : t.length + 1 ≤ 140737488355328) (hb : b ≤ hs w) :
    Calls Tryd.prog 52 #[.pointer (some ⟨b, 0, none⟩), .int .u8 (c.toNat : Int)] w fun e w' => (∃ v, e = .returned v) ∧ Bld b (t ++ [c]) w' ∧ Only (fun x => b ≤ x) w w' := by
  refine (Tryd.Builder_WriteByte b b (Lib.byteCells t) _ w h (by rw [bytes_len]; exact hl) hb).mono ?_
  rintro _ w' ⟨rfl, h1, h2⟩
  rw [← bytes_one, ← bytes_append] at h1
  exact ⟨⟨_, rfl⟩, .inr h1, below_only h2⟩
theorem string_c {b : Nat} {t : Str} {w : World} (h : Bld b t w) (hb : b ≤ hs w) :
    Calls Tryd.prog 54 #[.pointer (some ⟨b, 0, none⟩)] w fun e w' => e = .returned (.string (BA t)) ∧ Only (fun x => b ≤ x) w w' := by
  refine (Tryd.Builder_String_any b b t w h hb).mono ?_
  rintro _ w' ⟨rfl, h2⟩
  exact ⟨rfl, below_only h2⟩

/-! ### the table of powers -/
abbrev Tab (w : World) : Prop := Lib.TabIs Tryd.prog w "internal/strconv.uint64pow10" .u64 Lib.pow10Tab
theorem tab_only {w w' : World} {S : Nat → Prop} (h : Tab w) (g : Only S w w') (hS : ∀ b, (∀ n, Tryd.prog.globalNamed n = some b → ¬ S b)) : Tab w' := by
  unfold Tab Lib.TabIs World.var? at *
  cases hg : Tryd.prog.globalNamed "internal/strconv.uint64pow10" with
  | none => rw [hg] at h; cases h
  | some b =>
    rw [hg] at h
    simp only [Option.bind_some] at h ⊢
    have hb : b < hs w := by
      rcases Nat.lt_or_ge b w.heap.size with h' | h'
      · exact h'
      · rw [Array.getElem?_eq_none h'] at h; cases h
    rw [g.block b hb (hS b _ hg)]
    exact h
theorem Tab.grow {w w' : World} (h : Tab w) (g : Grow w w') : Tab w' := tab_only h g fun _ _ _ h => h
theorem tab_from {w0 w w' : World} {B : Nat} (h0 : Tab w0) (hB : hs w0 ≤ B) (h : Tab w) (g : Only (fun x => B ≤ x) w w') : Tab w' := by
  unfold Tab Lib.TabIs World.var? at *
  cases hg : Tryd.prog.globalNamed "internal/strconv.uint64pow10" with
  | none => rw [hg] at h; cases h
  | some b =>
    rw [hg] at h h0
    simp only [Option.bind_some] at h h0 ⊢
    have hb : b < hs w0 := by
      rcases Nat.lt_or_ge b w0.heap.size with h' | h'
      · exact h'
      · rw [Array.getElem?_eq_none h'] at h0; cases h0
    have hb' : b < hs w := by
      rcases Nat.lt_or_ge b w.heap.size with h' | h'
      · exact h'
      · rw [Array.getElem?_eq_none h'] at h; cases h
    rw [g.block b hb' fun k => by omega]
    exact h
theorem formatInt_c (n : Int) (w : World) (h0 : -9223372036854775808 ≤ n) (h1 : n ≤ 9223372036854775807) (ht : Tab w) : Calls Tryd.prog 53 #[.int .i64 n, .int .i64 10] w fun e w' => e = .returned (.string (BA (numL n))) ∧ Grow w w' := by
  refine (Tryd.strconv_FormatInt_10 n h0 h1 w ht).mono ?_
  rintro _ _ ⟨rfl, k, os, rfl⟩
  refine ⟨rfl, ⟨rfl, rfl, rfl, by simp [hs, Sort.grow, World.drewN], fun i hi _ => ?_⟩⟩
  show (w.heap ++ os)[i]? = _
  rw [Array.getElem?_append_left hi]

/-! ### lines -/
def numsL (xs : List Int) : Str := xs.flatMap fun x => 32 :: numL x
def lineL (word : Str) (xs : List Int) : Str := word ++ numsL xs ++ [10]
def I64 (xs : List Int) : Prop := ∀ x ∈ xs, -9223372036854775808 ≤ x ∧ x ≤ 9223372036854775807
theorem numsL_len : ∀ {xs : List Int}, I64 xs → (numsL xs).length ≤ 21 * xs.length
  | [], _ => by simp [numsL]
  | x :: xs, h => by
    have ih := numsL_len (xs := xs) fun y hy => h y (.tail _ hy)
    have := num_len20 (h x (.head _)).1 (h x (.head _)).2
    unfold numsL at *
    rw [List.flatMap_cons, List.length_append, List.length_cons, List.length_cons]
    omega
theorem numsL_take {xs : List Int} {i : Nat} (h : i < xs.length) : numsL (xs.take (i + 1)) = numsL (xs.take i) ++ [32] ++ numL xs[i] := by
  unfold numsL
  rw [List.take_succ_eq_append_getElem h, List.flatMap_append]
  simp
theorem I64.take {xs : List Int} (h : I64 xs) (i : Nat) : I64 (xs.take i) := fun x hx => h x (List.mem_of_mem_take hx)
theorem take_len {xs : List Int} {i : Nat} (h : i ≤ xs.length) : (xs.take i).length = i := by rw [List.length_take]; omega
set_option maxHeartbeats 2000000 in
theorem line_c (word : Str) (o : Option Addr) (c : Nat) (xs : List Int) (w : World) {A : Nat → Prop} (h : Nums w A o xs) (h6 : I64 xs) (hw : word.length ≤ 100) (hx : xs.length ≤ 1000) (ht : Tab w) :
    Calls Tryd.prog 41 #[.string (BA word), .slice o xs.length c] w fun e w' => e = .returned (.string (BA (lineL word xs))) ∧ Grow w w' := by
  refine nf41 (BA word) o xs.length c w _ fun w1 e1 => ?_
  have b1 := bld_new e1
  have g1 : Grow w w1 := only_alloc e1
  have z1 := hs_alloc e1
  refine (write_c b1 (s := word) (by simp; omega) (by omega)).mono ?_
  rintro _ w4 ⟨⟨x5, v6, rfl⟩, b4, o4⟩
  rw [List.nil_append] at b4
  have low : ∀ b, b < hs w → ¬ hs w ≤ b := fun b hb => by omega
  have any : ∀ {w' : World}, Only (fun x => hs w ≤ x) w1 w' → Grow w w' := fun k => g1.trans k fun b hb e => by omega
  have tb : ∀ {w' : World}, Only (fun x => hs w ≤ x) w1 w' → Tab w' := fun k => ht.grow (any k)
  refine ⟨_, _, rfl, fun n x w' => ∃ i : Nat, x = (i : Int) ∧ i ≤ xs.length ∧ n = xs.length - i ∧ Bld (hs w) (word ++ numsL (xs.take i)) w' ∧ Only (fun x => hs w ≤ x) w1 w', ⟨_, 0, rfl, Nat.zero_le _, rfl, by simpa [numsL] using b4, o4⟩, ?_⟩
  rintro n _ w11 x ⟨i, rfl, hi, rfl, b11, o11⟩
  have z11 := o11.size
  have hl := numsL_len (h6.take i)
  rw [take_len hi] at hl
  refine ⟨fun hlt => ?_, fun hge => ?_⟩
  · have hlt : i < xs.length := by have := dT hlt; omega
    obtain ⟨a, ha, hc⟩ := (h.grow (any o11)).get hlt
    have hxi := h6 _ (List.getElem_mem hlt)
    have hnl := num_len20 hxi.1 hxi.2
    refine ⟨a, ha, ⟨by omega, by omega⟩, _, hc, (byte_c b11 32 (by rw [List.length_append]; omega) (by omega)).mono ?_⟩
    rintro _ w18 ⟨⟨v19, rfl⟩, b18, o18⟩
    have z18 := o18.size
    refine ⟨_, rfl, (formatInt_c xs[i] w18 hxi.1 hxi.2 (tb (o11.trans' o18))).mono ?_⟩
    rintro _ w21 ⟨rfl, g21⟩
    have z21 := g21.size
    refine ⟨_, rfl, (write_c (bld_grow b18 g21) (s := numL xs[i]) (by rw [List.length_append, List.length_append, List.length_singleton]; omega) (by omega)).mono ?_⟩
    rintro _ w24 ⟨⟨x25, v26, rfl⟩, b24, o24⟩
    refine ⟨_, _, rfl, _, by omega, i + 1, by rw [wr (by omega)]; omega, hlt, rfl, ?_, ((o11.trans' o18).grow g21).trans' o24⟩
    rw [numsL_take hlt]
    simpa [List.append_assoc] using b24
  · have hil : i = xs.length := by have := dF hge; omega
    rw [hil, List.take_length] at b11
    rw [hil, List.take_length] at hl
    refine (byte_c b11 10 (by rw [List.length_append]; omega) (by omega)).mono ?_
    rintro _ w30 ⟨⟨v31, rfl⟩, b30, o30⟩
    have z30 := o30.size
    refine ⟨_, rfl, (string_c b30 (by omega)).mono ?_⟩
    rintro _ w33 ⟨rfl, o33⟩
    exact ⟨_, rfl, rfl, any ((o11.trans' o30).trans' o33)⟩

/-! ### Format -/
def rowsW : Str := [114, 111, 119, 115]
def columnsW : Str := [99, 111, 108, 117, 109, 110, 115]
def shortW : Str := [115, 104, 111, 114, 116]
def certL (U V H : List Int) : Str := lineL rowsW U ++ lineL columnsW V ++ lineL shortW H
theorem line_len {word : Str} {xs : List Int} (h : I64 xs) (hw : word.length ≤ 100) (hx : xs.length ≤ 1000) : (lineL word xs).length ≤ 30000 := by
  have := numsL_len h
  unfold lineL
  rw [List.length_append, List.length_append, List.length_singleton]
  omega
set_option maxHeartbeats 2000000 in
theorem Format_c (oU oV oH : Option Addr) (cU cV cH : Nat) (U V H : List Int) (w : World) {A B C : Nat → Prop} (nU : Nums w A oU U) (nV : Nums w B oV V) (nH : Nums w C oH H) (iU : I64 U) (iV : I64 V) (iH : I64 H)
    (lU : U.length ≤ 200) (lV : V.length ≤ 200) (lH : H.length ≤ 200) (ht : Tab w) :
    Calls Tryd.prog 23 #[certV oU U.length cU oV V.length cV oH H.length cH] w fun e w' => e = .returned (.string (BA (certL U V H))) ∧ Grow w w' := by
  refine nf23 oU U.length cU oV V.length cV oH H.length cH w _ fun w1 e1 => ?_
  have r1 := Row.new e1
  have g1 : Grow w w1 := only_alloc e1
  have z1 := hs_alloc e1
  refine ⟨_, _, _, r1.cell rfl, make_zeros elem26 zero2 lH fun w7 r7 g7 z7 => ⟨_, _, _, rfl, _, _, _, (r1.grow g7).cell rfl, fun n x w' => ∃ t : Nat, x = (t : Int) ∧ t ≤ H.length ∧ n = H.length - t ∧ Row w' (hs w1) 2 (intsV (H.take t ++ List.replicate (H.length - t) 0)) ∧ Only (fun b => b = hs w1) w7 w', ⟨_, 0, rfl, Nat.zero_le _, rfl, by simpa using r7, Only.refl _ _⟩, ?_⟩⟩
  rintro n _ w18 x ⟨t, rfl, hle, rfl, r18, o18⟩
  have G18 : Grow w1 w18 := g7.trans o18 fun b hb e => by omega
  refine ⟨fun hlt => ?_, fun hge w29 e29 => ?_⟩
  · have hlt : t < H.length := by have := dT hlt; omega
    obtain ⟨a, ha, hc⟩ := (nH.grow (g1.trans' G18)).get hlt
    refine ⟨a, ha, ⟨by omega, by omega⟩, _, hc, _, rfl, ⟨by omega, by omega⟩, r18.thereAdd (by rw [toNat_cast, Nat.mul_one, intsV_len, List.length_append, List.length_replicate, List.length_take]; omega), fun w25 e25 => ⟨_, by omega, t + 1, by rw [wr (by omega)]; omega, hlt, rfl, ?_, o18.trans' (only_setAdd e25)⟩⟩
    have r25 := r18.setAdd e25
    rw [intsV_set _ _ _ (by rw [List.length_append, List.length_replicate, List.length_take]; omega), fill_step _ _ _ _ hlt (take_len hle)] at r25
    rw [List.take_succ_eq_append_getElem hlt]
    exact r25
  have htl : t = H.length := by have := dF hge; omega
  rw [htl, List.take_length, Nat.sub_self, List.replicate_zero, List.append_nil] at r18
  have g29 : Grow w18 w29 := only_drew e29
  have G29 := G18.trans' g29
  have K29 := g1.trans' G29
  have r29 := r1.grow G29
  have n29 : Nums w29 (fun _ => True) (some ⟨hs w1, 0, none⟩) H := Row.nums (r18.grow g29) trivial
  have lt29 := r29.lt
  refine ⟨_, _, _, r29.cell rfl, _, _, _, r29.cell rfl, (line_c rowsW oU cU U w29 (nU.grow K29) iU (by decide) (by omega) (ht.grow K29)).mono ?_⟩
  rintro _ w38 ⟨rfl, g38⟩
  have K38 := K29.trans' g38
  refine ⟨_, rfl, kept_only g38 lt29 (fun h => h), (line_c columnsW oV cV V w38 (nV.grow K38) iV (by decide) (by omega) (ht.grow K38)).mono ?_⟩
  rintro _ w41 ⟨rfl, g41⟩
  have K41 := K38.trans' g41
  have l1 := line_len (word := rowsW) iU (by decide) (by omega)
  have l2 := line_len (word := columnsW) iV (by decide) (by omega)
  have l3 := line_len (word := shortW) iH (by decide) (by omega)
  have last := line_c shortW (some ⟨hs w1, 0, none⟩) H.length H w41 ((n29.grow g38).grow g41) iH (by decide) (by omega) (ht.grow K41)
  refine ⟨_, rfl, run_cat (by omega) ⟨_, rfl, last.mono ?_⟩, last.mono ?_⟩
  · rintro _ w47 ⟨rfl, g47⟩
    exact ⟨_, rfl, run_cat (by rw [List.length_append]; omega) ⟨_, rfl, rfl, K41.trans' g47⟩⟩
  · rintro _ w53 ⟨rfl, g53⟩
    exact ⟨_, rfl, run_cat (by omega) ⟨_, rfl, run_cat (by rw [List.length_append]; omega) ⟨_, rfl, rfl, K41.trans' g53⟩⟩⟩
end Go.Proofs.YtneklhmkiememaaDoor
