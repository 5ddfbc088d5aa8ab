/- Bytes, checksums, the writer and the reader, the file, the journal. -/
import Derived.Test.YtcaokpglbolkcaaGreatNf1
import Derived.Test.YtcaokpglbolkcaaGreatNfR
import Derived.Test.YtcaokpglbolkcaaGreatRz
import Derived.Lib.VarintBits
namespace Go.Proofs.YtcaokpglbolkcaaGreat
section
open Go Go.Nf Go.RowKit

theorem Recs.atE {α : Type} {f : α → List Value} {w : World} {A : Nat → Prop} {o : Option Addr} {k : Nat} {l : List α} (h : Recs w A o k (l.map f)) {i : Nat} {x : α} (hi : l[i]? = some x) :
    ∃ a, o = some a ∧ A a.block ∧ (∀ j v, (f x)[j]? = some v → w.cell? ((a.add ((i : Int).toNat * k)).add j) = some v) ∧ ∀ v, (f x)[0]? = some v → w.cell? (a.add ((i : Int).toNat * k)) = some v := by
  obtain ⟨a, ha, hA, hc⟩ := h i (f x) (by rw [List.getElem?_map, hi]; rfl)
  refine ⟨a, ha, hA, hc, fun v hv => ?_⟩
  have := hc 0 v hv
  rwa [Go.Nf.add_zero] at this
/-! ### bytes -/
def by1 (b : UInt8) : List Value := [.int .u8 (b.toNat : Int)]
theorem by1_len (b : UInt8) : (by1 b).length = 1 := rfl
def byV (xs : List UInt8) : List Value := xs.flatMap by1
theorem byV_len (xs : List UInt8) : (byV xs).length = xs.length := by unfold byV; rw [flat_length by1_len, Nat.mul_one]
theorem byV_app (xs ys : List UInt8) : byV (xs ++ ys) = byV xs ++ byV ys := List.flatMap_append
theorem byV_one (xs : List UInt8) : ∀ u ∈ byV xs, u.oneCell' = true := fun u hu => by
  obtain ⟨b, -, hb⟩ := List.mem_flatMap.1 hu
  rw [List.mem_singleton.1 hb]; rfl
/-- bytes behind a slice that is read -/
abbrev Byts (w : World) (A : Nat → Prop) (o : Option Addr) (xs : List UInt8) : Prop := Recs w A o 1 (xs.map by1)
theorem Byts.at {w : World} {A : Nat → Prop} {o : Option Addr} {xs : List UInt8} (h : Byts w A o xs) {i : Nat} {x : UInt8} (hi : xs[i]? = some x) :
    ∃ a, o = some a ∧ A a.block ∧ w.cell? (a.add ((i : Int).toNat * 1)) = some (.int .u8 (x.toNat : Int)) := by
  obtain ⟨a, ha, hA, -, hc⟩ := Recs.atE h hi
  exact ⟨a, ha, hA, hc _ rfl⟩
theorem own_byts {w : World} {B T : Nat} {o : Option Addr} {n c : Nat} {xs : List UInt8} (h : Own w B T 1 o n c (byV xs)) : Byts w (inBlock o) o xs := own_recs' by1_len (by decide) h
theorem row_byts {w : World} {b T : Nat} {xs : List UInt8} (h : Row w b T (byV xs)) : Byts w (fun k => k = b) (some ⟨b, 0, none⟩) xs := fun i row hi => by
  rw [List.getElem?_map] at hi
  cases hx : xs[i]? with
  | none => rw [hx] at hi; cases hi
  | some x =>
    rw [hx] at hi
    cases hi
    refine ⟨_, rfl, rfl, fun j v hj => ?_⟩
    rw [toNat_cast]
    have hj1 : j < 1 := by
      rcases Nat.lt_or_ge j 1 with h | h
      · exact h
      · rw [List.getElem?_eq_none (by rw [by1_len]; exact h)] at hj; cases hj
    refine h.cellAdd2 ?_
    unfold byV
    rw [flat_get by1_len _ _ _ hj1, hx]; exact hj
theorem Byts.tail {w : World} {A : Nat → Prop} {a : Addr} {x : UInt8} {xs : List UInt8} (h : Byts w A (some a) (x :: xs)) : Byts w A (some (a.add 1)) xs := fun i row hi => by
  obtain ⟨a', ha, hA, hc⟩ := h (i + 1) row hi
  cases ha
  refine ⟨_, rfl, by rw [block_add1]; exact hA, fun j v hj => ?_⟩
  have := hc j v hj
  rw [toNat_cast, Nat.mul_one] at this ⊢
  rw [add_add a 1 i, Nat.add_comm 1 i]; exact this
theorem Byts.drop {w : World} {A : Nat → Prop} {a : Addr} : ∀ {n : Nat} {xs : List UInt8}, Byts w A (some a) xs → n ≤ xs.length → Byts w A (some (a.add n)) (xs.drop n)
  | 0, xs, h, _ => by rw [Go.Nf.add_zero]; exact h
  | n + 1, [], _, hn => absurd hn (by simp)
  | n + 1, x :: xs, h, hn => by
    have := Byts.drop (n := n) h.tail (by simpa using hn)
    rw [add_add, Nat.add_comm 1 n] at this
    exact this
theorem Byts.take {w : World} {A : Nat → Prop} {o : Option Addr} {n : Nat} {xs : List UInt8} (h : Byts w A o xs) : Byts w A o (xs.take n) := fun i row hi => by
  rw [List.map_take, List.getElem?_take] at hi
  split at hi
  · exact h i row hi
  · cases hi
theorem u8_wrap (x : Int) : (((UInt8.ofNat (IntKind.wrap .u8 x).toNat).toNat : Nat) : Int) = IntKind.wrap .u8 x := by
  rw [IntKind.wrap_u8, UInt8.toNat_ofNat']
  omega
theorem u8_lt (b : UInt8) : b.toNat < 256 := b.toNat_lt
/-! ### operations on bits -/
section
variable {P : Program} {t : TypeId} {x y : Operand} {k : IntKind} {a b : Int} {w : World} {K : Value → World → Prop}
theorem run_xor (h : K (.int k (bits .xor k a b)) w) : RunOk P (Hold (binOpSem .xor t x y (.int k a) (.int k b))) w K := ⟨_, w, by unfold Hold binOpSem; simp [eqGuard, binOp_xor, intBits_xor], h⟩
theorem run_and (h : K (.int k (bits .and k a b)) w) : RunOk P (Hold (binOpSem .and t x y (.int k a) (.int k b))) w K := ⟨_, w, by unfold Hold binOpSem; simp [eqGuard, binOp_and, intBits_and], h⟩
theorem run_or (h : K (.int k (bits .or k a b)) w) : RunOk P (Hold (binOpSem .or t x y (.int k a) (.int k b))) w K := ⟨_, w, by unfold Hold binOpSem; simp [eqGuard, binOp_or, intBits_or], h⟩
theorem run_shr {k' : IntKind} {n : Nat} (h : K (.int k (a.fdiv (2 ^ min n k.bits))) w) : RunOk P (Hold (binOpSem .shr t x y (.int k a) (.int k' (n : Int)))) w K := by
  refine ⟨_, w, ?_, h⟩
  unfold Hold binOpSem
  have : ¬ ((n : Int) < 0) := by omega
  simp [eqGuard, binOp, Op.shift, this]
theorem run_shl {k' : IntKind} {n : Nat} (h : K (.int k (k.wrap (a * 2 ^ min n k.bits))) w) : RunOk P (Hold (binOpSem .shl t x y (.int k a) (.int k' (n : Int)))) w K := by
  refine ⟨_, w, ?_, h⟩
  unfold Hold binOpSem
  have : ¬ ((n : Int) < 0) := by omega
  simp [eqGuard, binOp, Op.shift, this]
end
/-! ### checksums -/
def addByteF (s b : Int) : Int :=
  bits .xor .u64 (IntKind.wrap .u64 (bits .xor .u64 s (IntKind.wrap .u64 b) * 1099511628211)) (Int.fdiv (IntKind.wrap .u64 (bits .xor .u64 s (IntKind.wrap .u64 b) * 1099511628211)) 4294967296)
theorem addByte_c (s b : Int) (w : World) : Calls Tryz.prog 86 #[.int .u64 s, .int .u8 b] w fun e w' => e = .returned (.int .u64 (addByteF s b)) ∧ w' = w :=
  nf86 s b w _ (run_xor ⟨_, rfl, run_xor ⟨_, rfl, rfl, rfl⟩⟩)
def addIntF (s n : Int) : Int := (List.range 8).foldl (fun s i => addByteF s (IntKind.wrap .u8 (n.fdiv (2 ^ min (8 * i) 64)))) s
theorem addInt_c (s n : Int) (w : World) : Calls Tryz.prog 115 #[.int .u64 s, .int .u64 n] w fun e w' => e = .returned (.int .u64 (addIntF s n)) ∧ w' = w := by
  refine nf115 s n w _ ⟨fun k x i w' => ∃ j : Nat, i = (j : Int) ∧ j ≤ 8 ∧ k = 8 - j ∧ x = (List.range j).foldl (fun s i => addByteF s (IntKind.wrap .u8 (n.fdiv (2 ^ min (8 * i) 64)))) s ∧ w' = w, ⟨_, 0, rfl, by omega, rfl, rfl, rfl⟩, ?_⟩
  rintro k _ w x i ⟨j, rfl, hj, rfl, rfl, rfl⟩
  refine ⟨fun hlt => ?_, fun hge => ?_⟩
  · have hlt := dT hlt
    have e : IntKind.wrap .i64 (8 * (j : Int)) = ((8 * j : Nat) : Int) := by rw [wr (by omega)]; omega
    rw [e]
    refine run_shr ⟨_, rfl, (addByte_c _ _ _).mono ?_⟩
    rintro _ _ ⟨rfl, rfl⟩
    exact ⟨_, rfl, _, by omega, j + 1, by rw [wr (by omega)]; omega, by omega, rfl, by rw [List.range_succ, List.foldl_append]; rfl, rfl⟩
  · have : j = 8 := by have := dF hge; omega
    subst this
    exact ⟨rfl, rfl⟩
def updF (s : Int) (xs : List UInt8) : Int := xs.foldl (fun s b => addByteF s (b.toNat : Int)) s
theorem update_c {A : Nat → Prop} (s : Int) (o : Option Addr) (c : Nat) (xs : List UInt8) (hl : xs.length ≤ 1000000000) (w : World) (h : Byts w A o xs) : Calls Tryz.prog 50 #[.int .u64 s, .slice o xs.length c] w fun e w' => e = .returned (.int .u64 (updF s xs)) ∧ w' = w := by
  refine nf50 s o xs.length c w _ ⟨fun k x i w' => ∃ j : Nat, i = (j : Int) ∧ j ≤ xs.length ∧ k = xs.length - j ∧ x = updF s (xs.take j) ∧ w' = w, ⟨_, 0, rfl, by omega, rfl, rfl, rfl⟩, ?_⟩
  rintro k _ w x i ⟨j, rfl, hj, rfl, rfl, rfl⟩
  refine ⟨fun hlt => ?_, fun hge => ?_⟩
  · have hlt : j < xs.length := by have := dT hlt; omega
    obtain ⟨a, ha, -, hc⟩ := h.at (List.getElem?_eq_getElem hlt)
    refine ⟨a, ha, ⟨by omega, by omega⟩, _, hc, (addByte_c _ _ _).mono ?_⟩
    rintro _ _ ⟨rfl, rfl⟩
    exact ⟨_, rfl, _, by omega, j + 1, by rw [wr (by omega)]; omega, hlt, rfl, by rw [List.take_succ_eq_append_getElem hlt]; unfold updF; rw [List.foldl_append]; rfl, rfl⟩
  · have : j = xs.length := by have := dF hge; omega
    subst this
    rw [List.take_length]
    exact ⟨rfl, rfl⟩
def sum0 : Int := 14695981039346656037
theorem sum_nil (w : World) : Calls Tryz.prog 21 #[.slice none 0 0] w fun e w' => e = .returned (.int .u64 sum0) ∧ w' = w := by
  refine nf21 none 0 0 w _ ((update_c (A := fun _ => False) 14695981039346656037 none 0 [] (by simp) w (Recs.nil _ _ _ _)).mono ?_)
  rintro _ _ ⟨rfl, rfl⟩
  exact ⟨_, rfl, rfl, rfl⟩
theorem awake_c (w : World) : Calls Tryz.prog 5 #[] w fun e w' => e = .returned (.bool true) ∧ w' = w := by
  refine nf5 w _ ((sum_nil w).mono ?_)
  rintro _ _ ⟨rfl, rfl⟩
  exact ⟨_, rfl, nyes (by decide) ⟨rfl, rfl⟩⟩
def chainF (prev kind : Int) (xs : List UInt8) : Int := updF (addIntF (addByteF (addIntF 14695981039346656037 prev) kind) (IntKind.wrap .u64 (xs.length : Int))) xs
theorem chain_c {A : Nat → Prop} (prev kind : Int) (o : Option Addr) (c : Nat) (xs : List UInt8) (hl : xs.length ≤ 1000000000) (w : World) (h : Byts w A o xs) : Calls Tryz.prog 90 #[.int .u64 prev, .int .u8 kind, .slice o xs.length c] w fun e w' => e = .returned (.int .u64 (chainF prev kind xs)) ∧ w' = w := by
  refine nf90 prev kind o xs.length c w _ ((addInt_c _ _ _).mono ?_)
  rintro _ _ ⟨rfl, rfl⟩
  refine ⟨_, rfl, (addByte_c _ _ _).mono ?_⟩
  rintro _ _ ⟨rfl, rfl⟩
  refine ⟨_, rfl, (addInt_c _ _ _).mono ?_⟩
  rintro _ _ ⟨rfl, rfl⟩
  refine ⟨_, rfl, (update_c _ o c xs hl _ h).mono ?_⟩
  rintro _ _ ⟨rfl, rfl⟩
  exact ⟨_, rfl, rfl, rfl⟩
/-! ### numbers written -/
theorem elem42 : Elem Tryz.prog 42 5 1 1 := elem_of (by kernel_rfl)
structure WrAt (B : Nat) (w : World) (q : Nat) (xs : List UInt8) : Prop where
  ge : B ≤ q
  ex : ∃ o c, Row w q 137 [.slice o xs.length c] ∧ Own w B 5 1 o xs.length c (byV xs)
theorem wr_new {w w1 : World} {B : Nat} (hB : B ≤ hs w) (e : w1 = w.alloc (.cells #[.slice none 0 0] 137 (0, 0))) : WrAt B w1 (hs w) [] := ⟨hB, none, 0, Row.new (l := [.slice none 0 0]) e, own_nil _ _ _ _⟩
/-- what a call that owns all from B on leaves alone -/
abbrev Above (B : Nat) : Nat → Prop := fun b => B ≤ b
theorem above_grow {B : Nat} {w w' : World} (h : Only (Above B) w w') (hB : hs w ≤ B) : Grow w w' := h.toGrow fun i hi => Nat.le_trans hB hi
section
variable {B : Nat} {w : World} {q : Nat} {xs : List UInt8}
theorem WrAt.put {ys : List UInt8} {w1 w2 : World} {o o' : Option Addr} {c c' : Nat} (h : WrAt B w q xs) (h1 : Own w B 5 1 o xs.length c (byV xs)) (h2 : Only (inBlock o) w w1) (h3 : Own w1 B 5 1 o' (xs.length + ys.length) c' (byV xs ++ byV ys)) (hr : Row w1 q 137 [.slice o xs.length c]) (e : w2 = setCells w1 ⟨q, 0, none⟩ [.slice o' (xs.length + ys.length) c'] 0) :
    WrAt B w2 q (xs ++ ys) ∧ Only (Above B) w w2 := by
  have hne : ∀ b, inBlock o' b → ¬ b = q := fun b hb eb => by
    obtain ⟨l', hl'⟩ := h3.row hb
    rw [eb] at hl'
    cases (hr.inj hl').2
  refine ⟨⟨h.ge, o', c', ?_, ?_⟩, ?_⟩
  · rw [List.length_append]; exact hr.set e
  · rw [byV_app, List.length_append]; exact h3.keep (only_set e) hne
  · exact (h2.mono fun b _ hb => (h1.base b hb).1).trans' ((only_set e).mono fun b _ hb => by subst hb; exact h.ge)
theorem WrAt.apart {o : Option Addr} {c n : Nat} {ys : List Value} (h2 : Own w B 5 1 o n c ys) {l : List Value} (hr : Row w q 137 l) : ¬ inBlock o q := fun hb => by
  obtain ⟨l', hl'⟩ := h2.row hb
  cases (hr.inj hl').2
theorem bits_or128 {v : Int} (h0 : 0 ≤ v) (h1 : v < 256) : bits .or .u8 v 128 = v % 128 + 128 := by
  have key : ∀ v : Fin 256, bits .or .u8 (v.val : Int) 128 = (v.val : Int) % 128 + 128 := by decide +kernel
  have := key ⟨v.toNat, by omega⟩
  simp only [Int.toNat_of_nonneg h0] at this
  exact this
theorem bits_xor0 {v : Int} (h0 : 0 ≤ v) (h1 : v < 18446744073709551616) : bits .xor .u64 v 0 = v := by
  have e : ((BitVec.ofInt 64 v) ^^^ (BitVec.ofInt 64 0)).toNat = v.toNat := by
    simp
    omega
  show IntKind.wrap .u64 (((BitVec.ofInt 64 v) ^^^ (BitVec.ofInt 64 0)).toNat : Int) = v
  rw [e, IntKind.wrap_u64]; omega
theorem bits_xor0i {v : Int} (h0 : 0 ≤ v) (h1 : v < 9223372036854775808) : bits .xor .i64 v 0 = v := by
  have e : ((BitVec.ofInt 64 v) ^^^ (BitVec.ofInt 64 0)).toNat = v.toNat := by
    simp
    omega
  show IntKind.wrap .i64 (((BitVec.ofInt 64 v) ^^^ (BitVec.ofInt 64 0)).toNat : Int) = v
  rw [e, IntKind.wrap_i64]; omega
end
end
section
open Go Go.Nf Go.RowKit

section
variable {B : Nat} {w : World} {q : Nat} {xs : List UInt8}
set_option maxHeartbeats 1000000 in
theorem wInt_c (h : WrAt B w q xs) (hB : B ≤ hs w) (n : Nat) (hn : n < 2305843009213693952) (hl : xs.length ≤ 1000000000) :
    Calls Tryz.prog 101 #[.pointer (some ⟨q, 0, none⟩), .int .i64 (n : Int)] w fun e w' => e = .returned (.tuple #[]) ∧ WrAt B w' q (xs ++ encI n) ∧ Only (Above B) w w' := by
  have e1 : IntKind.wrap .u64 (IntKind.wrap .u64 (n : Int) * 2) = ((2 * n : Nat) : Int) := by rw [IntKind.wrap_u64, IntKind.wrap_u64]; omega
  have e2 : IntKind.wrap .u64 (Int.fdiv (n : Int) 9223372036854775808) = 0 := by
    rw [Int.fdiv_eq_ediv_of_nonneg _ (by omega), IntKind.wrap_u64]; omega
  refine nf101 q n w _ ?_
  rw [e1, e2]
  refine run_xor ⟨_, rfl, ?_⟩
  rw [bits_xor0 (by omega) (by omega)]
  refine ⟨fun k x w' => ∃ (f v : Nat) (pre : List UInt8), x = (v : Int) ∧ k = f ∧ v < 128 ^ f ∧ 1 ≤ f ∧ f ≤ 10 ∧ pre ++ encF f v = encI n ∧ pre.length ≤ 10 - f ∧ WrAt B w' q (xs ++ pre) ∧ Only (Above B) w w', ⟨_, 10, 2 * n, [], rfl, rfl, by omega, by omega, by omega, rfl, by simp, by simpa using h, Only.refl _ _⟩, ?_⟩
  rintro k _ w8 x ⟨f, v, pre, rfl, rfl, hv, hf1, hf, hp, hpl, h8, o8⟩
  have hB8 : B ≤ hs w8 := Nat.le_trans hB o8.size
  cases k with
  | zero => omega
  | succ f =>
    obtain ⟨o, c, r, own⟩ := h8.ex
    have hlen : (xs ++ pre).length ≤ 1000000010 := by rw [List.length_append]; omega
    refine ⟨fun hge => ?_, fun hlt => ?_⟩
    · have hge : 128 ≤ v := by have := dT hge; omega
      refine ⟨_, _, _, r.cell rfl, run_or ⟨_, rfl, fun w18 e18 => ?_⟩⟩
      have eb : bits .or .u8 (IntKind.wrap .u8 (v : Int)) 128 = ((UInt8.ofNat (v % 128 + 128)).toNat : Int) := by
        rw [bits_or128 (by rw [IntKind.wrap_u8]; omega) (by rw [IntKind.wrap_u8]; omega), IntKind.wrap_u8, UInt8.toNat_ofNat']
        omega
      rw [eb] at e18
      have g18 : Grow w8 w18 := only_alloc e18
      have z18 := g18.size
      refine run_append (B := B) elem42 (own.grow g18) (news := byV [UInt8.ofNat (v % 128 + 128)]) (m := 1) rfl (fun j u hu => (Row.new (l := byV [UInt8.ofNat (v % 128 + 128)]) e18).cellAdd hu) (byV_one _) (by simp only [maxLen]; omega) (by omega) (by omega) fun o' c' w21 p1 p2 p3 => ⟨_, _, _, rfl, ?_⟩
      have r21 := (r.grow g18).keep p2 (WrAt.apart own r)
      refine ⟨r21.there (by simp), fun w25 e25 => ?_⟩
      obtain ⟨h25, o25⟩ := (WrAt.mk h8.ge ⟨o, c, r.grow g18, own.grow g18⟩ : WrAt B w18 q (xs ++ pre)).put (ys := [UInt8.ofNat (v % 128 + 128)]) (own.grow g18) p2 p1 r21 e25
      refine ⟨f, by omega, f, v / 128, pre ++ [UInt8.ofNat (v % 128 + 128)], ?_, rfl, ?_, ?_, by omega, ?_, ?_, ?_, ?_⟩
      · rw [Int.fdiv_eq_ediv_of_nonneg _ (by omega)]; omega
      · rw [Nat.pow_succ] at hv
        exact Nat.div_lt_of_lt_mul (by rw [Nat.mul_comm]; exact hv)
      · rcases Nat.eq_zero_or_pos f with e | e
        · subst e; simp at hv; omega
        · exact e
      · rw [← hp, encF, if_neg (by omega)]
        simp
      · simp; omega
      · rw [← List.append_assoc]; exact h25
      · exact o8.trans' (g18.only.trans' o25)
    · have hlt : v < 128 := by have := dF hlt; omega
      refine ⟨_, _, _, r.cell rfl, fun w18 e18 => ?_⟩
      have eb : IntKind.wrap .u8 (v : Int) = ((UInt8.ofNat v).toNat : Int) := by
        rw [IntKind.wrap_u8, UInt8.toNat_ofNat']
        omega
      rw [eb] at e18
      have g18 : Grow w8 w18 := only_alloc e18
      have z18 := g18.size
      refine run_append (B := B) elem42 (own.grow g18) (news := byV [UInt8.ofNat v]) (m := 1) rfl (fun j u hu => (Row.new (l := byV [UInt8.ofNat v]) e18).cellAdd hu) (byV_one _) (by simp only [maxLen]; omega) (by omega) (by omega) fun o' c' w21 p1 p2 p3 => ⟨_, _, _, rfl, ?_⟩
      have r21 := (r.grow g18).keep p2 (WrAt.apart own r)
      refine ⟨r21.there (by simp), fun w25 e25 => ?_⟩
      obtain ⟨h25, o25⟩ := (WrAt.mk h8.ge ⟨o, c, r.grow g18, own.grow g18⟩ : WrAt B w18 q (xs ++ pre)).put (ys := [UInt8.ofNat v]) (own.grow g18) p2 p1 r21 e25
      refine ⟨rfl, ?_, o8.trans' (g18.only.trans' o25)⟩
      rw [← hp, encF, if_pos hlt, ← List.append_assoc]; exact h25
theorem encF_len : ∀ f v, (encF f v).length ≤ f
  | 0, _ => Nat.le_refl _
  | f + 1, v => by
    rw [encF]
    split
    · simp
    · have := encF_len f (v / 128)
      simp; omega
theorem encI_len (n : Nat) : (encI n).length ≤ 10 := encF_len 10 _
theorem append_byts {P : Program} {w : World} {B t ty T bytes n c c2 : Nat} {o o2 : Option Addr} {xs ys : List UInt8} {A : Nat → Prop} {K : Value → World → Prop} (he : Elem P t T 1 bytes) (hown : Own w B T 1 o n c (byV xs)) (hn : Byts w A o2 ys)
    (h63 : n + ys.length ≤ maxLen) (hb : (n + ys.length) * bytes ≤ 140737488355328) (hbase : B ≤ hs w)
    (h : ∀ o' c' w', Own w' B T 1 o' (n + ys.length) c' (byV (xs ++ ys)) → Only (inBlock o) w w' → K (.slice o' (n + ys.length) c') w') :
    RunOk P (Hold (Builtin.append_ #[t, t] ty #[.slice o n c, .slice o2 ys.length c2])) w K := append_recs by1_len he (by decide) hown hn (byV_one ys) h63 hb hbase h
theorem wBytes_c (h : WrAt B w q xs) (hB : B ≤ hs w) {A : Nat → Prop} (o2 : Option Addr) (c2 : Nat) (ys : List UInt8) (hy : Byts w A o2 ys) (hA : ∀ b, A b → b < B) (hyl : ys.length ≤ 1000000000) (hl : xs.length ≤ 100000000) :
    Calls Tryz.prog 106 #[.pointer (some ⟨q, 0, none⟩), .slice o2 ys.length c2] w fun e w' => e = .returned (.tuple #[]) ∧ WrAt B w' q (xs ++ (encI ys.length ++ ys)) ∧ Only (Above B) w w' := by
  refine nf106 q o2 ys.length c2 w _ ((wInt_c h hB ys.length (by omega) (by omega)).mono ?_)
  rintro _ w2 ⟨rfl, h2, g2⟩
  obtain ⟨o, c, r, own⟩ := h2.ex
  have hB2 : B ≤ hs w2 := Nat.le_trans hB g2.size
  have hel := encI_len ys.length
  have hle : (xs ++ encI ys.length).length ≤ 100000010 := by rw [List.length_append]; omega
  refine ⟨rfl, _, _, _, r.cell rfl, append_byts (B := B) elem42 own (hy.keep g2 fun b hb hb' => absurd (hA b hb) (Nat.not_lt.2 hb')) (by simp only [maxLen]; omega) (by omega) hB2 fun o' c' w7 p1 p2 => ⟨_, _, _, rfl, ?_⟩⟩
  have r7 := r.keep p2 (WrAt.apart own r)
  refine ⟨r7.there (by simp), fun w11 e11 => ?_⟩
  rw [byV_app] at p1
  obtain ⟨h11, o11⟩ := h2.put own p2 p1 r7 e11
  exact ⟨rfl, by rw [← List.append_assoc]; exact h11, g2.trans' o11⟩
def in1 (n : Nat) : List Value := [.int .i64 (n : Int)]
theorem in1_len (n : Nat) : (in1 n).length = 1 := rfl
/-- numbers behind a slice that is read -/
abbrev Ints (w : World) (A : Nat → Prop) (o : Option Addr) (l : List Nat) : Prop := Recs w A o 1 (l.map in1)
theorem Ints.at {w : World} {A : Nat → Prop} {o : Option Addr} {xs : List Nat} (h : Ints w A o xs) {i : Nat} {x : Nat} (hi : xs[i]? = some x) :
    ∃ a, o = some a ∧ A a.block ∧ w.cell? (a.add ((i : Int).toNat * 1)) = some (.int .i64 (x : Int)) := by
  obtain ⟨a, ha, hA, -, hc⟩ := Recs.atE h hi
  exact ⟨a, ha, hA, hc _ rfl⟩
theorem wInts_c (h : WrAt B w q xs) (hB : B ≤ hs w) {A : Nat → Prop} (o2 : Option Addr) (c2 : Nat) (ys : List Nat) (hy : Ints w A o2 ys) (hA : ∀ b, A b → b < B) (hyl : ys.length ≤ 1000) (hys : ∀ y ∈ ys, y < 2305843009213693952) (hl : xs.length ≤ 100000000) :
    Calls Tryz.prog 84 #[.pointer (some ⟨q, 0, none⟩), .slice o2 ys.length c2] w fun e w' => e = .returned (.tuple #[]) ∧ WrAt B w' q (xs ++ encInts ys) ∧ Only (Above B) w w' := by
  refine nf84 q o2 ys.length c2 w _ ((wInt_c h hB ys.length (by omega) (by omega)).mono ?_)
  rintro _ w2 ⟨rfl, h2, g2⟩
  refine ⟨rfl, fun k x w' => ∃ j : Nat, x = (j : Int) ∧ j ≤ ys.length ∧ k = ys.length - j ∧ WrAt B w' q (xs ++ (encI ys.length ++ (ys.take j).flatMap encI)) ∧ Only (Above B) w w', ⟨_, 0, rfl, by omega, rfl, by simpa using h2, g2⟩, ?_⟩
  rintro k _ w7 x ⟨j, rfl, hj, rfl, h7, g7⟩
  refine ⟨fun hlt => ?_, fun hge => ?_⟩
  · have hlt : j < ys.length := by have := dT hlt; omega
    obtain ⟨a, ha, -, hc⟩ := Ints.at (hy.keep g7 fun b hb hb' => absurd (hA b hb) (Nat.not_lt.2 hb')) (List.getElem?_eq_getElem hlt)
    have hlen : ((ys.take j).flatMap encI).length ≤ 10 * j := by
      have : ∀ l : List Nat, (l.flatMap encI).length ≤ 10 * l.length := by
        intro l
        induction l with
        | nil => simp
        | cons a l ih => rw [List.flatMap_cons, List.length_append, List.length_cons]; have := encI_len a; omega
      have := this (ys.take j)
      rw [List.length_take] at this
      omega
    have hel := encI_len ys.length
    refine ⟨a, ha, ⟨by omega, by omega⟩, _, hc, (wInt_c h7 (Nat.le_trans hB g7.size) ys[j] (hys _ (List.getElem_mem hlt)) (by rw [List.length_append, List.length_append]; omega)).mono ?_⟩
    rintro _ w14 ⟨rfl, h14, g14⟩
    refine ⟨rfl, _, by omega, j + 1, by rw [wr (by omega)]; omega, hlt, rfl, ?_, g7.trans' g14⟩
    rw [List.take_succ_eq_append_getElem hlt, List.flatMap_append]
    simpa using h14
  · have : j = ys.length := by have := dF hge; omega
    subst this
    rw [List.take_length] at h7
    exact ⟨rfl, h7, g7⟩
theorem und42 : Tryz.prog.underlying 42 = some (.slice 5) := of_slice (by kernel_rfl)
theorem size5 : (Tryz.prog.info? 5).map (·.size) = some 1 := by kernel_rfl
theorem zero5 : zeroL Tryz.prog 5 = some [.int .u8 0] := by kernel_rfl
/-- a copy of bytes into a new row -/
theorem copy_new {w : World} {A : Nat → Prop} {o : Option Addr} {c : Nat} {n m : Nat} {xs : List UInt8} {K : Value → World → Prop} (h : Byts w A o xs) (hl : xs.length ≤ 1000000000) (hn : n = xs.length) (hm : n ≤ m)
    (hK : ∀ w5 g, w5 = w.alloc (.cells ((List.replicate ((n : Int)).toNat [Value.int .u8 0]).flatten).toArray 5 (0, 0)) → g = hs w → RunOk Tryz.prog (Hold (Builtin.copy_ #[42, 42] 3 #[.slice (some ⟨g, 0, none⟩) ((n : Int)).toNat ((n : Int)).toNat, .slice o m c])) w5 (fun v w6 => v = .int .i64 (n : Int) ∧ Row w6 g 5 (byV xs) ∧ Grow w w6) → K (.slice (some ⟨g, 0, none⟩) ((n : Int)).toNat ((n : Int)).toNat) w5) :
    RunOk Tryz.prog (Hold (Instr.makeSlice 42 (.int .i64 (n : Int)) (.int .i64 (n : Int)))) w K := by
  subst hn
  refine run_make_row elem42 zero5 (by omega) (by omega) (by omega) (by omega) fun w5 e5 => hK w5 _ e5 rfl ?_
  have r5 := Row.new e5
  have g5 : Grow w w5 := only_alloc e5
  rw [toNat_cast]
  rw [toNat_cast] at r5
  by_cases h0 : xs.length = 0
  · have : xs = [] := List.length_eq_zero_iff.1 h0
    subst this
    refine copy_zero und42 size5 (by simp [Nat.min_def]) ⟨rfl, ?_, g5⟩
    simpa [byV] using r5
  · obtain ⟨a, rfl, -⟩ := h.at (List.getElem?_eq_getElem (show 0 < xs.length by omega))
    have own : Own w5 0 5 1 (some ⟨hs w, 0, none⟩) xs.length xs.length ((List.replicate xs.length [Value.int .u8 0]).flatten) := r5.own (Nat.zero_le _) (by simp) (by simp only [maxLen]; omega)
    have hc := copy_own (P := Tryz.prog) (dT := 42) (sT := 42) (ty := 3) (n := xs.length) (c := xs.length) (m := m) (c' := c) (j := 0) (a := a) (news := byV xs) (K := fun v w6 => v = .int .i64 (xs.length : Int) ∧ Row w6 (hs w) 5 (byV xs) ∧ Grow w w6) und42 size5 own (by rw [byV_len, Nat.mul_one]; exact (Nat.min_eq_right hm).symm) (recs_flat' by1_len (by decide) (h.grow g5)) (by rw [byV_len]; omega) (byV_one xs) fun w6 p1 p2 => by
        refine ⟨by rw [show Nat.min m xs.length = xs.length from Nat.min_eq_right hm]; rfl, ?_, g5.trans p2 fun b hb e => by omega⟩
        obtain ⟨g, l, e, hr, ht, -⟩ := p1.head (by omega)
        simp only [Option.some.injEq, Addr.mk.injEq, and_true] at e
        subst e
        rw [setFrom_all _ _ (by rw [byV_len]; simp)] at ht
        have hlen : l.length = xs.length := by
          obtain ⟨q1, q2⟩ := p1
          rcases q2 with ⟨q2, -⟩ | ⟨g', cap, cur, hv, hb, hg, hnc, hm, hcs, ht'⟩
          · cases q2
          · simp only [Value.slice.injEq, Option.some.injEq, Addr.mk.injEq] at hv
            obtain ⟨⟨rfl, -⟩, -, rfl⟩ := hv
            have := (Row.inj (l := cur.toList) hg hr).1
            rw [← this, Array.length_toList, hcs, Nat.mul_one]
        rw [List.take_of_length_le (by rw [hlen]; omega)] at ht
        rw [ht] at hr
        exact hr
    rw [Go.Nf.add_zero] at hc
    exact hc
theorem encoded_c (h : WrAt B w q xs) (hl : xs.length ≤ 1000000000) : Calls Tryz.prog 85 #[.pointer (some ⟨q, 0, none⟩)] w fun e w' => ∃ g, e = .returned (.slice (some ⟨g, 0, none⟩) xs.length xs.length) ∧ Row w' g 5 (byV xs) ∧ hs w ≤ g ∧ Grow w w' := by
  obtain ⟨o, c, r, own⟩ := h.ex
  refine nf85 q w _ ⟨_, _, _, r.cell rfl, copy_new (c := c) (own_byts own) hl rfl (Nat.le_refl _) fun w5 g e5 eg hc => ?_⟩
  rw [toNat_cast] at *
  refine ⟨_, _, _, rfl, _, _, _, (r.grow (only_alloc e5)).cell rfl, hc.mono ?_⟩
  rintro _ w6 ⟨rfl, r6, g6⟩
  exact ⟨_, rfl, g, rfl, r6, by omega, g6⟩
end
end
section
open Go Go.Nf Go.RowKit

/-- a reader in block r; its bytes lie in block g -/
structure RdAt (w : World) (r g : Nat) (xs : List UInt8) : Prop where
  ne : g ≠ r
  lt : g < hs w
  ex : ∃ o c, Row w r 170 [.slice o xs.length c, .int .i64 0] ∧ Byts w (fun b => b = g) o xs ∧ xs.length ≤ c
section
variable {w : World} {r g : Nat} {xs : List UInt8}
theorem RdAt.keep {S : Nat → Prop} {w' : World} (h : RdAt w r g xs) (o : Only S w w') (h1 : ¬ S r) (h2 : ¬ S g) : RdAt w' r g xs := by
  obtain ⟨q, c, a1, a2, a3⟩ := h.ex
  exact ⟨h.ne, Nat.lt_of_lt_of_le h.lt o.size, q, c, a1.keep o h1, a2.keep o (fun b hb => by rw [hb]; exact h2), a3⟩
theorem RdAt.grow {w' : World} (h : RdAt w r g xs) (o : Grow w w') : RdAt w' r g xs := h.keep o id id
theorem RdAt.row {w : World} (h : RdAt w r g xs) : r < hs w := by
  obtain ⟨q, c, a1, -⟩ := h.ex
  exact a1.lt
theorem next_c {x : UInt8} (h : RdAt w r g (x :: xs)) : Calls Tryz.prog 116 #[.pointer (some ⟨r, 0, none⟩)] w fun e w' => e = .returned (.tuple #[.int .u8 (x.toNat : Int), .bool true]) ∧ RdAt w' r g xs ∧ Only (fun b => b = r) w w' := by
  obtain ⟨o, c, a1, a2, a3⟩ := h.ex
  obtain ⟨a, rfl, hA, hc⟩ := a2.at (i := 0) rfl
  rw [show ((0 : Nat) : Int).toNat * 1 = 0 from rfl, Go.Nf.add_zero] at hc
  refine nf116 r w _ ⟨_, a1.cell rfl, nno rfl ⟨_, _, _, a1.cell rfl, no (by rw [List.length_cons]; omega) ⟨_, _, _, a1.cell rfl, a, rfl, ⟨by omega, by rw [List.length_cons]; omega⟩, _, hc, _, _, _, a1.cell rfl, ⟨by omega, by rw [List.length_cons]; omega⟩, a1.there (by simp), fun w1 e1 => ?_⟩⟩⟩
  have o1 : Only (fun b => b = r) w w1 := only_set e1
  refine ⟨rfl, ⟨h.ne, Nat.lt_of_lt_of_le h.lt o1.size, _, c - 1, a1.set e1, ?_, by simp at a3; omega⟩, o1⟩
  split
  · rename_i hc1
    have : xs = [] := by
      simp only [List.length_cons] at a3
      have : c = 1 := hc1
      exact List.length_eq_zero_iff.1 (by omega)
    subst this
    exact Recs.nil _ _ _ _
  · exact a2.tail.keep o1 fun b hb => by rw [hb]; exact h.ne
theorem bits_and1 {n : Nat} (h : n < 4611686018427387904) : bits .and .u64 ((2 * n : Nat) : Int) 1 = 0 := by
  have e : ((BitVec.ofInt 64 ((2 * n : Nat) : Int)) &&& (BitVec.ofInt 64 1)).toNat = 0 := by
    have h1 : (BitVec.ofInt 64 ((2 * n : Nat) : Int)).toNat = 2 * n := by
      rw [BitVec.toNat_ofInt]; omega
    rw [BitVec.toNat_and, h1]
    show 2 * n &&& 1 = 0
    rw [Nat.and_one_is_mod]; omega
  show IntKind.wrap .u64 (((BitVec.ofInt 64 ((2 * n : Nat) : Int)) &&& (BitVec.ofInt 64 1)).toNat : Int) = 0
  rw [e, IntKind.wrap_u64]; rfl
theorem and127 {x : UInt8} : bits .and .u8 (x.toNat : Int) 127 = ((x.toNat % 128 : Nat) : Int) := by
  have := u8_and127 (x.toNat : Int) (by omega) (by have := u8_lt x; omega)
  rw [this]; omega
theorem pow128 (i : Nat) : (128 : Nat) ^ i = 2 ^ (7 * i) := by rw [Nat.pow_mul]
theorem orAt {u b i : Nat} (hi : i ≤ 8) (hu : u < 128 ^ i) (hb : b < 128) : bits .or .u64 (u : Int) (IntKind.wrap .u64 (IntKind.wrap .u64 ((b : Nat) : Int) * 2 ^ min (7 * i) 64)) = ((u + b * 128 ^ i : Nat) : Int) := by
  have hmin : min (7 * i) 64 = 7 * i := by omega
  have hp : (128 : Nat) ^ i ≤ 128 ^ 8 := Nat.pow_le_pow_right (by omega) hi
  have hp8 : (128 : Nat) ^ 8 = 72057594037927936 := by decide
  have hbb : b * 128 ^ i ≤ 127 * 72057594037927936 := Nat.mul_le_mul (by omega) (by omega)
  have e0 : IntKind.wrap .u64 ((b : Nat) : Int) = (b : Int) := by rw [IntKind.wrap_u64]; omega
  have e1 : IntKind.wrap .u64 (IntKind.wrap .u64 ((b : Nat) : Int) * 2 ^ min (7 * i) 64) = ((b * 128 ^ i : Nat) : Int) := by
    rw [e0, hmin]
    have e2 : ((b : Int) * 2 ^ (7 * i)) = ((b * 128 ^ i : Nat) : Int) := by rw [pow128]; push_cast; rfl
    rw [e2, IntKind.wrap_u64]; omega
  rw [e1, bits_join_low .u64 64 (by decide) wraps_u64 (7 * i) u ((b * 128 ^ i : Nat) : Int) (by omega) (by rw [pow128] at hu; exact_mod_cast hu) (by omega) (by omega) (by rw [pow128]; push_cast; exact Int.mul_emod_left _ _) (by omega)]
  omega
set_option maxHeartbeats 2000000 in
theorem rInt_c {n : Nat} (hn : n < 2305843009213693952) {xs : List UInt8} (h : RdAt w r g (encI n ++ xs)) : Calls Tryz.prog 92 #[.pointer (some ⟨r, 0, none⟩)] w fun e w' => e = .returned (.int .i64 (n : Int)) ∧ RdAt w' r g xs ∧ Only (fun b => b = r) w w' := by
  refine nf92 r w _ fun k1 hk1 => ?_
  have fin : ∀ w3, RdAt w3 r g xs → Only (fun b => b = r) w w3 → k1 ((2 * n : Nat) : Int) w3 := fun w3 h3 o3 => hk1 w3 _ fun _ => by
    refine run_and ⟨_, rfl, ?_⟩
    rw [bits_and1 (by omega)]
    refine run_xor ⟨_, rfl, ?_⟩
    have e1 : IntKind.wrap .i64 (Int.fdiv ((2 * n : Nat) : Int) 2) = (n : Int) := by rw [Int.fdiv_eq_ediv_of_nonneg _ (by omega), wr (by omega)]; omega
    have e2 : IntKind.wrap .i64 (0 - IntKind.wrap .i64 0) = 0 := by rw [wr (x := 0) (by omega), wr (by omega)]; rfl
    rw [e1, e2, bits_xor0i (by omega) (by omega)]
    exact ⟨rfl, h3, o3⟩
  refine ⟨fun k x i w' => ∃ (j u v : Nat), x = (u : Int) ∧ i = (j : Int) ∧ j ≤ 9 ∧ k = 10 - j ∧ u < 128 ^ j ∧ u + v * 128 ^ j = 2 * n ∧ (0 < j → 1 ≤ v) ∧ RdAt w' r g (encF (10 - j) v ++ xs) ∧ Only (fun b => b = r) w w', ⟨_, 0, 0, 2 * n, rfl, rfl, by omega, rfl, by simp, by simp, fun h => absurd h (by omega), h, Only.refl _ _⟩, ?_⟩
  rintro k _ w17 x i ⟨j, u, v, rfl, rfl, hj, rfl, hu, huv, hv, h17, o17⟩
  have hj8 : j ≤ 8 := by
    rcases Nat.lt_or_ge j 9 with h | h
    · omega
    · exfalso
      have e9 : j = 9 := by omega
      subst e9
      have h9 : (128 : Nat) ^ 9 = 9223372036854775808 := by decide
      rw [h9] at huv
      have := hv (by omega)
      omega
  refine ⟨fun _ => ?_, fun hge => absurd (show ((j : Int) < 10) by omega) (dF hge)⟩
  obtain ⟨f, hf⟩ : ∃ f, 10 - j = f + 1 := ⟨9 - j, by omega⟩
  rw [hf, encF] at h17
  have ej : ¬ ((j : Int) = 9) := by omega
  by_cases hlt : v < 128
  · rw [if_pos hlt] at h17
    refine (next_c h17).mono ?_
    rintro _ w23 ⟨rfl, h23, o23⟩
    have hb : (UInt8.ofNat v).toNat = v := by rw [UInt8.toNat_ofNat']; omega
    refine ⟨_, _, rfl, bT (no ej ?_)⟩
    have step : ∀ {x24 : Int}, x24 = (((UInt8.ofNat v).toNat : Nat) : Int) → RunOk Tryz.prog (Hold (binOpSem BinOp.and 5 (Operand.tmp 34) (Operand.const (Value.int IntKind.u8 127)) (.int .u8 x24) (.int .u8 127))) w23 fun v37 w38 => ∃ x39 : Int, v37 = .int .u8 x39 ∧ RunOk Tryz.prog (Hold (binOpSem BinOp.shl 60 (Operand.tmp 36) (Operand.tmp 38) (.int .u64 (IntKind.wrap .u64 x39)) (.int .i64 (IntKind.wrap .i64 (7 * (j : Int)))))) w38 fun v40 w41 => ∃ x42 : Int, v40 = .int .u64 x42 ∧ RunOk Tryz.prog (Hold (binOpSem BinOp.or 60 (Operand.tmp 33) (Operand.tmp 39) (.int .u64 (u : Int)) (.int .u64 x42))) w41 fun v43 w44 => ∃ x45 : Int, v43 = .int .u64 x45 ∧ w44 = w23 ∧ x45 = ((2 * n : Nat) : Int) := by
      rintro _ rfl
      refine run_and ⟨_, rfl, ?_⟩
      rw [and127, hb, show IntKind.wrap .i64 (7 * (j : Int)) = ((7 * j : Nat) : Int) from by rw [wr (by omega)]; omega]
      refine run_shl ⟨_, rfl, run_or ⟨_, rfl, rfl, ?_⟩⟩
      rw [show IntKind.bits .u64 = 64 from rfl, orAt hj8 hu (Nat.mod_lt _ (by omega)), Nat.mod_eq_of_lt hlt, huv]
    have last : ∀ {x45 : Int}, x45 = ((2 * n : Nat) : Int) → ((decide ((((UInt8.ofNat v).toNat : Nat) : Int) < 128) = true → k1 x45 w23) ∧ (decide ((((UInt8.ofNat v).toNat : Nat) : Int) < 128) = false → ∃ n48, n48 < 10 - j ∧ ∃ (j' u v : Nat), x45 = (u : Int) ∧ IntKind.wrap .i64 ((j : Int) + 1) = (j' : Int) ∧ j' ≤ 9 ∧ n48 = 10 - j' ∧ u < 128 ^ j' ∧ u + v * 128 ^ j' = 2 * n ∧ (0 < j' → 1 ≤ v) ∧ RdAt w23 r g (encF (10 - j') v ++ xs) ∧ Only (fun b => b = r) w w23)) := by
      rintro _ rfl
      exact yes (by rw [hb]; omega) (fin w23 h23 (o17.trans' o23))
    refine ⟨fun hp => no ?_ ((step rfl).mono ?_), fun _ => (step rfl).mono ?_⟩
    · have := dT hp
      have := hv (by omega)
      rw [hb]; omega
    · rintro _ w38 ⟨_, rfl, hs⟩
      refine ⟨_, rfl, hs.mono ?_⟩
      rintro _ w41 ⟨_, rfl, hs⟩
      refine ⟨_, rfl, hs.mono ?_⟩
      rintro _ w44 ⟨_, rfl, rfl, e⟩
      exact ⟨_, rfl, last e⟩
    · rintro _ w38 ⟨_, rfl, hs⟩
      refine ⟨_, rfl, hs.mono ?_⟩
      rintro _ w41 ⟨_, rfl, hs⟩
      refine ⟨_, rfl, hs.mono ?_⟩
      rintro _ w44 ⟨_, rfl, rfl, e⟩
      exact ⟨_, rfl, last e⟩
  · rw [if_neg hlt] at h17
    refine (next_c (x := UInt8.ofNat (v % 128 + 128)) (xs := encF f (v / 128) ++ xs) h17).mono ?_
    rintro _ w23 ⟨rfl, h23, o23⟩
    have hb : (UInt8.ofNat (v % 128 + 128)).toNat = v % 128 + 128 := by rw [UInt8.toNat_ofNat']; omega
    refine ⟨_, _, rfl, bT (no ej ?_)⟩
    have step : ∀ {x24 : Int}, x24 = (((UInt8.ofNat (v % 128 + 128)).toNat : Nat) : Int) → RunOk Tryz.prog (Hold (binOpSem BinOp.and 5 (Operand.tmp 34) (Operand.const (Value.int IntKind.u8 127)) (.int .u8 x24) (.int .u8 127))) w23 fun v37 w38 => ∃ x39 : Int, v37 = .int .u8 x39 ∧ RunOk Tryz.prog (Hold (binOpSem BinOp.shl 60 (Operand.tmp 36) (Operand.tmp 38) (.int .u64 (IntKind.wrap .u64 x39)) (.int .i64 (IntKind.wrap .i64 (7 * (j : Int)))))) w38 fun v40 w41 => ∃ x42 : Int, v40 = .int .u64 x42 ∧ RunOk Tryz.prog (Hold (binOpSem BinOp.or 60 (Operand.tmp 33) (Operand.tmp 39) (.int .u64 (u : Int)) (.int .u64 x42))) w41 fun v43 w44 => ∃ x45 : Int, v43 = .int .u64 x45 ∧ w44 = w23 ∧ x45 = ((u + v % 128 * 128 ^ j : Nat) : Int) := by
      rintro _ rfl
      refine run_and ⟨_, rfl, ?_⟩
      rw [and127, hb, show IntKind.wrap .i64 (7 * (j : Int)) = ((7 * j : Nat) : Int) from by rw [wr (by omega)]; omega]
      refine run_shl ⟨_, rfl, run_or ⟨_, rfl, rfl, ?_⟩⟩
      rw [show IntKind.bits .u64 = 64 from rfl, orAt hj8 hu (Nat.mod_lt _ (by omega)), show (v % 128 + 128) % 128 = v % 128 from by omega]
    have last : ∀ {x45 : Int}, x45 = ((u + v % 128 * 128 ^ j : Nat) : Int) → ((decide ((((UInt8.ofNat (v % 128 + 128)).toNat : Nat) : Int) < 128) = true → k1 x45 w23) ∧ (decide ((((UInt8.ofNat (v % 128 + 128)).toNat : Nat) : Int) < 128) = false → ∃ n48, n48 < 10 - j ∧ ∃ (j' u v : Nat), x45 = (u : Int) ∧ IntKind.wrap .i64 ((j : Int) + 1) = (j' : Int) ∧ j' ≤ 9 ∧ n48 = 10 - j' ∧ u < 128 ^ j' ∧ u + v * 128 ^ j' = 2 * n ∧ (0 < j' → 1 ≤ v) ∧ RdAt w23 r g (encF (10 - j') v ++ xs) ∧ Only (fun b => b = r) w w23)) := by
      rintro _ rfl
      refine no (by rw [hb]; omega) ⟨_, ?_, j + 1, u + v % 128 * 128 ^ j, v / 128, rfl, by rw [wr (by omega)]; omega, by omega, rfl, ?_, ?_, fun _ => by omega, ?_, o17.trans' o23⟩
      · omega
      · have h1 : v % 128 * 128 ^ j ≤ 127 * 128 ^ j := Nat.mul_le_mul_right _ (by omega)
        have h2 : (128 : Nat) ^ (j + 1) = 128 * 128 ^ j := by rw [Nat.pow_succ, Nat.mul_comm]
        omega
      · have h2 : v / 128 * 128 ^ (j + 1) = v / 128 * 128 * 128 ^ j := by rw [Nat.pow_succ, Nat.mul_comm (128 ^ j), ← Nat.mul_assoc]
        have h3 : v % 128 * 128 ^ j + v / 128 * 128 * 128 ^ j = v * 128 ^ j := by rw [← Nat.add_mul]; congr 1; omega
        omega
      · rw [show 10 - (j + 1) = f from by omega]; exact h23
    refine ⟨fun hp => no ?_ ((step rfl).mono ?_), fun _ => (step rfl).mono ?_⟩
    · rw [hb]; omega
    · rintro _ w38 ⟨_, rfl, hs⟩
      refine ⟨_, rfl, hs.mono ?_⟩
      rintro _ w41 ⟨_, rfl, hs⟩
      refine ⟨_, rfl, hs.mono ?_⟩
      rintro _ w44 ⟨_, rfl, rfl, e⟩
      exact ⟨_, rfl, last e⟩
    · rintro _ w38 ⟨_, rfl, hs⟩
      refine ⟨_, rfl, hs.mono ?_⟩
      rintro _ w41 ⟨_, rfl, hs⟩
      refine ⟨_, rfl, hs.mono ?_⟩
      rintro _ w44 ⟨_, rfl, rfl, e⟩
      exact ⟨_, rfl, last e⟩
end
end
section
open Go Go.Nf Go.RowKit

section
variable {w : World} {r g : Nat} {xs : List UInt8}
theorem newReader_c {A : Nat → Prop} (o : Option Addr) (c : Nat) (xs : List UInt8) (hl : xs.length ≤ 1000000000) (w : World) (h : Byts w A o xs) :
    Calls Tryz.prog 91 #[.slice o xs.length c] w fun e w' => ∃ r g, e = .returned (.pointer (some ⟨r, 0, none⟩)) ∧ RdAt w' r g xs ∧ hs w ≤ r ∧ hs w ≤ g ∧ Grow w w' := by
  refine nf91 o xs.length c w _ (copy_new (c := c) h hl rfl (Nat.le_refl _) fun w2 g e2 eg hc => ?_)
  rw [toNat_cast] at *
  refine ⟨_, _, _, rfl, hc.mono ?_⟩
  rintro _ w7 ⟨rfl, r7, g7⟩
  refine ⟨_, rfl, fun w9 e9 => ⟨hs w7, g, rfl, ?_, g7.size, by omega, g7.trans' (only_alloc e9)⟩⟩
  have g9 : Grow w7 w9 := only_alloc e9
  have := r7.lt
  exact ⟨by omega, by have := g9.size; omega, _, _, Row.new (l := [_, _]) e9, (row_byts r7).grow g9, Nat.le_refl _⟩
theorem finish_c (h : RdAt w r g []) : Calls Tryz.prog 93 #[.pointer (some ⟨r, 0, none⟩)] w fun e w' => e = .returned (.int .i64 0) ∧ w' = w := by
  obtain ⟨o, c, a1, a2, a3⟩ := h.ex
  exact nf93 r w _ ⟨_, a1.cell rfl, nno rfl ⟨_, _, _, a1.cell rfl, no (by simp) ⟨rfl, rfl⟩⟩⟩
theorem rLength_c {n : Nat} (hn : n < 2305843009213693952) {xs : List UInt8} (hx : n ≤ xs.length) (h : RdAt w r g (encI n ++ xs)) : Calls Tryz.prog 137 #[.pointer (some ⟨r, 0, none⟩)] w fun e w' => e = .returned (.int .i64 (n : Int)) ∧ RdAt w' r g xs ∧ Only (fun b => b = r) w w' := by
  refine nf137 r w _ ((rInt_c hn h).mono ?_)
  rintro _ w2 ⟨rfl, h2, o2⟩
  obtain ⟨o, c, a1, a2, a3⟩ := h2.ex
  exact ⟨_, rfl, _, a1.cell rfl, nno rfl (no (by omega) ⟨_, _, _, a1.cell rfl, no (by omega) ⟨rfl, h2, o2⟩⟩)⟩
theorem slice_off {o : Option Addr} {c n len : Nat} {A : Nat → Prop} {w : World} {xs : List UInt8} (h : Byts w A o xs) (hn : n ≤ xs.length) (hc : xs.length ≤ c) :
    Byts w A (if c = n then o else o.map fun x => x.add (n * 1)) (xs.drop n) := by
  rw [Nat.mul_one]
  split
  · rename_i e
    have : xs.drop n = [] := List.drop_eq_nil_of_le (by omega)
    rw [this]
    exact Recs.nil _ _ _ _
  · by_cases hx : xs.length = 0
    · have : xs.drop n = [] := List.drop_eq_nil_of_le (by omega)
      rw [this]
      exact Recs.nil _ _ _ _
    · obtain ⟨a, rfl, -⟩ := h.at (List.getElem?_eq_getElem (show 0 < xs.length by omega))
      exact h.drop hn
theorem rBytes_c {ys xs : List UInt8} (hl : ys.length ≤ 1000000000) (h : RdAt w r g (encI ys.length ++ (ys ++ xs))) :
    Calls Tryz.prog 118 #[.pointer (some ⟨r, 0, none⟩)] w fun e w' => ∃ o c, e = .returned (.slice o ys.length c) ∧ Byts w' (fun b => hs w ≤ b ∧ b < hs w') o ys ∧ RdAt w' r g xs ∧ Only (fun b => b = r) w w' := by
  refine nf118 r w _ ((rLength_c (by omega) (by rw [List.length_append]; omega) h).mono ?_)
  rintro _ w2 ⟨rfl, h2, o2⟩
  refine ⟨_, rfl, fun h0 => ?_, fun h0 => ?_⟩
  · have h0 : ys.length = 0 := by have := dT h0; omega
    have : ys = [] := List.length_eq_zero_iff.1 h0
    subst this
    exact ⟨none, 0, rfl, Recs.nil _ _ _ _, h2, o2⟩
  · obtain ⟨o, c, a1, a2, a3⟩ := h2.ex
    have hlen : (ys ++ xs).length = ys.length + xs.length := List.length_append
    have a2' : Byts w2 (fun b => b = g) o ys := by have := a2.take (n := ys.length); rwa [List.take_left] at this
    refine copy_new (c := c) (m := (ys ++ xs).length) a2' hl rfl (by omega) fun w7 g7 e7 eg hc => ?_
    have G7 : Grow w2 w7 := only_alloc e7
    have r7 := a1.grow G7
    have zr := a1.lt
    have zo := o2.size
    refine ⟨_, _, _, rfl, _, _, _, r7.cell rfl, hc.mono ?_⟩
    rintro _ w15 ⟨rfl, r15, G15⟩
    have q15 := a1.grow G15
    refine ⟨_, rfl, _, _, _, q15.cell rfl, ⟨by omega, by omega⟩, q15.there (by simp), fun w20 e20 => ?_⟩
    have o20 : Only (fun b => b = r) w15 w20 := only_set e20
    have lt15 := r15.lt
    have q20 := q15.set e20
    rw [toNat_cast, show (ys ++ xs).length - ys.length = xs.length from by omega] at q20
    have hoff := slice_off (len := 0) a2 (n := ys.length) (by omega) a3
    rw [List.drop_left] at hoff
    refine ⟨_, _, by rw [toNat_cast], ?_, ⟨h2.ne, by have := o20.size; have := G15.size; have := h2.lt; omega, _, _, q20, ?_, by omega⟩, (o2.grow G15).trans' o20⟩
    · exact ((row_byts r15).keep o20 fun b hb => by rw [hb]; omega).mono fun b hb => by rw [hb]; have := o20.size; omega
    · exact (hoff.grow G15).keep o20 fun b hb => by rw [hb]; exact h2.ne
theorem elem24 : Elem Tryz.prog 24 3 1 8 := elem_of (by kernel_rfl)
theorem zero3 : zeroL Tryz.prog 3 = some [.int .i64 0] := by kernel_rfl
theorem in1_one (xs : List Nat) : ∀ u ∈ xs.flatMap in1, u.oneCell' = true := fun u hu => by
  obtain ⟨b, -, hb⟩ := List.mem_flatMap.1 hu
  rw [List.mem_singleton.1 hb]; rfl
theorem row_ints {w : World} {b T : Nat} {xs : List Nat} (h : Row w b T (xs.flatMap in1)) : Ints w (fun k => k = b) (some ⟨b, 0, none⟩) xs := fun i row hi => by
  rw [List.getElem?_map] at hi
  cases hx : xs[i]? with
  | none => rw [hx] at hi; cases hi
  | some x =>
    rw [hx] at hi
    cases hi
    refine ⟨_, rfl, rfl, fun j v hj => ?_⟩
    rw [toNat_cast]
    have hj1 : j < 1 := by
      rcases Nat.lt_or_ge j 1 with h | h
      · exact h
      · rw [List.getElem?_eq_none (by rw [in1_len]; exact h)] at hj; cases hj
    refine h.cellAdd2 ?_
    rw [flat_get in1_len _ _ _ hj1, hx]; exact hj
theorem encInts_app (l : List Nat) (xs : List UInt8) : encInts l ++ xs = encI l.length ++ (l.flatMap encI ++ xs) := by unfold encInts; rw [List.append_assoc]
theorem flat_encI_len : ∀ l : List Nat, l.length ≤ (l.flatMap encI).length
  | [] => Nat.le_refl _
  | a :: l => by
    have := flat_encI_len l
    have h1 : 1 ≤ (encI a).length := by unfold encI encF; split <;> simp
    rw [List.flatMap_cons, List.length_append, List.length_cons]; omega
theorem rInts_c {ys : List Nat} {xs : List UInt8} (hl : ys.length ≤ 1000) (hy : ∀ y ∈ ys, y < 2305843009213693952) (h : RdAt w r g (encInts ys ++ xs)) :
    Calls Tryz.prog 119 #[.pointer (some ⟨r, 0, none⟩)] w fun e w' => ∃ o c, e = .returned (.slice o ys.length c) ∧ Ints w' (fun b => hs w ≤ b ∧ b < hs w') o ys ∧ RdAt w' r g xs ∧ Only (fun b => b = r) w w' := by
  rw [encInts_app] at h
  refine nf119 r w _ ((rLength_c (by omega) (by rw [List.length_append]; have := flat_encI_len ys; omega) h).mono ?_)
  rintro _ w2 ⟨rfl, h2, o2⟩
  refine ⟨_, rfl, fun h0 => ?_, fun h0 => ?_⟩
  · have h0 : ys.length = 0 := by have := dT h0; omega
    have : ys = [] := List.length_eq_zero_iff.1 h0
    subst this
    exact ⟨none, 0, rfl, Recs.nil _ _ _ _, h2, o2⟩
  · refine run_make_row elem24 zero3 (by omega) (by omega) (by omega) (by omega) fun w7 e7 => ?_
    rw [toNat_cast] at *
    have G7 : Grow w2 w7 := only_alloc e7
    have z7 := hs_alloc e7
    have zo := o2.size
    have zr := h2.row
    have zg := h2.lt
    have r7 : Row w7 (hs w2) 3 ((List.replicate ys.length 0).flatMap in1) := by
      have := Row.new e7
      have e : (List.replicate ys.length 0).flatMap in1 = (List.replicate ys.length [Value.int .i64 0]).flatten := by
        rw [List.flatMap_def, List.map_replicate]; rfl
      rw [e]; exact this
    refine ⟨_, _, _, rfl, fun k x w' => ∃ j : Nat, x = (j : Int) ∧ j ≤ ys.length ∧ k = ys.length - j ∧ RdAt w' r g ((ys.drop j).flatMap encI ++ xs) ∧ Row w' (hs w2) 3 ((ys.take j ++ List.replicate (ys.length - j) 0).flatMap in1) ∧ Only (fun b => b = r ∨ b = hs w2) w7 w', ⟨_, 0, rfl, by omega, rfl, by simpa using h2.grow G7, by simpa using r7, Only.refl _ _⟩, ?_⟩
    rintro k _ w15 x ⟨j, rfl, hj, rfl, h15, r15, o15⟩
    refine ⟨fun hlt => ?_, fun hge => ?_⟩
    · have hlt : j < ys.length := by have := dT hlt; omega
      have hd : ys.drop j = ys[j] :: ys.drop (j + 1) := List.drop_eq_getElem_cons hlt
      rw [hd, List.flatMap_cons, List.append_assoc] at h15
      refine (rInt_c (hy _ (List.getElem_mem hlt)) h15).mono ?_
      rintro _ w20 ⟨rfl, h20, o20⟩
      have r20 := r15.keep o20 (by omega)
      have hlen : ((ys.take j ++ List.replicate (ys.length - j) 0).flatMap in1).length = ys.length := by rw [flat_length in1_len, List.length_append, List.length_take, List.length_replicate]; omega
      refine ⟨_, rfl, _, rfl, ⟨by omega, by omega⟩, r20.thereAdd (by rw [hlen, toNat_cast]; omega), fun w23 e23 => ?_⟩
      have o23 : Only (fun b => b = hs w2) w20 w23 := only_setAdd e23
      have h23 := h20.keep o23 (by omega) (by omega)
      obtain ⟨q, c, b1, -⟩ := h23.ex
      refine ⟨_, b1.cell rfl, nno rfl ⟨_, by omega, j + 1, by rw [wr (by omega)]; omega, hlt, rfl, h23, ?_, ?_⟩⟩
      · have r23 := r20.setAdd e23
        rw [toNat_cast] at r23
        have hset := flat_set in1_len (ys.take j ++ List.replicate (ys.length - j) 0) j 0 [Value.int .i64 (ys[j] : Int)] ys[j] (by rw [List.length_append, List.length_take, List.length_replicate]; omega) (by simp) (by
          show setFrom (in1 _) 0 [_] = in1 _
          rfl)
        rw [Nat.add_zero] at hset
        rw [hset] at r23
        have e : (ys.take j ++ List.replicate (ys.length - j) 0).set j ys[j] = ys.take (j + 1) ++ List.replicate (ys.length - (j + 1)) 0 := by
          have hj' : (ys.take j).length = j := by rw [List.length_take]; omega
          rw [List.set_append_right _ _ (by omega), hj', Nat.sub_self, show ys.length - j = (ys.length - (j + 1)) + 1 from by omega, List.replicate_succ, List.set_cons_zero, List.take_succ_eq_append_getElem hlt, List.append_assoc]
          rfl
        rw [e] at r23
        exact r23
      · exact (o15.trans' (o20.mono fun b _ hb => .inl hb)).trans' (o23.mono fun b _ hb => .inr hb)
    · have : j = ys.length := by have := dF hge; omega
      subst this
      rw [Nat.sub_self, List.replicate_zero, List.append_nil, List.take_length] at r15
      rw [List.drop_length] at h15
      have := r15.lt
      refine ⟨_, _, rfl, (row_ints r15).mono fun b hb => by rw [hb]; omega, by simpa using h15, ?_⟩
      exact (o2.grow G7).trans o15 fun b hb e => by
        rcases e with e | e
        · exact e
        · omega
end
end
section
open Go Go.Nf Go.RowKit

/-- an append of bytes that are read; where the new slice lies -/
theorem append_at {P : Program} {w : World} {B t ty T bytes n c c2 : Nat} {o o2 : Option Addr} {xs ys : List UInt8} {A : Nat → Prop} {K : Value → World → Prop} (he : Elem P t T 1 bytes) (hown : Own w B T 1 o n c (byV xs)) (hn : Byts w A o2 ys)
    (h63 : n + ys.length ≤ maxLen) (hb : (n + ys.length) * bytes ≤ 140737488355328) (hbase : B ≤ hs w)
    (h : ∀ o' c' w', Own w' B T 1 o' (n + ys.length) c' (byV (xs ++ ys)) → Only (inBlock o) w w' → (∀ b, inBlock o' b → inBlock o b ∨ b = hs w) → K (.slice o' (n + ys.length) c') w') :
    RunOk P (Hold (Builtin.append_ #[t, t] ty #[.slice o n c, .slice o2 ys.length c2])) w K := by
  cases ys with
  | nil =>
    refine run_append_nothing' he hown.le ?_
    have := h o c w (by simpa using hown) (Only.refl _ _) fun b hb => .inl hb
    simpa using this
  | cons y ys =>
    obtain ⟨a, rfl, -⟩ := hn 0 (by1 y) rfl
    exact run_append_at he hown (news := byV (y :: ys)) (flat_length by1_len _) (recs_flat' by1_len (by decide) hn) (byV_one _) h63 hb hbase fun o' c' w' h1 h2 h3 => h o' c' w' (by rw [byV_app]; exact h1) h2 h3
structure FileAt (w : World) (F : Nat → Prop) (t : Nat) (data : List UInt8) (dur : Nat) (off : Bool) : Prop where
  ex : ∃ o c, (∀ b, F b ↔ b = t ∨ inBlock o b) ∧ Row w t 63 [.slice o data.length c, .int .i64 (dur : Int), .bool off] ∧ Own w 0 5 1 o data.length c (byV data)
section
variable {w : World} {F : Nat → Prop} {t dur : Nat} {data : List UInt8} {off : Bool}
theorem FileAt.keep {S : Nat → Prop} {w' : World} (h : FileAt w F t data dur off) (g : Only S w w') (hS : ∀ b, F b → ¬ S b) : FileAt w' F t data dur off := by
  obtain ⟨o, c, h1, h2, h3⟩ := h.ex
  exact ⟨o, c, h1, h2.keep g (hS t ((h1 t).2 (.inl rfl))), h3.keep g fun b hb => hS b ((h1 b).2 (.inr hb))⟩
theorem FileAt.grow {w' : World} (h : FileAt w F t data dur off) (g : Grow w w') : FileAt w' F t data dur off := h.keep g fun _ _ h => h
theorem FileAt.lt (h : FileAt w F t data dur off) : ∀ b, F b → b < hs w := fun b hb => by
  obtain ⟨o, c, h1, h2, h3⟩ := h.ex
  rcases (h1 b).1 hb with rfl | hb
  · exact h2.lt
  · exact (h3.base b hb).2
theorem FileAt.ty (h : FileAt w F t data dur off) : ∀ b, F b → ∃ T l, Row w b T l ∧ (T = 63 ∨ T = 5) := fun b hb => by
  obtain ⟨o, c, h1, h2, h3⟩ := h.ex
  rcases (h1 b).1 hb with rfl | hb
  · exact ⟨_, _, h2, .inl rfl⟩
  · obtain ⟨l, hl⟩ := h3.row hb
    exact ⟨_, _, hl, .inr rfl⟩
theorem file_put {o : Option Addr} {c : Nat} {w1 : World} {l : List Value} {k : Nat} {x : List Value} {y : List Value} (h2 : Row w t 63 x) (h3 : Own w 0 5 1 o data.length c (byV data)) (e : w1 = setCells w ⟨t, k, none⟩ l 0) (hy : setFrom x k l = y) : Row w1 t 63 y ∧ Own w1 0 5 1 o data.length c (byV data) ∧ Only (fun b => b = t) w w1 := by
  have o1 : Only (fun b => b = t) w w1 := only_set e
  refine ⟨by have := h2.set e; rwa [hy] at this, h3.keep o1 fun b hb eb => ?_, o1⟩
  obtain ⟨l', hl'⟩ := h3.row hb
  rw [eb] at hl'
  cases (h2.inj hl').2
/-- the file's own cells are written -/
theorem FileAt.put {w1 : World} {l : List Value} {k : Nat} {dur' : Nat} {off' : Bool} (h : FileAt w F t data dur off) (e : w1 = setCells w ⟨t, k, none⟩ l 0)
    (hs' : ∀ (o : Option Addr) c, setFrom [.slice o data.length c, .int .i64 (dur : Int), .bool off] k l = [.slice o data.length c, .int .i64 (dur' : Int), .bool off']) : FileAt w1 F t data dur' off' ∧ Only F w w1 := by
  obtain ⟨o, c, h1, h2, h3⟩ := h.ex
  have o1 : Only (fun b => b = t) w w1 := only_set e
  refine ⟨⟨o, c, h1, ?_, h3.keep o1 fun b hb eb => ?_⟩, o1.mono fun b _ hb => (h1 b).2 (.inl hb)⟩
  · have := h2.set e
    rwa [hs'] at this
  · obtain ⟨l', hl'⟩ := h3.row hb
    rw [eb] at hl'
    cases (h2.inj hl').2
theorem storageNew_c (w : World) : Calls Tryz.prog 6 #[] w fun e w' => e = .returned (.pointer (some ⟨hs w, 0, none⟩)) ∧ FileAt w' (fun b => b = hs w) (hs w) [] 0 false ∧ Grow w w' ∧ hs w < hs w' := by
  refine nf6 w _ fun w1 e1 => ⟨rfl, ⟨none, 0, fun b => ⟨.inl, fun h => h.elim id fun ⟨a, ha, _⟩ => by cases ha⟩, Row.new e1, own_nil _ _ _ _⟩, only_alloc e1, ?_⟩
  rw [hs_alloc e1]; omega
theorem fWrite_c (h : FileAt w F t data dur false) {A : Nat → Prop} (o2 : Option Addr) (c2 : Nat) (ys : List UInt8) (hy : Byts w A o2 ys) (hA : ∀ b, A b → ¬ F b) (hl : data.length + ys.length ≤ 16777216) :
    Calls Tryz.prog 124 #[.pointer (some ⟨t, 0, none⟩), .slice o2 ys.length c2] w fun e w' => e = .returned (.int .i64 0) ∧ ∃ F', FileAt w' F' t (data ++ ys) dur false ∧ Only F w w' ∧ ∀ b, F' b → F b ∨ hs w ≤ b := by
  obtain ⟨o, c, h1, h2, h3⟩ := h.ex
  refine nf124 t o2 ys.length c2 w _ ⟨_, h2.cell rfl, bF ⟨_, _, _, h2.cell rfl, no ?_ ⟨_, _, _, h2.cell rfl, append_at elem42 h3 hy (by simp only [maxLen]; omega) (by omega) (Nat.zero_le _) fun o' c' w13 p1 p2 p3 => ⟨_, _, _, rfl, ?_⟩⟩⟩⟩
  · rw [wr (by omega)]; omega
  · have r13 := h2.keep p2 fun hb => by
      obtain ⟨l', hl'⟩ := h3.row hb
      cases (h2.inj hl').2
    refine ⟨r13.there (by simp), fun w17 e17 => ⟨rfl, fun b => b = t ∨ inBlock o' b, ⟨o', c', fun b => Iff.rfl, ?_, ?_⟩, ?_, fun b hb => ?_⟩⟩
    · rw [List.length_append]; exact r13.set e17
    · rw [List.length_append]
      exact p1.keep (only_set e17) fun b hb eb => by
        obtain ⟨l', hl'⟩ := p1.row hb
        rw [eb] at hl'
        cases (r13.inj hl').2
    · exact (p2.mono fun b _ hb => (h1 b).2 (.inr hb)).trans' ((only_set e17).mono fun b _ hb => (h1 b).2 (.inl hb))
    · rcases hb with hb | hb
      · exact .inl ((h1 b).2 (.inl hb))
      · rcases p3 b hb with k | k
        · exact .inl ((h1 b).2 (.inr k))
        · exact .inr (by omega)
theorem fSync_c (h : FileAt w F t data dur false) : Calls Tryz.prog 57 #[.pointer (some ⟨t, 0, none⟩)] w fun e w' => e = .returned (.int .i64 0) ∧ FileAt w' F t data data.length false ∧ Only F w w' := by
  obtain ⟨o, c, h1, h2, h3⟩ := h.ex
  refine nf57 t w _ ⟨_, h2.cell rfl, bF ⟨_, _, _, h2.cell rfl, h2.there (by simp), fun w7 e7 => ?_⟩⟩
  obtain ⟨a, b⟩ := h.put (dur' := data.length) (off' := false) e7 fun _ _ => rfl
  exact ⟨rfl, a, b⟩
theorem powerOn_c (h : FileAt w F t data dur off) : Calls Tryz.prog 10 #[.pointer (some ⟨t, 0, none⟩)] w fun e w' => e = .returned (.tuple #[]) ∧ FileAt w' F t data dur false ∧ Only F w w' := by
  obtain ⟨o, c, h1, h2, h3⟩ := h.ex
  refine nf10 t w _ ⟨h2.there (by simp), fun w7 e7 => ?_⟩
  obtain ⟨a, b⟩ := h.put (dur' := dur) (off' := false) e7 fun _ _ => rfl
  exact ⟨rfl, a, b⟩
theorem own_cap {w : World} {B T size : Nat} {o : Option Addr} {n c : Nat} {xs : List Value} (h : Own w B T size o n c xs) (h0 : c = 0) : o.map (fun x => x) = o := by cases o <;> rfl
theorem opt_id (o : Option Addr) : o.map (fun x => x) = o := by cases o <;> rfl
theorem powerFail_c (h : FileAt w F t data data.length false) (hl : data.length ≤ 16777216) (keep mask : Nat) : Calls Tryz.prog 9 #[.pointer (some ⟨t, 0, none⟩), .int .i64 (keep : Int), .int .u8 (mask : Int)] w fun e w' => e = .returned (.tuple #[]) ∧ FileAt w' F t data data.length true ∧ Only F w w' := by
  obtain ⟨o, c, h1, h2, h3⟩ := h.ex
  refine nf9 t keep mask w _ ⟨_, h2.cell rfl, bF ⟨h2.there (by simp), fun w4 e4 => ?_⟩⟩
  obtain ⟨r4, q4, o4⟩ := file_put (y := [.slice o data.length c, .int .i64 (data.length : Int), .bool true]) h2 h3 e4 rfl
  intro w6 e6
  have g6 : Grow w4 w6 := only_drew e6
  refine ⟨_, _, _, (r4.grow g6).cell rfl, _, (r4.grow g6).cell rfl, fun w12 e12 => ?_⟩
  have g12 : Grow w6 w12 := only_drew e12
  have r12 := (r4.grow g6).grow g12
  have q12 := (q4.grow g6).grow g12
  have hk : (if IntKind.wrap .i64 ((data.length : Int) - (data.length : Int)) < (if (keep : Int) < 0 then 0 else (keep : Int)) then IntKind.wrap .i64 ((data.length : Int) - (data.length : Int)) else (if (keep : Int) < 0 then 0 else (keep : Int))) = 0 := by
    rw [show IntKind.wrap .i64 ((data.length : Int) - (data.length : Int)) = 0 from by rw [wr (by omega)]; omega, if_neg (show ¬ ((keep : Int) < 0) from by omega)]
    split
    · rfl
    · omega
  have hle := h3.le
  rw [hk]
  refine ⟨_, _, _, r12.cell rfl, _, r12.cell rfl, ⟨by rw [wr (by omega)]; omega, by rw [wr (by omega)]; omega⟩, r12.there (by simp), fun w18 e18 => ?_⟩
  rw [opt_id, wr (by omega), ite_self, Int.add_zero, toNat_cast, Nat.sub_zero, Nat.sub_zero] at e18
  obtain ⟨r18, q18, o18⟩ := file_put (y := [.slice o data.length c, .int .i64 (data.length : Int), .bool true]) r12 q12 e18 rfl
  intro k20 hk20
  refine no (by omega) (hk20 w18 fun _ => ⟨_, _, _, r18.cell rfl, r18.there (by simp), fun w28 e28 => ?_⟩)
  obtain ⟨r28, q28, o28⟩ := file_put (y := [.slice o data.length c, .int .i64 (data.length : Int), .bool true]) r18 q18 e28 rfl
  refine ⟨rfl, ⟨o, c, h1, r28, q28⟩, ?_⟩
  exact ((((o4.trans' g6.only).trans' g12.only).trans' o18).trans' o28).mono fun b _ hb => (h1 b).2 (.inl hb)
theorem fBytes_c (h : FileAt w F t data dur false) (hl : data.length ≤ 16777216) : Calls Tryz.prog 53 #[.pointer (some ⟨t, 0, none⟩)] w fun e w' => ∃ o c, e = .returned (.tuple #[.slice o data.length c, .int .i64 0]) ∧ Byts w' (fun b => hs w ≤ b ∧ b < hs w') o data ∧ data.length ≤ c ∧ Grow w w' := by
  obtain ⟨o, c, h1, h2, h3⟩ := h.ex
  refine nf53 t w _ ⟨_, h2.cell rfl, bF ⟨_, _, _, h2.cell rfl, ?_⟩⟩
  refine append_at (B := hs w) (xs := []) (c2 := c) elem42 (own_nil w (hs w) 5 1) (own_byts h3) (by simp only [maxLen]; omega) (by omega) (Nat.le_refl _) fun o' c' w13 p1 p2 p3 => ?_
  rw [Nat.zero_add, List.nil_append] at p1
  rw [Nat.zero_add]
  exact ⟨_, _, _, rfl, _, _, rfl, (own_byts p1).mono fun b hb => p1.base b hb, p1.le, p2.mono fun b _ ⟨a, ha, _⟩ => by cases ha⟩
theorem fTruncate_c (h : FileAt w F t data dur false) (hl : data.length ≤ 16777216) (hd : dur ≤ data.length) : Calls Tryz.prog 56 #[.pointer (some ⟨t, 0, none⟩), .int .i64 (data.length : Int)] w fun e w' => e = .returned (.int .i64 0) ∧ FileAt w' F t data dur false ∧ Only F w w' := by
  obtain ⟨o, c, h1, h2, h3⟩ := h.ex
  have hle := h3.le
  refine nf56 t data.length w _ (no (by omega) ⟨_, _, _, h2.cell rfl, no (by omega) ⟨_, h2.cell rfl, bF ⟨_, _, _, h2.cell rfl, ⟨by omega, by omega⟩, h2.there (by simp), fun w14 e14 => ?_⟩⟩⟩)
  rw [opt_id, ite_self, toNat_cast, Nat.sub_zero, Nat.sub_zero] at e14
  obtain ⟨r14, q14, o14⟩ := file_put (y := [.slice o data.length c, .int .i64 (dur : Int), .bool false]) h2 h3 e14 rfl
  refine ⟨_, r14.cell rfl, r14.there (by simp), fun w17 e17 => ?_⟩
  have hm : (if (data.length : Int) < (dur : Int) then (data.length : Int) else (dur : Int)) = (dur : Int) := by rw [if_neg (by omega)]
  rw [hm] at e17
  obtain ⟨r17, q17, o17⟩ := file_put (y := [.slice o data.length c, .int .i64 (dur : Int), .bool false]) r14 q14 e17 rfl
  exact ⟨rfl, ⟨o, c, h1, r17, q17⟩, (o14.trans' o17).mono fun b _ hb => (h1 b).2 (.inl hb)⟩
end
end
section
open Go Go.Nf Go.RowKit

structure Rc where
  kind : UInt8
  body : List UInt8
def byteOf (s : Int) (i : Nat) : UInt8 := UInt8.ofNat (IntKind.wrap .u8 (s.fdiv (2 ^ min (8 * i) 64))).toNat
def sumBytes (s : Int) : List UInt8 := (List.range 8).map (byteOf s)
def chk (prev : Int) (r : Rc) : Int := chainF prev (r.kind.toNat : Int) r.body
def recEnc (prev : Int) (r : Rc) : List UInt8 := encI r.body.length ++ (r.kind :: (r.body ++ sumBytes (chk prev r)))
def encFrom (s : Int) : List Rc → List UInt8
  | [] => []
  | r :: rs => recEnc s r ++ encFrom (chk s r) rs
def sumsFrom (s : Int) : List Rc → List Int
  | [] => [s]
  | r :: rs => s :: sumsFrom (chk s r) rs
def sumEnd (s : Int) (rs : List Rc) : Int := rs.foldl chk s
theorem encFrom_app : ∀ (rs : List Rc) (s : Int) (r : Rc), encFrom s (rs ++ [r]) = encFrom s rs ++ recEnc (sumEnd s rs) r
  | [], s, r => by simp [encFrom, sumEnd]
  | x :: rs, s, r => by rw [List.cons_append, encFrom, encFrom, encFrom_app rs, List.append_assoc]; rfl
theorem sumsFrom_app : ∀ (rs : List Rc) (s : Int) (r : Rc), sumsFrom s (rs ++ [r]) = sumsFrom s rs ++ [chk (sumEnd s rs) r]
  | [], s, r => rfl
  | x :: rs, s, r => by rw [List.cons_append, sumsFrom, sumsFrom, sumsFrom_app rs]; rfl
theorem sumsFrom_len : ∀ (rs : List Rc) (s : Int), (sumsFrom s rs).length = rs.length + 1
  | [], _ => rfl
  | x :: rs, s => by rw [sumsFrom, List.length_cons, sumsFrom_len rs]; rfl
theorem sumsFrom_last : ∀ (rs : List Rc) (s : Int), (sumsFrom s rs)[rs.length]? = some (sumEnd s rs)
  | [], _ => rfl
  | x :: rs, s => by rw [sumsFrom, List.length_cons, List.getElem?_cons_succ, sumsFrom_last rs]; rfl
theorem sumBytes_len (s : Int) : (sumBytes s).length = 8 := by simp [sumBytes]
theorem recEnc_len (s : Int) (r : Rc) : (recEnc s r).length ≤ r.body.length + 19 := by
  have := encI_len r.body.length
  unfold recEnc
  rw [List.length_append, List.length_cons, List.length_append, sumBytes_len]; omega
theorem sumBytes_snoc (s : Int) {j : Nat} (hj : j < 8) : (sumBytes s).take (j + 1) = (sumBytes s).take j ++ [byteOf s j] := by
  unfold sumBytes
  rw [← List.map_take, ← List.map_take, List.take_range, List.take_range, Nat.min_eq_left hj, Nat.min_eq_left (Nat.le_of_lt hj), List.range_succ, List.map_append]; rfl
abbrev RP := Rc × (Option Addr × Nat)
def recV (p : RP) : List Value := [.int .u8 (p.1.kind.toNat : Int), .slice p.2.1 p.1.body.length p.2.2]
theorem recV_len (p : RP) : (recV p).length = 2 := rfl
theorem encF_shape : ∀ f v, v < 128 ^ f → 1 ≤ f → ∃ pre x, encF f v = pre ++ [x] ∧ (∀ b ∈ pre, 128 ≤ b.toNat) ∧ x.toNat < 128
  | 0, _, _, h => absurd h (by omega)
  | f + 1, v, hv, _ => by
    rw [encF]
    split
    · rename_i h
      exact ⟨[], _, rfl, fun b hb => (by cases hb), by rw [UInt8.toNat_ofNat']; omega⟩
    · rename_i h
      have hf : 1 ≤ f := by
        rcases Nat.eq_zero_or_pos f with e | e
        · subst e; simp at hv; omega
        · exact e
      obtain ⟨pre, x, h1, h2, h3⟩ := encF_shape f (v / 128) (by rw [Nat.pow_succ] at hv; exact Nat.div_lt_of_lt_mul (by rw [Nat.mul_comm]; exact hv)) hf
      refine ⟨UInt8.ofNat (v % 128 + 128) :: pre, x, by rw [h1]; rfl, fun b hb => ?_, h3⟩
      rcases List.mem_cons.1 hb with rfl | hb
      · rw [UInt8.toNat_ofNat']; omega
      · exact h2 b hb
theorem encI_short {n : Nat} (h : n ≤ 8192) : (encI n).length ≤ 3 := by
  unfold encI
  rw [encF]
  split
  · simp
  · rw [encF]
    split
    · simp
    · rw [encF, if_pos (by omega)]; simp
section
variable {w : World}
theorem clone_c {A : Nat → Prop} (k : UInt8) (o : Option Addr) (c : Nat) (xs : List UInt8) (hl : xs.length ≤ 1000000000) (w : World) (h : Byts w A o xs) (hA : ∀ b, A b → b < hs w) :
    Calls Tryz.prog 55 #[.agg #[.int .u8 (k.toNat : Int), .slice o xs.length c]] w fun e w' => ∃ o' c', e = .returned (.agg #[.int .u8 (k.toNat : Int), .slice o' xs.length c']) ∧ Byts w' (fun b => hs w ≤ b ∧ b < hs w') o' xs ∧ Grow w w' := by
  refine nf55 k.toNat o xs.length c w _ fun w1 e1 w3 e3 w5 e5 => ?_
  have r1 := Row.new (l := [_, _]) e1
  have g1 : Grow w w1 := only_alloc e1
  have g3 : Grow w1 w3 := only_alloc e3
  have g5 : Grow w3 w5 := only_drew e5
  have z1 := hs_alloc e1
  have z3 := hs_alloc e3
  have z5 := hs_drew e5
  have r5 := (r1.grow g3).grow g5
  have q5 := (Row.new (l := [_, _]) e3).grow g5
  refine ⟨_, r5.cell rfl, _, _, _, r5.cell rfl, ?_⟩
  refine append_at (B := hs w5) (xs := []) (c2 := c) elem42 (own_nil w5 (hs w5) 5 1) (((h.grow g1).grow g3).grow g5) (by simp only [maxLen]; omega) (by omega) (Nat.le_refl _) fun o' c' w12 p1 p2 p3 => ?_
  rw [Nat.zero_add, List.nil_append] at p1
  rw [Nat.zero_add]
  have G12 : Grow w5 w12 := p2.mono fun b _ ⟨a, ha, _⟩ => by cases ha
  have q12 := q5.grow G12
  refine ⟨_, _, _, rfl, kept_only p2 (by omega) (fun ⟨a, ha, _⟩ => by cases ha), q12.there (by simp), fun w16 e16 => ?_⟩
  have o16 : Only (fun b => b = hs w1) w12 w16 := only_set e16
  have q16 : Row w16 (hs w1) 104 [.int .u8 (k.toNat : Int), .slice o' xs.length c'] := q12.set e16
  have z16 := o16.size
  have z12 := G12.size
  refine ⟨_, q16.cell rfl, _, _, _, q16.cell rfl, o', c', rfl, ((own_byts p1).keep o16 fun b hb e => ?_).mono fun b hb => ?_, ?_⟩
  · have := (p1.base b hb).1; omega
  · have := p1.base b hb; omega
  · exact (((g1.trans' g3).trans' g5).trans' G12).trans o16 fun b hb e => by omega
set_option maxHeartbeats 1000000 in
theorem appendRecord_c {A : Nat → Prop} (prev : Int) (r : Rc) (o : Option Addr) (c : Nat) (hl : r.body.length ≤ 1000000) (w : World) (h : Byts w A o r.body) (hA : ∀ b, A b → b < hs w) :
    Calls Tryz.prog 123 #[.slice none 0 0, .int .u64 prev, .agg #[.int .u8 (r.kind.toNat : Int), .slice o r.body.length c]] w fun e w' => ∃ o' c', e = .returned (.tuple #[.slice o' (recEnc prev r).length c', .int .u64 (chk prev r)]) ∧ Byts w' (fun b => hs w ≤ b ∧ b < hs w') o' (recEnc prev r) ∧ Grow w w' := by
  refine nf123 none 0 0 prev r.kind.toNat o r.body.length c w _ fun w1 e1 w3 e3 => ?_
  have r1 := Row.new (l := [_, _]) e1
  have g1 : Grow w w1 := only_alloc e1
  have g3 : Grow w1 w3 := only_alloc e3
  have z1 := hs_alloc e1
  have z3 := hs_alloc e3
  have r3 := r1.grow g3
  have hw3 : WrAt (hs w1) w3 (hs w1) [] := wr_new (Nat.le_refl _) e3
  have h3 := (h.grow g1).grow g3
  refine ⟨_, _, _, r3.cell rfl, (wInt_c hw3 g3.size r.body.length (by omega) (by simp)).mono ?_⟩
  rintro _ w9 ⟨rfl, hw9, o9⟩
  have z9 := o9.size
  have r9 := r3.keep o9 (by show ¬ hs w1 ≤ hs w; omega)
  have h9 := h3.keep o9 fun b hb hb' => by have := hA b hb; have : hs w1 ≤ b := hb'; omega
  rw [List.nil_append] at hw9
  have hel := encI_len r.body.length
  refine ⟨rfl, (encoded_c hw9 (by omega)).mono ?_⟩
  rintro _ w11 ⟨g, rfl, r11g, zg, g11⟩
  have z11 := g11.size
  refine ⟨_, _, _, rfl, ?_⟩
  refine append_at (B := hs w11) (xs := []) elem42 (own_nil w11 (hs w11) 5 1) (row_byts r11g) (by simp only [maxLen]; omega) (by omega) (Nat.le_refl _) fun o17 c19 w16 p1 p2 p3 => ?_
  rw [Nat.zero_add, List.nil_append] at p1
  have G16 : Grow w11 w16 := p2.mono fun b _ ⟨a, ha, _⟩ => by cases ha
  have r16 := (r9.grow g11).grow G16
  have h16 := (h9.grow g11).grow G16
  have z16 := G16.size
  refine ⟨_, _, _, rfl, _, r16.cell rfl, fun w21 e21 => ?_⟩
  have g21 : Grow w16 w21 := only_alloc e21
  have z21 := hs_alloc e21
  rw [Nat.zero_add]
  refine append_at (B := hs w11) (ys := [r.kind]) elem42 (p1.grow g21) (row_byts (Row.new (l := byV [r.kind]) e21)) (by simp only [maxLen, List.length_singleton]; omega) (by simp only [List.length_singleton]; omega) (by omega) fun o25 c27 w24 q1 q2 q3 => ?_
  have o24 : Only (Above (hs w11)) w21 w24 := q2.mono fun b _ hb => (p1.base b hb).1
  have z24 := o24.size
  have r24 := (r16.grow g21).keep o24 (by show ¬ hs w11 ≤ hs w; omega)
  have h24 := (h16.grow g21).keep o24 fun b hb hb' => by have := hA b hb; have : hs w11 ≤ b := hb'; omega
  refine ⟨_, _, _, rfl, _, _, _, r24.cell rfl, ?_⟩
  refine append_at (B := hs w11) elem42 q1 h24 (by simp only [maxLen, List.length_singleton]; omega) (by simp only [List.length_singleton]; omega) (by omega) fun o33 c35 w32 s1 s2 s3 => ?_
  have o32 : Only (Above (hs w11)) w24 w32 := s2.mono fun b _ hb => (q1.base b hb).1
  have z32 := o32.size
  have r32 := r24.keep o32 (by show ¬ hs w11 ≤ hs w; omega)
  have h32 := h24.keep o32 fun b hb hb' => by have := hA b hb; have : hs w11 ≤ b := hb'; omega
  refine ⟨_, _, _, rfl, _, r32.cell rfl, _, _, _, r32.cell rfl, (chain_c prev r.kind.toNat o c r.body (by omega) w32 h32).mono ?_⟩
  rintro _ w41 ⟨rfl, e41⟩
  have e41 := e41.symm
  subst e41
  have G32 : Grow w w32 := by
    refine (((((g1.trans' g3).trans o9 fun b hb e => ?_).trans' (g11.trans' G16)).trans' g21).trans o24 fun b hb e => ?_).trans o32 fun b hb e => ?_
    all_goals
      have : hs w1 ≤ b ∨ hs w11 ≤ b := by first | exact .inl e | exact .inr e
      omega
  have base : (encI r.body.length ++ [r.kind] ++ r.body) ++ (sumBytes (chk prev r)).take 0 = encI r.body.length ++ [r.kind] ++ r.body := by simp
  have hlen : (encI r.body.length ++ [r.kind] ++ r.body).length = (encI r.body.length).length + 1 + r.body.length := by simp; omega
  refine ⟨_, rfl, fun k o48 n49 n50 x w' => ∃ j : Nat, x = (j : Int) ∧ j ≤ 8 ∧ k = 8 - j ∧ n49 = (encI r.body.length ++ [r.kind] ++ r.body).length + j ∧ Own w' (hs w11) 5 1 o48 n49 n50 (byV ((encI r.body.length ++ [r.kind] ++ r.body) ++ (sumBytes (chk prev r)).take j)) ∧ Only (Above (hs w11)) w32 w', ⟨_, 0, rfl, by omega, rfl, by simp; omega, by rw [base]; exact s1, Only.refl _ _⟩, ?_⟩
  rintro k _ w47 o48 n49 n50 x ⟨j, rfl, hj, rfl, rfl, own, o47⟩
  have z47 := o47.size
  refine ⟨fun hlt => ?_, fun hge => ?_⟩
  · have hlt := dT hlt
    have e8 : IntKind.wrap .i64 (8 * (j : Int)) = ((8 * j : Nat) : Int) := by rw [wr (by omega)]; omega
    rw [e8]
    refine run_shr ⟨_, rfl, fun w57 e57 => ?_⟩
    have eb : IntKind.wrap .u8 (Int.fdiv (chainF prev (r.kind.toNat : Int) r.body) (2 ^ min (8 * j) (IntKind.bits .u64))) = ((byteOf (chk prev r) j).toNat : Int) := (u8_wrap _).symm
    rw [eb] at e57
    have g57 : Grow w47 w57 := only_alloc e57
    have z57 := hs_alloc e57
    refine append_at (B := hs w11) (ys := [byteOf (chk prev r) j]) elem42 (own.grow g57) (row_byts (Row.new (l := byV [byteOf (chk prev r) j]) e57)) (by simp only [maxLen, List.length_singleton]; omega) (by simp only [List.length_singleton]; omega) (by omega) fun o61 c63 w60 t1 t2 t3 => ?_
    refine ⟨_, _, _, rfl, _, by omega, j + 1, by rw [wr (by omega)]; omega, by omega, rfl, rfl, ?_, (o47.trans' g57.only).trans' (t2.mono fun b _ hb => (own.base b hb).1)⟩
    rw [sumBytes_snoc _ (by omega), ← List.append_assoc]; exact t1
  · have : j = 8 := by have := dF hge; omega
    subst this
    rw [List.take_of_length_le (by rw [sumBytes_len]; omega)] at own
    have ee : encI r.body.length ++ [r.kind] ++ r.body ++ sumBytes (chk prev r) = recEnc prev r := by unfold recEnc; simp
    rw [ee] at own
    have el : (encI r.body.length ++ [r.kind] ++ r.body).length + 8 = (recEnc prev r).length := by rw [← ee, List.length_append (bs := sumBytes _), sumBytes_len]
    rw [el] at *
    refine ⟨o48, n50, rfl, (own_byts own).mono fun b hb => ?_, G32.trans o47 fun b hb e => ?_⟩
    · have := own.base b hb; omega
    · have : hs w11 ≤ b := e
      omega
end
end
section
open Go Go.Nf Go.RowKit

section
variable {w : World} {A : Nat → Prop} {o : Option Addr} {c : Nat}
theorem readLength_none (o : Option Addr) (c : Nat) (w : World) : Calls Tryz.prog 89 #[.slice o 0 c] w fun e w' => e = .returned (.tuple #[.int .i64 0, .int .i64 0, .bool false]) ∧ w' = w := by
  refine nf89 o 0 c w _ ⟨fun k x w' => x = 0 ∧ w' = w, ⟨0, rfl, rfl⟩, ?_⟩
  rintro k _ w5 x ⟨rfl, rfl⟩
  exact no (by simp) (yes (by simp) ⟨rfl, rfl⟩)
set_option maxHeartbeats 1000000 in
theorem readLength_c {n m : Nat} (hn : n ≤ 8192) {rest : List UInt8} (h : Byts w A o (encI n ++ rest)) (hm : m = (encI n ++ rest).length) (hl : m ≤ 100000000) (hc : m ≤ c) (hA : ∀ b, A b → b < hs w) :
    Calls Tryz.prog 89 #[.slice o m c] w fun e w' => e = .returned (.tuple #[.int .i64 (n : Int), .int .i64 ((encI n).length : Int), .bool true]) ∧ Grow w w' := by
  obtain ⟨pre, last, he, hpre, hlast⟩ := encF_shape 10 (2 * n) (by omega) (by omega)
  have he : encI n = pre ++ [last] := he
  have h3 := encI_short hn
  have hpl : (encI n).length = pre.length + 1 := by rw [he]; simp
  have hml : m = pre.length + 1 + rest.length := by rw [hm, List.length_append, hpl]
  refine nf89 o m c w _ ⟨fun k x w' => ∃ j : Nat, x = (j : Int) ∧ j ≤ pre.length ∧ k = pre.length - j ∧ w' = w, ⟨_, 0, rfl, by omega, rfl, rfl⟩, ?_⟩
  rintro k _ w5 x ⟨j, rfl, hj, rfl, rfl⟩
  have hjl : j < (encI n ++ rest).length := by rw [← hm]; omega
  refine yes (by omega) ?_
  obtain ⟨a, ha, -, hcell⟩ := h.at (List.getElem?_eq_getElem hjl)
  refine ⟨a, ha, ⟨by omega, by omega⟩, _, hcell, fun hge => ?_, fun hlt => ?_⟩
  · have hge := dT hge
    have hjp : j < pre.length := by
      rcases Nat.lt_or_ge j pre.length with h' | h'
      · exact h'
      · exfalso
        have : j = pre.length := by omega
        subst this
        have e : (encI n ++ rest)[pre.length] = last := by simp [he]
        rw [e] at hge
        omega
    exact no (by rw [wr (by omega)]; omega) ⟨_, by omega, j + 1, by rw [wr (by omega)]; omega, hjp, rfl, rfl⟩
  · have hlt := dF hlt
    have hjp : j = pre.length := by
      rcases Nat.lt_or_ge j pre.length with h' | h'
      · exfalso
        have e : (encI n ++ rest)[j] = pre[j] := by
          simp only [he, List.append_assoc]
          rw [List.getElem_append_left h']
        rw [e] at hlt
        have := hpre _ (List.getElem_mem h')
        omega
      · omega
    subst hjp
    refine no (by omega) ⟨⟨by rw [wr (by omega)]; omega, by rw [wr (by omega)]; omega⟩, ?_⟩
    rw [opt_id, ite_self, Nat.sub_zero, Nat.sub_zero, wr (by omega), show ((pre.length : Int) + 1).toNat = (encI n).length from by omega]
    have ht : Byts w5 A o (encI n) := by have := h.take (n := (encI n).length); rwa [List.take_left] at this
    refine (newReader_c o c (encI n) (by omega) _ ht).mono ?_
    rintro _ w19 ⟨r, g, rfl, hr, zr, zg, g19⟩
    refine ⟨_, rfl, (rInt_c (n := n) (xs := []) (by omega) (by rw [List.append_nil]; exact hr)).mono ?_⟩
    rintro _ w22 ⟨rfl, h22, o22⟩
    refine ⟨_, rfl, (finish_c h22).mono ?_⟩
    rintro _ w25 ⟨rfl, e25⟩
    subst e25
    refine ⟨_, rfl, nno rfl (no (by omega) (no (by omega) ⟨?_, g19.trans o22 fun b hb e => by omega⟩))⟩
    rw [hpl]; rfl
theorem readRecord_none (o : Option Addr) (c : Nat) (prev : Int) (w : World) : Calls Tryz.prog 54 #[.slice o 0 c, .int .u64 prev] w fun e w' => e = .returned (.tuple #[.agg #[.int .u8 0, .slice none 0 0], .int .u64 0, .int .i64 0, .bool false]) ∧ Grow w w' := by
  refine nf54 o 0 c prev w _ fun w1 e1 => ?_
  have r1 := Row.new (l := [_, _]) e1
  have g1 : Grow w w1 := only_alloc e1
  refine (readLength_none o c w1).mono ?_
  rintro _ w4 ⟨rfl, e4⟩
  subst e4
  refine ⟨_, _, _, rfl, bF ⟨r1.there (by simp), fun w54 e54 => ?_⟩⟩
  have r54 : Row w54 (hs w) 104 [.int .u8 0, .slice none 0 0] := r1.set e54
  exact ⟨_, r54.cell rfl, _, _, _, r54.cell rfl, rfl, g1.trans (only_set e54) fun b hb e => by omega⟩
set_option maxHeartbeats 2000000 in
theorem readRecord_c {prev : Int} {r : Rc} {m : Nat} {rest : List UInt8} (hn : r.body.length ≤ 8192) (h : Byts w A o (recEnc prev r ++ rest)) (hm : m = (recEnc prev r ++ rest).length) (hl : m ≤ 100000000) (hc : m ≤ c) (hA : ∀ b, A b → b < hs w) :
    Calls Tryz.prog 54 #[.slice o m c, .int .u64 prev] w fun e w' => ∃ ob cb, e = .returned (.tuple #[.agg #[.int .u8 (r.kind.toNat : Int), .slice ob r.body.length cb], .int .u64 (chk prev r), .int .i64 ((recEnc prev r).length : Int), .bool true]) ∧ Byts w' A ob r.body ∧ Grow w w' := by
  have hrl : (recEnc prev r).length = (encI r.body.length).length + 1 + r.body.length + 8 := by
    unfold recEnc
    rw [List.length_append, List.length_cons, List.length_append, sumBytes_len]; omega
  have hel := encI_short hn
  rw [List.length_append] at hm
  refine nf54 o m c prev w _ fun w1 e1 => ?_
  have r1 := Row.new (l := [_, _]) e1
  have g1 : Grow w w1 := only_alloc e1
  have z1 := hs_alloc e1
  have h1 := h.grow g1
  have hsplit : recEnc prev r ++ rest = encI r.body.length ++ (r.kind :: (r.body ++ sumBytes (chk prev r)) ++ rest) := by unfold recEnc; rw [List.append_assoc]
  have h1' := h1
  rw [hsplit] at h1'
  refine (readLength_c hn h1' (by rw [← hsplit, List.length_append]; exact hm) hl hc (fun b hb => by have := hA b hb; omega)).mono ?_
  rintro _ w4 ⟨rfl, g4⟩
  have r4 := r1.grow g4
  have h4 := h1.grow g4
  generalize hL : (encI r.body.length).length = L at *
  have eA : IntKind.wrap .i64 (1 + (r.body.length : Int)) = ((1 + r.body.length : Nat) : Int) := by rw [wr (by omega)]; omega
  have eB : IntKind.wrap .i64 (((1 + r.body.length : Nat) : Int) + 8) = ((1 + r.body.length + 8 : Nat) : Int) := by rw [wr (by omega)]; omega
  have eC : IntKind.wrap .i64 ((L : Int) + 1) = ((L + 1 : Nat) : Int) := by rw [wr (by omega)]; omega
  have eD : IntKind.wrap .i64 (((L + 1 : Nat) : Int) + (r.body.length : Int)) = ((L + 1 + r.body.length : Nat) : Int) := by rw [wr (by omega)]; omega
  have eE : IntKind.wrap .i64 ((L : Int) + ((1 + r.body.length : Nat) : Int)) = ((L + 1 + r.body.length : Nat) : Int) := by rw [wr (by omega)]; omega
  have eF : IntKind.wrap .i64 (((L + 1 + r.body.length : Nat) : Int) + 8) = (((recEnc prev r).length : Nat) : Int) := by rw [wr (by omega)]; omega
  refine ⟨_, _, _, rfl, bT (no ?_ ?_)⟩
  · rw [eA, eB, wr (by omega)]; omega
  · have hkind : (recEnc prev r ++ rest)[L]? = some r.kind := by
      rw [hsplit, ← hL, List.getElem?_append_right (Nat.le_refl _), Nat.sub_self]; rfl
    obtain ⟨a, ha, -, hcell⟩ := Byts.at h4 hkind
    refine ⟨a, ha, ⟨by omega, by omega⟩, _, hcell, ⟨by rw [eC, eD]; omega, by rw [eC, eD]; omega⟩, ⟨by rw [eC]; omega, by rw [eC, eD]; omega⟩, ?_⟩
    rw [eC, eD, eA]
    have hoff := slice_off (len := 0) h4 (n := L + 1) (c := c) (by rw [List.length_append]; omega) (by rw [List.length_append]; omega)
    have hdrop : (recEnc prev r ++ rest).drop (L + 1) = r.body ++ (sumBytes (chk prev r) ++ rest) := by
      have e : recEnc prev r ++ rest = (encI r.body.length ++ [r.kind]) ++ (r.body ++ (sumBytes (chk prev r) ++ rest)) := by unfold recEnc; simp
      rw [e, List.drop_left' (by rw [List.length_append, hL, List.length_singleton])]
    rw [hdrop] at hoff
    have hbody := Byts.take hoff (n := r.body.length)
    rw [List.take_left] at hbody
    rw [toNat_cast, toNat_cast, show L + 1 + r.body.length - (L + 1) = r.body.length from by omega]
    refine (chain_c prev r.kind.toNat _ _ r.body (by omega) w4 hbody).mono ?_
    rintro _ w20 ⟨rfl, e20⟩
    have e20 := e20.symm
    subst e20
    refine ⟨_, rfl, fun k x w' => ∃ j : Nat, x = (j : Int) ∧ j ≤ 8 ∧ k = 8 - j ∧ Grow w4 w', ⟨_, 0, rfl, by omega, rfl, Only.refl _ _⟩, ?_⟩
    rintro k _ w26 x ⟨j, rfl, hj, rfl, g26⟩
    have r26 := r4.grow g26
    refine ⟨fun hlt => ?_, fun hge => ?_⟩
    · have hlt := dT hlt
      intro w30 e30
      have g30 : Grow w26 w30 := only_drew e30
      have h30 := (h4.grow g26).grow g30
      have eG : IntKind.wrap .i64 (((L + 1 + r.body.length : Nat) : Int) + (j : Int)) = ((L + 1 + r.body.length + j : Nat) : Int) := by rw [wr (by omega)]; omega
      have hbyte : (recEnc prev r ++ rest)[L + 1 + r.body.length + j]? = some (byteOf (chk prev r) j) := by
        have e : recEnc prev r ++ rest = (encI r.body.length ++ [r.kind] ++ r.body) ++ (sumBytes (chk prev r) ++ rest) := by unfold recEnc; simp
        have el : (encI r.body.length ++ [r.kind] ++ r.body).length = L + 1 + r.body.length := by simp [hL]; omega
        rw [e, List.getElem?_append_right (by omega), el, show L + 1 + r.body.length + j - (L + 1 + r.body.length) = j from by omega, List.getElem?_append_left (by rw [sumBytes_len]; omega)]
        unfold sumBytes
        rw [List.getElem?_map, List.getElem?_range (by omega)]; rfl
      obtain ⟨a', ha', -, hc'⟩ := Byts.at h30 hbyte
      have e8 : IntKind.wrap .i64 (8 * (j : Int)) = ((8 * j : Nat) : Int) := by rw [wr (by omega)]; omega
      rw [eE, eG, e8]
      refine ⟨a', ha', ⟨by omega, by omega⟩, _, hc', run_shr ⟨_, rfl, kept_same rfl, ?_⟩⟩
      have eb : IntKind.wrap .u8 (Int.fdiv (chainF prev (r.kind.toNat : Int) r.body) (2 ^ min (8 * j) (IntKind.bits .u64))) = ((byteOf (chk prev r) j).toNat : Int) := (u8_wrap _).symm
      rw [eb]
      exact nno rfl ⟨_, by omega, j + 1, by rw [wr (by omega)]; omega, by omega, rfl, g26.trans' g30⟩
    · refine ⟨r26.there (by simp), fun w47 e47 => ?_⟩
      have o47 : Only (fun b => b = hs w) w26 w47 := only_set e47
      have r47 : Row w47 (hs w) 104 [.int .u8 (r.kind.toNat : Int), _] := r26.set e47
      rw [eE, eF]
      refine ⟨_, r47.cell rfl, _, _, _, r47.cell rfl, _, _, rfl, (hbody.grow g26).keep o47 fun b hb e => by have := hA b hb; omega, ?_⟩
      exact ((g1.trans' g4).trans' g26).trans o47 fun b hb e => by omega
end
end
section
open Go Go.Nf Go.RowKit

theorem elem79 : Elem Tryz.prog 79 104 2 32 := elem_of (by kernel_rfl)
theorem elem100 : Elem Tryz.prog 100 60 1 8 := elem_of (by kernel_rfl)
def u1 (x : Int) : List Value := [.int .u64 x]
theorem u1_len (x : Int) : (u1 x).length = 1 := rfl
structure JB (w : World) (J D : Nat → Prop) (j t : Nat) (rs : List Rc) : Prop where
  ex : ∃ o1 c1 o2 c2, ∃ ps : List RP, (∀ b, J b ↔ b = j ∨ inBlock o1 b ∨ inBlock o2 b) ∧ Row w j 102 [.pointer (some ⟨t, 0, none⟩), .slice o1 rs.length c1, .slice o2 (rs.length + 1) c2] ∧ Own w 0 104 2 o1 rs.length c1 (ps.flatMap recV) ∧ ps.map (·.1) = rs ∧ (∀ p ∈ ps, Byts w D p.2.1 p.1.body) ∧ Own w 0 60 1 o2 (rs.length + 1) c2 ((sumsFrom sum0 rs).flatMap u1)
  ap : ∀ b, D b → ¬ J b ∧ b < hs w
section
variable {w : World} {J D : Nat → Prop} {j t : Nat} {rs : List Rc}
theorem JB.keep {S : Nat → Prop} {w' : World} (h : JB w J D j t rs) (g : Only S w w') (hJ : ∀ b, J b → ¬ S b) (hD : ∀ b, D b → ¬ S b) : JB w' J D j t rs := by
  obtain ⟨o1, c1, o2, c2, ps, h1, h2, h3, h4, h5, h6⟩ := h.ex
  exact ⟨⟨o1, c1, o2, c2, ps, h1, h2.keep g (hJ j ((h1 j).2 (.inl rfl))), h3.keep g fun b hb => hJ b ((h1 b).2 (.inr (.inl hb))), h4, fun p hp => (h5 p hp).keep g hD, h6.keep g fun b hb => hJ b ((h1 b).2 (.inr (.inr hb)))⟩, fun b hb => ⟨(h.ap b hb).1, Nat.lt_of_lt_of_le (h.ap b hb).2 g.size⟩⟩
theorem JB.grow {w' : World} (h : JB w J D j t rs) (g : Grow w w') : JB w' J D j t rs := h.keep g (fun _ _ h => h) fun _ _ h => h
theorem JB.more {D' : Nat → Prop} (h : JB w J D j t rs) (hD : ∀ b, D b → D' b) (ha : ∀ b, D' b → ¬ J b ∧ b < hs w) : JB w J D' j t rs := by
  obtain ⟨o1, c1, o2, c2, ps, h1, h2, h3, h4, h5, h6⟩ := h.ex
  exact ⟨⟨o1, c1, o2, c2, ps, h1, h2, h3, h4, fun p hp => (h5 p hp).mono hD, h6⟩, ha⟩
theorem JB.lt (h : JB w J D j t rs) : ∀ b, J b → b < hs w := fun b hb => by
  obtain ⟨o1, c1, o2, c2, ps, h1, h2, h3, h4, h5, h6⟩ := h.ex
  rcases (h1 b).1 hb with rfl | hb | hb
  · exact h2.lt
  · exact (h3.base b hb).2
  · exact (h6.base b hb).2
theorem JB.ty (h : JB w J D j t rs) : ∀ b, J b → ∃ T l, Row w b T l ∧ (T = 102 ∨ T = 104 ∨ T = 60) := fun b hb => by
  obtain ⟨o1, c1, o2, c2, ps, h1, h2, h3, h4, h5, h6⟩ := h.ex
  rcases (h1 b).1 hb with rfl | hb | hb
  · exact ⟨_, _, h2, .inl rfl⟩
  · obtain ⟨l, hl⟩ := h3.row hb
    exact ⟨_, _, hl, .inr (.inl rfl)⟩
  · obtain ⟨l, hl⟩ := h6.row hb
    exact ⟨_, _, hl, .inr (.inr rfl)⟩
def pushP (j q : Nat) (s : Int) (w34 : World) (K : World → Prop) : Prop :=
(∃ o36 : Option Addr, (∃ n37 : Nat, (∃ n38 : Nat, (((w34.cell? (⟨j, 1, none⟩ : Addr)) = (some (Value.slice o36 n37 n38))) ∧
(∃ x39 : Int, (((w34.cell? (⟨q, 0, none⟩ : Addr)) = (some (Value.int IntKind.u8 x39))) ∧
(∃ o40 : Option Addr, (∃ n41 : Nat, (∃ n42 : Nat, (((w34.cell? (⟨q, 1, none⟩ : Addr)) = (some (Value.slice o40 n41 n42))) ∧
(Calls Tryz.prog 55 #[(Value.agg #[(Value.int IntKind.u8 x39), (Value.slice o40 n41 n42)])] w34 (fun (e43 : Ending) => (fun (w44 : World) => (∃ x45 : Int, (∃ o46 : Option Addr, (∃ n47 : Nat, (∃ n48 : Nat, ((e43 = (Ending.returned (Value.agg #[(Value.int IntKind.u8 x45), (Value.slice o46 n47 n48)]))) ∧
((Nf.Kept w34 w44 (⟨j, 1, none⟩ : Addr) 1) ∧
(∀ w49 : World, ((w49 = (w44.alloc (Obj.cells #[(Value.int IntKind.u8 x45), (Value.slice o46 n47 n48)] 104 (0, 0)))) →
((Nf.Kept w34 w49 (⟨j, 1, none⟩ : Addr) 1) ∧
(RunOk Tryz.prog (Nf.Hold (Builtin.append_ #[79, 79] 79 #[(Value.slice o36 n37 n38), (Value.slice (some (⟨(hs w44), 0, none⟩ : Addr)) 1 1)])) w49 (fun (v51 : Value) => (fun (w52 : World) => (∃ o53 : Option Addr, (∃ n54 : Nat, (∃ n55 : Nat, ((v51 = (Value.slice o53 n54 n55)) ∧
((Nf.There w52 (⟨j, 1, none⟩ : Addr) 1) ∧
(∀ w56 : World, ((w56 = (Nf.setCells w52 (⟨j, 1, none⟩ : Addr) [(Value.slice o53 n54 n55)] 0)) →
(∃ o58 : Option Addr, (∃ n59 : Nat, (∃ n60 : Nat, (((w56.cell? (⟨j, 2, none⟩ : Addr)) = (some (Value.slice o58 n59 n60))) ∧
(∀ w61 : World, ((w61 = (w56.alloc (Obj.cells #[(Value.int IntKind.u64 s)] 60 (0, 0)))) →
(RunOk Tryz.prog (Nf.Hold (Builtin.append_ #[100, 100] 100 #[(Value.slice o58 n59 n60), (Value.slice (some (⟨(hs w56), 0, none⟩ : Addr)) 1 1)])) w61 (fun (v63 : Value) => (fun (w64 : World) => (∃ o65 : Option Addr, (∃ n66 : Nat, (∃ n67 : Nat, ((v63 = (Value.slice o65 n66 n67)) ∧
((Nf.There w64 (⟨j, 2, none⟩ : Addr) 1) ∧
(∀ w68 : World, ((w68 = (Nf.setCells w64 (⟨j, 2, none⟩ : Addr) [(Value.slice o65 n66 n67)] 0)) →
 K w68))))))))))))))))))))))))))))))))))))))))))))))))
set_option maxHeartbeats 1000000 in
theorem jpush {A : Nat → Prop} {q : Nat} {s : Int} {o : Option Addr} {c : Nat} {K : World → Prop} (r : Rc) (h : JB w J D j t rs) (hl : rs.length ≤ 1000000) (hr : Row w q 104 [.int .u8 (r.kind.toNat : Int), .slice o r.body.length c]) (hb : Byts w A o r.body) (hbl : r.body.length ≤ 1000000) (hA : ∀ b, A b → b < hs w) (hs' : s = chk (sumEnd sum0 rs) r)
    (k : ∀ w' J', JB w' J' (fun b => D b ∨ (hs w ≤ b ∧ b < hs w' ∧ ¬ J' b)) j t (rs ++ [r]) → Only J w w' → (∀ b, J' b → J b ∨ hs w ≤ b) → K w') : pushP j q s w K := by
  subst hs'
  obtain ⟨o1, c1, o2, c2, ps, h1, h2, h3, h4, h5, h6⟩ := h.ex
  have hj := h2.lt
  have hpl : ps.length = rs.length := by rw [← h4, List.length_map]
  refine ⟨_, _, _, h2.cell rfl, _, hr.cell rfl, _, _, _, hr.cell rfl, (clone_c r.kind o c r.body (by omega) w hb hA).mono ?_⟩
  rintro _ w44 ⟨o46, c48, rfl, hb44, g44⟩
  have z44 := g44.size
  refine ⟨_, _, _, _, rfl, kept_only g44 hj (fun h => h), fun w49 e49 => ?_⟩
  have r49 := Row.new (l := recV (r, (o46, c48))) e49
  have g49 : Grow w44 w49 := only_alloc e49
  have z49 := hs_alloc e49
  have G49 := g44.trans' g49
  refine ⟨kept_only G49 hj (fun h => h), ?_⟩
  refine run_append_at (B := 0) elem79 (h3.grow G49) (news := recV (r, (o46, c48))) rfl (fun i u hu => r49.cellAdd hu) (by simp [recV, Value.oneCell']) (by simp only [maxLen]; omega) (by omega) (Nat.zero_le _) fun o53 c55 w52 p1 p2 p3 => ?_
  have z52 := p2.size
  have q2 := (h2.grow G49).keep p2 ((h3.grow G49).apartR (h2.grow G49) (by decide))
  refine ⟨_, _, _, rfl, q2.there (by simp), fun w56 e56 => ?_⟩
  have o56 : Only (fun b => b = j) w52 w56 := only_set e56
  have r56 : Row w56 j 102 [.pointer (some ⟨t, 0, none⟩), .slice o53 (rs.length + 1) c55, .slice o2 (rs.length + 1) c2] := q2.set e56
  have p1' : Own w56 0 104 2 o53 (rs.length + 1) c55 (ps.flatMap recV ++ recV (r, (o46, c48))) := p1.keep o56 fun b hb e => p1.apartR q2 (by decide) (e ▸ hb)
  have z56 := o56.size
  -- the sums
  have h6a := h6.grow G49
  have h6b : Own w52 0 60 1 o2 (rs.length + 1) c2 ((sumsFrom sum0 rs).flatMap u1) := h6a.keep p2 fun b hb hb' => h6a.apart (h3.grow G49) (by decide) b hb hb'
  have h6' : Own w56 0 60 1 o2 (rs.length + 1) c2 ((sumsFrom sum0 rs).flatMap u1) := h6b.keep o56 fun b hb e => h6b.apartR q2 (by decide) (e ▸ hb)
  refine ⟨_, _, _, r56.cell rfl, fun w61 e61 => ?_⟩
  have r61 := Row.new (l := u1 (chk (sumEnd sum0 rs) r)) e61
  have g61 : Grow w56 w61 := only_alloc e61
  have z61 := hs_alloc e61
  refine run_append_at (B := 0) elem100 (h6'.grow g61) (news := u1 (chk (sumEnd sum0 rs) r)) rfl (fun i u hu => r61.cellAdd hu) (by simp [u1, Value.oneCell']) (by simp only [maxLen]; omega) (by omega) (Nat.zero_le _) fun o65 c67 w64 s1 s2 s3 => ?_
  have z64 := s2.size
  have q64 := (r56.grow g61).keep s2 ((h6'.grow g61).apartR (r56.grow g61) (by decide))
  refine ⟨_, _, _, rfl, q64.there (by simp), fun w68 e68 => ?_⟩
  have o68 : Only (fun b => b = j) w64 w68 := only_set e68
  have r68 : Row w68 j 102 [.pointer (some ⟨t, 0, none⟩), .slice o53 (rs.length + 1) c55, .slice o65 (rs.length + 1 + 1) c67] := q64.set e68
  have z68 := o68.size
  have p64 : Own w64 0 104 2 o53 (rs.length + 1) c55 (ps.flatMap recV ++ recV (r, (o46, c48))) := (p1'.grow g61).keep s2 fun b hb hb' => (p1'.grow g61).apart (h6'.grow g61) (by decide) b hb hb'
  have p68 : Own w68 0 104 2 o53 (rs.length + 1) c55 (ps.flatMap recV ++ recV (r, (o46, c48))) := p64.keep o68 fun b hb e => p64.apartR q64 (by decide) (e ▸ hb)
  have s68 : Own w68 0 60 1 o65 (rs.length + 1 + 1) c67 ((sumsFrom sum0 rs).flatMap u1 ++ u1 (chk (sumEnd sum0 rs) r)) := s1.keep o68 fun b hb e => s1.apartR q64 (by decide) (e ▸ hb)
  -- what was written
  have inJ1 : ∀ b, inBlock o1 b → J b := fun b hb => (h1 b).2 (.inr (.inl hb))
  have inJ2 : ∀ b, inBlock o2 b → J b := fun b hb => (h1 b).2 (.inr (.inr hb))
  have jJ : J j := (h1 j).2 (.inl rfl)
  have T52 : Only J w49 w52 := p2.mono fun b _ hb => inJ1 b hb
  have T56 : Only J w52 w56 := o56.mono fun b _ hb => by rw [hb]; exact jJ
  have T64 : Only J w61 w64 := s2.mono fun b _ hb => inJ2 b hb
  have T68 : Only J w64 w68 := o68.mono fun b _ hb => by rw [hb]; exact jJ
  have T : Only J w44 w68 := (((g49.only.trans' T52).trans' T56).trans' g61.only).trans' (T64.trans' T68)
  have TT : Only J w w68 := g44.only.trans' T
  have newJ : ∀ b, (b = j ∨ inBlock o53 b ∨ inBlock o65 b) → J b ∨ hs w44 ≤ b := fun b hb => by
    rcases hb with hb | hb | hb
    · rw [hb]; exact .inl jJ
    · rcases p3 b hb with k | k
      · exact .inl (inJ1 b k)
      · right; omega
    · rcases s3 b hb with k | k
      · exact .inl (inJ2 b k)
      · right; omega
  have Jlt := h.lt
  refine k w68 (fun b => b = j ∨ inBlock o53 b ∨ inBlock o65 b) ⟨⟨o53, c55, o65, c67, ps ++ [(r, (o46, c48))], fun b => Iff.rfl, ?_, ?_, ?_, ?_, ?_⟩, ?_⟩ TT fun b hb => (newJ b hb).imp id fun h => by omega
  · rw [List.length_append]; exact r68
  · rw [List.flatMap_append, List.length_append]; simpa using p68
  · rw [List.map_append, h4]; rfl
  · intro p hp
    rcases List.mem_append.1 hp with hp | hp
    · exact ((h5 p hp).keep TT fun b hb => (h.ap b hb).1).mono fun b hb => .inl hb
    · rw [List.mem_singleton.1 hp]
      refine (hb44.keep T fun b hb hJ => ?_).mono fun b hb => .inr ⟨hb.1, by omega, fun hb' => ?_⟩
      · have := Jlt b hJ; omega
      · rcases newJ b hb' with k | k
        · have := Jlt b k; omega
        · omega
  · rw [sumsFrom_app, List.flatMap_append, List.length_append]; simpa using s68
  · intro b hb
    rcases hb with hb | ⟨hb1, hb2, hb3⟩
    · have hd := h.ap b hb
      refine ⟨fun hb' => ?_, by have := TT.size; omega⟩
      rcases newJ b hb' with k | k
      · exact hd.1 k
      · omega
    · exact ⟨hb3, hb2⟩
end
end
section
open Go Go.Nf Go.RowKit

structure JAt (w : World) (J F D : Nat → Prop) (j t : Nat) (rs : List Rc) (dur : Nat) : Prop where
  b : JB w J D j t rs
  f : FileAt w F t (encFrom sum0 rs) dur false
  ap : ∀ x, D x → ¬ F x
section
variable {w : World} {J F D : Nat → Prop} {j t dur : Nat} {rs : List Rc}
theorem JAt.jf (h : JAt w J F D j t rs dur) : ∀ x, J x → ¬ F x := fun x hx hf => by
  obtain ⟨T, l, r, hT⟩ := h.b.ty x hx
  obtain ⟨T', l', r', hT'⟩ := h.f.ty x hf
  have := (r.inj r').2
  rcases hT with rfl | rfl | rfl <;> rcases hT' with rfl | rfl <;> exact absurd this (by decide)
theorem JAt.keep {S : Nat → Prop} {w' : World} (h : JAt w J F D j t rs dur) (g : Only S w w') (hJ : ∀ b, J b → ¬ S b) (hF : ∀ b, F b → ¬ S b) (hD : ∀ b, D b → ¬ S b) : JAt w' J F D j t rs dur := ⟨h.b.keep g hJ hD, h.f.keep g hF, h.ap⟩
theorem JAt.grow {w' : World} (h : JAt w J F D j t rs dur) (g : Grow w w') : JAt w' J F D j t rs dur := h.keep g (fun _ _ h => h) (fun _ _ h => h) fun _ _ h => h
theorem JAt.lt (h : JAt w J F D j t rs dur) : ∀ x, J x ∨ F x → x < hs w := fun x hx => hx.elim (h.b.lt x) (h.f.lt x)
theorem jSync_c (h : JAt w J F D j t rs dur) : Calls Tryz.prog 68 #[.pointer (some ⟨j, 0, none⟩)] w fun e w' => e = .returned (.int .i64 0) ∧ JAt w' J F D j t rs (encFrom sum0 rs).length ∧ Only F w w' := by
  obtain ⟨o1, c1, o2, c2, ps, h1, h2, -⟩ := h.b.ex
  refine nf68 j w _ ⟨_, h2.cell rfl, (fSync_c h.f).mono ?_⟩
  rintro _ w' ⟨rfl, f', o'⟩
  exact ⟨_, rfl, rfl, ⟨h.b.keep o' h.jf h.ap, f', h.ap⟩, o'⟩
set_option maxHeartbeats 1000000 in
theorem jAppend_c {A : Nat → Prop} {o : Option Addr} {c : Nat} (r : Rc) (h : JAt w J F D j t rs dur) (hl : rs.length ≤ 1000000) (hb : Byts w A o r.body) (hbl : r.body.length ≤ 8192) (hd : (encFrom sum0 rs).length + 8300 ≤ 16777216) (hA : ∀ b, A b → b < hs w ∧ ¬ J b ∧ ¬ F b) :
    Calls Tryz.prog 110 #[.pointer (some ⟨j, 0, none⟩), .agg #[.int .u8 (r.kind.toNat : Int), .slice o r.body.length c]] w fun e w' => e = .returned (.int .i64 0) ∧ ∃ J' F' D', JAt w' J' F' D' j t (rs ++ [r]) dur ∧ Only (fun b => J b ∨ F b) w w' ∧ (∀ b, J' b → J b ∨ hs w ≤ b) ∧ (∀ b, F' b → F b ∨ hs w ≤ b) ∧ (∀ b, D' b → D b ∨ hs w ≤ b) ∧ ∀ b, D b → D' b := by
  obtain ⟨o1, c1, o2, c2, ps, h1, h2, h3, h4, h5, h6⟩ := h.b.ex
  refine nf110 j r.kind.toNat o r.body.length c w _ fun w1 e1 => ?_
  have r1 := Row.new (l := [.int .u8 (r.kind.toNat : Int), .slice o r.body.length c]) e1
  have g1 : Grow w w1 := only_alloc e1
  have z1 := hs_alloc e1
  refine ⟨_, _, _, r1.cell rfl, no (by omega) fun w8 e8 => ?_⟩
  have g8 : Grow w1 w8 := only_drew e8
  have z8 := hs_drew e8
  have G8 := g1.trans' g8
  have r8 := r1.grow g8
  have q8 := h2.grow G8
  obtain ⟨gs, ls, rfl, hls, htk, -, -⟩ := h6.head (by omega)
  have hsum : ((sumsFrom sum0 rs).flatMap u1)[rs.length]? = some (.int .u64 (sumEnd sum0 rs)) := by
    have := flat_get u1_len (sumsFrom sum0 rs) rs.length 0 (by omega)
    rw [Nat.mul_one, Nat.add_zero, sumsFrom_last] at this
    rw [this]; rfl
  refine ⟨_, _, _, q8.cell rfl, _, _, _, q8.cell rfl, _, rfl, ⟨by omega, by omega⟩, _, (h6.grow G8).cell (by rw [toNat_cast, Nat.mul_one]; exact hsum), _, r8.cell rfl, _, _, _, r8.cell rfl, ?_⟩
  refine (appendRecord_c (sumEnd sum0 rs) r o c (by omega) w8 (hb.grow G8) (fun b hb => by have := (hA b hb).1; omega)).mono ?_
  rintro _ w23 ⟨o24, c26, rfl, hy, g23⟩
  have q23 := q8.grow g23
  have G23 := G8.trans' g23
  have z23 := g23.size
  have f23 := h.f.grow G23
  have hlen := recEnc_len (sumEnd sum0 rs) r
  refine ⟨_, _, _, _, rfl, _, q23.cell rfl, (fWrite_c f23 o24 c26 (recEnc (sumEnd sum0 rs) r) hy (fun b hb hb' => by have := h.f.lt b hb'; omega) (by omega)).mono ?_⟩
  rintro _ w30 ⟨rfl, F', f30, o30, n30⟩
  have z30 := o30.size
  refine ⟨_, rfl, nno rfl fun w34 e34 => ?_⟩
  have g34 : Grow w30 w34 := only_drew e34
  have z34 := hs_drew e34
  have G34 : Only F w w34 := ((Grow.only G23).trans' o30).trans' (Grow.only g34)
  have b34 := h.b.keep G34 h.jf h.ap
  have hF : ¬ F (hs w) := fun hf => by have := h.f.lt _ hf; omega
  have r34 : Row w34 (hs w) 104 [.int .u8 (r.kind.toNat : Int), .slice o r.body.length c] := (((r8.grow g23).keep o30 hF).grow g34)
  have f34 := f30.grow g34
  rw [← encFrom_app] at f34
  refine (jpush (A := A) (c := c) r b34 hl r34 (hb.keep G34 fun b hb => (hA b hb).2.2) (by omega) (fun b hb => by have := (hA b hb).1; omega) rfl fun w68 J' hJ' oJ nJ => ?_ : pushP j (hs w) (chk (sumEnd sum0 rs) r) w34 _)
  have F34 : ∀ b, F' b → ¬ J b := fun b hb hj => by
    rcases n30 b hb with k | k
    · exact h.jf b hj k
    · have := h.b.lt b hj; omega
  have f68 := f34.keep oJ F34
  refine ⟨rfl, J', F', _, ⟨hJ'.more (D' := fun b => (D b ∨ (hs w34 ≤ b ∧ b < hs w68 ∧ ¬ J' b)) ∧ ¬ F' b) (fun b hb => ⟨hb, fun hf => ?_⟩) fun b hb => hJ'.ap b hb.1, f68, fun b hb => hb.2⟩, (G34.mono fun b _ hb => .inr hb).trans' (oJ.mono fun b _ hb => .inl hb), fun b hb => (nJ b hb).imp id fun h => by omega, fun b hb => (n30 b hb).imp id fun h => by omega, fun b hb => hb.1.imp id fun h => by omega, fun b hb => ⟨.inl hb, fun hf => ?_⟩⟩
  · rcases hb with hb | hb
    · rcases n30 b hf with k | k
      · exact h.ap b hb k
      · have := (h.b.ap b hb).2; omega
    · have := f30.lt b hf; omega
  · rcases n30 b hf with k | k
    · exact h.ap b hb k
    · have := (h.b.ap b hb).2; omega
def zRP : RP := (⟨0, []⟩, (none, 0))
theorem zero104 : zeroL Tryz.prog 104 = some (recV zRP) := by kernel_rfl
/-- records behind a slice that is read -/
def Rcs (w : World) (A : Nat → Prop) (o : Option Addr) (rs : List Rc) : Prop := ∃ ps : List RP, ps.map (·.1) = rs ∧ Recs w A o 2 (ps.map recV) ∧ ∀ p ∈ ps, Byts w A p.2.1 p.1.body
theorem fillP {α : Type} (l : List α) (z x : α) (n i : Nat) (hi : i < n) (hl : l.length = i) : (l ++ List.replicate (n - i) z).set i x = (l ++ [x]) ++ List.replicate (n - (i + 1)) z := by
  rw [List.set_append_right _ _ (by omega), hl, Nat.sub_self, show n - i = (n - (i + 1)) + 1 from by omega, List.replicate_succ, List.set_cons_zero, List.append_assoc]
  rfl
theorem row_recs {α : Type} {f : α → List Value} {k : Nat} (hk : ∀ m, (f m).length = k) (h0 : 0 < k) {w : World} {b T : Nat} {xs : List α} (h : Row w b T (xs.flatMap f)) : Recs w (fun i => i = b) (some ⟨b, 0, none⟩) k (xs.map f) := fun i row hi => by
  rw [List.getElem?_map] at hi
  cases hx : xs[i]? with
  | none => rw [hx] at hi; cases hi
  | some x =>
    rw [hx] at hi
    cases hi
    refine ⟨_, rfl, rfl, fun j v hj => ?_⟩
    rw [toNat_cast]
    have hj1 : j < k := by
      rcases Nat.lt_or_ge j k with h | h
      · exact h
      · rw [List.getElem?_eq_none (by rw [hk]; exact h)] at hj; cases hj
    refine h.cellAdd2 ?_
    rw [flat_get hk _ _ _ hj1, hx]; exact hj
set_option maxHeartbeats 1000000 in
theorem jRecords_c (h : JB w J D j t rs) (hl : rs.length ≤ 1000000) (hbl : ∀ r ∈ rs, r.body.length ≤ 8192) :
    Calls Tryz.prog 27 #[.pointer (some ⟨j, 0, none⟩)] w fun e w' => ∃ o c, e = .returned (.slice o rs.length c) ∧ Rcs w' (fun b => hs w ≤ b ∧ b < hs w') o rs ∧ Grow w w' := by
  obtain ⟨o1, c1, o2, c2, ps, h1, h2, h3, h4, h5, h6⟩ := h.ex
  have hpl : ps.length = rs.length := by rw [← h4, List.length_map]
  refine nf27 j w _ ⟨_, _, _, h2.cell rfl, ?_⟩
  refine run_make_row elem79 zero104 (by omega) (by omega) (by omega) (by omega) fun w5 e5 => ?_
  rw [toNat_cast] at *
  have g5 : Grow w w5 := only_alloc e5
  have z5 := hs_alloc e5
  have r5 : Row w5 (hs w) 104 ((List.replicate rs.length zRP).flatMap recV) := by
    have := Row.new e5
    have e : (List.replicate rs.length zRP).flatMap recV = (List.replicate rs.length (recV zRP)).flatten := by
      rw [List.flatMap_def, List.map_replicate]
    rw [e]; exact this
  refine ⟨_, _, _, rfl, _, _, _, (h2.grow g5).cell rfl, fun k x w' => ∃ (i : Nat) (qs : List RP), x = (i : Int) ∧ i ≤ rs.length ∧ k = rs.length - i ∧ qs.map (·.1) = rs.take i ∧ Row w' (hs w) 104 ((qs ++ List.replicate (rs.length - i) zRP).flatMap recV) ∧ (∀ p ∈ qs, Byts w' (fun b => hs w < b ∧ b < hs w') p.2.1 p.1.body) ∧ Only (fun b => b = hs w) w5 w', ⟨_, 0, [], rfl, by omega, rfl, rfl, by simpa using r5, fun p hp => (by cases hp), Only.refl _ _⟩, ?_⟩
  rintro k _ w16 x ⟨i, qs, rfl, hi, rfl, hq, r16, b16, o16⟩
  have G16 : Grow w w16 := g5.trans o16 fun b hb e => by omega
  have z16 := o16.size
  have hql : qs.length = i := by have := congrArg List.length hq; rw [List.length_map, List.length_take] at this; omega
  refine ⟨fun hlt => ?_, fun hge => ?_⟩
  · have hlt : i < rs.length := by have := dT hlt; omega
    have hx := List.getElem?_eq_getElem (show i < ps.length by omega)
    have hrx : (ps[i]'(by omega)).1 = rs[i] := by subst h4; simp
    have hmem := List.getElem_mem (show i < ps.length by omega)
    generalize ps[i]'(by omega) = p at *
    obtain ⟨a, ha, -, hc, hc0⟩ := Recs.atE (own_recs' recV_len (by decide) (h3.grow G16)) hx
    refine ⟨a, ha, ⟨by omega, by omega⟩, _, hc0 _ rfl, _, _, _, hc 1 _ rfl, fun w25 e25 => ⟨(Row.new (l := [_, _]) e25).there (by simp), fun w27 e27 => ?_⟩⟩
    obtain ⟨r27, g27⟩ := loc (l := [_, _]) (vs := [_, _]) e25 e27 rfl
    have hpb := ((h5 p hmem).grow G16).grow g27
    have hp8 : p.1.body.length ≤ 8192 := by rw [hrx]; exact hbl _ (List.getElem_mem hlt)
    have z27 := g27.size
    refine ⟨_, r27.cell rfl, _, _, _, r27.cell rfl, (clone_c p.1.kind p.2.1 p.2.2 p.1.body (by omega) w27 hpb (fun b hb => by have := (h.ap b hb).2; have := G16.size; omega)).mono ?_⟩
    rintro _ w34 ⟨o36, c38, rfl, b34, g34⟩
    have z34 := g34.size
    have r34 := (r16.grow g27).grow g34
    have hlen : ((qs ++ List.replicate (rs.length - i) zRP).flatMap recV).length = rs.length * 2 := by rw [flat_length recV_len, List.length_append, List.length_replicate, hql]; congr 1; omega
    refine ⟨_, _, _, _, rfl, _, rfl, ⟨by omega, by omega⟩, r34.thereAdd (by rw [hlen, toNat_cast]; omega), fun w40 e40 => ?_⟩
    have o40 : Only (fun b => b = hs w) w34 w40 := only_setAdd e40
    have z40 := o40.size
    have r40 := r34.setAdd e40
    rw [toNat_cast] at r40
    have hset := flat_set recV_len (qs ++ List.replicate (rs.length - i) zRP) i 0 (recV (p.1, (o36, c38))) (p.1, (o36, c38)) (by rw [List.length_append, List.length_replicate, hql]; omega) (by simp [recV]) rfl
    rw [Nat.add_zero] at hset
    have hset' : setFrom ((qs ++ List.replicate (rs.length - i) zRP).flatMap recV) (i * 2) [.int .u8 (p.1.kind.toNat : Int), .slice o36 p.1.body.length c38] = ((qs ++ List.replicate (rs.length - i) zRP).set i (p.1, (o36, c38))).flatMap recV := hset
    rw [hset', fillP qs zRP (p.1, (o36, c38)) rs.length i hlt hql] at r40
    refine ⟨_, by omega, i + 1, qs ++ [(p.1, (o36, c38))], by rw [wr (by omega)]; omega, hlt, rfl, ?_, r40, fun p' hp' => ?_, ((o16.trans' g27.only).trans' g34.only).trans' o40⟩
    · rw [List.map_append, hq, List.take_succ_eq_append_getElem hlt, ← hrx]; rfl
    · rcases List.mem_append.1 hp' with hp' | hp'
      · exact ((((b16 p' hp').grow g27).grow g34).keep o40 fun b hb e => by omega).mono fun b hb => ⟨hb.1, by omega⟩
      · rw [List.mem_singleton.1 hp']
        exact (b34.keep o40 fun b hb e => by omega).mono fun b hb => ⟨by omega, by omega⟩
  · have : i = rs.length := by have := dF hge; omega
    subst this
    rw [Nat.sub_self, List.replicate_zero, List.append_nil] at r16
    rw [List.take_length] at hq
    have := r16.lt
    refine ⟨_, _, rfl, ⟨qs, hq, (row_recs recV_len (by decide) r16).mono fun b hb => by rw [hb]; omega, fun p hp => (b16 p hp).mono fun b hb => ⟨by omega, hb.2⟩⟩, G16⟩
end
end
section
open Go Go.Nf Go.RowKit

theorem encFrom_split : ∀ (i : Nat) (rs : List Rc) (s : Int), encFrom s rs = encFrom s (rs.take i) ++ encFrom (sumEnd s (rs.take i)) (rs.drop i)
  | 0, rs, s => by simp [encFrom, sumEnd]
  | i + 1, [], s => by simp [encFrom]
  | i + 1, r :: rs, s => by
    rw [List.take_succ_cons, List.drop_succ_cons, encFrom, encFrom, encFrom_split i rs, List.append_assoc]; rfl
set_option maxHeartbeats 2000000 in
theorem jOpen_c {w : World} {F : Nat → Prop} {t dur : Nat} {rs : List Rc} (h : FileAt w F t (encFrom sum0 rs) dur false) (hl : rs.length ≤ 1000000) (hd : (encFrom sum0 rs).length ≤ 16777216) (hdur : dur ≤ (encFrom sum0 rs).length) (hbl : ∀ r ∈ rs, r.body.length ≤ 8192) :
    Calls Tryz.prog 23 #[.pointer (some ⟨t, 0, none⟩)] w fun e w' => ∃ j J D, e = .returned (.tuple #[.pointer (some ⟨j, 0, none⟩), .int .i64 0]) ∧ JAt w' J F D j t rs (encFrom sum0 rs).length ∧ Only F w w' ∧ (∀ b, J b → hs w ≤ b) ∧ ∀ b, D b → hs w ≤ b := by
  refine nf23 t w _ (bF ((fBytes_c h hd).mono ?_))
  rintro _ w4 ⟨o5, c5, rfl, hb, hc5, g4⟩
  have z4 := g4.size
  refine ⟨_, _, _, _, rfl, nno rfl fun w11 e11 => ?_⟩
  have r11 := Row.new (l := [.pointer (some ⟨t, 0, none⟩), .slice none 0 0, .slice none 0 0]) e11
  have g11 : Grow w4 w11 := only_alloc e11
  have z11 := hs_alloc e11
  refine (sum_nil w11).mono ?_
  rintro _ w14 ⟨rfl, e14⟩
  have e14 := e14.symm
  subst e14
  refine ⟨_, rfl, _, _, _, r11.cell rfl, fun w19 e19 => ?_⟩
  have r19 := Row.new (l := u1 sum0) e19
  have g19 : Grow w11 w19 := only_alloc e19
  have z19 := hs_alloc e19
  refine run_append_at (B := 0) elem100 (own_nil w19 0 60 1) (news := u1 sum0) rfl (fun i u hu => r19.cellAdd hu) (by simp [u1, Value.oneCell']) (by simp only [maxLen]; omega) (by omega) (Nat.zero_le _) fun o23 c25 w22 p1 p2 p3 => ?_
  have G22 : Grow w19 w22 := p2.mono fun b _ ⟨a, ha, _⟩ => by cases ha
  have z22 := G22.size
  have r22 := (r11.grow g19).grow G22
  refine ⟨_, _, _, rfl, r22.there (by simp), fun w26 e26 => ?_⟩
  have o26 : Only (fun b => b = hs w4) w22 w26 := only_set e26
  have z26 := o26.size
  have r26 : Row w26 (hs w4) 102 [.pointer (some ⟨t, 0, none⟩), .slice none 0 0, .slice o23 1 c25] := r22.set e26
  have p26 : Own w26 0 60 1 o23 1 c25 (u1 sum0) := p1.keep o26 fun b hb e => p1.apartR r22 (by decide) (e ▸ hb)
  have new23 : ∀ b, inBlock o23 b → hs w4 < b ∧ b < hs w26 := fun b hb => by
    refine ⟨?_, by have := (p26.base b hb).2; omega⟩
    rcases p3 b hb with ⟨a, ha, _⟩ | k
    · cases ha
    · omega
  have jb0 : JB w26 (fun b => b = hs w4 ∨ inBlock (none : Option Addr) b ∨ inBlock o23 b) (fun _ => False) (hs w4) t [] :=
    ⟨⟨none, 0, o23, c25, [], fun b => Iff.rfl, r26, own_nil _ _ _ _, rfl, fun p hp => (by cases hp), p26⟩, fun b hb => hb.elim⟩
  have O26 : Only (fun b => hs w4 ≤ b) w4 w26 := by
    refine ((((Grow.only g11).trans' (Grow.only g19)).trans' (Grow.only G22)).trans' (o26.mono fun b _ hb => ?_))
    rw [hb]; exact Nat.le_refl _
  refine ⟨fun k s x w' => ∃ i : Nat, i ≤ rs.length ∧ k = rs.length - i ∧ s = sumEnd sum0 (rs.take i) ∧ x = (((encFrom sum0 (rs.take i)).length : Nat) : Int) ∧ ∃ J D, JB w' J D (hs w4) t (rs.take i) ∧ (∀ b, J b → hs w4 ≤ b) ∧ (∀ b, D b → hs w4 ≤ b) ∧ Only (fun b => hs w4 ≤ b) w4 w', ⟨_, 0, by omega, rfl, rfl, rfl, _, _, jb0, fun b hb => ?_, fun b hb => hb.elim, O26⟩, ?_⟩
  · rcases hb with hb | ⟨a, ha, _⟩ | hb
    · omega
    · cases ha
    · have := new23 b hb; omega
  rintro k _ w32 s x ⟨i, hi, rfl, rfl, rfl, J, D, hJ, nJ, nD, o32⟩
  have z32 := o32.size
  have hsp := encFrom_split i rs sum0
  generalize hL : (encFrom sum0 (rs.take i)).length = L at *
  have hlen : (encFrom sum0 rs).length = L + (encFrom (sumEnd sum0 (rs.take i)) (rs.drop i)).length := by rw [hsp, List.length_append, hL]
  have hb32 : Byts w32 (fun b => hs w ≤ b ∧ b < hs w4) o5 (encFrom sum0 rs) := hb.keep o32 fun b hb' hn => by have : hs w4 ≤ b := hn; omega
  have hoff := slice_off (len := 0) hb32 (n := L) (c := c5) (by omega) hc5
  have hdrop : (encFrom sum0 rs).drop L = encFrom (sumEnd sum0 (rs.take i)) (rs.drop i) := by
    rw [← hL]
    conv => lhs; rw [hsp]
    exact List.drop_left
  rw [hdrop] at hoff
  refine ⟨⟨by omega, by omega⟩, ?_⟩
  rw [toNat_cast, show (encFrom sum0 rs).length - L = (encFrom (sumEnd sum0 (rs.take i)) (rs.drop i)).length from by omega]
  by_cases hlt : i < rs.length
  · have hd' : rs.drop i = rs[i] :: rs.drop (i + 1) := List.drop_eq_getElem_cons hlt
    rw [hd', encFrom] at hoff hlen ⊢
    have hb8 := hbl _ (List.getElem_mem hlt)
    have htk : rs.take (i + 1) = rs.take i ++ [rs[i]] := List.take_succ_eq_append_getElem hlt
    generalize rs[i] = r at *
    refine (readRecord_c (o := if c5 = L then o5 else o5.map fun x => x.add (L * 1)) (c := c5 - L) (rest := encFrom (chk (sumEnd sum0 (rs.take i)) r) (rs.drop (i + 1))) hb8 hoff rfl (by omega) (by omega) (fun b hb' => by omega)).mono ?_
    rintro _ w37 ⟨ob, cb, rfl, hbody, g37⟩
    have z37 := g37.size
    refine ⟨_, _, _, _, _, _, _, rfl, bT fun w46 e46 => ⟨(Row.new (l := [_, _]) e46).there (by simp), fun w48 e48 w50 e50 => ?_⟩⟩
    obtain ⟨r48, g48⟩ := loc (l := [_, _]) (vs := [.int .u8 (r.kind.toNat : Int), .slice ob r.body.length cb]) e46 e48 rfl
    have g50 : Grow w48 w50 := only_drew e50
    have z48 := g48.size
    have z50 := hs_drew e50
    have hJ50 := ((hJ.grow g37).grow g48).grow g50
    have hl' : (rs.take i).length ≤ 1000000 := by rw [List.length_take]; omega
    refine (jpush (A := fun b => hs w ≤ b ∧ b < hs w4) (c := cb) r hJ50 hl' (r48.grow g50) ((hbody.grow g48).grow g50) (by omega) (fun b hb' => by omega) rfl fun w84 J' hJ' oJ nJ' => ?_ : pushP (hs w4) (hs w37) (chk (sumEnd sum0 (rs.take i)) r) w50 _)
    refine ⟨rs.length - (i + 1), by omega, i + 1, hlt, rfl, ?_, ?_, J', _, by rw [htk]; exact hJ', fun b hb' => ?_, fun b hb' => ?_, ?_⟩
    · rw [htk]; unfold sumEnd; rw [List.foldl_append]; rfl
    · rw [htk, encFrom_app, List.length_append, hL, wr (by rw [List.length_append] at hlen; omega)]; omega
    · rcases nJ' b hb' with k | k
      · exact nJ b k
      · omega
    · rcases hb' with hb' | hb'
      · exact nD b hb'
      · omega
    · exact (((o32.trans' (Grow.only g37)).trans' (Grow.only g48)).trans' (Grow.only g50)).trans' (oJ.mono fun b _ hb' => nJ b hb')
  · have hil : i = rs.length := by omega
    subst hil
    rw [List.drop_length, encFrom] at hoff hlen ⊢
    rw [List.take_length] at *
    refine (readRecord_none _ _ _ w32).mono ?_
    rintro _ w37 ⟨rfl, g37⟩
    have z37 := g37.size
    refine ⟨_, _, _, _, _, _, _, rfl, bF fun w88 e88 => ⟨(Row.new (l := [_, _]) e88).there (by simp), fun w90 e90 => ?_⟩⟩
    obtain ⟨r90, g90⟩ := loc (l := [_, _]) (vs := [.int .u8 0, .slice none 0 0]) e88 e90 rfl
    have hJ90 := (hJ.grow g37).grow g90
    have O90 : Only (fun b => hs w4 ≤ b) w4 w90 := (o32.trans' (Grow.only g37)).trans' (Grow.only g90)
    have f90 : FileAt w90 F t (encFrom sum0 rs) dur false := (h.grow g4).keep O90 fun b hb' hn => by have := h.lt b hb'; have : hs w4 ≤ b := hn; omega
    have heL : L = (encFrom sum0 rs).length := hL.symm
    subst heL
    refine (fTruncate_c f90 hd hdur).mono ?_
    rintro _ w93 ⟨rfl, f93, o93⟩
    refine ⟨_, rfl, nno rfl ((fSync_c f93).mono ?_)⟩
    rintro _ w98 ⟨rfl, f98, o98⟩
    have oF := o93.trans' o98
    have JF : ∀ b, J b → ¬ F b := fun b hb' hf => by have := nJ b hb'; have := h.lt b hf; omega
    have DF : ∀ b, D b → ¬ F b := fun b hb' hf => by have := nD b hb'; have := h.lt b hf; omega
    refine ⟨_, rfl, nno rfl ⟨_, J, D, rfl, ⟨hJ90.keep oF JF DF, f98, DF⟩, ?_, fun b hb' => by have := nJ b hb'; omega, fun b hb' => by have := nD b hb'; omega⟩⟩
    refine ((Grow.only (S := F) g4).trans (S' := fun b => hs w4 ≤ b ∨ F b) ((O90.mono fun b _ hb' => .inl hb').trans' (oF.mono fun b _ hb' => .inr hb')) fun b hb' k => ?_)
    rcases k with k | k
    · omega
    · exact k
end
end Go.Proofs.YtcaokpglbolkcaaGreat
