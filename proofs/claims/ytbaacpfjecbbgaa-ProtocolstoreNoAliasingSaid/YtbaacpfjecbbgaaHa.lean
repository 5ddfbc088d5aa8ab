/- Contracts: the texts of protocols, in the program and in the reference; validity. -/
import Derived.Test.YtbaacpfjecbbgaaNf1
import Derived.Test.YtbaacpfjecbbgaaNfG
namespace Go.Proofs.Ytbaacpfjecbbgaa
open Go Go.Nf

/-! ### texts -/
def rangeB (lo hi : Nat) (c : UInt8) : Bool := decide (lo ≤ c.toNat) && decide (c.toNat ≤ hi)
def okN (c : UInt8) : Bool := rangeB 97 122 c || rangeB 48 57 c || decide (c.toNat = 45)
def blank (s : ByteArray) (i : Nat) : Bool := match byteAt s i with
  | some c => decide (c.toNat = 32)
  | none => false
def allB (p : UInt8 → Bool) (s : ByteArray) : Bool := (sb s).all p
def phraseB (s : ByteArray) (most : Int) : Bool := decide (1 ≤ s.size) && decide ((s.size : Int) ≤ most) && allB (rangeB 32 126) s && !blank s 0 && !blank s (s.size - 1)
def codeB (s : ByteArray) : Bool := decide (1 ≤ s.size) && decide (s.size ≤ 40) && allB (rangeB 33 126) s
def nameB (s : ByteArray) : Bool := decide (1 ≤ s.size) && decide (s.size ≤ 40) && allB okN s
def urgB (n : Int) : Bool := decide (1 ≤ n) && decide (n ≤ 5)

theorem strEq_iff {s t : ByteArray} : strEq s t = true ↔ s = t := by
  unfold strEq
  rw [beq_toListBytes, ByteArray.toList_eq, ByteArray.toList_eq, beq_iff_eq]
  exact ⟨fun h => sb_inj h, fun h => by rw [h]⟩
theorem empty_iff {s : ByteArray} : strEq s (ByteArray.mk #[]) = true ↔ s.size = 0 := by
  rw [strEq_iff]
  refine ⟨fun h => by rw [h]; rfl, fun h => sb_inj ?_⟩
  have : (sb s).length = 0 := h
  exact List.eq_nil_of_length_eq_zero this
theorem empty_false {s : ByteArray} (h : strEq s (ByteArray.mk #[]) = false) : 1 ≤ s.size := by
  refine Nat.pos_of_ne_zero fun e => ?_
  rw [empty_iff.2 e] at h; cases h
theorem all_of {p : UInt8 → Bool} {s : ByteArray} (h : ∀ j, j < s.size → ∀ c, byteAt s j = some c → p c = true) : allB p s = true := by
  unfold allB
  rw [List.all_eq_true]
  intro c hc
  obtain ⟨j, hj, e⟩ := List.mem_iff_getElem.1 hc
  exact h j hj c (by rw [byteAt_sb, List.getElem?_eq_getElem hj, e])
theorem not_all {p : UInt8 → Bool} {s : ByteArray} {j : Nat} {c : UInt8} (h : byteAt s j = some c) (hp : p c = false) : allB p s = false := by
  unfold allB
  rw [List.all_eq_false]
  rw [byteAt_sb] at h
  exact ⟨c, List.mem_of_getElem? h, by rw [hp]; exact Bool.false_ne_true⟩
/-- a scan over a text, byte by byte -/
def Scan (p : UInt8 → Bool) (s : ByteArray) (w : World) (n : Nat) (x : Int) (w' : World) : Prop := ∃ i : Nat, x = (i : Int) ∧ i ≤ s.size ∧ n = s.size - i ∧ (∀ j, j < i → ∀ c, byteAt s j = some c → p c = true) ∧ w = w'
theorem Scan.start (p : UInt8 → Bool) (s : ByteArray) (w : World) : ∃ n, Scan p s w n 0 w := ⟨_, 0, rfl, Nat.zero_le _, rfl, fun j hj => by omega, rfl⟩
theorem Scan.next {p : UInt8 → Bool} {s : ByteArray} {w : World} {i : Nat} {c : UInt8} (hs : s.size ≤ 9223372036854775807) (hi : i < s.size) (h : ∀ j, j < i → ∀ c, byteAt s j = some c → p c = true) (hc : byteAt s i = some c) (hp : p c = true) :
    ∃ n, n < s.size - i ∧ Scan p s w n (IntKind.wrap .i64 ((i : Int) + 1)) w := by
  refine ⟨_, by omega, i + 1, by rw [wr (by omega)]; omega, hi, rfl, fun j hj d hd => ?_, rfl⟩
  by_cases e : j = i
  · subst e; rw [hc] at hd; cases hd; exact hp
  · exact h j (by omega) d hd
theorem blank_iff {s : ByteArray} {i : Nat} {c : UInt8} (h : byteAt s i = some c) : blank s i = decide (c.toNat = 32) := by unfold blank; rw [h]

theorem consists_c (s : ByteArray) (length lo hi : Int) (l h : Nat) (hlo : lo = (l : Int)) (hhi : hi = (h : Int)) (hlen : length ≤ 1000) (w : World) :
    Calls Try.prog 131 #[.string s, .int .i64 length, .int .u8 lo, .int .u8 hi] w fun e w' => e = .returned (.bool (decide (1 ≤ s.size) && decide ((s.size : Int) ≤ length) && allB (rangeB l h) s)) ∧ w = w' := by
  subst hlo; subst hhi
  refine nf131 s length l h w _ ⟨fun h1 => ⟨ret_bool ?_, rfl⟩, fun h1 => ⟨fun h2 => ⟨ret_bool ?_, rfl⟩, fun h2 => ⟨Scan (rangeB l h) s w, Scan.start _ _ _, ?_⟩⟩⟩
  · have := empty_iff.1 h1; simp [this]
  · have := dT h2
    rw [decide_eq_false (by omega : ¬ (s.size : Int) ≤ length)]; simp
  rintro n _ _ x ⟨i, rfl, hi, rfl, hI, rfl⟩
  have h1 := empty_false h1
  have h2 := dF h2
  refine ⟨fun hlt => ?_, fun hge => ⟨ret_bool ?_, rfl⟩⟩
  · have hlt : i < s.size := by have := dT hlt; omega
    have hb := byteAt_get hlt
    refine ⟨_, ⟨by omega, hb⟩, fun h3 => ⟨ret_bool ?_, rfl⟩, fun h3 => ⟨_, ⟨by omega, hb⟩, fun h4 => ⟨ret_bool ?_, rfl⟩, fun h4 => Scan.next (by omega) hlt hI hb ?_⟩⟩
    · rw [not_all hb]; · simp
      have := dT h3; unfold rangeB; rw [decide_eq_false (by omega)]; rfl
    · rw [not_all hb]; · simp
      have := dT h4; unfold rangeB; rw [decide_eq_false (by omega : ¬ _ ≤ h)]; simp
    · have := dF h3; have := dF h4; unfold rangeB; rw [decide_eq_true (by omega), decide_eq_true (by omega)]; rfl
  · have := dF hge
    rw [all_of fun j hj => hI j (by omega), decide_eq_true h1, decide_eq_true (by omega)]; rfl
theorem isPhrase_c (s : ByteArray) (most : Int) (hm : most ≤ 1000) (w : World) : Calls Try.prog 126 #[.string s, .int .i64 most] w fun e w' => e = .returned (.bool (phraseB s most)) ∧ w = w' := by
  refine nf126 s most w _ ((consists_c s most 32 126 32 126 rfl rfl hm w).mono ?_)
  rintro _ _ ⟨rfl, rfl⟩
  refine ⟨_, rfl, fun hb => ?_, fun hb => ⟨ret_bool ?_, rfl⟩⟩
  · have hp : phraseB s most = (!blank s 0 && !blank s (s.size - 1)) := by unfold phraseB; rw [hb]; simp
    simp only [Bool.and_eq_true, decide_eq_true_eq] at hb
    have h0 := byteAt_get (s := s) (i := 0) (by omega)
    have h1 := byteAt_get (s := s) (i := s.size - 1) (by omega)
    have e1 : IntKind.wrap .i64 ((s.size : Int) - 1) = ((s.size - 1 : Nat) : Int) := by rw [wr (by omega)]; omega
    rw [e1]
    have b0 := blank_iff h0
    have b1 := blank_iff h1
    refine ⟨_, ⟨by omega, h0⟩, fun h2 => ⟨_, ⟨by omega, h1⟩, fun h3 => ⟨ret_bool ?_, rfl⟩, fun h3 => ⟨ret_bool ?_, rfl⟩⟩, fun h2 => ⟨ret_bool ?_, rfl⟩⟩
    · have := nT h2; have := nT h3
      rw [hp, b0, b1, decide_eq_false (by omega), decide_eq_false (by omega)]; rfl
    · have := nT h2; have := nF h3
      rw [hp, b0, b1, decide_eq_false (by omega), decide_eq_true (by omega)]; rfl
    · have := nF h2
      rw [hp, b0, decide_eq_true (by omega)]; rfl
  · unfold phraseB; rw [hb]; rfl
theorem isCode_c (s : ByteArray) (w : World) : Calls Try.prog 133 #[.string s] w fun e w' => e = .returned (.bool (codeB s)) ∧ w = w' := by
  refine nf133 s w _ ((consists_c s 40 33 126 33 126 rfl rfl (by omega) w).mono ?_)
  rintro _ _ ⟨rfl, rfl⟩
  have e : codeB s = (decide (1 ≤ s.size) && decide ((s.size : Int) ≤ 40) && allB (rangeB 33 126) s) := by
    unfold codeB; congr 2; rw [decide_eq_decide]; omega
  refine ⟨_, rfl, fun hb => ⟨ret_bool ?_, rfl⟩, fun hb => ⟨ret_bool ?_, rfl⟩⟩
  · rw [e, hb]
  · rw [e, hb]
theorem isName_c (s : ByteArray) (w : World) : Calls Try.prog 112 #[.string s] w fun e w' => e = .returned (.bool (nameB s)) ∧ w = w' := by
  refine nf112 s w _ ⟨fun h1 => ⟨ret_bool ?_, rfl⟩, fun h1 => ⟨fun h2 => ⟨ret_bool ?_, rfl⟩, fun h2 => ⟨Scan okN s w, Scan.start _ _ _, ?_⟩⟩⟩
  · have := empty_iff.1 h1; unfold nameB; simp [this]
  · have := dT h2; unfold nameB; rw [decide_eq_false (by omega : ¬ s.size ≤ 40)]; simp
  rintro n _ _ x ⟨i, rfl, hi, rfl, hI, rfl⟩
  have h1 := empty_false h1
  have h2 := dF h2
  refine ⟨fun hlt => ?_, fun hge => ⟨ret_bool ?_, rfl⟩⟩
  · have hlt : i < s.size := by have := dT hlt; omega
    have hb := byteAt_get hlt
    have good : okN ((sb s)[i]'hlt) = true → _ := fun hp => Scan.next (w := w) (by omega) hlt hI hb hp
    have bad : okN ((sb s)[i]'hlt) = false → Ending.returned (.bool false) = .returned (.bool (nameB s)) ∧ w = w := fun hp => ⟨ret_bool (by unfold nameB; rw [not_all hb hp]; simp), rfl⟩
    generalize (sb s)[i]'hlt = c at *
    refine ⟨c, ⟨by omega, hb⟩, ?_⟩
    repeat' (apply And.intro <;> intro h)
    all_goals
      simp only [decide_eq_true_eq, decide_eq_false_iff_not, Bool.not_eq_true', Bool.not_eq_false'] at *
      first
        | refine good ?_
          unfold okN rangeB
          simp only [Bool.or_eq_true, Bool.and_eq_true, decide_eq_true_eq]
          omega
        | refine bad ?_
          unfold okN rangeB
          simp only [Bool.or_eq_false_iff, Bool.and_eq_false_iff, decide_eq_false_iff_not]
          omega
  · have := dF hge
    unfold nameB
    rw [all_of fun j hj => hI j (by omega), decide_eq_true h1, decide_eq_true (by omega)]; rfl
theorem isVersion_c (n : Int) (w : World) : Calls Try.prog 113 #[.int .i64 n] w fun e w' => e = .returned (.bool (decide (1 ≤ n) && decide (n ≤ 1048576))) ∧ w = w' := by
  refine nf113 n w _ ⟨fun h1 => ⟨fun h2 => ⟨ret_bool ?_, rfl⟩, fun h2 => ⟨ret_bool ?_, rfl⟩⟩, fun h1 => ⟨ret_bool ?_, rfl⟩⟩
  · rw [show decide (1 ≤ n) = true from h1, h2]; rfl
  · rw [show decide (1 ≤ n) = true from h1, h2]; rfl
  · rw [show decide (1 ≤ n) = false from h1]; rfl
theorem isUrgency_c (n : Int) (w : World) : Calls Try.prog 132 #[.int .i64 n] w fun e w' => e = .returned (.bool (urgB n)) ∧ w = w' := by
  refine nf132 n w _ ⟨fun h1 => ⟨fun h2 => ⟨ret_bool ?_, rfl⟩, fun h2 => ⟨ret_bool ?_, rfl⟩⟩, fun h1 => ⟨ret_bool ?_, rfl⟩⟩
  · unfold urgB; rw [show decide (1 ≤ n) = true from h1, h2]; rfl
  · unfold urgB; rw [show decide (1 ≤ n) = true from h1, h2]; rfl
  · unfold urgB; rw [show decide (1 ≤ n) = false from h1]; rfl

/-! ### the reference's -/
theorem phrase_c (s : ByteArray) (most : Int) (hm : most ≤ 1000) (w : World) : Calls Try.prog 119 #[.string s, .int .i64 most] w fun e w' => e = .returned (.bool (phraseB s most)) ∧ w = w' := by
  refine nf119 s most w _ ⟨fun h1 => ⟨ret_bool ?_, rfl⟩, fun h1 => ⟨fun h2 => ⟨ret_bool ?_, rfl⟩, fun h2 => ?_⟩⟩
  · have := dT h1; unfold phraseB; rw [decide_eq_false (by omega : ¬ 1 ≤ s.size)]; rfl
  · have := dT h2; unfold phraseB; rw [decide_eq_false (by omega : ¬ (s.size : Int) ≤ most)]; simp
  have h1 := dF h1
  have h2 := dF h2
  have q0 := byteAt_get (s := s) (i := 0) (by omega)
  have q1 := byteAt_get (s := s) (i := s.size - 1) (by omega)
  have e1 : IntKind.wrap .i64 ((s.size : Int) - 1) = ((s.size - 1 : Nat) : Int) := by rw [wr (by omega)]; omega
  rw [e1]
  have b0 := blank_iff q0
  have b1 := blank_iff q1
  refine ⟨_, ⟨by omega, q0⟩, fun h3 => ⟨ret_bool ?_, rfl⟩, fun h3 => ⟨_, ⟨by omega, q1⟩, fun h4 => ⟨ret_bool ?_, rfl⟩, fun h4 => ⟨Scan (rangeB 32 126) s w, Scan.start _ _ _, ?_⟩⟩⟩
  · have := dT h3; unfold phraseB; rw [b0, decide_eq_true (by omega : _ = 32)]; simp
  · have := dT h4; unfold phraseB; rw [b1, decide_eq_true (by omega : _ = 32)]; simp
  have h3 := dF h3
  have h4 := dF h4
  have hp : phraseB s most = allB (rangeB 32 126) s := by
    unfold phraseB
    rw [b0, b1, decide_eq_true (by omega : 1 ≤ s.size), decide_eq_true (by omega : (s.size : Int) ≤ most), decide_eq_false (by omega), decide_eq_false (by omega)]; simp
  rintro n _ _ x ⟨i, rfl, hi, rfl, hI, rfl⟩
  refine ⟨fun hlt => ?_, fun hge => ⟨ret_bool ?_, rfl⟩⟩
  · have hlt : i < s.size := by have := dT hlt; omega
    have hb := byteAt_get hlt
    refine ⟨_, ⟨by omega, hb⟩, fun h5 => ⟨ret_bool ?_, rfl⟩, fun h5 => ⟨_, ⟨by omega, hb⟩, fun h6 => ⟨ret_bool ?_, rfl⟩, fun h6 => Scan.next (by omega) hlt hI hb ?_⟩⟩
    · rw [hp, not_all hb]
      have := dT h5; unfold rangeB; rw [decide_eq_false (by omega)]; rfl
    · rw [hp, not_all hb]
      have := dT h6; unfold rangeB; rw [decide_eq_false (by omega : ¬ _ ≤ 126)]; simp
    · have := dF h5; have := dF h6; unfold rangeB; rw [decide_eq_true (by omega), decide_eq_true (by omega)]; rfl
  · have := dF hge
    rw [hp, all_of fun j hj => hI j (by omega)]
theorem code_c (s : ByteArray) (hs : s.size ≤ 9223372036854775807) (w : World) : Calls Try.prog 128 #[.string s] w fun e w' => e = .returned (.bool (codeB s)) ∧ w = w' := by
  refine nf128 s w _ ⟨Scan (rangeB 33 126) s w, Scan.start _ _ _, ?_⟩
  rintro n _ _ x ⟨i, rfl, hi, rfl, hI, rfl⟩
  refine ⟨fun hlt => ?_, fun hge => ?_⟩
  · have hlt : i < s.size := by have := dT hlt; omega
    have hb := byteAt_get hlt
    refine ⟨_, ⟨by omega, hb⟩, fun h5 => ⟨ret_bool ?_, rfl⟩, fun h5 => ⟨_, ⟨by omega, hb⟩, fun h6 => ⟨ret_bool ?_, rfl⟩, fun h6 => Scan.next hs hlt hI hb ?_⟩⟩
    · unfold codeB; rw [not_all hb]; · simp
      have := dT h5; unfold rangeB; rw [decide_eq_false (by omega)]; rfl
    · unfold codeB; rw [not_all hb]; · simp
      have := dT h6; unfold rangeB; rw [decide_eq_false (by omega : ¬ _ ≤ 126)]; simp
    · have := dF h5; have := dF h6; unfold rangeB; rw [decide_eq_true (by omega), decide_eq_true (by omega)]; rfl
  · have := dF hge
    have hall : allB (rangeB 33 126) s = true := all_of fun j hj => hI j (by omega)
    refine ⟨fun h1 => ⟨fun h2 => ⟨ret_bool ?_, rfl⟩, fun h2 => ⟨ret_bool ?_, rfl⟩⟩, fun h1 => ⟨ret_bool ?_, rfl⟩⟩
    · have := dT h1; have := dT h2; unfold codeB; rw [hall, decide_eq_true (by omega), decide_eq_true (by omega)]; rfl
    · have := dF h2; unfold codeB; rw [decide_eq_false (by omega : ¬ s.size ≤ 40)]; simp
    · have := dF h1; unfold codeB; rw [decide_eq_false (by omega : ¬ 1 ≤ s.size)]; simp
end Go.Proofs.Ytbaacpfjecbbgaa
