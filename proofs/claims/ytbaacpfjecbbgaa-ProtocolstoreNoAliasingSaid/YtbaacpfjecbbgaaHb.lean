/- Contracts: validity of protocols, in the program and in the reference. -/
import Derived.Test.YtbaacpfjecbbgaaHa
namespace Go.Proofs.Ytbaacpfjecbbgaa
open Go Go.Nf

/-! ### protocols -/
structure Ans where
  text : ByteArray
  next : Int
  urg : Int
  code : ByteArray
structure Qst where
  text : ByteArray
  ans : List Ans
structure Prot where
  name : ByteArray
  version : Int
  qs : List Qst
def encA (a : Ans) : List Value := [.string a.text, .int .i64 a.next, .int .i64 a.urg, .string a.code]
def FitA (a : Ans) : Prop := a.text.size ≤ 9223372036854775807 ∧ a.code.size ≤ 9223372036854775807
def FitQ (q : Qst) : Prop := q.text.size ≤ 9223372036854775807 ∧ q.ans.length ≤ 9223372036854775807 ∧ ∀ a, a ∈ q.ans → FitA a
structure FitP (p : Prot) : Prop where
  name : p.name.size ≤ 9223372036854775807
  qs : p.qs.length ≤ 9223372036854775807
  each : ∀ q, q ∈ p.qs → FitQ q
/-- the questions behind a slice -/
def Qs (w : World) (A : Nat → Prop) (o : Option Addr) (qs : List Qst) : Prop :=
  ∀ (i : Nat) q, qs[i]? = some q → ∃ a oi ci, o = some a ∧ A a.block ∧ w.cell? (a.add ((i : Int).toNat * 2)) = some (.string q.text) ∧ w.cell? ((a.add ((i : Int).toNat * 2)).add 1) = some (.slice oi q.ans.length ci) ∧ Recs w A oi 4 (q.ans.map encA)
theorem block_add1 (a : Addr) (i : Nat) : (a.add i).block = a.block := ChangeShapes.block_add a i
theorem Qs.keep {w w' : World} {A S : Nat → Prop} {o : Option Addr} {qs : List Qst} (h : Qs w A o qs) (g : Only S w w') (hS : ∀ b, A b → ¬ S b) : Qs w' A o qs := fun i q hi => by
  obtain ⟨a, oi, ci, ha, hA, h1, h2, h3⟩ := h i q hi
  exact ⟨a, oi, ci, ha, hA, cell_keep g (by rw [block_add1]; exact hS _ hA) h1, cell_keep g (by rw [block_add2]; exact hS _ hA) h2, h3.keep g hS⟩
theorem Qs.grow {w w' : World} {A : Nat → Prop} {o : Option Addr} {qs : List Qst} (h : Qs w A o qs) (g : Grow w w') : Qs w' A o qs := h.keep g fun _ _ h => h
theorem Qs.mono {w : World} {A A' : Nat → Prop} {o : Option Addr} {qs : List Qst} (h : Qs w A o qs) (hA : ∀ b, A b → A' b) : Qs w A' o qs := fun i q hi => by
  obtain ⟨a, oi, ci, ha, h0, h1, h2, h3⟩ := h i q hi
  exact ⟨a, oi, ci, ha, hA _ h0, h1, h2, h3.mono hA⟩
theorem Qs.get {w : World} {A : Nat → Prop} {o : Option Addr} {qs : List Qst} (h : Qs w A o qs) {i : Nat} (hi : i < qs.length) :
    ∃ a oi ci, o = some a ∧ w.cell? (a.add ((i : Int).toNat * 2)) = some (.string qs[i].text) ∧ w.cell? ((a.add ((i : Int).toNat * 2)).add 1) = some (.slice oi qs[i].ans.length ci) ∧ Recs w A oi 4 (qs[i].ans.map encA) := by
  obtain ⟨a, oi, ci, ha, -, h1, h2, h3⟩ := h i _ (List.getElem?_eq_getElem hi)
  exact ⟨a, oi, ci, ha, h1, h2, h3⟩
/-- an answer behind a slice -/
theorem Recs.ans {w : World} {A : Nat → Prop} {o : Option Addr} {as' : List Ans} (h : Recs w A o 4 (as'.map encA)) {i : Nat} (hi : i < as'.length) :
    ∃ a, o = some a ∧ w.cell? (a.add ((i : Int).toNat * 4)) = some (.string as'[i].text) ∧ w.cell? ((a.add ((i : Int).toNat * 4)).add 1) = some (.int .i64 as'[i].next) ∧ w.cell? ((a.add ((i : Int).toNat * 4)).add 2) = some (.int .i64 as'[i].urg) ∧ w.cell? ((a.add ((i : Int).toNat * 4)).add 3) = some (.string as'[i].code) := by
  obtain ⟨a, ha, -, hc⟩ := h i (encA as'[i]) (by rw [List.getElem?_map, List.getElem?_eq_getElem hi]; rfl)
  refine ⟨a, ha, ?_, hc 1 _ rfl, hc 2 _ rfl, hc 3 _ rfl⟩
  have := hc 0 _ rfl
  rwa [add_zero] at this
/-- a local copy -/
theorem loc {w w1 w2 : World} {T : Nat} {l vs : List Value} (e1 : w1 = w.alloc (.cells l.toArray T (0, 0))) (e2 : w2 = setCells w1 ⟨hs w, 0, none⟩ vs 0) (hl : setFrom l 0 vs = vs) : Row w2 (hs w) T vs ∧ Grow w w2 := by
  have := (Row.new e1).set e2
  rw [hl] at this
  exact ⟨this, (only_alloc e1).trans (only_set e2) fun b hb e => by omega⟩

/-! ### validity -/
def ansB (n : Int) (a : Ans) : Bool := phraseB a.text 100 && (if a.next = -1 then urgB a.urg && codeB a.code else decide (0 ≤ a.next) && decide (a.next < n) && decide (a.urg = 0) && decide (a.code.size = 0))
def qstB (n : Int) (q : Qst) : Bool := phraseB q.text 200 && decide (1 ≤ q.ans.length) && decide (q.ans.length ≤ 16) && q.ans.all (ansB n)
def validB (p : Prot) : Bool := p.qs.all (qstB p.qs.length) && nameB p.name && decide (1 ≤ p.version) && decide (p.version ≤ 1048576) && decide (1 ≤ p.qs.length) && decide (p.qs.length ≤ 64)

theorem validAnswer_c (a : Ans) (n : Int) (w : World) : Calls Try.prog 127 #[.agg #[.string a.text, .int .i64 a.next, .int .i64 a.urg, .string a.code], .int .i64 n] w fun e w' => e = .returned (.bool (ansB n a)) ∧ Grow w w' := by
  refine nf127 a.text a.next a.urg a.code n w _ fun w1 e1 => ?_
  have r := Row.new e1
  have g : Grow w w1 := only_alloc e1
  refine ⟨_, r.cell rfl, (isPhrase_c a.text 100 (by omega) w1).mono ?_⟩
  rintro _ _ ⟨rfl, rfl⟩
  refine ⟨_, rfl, fun hp => ⟨_, r.cell rfl, fun h1 => ⟨_, r.cell rfl, (isUrgency_c a.urg w1).mono ?_⟩, fun h1 => ⟨_, r.cell rfl, fun h2 => ⟨_, r.cell rfl, fun h3 => ⟨_, r.cell rfl, fun h4 => ⟨_, r.cell rfl, fun h5 => ⟨ret_bool ?_, g⟩, fun h5 => ⟨ret_bool ?_, g⟩⟩, fun h4 => ⟨ret_bool ?_, g⟩⟩, fun h3 => ⟨ret_bool ?_, g⟩⟩, fun h2 => ⟨ret_bool ?_, g⟩⟩⟩, fun hp => ⟨ret_bool ?_, g⟩⟩
  · rintro _ _ ⟨rfl, rfl⟩
    refine ⟨_, rfl, fun h2 => ⟨_, r.cell rfl, (isCode_c a.code w1).mono ?_⟩, fun h2 => ⟨ret_bool ?_, g⟩⟩
    · rintro _ _ ⟨rfl, rfl⟩
      refine ⟨_, rfl, fun h3 => ⟨ret_bool ?_, g⟩, fun h3 => ⟨ret_bool ?_, g⟩⟩
      · unfold ansB; rw [hp, if_pos (dT h1), h2, h3]; rfl
      · unfold ansB; rw [hp, if_pos (dT h1), h2, h3]; rfl
    · unfold ansB; rw [hp, if_pos (dT h1), h2]; rfl
  · unfold ansB; rw [hp, if_neg (dF h1), h3, h4, show decide (0 ≤ a.next) = true from h2, decide_eq_true (empty_iff.1 h5)]; rfl
  · have := empty_false h5
    unfold ansB; rw [if_neg (dF h1), decide_eq_false (by omega : ¬ a.code.size = 0)]; simp
  · unfold ansB; rw [if_neg (dF h1), h4]; simp
  · unfold ansB; rw [if_neg (dF h1), h3]; simp
  · unfold ansB; rw [if_neg (dF h1), show decide (0 ≤ a.next) = false from h2]; simp
  · unfold ansB; rw [hp]; rfl
theorem answer_c (a : Ans) (n : Int) (hf : a.code.size ≤ 9223372036854775807) (w : World) : Calls Try.prog 118 #[.agg #[.string a.text, .int .i64 a.next, .int .i64 a.urg, .string a.code], .int .i64 n] w fun e w' => e = .returned (.bool (ansB n a)) ∧ Grow w w' := by
  refine nf118 a.text a.next a.urg a.code n w _ fun w1 e1 => ?_
  have r := Row.new e1
  have g : Grow w w1 := only_alloc e1
  refine ⟨_, r.cell rfl, (phrase_c a.text 100 (by omega) w1).mono ?_⟩
  rintro _ _ ⟨rfl, rfl⟩
  refine ⟨_, rfl, fun hp => ⟨_, r.cell rfl, fun h1 => ⟨_, r.cell rfl, fun h2 => ⟨_, r.cell rfl, fun h3 => ⟨_, r.cell rfl, (code_c a.code hf w1).mono ?_⟩, fun h3 => ⟨ret_bool ?_, g⟩⟩, fun h2 => ⟨ret_bool ?_, g⟩⟩, fun h1 => ⟨_, r.cell rfl, fun h2 => ⟨_, r.cell rfl, fun h3 => ⟨_, r.cell rfl, fun h4 => ⟨_, r.cell rfl, fun h5 => ⟨ret_bool ?_, g⟩, fun h5 => ⟨ret_bool ?_, g⟩⟩, fun h4 => ⟨ret_bool ?_, g⟩⟩, fun h3 => ⟨ret_bool ?_, g⟩⟩, fun h2 => ⟨ret_bool ?_, g⟩⟩⟩, fun hp => ⟨ret_bool ?_, g⟩⟩
  · rintro _ _ ⟨rfl, rfl⟩
    have hu : urgB a.urg = true := by unfold urgB; rw [show decide (1 ≤ a.urg) = true from h2, h3]; rfl
    refine ⟨_, rfl, fun h4 => ⟨ret_bool ?_, g⟩, fun h4 => ⟨ret_bool ?_, g⟩⟩
    · unfold ansB; rw [hp, if_pos (dT h1), hu, h4]; rfl
    · unfold ansB; rw [hp, if_pos (dT h1), hu, h4]; rfl
  · unfold ansB urgB; rw [if_pos (dT h1), h3]; simp
  · unfold ansB urgB; rw [if_pos (dT h1), show decide (1 ≤ a.urg) = false from h2]; simp
  · unfold ansB; rw [hp, if_neg (dF h1), h3, h4, show decide (0 ≤ a.next) = true from h2, decide_eq_true (empty_iff.1 h5)]; rfl
  · have := empty_false h5
    unfold ansB; rw [if_neg (dF h1), decide_eq_false (by omega : ¬ a.code.size = 0)]; simp
  · unfold ansB; rw [if_neg (dF h1), h4]; simp
  · unfold ansB; rw [if_neg (dF h1), h3]; simp
  · unfold ansB; rw [if_neg (dF h1), show decide (0 ≤ a.next) = false from h2]; simp
  · unfold ansB; rw [hp]; rfl
theorem all_take {α : Type} {p : α → Bool} {l : List α} {j : Nat} (h : j < l.length) (h1 : (l.take j).all p = true) (h2 : p l[j] = true) : (l.take (j + 1)).all p = true := by
  rw [List.take_succ_eq_append_getElem h, List.all_append, h1, List.all_cons, h2]; rfl
theorem all_no {α : Type} {p : α → Bool} {l : List α} {j : Nat} (h : j < l.length) (h2 : p l[j] = false) : l.all p = false := by
  rw [List.all_eq_false]; exact ⟨_, List.getElem_mem h, by rw [h2]; exact Bool.false_ne_true⟩
theorem validQuestion_c (o : Option Addr) (c : Nat) (q : Qst) (n : Int) (w : World) {A : Nat → Prop} (h : Recs w A o 4 (q.ans.map encA)) :
    Calls Try.prog 111 #[.agg #[.string q.text, .slice o q.ans.length c], .int .i64 n] w fun e w' => e = .returned (.bool (qstB n q)) ∧ Grow w w' := by
  refine nf111 q.text o q.ans.length c n w _ fun w1 e1 => ?_
  have r := Row.new e1
  have g : Grow w w1 := only_alloc e1
  refine ⟨_, r.cell rfl, (isPhrase_c q.text 200 (by omega) w1).mono ?_⟩
  rintro _ _ ⟨rfl, rfl⟩
  refine ⟨_, rfl, fun hp => ⟨_, _, _, r.cell rfl, fun h1 => ⟨ret_bool ?_, g⟩, fun h1 => ⟨_, _, _, r.cell rfl, fun h2 => ⟨ret_bool ?_, g⟩, fun h2 => ⟨_, _, _, r.cell rfl, fun k x w' => ∃ j : Nat, x = (j : Int) ∧ j ≤ q.ans.length ∧ k = q.ans.length - j ∧ (q.ans.take j).all (ansB n) = true ∧ Grow w w', ⟨_, 0, rfl, Nat.zero_le _, rfl, rfl, g⟩, ?_⟩⟩⟩, fun hp => ⟨ret_bool ?_, g⟩⟩
  · have := dT h1; unfold qstB; rw [decide_eq_false (by omega : ¬ 1 ≤ q.ans.length)]; simp
  · have := dT h2; unfold qstB; rw [decide_eq_false (by omega : ¬ q.ans.length ≤ 16)]; simp
  · have h1 := dF h1
    have h2 := dF h2
    rintro k _ w2 x ⟨j, rfl, hj, rfl, hI, g2⟩
    refine ⟨fun hlt => ?_, fun hge => ⟨ret_bool ?_, g2⟩⟩
    · have hlt : j < q.ans.length := by have := dT hlt; omega
      obtain ⟨a, ha, c0, c1, c2, c3⟩ := Recs.ans (h.grow g2) hlt
      refine ⟨a, ha, ⟨by omega, by omega⟩, _, c0, _, c1, _, c2, _, c3, fun w3 e3 => ⟨(Row.new e3).there (by simp), fun w4 e4 => ?_⟩⟩
      obtain ⟨r4, g4⟩ := loc e3 e4 rfl
      refine ⟨_, r4.cell rfl, _, r4.cell rfl, _, r4.cell rfl, _, r4.cell rfl, (validAnswer_c q.ans[j] n w4).mono ?_⟩
      rintro _ w5 ⟨rfl, g5⟩
      have G := (g2.trans' g4).trans' g5
      refine ⟨_, rfl, fun hb => ⟨_, by omega, j + 1, by rw [wr (by omega)]; omega, hlt, rfl, all_take hlt hI hb, G⟩, fun hb => ⟨ret_bool ?_, G⟩⟩
      unfold qstB; rw [all_no hlt hb]; simp
    · have := dF hge
      obtain rfl : j = q.ans.length := by omega
      rw [List.take_length] at hI
      unfold qstB; rw [hp, hI, decide_eq_true (by omega : 1 ≤ q.ans.length), decide_eq_true (by omega : q.ans.length ≤ 16)]; rfl
  · unfold qstB; rw [hp]; rfl
theorem question_c (o : Option Addr) (c : Nat) (q : Qst) (n : Int) (hf : FitQ q) (w : World) {A : Nat → Prop} (h : Recs w A o 4 (q.ans.map encA)) :
    Calls Try.prog 90 #[.agg #[.string q.text, .slice o q.ans.length c], .int .i64 n] w fun e w' => e = .returned (.bool (qstB n q)) ∧ Grow w w' := by
  have hfl := hf.2.1
  refine nf90 q.text o q.ans.length c n w _ fun w1 e1 => ?_
  have r := Row.new e1
  have g : Grow w w1 := only_alloc e1
  refine ⟨_, _, _, r.cell rfl, fun k x w' => ∃ j : Nat, x = (j : Int) ∧ j ≤ q.ans.length ∧ k = q.ans.length - j ∧ (q.ans.take j).all (ansB n) = true ∧ Grow w1 w', ⟨_, 0, rfl, Nat.zero_le _, rfl, rfl, Only.refl _ _⟩, ?_⟩
  rintro k _ w2 x ⟨j, rfl, hj, rfl, hI, g2⟩
  refine ⟨fun hlt => ?_, fun hge => ?_⟩
  · have hlt : j < q.ans.length := by have := dT hlt; omega
    obtain ⟨a, ha, c0, c1, c2, c3⟩ := Recs.ans ((h.grow g).grow g2) hlt
    refine ⟨a, ha, ⟨by omega, by omega⟩, _, c0, _, c1, _, c2, _, c3, fun w3 e3 => ⟨(Row.new e3).there (by simp), fun w4 e4 => ?_⟩⟩
    obtain ⟨r4, g4⟩ := loc e3 e4 rfl
    refine ⟨_, r4.cell rfl, _, r4.cell rfl, _, r4.cell rfl, _, r4.cell rfl, (answer_c q.ans[j] n (hf.2.2 _ (List.getElem_mem hlt)).2 w4).mono ?_⟩
    rintro _ w5 ⟨rfl, g5⟩
    have G := (g2.trans' g4).trans' g5
    refine ⟨_, rfl, fun hb => ⟨_, by omega, j + 1, by rw [wr (by omega)]; omega, hlt, rfl, all_take hlt hI hb, G⟩, fun hb => ⟨ret_bool ?_, g.trans' G⟩⟩
    unfold qstB; rw [all_no hlt hb]; simp
  · have := dF hge
    obtain rfl : j = q.ans.length := by omega
    rw [List.take_length] at hI
    have r2 := r.grow g2
    have G := g.trans' g2
    refine ⟨_, r2.cell rfl, (phrase_c q.text 200 (by omega) w2).mono ?_⟩
    rintro _ _ ⟨rfl, rfl⟩
    refine ⟨_, rfl, fun hp => ⟨_, _, _, r2.cell rfl, fun h1 => ⟨_, _, _, r2.cell rfl, fun h2 => ⟨ret_bool ?_, G⟩, fun h2 => ⟨ret_bool ?_, G⟩⟩, fun h1 => ⟨ret_bool ?_, G⟩⟩, fun hp => ⟨ret_bool ?_, G⟩⟩
    · have := dT h1; have := dT h2
      unfold qstB; rw [hp, hI, decide_eq_true (by omega : 1 ≤ q.ans.length), decide_eq_true (by omega : q.ans.length ≤ 16)]; rfl
    · have := dF h2
      unfold qstB; rw [decide_eq_false (by omega : ¬ q.ans.length ≤ 16)]; simp
    · have := dF h1
      unfold qstB; rw [decide_eq_false (by omega : ¬ 1 ≤ q.ans.length)]; simp
    · unfold qstB; rw [hp]; rfl
end Go.Proofs.Ytbaacpfjecbbgaa
