/- taken: the first ways, up to a limit. -/
import Derived.Test.YtbaacpfjecbbgaaKd
namespace Go.Proofs.Ytbaacpfjecbbgaa
open Go Go.Nf

/-! ### The code, in its parts -/
def regs : Code → List Code
  | .region i ops b => [.region i ops b]
  | .seq a b | .cond _ a b | .rangeFunc _ _ a b => regs a ++ regs b
  | .block _ a | .loop a => regs a
  | _ => []
def opsOf : Code → Array Oper
  | .region _ ops _ => ops
  | _ => #[]
def opsAt (b : Option Code) (i : Nat) : Array Oper := opsOf ((regs (b.getD .skip)).getD i .skip)
def regAt (b : Option Code) (i : Nat) : Code := .region i (opsAt b i) false
def shape60 (b : Option Code) : Code := .seq (regAt b 0) (.seq (regAt b 1) (.seq (regAt b 2) (.seq (.seq (regAt b 3) (.cond (.tmp 15) (.seq (regAt b 4) .ret) .skip))
    (.seq (.seq (regAt b 5) (.block 0 (.rangeFunc (.tmp 16) #[17] (regAt b 6) (.block 1 (.seq (regAt b 7) (.seq (regAt b 8) (.cond (.tmp 25) (.exit 0) .skip))))))) (.seq (regAt b 9) .ret)))))
theorem body60 : Try.f60.body = some (shape60 Try.f60.body) := by kernel_rfl
theorem d60' : (List.range 10).all (fun i => dstsIn (opsAt Try.f60.body i).toList 27) = true := by kernel_rfl
theorem d60 (i : Nat) (h : i < 10) : dstsIn (opsAt Try.f60.body i).toList 27 = true := List.all_eq_true.1 d60' i (List.mem_range.2 h)
section
variable {w : World} {g : Env} {K : Env → World → Prop}
set_option maxRecDepth 100000 in
theorem q0 {nm : ByteArray} {ver m : Int} {o : Option Addr} {n c : Nat} (h : ∀ w1, w1 = w.alloc (.cells #[.string nm, .int .i64 ver, .slice o n c] 24 (0, 0)) → ∀ w2, w2 = w1.alloc (.cells #[.int .i64 m] 3 (0, 0)) → ∀ ρ : Env, ρ 2 = .pointer (some ⟨hs w, 0, none⟩) → ρ 3 = .pointer (some ⟨hs w1, 0, none⟩) → K ρ w2) :
    vcOps Try.prog (opsAt Try.f60.body 0) [] (opsAt Try.f60.body 0).toList 0 (argEnv #[.agg #[.string nm, .int .i64 ver, .slice o n c], .int .i64 m]) w K := by
  have e : (∀ w1, w1 = w.alloc (.cells #[.string nm, .int .i64 ver, .slice o n c] 24 (0, 0)) → ∀ w2, w2 = w1.alloc (.cells #[.int .i64 m] 3 (0, 0)) → K ((((argEnv #[.agg #[.string nm, .int .i64 ver, .slice o n c], .int .i64 m]).put (some 2) (.pointer (some ⟨hs w, 0, none⟩))).put (some 3) (.pointer (some ⟨hs w1, 0, none⟩))).put (some 4) (.slice none 0 0)) w2) =
      vcOps Try.prog (opsAt Try.f60.body 0) [] (opsAt Try.f60.body 0).toList 0 (argEnv #[.agg #[.string nm, .int .i64 ver, .slice o n c], .int .i64 m]) w K := by kernel_rfl
  refine Eq.mp e fun w1 e1 w2 e2 => h w1 e1 w2 e2 _ ?_ ?_
  · kernel_rfl
  · kernel_rfl
set_option maxRecDepth 100000 in
theorem q1 (h : ∀ w1, w1 = w.alloc (.cells #[.slice none 0 0] 91 (0, 0)) → ∀ ρ : Env, ρ 2 = g 2 → ρ 3 = g 3 → ρ 5 = .pointer (some ⟨hs w, 0, none⟩) → K ρ w1) :
    vcOps Try.prog (opsAt Try.f60.body 1) [] (opsAt Try.f60.body 1).toList 0 g w K := by
  have e : (∀ w1, w1 = w.alloc (.cells #[.slice none 0 0] 91 (0, 0)) → K (g.put (some 5) (.pointer (some ⟨hs w, 0, none⟩))) w1) = vcOps Try.prog (opsAt Try.f60.body 1) [] (opsAt Try.f60.body 1).toList 0 g w K := by kernel_rfl
  exact Eq.mp e fun w1 e1 => h w1 e1 _ rfl rfl rfl
set_option maxRecDepth 100000 in
theorem q2 {b : Nat} (h2 : g 2 = .pointer (some ⟨b, 0, none⟩)) (h : ∃ s, w.cell? ⟨b, 0, none⟩ = some (.string s) ∧ ∃ x, w.cell? ⟨b, 1, none⟩ = some (.int .i64 x) ∧ ∃ o n c, w.cell? ⟨b, 2, none⟩ = some (.slice o n c) ∧
      Calls Try.prog 99 #[.agg #[.string s, .int .i64 x, .slice o n c]] w fun e w' => ∃ f a cc, e = .returned (.func f a cc) ∧ ∀ ρ : Env, ρ 3 = g 3 → ρ 5 = g 5 → ρ 6 = .func f a cc → K ρ w') :
    vcOps Try.prog (opsAt Try.f60.body 2) [] (opsAt Try.f60.body 2).toList 0 g w K := by
  have e : (∃ s, w.cell? ⟨b, 0, none⟩ = some (.string s) ∧ ∃ x, w.cell? ⟨b, 1, none⟩ = some (.int .i64 x) ∧ ∃ o n c, w.cell? ⟨b, 2, none⟩ = some (.slice o n c) ∧
      Calls Try.prog 99 #[.agg #[.string s, .int .i64 x, .slice o n c]] w fun e w' => ∃ f a cc, e = .returned (.func f a cc) ∧ K ((((g.upd 2 (.pointer (some ⟨b, 0, none⟩))).put (some 8) (.agg #[.string s, .int .i64 x, .slice o n c])).put (some 9) (.func f a cc)).put (some 6) (.func f a cc)) w') =
      vcOps Try.prog (opsAt Try.f60.body 2) [] (opsAt Try.f60.body 2).toList 0 (g.upd 2 (.pointer (some ⟨b, 0, none⟩))) w K := by kernel_rfl
  have e2 : g.upd 2 (.pointer (some ⟨b, 0, none⟩)) = g := upd_self h2
  rw [e2] at e
  refine Eq.mp e ?_
  obtain ⟨s, hs, x, hx, o, n, c, hc, h⟩ := h
  refine ⟨s, hs, x, hx, o, n, c, hc, h.mono ?_⟩
  rintro en w' ⟨f, a, cc, rfl, h⟩
  exact ⟨f, a, cc, rfl, h _ rfl rfl rfl⟩
set_option maxRecDepth 100000 in
theorem q3 {b3 : Nat} {f : Fn} {a cc : Array Value} (h3 : g 3 = .pointer (some ⟨b3, 0, none⟩)) (h6 : g 6 = .func f a cc) (h : ∃ m, w.cell? ⟨b3, 0, none⟩ = some (.int .i64 m) ∧ ∀ ρ : Env, ρ 3 = g 3 → ρ 5 = g 5 → ρ 6 = g 6 → ρ 15 = .bool (decide (m < 1)) → K ρ w) :
    vcOps Try.prog (opsAt Try.f60.body 3) [] (opsAt Try.f60.body 3).toList 0 g w K := by
  have e : (∃ m, w.cell? ⟨b3, 0, none⟩ = some (.int .i64 m) ∧ K (((((((g.upd 3 (.pointer (some ⟨b3, 0, none⟩))).upd 6 (.func f a cc)).put (some 10) (.func f a cc)).put (some 11) (.bool false)).put (some 12) (.bool false)).put (some 13) (.int .i64 m)).put (some 14) (.bool (decide (m < 1))) |>.put (some 15) (.bool (decide (m < 1)))) w) =
      vcOps Try.prog (opsAt Try.f60.body 3) [] (opsAt Try.f60.body 3).toList 0 ((g.upd 3 (.pointer (some ⟨b3, 0, none⟩))).upd 6 (.func f a cc)) w K := by kernel_rfl
  have e2 : (g.upd 3 (.pointer (some ⟨b3, 0, none⟩))).upd 6 (.func f a cc) = g := by rw [upd_self h3, upd_self h6]
  rw [e2] at e
  obtain ⟨m, hm, h⟩ := h
  exact Eq.mp e ⟨m, hm, h _ rfl rfl rfl rfl⟩
set_option maxRecDepth 100000 in
theorem q4 (h : ∀ ρ : Env, ρ 4 = .slice none 0 0 → K ρ w) : vcOps Try.prog (opsAt Try.f60.body 4) [] (opsAt Try.f60.body 4).toList 0 g w K := by
  have e : K (g.put (some 4) (.slice none 0 0)) w = vcOps Try.prog (opsAt Try.f60.body 4) [] (opsAt Try.f60.body 4).toList 0 g w K := by kernel_rfl
  exact Eq.mp e (h _ rfl)
set_option maxRecDepth 100000 in
theorem q5 (h : ∀ ρ : Env, ρ 3 = g 3 → ρ 5 = g 5 → ρ 16 = g 6 → K ρ w) : vcOps Try.prog (opsAt Try.f60.body 5) [] (opsAt Try.f60.body 5).toList 0 g w K := by
  have e : K (g.put (some 16) (g 6)) w = vcOps Try.prog (opsAt Try.f60.body 5) [] (opsAt Try.f60.body 5).toList 0 g w K := by kernel_rfl
  exact Eq.mp e (h _ rfl rfl rfl)
set_option maxRecDepth 100000 in
theorem q6 (h : ∀ ρ : Env, ρ 3 = g 3 → ρ 5 = g 5 → ρ 7 = g 17 → K ρ w) : vcOps Try.prog (opsAt Try.f60.body 6) [] (opsAt Try.f60.body 6).toList 0 g w K := by
  have e : K (g.put (some 7) (g 17)) w = vcOps Try.prog (opsAt Try.f60.body 6) [] (opsAt Try.f60.body 6).toList 0 g w K := by kernel_rfl
  exact Eq.mp e (h _ rfl rfl rfl)
set_option maxRecDepth 100000 in
theorem q7 {b : Nat} {ov : Option Addr} {nv cv : Nat} (h5 : g 5 = .pointer (some ⟨b, 0, none⟩)) (h7 : g 7 = .slice ov nv cv) (h : ∃ o n c, w.cell? ⟨b, 0, none⟩ = some (.slice o n c) ∧ ∀ w1, w1 = w.alloc (.cells #[.slice ov nv cv] 48 (0, 0)) →
      RunOk Try.prog (Hold (Builtin.append_ #[91, 91] 91 #[.slice o n c, .slice (some ⟨hs w, 0, none⟩) 1 1])) w1 fun v w2 => ∃ o2 n2 c2, v = .slice o2 n2 c2 ∧ There w2 ⟨b, 0, none⟩ 1 ∧ ∀ w3, w3 = setCells w2 ⟨b, 0, none⟩ [.slice o2 n2 c2] 0 → ∀ ρ : Env, ρ 3 = g 3 → ρ 5 = g 5 → K ρ w3) :
    vcOps Try.prog (opsAt Try.f60.body 7) [(3, 1, false)] (opsAt Try.f60.body 7).toList 0 g w K := by
  have e : (∃ o n c, w.cell? ⟨b, 0, none⟩ = some (.slice o n c) ∧ ∀ w1, w1 = w.alloc (.cells #[.slice ov nv cv] 48 (0, 0)) →
      RunOk Try.prog (Hold (Builtin.append_ #[91, 91] 91 #[.slice o n c, .slice (some ⟨hs w, 0, none⟩) 1 1])) w1 fun v w2 => ∃ o2 n2 c2, v = .slice o2 n2 c2 ∧ There w2 ⟨b, 0, none⟩ 1 ∧ ∀ w3, w3 = setCells w2 ⟨b, 0, none⟩ [.slice o2 n2 c2] 0 →
        K (((((g.upd 5 (.pointer (some ⟨b, 0, none⟩))).upd 7 (.slice ov nv cv)).put (some 18) (.slice o n c)).put (some 19) (.slice ov nv cv)).put (some 20) (.slice (some ⟨hs w, 0, none⟩) 1 1) |>.put (some 21) (.slice o2 n2 c2)) w3) =
      vcOps Try.prog (opsAt Try.f60.body 7) [(3, 1, false)] (opsAt Try.f60.body 7).toList 0 ((g.upd 5 (.pointer (some ⟨b, 0, none⟩))).upd 7 (.slice ov nv cv)) w K := by kernel_rfl
  have e2 : (g.upd 5 (.pointer (some ⟨b, 0, none⟩))).upd 7 (.slice ov nv cv) = g := by rw [upd_self h5, upd_self h7]
  rw [e2] at e
  obtain ⟨o, n, c, hc, h⟩ := h
  refine Eq.mp e ⟨o, n, c, hc, fun w1 e1 => (h w1 e1).mono ?_⟩
  rintro v w2 ⟨o2, n2, c2, rfl, ht, h⟩
  exact ⟨o2, n2, c2, rfl, ht, fun w3 e3 => h w3 e3 _ rfl rfl⟩
set_option maxRecDepth 100000 in
theorem q8 {b b3 : Nat} (h3 : g 3 = .pointer (some ⟨b3, 0, none⟩)) (h5 : g 5 = .pointer (some ⟨b, 0, none⟩)) (h : ∃ o n c, w.cell? ⟨b, 0, none⟩ = some (.slice o n c) ∧ ∃ m, w.cell? ⟨b3, 0, none⟩ = some (.int .i64 m) ∧ ∀ ρ : Env, ρ 25 = .bool (decide ((n : Int) ≥ m)) → K ρ w) :
    vcOps Try.prog (opsAt Try.f60.body 8) [] (opsAt Try.f60.body 8).toList 0 g w K := by
  have e : (∃ o n c, w.cell? ⟨b, 0, none⟩ = some (.slice o n c) ∧ ∃ m, w.cell? ⟨b3, 0, none⟩ = some (.int .i64 m) ∧
        K (((((g.upd 3 (.pointer (some ⟨b3, 0, none⟩))).upd 5 (.pointer (some ⟨b, 0, none⟩))).put (some 22) (.slice o n c)).put (some 23) (.int .i64 n)).put (some 24) (.int .i64 m) |>.put (some 25) (.bool (decide ((n : Int) ≥ m)))) w) =
      vcOps Try.prog (opsAt Try.f60.body 8) [] (opsAt Try.f60.body 8).toList 0 ((g.upd 3 (.pointer (some ⟨b3, 0, none⟩))).upd 5 (.pointer (some ⟨b, 0, none⟩))) w K := by kernel_rfl
  have e2 : (g.upd 3 (.pointer (some ⟨b3, 0, none⟩))).upd 5 (.pointer (some ⟨b, 0, none⟩)) = g := by rw [upd_self h3, upd_self h5]
  rw [e2] at e
  obtain ⟨o, n, c, hc, m, hm, h⟩ := h
  exact Eq.mp e ⟨o, n, c, hc, m, hm, h _ rfl⟩
set_option maxRecDepth 100000 in
theorem q9 {b : Nat} (h5 : g 5 = .pointer (some ⟨b, 0, none⟩)) (h : ∃ o n c, w.cell? ⟨b, 0, none⟩ = some (.slice o n c) ∧ ∀ ρ : Env, ρ 4 = .slice o n c → K ρ w) :
    vcOps Try.prog (opsAt Try.f60.body 9) [] (opsAt Try.f60.body 9).toList 0 g w K := by
  have e : (∃ o n c, w.cell? ⟨b, 0, none⟩ = some (.slice o n c) ∧ K (((g.upd 5 (.pointer (some ⟨b, 0, none⟩))).put (some 26) (.slice o n c)).put (some 4) (.slice o n c)) w) =
      vcOps Try.prog (opsAt Try.f60.body 9) [] (opsAt Try.f60.body 9).toList 0 (g.upd 5 (.pointer (some ⟨b, 0, none⟩))) w K := by kernel_rfl
  rw [upd_self h5] at e
  obtain ⟨o, n, c, hc, h⟩ := h
  exact Eq.mp e ⟨o, n, c, hc, h _ rfl⟩
end
end Go.Proofs.Ytbaacpfjecbbgaa
