/- The engine, part A: one operation, and a list of operations, as a proposition on plain values ('vcOp', 'vcOps'), and that it gives the walk's own wp. -/
import Derived.Orders
import Derived.OrdersIn
import Derived.TacticsIn
import Derived.RangeFuncSeq
import Derived.Laws.Sem
import Derived.Laws.World
import Derived.Laws.Entries
import Derived.KernelRfl
namespace Go.Nf
open Go

abbrev Env := Nat → Value
def Env.upd (ρ : Env) (d : Nat) (v : Value) : Env := fun i => bif Nat.beq i d then v else ρ i
def Env.put (ρ : Env) (d : Option Nat) (v : Value) : Env :=
  match d with
  | some d => ρ.upd d v
  | none => ρ
def ev (ρ : Env) : Operand → Value
  | .tmp t => ρ t
  | .const v => v
  | .global g => .pointer (some ⟨g, 0, none⟩)
  | .func f => .func (.func f) #[] #[]
def envOf (a : Act) : Env := fun i => a.tmps.getD i undef
def dstIn (d : Option Nat) (n : Nat) : Bool :=
  match d with
  | some d => Nat.blt d n
  | none => true

theorem eval_envOf (a : Act) : a.eval = ev (envOf a) := by
  funext x
  cases x <;> rfl

theorem envOf_put {a : Act} {d : Option Nat} {v : Value} (h : dstIn d a.tmps.size = true) : envOf (a.put d v) = (envOf a).put d v := by
  funext i
  cases d with
  | none => rfl
  | some d =>
    have hd : d < a.tmps.size := by simpa [dstIn, Nat.blt_eq] using h
    simp only [envOf, Act.put, Env.put, Env.upd]
    by_cases hi : i = d
    · subst hi
      simp [Array.getD_eq_getD_getElem?, hd]
    · have : Nat.beq i d = false := by
        cases hb : Nat.beq i d
        · rfl
        · exact absurd (Nat.eq_of_beq_eq_true hb) hi
      simp [this, Array.getD_eq_getD_getElem?, Array.getElem?_setIfInBounds_ne (Ne.symm hi)]

theorem size_put (a : Act) (d : Option Nat) (v : Value) : (a.put d v).tmps.size = a.tmps.size := by
  cases d <;> simp [Act.put]

/-- what a guard asks, of the environment -/
def yE (ops : Array Oper) (ρ : Env) (j : Nat) : Option Bool :=
  match ((ops[j]?).bind (·.dst)).map ρ with
  | some (.bool b) => some b
  | _ => none

theorem yielded_envOf (ops : Array Oper) (a : Act) : yielded ops a.tmps = yE ops (envOf a) := by
  funext j
  unfold yielded yE
  cases h : (ops[j]?).bind (·.dst) with
  | none => rfl
  | some d =>
    simp only [Option.bind_some, Option.map_some, envOf]
    rcases Nat.lt_or_ge d a.tmps.size with hd | hd
    · simp [Array.getD_eq_getD_getElem?, hd]
      rfl
    · simp [Array.getElem?_eq_none hd, Array.getD_eq_getD_getElem?, undef]

/-! ### Typed quantifiers -/
inductive Ty where
  | int (k : IntKind)
  | bool
  | str
  | ptr
  | slice
  | map
  | val
  | fn
def tyOf : TypeDesc → Ty
  | .int k => .int k
  | .bool => .bool
  | .string => .str
  | .pointer _ => .ptr
  | .slice _ => .slice
  | .map _ _ => .map
  | .func .. => .fn
  | _ => .val
def exT : Ty → (Value → Prop) → Prop
  | .int k, K => ∃ n : Int, K (.int k n)
  | .bool, K => ∃ b : Bool, K (.bool b)
  | .str, K => ∃ s : ByteArray, K (.string s)
  | .ptr, K => ∃ a : Option Addr, K (.pointer a)
  | .slice, K => ∃ (a : Option Addr) (n c : Nat), K (.slice a n c)
  | .map, K => ∃ r : Option Nat, K (.map r)
  | .val, K => ∃ v : Value, K v
  | .fn, K => ∃ (f : Fn) (a c : Array Value), K (.func f a c)
theorem exT_out {t : Ty} {K : Value → Prop} (h : exT t K) : ∃ v, K v := by
  cases t <;> simp only [exT] at h
  all_goals first
    | (obtain ⟨a, n, c, h⟩ := h; exact ⟨_, h⟩)
    | (obtain ⟨a, h⟩ := h; exact ⟨_, h⟩)
theorem exT_mono {t : Ty} {K K' : Value → Prop} (hk : ∀ v, K v → K' v) (h : exT t K) : exT t K' := by
  cases t <;> simp only [exT] at h ⊢
  all_goals first
    | (obtain ⟨a, n, c, h⟩ := h; exact ⟨_, _, _, hk _ h⟩)
    | (obtain ⟨a, h⟩ := h; exact ⟨_, hk _ h⟩)

/-- the cells of a type, flattened -/
def leaves (P : Program) : Nat → TypeId → List Ty
  | 0, _ => []
  | n + 1, t =>
    match P.underlying t with
    | some (.struct fs) => fs.toList.flatMap fun f => leaves P n f.type
    | some (.array len e) => (List.replicate len (leaves P n e)).flatten
    | some d => [tyOf d]
    | none => []
def exAgg : List Ty → List Value → (Value → Prop) → Prop
  | [], acc, K => K (.agg acc.reverse.toArray)
  | ty :: l, acc, K => exT ty fun v => exAgg l (v :: acc) K
theorem exAgg_out {l : List Ty} {acc : List Value} {K : Value → Prop} (h : exAgg l acc K) : ∃ v, K v := by
  induction l generalizing acc with
  | nil => exact ⟨_, h⟩
  | cons ty l ih => obtain ⟨v, h⟩ := exT_out h; exact ih h
theorem exAgg_mono {l : List Ty} {acc : List Value} {K K' : Value → Prop} (hk : ∀ v, K v → K' v) (h : exAgg l acc K) : exAgg l acc K' := by
  induction l generalizing acc with
  | nil => exact hk _ h
  | cons ty l ih => exact exT_mono (fun v h => ih h) h
/-- a value of a type that is no tuple -/
def exV1 (P : Program) (t : TypeId) (K : Value → Prop) : Prop :=
  match P.underlying t with
  | some (.struct _) | some (.array _ _) => exAgg (leaves P 64 t) [] K
  | some d => exT (tyOf d) K
  | none => False
theorem exV1_out {P : Program} {t : TypeId} {K : Value → Prop} (h : exV1 P t K) : ∃ v, K v := by
  unfold exV1 at h
  split at h
  · exact exAgg_out h
  · exact exAgg_out h
  · exact exT_out h
  · exact h.elim
theorem exV1_mono {P : Program} {t : TypeId} {K K' : Value → Prop} (hk : ∀ v, K v → K' v) (h : exV1 P t K) : exV1 P t K' := by
  unfold exV1 at h ⊢
  split at h
  · exact exAgg_mono hk h
  · exact exAgg_mono hk h
  · exact exT_mono hk h
  · exact h.elim
def exTup (P : Program) : List TypeId → List Value → (Value → Prop) → Prop
  | [], acc, K => K (.tuple acc.reverse.toArray)
  | t :: l, acc, K => exV1 P t fun v => exTup P l (v :: acc) K
theorem exTup_out {P : Program} {l : List TypeId} {acc : List Value} {K : Value → Prop} (h : exTup P l acc K) : ∃ v, K v := by
  induction l generalizing acc with
  | nil => exact ⟨_, h⟩
  | cons ty l ih => obtain ⟨v, h⟩ := exV1_out h; exact ih h
theorem exTup_mono {P : Program} {l : List TypeId} {acc : List Value} {K K' : Value → Prop} (hk : ∀ v, K v → K' v) (h : exTup P l acc K) : exTup P l acc K' := by
  induction l generalizing acc with
  | nil => exact hk _ h
  | cons ty l ih => exact exV1_mono (fun v h => ih h) h
def exV (P : Program) (t : TypeId) (K : Value → Prop) : Prop :=
  match P.underlying t with
  | some (.tuple ts) => exTup P ts.toList [] K
  | _ => exV1 P t K
theorem exV_out {P : Program} {t : TypeId} {K : Value → Prop} (h : exV P t K) : ∃ v, K v := by
  unfold exV at h
  split at h
  · exact exTup_out h
  · exact exV1_out h
theorem exV_mono {P : Program} {t : TypeId} {K K' : Value → Prop} (hk : ∀ v, K v → K' v) (h : exV P t K) : exV P t K' := by
  unfold exV at h ⊢
  split at h
  · exact exTup_mono hk h
  · exact exV1_mono hk h

/-! ### Memory -/
/-- how many blocks there are: the next one's number -/
def hs (w : World) : Nat := w.heap.size
/-- n cells stand at a and may be written -/
def There (w : World) (a : Addr) (n : Nat) : Prop := ∀ i, i < n → (∃ v, w.cell? (a.add i) = some v) ∧ w.frozen? (a.add i) = false
def setCells (w : World) (a : Addr) (l : List Value) (i : Nat := 0) : World :=
  match l with
  | [] => w
  | v :: l => setCells (w.setCell (a.add i) v) a l (i + 1)
/-- n cells at a hold what they held -/
def Kept (w w' : World) (a : Addr) (n : Nat) : Prop := ∀ i, i < n → w'.cell? (a.add i) = w.cell? (a.add i)

def exCells (w : World) (a : Addr) : List Ty → Nat → List Value → (Value → Prop) → Prop
  | [], _, acc, K => K (.agg acc.reverse.toArray)
  | ty :: l, i, acc, K => exT ty fun v => w.cell? (a.add i) = some v ∧ exCells w a l (i + 1) (v :: acc) K
def isAggT (P : Program) (t : TypeId) : Bool :=
  match P.underlying t with
  | some (.struct _) | some (.array _ _) => true
  | _ => false
def vcLoad (P : Program) (t : TypeId) (x : Value) (w : World) (K : Value → Prop) : Prop :=
  match x with
  | .pointer (some a) =>
    bif isAggT P t then
      bif Nat.beq (leaves P 64 t).length (P.cellsOf t) then exCells w a (leaves P 64 t) 0 [] K else False
    else
      match P.underlying t with
      | some d => exT (tyOf d) fun v => w.cell? a = some v ∧ K v
      | none => False
  | _ => False

theorem run_load_cell {P : Program} {w : World} {a : Addr} {v : Value} (h : w.cell? a = some v) : (load a).run P w = .ok v w := by
  simp [load, Sem.run, h]

/-! ### A run that ends well -/
def RunOk {α : Type} (P : Program) (s : Sem α) (w : World) (K : α → World → Prop) : Prop := ∃ a w', s.run P w = .ok a w' ∧ K a w'
theorem RunOk.mono {α : Type} {P : Program} {s : Sem α} {w : World} {K K' : α → World → Prop} (hk : ∀ a w, K a w → K' a w) (h : RunOk P s w K) : RunOk P s w K' :=
  let ⟨a, w', h1, h2⟩ := h
  ⟨a, w', h1, hk _ _ h2⟩
theorem RunOk.bind {α β : Type} {P : Program} {s : Sem α} {f : α → Sem β} {w : World} {K : β → World → Prop} (h : RunOk P s w fun a w' => RunOk P (f a) w' K) : RunOk P (s >>= f) w K := by
  obtain ⟨a, w', h1, b, w'', h2, h3⟩ := h
  exact ⟨b, w'', by rw [Sem.run_bind, h1]; exact h2, h3⟩

def pureRun {α : Type} (P : Program) : Sem α → Option α
  | .pure a => some a
  | .program k => pureRun P (k P)
  | .mark _ k => pureRun P k
  | _ => none
theorem pureRun_run {α : Type} {P : Program} {s : Sem α} {a : α} (h : pureRun P s = some a) (w : World) : s.run P w = .ok a w := by
  induction s with
  | pure b => simp [pureRun] at h; subst h; rfl
  | program k ih => simp only [pureRun] at h; simpa [Sem.run] using ih _ h
  | mark m k ih => simp only [pureRun] at h; simpa [Sem.run] using ih h
  | _ => simp [pureRun] at h

/-- what a computation asks of the world, spelt out -/
def vcSem {α : Type} (P : Program) : Sem α → (α → World → Prop) → World → Prop
  | .pure a, K, w => K a w
  | .program k, K, w => vcSem P (k P) K w
  | .mark _ k, K, w => vcSem P k K w
  | .new o k, K, w => ∀ w1, w1 = w.alloc o → vcSem P (k (hs w)) K w1
  | .load _ a k, K, w => ∃ v, w.cell? a = some v ∧ vcSem P (k v) K w
  | .store _ a v k, K, w => v.oneCell' = true ∧ There w a 1 ∧ ∀ w1, w1 = w.setCell a v → vcSem P k K w1
  | .choose _ k, K, w => ∀ n w1, (w1 = w ∨ w1 = w.drew) → vcSem P (k n) K w1
  | .shape r k, K, w => vcSem P (k (w.shape? r)) K w
  | .frozen a k, K, w => vcSem P (k (w.frozen? a)) K w
  | _, _, _ => False
theorem vcSem_sound {α : Type} {P : Program} {s : Sem α} {K : α → World → Prop} {w : World} (h : vcSem P s K w) : RunOk P s w K := by
  induction s generalizing w with
  | pure a => exact ⟨a, w, rfl, h⟩
  | program k ih => obtain ⟨a, w', h1, h2⟩ := ih _ h; exact ⟨a, w', by simpa [Sem.run] using h1, h2⟩
  | mark m k ih => obtain ⟨a, w', h1, h2⟩ := ih h; exact ⟨a, w', by simpa [Sem.run] using h1, h2⟩
  | new o k ih => obtain ⟨a, w', h1, h2⟩ := ih _ (h _ rfl); exact ⟨a, w', h1, h2⟩
  | load m a k ih =>
    obtain ⟨v, hv, h⟩ := h
    obtain ⟨b, w', h1, h2⟩ := ih _ h
    exact ⟨b, w', by simpa [Sem.run, hv] using h1, h2⟩
  | store m a v k ih =>
    obtain ⟨hone, ht, h⟩ := h
    obtain ⟨b, w', h1, h2⟩ := ih (h _ rfl)
    obtain ⟨⟨u, hu⟩, hf⟩ := ht 0 (by omega)
    have e : a.add 0 = a := by simp [Addr.add]
    rw [e] at hu hf
    refine ⟨b, w', ?_, h2⟩
    cases v <;> first
      | (simp [Value.oneCell'] at hone; done)
      | (simp only [Sem.run, hu, hf]; simpa using h1)
  | choose q k ih =>
    by_cases hq : q.forced = true
    · obtain ⟨b, w', h1, h2⟩ := ih _ (h 0 w (.inl rfl))
      exact ⟨b, w', by show (if q.forced then _ else _) = _; rw [if_pos hq]; exact h1, h2⟩
    · obtain ⟨b, w', h1, h2⟩ := ih _ (h (q.cut (w.tape w.drawn q)) w.drew (.inr rfl))
      exact ⟨b, w', by show (if q.forced then _ else _) = _; rw [if_neg hq]; exact h1, h2⟩
  | shape r k ih => obtain ⟨a, w', h1, h2⟩ := ih _ h; exact ⟨a, w', by simpa [Sem.run] using h1, h2⟩
  | frozen r k ih => obtain ⟨a, w', h1, h2⟩ := ih _ h; exact ⟨a, w', by simpa [Sem.run] using h1, h2⟩
  | _ => exact h.elim
theorem vcSem_mono {α : Type} {P : Program} {s : Sem α} {K K' : α → World → Prop} (hk : ∀ a w, K a w → K' a w) {w : World} (h : vcSem P s K w) : vcSem P s K' w := by
  induction s generalizing w with
  | pure a => exact hk _ _ h
  | program k ih => exact ih _ h
  | mark m k ih => exact ih h
  | new o k ih => exact fun w1 e => ih _ (h w1 e)
  | load m a k ih => obtain ⟨v, hv, h⟩ := h; exact ⟨v, hv, ih _ h⟩
  | store m a v k ih => exact ⟨h.1, h.2.1, fun w1 e => ih (h.2.2 w1 e)⟩
  | choose q k ih => exact fun n w1 e => ih _ (h n w1 e)
  | shape r k ih => exact ih _ h
  | frozen r k ih => exact ih _ h
  | _ => exact h.elim

/-! ### One operation -/
/-- an operation's end, in terms of its value alone -/
def OpOk (P : Program) (s : Sem Next) (w : World) (K : Value → World → Prop) : Prop :=
  RunOk P s w fun n w' =>
    match n with
    | .value v => K v w'
    | .skip => K undef w'
    | .enter f args => Calls P f args w' fun e w'' => ∃ v, e = .returned v ∧ K v w''
    | .round l f tmps assign body => RoundIn Fence.wide 0 P l f tmps assign body w' fun e w'' => ∃ v, e = .returned v ∧ K v w''
    | _ => False
theorem OpOk.mono {P : Program} {s : Sem Next} {w : World} {K K' : Value → World → Prop} (hk : ∀ a w, K a w → K' a w) (h : OpOk P s w K) : OpOk P s w K' := by
  refine RunOk.mono (fun n w' h => ?_) h
  cases n <;> simp only at h ⊢
  case value => exact hk _ _ h
  case skip => exact hk _ _ h
  case enter => exact h.mono fun e w'' ⟨v, e1, e2⟩ => ⟨v, e1, hk _ _ e2⟩
  case round => exact h.mono fun e w'' ⟨v, e1, e2⟩ => ⟨v, e1, hk _ _ e2⟩
/-- the fence that shuts nothing out, for a frame that is no round's or is round r's -/
abbrev FW (r : Option Nat) : Fence := { fn := fun _ => True, depth := none, alive := false, round := r }
theorem opOk_noDefer {P : Program} {o : Oper} {ρ : Operand → Value} {w : World} {K : Value → World → Prop} (h : OpOk P (execOp ρ o) w K) : ∀ c, o.op ≠ .defer c := by
  intro c hc
  obtain ⟨n, w', h1, h2⟩ := h
  unfold execOp at h1
  rw [hc] at h1
  simp only [Sem.run_bind] at h1
  cases hr : (resolve ρ c o.type).run P w with
  | ok d w2 => simp [hr] at h1; obtain ⟨rfl, rfl⟩ := h1; exact h2
  | halt => simp [hr] at h1
theorem wpIn_of_opOk {P : Program} {o : Oper} {a : Act} {w : World} {next : Act → World → Prop} {Q : Exit → Act → World → Prop} {r : Option Nat}
    (h : OpOk P (execOp a.eval o) w fun v w' => next (a.put o.dst v) w') : o.wpIn (FW r) 0 P a w next Q := by
  refine ⟨fun _ _ => trivial, ?_⟩
  rw [show (FW r).round = r from rfl, Oper.semAt_eq _ _ _ (opOk_noDefer h)]
  obtain ⟨n, w', h1, h2⟩ := h
  rw [h1]
  cases n <;> simp only at h2 <;> simp only [Oper.uponIn]
  case value => exact h2
  case skip => exact h2
  case enter =>
    refine ⟨fun h => (by simp at h), ?_⟩
    exact (callsIn_wide (n := 0)).2 (h2.mono fun e w'' ⟨v, e1, e2⟩ => by subst e1; exact e2)
  case round =>
    refine ⟨fun h => (by simp at h), ?_⟩
    exact h2.mono fun e w'' ⟨v, e1, e2⟩ => by subst e1; exact e2
  all_goals exact h2.elim

def boolSplit (K : Value → World → Prop) (v : Value) (w : World) : Prop :=
  match v with
  | .bool b => (b = true → K (.bool true) w) ∧ (b = false → K (.bool false) w)
  | v => K v w
theorem boolSplit_out {K : Value → World → Prop} {v : Value} {w : World} (h : boolSplit K v w) : K v w := by
  cases v <;> first
    | exact h
    | skip
  rename_i b
  cases b
  · exact h.2 rfl
  · exact h.1 rfl
theorem boolSplit_mono {K K' : Value → World → Prop} (hk : ∀ v w, K v w → K' v w) {v : Value} {w : World} (h : boolSplit K v w) : boolSplit K' v w := by
  cases v <;> first
    | exact hk _ _ h
    | exact ⟨fun e => hk _ _ (h.1 e), fun e => hk _ _ (h.2 e)⟩

/-- a run that is not looked into -/
def Hold {α : Type} (s : Sem α) : Sem α := s
def binOpSem (op : BinOp) (t : TypeId) (x y : Operand) (a b : Value) : Sem Value := do eqGuard op t x y a b; binOp op t a b
/-- a run's value, of the operation's type where that is known -/
def exVo (P : Program) (t : TypeId) (K : Value → Prop) : Prop :=
  match P.underlying t with
  | some (.tuple ts) => bif ts.toList.isEmpty then ∃ v, K v else exTup P ts.toList [] K
  | _ => exV1 P t K
theorem exVo_out {P : Program} {t : TypeId} {K : Value → Prop} (h : exVo P t K) : ∃ v, K v := by
  unfold exVo at h
  split at h
  · rename_i ts _
    cases hts : ts.toList.isEmpty
    · rw [hts] at h; exact exTup_out h
    · rw [hts] at h; exact h
  · exact exV1_out h
theorem exVo_mono {P : Program} {t : TypeId} {K K' : Value → Prop} (hk : ∀ v, K v → K' v) (h : exVo P t K) : exVo P t K' := by
  unfold exVo at h ⊢
  split at h
  · rename_i ts _
    cases hts : ts.toList.isEmpty
    · rw [hts] at h; exact exTup_mono hk h
    · rw [hts] at h; obtain ⟨v, h⟩ := h; exact ⟨v, hk _ h⟩
  · exact exV1_mono hk h
def ofTy (P : Program) (t : TypeId) (K : Value → World → Prop) (v : Value) (w : World) : Prop := exVo P t fun u => v = u ∧ K u w
theorem ofTy_out {P : Program} {t : TypeId} {K : Value → World → Prop} {v : Value} {w : World} (h : ofTy P t K v w) : K v w := by
  obtain ⟨u, rfl, h⟩ := exVo_out h
  exact h
theorem ofTy_mono {P : Program} {t : TypeId} {K K' : Value → World → Prop} (hk : ∀ v w, K v w → K' v w) {v : Value} {w : World} (h : ofTy P t K v w) : ofTy P t K' v w :=
  exVo_mono (fun _ h => ⟨h.1, hk _ _ h.2⟩) h
def calleeOk (P : Program) (g : Nat) : Bool :=
  match P.funcs[g]? with
  | some fn => fn.body.isSome && !(fn.name == "runtime.NumGoroutine")
  | none => false
/-- a call of a function value: a closure, or the round of a loop -/
def CallsV (P : Program) (v : Value) (args : List Value) (w : World) (R : Ending → World → Prop) : Prop :=
  (∃ g first captured, v = .func (.func g) first captured ∧ calleeOk P g = true ∧ Calls P g (List.toArray ((first.toList ++ args) ++ captured.toList)) w R) ∨
  (∃ l, v = .func (.yield l) #[] #[] ∧ YieldAt Fence.wide 0 P l (List.toArray args) w R)
theorem CallsV.mono {P : Program} {v : Value} {args : List Value} {w : World} {R R' : Ending → World → Prop} (h : CallsV P v args w R) (hr : ∀ e w, R e w → R' e w) : CallsV P v args w R' := by
  rcases h with ⟨g, f, c, h1, h2, h3⟩ | ⟨l, h1, fn, tmps, asg, body, h2, h3⟩
  · exact .inl ⟨g, f, c, h1, h2, h3.mono hr⟩
  · exact .inr ⟨l, h1, fn, tmps, asg, body, h2, h3.mono hr⟩
/-- what a step of a loop over a map hands out -/
def nextOf (K : Value → World → Prop) (v : Value) (w : World) : Prop :=
  ∃ b : Bool, ∃ k : Value, ∃ x : Value, (b = true → v = .tuple #[.bool true, k, x] ∧ K (.tuple #[.bool true, k, x]) w) ∧ (b = false → v = .tuple #[.bool false] ∧ K (.tuple #[.bool false]) w)
theorem nextOf_out {K : Value → World → Prop} {v : Value} {w : World} (h : nextOf K v w) : K v w := by
  obtain ⟨b, k, x, h1, h2⟩ := h
  cases b
  · rw [(h2 rfl).1]; exact (h2 rfl).2
  · rw [(h1 rfl).1]; exact (h1 rfl).2
theorem nextOf_mono {K K' : Value → World → Prop} (hk : ∀ v w, K v w → K' v w) {v : Value} {w : World} (h : nextOf K v w) : nextOf K' v w := by
  obtain ⟨b, k, x, h1, h2⟩ := h
  exact ⟨b, k, x, fun e => ⟨(h1 e).1, hk _ _ (h1 e).2⟩, fun e => ⟨(h2 e).1, hk _ _ (h2 e).2⟩⟩
/-- the entry that has come up -/
def entryOf (K : Value → World → Prop) (v : Value) (w : World) : Prop := ∃ k : Value, ∃ x : Value, v = .tuple #[k, x] ∧ K (.tuple #[k, x]) w
theorem entryOf_out {K : Value → World → Prop} {v : Value} {w : World} (h : entryOf K v w) : K v w := by
  obtain ⟨k, x, rfl, h⟩ := h
  exact h
theorem entryOf_mono {K K' : Value → World → Prop} (hk : ∀ v w, K v w → K' v w) {v : Value} {w : World} (h : entryOf K v w) : entryOf K' v w := by
  obtain ⟨k, x, e, h⟩ := h
  exact ⟨k, x, e, hk _ _ h⟩
/-- a part of a tuple, of the type that it is read at -/
def partOf (P : Program) (t : TypeId) (x : Value) (i : Nat) (w : World) (K : Value → World → Prop) : Prop :=
  match x with
  | .tuple vs => match vs[i]? with
    | some v => exVo P t fun u => v = u ∧ K u w
    | none => False
  | _ => False
theorem partOf_out {P : Program} {t : TypeId} {x : Value} {i : Nat} {w : World} {K : Value → World → Prop} (h : partOf P t x i w K) : RunOk P (Instr.extract x i) w K := by
  unfold partOf at h
  split at h
  · rename_i vs
    split at h
    · rename_i v hv
      obtain ⟨u, rfl, h⟩ := exVo_out h
      exact ⟨v, w, by simp [Instr.extract, hv], h⟩
    · exact h.elim
  · exact h.elim
theorem partOf_mono {P : Program} {t : TypeId} {x : Value} {i : Nat} {w : World} {K K' : Value → World → Prop} (hk : ∀ v w, K v w → K' v w) (h : partOf P t x i w K) : partOf P t x i w K' := by
  cases x with
  | tuple vs =>
    unfold partOf at h ⊢
    cases hv : vs[i]? with
    | some v =>
      simp only [hv] at h ⊢
      exact exVo_mono (fun _ h => ⟨h.1, hk _ _ h.2⟩) h
    | none => simp only [hv] at h
  | _ => exact h.elim
/-- the operations that are left as a run of the model's own text -/
def vcRun (P : Program) (o : Oper) (ρ : Operand → Value) (w : World) (K : Value → World → Prop) : Prop :=
  match o.op with
  | .call c =>
    match c.callee with
    | .builtin .append => RunOk P (Hold (Builtin.append_ c.argTypes o.type (c.args.toList.map ρ).toArray)) w (ofTy P o.type K)
    | .builtin .copy => RunOk P (Hold (Builtin.copy_ c.argTypes o.type (c.args.toList.map ρ).toArray)) w (ofTy P o.type K)
    | .builtin .delete => RunOk P (Hold (Builtin.delete_ c.argTypes o.type (c.args.toList.map ρ).toArray)) w (ofTy P o.type K)
    | .builtin .len => RunOk P (Hold (Builtin.len_ c.argTypes o.type (c.args.toList.map ρ).toArray)) w (ofTy P o.type K)
    | .builtin .cap => RunOk P (Hold (Builtin.cap_ c.argTypes o.type (c.args.toList.map ρ).toArray)) w (ofTy P o.type K)
    | .builtin .clear => RunOk P (Hold (Builtin.clear_ c.argTypes o.type (c.args.toList.map ρ).toArray)) w (ofTy P o.type K)
    | .value f => CallsV P (ρ f) (c.args.toList.map ρ) w (fun e w' => exV P o.type fun v => e = .returned v ∧ K v w')
    | _ => False
  | .lookup t x i ok => RunOk P (Hold (Instr.lookup t (ρ x) (ρ i) ok)) w (ofTy P o.type K)
  | .mapUpdate t m k x | .insert t m k x => RunOk P (Hold (Instr.mapUpdate t (ρ m) (ρ k) (ρ x))) w fun _ w' => K undef w'
  | .mapEntry t m k => RunOk P (Hold (Instr.mapEntry t (ρ m) (ρ k))) w (ofTy P o.type K)
  | .entryStore t m s x => RunOk P (Hold (Instr.entryStore t (ρ m) (ρ s) (ρ x))) w fun _ w' => K undef w'
  | .range t x => RunOk P (Hold (Instr.range t (ρ x))) w (ofTy P o.type K)
  | .next it s => RunOk P (Hold (Instr.next (ρ it) s o.type)) w (nextOf K)
  | .entry it => RunOk P (Hold (Instr.entry (ρ it))) w (entryOf K)
  | .extract x i => partOf P o.type (ρ x) i w K
  | .makeSlice t l c => RunOk P (Hold (Instr.makeSlice t (ρ l) (ρ c))) w (ofTy P o.type K)
  | .makeMap t r => RunOk P (Hold (Instr.makeMap t (r.map ρ))) w (ofTy P o.type K)
  | .convert a b x => RunOk P (Hold (convert a b (ρ x))) w (ofTy P o.type K)
  | .index t x i => RunOk P (Hold (Instr.index t (ρ x) (ρ i))) w (ofTy P o.type K)
  | .slice t x lo hi mx => RunOk P (Hold (Instr.sliceAt t (ρ x) (lo.map ρ) (hi.map ρ) (mx.map ρ))) w (ofTy P o.type K)
  | .typeAssert x t as ok => RunOk P (Hold (Instr.typeAssert (ρ x) t as ok)) w (ofTy P o.type K)
  | .binOp op t x y _ => RunOk P (Hold (binOpSem op t x y (ρ x) (ρ y))) w (ofTy P o.type K)
  | .load t x => RunOk P (Hold (Instr.loadAt t (ρ x))) w (ofTy P o.type K)
  | .store t x v => RunOk P (Hold (Instr.storeAt t (ρ x) (ρ v))) w fun _ w' => K undef w'
  | .build t ps => RunOk P (Hold (Instr.build t (ps.map fun (i, x) => (i, ρ x)))) w (ofTy P o.type K)
  | .buildSlice t n ps => RunOk P (Hold (Instr.buildSlice t n (ps.map fun (i, x) => (i, ρ x)))) w (ofTy P o.type K)
  | _ => False

theorem opOk_v {P : Program} {s : Sem Value} {w : World} {K : Value → World → Prop} (h : RunOk P s w K) : OpOk P (do pure (.value (← s))) w K := by
  obtain ⟨v, w', h1, h2⟩ := h
  exact ⟨.value v, w', by simp [h1], h2⟩
theorem opOk_u {P : Program} {s : Sem Unit} {w : World} {K : Value → World → Prop} (h : RunOk P s w fun _ w' => K undef w') : OpOk P (do s; pure .skip) w K := by
  obtain ⟨v, w', h1, h2⟩ := h
  exact ⟨.skip, w', by simp [h1], h2⟩

theorem invoke_builtin {ρ : Operand → Value} {b : Builtin} {args : Array Operand} {ats : Array TypeId} {P : Program} {w : World} {t : TypeId} {K : Value → World → Prop} {s : Sem Value}
    (hs : builtin b ats t (args.map fun | .const _ => true | _ => false) (args.map ρ) = do pure (.value (← s)))
    (h : RunOk P s w K) : OpOk P (do let d ← resolve ρ { callee := .builtin b, args := args, argTypes := ats } t; invoke d.target d.args) w K := by
  have : (do let d ← resolve ρ { callee := .builtin b, args := args, argTypes := ats } t; invoke d.target d.args) = (do pure (.value (← s)) : Sem Next) := by
    simp only [resolve, pure_bind, invoke]
    exact hs
  rw [this]
  exact opOk_v h

theorem callsV_sound {P : Program} {ρ : Operand → Value} {f : Operand} {args : Array Operand} {ats : Array TypeId} {t : TypeId} {w : World} {K : Value → World → Prop}
    (h : CallsV P (ρ f) (args.toList.map ρ) w (fun e w' => exV P t fun v => e = .returned v ∧ K v w')) : OpOk P (do let d ← resolve ρ { callee := .value f, args := args, argTypes := ats } t; invoke d.target d.args) w K := by
  rcases h with ⟨g, first, captured, hf, hc, h⟩ | ⟨l, hf, fn, tmps, asg, body, hy, h⟩
  · unfold calleeOk at hc
    cases hfn : P.funcs[g]? with
    | none => rw [hfn] at hc; cases hc
    | some fn =>
      rw [hfn] at hc
      simp only [Bool.and_eq_true, Bool.not_eq_true'] at hc
      refine ⟨.enter g ((first ++ args.map ρ) ++ captured), w, ?_, ?_⟩
      · have hn : fn.body.isNone = false := by cases hb : fn.body <;> simp_all
        simp only [resolve, hf, Deferred.ofValue, pure_bind, invoke, callFunc, Sem.run_bind, run_program, Result.andThen_ok, hfn, hc.2, hn, Bool.false_eq_true, if_false, Sem.run_pure]
      · have e : (List.toArray ((first.toList ++ args.toList.map ρ) ++ captured.toList)) = (first ++ args.map ρ) ++ captured := by
          apply Array.ext'
          simp
        rw [e] at h
        exact Calls.mono h fun e w' he => exV_out he
  · refine ⟨.round l fn tmps asg body, w, ?_, h.mono fun e w' he => exV_out he⟩
    have e : (List.toArray (args.toList.map ρ)) = args.map ρ := by apply Array.ext'; simp
    rw [e] at hy
    simp only [resolve, hf, Deferred.ofValue, pure_bind, invoke]
    simpa using hy
theorem vcRun_sound {P : Program} {o : Oper} {ρ : Operand → Value} {w : World} {K : Value → World → Prop} (h : vcRun P o ρ w K) : OpOk P (execOp ρ o) w K := by
  obtain ⟨dst, op, type, pos, after, guard⟩ := o
  cases op <;> simp only [vcRun] at h
  case call c =>
    obtain ⟨callee, args, ats⟩ := c
    cases callee <;> simp only at h
    case builtin b =>
      cases b <;> simp only at h
      all_goals first
        | exact invoke_builtin rfl (by rw [← List.map_toArray, Array.toArray_toList] at h; exact h.mono fun _ _ h => ofTy_out h)
        | exact h.elim
    case value f => exact callsV_sound h
    all_goals exact h.elim
  all_goals first
    | exact h.elim
    | exact opOk_v (h.mono fun _ _ h => ofTy_out h)
    | exact opOk_v (h.mono fun _ _ h => nextOf_out h)
    | exact opOk_v (h.mono fun _ _ h => entryOf_out h)
    | exact opOk_v (partOf_out h)
    | exact opOk_u h

theorem vcRun_mono {P : Program} {o : Oper} {ρ : Operand → Value} {w : World} {K K' : Value → World → Prop} (hk : ∀ v w, K v w → K' v w) (h : vcRun P o ρ w K) : vcRun P o ρ w K' := by
  obtain ⟨dst, op, type, pos, after, guard⟩ := o
  cases op <;> simp only [vcRun] at h ⊢
  case call c =>
    obtain ⟨callee, args, ats⟩ := c
    cases callee <;> simp only at h ⊢
    case builtin b =>
      cases b <;> simp only at h ⊢
      all_goals first
        | exact h.mono fun _ _ h => ofTy_mono hk h
        | exact h.elim
    case value f => exact h.mono fun e w' he => exV_mono (fun v hv => ⟨hv.1, hk _ _ hv.2⟩) he
    all_goals exact h.elim
  all_goals first
    | exact h.elim
    | exact h.mono fun _ _ h => ofTy_mono hk h
    | exact h.mono fun _ _ h => nextOf_mono hk h
    | exact h.mono fun _ _ h => entryOf_mono hk h
    | exact partOf_mono hk h
    | exact h.mono fun _ w h => hk _ w h

/-! ### Calls of Go functions -/
def vcCall (P : Program) (f : Value) (args : List Value) (t : TypeId) (w : World) (K : Value → World → Prop) : Prop :=
  match f with
  | .func (.func g) first captured => bif calleeOk P g then Calls P g (List.toArray ((first.toList ++ args) ++ captured.toList)) w (fun e w' => exV P t fun v => e = .returned v ∧ K v w') else False
  | _ => False
theorem vcCall_sound {P : Program} {ρ : Operand → Value} {f : Operand} {args : Array Operand} {ats : Array TypeId} {t : TypeId} {w : World} {K : Value → World → Prop}
    (h : vcCall P (ρ f) (args.toList.map ρ) t w K) : OpOk P (do let d ← resolve ρ { callee := .value f, args := args, argTypes := ats } t; invoke d.target d.args) w K := by
  unfold vcCall at h
  split at h
  · rename_i g first captured hf
    cases hc : calleeOk P g
    · rw [hc] at h; exact h.elim
    · rw [hc] at h
      unfold calleeOk at hc
      cases hfn : P.funcs[g]? with
      | none => rw [hfn] at hc; cases hc
      | some fn =>
        rw [hfn] at hc
        simp only [Bool.and_eq_true, Bool.not_eq_true'] at hc
        refine ⟨.enter g ((first ++ args.map ρ) ++ captured), w, ?_, ?_⟩
        · have hn : fn.body.isNone = false := by cases hb : fn.body <;> simp_all
          simp only [resolve, hf, Deferred.ofValue, pure_bind, invoke, callFunc, Sem.run_bind, run_program, Result.andThen_ok, hfn, hc.2, hn, Bool.false_eq_true, if_false, Sem.run_pure]
        · have e : (List.toArray ((first.toList ++ args.toList.map ρ) ++ captured.toList)) = (first ++ args.map ρ) ++ captured := by
            apply Array.ext'
            simp
          rw [e] at h
          exact Calls.mono h fun e w' he => exV_out he
  · exact h.elim
theorem vcCall_mono {P : Program} {f : Value} {args : List Value} {t : TypeId} {w : World} {K K' : Value → World → Prop} (hk : ∀ v w, K v w → K' v w)
    (h : vcCall P f args t w K) : vcCall P f args t w K' := by
  unfold vcCall at h ⊢
  split at h
  · rename_i g _ _
    cases hc : calleeOk P g
    · rw [hc] at h; exact h.elim
    · rw [hc] at h
      exact Calls.mono h fun e w' he => exV_mono (fun v hv => ⟨hv.1, hk _ _ hv.2⟩) he
  · exact h.elim
end Go.Nf
