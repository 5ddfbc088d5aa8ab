/- The contracts of the failure detector's functions. -/
import Derived.Test.YthddcccffiofbaaNf1
import Derived.Test.YthddcccffiofbaaNfM
namespace Go.Proofs.Ythddcccffiofbaa
open Go Go.Nf

theorem ret_int {k : IntKind} {a b : Int} (h : a = b) : Ending.returned (.int k a) = .returned (.int k b) := by rw [h]
theorem ret_bool {a b : Bool} (h : a = b) : Ending.returned (.bool a) = .returned (.bool b) := by rw [h]
theorem wr {x : Int} (h : -9223372036854775808 ≤ x ∧ x ≤ 9223372036854775807) : IntKind.wrap .i64 x = x := by rw [IntKind.wrap_i64]; omega

def limI (n : Int) : Int := max 0 (min n 1099511627776)
def clampI (n : Int) : Int := max 0 (min n 4611686018427387904)
def elI (n t : Int) : Int := max 0 (clampI n - clampI t)
theorem clampI_bd (n : Int) : 0 ≤ clampI n ∧ clampI n ≤ 4611686018427387904 := by unfold clampI; omega
theorem elI_bd (n t : Int) : 0 ≤ elI n t ∧ elI n t ≤ 4611686018427387904 := by
  have := clampI_bd n; have := clampI_bd t; unfold elI; omega

theorem limit_c (n : Int) (w : World) : Calls Try.prog 25 #[.int .i64 n] w fun e w' => e = .returned (.int .i64 (limI n)) ∧ w = w' :=
  nf25 n w _ ⟨ret_int (by unfold limI; (repeat' split) <;> omega), rfl⟩
theorem dT {p : Prop} [Decidable p] (h : decide p = true) : p := of_decide_eq_true h
theorem dF {p : Prop} [Decidable p] (h : decide p = false) : ¬ p := of_decide_eq_false h
theorem nT {p : Prop} [Decidable p] (h : (!decide p) = true) : ¬ p := by simpa using h
theorem nF {p : Prop} [Decidable p] (h : (!decide p) = false) : p := by simpa using h
theorem hold_c (n : Int) (w : World) : Calls Try.prog 28 #[.int .i64 n] w fun e w' => e = .returned (.int .i64 (limI n)) ∧ w = w' := by
  refine nf28 n w _ ⟨fun h => ⟨ret_int ?_, rfl⟩, fun h => ⟨fun k => ⟨ret_int ?_, rfl⟩, fun k => ⟨ret_int ?_, rfl⟩⟩⟩
  · have := dT h; unfold limI; omega
  · have := dF h; have := dT k; unfold limI; omega
  · have := dF h; have := dF k; unfold limI; omega
theorem clamp_c (n : Int) (w : World) : Calls Try.prog 32 #[.int .i64 n] w fun e w' => e = .returned (.int .i64 (clampI n)) ∧ w = w' :=
  nf32 n w _ ⟨ret_int (by unfold clampI; (repeat' split) <;> omega), rfl⟩
theorem never_c (w : World) : Calls Try.prog 34 #[] w fun e w' => e = .returned (.int .i64 4611686018427387904) ∧ w = w' :=
  nf34 w _ ⟨rfl, rfl⟩
theorem Hold_c (n : Int) (w : World) : Calls Try.prog 33 #[.int .i64 n] w fun e w' => e = .returned (.int .i64 (clampI n)) ∧ w = w' := by
  refine nf33 n w _ ⟨fun h => ⟨ret_int ?_, rfl⟩, fun h => (never_c _).mono ?_⟩
  · have := dT h; unfold clampI; omega
  rintro _ _ ⟨rfl, rfl⟩
  refine ⟨_, rfl, fun k => (never_c _).mono ?_, fun k => ⟨ret_int ?_, rfl⟩⟩
  · rintro _ _ ⟨rfl, rfl⟩
    refine ⟨_, rfl, ret_int ?_, rfl⟩
    have := dF h; have := dT k; unfold clampI; omega
  · have := dF h; have := dF k; unfold clampI; omega
theorem ago_c (n t : Int) (w : World) : Calls Try.prog 31 #[.int .i64 n, .int .i64 t] w fun e w' => e = .returned (.int .i64 (elI n t)) ∧ w = w' := by
  refine nf31 n t w _ ((Hold_c _ _).mono ?_)
  rintro _ _ ⟨rfl, rfl⟩
  refine ⟨_, rfl, (Hold_c _ _).mono ?_⟩
  rintro _ _ ⟨rfl, rfl⟩
  refine ⟨_, rfl, (Hold_c _ _).mono ?_⟩
  rintro _ _ ⟨rfl, rfl⟩
  have := clampI_bd n
  have := clampI_bd t
  refine ⟨_, rfl, ret_int ?_, rfl⟩
  rw [wr (by omega)]
  unfold elI
  have hz : clampI n - clampI t ≤ 4611686018427387904 := by omega
  generalize clampI n - clampI t = z at hz ⊢
  unfold clampI
  omega
theorem elapsed_c (n t : Int) (w : World) : Calls Try.prog 30 #[.int .i64 n, .int .i64 t] w fun e w' => e = .returned (.int .i64 (elI n t)) ∧ w = w' := by
  refine nf30 n t w _ ((clamp_c _ _).mono ?_)
  rintro _ _ ⟨rfl, rfl⟩
  refine ⟨_, rfl, (clamp_c _ _).mono ?_⟩
  rintro _ _ ⟨rfl, rfl⟩
  have := clampI_bd n
  have := clampI_bd t
  refine ⟨_, rfl, ret_int ?_, rfl⟩
  rw [wr (by omega)]
  unfold elI
  (repeat' split) <;> omega

structure Mb where
  last : Int
  tmo : Int
  wrong : Int
structure Det where
  self : Int
  most : Int
  ms : List Mb
def encM (m : Mb) : List Value := [.int .i64 m.last, .int .i64 m.tmo, .int .i64 m.wrong]
theorem encM_len (m : Mb) : (encM m).length = 3 := rfl
def encMs (l : List Mb) : List Value := l.flatMap encM
structure Fit (d : Det) : Prop where
  len : 1 ≤ d.ms.length ∧ d.ms.length ≤ 64
  self : 0 ≤ d.self ∧ d.self < d.ms.length
  most : 1 ≤ d.most ∧ d.most ≤ 1099511627776
  mem : ∀ m ∈ d.ms, (0 ≤ m.last ∧ m.last ≤ 1099511627776) ∧ 1 ≤ m.tmo ∧ m.tmo ≤ d.most
def Det.sus (d : Det) (i : Nat) (now : Int) : Bool :=
  match d.ms[i]? with
  | some m => !decide ((i : Int) = d.self) && decide (m.tmo < elI now m.last)
  | none => false
structure DetAt (w : World) (p mb : Nat) (d : Det) : Prop where
  hp : Row w p 68 [.int .i64 d.self, .int .i64 d.most, .slice (some ⟨mb, 0, none⟩) d.ms.length d.ms.length]
  hm : Row w mb 65 (encMs d.ms)
  ne : p ≠ mb
  fit : Fit d
theorem DetAt.keep {w w' : World} {p mb : Nat} {d : Det} {S : Nat → Prop} (h : DetAt w p mb d) (o : Only S w w') (hp : ¬ S p) (hm : ¬ S mb) : DetAt w' p mb d := ⟨h.hp.keep o hp, h.hm.keep o hm, h.ne, h.fit⟩
theorem DetAt.grow {w w' : World} {p mb : Nat} {d : Det} (h : DetAt w p mb d) (o : Grow w w') : DetAt w' p mb d := h.keep o (fun h => h) (fun h => h)
theorem enc0 {l : List Mb} {k : Nat} {m : Mb} (hk : l[k]? = some m) : (encMs l)[(k : Int).toNat * 3]? = some (.int .i64 m.last) := by
  rw [Int.toNat_natCast, encMs, flat_get0 encM_len l k (by omega), hk]; rfl
theorem enc1 {l : List Mb} {k : Nat} {m : Mb} (hk : l[k]? = some m) : (encMs l)[(k : Int).toNat * 3 + 1]? = some (.int .i64 m.tmo) := by
  rw [Int.toNat_natCast, encMs, flat_get encM_len l k 1 (by omega), hk]; rfl
theorem enc2 {l : List Mb} {k : Nat} {m : Mb} (hk : l[k]? = some m) : (encMs l)[(k : Int).toNat * 3 + 2]? = some (.int .i64 m.wrong) := by
  rw [Int.toNat_natCast, encMs, flat_get encM_len l k 2 (by omega), hk]; rfl

theorem suspected_c (p mb k : Nat) (now : Int) (d : Det) (w : World) (h : DetAt w p mb d) (hk : k < d.ms.length) :
    Calls Try.prog 26 #[.pointer (some ⟨p, 0, none⟩), .int .i64 (k : Int), .int .i64 now] w fun e w' => e = .returned (.bool (d.sus k now)) ∧ Grow w w' := by
  obtain ⟨m, hm⟩ : ∃ m, d.ms[k]? = some m := ⟨_, List.getElem?_eq_getElem hk⟩
  refine nf26 p k now w _ fun w1 e1 => ?_
  have g1 : Grow w w1 := only_drew e1
  have h1 := h.grow g1
  refine ⟨_, h1.hp.cell rfl, fun hne => ⟨_, _, _, h1.hp.cell rfl, _, rfl, ⟨by omega, by omega⟩, _, h1.hm.cellAdd (enc0 hm), _, _, _, h1.hp.cell rfl, _, rfl, ⟨by omega, by omega⟩, _, h1.hm.cellAdd2 (enc1 hm), (elapsed_c _ _ _).mono ?_⟩, fun heq => ⟨ret_bool ?_, g1⟩⟩
  · rintro _ _ ⟨rfl, rfl⟩
    refine ⟨_, rfl, kept_same rfl, kept_same rfl, fun hd => ⟨ret_bool ?_, g1⟩, fun hd => ⟨ret_bool ?_, g1⟩⟩
    · simp only [Det.sus, hm, hne, Bool.true_and]; simpa using hd
    · simp only [Det.sus, hm, hne, Bool.true_and]; simpa using hd
  · simp only [Det.sus, hm, heq, Bool.false_and]

def Det.other (d : Det) (who : Int) : Prop := 0 ≤ who ∧ who < d.ms.length ∧ who ≠ d.self
instance (d : Det) (who : Int) : Decidable (d.other who) := by unfold Det.other; infer_instance
theorem other_c (p mb : Nat) (who : Int) (d : Det) (w : World) (h : DetAt w p mb d) :
    Calls Try.prog 24 #[.pointer (some ⟨p, 0, none⟩), .int .i64 who] w fun e w' => e = .returned (.bool (decide (d.other who))) ∧ w = w' := by
  refine nf24 p who w _ ⟨fun a => ⟨_, _, _, h.hp.cell rfl, fun b => ⟨_, h.hp.cell rfl, fun c => ⟨ret_bool ?_, rfl⟩, fun c => ⟨ret_bool ?_, rfl⟩⟩, fun b => ⟨ret_bool ?_, rfl⟩⟩, fun a => ⟨ret_bool ?_, rfl⟩⟩
  · have := dT a; have := dT b; have := nT c; symm; rw [decide_eq_true_eq]; unfold Det.other; omega
  · have := nF c; symm; rw [decide_eq_false_iff_not]; unfold Det.other; omega
  · have := dF b; symm; rw [decide_eq_false_iff_not]; unfold Det.other; omega
  · have := dF a; symm; rw [decide_eq_false_iff_not]; unfold Det.other; omega

/-- what a heartbeat makes of a member -/
def Mb.beat (m : Mb) (most now : Int) (late : Bool) : Mb :=
  { last := max m.last now, tmo := if late then min (2 * m.tmo) most else m.tmo, wrong := if late then IntKind.wrap .i64 (m.wrong + 1) else m.wrong }
def Det.beat (d : Det) (who now : Int) : Det :=
  if d.other who then
    match d.ms[who.toNat]? with
    | some m => { d with ms := d.ms.set who.toNat (m.beat d.most (limI now) (d.sus who.toNat (limI now))) }
    | none => d
  else d
theorem Fit.beat {d : Det} (h : Fit d) (who now : Int) : Fit (d.beat who now) := by
  unfold Det.beat
  split
  · split
    · rename_i m hm
      refine ⟨by simpa using h.len, by simpa using h.self, h.most, fun x hx => ?_⟩
      rcases List.mem_or_eq_of_mem_set hx with hx | rfl
      · exact h.mem x hx
      · have := h.mem m (List.mem_of_getElem? hm)
        have := h.most
        unfold Mb.beat limI
        dsimp only
        split <;> omega
    · exact h
  · exact h
theorem toNat_cast (k : Nat) : ((k : Int)).toNat = k := Int.toNat_natCast k

theorem heartbeat_c (p mb : Nat) (who now : Int) (d : Det) (w : World) (h : DetAt w p mb d) :
    Calls Try.prog 12 #[.pointer (some ⟨p, 0, none⟩), .int .i64 who, .int .i64 now] w fun e w' =>
      e = .returned (.int .i64 (if d.other who then 0 else 1)) ∧ DetAt w' p mb (d.beat who now) ∧ Only (fun k => k = mb) w w' := by
  refine nf12 p who now w _ ((other_c p mb who d w h).mono ?_)
  rintro _ _ ⟨rfl, rfl⟩
  refine ⟨_, rfl, fun ho => ?_, fun ho => ?_⟩
  case refine_2 =>
    have ho := dF ho
    refine ⟨ret_int (by rw [if_neg ho]), ?_, Only.refl _ _⟩
    unfold Det.beat; rw [if_neg ho]; exact h
  have ho := dT ho
  have ⟨h1, h2, h3⟩ := ho
  obtain ⟨k, rfl⟩ := Int.eq_ofNat_of_zero_le h1
  have hk : k < d.ms.length := by omega
  obtain ⟨m, hm⟩ : ∃ m, d.ms[k]? = some m := ⟨_, List.getElem?_eq_getElem hk⟩
  have hme : d.ms[k] = m := by rw [List.getElem?_eq_getElem hk] at hm; simpa using hm
  have hmf := h.fit.mem m (List.mem_of_getElem? hm)
  have hmost := h.fit.most
  refine (limit_c _ _).mono ?_
  rintro _ _ ⟨rfl, rfl⟩
  refine ⟨_, rfl, _, _, _, h.hp.cell rfl, _, rfl, ⟨by omega, by omega⟩, fun K hK => ?_⟩
  -- the rest, from whatever the middle has made
  have rest : ∀ (w' : World) (m' : Mb), Row w' p 68 [.int .i64 d.self, .int .i64 d.most, .slice (some ⟨mb, 0, none⟩) d.ms.length d.ms.length] → Row w' mb 65 (encMs (d.ms.set k m')) → Only (fun k => k = mb) w w' →
      m'.last = m.last → ({ m' with last := max m.last (limI now) } : Mb) = m.beat d.most (limI now) (d.sus k (limI now)) → K w' := by
    intro w' m' hp hmm ho' hl hb
    have hkm : (d.ms.set k m')[k]? = some m' := by simp [hk]
    refine hK w' fun _ => ⟨_, hmm.cellAdd (enc0 hkm), hmm.thereAdd ?_, fun w2 e2 => ⟨ret_int ?_, ?_, ?_⟩⟩
    · rw [encMs, flat_length encM_len, List.length_set, toNat_cast]; omega
    · rw [if_pos ho]
    · have hmm2 := hmm.setAdd e2
      have hset : setFrom (encMs (d.ms.set k m')) ((k : Int).toNat * 3) [.int .i64 (if limI now > m'.last then limI now else m'.last)] = encMs (d.ms.set k (m.beat d.most (limI now) (d.sus k (limI now)))) := by
        have := flat_set encM_len (d.ms.set k m') k 0 [.int .i64 (if limI now > m'.last then limI now else m'.last)] { m' with last := max m.last (limI now) } (by simpa using hk) (by simp) (by
          rw [List.getElem_set_self]
          simp only [encM, setFrom, List.set_cons_zero]
          congr 2
          rw [hl]
          split <;> omega)
        rw [hb, List.set_set] at this
        rw [toNat_cast]
        exact this
      rw [hset] at hmm2
      have hp2 := hp.keep (only_setAdd e2) h.ne
      have hbeat : d.beat (k : Int) now = { d with ms := d.ms.set k (m.beat d.most (limI now) (d.sus k (limI now))) } := by
        unfold Det.beat
        rw [if_pos ho, toNat_cast, hm]
      rw [hbeat]
      refine ⟨?_, hmm2, h.ne, ?_⟩
      · simpa using hp2
      · rw [← hbeat]; exact h.fit.beat _ _
    · exact ho'.trans' (only_setAdd e2)
  refine (suspected_c p mb k (limI now) d w h hk).mono ?_
  rintro _ w' ⟨rfl, g⟩
  have h' := h.grow g
  refine ⟨_, rfl, fun hs => ?_, fun hs => ?_⟩
  case refine_2 =>
    refine rest w' m h'.hp ?_ g.only rfl ?_
    · rw [← hme, List.set_getElem_self]; exact h'.hm
    · unfold Mb.beat; rw [hs]; rfl
  refine ⟨_, h'.hm.cellAdd2 (enc2 hm), h'.hm.thereAdd2 ?_, fun w2 e2 => ?_⟩
  · rw [encMs, flat_length encM_len, toNat_cast]; omega
  have r2 := h'.hm.setAdd2 e2
  rw [toNat_cast, encMs, flat_set encM_len d.ms k 2 _ { m with wrong := IntKind.wrap .i64 (m.wrong + 1) } hk (by simp) (by rw [hme]; rfl)] at r2
  have p2 := h'.hp.keep (only_setAdd2 e2) h.ne
  have o2 : Only (fun k => k = mb) w w2 := g.only.trans' (only_setAdd2 e2)
  intro w3 e3
  have o3 : Only (fun k => k = mb) w w3 := o2.trans' (only_drew e3)
  have r3 := r2.grow (only_drew e3)
  have p3 := p2.grow (only_drew e3)
  have hk2 : (d.ms.set k { m with wrong := IntKind.wrap .i64 (m.wrong + 1) })[k]? = some { m with wrong := IntKind.wrap .i64 (m.wrong + 1) } := by simp [hk]
  refine ⟨_, r3.cellAdd2 (enc1 hk2), _, p3.cell rfl, r3.thereAdd2 ?_, fun w4 e4 => ?_⟩
  · rw [flat_length encM_len, toNat_cast, List.length_set]; omega
  have r4 := r3.setAdd2 e4
  rw [toNat_cast, flat_set encM_len _ k 1 _ { m with wrong := IntKind.wrap .i64 (m.wrong + 1), tmo := min (2 * m.tmo) d.most } (by simpa using hk) (by simp) (by
    rw [List.getElem_set_self]
    simp only [encM, setFrom, List.set_cons_succ, List.set_cons_zero]
    rw [wr (by omega)]
    congr 3
    split <;> omega), List.set_set] at r4
  refine rest w4 _ (p3.keep (only_setAdd2 e4) h.ne) r4 (o3.trans' (only_setAdd2 e4)) rfl ?_
  unfold Mb.beat; rw [hs]; rfl

def Det.tmo (d : Det) (who : Int) : Int := if d.other who then ((d.ms[who.toNat]?).map (·.tmo)).getD 0 else 0
def Det.wrong (d : Det) (who : Int) : Int := if d.other who then ((d.ms[who.toNat]?).map (·.wrong)).getD 0 else 0
theorem other_get {d : Det} {who : Int} (ho : d.other who) : ∃ (k : Nat) (m : Mb), who = (k : Int) ∧ k < d.ms.length ∧ d.ms[k]? = some m := by
  obtain ⟨h1, h2, h3⟩ := ho
  obtain ⟨k, rfl⟩ := Int.eq_ofNat_of_zero_le h1
  have hk : k < d.ms.length := by omega
  exact ⟨k, _, rfl, hk, List.getElem?_eq_getElem hk⟩
theorem wrong_c (p mb : Nat) (who : Int) (d : Det) (w : World) (h : DetAt w p mb d) :
    Calls Try.prog 17 #[.pointer (some ⟨p, 0, none⟩), .int .i64 who] w fun e w' => e = .returned (.int .i64 (d.wrong who)) ∧ w = w' := by
  refine nf17 p who w _ ((other_c p mb who d w h).mono ?_)
  rintro _ _ ⟨rfl, rfl⟩
  refine ⟨_, rfl, fun ho => ?_, fun ho => ⟨ret_int (by unfold Det.wrong; rw [if_neg (dF ho)]), rfl⟩⟩
  have ho := dT ho
  obtain ⟨k, m, rfl, hk, hm⟩ := other_get ho
  exact ⟨_, _, _, h.hp.cell rfl, _, rfl, ⟨by omega, by omega⟩, _, h.hm.cellAdd2 (enc2 hm), ret_int (by unfold Det.wrong; rw [if_pos ho, toNat_cast, hm]; rfl), rfl⟩
theorem timeout_c (p mb : Nat) (who : Int) (d : Det) (w : World) (h : DetAt w p mb d) :
    Calls Try.prog 18 #[.pointer (some ⟨p, 0, none⟩), .int .i64 who] w fun e w' => e = .returned (.int .i64 (d.tmo who)) ∧ w = w' := by
  refine nf18 p who w _ ((other_c p mb who d w h).mono ?_)
  rintro _ _ ⟨rfl, rfl⟩
  refine ⟨_, rfl, fun ho => ?_, fun ho => ⟨ret_int (by unfold Det.tmo; rw [if_neg (dF ho)]), rfl⟩⟩
  have ho := dT ho
  obtain ⟨k, m, rfl, hk, hm⟩ := other_get ho
  exact ⟨_, _, _, h.hp.cell rfl, _, rfl, ⟨by omega, by omega⟩, _, h.hm.cellAdd2 (enc1 hm), ret_int (by unfold Det.tmo; rw [if_pos ho, toNat_cast, hm]; rfl), rfl⟩

/-- the suspects below number j -/
def Det.upto (d : Det) (now : Int) (j : Nat) : List Nat := (List.range j).filter (d.sus · now)
def ints (l : List Nat) : List Value := l.map fun (n : Nat) => .int .i64 (n : Int)
theorem ints_len (l : List Nat) : (ints l).length = l.length := by simp [ints]
theorem upto_succ (d : Det) (now : Int) (j : Nat) : d.upto now (j + 1) = d.upto now j ++ (if d.sus j now then [j] else []) := by
  unfold Det.upto
  rw [List.range_succ, List.filter_append]
  cases h : d.sus j now <;> simp [h]
theorem upto_le (d : Det) (now : Int) (j : Nat) : (d.upto now j).length ≤ j := by
  have := List.length_filter_le (d.sus · now) (List.range j)
  simpa [Det.upto] using this
theorem elem43 : Elem Try.prog 43 3 1 8 := elem_of (by kernel_rfl)
theorem elem55 : Elem Try.prog 55 59 3 24 := elem_of (by kernel_rfl)

theorem suspects_c (p mb : Nat) (now : Int) (d : Det) (w : World) (h : DetAt w p mb d) :
    Calls Try.prog 16 #[.pointer (some ⟨p, 0, none⟩), .int .i64 now] w fun e w' =>
      ∃ o c, e = .returned (.slice o (d.upto now d.ms.length).length c) ∧ Own w' (hs w) 3 1 o (d.upto now d.ms.length).length c (ints (d.upto now d.ms.length)) ∧ Grow w w' := by
  have hlen := h.fit.len
  refine nf16 p now w _ ⟨_, _, _, h.hp.cell rfl, fun n o k c x w' => ∃ j : Nat, x = (j : Int) ∧ j ≤ d.ms.length ∧ n = d.ms.length - j ∧ k = (d.upto now j).length ∧ Own w' (hs w) 3 1 o k c (ints (d.upto now j)) ∧ Grow w w', ?_, ?_⟩
  · exact ⟨_, 0, rfl, Nat.zero_le _, rfl, rfl, own_nil _ _ _ _, Only.refl _ _⟩
  rintro n _ w1 o k c x ⟨j, rfl, hj, rfl, rfl, hown, g⟩
  refine ⟨fun hlt => ?_, fun hge => ?_⟩
  case refine_2 =>
    have := dF hge
    obtain rfl : j = d.ms.length := by omega
    exact ⟨_, _, rfl, hown, g⟩
  have hlt : j < d.ms.length := by have := dT hlt; omega
  refine (suspected_c p mb j now d w1 (h.grow g) hlt).mono ?_
  rintro _ w2 ⟨rfl, g2⟩
  have hup := upto_succ d now j
  have hle := upto_le d now j
  have hwr : IntKind.wrap .i64 ((j : Int) + 1) = ((j + 1 : Nat) : Int) := by rw [wr (by omega)]; omega
  refine ⟨_, rfl, fun hs' => ?_, fun hs' => ?_⟩
  · intro w3 e3
    rw [if_pos hs'] at hup
    refine run_append_row elem43 ((hown.grow g2).grow (only_alloc e3)) (Row.new e3) rfl (by simp [Value.oneCell']) (by unfold maxLen; omega) (by omega) ?_ ?_
    · have := g.size; have := g2.size; have := hs_alloc e3; omega
    intro o' c' w4 hown' ho' _
    refine ⟨_, _, _, rfl, _, by omega, j + 1, hwr, hlt, rfl, ?_, ?_, ?_⟩
    · rw [hup, List.length_append]; rfl
    · rw [hup]; unfold ints at hown' ⊢; rw [List.map_append]; exact hown'
    · exact ((g.trans' g2).trans' (only_alloc e3)).trans ho' fun b hb hin => by
        have := ((hown.base) b hin).1
        omega
  · rw [if_neg (by rw [hs']; simp), List.append_nil] at hup
    exact ⟨_, by omega, j + 1, hwr, hlt, rfl, by rw [hup], by rw [hup]; exact hown.grow g2, g.trans' g2⟩

/-- the next member that is not suspected -/
def Det.nxt (d : Det) (b : Nat) (now : Int) : Nat → Nat → Int
  | 0, _ => -1
  | f + 1, i => if d.sus ((b + 1 + i) % d.ms.length) now then d.nxt b now f (i + 1) else (((b + 1 + i) % d.ms.length : Nat) : Int)
def Det.next (d : Det) (behind now : Int) : Int := if 0 ≤ behind ∧ behind < d.ms.length then d.nxt behind.toNat now d.ms.length 0 else -1
theorem tmod_cast (a b : Nat) : Int.tmod (a : Int) (b : Int) = ((a % b : Nat) : Int) := by
  rw [Int.tmod_eq_emod_of_nonneg (by omega), Int.natCast_emod]
theorem nextAlive_c (p mb : Nat) (behind now : Int) (d : Det) (w : World) (h : DetAt w p mb d) :
    Calls Try.prog 19 #[.pointer (some ⟨p, 0, none⟩), .int .i64 behind, .int .i64 now] w fun e w' => e = .returned (.int .i64 (d.next behind now)) ∧ Grow w w' := by
  have hlen := h.fit.len
  refine nf19 p behind now w _ ⟨fun a => ⟨ret_int ?_, Only.refl _ _⟩, fun a => ⟨_, _, _, h.hp.cell rfl, fun b => ⟨ret_int ?_, Only.refl _ _⟩, fun b => ⟨_, _, _, h.hp.cell rfl,
    fun n x w' => ∃ j : Nat, x = (j : Int) ∧ j ≤ d.ms.length ∧ n = d.ms.length - j ∧ d.nxt behind.toNat now (d.ms.length - j) j = d.nxt behind.toNat now d.ms.length 0 ∧ Grow w w', ?_, ?_⟩⟩⟩
  · have := dT a; unfold Det.next; rw [if_neg (by omega)]
  · have := dT b; unfold Det.next; rw [if_neg (by omega)]
  · exact ⟨_, 0, rfl, Nat.zero_le _, rfl, rfl, Only.refl _ _⟩
  have a := dF a
  have b := dF b
  obtain ⟨q, rfl⟩ := Int.eq_ofNat_of_zero_le (show 0 ≤ behind by omega)
  have hq : q < d.ms.length := by omega
  have hnext : d.next (q : Int) now = d.nxt q now d.ms.length 0 := by unfold Det.next; rw [if_pos (by omega), toNat_cast]
  rintro n _ w1 x ⟨j, rfl, hj, rfl, hI, g⟩
  rw [toNat_cast] at hI
  refine ⟨fun hlt => ?_, fun hge => ⟨ret_int ?_, g⟩⟩
  case refine_2 =>
    have := dF hge
    obtain rfl : j = d.ms.length := by omega
    rw [Nat.sub_self] at hI
    rw [hnext, ← hI]; rfl
  have hlt : j < d.ms.length := by have := dT hlt; omega
  have h1 := h.grow g
  have hidx : Int.tmod (IntKind.wrap .i64 ((IntKind.wrap .i64 ((q : Int) + 1)) + (j : Int))) ((d.ms.length : Nat) : Int) = (((q + 1 + j) % d.ms.length : Nat) : Int) := by
    rw [wr (x := (q : Int) + 1) (by omega), wr (by omega), ← tmod_cast]
    congr 1
  refine ⟨_, _, _, h1.hp.cell rfl, by omega, ?_⟩
  rw [hidx]
  refine (suspected_c p mb _ now d w1 h1 (Nat.mod_lt _ (by omega))).mono ?_
  rintro _ w2 ⟨rfl, g2⟩
  have hstep : d.nxt q now (d.ms.length - j) j = if d.sus ((q + 1 + j) % d.ms.length) now then d.nxt q now (d.ms.length - (j + 1)) (j + 1) else (((q + 1 + j) % d.ms.length : Nat) : Int) := by
    rw [show d.ms.length - j = (d.ms.length - (j + 1)) + 1 from by omega]; rfl
  refine ⟨_, rfl, fun hs' => ⟨_, by omega, j + 1, by rw [wr (by omega)]; omega, hlt, rfl, ?_, g.trans' g2⟩, fun hs' => ⟨ret_int ?_, g.trans' g2⟩⟩
  · rw [hstep, if_pos hs'] at hI; rw [toNat_cast]; exact hI
  · rw [hstep, if_neg (by rw [hs']; simp)] at hI; rw [hnext, ← hI]

/-- a valid group -/
def okMade (self all patience most : Int) : Prop := (1 ≤ all ∧ all ≤ 64) ∧ (0 ≤ self ∧ self < all) ∧ 1 ≤ patience ∧ patience ≤ most ∧ most ≤ 1099511627776
instance (self all patience most : Int) : Decidable (okMade self all patience most) := by unfold okMade; infer_instance
def Det.mk0 (self all patience most now : Int) : Det := { self := self, most := most, ms := List.replicate all.toNat { last := limI now, tmo := patience, wrong := 0 } }
theorem fit_mk0 {self all patience most now : Int} (h : okMade self all patience most) : Fit (Det.mk0 self all patience most now) := by
  obtain ⟨h1, h2, h3, h4, h5⟩ := h
  refine ⟨by simp [Det.mk0]; omega, by simp [Det.mk0]; omega, by simp [Det.mk0]; omega, fun m hm => ?_⟩
  obtain rfl := List.eq_of_mem_replicate hm
  dsimp only [Det.mk0]
  unfold limI
  omega
theorem zero65 : zeroL Try.prog 65 = some [.int .i64 0, .int .i64 0, .int .i64 0] := by kernel_rfl
theorem elem66 : Elem Try.prog 66 65 3 24 := elem_of (by kernel_rfl)
theorem rep_enc (n : Nat) (m : Mb) : (List.replicate n (encM m)).flatten = encMs (List.replicate n m) := by
  rw [encMs, List.flatMap_def, List.map_replicate]
theorem new_no (self all patience most now : Int) (w : World) (h : ¬ okMade self all patience most) :
    Calls Try.prog 14 #[.int .i64 self, .int .i64 all, .int .i64 patience, .int .i64 most, .int .i64 now] w fun e w' => e = .returned (.tuple #[.pointer none, .int .i64 1]) ∧ w = w' := by
  refine nf14 self all patience most now w _ ⟨fun _ => ⟨rfl, rfl⟩, fun a => ⟨fun _ => ⟨rfl, rfl⟩, fun b => ⟨fun _ => ⟨rfl, rfl⟩, fun c => ⟨fun _ => ⟨rfl, rfl⟩, fun d => ⟨fun _ => ⟨rfl, rfl⟩, fun e => ⟨fun _ => ⟨rfl, rfl⟩, fun f => ⟨fun _ => ⟨rfl, rfl⟩, fun g => absurd ?_ h⟩⟩⟩⟩⟩⟩⟩
  have := dF a; have := dF b; have := dF c; have := dF d; have := dF e; have := dF f; have := dF g
  unfold okMade; omega
theorem new_yes (self all patience most now : Int) (w : World) (h : okMade self all patience most) :
    Calls Try.prog 14 #[.int .i64 self, .int .i64 all, .int .i64 patience, .int .i64 most, .int .i64 now] w fun e w' =>
      e = .returned (.tuple #[.pointer (some ⟨hs w + 1, 0, none⟩), .int .i64 0]) ∧ DetAt w' (hs w + 1) (hs w) (Det.mk0 self all patience most now) ∧ Grow w w' := by
  have ⟨h1, h2, h3, h4, h5⟩ := h
  have no : ∀ {p : Prop} [Decidable p] {q : Prop}, ¬ p → decide p = true → q := fun h k => absurd (dT k) h
  refine nf14 self all patience most now w _ ⟨no (by omega), fun _ => ⟨no (by omega), fun _ => ⟨no (by omega), fun _ => ⟨no (by omega), fun _ => ⟨no (by omega), fun _ => ⟨no (by omega), fun _ => ⟨no (by omega), fun _ => ?_⟩⟩⟩⟩⟩⟩⟩
  refine run_make_row elem66 zero65 (by omega) (by omega) (by omega) (by omega) fun w1 e1 => ⟨_, _, _, rfl, fun w2 e2 => ?_⟩
  have r1 : Row w1 (hs w) 65 (encMs (List.replicate all.toNat ⟨0, 0, 0⟩)) := by
    rw [← rep_enc]; exact Row.new e1
  have s1 : hs w1 = hs w + 1 := hs_alloc e1
  have p2 := Row.new e2
  have r2 := r1.grow (only_alloc e2)
  rw [s1] at p2
  rw [s1]
  have g2 : Grow w w2 := (only_alloc e1).trans' (only_alloc e2)
  obtain ⟨N, hN⟩ : ∃ N : Nat, all = (N : Int) := Int.eq_ofNat_of_zero_le (by omega)
  subst hN
  rw [toNat_cast] at *
  let M (j : Nat) : List Mb := List.replicate j { last := limI now, tmo := patience, wrong := 0 } ++ List.replicate (N - j) ⟨0, 0, 0⟩
  have hM : ∀ j, j ≤ N → (M j).length = N := fun j hj => by simp only [M, List.length_append, List.length_replicate]; omega
  refine ⟨_, _, _, p2.cell rfl, fun n x w' => ∃ j : Nat, x = (j : Int) ∧ j ≤ N ∧ n = N - j ∧ Row w' (hs w + 1) 68 [.int .i64 self, .int .i64 most, .slice (some ⟨hs w, 0, none⟩) N N] ∧ Row w' (hs w) 65 (encMs (M j)) ∧ Grow w w', ?_, ?_⟩
  · exact ⟨_, 0, rfl, Nat.zero_le _, rfl, p2, r2, g2⟩
  rintro n _ w3 x ⟨j, rfl, hj, rfl, p3, r3, g3⟩
  refine ⟨fun hlt w4 e4 => ?_, fun hge => ?_⟩
  · have hlt : j < N := by have := dT hlt; omega
    have p4 := p3.grow (only_drew e4)
    have r4 := r3.grow (only_drew e4)
    refine ⟨_, _, _, p4.cell rfl, (limit_c now w4).mono ?_⟩
    rintro _ _ ⟨rfl, rfl⟩
    refine ⟨_, rfl, kept_same rfl, _, rfl, ⟨by omega, by omega⟩, r4.thereAdd (by rw [encMs, flat_length encM_len, hM j hj, toNat_cast]; omega), fun w5 e5 => ⟨_, by omega, j + 1, by rw [wr (by omega)]; omega, hlt, rfl, p4.keep (only_setAdd e5) (by omega), ?_, ?_⟩⟩
    · have r5 := r4.setAdd e5
      rw [toNat_cast] at r5
      have hf := flat_set encM_len (M j) j 0 [.int .i64 (limI now), .int .i64 patience, .int .i64 0] { last := limI now, tmo := patience, wrong := 0 } (by rw [hM j hj]; exact hlt) (by simp) (by
        have : (M j)[j]'(by rw [hM j hj]; exact hlt) = ⟨0, 0, 0⟩ := by
          simp only [M]
          rw [List.getElem_append_right (by simp)]
          simp
        rw [this]; rfl)
      rw [Nat.add_zero] at hf
      unfold encMs at r5
      rw [hf] at r5
      have : (M j).set j { last := limI now, tmo := patience, wrong := 0 } = M (j + 1) := by
        simp only [M]
        rw [List.set_append_right _ _ (by simp), List.length_replicate, Nat.sub_self, show N - j = (N - (j + 1)) + 1 from by omega, List.replicate_succ, List.set_cons_zero]
        rw [show j + 1 = j + 1 from rfl, List.replicate_succ', List.append_assoc]; rfl
      rw [this] at r5
      exact r5
    · exact (g3.trans' (only_drew e4)).trans (only_setAdd e5) fun b hb hbe => by subst hbe; omega
  · have := dF hge
    obtain rfl : j = N := by omega
    refine ⟨rfl, ⟨?_, ?_, by omega, fit_mk0 h⟩, g3⟩
    · simpa [Det.mk0] using p3
    · have : M j = List.replicate j { last := limI now, tmo := patience, wrong := 0 } := by simp [M]
      rw [this] at r3
      simpa [Det.mk0] using r3
end Go.Proofs.Ythddcccffiofbaa
