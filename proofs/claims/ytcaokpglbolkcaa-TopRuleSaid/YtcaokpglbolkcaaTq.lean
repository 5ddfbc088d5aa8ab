/- The slots of an urgency, sending a unit, the units that are considered. -/
import Derived.Test.YtcaokpglbolkcaaTo
namespace Go.Proofs.Ytcaokpglbolkcaa
open Go Go.Nf Go.RowKit

def urgP (sl : List PSl) (u : Int) : List PSl := sl.filter fun s => decide (s.urg = u)
theorem slotsP_len (l : List Inc) (us : List Un) : (slotsP l us).length ≤ l.length := by
  have lenOne : ∀ x, (slotsOne us x).length ≤ 1 := fun x => by unfold slotsOne; rw [List.length_map]; exact (unmet_one _).1
  have lenF : ∀ l : List Inc, (l.flatMap (slotsOne us)).length ≤ l.length := fun l => by
    induction l with
    | nil => simp
    | cons x l ih =>
      have := lenOne x
      rw [List.flatMap_cons, List.length_append, List.length_cons]
      omega
  refine Nat.le_trans (lenF _) ?_
  rw [sortI_len]
  exact List.length_filter_le _ _
theorem filter_map_pure (sl : List Slt) (u : Int) : (sl.filter fun s => decide (s.urg = u)).map Slt.pure = urgP (sl.map Slt.pure) u := by
  unfold urgP
  rw [List.filter_map]
  rfl
set_option maxHeartbeats 2000000 in
theorem slotsOf_c (o o' : Option Addr) (c c' : Nat) (l : List Inc) (us : List Un) (hl : l.length < 20) (hu : us.length ≤ 1000) (hN : ∀ x ∈ l, x.nodes.length ≤ 1000) (urg : Int) (w : World) {A A' : Nat → Prop} (h : Incs w A o l) (h' : Uns w A' o' us) :
    Calls Try.prog 21 #[.slice o l.length c, .slice o' us.length c', .slice none 0 0, .int .i64 urg] w fun e w' => ∃ o2 c2 sl, e = .returned (.slice o2 sl.length c2) ∧ SlAt (hs w) w' o2 sl.length c2 sl ∧ sl.map Slt.pure = urgP (slotsP l us) urg ∧ Grow w w' := by
  refine nf21 o l.length c o' us.length c' none 0 0 urg w _ ((slots_c o o' c c' l us hl hu hN w h h').mono ?_)
  rintro _ w2 ⟨o2, c2, sl, rfl, hS, hsl, g2⟩
  have hlen : sl.length < 20 := by
    have := congrArg List.length hsl
    rw [List.length_map] at this
    have := slotsP_len l us
    omega
  rw [← hsl, ← filter_map_pure]
  clear hsl
  obtain ⟨p, hp⟩ : ∃ p : Slt → Bool, p = fun s => decide (s.urg = urg) := ⟨_, rfl⟩
  rw [← hp]
  refine ⟨_, _, _, rfl, fun m o6 n7 n8 x w' => ∃ i : Nat, x = (i : Int) ∧ i ≤ sl.length ∧ m = sl.length - i ∧ n7 = ((sl.take i).filter p).length ∧ Own w' (hs w2) 46 5 o6 n7 n8 (((sl.take i).filter p).flatMap encS) ∧ Grow w2 w', ⟨_, 0, rfl, Nat.zero_le _, rfl, rfl, own_nil _ _ _ _, Only.refl _ _⟩, ?_⟩
  rintro m _ w5 o6 n7 n8 x ⟨i, rfl, hi, rfl, rfl, own5, g5⟩
  have lenb : ((sl.take i).filter p).length ≤ i := Nat.le_trans (List.length_filter_le _ _) (by rw [List.length_take]; omega)
  have z5 := g5.size
  have z2 := g2.size
  refine ⟨fun hlt k12 hk => ?_, fun hge => ?_⟩
  · have hlt : i < sl.length := by have := dT hlt; omega
    have hat := List.getElem?_eq_getElem hlt
    have hft := filter_take p hlt
    obtain ⟨a, ha, -, hc, hc0⟩ := Recs.atE (own_recs' encS_len (by decide) (hS.own.grow g5)) hat
    generalize sl[i] = x at *
    refine ⟨a, ha, ⟨by omega, by omega⟩, _, hc0 _ rfl, _, hc 1 _ rfl, _, hc 2 _ rfl, _, hc 3 _ rfl, _, _, _, hc 4 _ rfl, fun w38 e38 => ⟨(Row.new e38).there (by simp), fun w40 e40 => ?_⟩⟩
    obtain ⟨r40, g40⟩ := loc (vs := encS x) e38 e40 rfl
    have z40 := g40.size
    have hpx : p x = decide (x.urg = urg) := by rw [hp]
    refine ⟨_, r40.cell rfl, fun hb => ?_, fun hb => hk _ _ _ _ fun _ => ?_⟩
    · rw [hpx, hb] at hft
      refine ⟨_, r40.cell rfl, _, r40.cell rfl, _, r40.cell rfl, _, r40.cell rfl, _, _, _, r40.cell rfl, fun w63 e63 => ?_⟩
      have g63 : Grow w40 w63 := only_alloc e63
      have z63 := g63.size
      refine append_recs' (f := encS) (ys := [x]) encS_len rfl elem43 (by decide) ((own5.grow g40).grow g63) (rec_one encS_len (by decide) (Row.new e63)) (one_encS [x]) (by simp only [maxLen]; omega) (by omega) (by omega) fun o' c' w' p1 p2 => ⟨_, _, _, rfl, hk _ _ _ _ fun _ => ?_⟩
      refine ⟨_, by omega, i + 1, by rw [wr (by omega)]; omega, hlt, rfl, by rw [hft]; simp, ?_, ((g5.trans' g40).trans' g63).trans p2 fun b hb e => by have := (own5.base b e).1; omega⟩
      rw [hft]
      exact p1
    · rw [hpx, hb] at hft
      refine ⟨_, by omega, i + 1, by rw [wr (by omega)]; omega, hlt, rfl, by rw [hft]; simp, ?_, g5.trans' g40⟩
      rw [hft]
      simpa using own5.grow g40
  · have : i = sl.length := by have := dF hge; omega
    subst this
    rw [List.take_length] at own5 lenb ⊢
    refine (lim41 o6 (sl.filter p).length n8 (by omega) own5.le w5).mono ?_
    rintro _ _ ⟨rfl, rfl⟩
    exact ⟨_, _, _, rfl, _, _, _, rfl, ⟨own5.mono (by omega), fun s hs => (hS.grow g5).nod s (List.mem_filter.1 hs).1⟩, rfl, g2.trans' g5⟩

/-! ### sending a unit -/
structure Cho where
  inc : Int
  kind : Int
  unit : Int
  time : Int
def encC (c : Cho) : List Value := [.int .i64 c.inc, .int .i64 c.kind, .int .i64 c.unit, .int .i64 c.time]
def send1 (c : Cho) (u : Un) : Un := if u.id = c.unit then { u with state := 2, inc := c.inc } else u
def sendP (us : List Un) (c : Cho) : List Un := us.map (send1 c)
theorem own_field {α : Type} {f : α → List Value} {k : Nat} (hk : ∀ m, (f m).length = k) {w w' : World} {B T n c g : Nat} {l : List α} (h : Own w B T k (some ⟨g, 0, none⟩) n c (l.flatMap f)) {j d : Nat} {x x' : α} {v : Value} (hx : l[j]? = some x) (hd : d < k) (hv : (f x).set d v = f x') (e : w' = setCells w (((⟨g, 0, none⟩ : Addr).add ((j : Int).toNat * k)).add d) [v] 0) :
    Own w' B T k (some ⟨g, 0, none⟩) n c ((l.set j x').flatMap f) ∧ Only (fun b => b = g) w w' := by
  obtain ⟨hj, hjx⟩ := List.getElem?_eq_some_iff.1 hx
  have hle : (j + 1) * k ≤ l.length * k := Nat.mul_le_mul_right k hj
  rw [Nat.succ_mul] at hle
  have hl := h.length
  rw [flat_length hk] at hl
  refine ⟨?_, only_setAdd2 e⟩
  have ha : ((⟨g, 0, none⟩ : Addr).add ((j : Int).toNat * k)).add d = (⟨g, 0, none⟩ : Addr).add (j * k + d) := by
    rw [Addr.add_lit, Addr.add_lit, Addr.add_lit, toNat_cast]; congr 1; omega
  rw [ha] at e
  have h1 := h.set e (by simp; omega)
  have e2 : setFrom (l.flatMap f) (j * k + d) [v] = (l.set j x').flatMap f := by
    show (l.flatMap f).set (j * k + d) v = _
    have el : l = l.take j ++ x :: l.drop (j + 1) := by
      rw [← hjx, ← List.drop_eq_getElem_cons hj, List.take_append_drop]
    have er : l.set j x' = l.take j ++ x' :: l.drop (j + 1) := by rw [List.set_eq_take_append_cons_drop, if_pos hj]
    rw [er]
    conv => lhs; rw [el]
    have lt : ((l.take j).flatMap f).length = j * k := by rw [flat_length hk, List.length_take]; congr 1; omega
    rw [List.flatMap_append, List.flatMap_cons, List.flatMap_append, List.flatMap_cons, List.set_append_right _ _ (by rw [lt]; omega), lt, Nat.add_sub_cancel_left, List.set_append_left _ _ (by rw [hk]; exact hd), hv]
  rw [e2] at h1
  exact h1
theorem field_there {α : Type} {f : α → List Value} {k : Nat} (hk : ∀ m, (f m).length = k) {w : World} {B T n c g : Nat} {l : List α} (h : Own w B T k (some ⟨g, 0, none⟩) n c (l.flatMap f)) {j d : Nat} (hj : j < l.length) (hd : d < k) : There w (((⟨g, 0, none⟩ : Addr).add ((j : Int).toNat * k)).add d) 1 := by
  have hle : (j + 1) * k ≤ l.length * k := Nat.mul_le_mul_right k hj
  rw [Nat.succ_mul] at hle
  have hl := h.length
  rw [flat_length hk] at hl
  have ha : ((⟨g, 0, none⟩ : Addr).add ((j : Int).toNat * k)).add d = (⟨g, 0, none⟩ : Addr).add (j * k + d) := by
    rw [Addr.add_lit, Addr.add_lit, Addr.add_lit, toNat_cast]; congr 1; omega
  rw [ha]
  exact h.there (by omega)
set_option maxHeartbeats 2000000 in
theorem send_c {w : World} {B n c : Nat} {o : Option Addr} {us : List Un} (hn : n = us.length) (hl : n ≤ 1000) (h : Own w B 29 10 o n c (us.flatMap encUn)) (ch : Cho) :
    Calls Try.prog 23 #[.slice o n c, .agg #[.int .i64 ch.inc, .int .i64 ch.kind, .int .i64 ch.unit, .int .i64 ch.time]] w fun e w' => e = .returned (.tuple #[]) ∧ Own w' B 29 10 o n c ((sendP us ch).flatMap encUn) ∧ Only (inBlock o) w w' := by
  refine nf23 o n c ch.inc ch.kind ch.unit ch.time w _ fun w1 e1 => ?_
  have g1 : Grow w w1 := only_alloc e1
  have r1 : Row w1 (hs w) 51 (encC ch) := Row.new e1
  refine ⟨fun m x w' => ∃ (i : Nat) (cur : List Un), x = (i : Int) ∧ i ≤ n ∧ m = n - i ∧ cur = (us.take i).map (send1 ch) ++ us.drop i ∧ Own w' B 29 10 o n c (cur.flatMap encUn) ∧ Row w' (hs w) 51 (encC ch) ∧ Only (inBlock o) w w', ⟨_, 0, _, rfl, Nat.zero_le _, rfl, rfl, by simpa using h.grow g1, r1, g1.only⟩, ?_⟩
  rintro m _ w7 x ⟨i, cur, rfl, hi, rfl, hcur, own7, r7, o7⟩
  have lcur : cur.length = n := by rw [hcur, List.length_append, List.length_map, List.length_take, List.length_drop]; omega
  refine ⟨fun hlt k11 hk w17 e17 => ?_, fun hge => ⟨rfl, ?_, o7⟩⟩
  rotate_left
  · have : i = us.length := by have := dF hge; omega
    rw [this, List.take_length, List.drop_length, List.append_nil] at hcur
    rw [hcur] at own7
    exact own7
  have hlt : i < n := by have := dT hlt; omega
  have g17 : Grow w7 w17 := only_drew e17
  have own17 := own7.grow g17
  have r17 := r7.grow g17
  have o17 : Only (inBlock o) w w17 := o7.trans' g17.only
  obtain ⟨u, hu⟩ : ∃ u, us[i]? = some u := ⟨_, List.getElem?_eq_getElem (by omega)⟩
  have hat : cur[i]? = some u := by
    rw [hcur, List.getElem?_append_right (by rw [List.length_map, List.length_take]; omega), List.length_map, List.length_take, List.getElem?_drop]
    rw [show i + (i - min i us.length) = i from by omega]
    exact hu
  have hnext : cur.set i (send1 ch u) = (us.take (i + 1)).map (send1 ch) ++ us.drop (i + 1) := by
    have hil : i < us.length := by omega
    have hgu : us[i] = u := (List.getElem?_eq_some_iff.1 hu).2
    rw [hcur, List.set_append_right _ _ (by rw [List.length_map, List.length_take]; omega), List.length_map, List.length_take, show i - min i us.length = 0 from by omega, List.drop_eq_getElem_cons hil, List.set_cons_zero, List.take_succ_eq_append_getElem hil, hgu, List.map_append, List.append_assoc]
    rfl
  obtain ⟨g, lg, rfl, -⟩ := own17.head (show 0 < n by omega)
  obtain ⟨a, ha, -, hc, hc0⟩ := Recs.atE (own_recs' encUn_len (by decide) own17) hat
  cases ha
  have next : ∀ w13, Own w13 B 29 10 (some ⟨g, 0, none⟩) n c ((cur.set i (send1 ch u)).flatMap encUn) → Row w13 (hs w) 51 (encC ch) → Only (inBlock (some (⟨g, 0, none⟩ : Addr))) w w13 → k11 w13 := fun w13 q1 q2 q3 => hk _ fun _ =>
    ⟨_, by omega, i + 1, _, by rw [wr (by omega)]; omega, hlt, rfl, hnext, q1, q2, q3⟩
  have hgr : ¬ inBlock (some (⟨g, 0, none⟩ : Addr)) (hs w) := own17.apartR r17 (by decide)
  have inb : ∀ b, b = g → inBlock (some (⟨g, 0, none⟩ : Addr)) b := fun b e => ⟨_, rfl, e.symm⟩
  refine ⟨_, rfl, ⟨by omega, by omega⟩, _, hc0 _ rfl, _, r17.cell rfl, fun he => ?_, fun hne => next w17 ?_ r17 o17⟩
  · have he := dT he
    refine ⟨_, rfl, ⟨by omega, by omega⟩, field_there encUn_len own17 (by omega) (by decide), fun w24 e24 => ?_⟩
    obtain ⟨own24, o24⟩ := own_field encUn_len (x' := { u with state := 2 }) own17 hat (by decide) rfl e24
    have r24 := r17.keep o24 fun e => hgr (inb _ e)
    have hat24 : (cur.set i { u with state := 2 })[i]? = some { u with state := 2 } := List.getElem?_set_self (by omega)
    refine ⟨_, r24.cell rfl, _, rfl, ⟨by omega, by omega⟩, field_there encUn_len own24 (by rw [List.length_set]; omega) (by decide), fun w28 e28 => ?_⟩
    obtain ⟨own28, o28⟩ := own_field encUn_len (x' := { u with state := 2, inc := ch.inc }) own24 hat24 (by decide) rfl e28
    refine next w28 ?_ (r24.keep o28 fun e => hgr (inb _ e)) ((o17.trans' (o24.mono fun b _ e => inb b e)).trans' (o28.mono fun b _ e => inb b e))
    rw [List.set_set] at own28
    rw [show send1 ch u = { u with state := 2, inc := ch.inc } from by unfold send1; rw [if_pos he]]
    exact own28
  · have hne := dF hne
    rw [show send1 ch u = u from by unfold send1; rw [if_neg hne]]
    have es : cur.set i u = cur := by
      apply List.ext_getElem?
      intro k
      by_cases e : i = k
      · subst e; rw [List.getElem?_set_self (by omega), hat]
      · rw [List.getElem?_set_ne e]
    rw [es]
    exact own17

def at1 (r : List Int) (j : Nat) : Int := (r[j]?).getD 0
def useful (all : List (List Int)) (j : Nat) : Bool := all.any fun r => decide (at1 r j ≠ FarT)
def colsN (all : List (List Int)) (n : Nat) : List Nat := (List.range n).filter (useful all)
def subP (all : List (List Int)) (cols : List Nat) : List (List Int) := all.map fun r => cols.map (at1 r)
def zU : Un := ⟨0, 0, 0, 0, 0, 0, 0, 0, 0, 0⟩
def uAt (us : List Un) (j : Nat) : Un := (us[j]?).getD zU
def natsI (l : List Nat) : List Int := l.map fun j : Nat => (j : Int)
theorem colsN_succ (all : List (List Int)) (j : Nat) : colsN all (j + 1) = colsN all j ++ if useful all j then [j] else [] := by
  unfold colsN
  rw [List.range_succ, List.filter_append]
  congr 1
  by_cases h : useful all j = true
  · rw [if_pos h, List.filter_cons_of_pos h]; rfl
  · rw [if_neg h, List.filter_cons_of_neg h]; rfl
theorem colsN_len (all : List (List Int)) (n : Nat) : (colsN all n).length ≤ n := by
  unfold colsN
  refine Nat.le_trans (List.length_filter_le _ _) ?_
  simp
theorem colsN_lt {all : List (List Int)} {n j : Nat} (h : j ∈ colsN all n) : j < n := List.mem_range.1 (List.mem_filter.1 h).1
set_option maxHeartbeats 4000000 in
theorem cand_c {w : World} {q : Nat} {E : List Edg} {n : Nat} {A B C D : Nat → Prop} (hG : GraphAt w A q E (insL E n) (outsL E n)) (hn : n ≤ 10) (hE : ∀ e ∈ E, okEdge n e) (hl : E.length ≤ 1000000) (o : Option Addr) (c : Nat) (ts : List Int) (ht : Nums w B o ts)
    (oS : Option Addr) (cS : Nat) (sl : List Slt) (hS : SlIn w C oS sl) (hsl : sl.length ≤ 1000) (hN : ∀ s ∈ sl, s.nodes.length ≤ 1000) (oU : Option Addr) (cU : Nat) (us : List Un) (hU : Uns w D oU us) (hul : us.length ≤ 64) (all : List (List Int)) (hall : all = costP E (wOf ts) n (sl.map Slt.pure) us) :
    Calls Try.prog 22 #[.pointer (some ⟨q, 0, none⟩), .slice o ts.length c, .slice oS sl.length cS, .slice oU us.length cU] w fun e w' => ∃ o1 c1 g, e = .returned (.tuple #[.slice o1 (colsN all us.length).length c1, .slice (some ⟨g, 0, none⟩) sl.length sl.length]) ∧
      Own w' (hs w) 29 10 o1 (colsN all us.length).length c1 (((colsN all us.length).map (uAt us)).flatMap encUn) ∧ Mat w' (fun b => hs w ≤ b) (some ⟨g, 0, none⟩) (subP all (colsN all us.length)) ∧ Grow w w' := by
  refine nf22 (some ⟨q, 0, none⟩) o ts.length c oS sl.length cS oU us.length cU w _ ((cost_c hG hn hE hl o c ts ht oS cS sl hS hsl hN oU cU us hU (by omega)).mono ?_)
  rintro _ w2 ⟨g, rfl, hm2, g2⟩
  rw [← hall] at hm2
  have hal : all.length = sl.length := by rw [hall]; unfold costP; simp
  have hmr : ∀ r ∈ all, r.length = us.length := fun r hr => by
    rw [hall] at hr
    unfold costP at hr
    obtain ⟨s, -, e⟩ := List.mem_map.1 hr
    rw [← e]; simp
  have hrl : ∀ (i : Nat) (hi : i < all.length), all[i].length = us.length := fun i hi => hmr _ (List.getElem_mem hi)
  clear hall
  have z2 := g2.size
  refine ⟨_, _, _, rfl, fun m o11 n12 c13 x w' => ∃ j : Nat, x = (j : Int) ∧ j ≤ us.length ∧ m = us.length - j ∧ n12 = (colsN all j).length ∧ Own w' (hs w2) 3 1 o11 n12 c13 (intsV (natsI (colsN all j))) ∧ Grow w2 w', ⟨_, 0, rfl, Nat.zero_le _, rfl, rfl, own_nil _ _ _ _, Only.refl _ _⟩, ?_⟩
  rintro m _ w10 o11 n12 c13 _ ⟨j, rfl, hj, rfl, rfl, own10, g10⟩
  have lenc := colsN_len all j
  refine ⟨fun hlt k17 hk => ?_, fun hge => ?_⟩
  · have hlt : j < us.length := by have := dT hlt; omega
    have hsucc := colsN_succ all j
    refine ⟨fun m o31 n32 c33 x w' => ∃ i : Nat, x = (i : Int) ∧ i ≤ sl.length ∧ m = sl.length - i ∧ o31 = o11 ∧ n32 = (colsN all j).length ∧ c33 = c13 ∧ w' = w10 ∧ ∀ (i' : Nat) r, i' < i → all[i']? = some r → at1 r j = FarT, ⟨_, 0, rfl, Nat.zero_le _, rfl, rfl, rfl, rfl, rfl, fun i' r h => by omega⟩, ?_⟩
    rintro m _ w30 o31 n32 c33 _ ⟨i, rfl, hi, rfl, rfl, rfl, rfl, rfl, hno⟩
    refine ⟨fun hlt2 => ?_, fun hge2 => hk _ _ _ _ fun _ => ?_⟩
    · have hlt2 : i < sl.length := by have := dT hlt2; omega
      have hia : i < all.length := by omega
      obtain ⟨a, oi, ci, ha, hc, hn'⟩ := (hm2.grow g10).get hia
      have hli := hrl i hia
      obtain ⟨a2, ha2, hc2⟩ := hn'.get (j := j) (by omega)
      have hat1 : at1 all[i] j = all[i][j]'(by omega) := by unfold at1; rw [List.getElem?_eq_getElem (by omega)]; rfl
      rw [← hat1] at hc2
      refine ⟨a, ha, ⟨by omega, by omega⟩, _, _, _, hc, a2, ha2, ⟨by omega, by omega⟩, _, hc2, fun hne w44 e44 => ?_, fun heq => ⟨_, by omega, i + 1, by rw [wr (by omega)]; omega, hlt2, rfl, rfl, rfl, rfl, rfl, fun i' r h hr => ?_⟩⟩
      · have hne := nT hne
        have huse : useful all j = true := List.any_eq_true.2 ⟨_, List.getElem_mem hia, decide_eq_true hne⟩
        rw [huse] at hsucc
        have g44 : Grow w30 w44 := only_alloc e44
        have z44 := g44.size
        have z10 := g10.size
        refine push_int (own10.grow g44) (Row.new e44) (by omega) (by omega) fun o48 c50 w47 p1 p2 => ⟨_, _, _, rfl, hk _ _ _ _ fun _ => ?_⟩
        refine ⟨_, by omega, j + 1, by rw [wr (by omega)]; omega, hlt, rfl, by rw [hsucc]; simp, ?_, (g10.trans' g44).trans p2 fun b hb e => by have := (own10.base b e).1; omega⟩
        rw [hsucc]
        have : natsI (colsN all j ++ if true = true then [j] else []) = natsI (colsN all j) ++ [(j : Int)] := by simp [natsI]
        rw [this]
        exact p1
      · by_cases e : i' = i
        · subst e
          rw [List.getElem?_eq_getElem hia] at hr
          cases hr
          exact nF heq
        · exact hno i' r (by omega) hr
    · have hil : i = sl.length := by have := dF hge2; omega
      have huse : useful all j = false := by
        rw [← Bool.not_eq_true]
        intro h
        obtain ⟨r, hr, hd⟩ := List.any_eq_true.1 h
        obtain ⟨i', hi', rfl⟩ := List.getElem_of_mem hr
        exact (of_decide_eq_true hd) (hno i' _ (by omega) (List.getElem?_eq_getElem hi'))
      rw [huse] at hsucc
      simp only [Bool.false_eq_true, if_false, List.append_nil] at hsucc
      exact ⟨_, by omega, j + 1, by rw [wr (by omega)]; omega, hlt, rfl, by rw [hsucc], by rw [hsucc]; exact own10, g10⟩
  have hjl : j = us.length := by have := dF hge; omega
  subst hjl
  obtain ⟨cols, hcols⟩ : ∃ cols, cols = colsN all us.length := ⟨_, rfl⟩
  have hclt : ∀ j ∈ cols, j < us.length := fun j hj => colsN_lt (hcols ▸ hj)
  rw [← hcols] at own10 lenc ⊢
  clear hcols
  have nl : (natsI cols).length = cols.length := by simp [natsI]
  have hnum : ∀ {k : Nat} (hk : k < cols.length), (natsI cols)[k]'(by omega) = ((cols[k] : Nat) : Int) := fun hk => by simp [natsI]
  refine (lim42 o11 cols.length c13 (by omega) own10.le w10).mono ?_
  rintro _ _ ⟨rfl, rfl⟩
  have G10 := g2.trans' g10
  have z10 := g10.size
  refine ⟨_, _, _, rfl, fun m o65 n66 c67 x w' => ∃ k : Nat, x = (k : Int) ∧ k ≤ cols.length ∧ m = cols.length - k ∧ n66 = k ∧ Own w' (hs w10) 29 10 o65 n66 c67 (((cols.take k).map (uAt us)).flatMap encUn) ∧ Grow w10 w', ⟨_, 0, rfl, Nat.zero_le _, rfl, rfl, own_nil _ _ _ _, Only.refl _ _⟩, ?_⟩
  rintro m _ w64 o65 k c67 _ ⟨_, rfl, hk, rfl, rfl, own64, g64⟩
  have z64 := g64.size
  refine ⟨fun hlt => ?_, fun hge => ?_⟩
  · have hlt : k < cols.length := by have := dT hlt; omega
    obtain ⟨a, ha, hc⟩ := (own10.grow g64).nums.get (j := k) (by omega)
    rw [hnum hlt] at hc
    have hjl := hclt _ (List.getElem_mem hlt)
    have htk := List.take_succ_eq_append_getElem hlt
    generalize cols[k] = j at *
    have hat := List.getElem?_eq_getElem hjl
    obtain ⟨a2, ha2, -, hd, hd0⟩ := Recs.atE (hU.grow (G10.trans' g64)) hat
    have hua : uAt us j = us[j] := by unfold uAt; rw [hat]; rfl
    generalize us[j] = u at *
    refine ⟨a, ha, ⟨by omega, by omega⟩, _, hc, a2, ha2, ⟨by omega, by omega⟩, _, hd0 _ rfl, _, hd 1 _ rfl, _, hd 2 _ rfl, _, hd 3 _ rfl, _, hd 4 _ rfl, _, hd 5 _ rfl, _, hd 6 _ rfl, _, hd 7 _ rfl, _, hd 8 _ rfl, _, hd 9 _ rfl, fun w84 e84 => ?_⟩
    have g84 : Grow w64 w84 := only_alloc e84
    have z84 := g84.size
    refine append_recs' (f := encUn) (ys := [u]) encUn_len rfl elem24 (by decide) (own64.grow g84) (rec_one encUn_len (by decide) (Row.new e84)) (one_encUn [u]) (by simp only [maxLen]; omega) (by omega) (by omega) fun o' c' w' p1 p2 => ⟨_, _, _, rfl, ?_⟩
    refine ⟨_, by omega, k + 1, by rw [wr (by omega)]; omega, hlt, rfl, rfl, ?_, (g64.trans' g84).trans p2 fun b hb e => by have := (own64.base b e).1; omega⟩
    rw [htk, List.map_append, List.map_singleton, hua]
    exact p1
  have hkl : k = cols.length := by have := dF hge; omega
  subst hkl
  rw [List.take_length] at own64
  have G64 := G10.trans' g64
  refine make_g (by omega) fun w94 G94 g94 z94 => ⟨_, _, _, rfl, ?_⟩
  obtain ⟨gg, hgg⟩ : ∃ gg, gg = hs w64 := ⟨_, rfl⟩
  rw [← hgg] at G94 ⊢
  refine ⟨fun m x w' => ∃ (i : Nat) (rows : List (List Int)) (M : Nat → Prop), x = (i : Int) ∧ i ≤ sl.length ∧ m = sl.length - i ∧ Grid w' M 32 2 gg rows ∧ (∀ b, M b → hs w64 ≤ b) ∧ rows = (all.take i).map (fun r => cols.map (at1 r)) ++ List.replicate (sl.length - i) [] ∧ Grow w64 w',
    ⟨_, 0, _, _, rfl, Nat.zero_le _, rfl, G94, fun b hb => by omega, by simp, g94⟩, ?_⟩
  rintro m _ w102 _ ⟨i, rows, M, rfl, hi, rfl, hGr, hM, hrows, g102⟩
  have hrowsl : rows.length = sl.length := by rw [hrows, List.length_append, List.length_map, List.length_take, List.length_replicate]; omega
  refine ⟨fun hlt => ?_, fun hge => ?_⟩
  rotate_left
  · have hil : i = all.length := by have := dF hge; omega
    subst hil
    rw [List.take_length, show sl.length - all.length = 0 from by omega, List.replicate_zero, List.append_nil] at hrows
    refine ⟨o65, c67, gg, rfl, (own64.grow g102).mono (by omega), ?_, G64.trans' g102⟩
    rw [show subP all cols = rows from by rw [hrows]; rfl]
    intro j row hj
    obtain ⟨a, oi, ci, h1, h2, h3, h4⟩ := grid_mat hGr j row hj
    have zz := G64.size
    exact ⟨a, oi, ci, h1, by have := hM _ h2; omega, h3, fun j' v hj' => by
      obtain ⟨a', k1, k2, k3⟩ := h4 j' v hj'
      exact ⟨a', k1, by have := hM _ k2; omega, k3⟩⟩
  have hlt : i < sl.length := by have := dT hlt; omega
  have hia : i < all.length := by omega
  have htk := List.take_succ_eq_append_getElem hia
  have lenA : ((all.take i).map (fun r => cols.map (at1 r))).length = i := by rw [List.length_map, List.length_take]; omega
  have hri : rows[i]? = some [] := by
    rw [hrows, List.getElem?_append_right (by omega), lenA, Nat.sub_self, List.getElem?_replicate, if_pos (by omega)]
  refine ⟨fun m x w' => ∃ (k : Nat) (M : Nat → Prop), x = (k : Int) ∧ k ≤ cols.length ∧ m = cols.length - k ∧ Grid w' M 32 2 gg (rows.set i ((cols.take k).map (at1 all[i]))) ∧ (∀ b, M b → hs w64 ≤ b) ∧ Grow w64 w', ⟨_, 0, M, rfl, Nat.zero_le _, rfl, ?_, hM, g102⟩, ?_⟩
  · have : rows.set i ((cols.take 0).map (at1 all[i])) = rows := by
      apply List.ext_getElem?
      intro k
      by_cases e : i = k
      · subst e; rw [List.getElem?_set_self (by omega), hri]; rfl
      · rw [List.getElem?_set_ne e]
    rw [this]
    exact hGr
  rintro m _ w110 _ ⟨k, M', rfl, hk, rfl, hGr', hM', g110⟩
  have hz110 := g110.size
  refine ⟨fun hlt2 => ?_, fun hge2 => ?_⟩
  rotate_left
  · have hkl : k = cols.length := by have := dF hge2; omega
    subst hkl
    rw [List.take_length] at hGr'
    refine ⟨_, by omega, i + 1, _, M', by rw [wr (by omega)]; omega, hlt, rfl, hGr', hM', ?_, g110⟩
    rw [hrows, htk, List.map_append, List.set_append_right _ _ (by omega), lenA, Nat.sub_self, show sl.length - i = (sl.length - (i + 1)) + 1 from by omega, List.replicate_succ, List.set_cons_zero, List.append_assoc]
    rfl
  have hlt2 : k < cols.length := by have := dT hlt2; omega
  obtain ⟨a, ha, hc⟩ := ((own10.grow g64).grow g110).nums.get (j := k) (by omega)
  rw [hnum hlt2] at hc
  have hjl := hclt _ (List.getElem_mem hlt2)
  have htk2 := List.take_succ_eq_append_getElem hlt2
  generalize cols[k] = j at *
  refine ⟨a, ha, ⟨by omega, by omega⟩, _, hc, fun w116 e116 => ?_⟩
  have g116 : Grow w110 w116 := only_drew e116
  have G116 := hGr'.grow g116
  have hset : (rows.set i ((cols.take k).map (at1 all[i])))[i]'(by rw [List.length_set]; omega) = (cols.take k).map (at1 all[i]) := List.getElem_set_self _
  obtain ⟨og, cg, hcg, owng, hing⟩ := grid_get G116 (i := i) (by rw [List.length_set]; omega)
  obtain ⟨am, oim, cim, ham, hcm, hnm⟩ := (hm2.grow ((g10.trans' g64).trans' (g110.trans' g116))).get hia
  have hli := hrl i hia
  obtain ⟨a2, ha2, hc2⟩ := hnm.get (j := j) (by omega)
  have hat1 : at1 all[i] j = all[i][j]'(by omega) := by unfold at1; rw [List.getElem?_eq_getElem (by omega)]; rfl
  rw [← hat1] at hc2
  refine ⟨_, rfl, ⟨by omega, by omega⟩, _, _, _, hcg, am, ham, ⟨by omega, by omega⟩, _, _, _, hcm, a2, ha2, ⟨by omega, by omega⟩, _, hc2, fun w128 e128 => ?_⟩
  have g128 : Grow w116 w128 := only_alloc e128
  have G128 := G116.grow g128
  have z128 := g128.size
  have z116 := g116.size
  have lrow : ((rows.set i ((cols.take k).map (at1 all[i])))[i]'(by rw [List.length_set]; omega)).length = k := by rw [hset, List.length_map, List.length_take]; omega
  have hcg' : w128.cell? ((⟨gg, 0, none⟩ : Addr).add ((i : Int).toNat * 1)) = some (.slice og ((rows.set i ((cols.take k).map (at1 all[i])))[i]'(by rw [List.length_set]; omega)).length cg) := by
    refine cell_keep g128 (fun h => h) hcg
  have hgl : gg < hs w116 := G116.lt _ G116.memg
  refine ⟨kept_addr g128 (by rw [block_add1]; exact hgl) (fun h => h), grid_push elem32 G128 (i := i) (by rw [List.length_set]; omega) hcg' (Row.new e128) (by rw [lrow]; simp only [maxLen]; omega) (by rw [lrow]; omega) fun o132 c134 w131 hth g131 hgr => ⟨_, _, _, rfl, _, rfl, ⟨by omega, by omega⟩, hth, fun w136 e136 => ?_⟩⟩
  obtain ⟨G136, o136⟩ := hgr w136 e136
  refine ⟨_, by omega, k + 1, fun b => M' b ∨ (hs w128 ≤ b ∧ b < hs w136), by rw [wr (by omega)]; omega, hlt2, rfl, ?_, fun b hb => ?_, ((g110.trans' g116).trans' g128).trans o136 fun b hb e => by have := hM' b e; omega⟩
  · rw [hset, List.set_set] at G136
    rw [htk2, List.map_append, List.map_singleton]
    exact G136
  · rcases hb with hb | hb
    · exact hM' b hb
    · omega
end Go.Proofs.Ytcaokpglbolkcaa
