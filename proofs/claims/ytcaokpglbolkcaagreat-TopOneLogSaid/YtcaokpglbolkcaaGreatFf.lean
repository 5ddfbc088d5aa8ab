/- TopOneLog holds: the turns of the law, walked. -/
import Derived.Test.YtcaokpglbolkcaaGreatFe
namespace Go.Proofs.YtcaokpglbolkcaaGreat
open Go Go.Nf Go.RowKit Go.MapKept

section
variable {s : PN} {now : Nat} {m : Msg}
theorem len_all (s : PN) : (sendAll s).length ≤ 9 := by unfold sendAll; rw [List.length_map]; exact others_len s
theorem len_lead : (leadS s now).2.length ≤ 9 := len_all _
theorem len_tick : (tickS s now).2.length ≤ 9 := by
  unfold tickS tickT
  split
  · split
    · exact len_all _
    · exact Nat.zero_le _
  · split
    · unfold startS
      split
      · exact len_lead
      · rw [List.length_map]; exact others_len _
    · exact Nat.zero_le _
theorem len_replied : (repliedS s m).2.length ≤ 9 := by
  unfold repliedS
  split
  · show 1 ≤ 9; decide
  · split
    · exact Nat.zero_le _
    · split
      · exact Nat.zero_le _
      · split
        · exact len_all _
        · split
          · show 1 ≤ 9; decide
          · exact Nat.zero_le _
theorem len_handle : (handleS s m now).2.length ≤ 9 := by
  unfold handleS
  split
  · unfold requestedS
    split
    · show 1 ≤ 9; decide
    · show 1 ≤ 9; decide
  · split
    · split
      · split
        · exact len_lead
        · exact Nat.zero_le _
      · exact Nat.zero_le _
    · split
      · split
        · exact Nat.zero_le _
        · unfold receiveS
          split
          · show 1 ≤ 9; decide
          · show 1 ≤ 9; decide
      · split
        · exact len_replied
        · exact Nat.zero_le _
theorem len_step : (stepS s m now).2.length ≤ 9 := by
  unfold stepS stepT
  split
  · exact Nat.zero_le _
  · split
    · unfold refuseS
      split
      · show 1 ≤ 9; decide
      · split
        · show 1 ≤ 9; decide
        · exact Nat.zero_le _
    · split
      · exact len_handle
      · exact len_handle
theorem len_propose {body : List UInt8} : (proposeS s body).2.length ≤ 9 := by
  unfold proposeS
  split
  · exact len_all _
  · exact Nat.zero_le _
theorem len_change {next : List Nat} : (changeS s next).2.length ≤ 9 := by
  unfold changeS
  split
  · exact len_all _
  · exact Nat.zero_le _
end
section
variable {w0 w w' : World} {nn c0 r b : Nat} {W E : Nat → Prop} {nd : Nat → Nd} {PB : Nat → Nat} {all ms : List Msg} {es : List Ent} {fo ao : Option Addr} {fn fc an ac : Nat} {g : G}
/-- a node's call, and its messages put behind -/
theorem LS.act {i : Nat} {s' : PN} {out : List Msg} {o : Option Addr} {c bi b' : Nat} {K : Value → World → Prop} (h : LS w0 w nn c0 r W E nd PB b all ms es fo fn fc ao an ac g) (hi : i < nn) (hd : Did w (nd i).N (nd i).D (nd i).p (nd i).t s' out ((nd i).k + 50) o c w')
    (st : Steps conf3 g (nd i).s s' out) (hg : Good s' ((nd i).k + 50) bi ∧ Outs s' out) (hl : out.length ≤ 9) (hf : fn ≤ 2000) (hb1 : PB i + 1 ≤ 600) (hb2 : bi ≤ PB i + 1) (hb3 : bi ≤ b') (hb4 : b ≤ b')
    (hK : ∀ o' c' w' W' E' nd' g' all', LS w0 w' nn c0 r W' E' nd' (fun j => if j = i then PB i + 1 else PB j) b' all' (ms ++ out) es o' (fn + out.length) c' ao an ac g' → K (.slice o' (fn + out.length) c') w') :
    RunOk Tryz.prog (Hold (Builtin.append_ #[35, 35] 35 #[.slice fo fn fc, .slice o out.length c])) w' K := by
  obtain ⟨x, E', g', h', hm, hc, hE, ep, hO⟩ := h.did hi hd st hg.1 hg.2 hb1 hb2 hb3 hb4
  exact h'.more hm (fun m hm => List.mem_append_right _ hm) (by omega) fun o' c' w' W' h2 hW hO => hK o' c' w' W' E' (updN nd i x) g' _ h2
theorem LS.apN (h : LS w0 w nn c0 r W E nd PB b all ms es fo fn fc ao an ac g) {i : Nat} (hi : i < nn) : ∀ b, E b → ¬ (nd i).N b ∧ b < hs w := fun b hb => ⟨fun k => (h.net.nz i hi b k).2.2 hb, h.net.ez b hb⟩
theorem LS.role1 (h : LS w0 w nn c0 r W E nd PB b all ms es fo fn fc ao an ac g) {i : Nat} (hi : i < nn) : (nd i).s.role = 3 → 1 ≤ (nd i).s.term := fun e => (h.good i hi).1.r (by omega)
theorem LS.liveI (h : LS w0 w nn c0 r W E nd PB b all ms es fo fn fc ao an ac g) {i : Nat} (hi : i < nn) : Live conf3 g (nd i).s ∧ (nd i).s.id = i := h.sys.live i hi
/-- a block of the caller's own to be read from now on -/
theorem LS.mark {bb : Nat} (h : LS w0 w nn c0 r W E nd PB b all ms es fo fn fc ao an ac g) {w1 : World} (g1 : Grow w w1) (h1 : hs w ≤ bb) (h2 : bb < hs w1) : LS w0 w1 nn c0 r W (fun x => E x ∨ x = bb) nd PB b all ms es fo fn fc ao an ac g :=
  (h.grow g1).read (fun x hx => hx.imp id fun e => by subst e; exact ⟨h2, fun k => by have := (h.net.wz x k).2.1; omega, fun j hj k => by have := h.net.lt hj x (.inl k); omega⟩) fun x hx => .inl hx
end
def prowP (n j : Nat) (f : Nat → Nat) : List Value := prow j f ++ List.replicate (n - j) (.pointer none)
theorem prowP_full (n : Nat) (f : Nat → Nat) : prowP n n f = prow n f := by unfold prowP; rw [Nat.sub_self]; simp
theorem prowP_len {n j : Nat} (h : j ≤ n) (f : Nat → Nat) : (prowP n j f).length = n := by unfold prowP; rw [List.length_append, prow_len, List.length_replicate]; omega
theorem prowP_set {n j x : Nat} {f : Nat → Nat} (h : j < n) : setFrom (prowP n j f) j [.pointer (some ⟨x, 0, none⟩)] = prowP n (j + 1) fun i => if i = j then x else f i := by
  unfold prowP
  have h1 := setFrom_right [.pointer (some ⟨x, 0, none⟩)] (prow j f) (List.replicate (n - j) (Value.pointer none)) 0
  rw [prow_len, Nat.add_zero] at h1
  rw [h1, show n - j = n - (j + 1) + 1 by omega, List.replicate_succ]
  have e : prow (j + 1) (fun i => if i = j then x else f i) = prow j f ++ [.pointer (some ⟨x, 0, none⟩)] := by
    unfold prow
    rw [List.range_succ, List.map_append]
    congr 1
    · refine List.map_congr_left fun a ha => ?_
      show Value.pointer (some ⟨(if a = j then x else f a), 0, none⟩) = .pointer (some ⟨f a, 0, none⟩)
      rw [if_neg (by have := List.mem_range.1 ha; omega)]
    · simp
  rw [e, List.append_assoc]; rfl
theorem prowP_upd {n j p : Nat} {nd : Nat → Nd} {x : Nd} (e : x.p = p) : (prowP n (j + 1) fun i => if i = j then p else (nd i).p) = prowP n (j + 1) fun i => (updN nd j x i).p := by
  unfold prowP prow
  congr 1
  refine List.map_congr_left fun a _ => ?_
  show Value.pointer (some ⟨(if a = j then p else (nd a).p), 0, none⟩) = .pointer (some ⟨(updN nd j x a).p, 0, none⟩)
  by_cases h : a = j
  · subst h; rw [updN_self, if_pos rfl, e]
  · rw [updN_ne nd x h, if_neg h]
theorem prowP_updT {n j t : Nat} {nd : Nat → Nd} {x : Nd} (e : x.t = t) : (prowP n (j + 1) fun i => if i = j then t else (nd i).t) = prowP n (j + 1) fun i => (updN nd j x i).t := by
  unfold prowP prow
  congr 1
  refine List.map_congr_left fun a _ => ?_
  show Value.pointer (some ⟨(if a = j then t else (nd a).t), 0, none⟩) = .pointer (some ⟨(updN nd j x a).t, 0, none⟩)
  by_cases h : a = j
  · subst h; rw [updN_self, if_pos rfl, e]
  · rw [updN_ne nd x h, if_neg h]
theorem prowP_at {n j i : Nat} {f : Nat → Nat} (h : i < j) : (prowP n j f)[i]? = some (.pointer (some ⟨f i, 0, none⟩)) := by
  unfold prowP
  rw [List.getElem?_append_left (by rw [prow_len]; exact h), prow_at h]
theorem arr_set {w w1 : World} {b T i : Nat} {l : List Value} {v : Value} (r : Row w b T l) (e : w1 = setCells w (Addr.add (⟨b, 0, none⟩ : Addr) ((i : Int).toNat * 1)) [v] 0) : Row w1 b T (setFrom l i [v]) ∧ Only (fun k => k = b) w w1 := by
  rw [Addr.add_lit, toNat_cast, Nat.mul_one, Nat.zero_add] at e
  exact ⟨r.set e, only_set e⟩
theorem arr_there {w : World} {b T i : Nat} {l : List Value} (r : Row w b T l) (h : i < l.length) : There w (Addr.add (⟨b, 0, none⟩ : Addr) ((i : Int).toNat * 1)) 1 := by
  rw [Addr.add_lit, toNat_cast, Nat.mul_one, Nat.zero_add]; exact r.there (by omega)
/-- the nodes that are open so far -/
structure Opening (w0 w : World) (nn j : Nat) (nd : Nat → Nd) : Prop where
  net : Net w (hs w0) j (fun b => b = hs w0 + 2 ∨ b = hs w0 + 3) (fun b => b = hs w0 ∨ b = hs w0 + 1) nd
  gw : Grow w0 w
  old : Row w (hs w0) 3 [.int .i64 0, .int .i64 1, .int .i64 2]
  conf : Row w (hs w0 + 1) 26 [.slice (some ⟨hs w0, 0, none⟩) 3 3, .slice none 0 0]
  pr : Row w (hs w0 + 2) 54 (prowP nn j fun i => (nd i).p)
  tr : Row w (hs w0 + 3) 55 (prowP nn j fun i => (nd i).t)
  st : ∀ i, i < j → (nd i).s = openS i (8 + 2 * i) 2 conf3 0 none [] 0 ∧ (nd i).k = 0
theorem mod7 (k : Nat) : Int.tmod (k : Int) 7 = ((k % 7 : Nat) : Int) := tmodN k 7
theorem mod5 (k : Nat) : Int.tmod (k : Int) 5 = ((k % 5 : Nat) : Int) := tmodN k 5
theorem wrapB (k : Nat) (h : k < 256) : IntKind.wrap .i64 (k : Int) = (k : Int) := wr (by omega)
set_option maxHeartbeats 8000000 in
theorem law4_c {A : Nat → Prop} {l : Option Addr} {n c : Nat} (w : World) (h : TurnsAt w A l n) (hA : ∀ b, A b → b < hs w) : Calls Tryz.prog 4 #[.slice l n c] w fun e w' => e = .returned (.bool true) ∧ Grow w w' := by
  refine nf4 l n c w _ ((awake_c w).mono ?_)
  rintro _ w2 ⟨rfl, e2⟩
  have e2 := e2.symm
  subst e2
  refine ⟨_, rfl, bT ⟨fun hgt => ⟨rfl, Only.refl _ _⟩, fun hle => ?_⟩⟩
  have hn250 : n ≤ 250 := by have := dF hle; omega
  intro w7 e7 w9 e9
  have r7 := Row.new (l := [.int .i64 0, .int .i64 1, .int .i64 2]) e7
  have z7 := hs_alloc e7
  refine ⟨(Row.new (l := [_, _]) e9).there (by simp), fun w11 e11 w13 e13 w15 e15 => ?_⟩
  have z9 := hs_alloc e9
  have g7 : Grow w w7 := only_alloc e7
  obtain ⟨r11, g11⟩ := loc (l := [_, _]) (vs := [.slice (some ⟨hs w, 0, none⟩) 3 3, .slice none 0 0]) e9 e11 rfl
  have z11 : hs w11 = hs w9 := by
    rw [e11]
    exact (setCells_facts _ _ _ _).2.2.2.1
  have r13 := Row.new (l := [.pointer none, .pointer none, .pointer none, .pointer none, .pointer none]) e13
  have z13 := hs_alloc e13
  have g13 : Grow w11 w13 := only_alloc e13
  have r15 := Row.new (l := [.pointer none, .pointer none, .pointer none, .pointer none, .pointer none]) e15
  have z15 := hs_alloc e15
  have g15 : Grow w13 w15 := only_alloc e15
  have x7 : hs w7 = hs w + 1 := z7
  have x11 : hs w11 = hs w + 2 := by omega
  have x13 : hs w13 = hs w + 3 := by omega
  rw [x7] at r11
  rw [x11] at r13
  rw [x13] at r15
  rw [x7, x11, x13]
  have zz : hs w15 = hs w + 4 := by omega
  have op0 : Opening w w15 5 0 (fun _ => ⟨0, 0, fun _ => False, fun _ => False, openS 0 0 0 conf3 0 none [] 0, 0⟩) := by
    refine ⟨⟨fun i hi => (by omega), fun i j hi => (by omega), fun i hi => (by omega), fun i hi => (by omega), fun b hb => ⟨by omega, by omega, by omega⟩, fun b hb => by omega⟩, ((g7.trans' g11).trans' g13).trans' g15, ((r7.grow g11).grow g13).grow g15, (r11.grow g13).grow g15, r13.grow g15, r15, fun i hi => (by omega)⟩
  refine ⟨fun kk x w' => ∃ (j : Nat) (nd : Nat → Nd), x = (j : Int) ∧ j ≤ 5 ∧ kk = 5 - j ∧ Opening w w' 5 j nd, ⟨_, 0, _, rfl, by decide, rfl, op0⟩, ?_⟩
  clear op0
  rintro kk _ w21 x ⟨j, nd, rfl, hj, rfl, op⟩
  have s5 : ∀ j : Nat, j < 5 → (0 : Int) ≤ (j : Int) ∧ (j : Int) < 5 := fun j hj => ⟨by omega, by omega⟩
  refine ⟨fun hlt => ?_, fun hge => ?_⟩
  · have hlt : j < 5 := by have := dT hlt; omega
    refine (storageNew_c w21).mono ?_
    rintro _ w26 ⟨rfl, f26, g26, z26⟩
    have bz := op.gw.size
    have pz := op.tr.lt
    refine ⟨_, rfl, s5 j hlt, arr_there (op.tr.grow g26) (by rw [prowP_len hj]; exact hlt), fun w28 e28 => ?_⟩
    obtain ⟨t28, o28⟩ := arr_set (op.tr.grow g26) e28
    rw [prowP_set hlt] at t28
    have z28 := o28.size
    intro w30 e30
    have g30 : Grow w28 w30 := only_drew e30
    have z30 := g30.size
    have c30 := ((op.conf.grow g26).keep o28 (by omega)).grow g30
    have l30 := ((op.old.grow g26).keep o28 (by omega)).grow g30
    have p30 := ((op.pr.grow g26).keep o28 (by omega)).grow g30
    have t30 := t28.grow g30
    have f30 := (f26.keep o28 (by intro b hb e; omega)).grow g30
    have ew : IntKind.wrap .i64 (8 + IntKind.wrap .i64 (2 * (j : Int))) = ((8 + 2 * j : Nat) : Int) := by rw [wr (x := 2 * (j : Int)) (by omega), wr (by omega)]; omega
    refine ⟨_, _, _, c30.cell rfl, _, _, _, c30.cell rfl, s5 j hlt, _, cell_arr t30 (prowP_at (Nat.lt_succ_self j)), ?_⟩
    rw [ew, if_pos rfl]
    refine (open_c (c := conf3) (ops := []) (k := 0) (id := j) (wait := 8 + 2 * j) (beat := 2) (now := 0) (A := fun b => b = hs w) permit3 (by omega) (by omega) (by unfold MaxT; omega) (by omega) (by unfold MaxT; omega) (by unfold MaxT; omega) f30 (Nat.zero_le _) (fun i o hi => (by simp at hi)) (Nat.le_refl _) (by omega) ⟨row_ints (xs := [0, 1, 2]) l30, ints_nil _ _ _⟩ (fun b hb => ⟨by have := l30.lt; omega, by omega⟩)).mono ?_
    rintro _ w40 ⟨p, N, D, rfl, n40, o40, hN, hD⟩
    have z40 := o40.size
    have O : Only (fun b => b = hs w + 2 ∨ b = hs w + 3) w21 w40 := by
      refine (((Grow.only g26).trans' (o28.mono fun b _ hb => .inr hb)).trans' (Grow.only g30)).trans o40 fun b hb k => ?_
      omega
    have net40 := op.net.add (x := ⟨p, hs w21, N, D, openS j (8 + 2 * j) 2 conf3 0 none [] 0, 0⟩) bz O n40 (fun b hb => (hN b hb).elim (fun k => by omega) fun k => by omega) fun b hb => by have := hD b hb; omega
    have nF : ∀ b, b < hs w21 → ¬ b = hs w21 := fun b hb e => by omega
    have c40 := c30.keep o40 (nF _ (by omega))
    have l40 := l30.keep o40 (nF _ (by omega))
    have p40 := p30.keep o40 (nF _ (by omega))
    have t40 := t30.keep o40 (nF _ (by omega))
    refine ⟨_, _, rfl, s5 j hlt, arr_there p40 (by rw [prowP_len hj]; exact hlt), fun w43 e43 => ?_⟩
    obtain ⟨p43, o43⟩ := arr_set p40 e43
    rw [prowP_set hlt] at p43
    have z43 := o43.size
    refine ⟨s5 j hlt, _, cell_arr p43 (prowP_at (Nat.lt_succ_self j)), bF ⟨_, by omega, j + 1, updN nd j ⟨p, hs w21, N, D, openS j (8 + 2 * j) 2 conf3 0 none [] 0, 0⟩, by rw [wr (by omega)]; omega, hlt, rfl, ⟨net40.own (o43.mono fun b _ hb => .inl hb) fun b hb => .inl hb, ?_, l40.keep o43 (by omega), c40.keep o43 (by omega), ?_, ?_, fun i hi => ?_⟩⟩⟩
    · exact (op.gw.trans O fun b hb k => by omega).trans o43 fun b hb k => by omega
    · rw [← prowP_upd (p := p) rfl]; exact p43
    · have := t40.keep o43 (by omega)
      rw [← prowP_updT (t := hs w21) rfl]; exact this
    · by_cases e : i = j
      · subst e; rw [updN_self]; exact ⟨rfl, rfl⟩
      · rw [updN_ne nd _ e]; exact op.st i (by omega)
  have : j = 5 := by have := dF hge; omega
  subst this
  intro w50 e50
  have bz := op.gw.size
  have pz := op.tr.lt
  have lead50 : LeadAt w50 (hs w21) fun T i => G0.el T = some i := lead_new e50
  have g50 : Grow w21 w50 := only_alloc e50
  have z50 := hs_alloc e50
  have hpr := op.pr.grow g50
  have htr := op.tr.grow g50
  rw [prowP_full] at hpr htr
  have net50 : Net w50 (hs w) 5 (fun b => b = hs w + 2 ∨ b = hs w21) (fun b => b = hs w ∨ b = hs w + 1 ∨ b = hs w + 3) nd := by
    have h1 := op.net.own (W' := fun b => (b = hs w + 2 ∨ b = hs w + 3) ∨ b = hs w21) (Grow.only g50) fun b hb => hb.imp id fun e => ⟨by omega, by omega, by omega⟩
    exact h1.re (fun b hb => hb.elim (fun e => .inl (.inl e)) .inr) (fun b hb => by omega) fun b hb => by omega
  have sys50 : Sys conf3 G0 (fun j => (nd j).s) 5 [] := ⟨fun j hj => by
    show Live conf3 G0 (nd j).s ∧ (nd j).s.id = j
    rw [(op.st j hj).1]
    exact ⟨live0 permit3 j _ _, rfl⟩, fun m hm => (by cases hm)⟩
  have ls50 : LS w w50 5 (hs w) (hs w21) (fun b => b = hs w + 2 ∨ b = hs w21) (fun b => b = hs w ∨ b = hs w + 1 ∨ b = hs w + 3) nd (fun _ => 0) 0 [] [] [] none 0 0 none 0 0 G0 := by
    refine ⟨net50, op.gw.trans' g50, ⟨op.conf.grow g50, .inr (.inl rfl)⟩, ⟨op.old.grow g50, .inl rfl⟩, ⟨hpr, .inl rfl⟩, ⟨htr, .inr (.inr rfl)⟩, fly0 _ _ _, agr0 _ _ _, ⟨lead50, .inr rfl⟩, sys50, .inl rfl, fun j hj => ?_, fun m hm => (by cases hm), fun m hm => (by cases hm)⟩
    obtain ⟨q1, q2⟩ := op.st j hj
    rw [q1, q2]
    exact ⟨good0 permit3 (by omega) (by unfold MaxT; omega) (by unfold MaxT; omega), by omega⟩
  generalize hs w21 = r at *
  clear net50 sys50 lead50 hpr htr
  refine ⟨fun kk x57 o58 n59 n60 o61 n62 n63 x64 w' => ∃ (i now : Nat) (W E : Nat → Prop) (nd : Nat → Nd) (all ms : List Msg) (es : List Ent) (g : G), x64 = (i : Int) ∧ x57 = (now : Int) ∧ now ≤ i ∧ i ≤ n ∧ kk = n - i ∧ LS w w' 5 (hs w) r W E nd (fun _ => i) i all ms es o58 n59 n60 o61 n62 n63 g ∧ n59 ≤ 300 ∧ n62 ≤ 60000, ⟨_, 0, 0, _, _, nd, [], [], [], G0, rfl, rfl, Nat.le_refl _, Nat.zero_le _, rfl, ls50, Nat.zero_le _, Nat.zero_le _⟩, ?_⟩
  clear ls50
  rintro kk _ w56 x57 o58 n59 n60 o61 n62 n63 x64 ⟨i, now, W, E, nd, all, ms, es, g, rfl, rfl, hnow, hin, rfl, ls, hn59, hn62⟩
  refine ⟨fun hlt k67 hk67 => ?_, fun hge => ⟨rfl, ls.gw⟩⟩
  have hlt : i < n := by have := dT hlt; omega
  have ei1 : IntKind.wrap .i64 ((i : Int) + 1) = ((i + 1 : Nat) : Int) := by rw [wr (by omega)]; omega
  rw [ei1] at hk67
  -- a turn ends
  have fin67 : ∀ (w' : World) (now' : Nat) (o : Option Addr) (m c : Nat) (ao : Option Addr) (an ac : Nat) (W' E' : Nat → Prop) (nd' : Nat → Nd) (PB : Nat → Nat) (b : Nat) (all' ms' : List Msg) (es' : List Ent) (g' : G), LS w w' 5 (hs w) r W' E' nd' PB b all' ms' es' o m c ao an ac g' → (∀ j, j < 5 → PB j ≤ i + 1) → b ≤ i + 1 → m ≤ 300 → now' ≤ i + 1 → an ≤ 60000 → k67 (now' : Int) o m c ao an ac w' :=
    fun w' now' o m c ao an ac W' E' nd' PB b all' ms' es' g' hls hP hb hm hn' ha => hk67 w' (now' : Int) o m c ao an ac fun _ => ⟨_, by omega, i + 1, now', W', E', nd', all', ms', es', g', rfl, rfl, hn', hlt, rfl, hls.up hP hb, hm, ha⟩
  obtain ⟨a, kx, ky, kz, rfl, hkx, hky, hkz, ca, cb, cc⟩ := (h.grow ls.gw).at hlt
  refine ⟨a, rfl, ⟨by omega, by omega⟩, _, ca, _, cb, _, cc, fun w84 e84 => ⟨(Row.new (l := [_, _, _]) e84).there (by simp), fun w86 e86 => ?_⟩⟩
  obtain ⟨r86, g86⟩ := loc (l := [_, _, _]) (vs := [.int .u8 (kx : Int), .int .u8 (ky : Int), .int .u8 (kz : Int)]) e84 e86 rfl
  have ls86 := ls.mark g86 (Nat.le_refl _) r86.lt
  generalize hE1 : (fun x => E x ∨ x = hs w56) = E1 at ls86
  have hxE : E1 (hs w56) := by rw [← hE1]; exact .inr rfl
  clear hE1 ls
  generalize hs w56 = gx at *
  intro k88 hk88
  -- an action is done
  have fin88 : ∀ (w' : World) (now' : Nat) (o : Option Addr) (m c : Nat) (W' E' : Nat → Prop) (nd' : Nat → Nd) (PB : Nat → Nat) (b : Nat) (all' ms' : List Msg) (g' : G), LS w w' 5 (hs w) r W' E' nd' PB b all' ms' es o m c o61 n62 n63 g' → (∀ j, j < 5 → PB j ≤ i + 1) → b ≤ i + 1 → m ≤ 400 → now' ≤ i + 1 → k88 (now' : Int) o m c w' := by
    intro w' now' o m c W' E' nd' PB b all' ms' g' hls hP hb hm hn'
    refine hk88 w' (now' : Int) o m c fun _ k97 hk97 => ?_
    have fin97 : ∀ o2 m2 c2 ms2, LS w w' 5 (hs w) r W' E' nd' PB b all' ms2 es o2 m2 c2 o61 n62 n63 g' → m2 ≤ 300 → k97 o2 m2 c2 w' := fun o2 m2 c2 ms2 h2 hm2 => hk97 w' o2 m2 c2 fun _ => check_c (n := 0) (R := fun e w' => e = .returned (.bool true) ∧ Grow w w') (K := fun o' n' c' w'' => k67 (now' : Int) o2 m2 c2 o' n' c' w'') h2 (fun j hj => by have := hP j hj; omega) hn62 fun o' n' c' w'' W'' E'' es'' h3 hn3 _ => fin67 w'' now' o2 m2 c2 o' n' c' W'' E'' nd' PB b all' ms2 es'' g' h3 hP hb hm2 hn' hn3
    refine ⟨fun hgt => ?_, fun hle => fin97 o m c ms' hls (by have := dF hle; omega)⟩
    have hgt : 300 < m := by have := dT hgt; omega
    refine ⟨⟨by decide, by omega⟩, fin97 _ _ _ _ (hls.flies (hls.fly.drop (j := 100) (by omega)) fun x hx => List.mem_of_mem_drop hx) (by omega)⟩
  have e7 := mod7 kx
  have e5 := mod5 ky
  have e5z := mod5 kz
  have wy := wrapB ky hky
  have wz := wrapB kz hkz
  have hi600 : i + 1 ≤ 600 := by omega
  have hnowM : now ≤ MaxT := by unfold MaxT; omega
  have s5 : ∀ j : Nat, j < 5 → (0 : Int) ≤ (j : Int) ∧ (j : Int) < 5 := fun j hj => ⟨by omega, by omega⟩
  refine ⟨_, r86.cell rfl, ?_⟩
  rw [e7]
  refine ⟨fun h0 => ?_, fun h0 k284 hk284 => ?_⟩
  · -- a tick of all
    have en1 : IntKind.wrap .i64 ((now : Int) + 1) = ((now + 1 : Nat) : Int) := by rw [wr (by omega)]; omega
    rw [en1]
    refine ⟨fun kk o m c x w' => ∃ (j : Nat) (W' E' : Nat → Prop) (nd' : Nat → Nd) (all' ms' : List Msg) (g' : G), x = (j : Int) ∧ j ≤ 5 ∧ kk = 5 - j ∧ LS w w' 5 (hs w) r W' E' nd' (fun a => if a < j then i + 1 else i) (i + 1) all' ms' es o m c o61 n62 n63 g' ∧ m ≤ 300 + 9 * j, ⟨_, 0, W, E1, nd, all, ms, g, rfl, by decide, rfl, ls86.up (fun j hj => by simp) (by omega), by omega⟩, ?_⟩
    rintro kk _ w263 o264 n265 n266 x ⟨j, W', E', nd', all', ms', g', rfl, hj, rfl, l263, hm⟩
    refine ⟨fun hlt5 => ?_, fun hge5 => ?_⟩
    · have hlt5 : j < 5 := by have := dT hlt5; omega
      have nj := l263.net.node j hlt5
      obtain ⟨gj, kj⟩ := l263.good j hlt5
      rw [if_neg (by omega)] at gj kj
      have htj := gj.t
      refine ⟨s5 j hlt5, _, l263.pcell hlt5, (tick8_c (now := now + 1) nj gj.w (by omega) (by unfold MaxT; omega) (by unfold MaxT; omega) (l263.role1 hlt5)).mono ?_⟩
      rintro _ w272 ⟨o, c, rfl, hd⟩
      have hgood := gj.tick (now := now + 1) (by unfold MaxT; omega) (by omega) (by unfold MaxT; omega)
      refine ⟨_, _, _, rfl, l263.act (bi := i + 1) (b' := i + 1) hlt5 hd ((l263.liveI hlt5).1.ticks (now + 1)) hgood len_tick (by omega) (by rw [if_neg (by omega)]; omega) (by rw [if_neg (by omega)]; omega) (by omega) (by omega) fun o' c' w' W2 E2 nd2 g2 all2 h2 => ⟨_, _, _, rfl, _, by omega, j + 1, W2, E2, nd2, all2, _, g2, by rw [wr (by omega)]; omega, hlt5, rfl, h2.up (fun q hq => ?_) (Nat.le_refl _), ?_⟩⟩
      · by_cases eq : q = j
        · subst eq
          rw [if_pos rfl, if_neg (by omega), if_pos (by omega)]
          exact Nat.le_refl _
        · rw [if_neg eq]
          split <;> split <;> omega
      · have := len_tick (s := (nd' j).s) (now := now + 1)
        omega
    · have : j = 5 := by have := dF hge5; omega
      subst this
      exact fin88 w263 (now + 1) _ _ _ W' E' nd' _ _ all' ms' g' l263 (fun j hj => by split <;> omega) (Nat.le_refl _) (by omega) (by omega)
  have h0 : ¬ kx % 7 = 0 := by have := dF h0; omega
  -- a message delivered, dropped, or copied
  have onTrue : (kx % 7 = 1 ∨ kx % 7 = 2 ∨ kx % 7 = 3) → k284 true w86 := by
    intro hk
    refine hk284 w86 true fun _ => bT ⟨fun hz => fin67 w86 now _ _ _ _ _ _ W E1 nd _ _ all ms es g ls86 (fun _ _ => by omega) (by omega) hn59 (by omega) hn62, fun hz => ?_⟩
    have hz : 0 < n59 := by have := dF hz; omega
    have hms : n59 = ms.length := by
      obtain ⟨ps, q1, q2, -⟩ := ls86.fly
      exact q2
    have hjl : ky % n59 < ms.length := by rw [← hms]; exact Nat.mod_lt _ hz
    have hat := List.getElem?_eq_getElem hjl
    have hmem := List.getElem_mem hjl
    generalize hej : ky % n59 = j at *
    generalize hem : ms[j] = m at *
    obtain ⟨am, oe, ce, ha, c0, cs, he, hce⟩ := ls86.fly.at hat
    have em : Int.tmod (IntKind.wrap .i64 (ky : Int)) ((n59 : Nat) : Int) = (j : Int) := by rw [wy, tmodN, hej]
    refine ⟨_, r86.cell rfl, by omega, am, ha, ?_⟩
    rw [em, toNat_cast]
    refine ⟨⟨by omega, by omega⟩, _, c0, _, cs 1 _ (by decide) rfl, _, cs 2 _ (by decide) rfl, _, cs 3 _ (by decide) rfl, _, cs 4 _ (by decide) rfl, _, cs 5 _ (by decide) rfl, _, cs 6 _ (by decide) rfl, _, cs 7 _ (by decide) rfl, _, _, _, cs 8 _ (by decide) rfl, fun w306 e306 => ⟨(Row.new (l := [_, _, _, _, _, _, _, _, _]) e306).there (by simp), fun w308 e308 k310 hk310 => ?_⟩⟩
    obtain ⟨r308, g308⟩ := loc (l := [_, _, _, _, _, _, _, _, _]) (vs := msgV (m, (oe, ce))) e306 e308 rfl
    have ls308 := ls86.mark g308 (Nat.le_refl _) r308.lt
    have x308 := r86.grow g308
    have he308 : Ents w308 (fun x => E1 x ∨ x = hs w86) oe m.ents := (he.grow g308).mono fun b hb => .inl hb
    generalize hE2 : (fun x => E1 x ∨ x = hs w86) = E2 at ls308 he308
    have hxE2 : E2 gx := by rw [← hE2]; exact .inl hxE
    have hmE2 : E2 (hs w86) := by rw [← hE2]; exact .inr rfl
    clear hE2
    generalize hs w86 = gm at *
    have hmall := ls86.sub m hmem
    -- delivered
    have fin310 : ∀ w' o c W' n' ms', LS w w' 5 (hs w) r W' E2 nd (fun _ => i) i all ms' es o n' c o61 n62 n63 g → n' ≤ 300 → Row w' gx 37 [.int .u8 (kx : Int), .int .u8 (ky : Int), .int .u8 (kz : Int)] → Row w' gm 45 (msgV (m, (oe, ce))) → Ents w' E2 oe m.ents → k310 o n' c w' := by
      intro w' o c W' n' ms' hl hn' rx rm hee
      refine hk310 w' o n' c fun _ => ⟨_, rx.cell rfl, ?_⟩
      rw [e7]
      have stay : k88 (now : Int) o n' c w' := fin88 w' now _ _ _ W' E2 nd _ _ all ms' g hl (fun _ _ => by omega) (by omega) (by omega) (by omega)
      refine ⟨fun h2 => ⟨_, rm.cell rfl, fun hge0 => ⟨_, rm.cell rfl, fun hlt5 => ?_, fun _ => stay⟩, fun _ => stay⟩, fun _ => stay⟩
      have hd5 : m.dst < 5 := by have : (m.dst : Int) < 5 := dT hlt5; omega
      intro w324 e324
      have g324 : Grow w' w324 := only_drew e324
      have l324 := hl.grow g324
      have rm324 := rm.grow g324
      have nj := l324.net.node m.dst hd5
      obtain ⟨gj, kj⟩ := l324.good m.dst hd5
      obtain ⟨wm, tm⟩ := l324.msg m hmall
      have mok := l324.sys.msg m hmall
      obtain ⟨lv, lid⟩ := l324.liveI hd5
      refine ⟨_, rm324.cell rfl, s5 _ hd5, _, l324.pcell hd5, _, rm324.cell rfl, _, rm324.cell rfl, _, rm324.cell rfl, _, rm324.cell rfl, _, rm324.cell rfl, _, rm324.cell rfl, _, rm324.cell rfl, _, rm324.cell rfl, _, _, _, rm324.cell rfl, (step_c (m := m) (now := now) (o := oe) (c := ce) nj gj.w (by omega) wm lid.symm hnowM (hee.grow g324) hce (l324.apN hd5)).mono ?_⟩
      rintro _ w340 ⟨o', c', rfl, hd⟩
      have hgood := gj.step (now := now) (m := m) (by omega) wm tm lid.symm hnowM
      refine ⟨_, _, _, rfl, l324.act (bi := i) (b' := i) hd5 hd (lv.steps mok wm.kind lid.symm now) hgood len_step (by omega) (by omega) (by omega) (by omega) (by omega) fun o2 c2 w2 W2 E3 nd2 g2 all2 h2 => ⟨_, _, _, rfl, ?_⟩⟩
      have := len_step (s := (nd m.dst).s) (now := now) (m := m)
      exact fin88 w2 now _ _ _ W2 E3 nd2 _ _ all2 _ g2 h2 (fun q hq => by split <;> omega) (by omega) (by omega) (by omega)
    refine ⟨_, x308.cell rfl, ?_⟩
    rw [e7]
    refine ⟨fun h3 w354 e354 => ?_, fun h3 => fin310 w308 o58 n60 W n59 ms ls308 hn59 x308 r308 he308⟩
    have g354 : Grow w308 w354 := only_drew e354
    have ew1 : IntKind.wrap .i64 ((j : Int) + 1) = ((j + 1 : Nat) : Int) := by rw [wr (by omega)]; omega
    rw [ew1, toNat_cast, Nat.sub_zero, map_id']
    refine ⟨⟨by omega, ?_⟩, ⟨by omega, by omega⟩, ⟨by omega, by omega⟩, (ls308.grow g354).less (by omega) (by omega) fun o' c' w' W' h2 hW hO => ⟨_, _, _, rfl, fin310 w' o' c' W' _ _ h2 (by omega) ?_ ?_ ?_⟩⟩
    · obtain ⟨ps, q1, q2, q3, -⟩ := ls86.fly
      have := q3.2.1
      omega
    · exact (x308.grow g354).keep hO fun k => (ls308.net.wz _ k).2.2 hxE2
    · exact (r308.grow g354).keep hO fun k => (ls308.net.wz _ k).2.2 hmE2
    · exact (he308.grow g354).keep hO fun b hb k => (ls308.net.wz _ k).2.2 hb
  -- a node restarted, an entry proposed, the members changed
  have onFalse : (kx % 7 = 4 ∨ kx % 7 = 5 ∨ kx % 7 = 6) → k284 false w86 := by
    intro hk
    have hy5 : ky % 5 < 5 := Nat.mod_lt _ (by decide)
    have hz5 : kz % 5 < 5 := Nat.mod_lt _ (by decide)
    have ey : Int.tmod (IntKind.wrap .i64 (ky : Int)) 5 = ((ky % 5 : Nat) : Int) := by rw [wy, e5]
    have ez : Int.tmod (IntKind.wrap .i64 (kz : Int)) 5 = ((kz % 5 : Nat) : Int) := by rw [wz, e5z]
    refine hk284 w86 false fun _ => bF ?_
    refine ⟨fun h4 => ⟨_, r86.cell rfl, fun w360 e360 => ?_⟩, fun h4 => ⟨fun h5 w389 e389 => ?_, fun h5 => ?_⟩⟩
    · -- restarted
      have g360 : Grow w86 w360 := only_drew e360
      have l360 := ls86.grow g360
      have x360 := r86.grow g360
      rw [ey]
      generalize ky % 5 = j at *
      obtain ⟨F, ops, hf, hh, hst, hlo, hFN⟩ := (l360.net.node j hy5).file
      obtain ⟨gj, kj⟩ := l360.good j hy5
      obtain ⟨q1, q2⟩ := len_data hh (by omega)
      refine ⟨s5 j hy5, _, l360.tcell hy5, _, x360.cell rfl, ?_⟩
      rw [wz]
      refine (powerFail_c hf (by omega) kz 1).mono ?_
      rintro _ w365 ⟨rfl, f365, o365⟩
      have calm : ∀ {w1 : World}, Only F w360 w1 → Only (fun b => hs w ≤ b ∧ ¬ W b ∧ ¬ E1 b) w360 w1 := fun o => l360.net.calm hy5 (o.mono fun b _ hb => hFN b hb)
      have nW : ∀ b, E1 b → ¬ (hs w ≤ b ∧ ¬ W b ∧ ¬ E1 b) := fun b hb k => k.2.2 hb
      have t365 := l360.tr.1.keep (calm o365) (nW _ l360.tr.2)
      refine ⟨rfl, s5 j hy5, _, cell_arr t365 (prow_at hy5), (powerOn_c f365).mono ?_⟩
      rintro _ w368 ⟨rfl, f368, o368⟩
      refine ⟨rfl, fun w369 e369 => ?_⟩
      have g369 : Grow w368 w369 := only_drew e369
      have O369 : Only F w360 w369 := (o365.trans' o368).trans' (Grow.only g369)
      have c369 := l360.conf.1.keep (calm O369) (nW _ l360.conf.2)
      have d369 := l360.old.1.keep (calm O369) (nW _ l360.old.2)
      have t369 := l360.tr.1.keep (calm O369) (nW _ l360.tr.2)
      have z369 := O369.size
      have ew : IntKind.wrap .i64 (8 + IntKind.wrap .i64 (2 * (j : Int))) = ((8 + 2 * j : Nat) : Int) := by rw [wr (x := 2 * (j : Int)) (by omega), wr (by omega)]; omega
      refine ⟨_, _, _, c369.cell rfl, _, _, _, c369.cell rfl, s5 j hy5, _, cell_arr t369 (prow_at hy5), ?_⟩
      rw [ew]
      have hmem : Mem w369 (fun b => b = hs w) conf3 (some ⟨hs w, 0, none⟩) none := ⟨row_ints (xs := [0, 1, 2]) d369, ints_nil _ _ _⟩
      refine (open_c (c := conf3) (ops := ops) (k := (nd j).k) (id := j) (wait := 8 + 2 * j) (beat := 2) (now := now) (A := fun b => b = hs w) (c1 := 3) (c2 := 0) permit3 (by omega) (by omega) (by unfold MaxT; omega) (by omega) (by unfold MaxT; omega) hnowM (f368.grow g369) (Nat.le_refl _) hh hlo (by omega) hmem (fun b hb => ⟨by have := d369.lt; omega, fun k => ?_⟩)).mono ?_
      · have := (l360.net.nz j hy5 b (hFN b k)).2.2
        exact this (hb ▸ l360.old.2)
      rintro _ w379 ⟨p, N, D, rfl, n379, o379, hN, hD⟩
      rw [hst] at n379
      obtain ⟨th, re⟩ := l360.reopen hy5 hFN (O369.trans' o379) n379 (fun b hb => (hN b hb).imp id fun k => by omega) (fun b hb => by have := hD b hb; omega) (by unfold MaxT; omega) (by unfold MaxT; omega) hnowM
      refine ⟨_, _, rfl, s5 j hy5, th, fun w382 e382 => ?_⟩
      obtain ⟨x, hxp, l382⟩ := re w382 e382
      have pc := l382.pcell hy5
      rw [updN_self, hxp] at pc
      exact ⟨s5 j hy5, _, pc, bF (fin88 w382 now _ _ _ W E1 _ _ _ all ms g l382 (fun _ _ => by omega) (by omega) (by omega) (by omega))⟩
    · -- proposed
      have g389 : Grow w86 w389 := only_drew e389
      have l389 := ls86.grow g389
      have x389 := r86.grow g389
      refine ⟨_, x389.cell rfl, ?_⟩
      rw [ey]
      generalize ky % 5 = j at *
      refine ⟨s5 j hy5, _, l389.pcell hy5, _, x389.cell rfl, fun w394 e394 => ?_⟩
      have hiw : IntKind.wrap .u8 (i : Int) = (((UInt8.ofNat i).toNat : Nat) : Int) := by
        rw [IntKind.wrap_u8, UInt8.toNat_ofNat']
        omega
      have hzw : (kz : Int) = (((UInt8.ofNat kz).toNat : Nat) : Int) := by
        rw [UInt8.toNat_ofNat']
        omega
      rw [hiw, hzw] at e394
      have r394 : Row w394 (hs w389) 5 (byV [UInt8.ofNat i, UInt8.ofNat kz]) := Row.new (l := [_, _]) e394
      have g394 : Grow w389 w394 := only_alloc e394
      have l394 := l389.mark g394 (Nat.le_refl _) r394.lt
      have hbE : (fun x => E1 x ∨ x = hs w389) (hs w389) := .inr rfl
      obtain ⟨gj, kj⟩ := l394.good j hy5
      obtain ⟨lv, lid⟩ := l394.liveI hy5
      have ap := l394.apN hy5
      refine ⟨?_, kept_only g394 x389.lt (fun h => h), (propose_c (body := [UInt8.ofNat i, UInt8.ofNat kz]) (A := fun b => b = hs w389) (l394.net.node j hy5) gj.w (by omega) (l394.role1 hy5) (row_byts r394) (fun b hb => by rw [hb]; exact ap _ hbE) (by show (2 : Nat) ≤ 64; decide)).mono ?_⟩
      · rw [Addr.add_lit]; exact kept_only g394 l389.pr.1.lt (fun h => h)
      rintro _ w397 ⟨nn, err, o', c', rfl, hd⟩
      have hgood := gj.propose (by omega) [UInt8.ofNat i, UInt8.ofNat kz]
      refine ⟨_, _, _, _, _, rfl, l394.act (bi := i) (b' := i) hy5 hd (lv.proposes _) hgood len_propose (by omega) (by omega) (by omega) (by omega) (by omega) fun o2 c2 w2 W2 E3 nd2 g2 all2 h2 => ⟨_, _, _, rfl, ?_⟩⟩
      have := len_propose (s := (nd j).s) (body := [UInt8.ofNat i, UInt8.ofNat kz])
      exact fin88 w2 now _ _ _ W2 E3 nd2 _ _ all2 _ g2 h2 (fun q hq => by split <;> omega) (by omega) (by omega) (by omega)
    · -- members changed
      intro w409 e409 w411 e411 w413 e413 w415 e415 w417 e417 w419 e419
      have r409 : Row w409 (hs w86) 3 ([0, 1, 2].flatMap in1) := Row.new (l := [_, _, _]) e409
      have r411 : Row w411 (hs w409) 3 ([1, 2, 3].flatMap in1) := Row.new (l := [_, _, _]) e411
      have r413 : Row w413 (hs w411) 3 ([0, 1, 2, 3, 4].flatMap in1) := Row.new (l := [_, _, _, _, _]) e413
      have r415 : Row w415 (hs w413) 3 ([2].flatMap in1) := Row.new (l := [_]) e415
      have r417 : Row w417 (hs w415) 3 ([3, 4].flatMap in1) := Row.new (l := [_, _]) e417
      have r419 := Row.new (l := [.slice (some ⟨hs w86, 0, none⟩) 3 3, .slice (some ⟨hs w409, 0, none⟩) 3 3, .slice (some ⟨hs w411, 0, none⟩) 5 5, .slice (some ⟨hs w413, 0, none⟩) 1 1, .slice (some ⟨hs w415, 0, none⟩) 2 2]) e419
      have g409 : Grow w86 w409 := only_alloc e409
      have g411 : Grow w409 w411 := only_alloc e411
      have g413 : Grow w411 w413 := only_alloc e413
      have g415 : Grow w413 w415 := only_alloc e415
      have g417 : Grow w415 w417 := only_alloc e417
      have g419 : Grow w417 w419 := only_alloc e419
      have G := ((((g409.trans' g411).trans' g413).trans' g415).trans' g417).trans' g419
      have x419 := r86.grow G
      have pick : ∃ (next : List Nat) (gb : Nat), PermL next ∧ w419.cell? (Addr.add (⟨hs w417, 0, none⟩ : Addr) (((kz % 5 : Nat) : Int).toNat * 1)) = some (.slice (some ⟨gb, 0, none⟩) next.length next.length) ∧ Ints w419 (fun b => b = gb) (some ⟨gb, 0, none⟩) next ∧ hs w86 ≤ gb ∧ gb < hs w419 := by
        have z1 := g409.size
        have z2 := g411.size
        have z3 := g413.size
        have z4 := g415.size
        have z5 := g417.size
        have z6 := g419.size
        have q : kz % 5 = 0 ∨ kz % 5 = 1 ∨ kz % 5 = 2 ∨ kz % 5 = 3 ∨ kz % 5 = 4 := by omega
        rcases q with q | q | q | q | q <;> rw [q]
        · have := ((((r409.grow g411).grow g413).grow g415).grow g417).grow g419
          exact ⟨[0, 1, 2], hs w86, ⟨by decide, by decide, by decide⟩, cell_arr r419 rfl, row_ints this, Nat.le_refl _, this.lt⟩
        · have := (((r411.grow g413).grow g415).grow g417).grow g419
          exact ⟨[1, 2, 3], hs w409, ⟨by decide, by decide, by decide⟩, cell_arr r419 rfl, row_ints this, by omega, this.lt⟩
        · have := ((r413.grow g415).grow g417).grow g419
          exact ⟨[0, 1, 2, 3, 4], hs w411, ⟨by decide, by decide, by decide⟩, cell_arr r419 rfl, row_ints this, by omega, this.lt⟩
        · have := (r415.grow g417).grow g419
          exact ⟨[2], hs w413, ⟨by decide, by decide, by decide⟩, cell_arr r419 rfl, row_ints this, by omega, this.lt⟩
        · have := r417.grow g419
          exact ⟨[3, 4], hs w415, ⟨by decide, by decide, by decide⟩, cell_arr r419 rfl, row_ints this, by omega, this.lt⟩
      obtain ⟨next, gb, hp, hcell, hints, hg1, hg2⟩ := pick
      have l419 := ls86.mark G hg1 hg2
      refine ⟨_, x419.cell rfl, _, rfl, ?_⟩
      rw [ez]
      refine ⟨s5 _ hz5, _, _, _, hcell, _, x419.cell rfl, ?_⟩
      rw [ey]
      generalize ky % 5 = j at *
      obtain ⟨gj, kj⟩ := l419.good j hy5
      obtain ⟨lv, lid⟩ := l419.liveI hy5
      refine ⟨s5 j hy5, _, l419.pcell hy5, (change_c (next := next) (A := fun b => b = gb) (l419.net.node j hy5) gj.w (by omega) (l419.role1 hy5) hints (fun b hb => by omega) hp).mono ?_⟩
      rintro _ w429 ⟨nn, err, o', c', rfl, hd⟩
      have hgood := gj.change (by omega) next
      refine ⟨_, _, _, _, _, rfl, l419.act (bi := i) (b' := i) hy5 hd (lv.changes hp) hgood len_change (by omega) (by omega) (by omega) (by omega) (by omega) fun o2 c2 w2 W2 E3 nd2 g2 all2 h2 => ⟨_, _, _, rfl, ?_⟩⟩
      have := len_change (s := (nd j).s) (next := next)
      exact fin88 w2 now _ _ _ W2 E3 nd2 _ _ all2 _ g2 h2 (fun q hq => by split <;> omega) (by omega) (by omega) (by omega)
  have h6 : kx % 7 < 7 := Nat.mod_lt _ (by decide)
  refine ⟨fun h1 => bT (onTrue (.inl (by have := dT h1; omega))), fun h1 => bF ⟨fun h2 => bT (onTrue (.inr (.inl (by have := dT h2; omega)))), fun h2 => bF ⟨fun h3 => onTrue (.inr (.inr (by have := dT h3; omega))), fun h3 => onFalse ?_⟩⟩⟩
  have h1 := dF h1
  have h2 := dF h2
  have h3 := dF h3
  omega
end Go.Proofs.YtcaokpglbolkcaaGreat
