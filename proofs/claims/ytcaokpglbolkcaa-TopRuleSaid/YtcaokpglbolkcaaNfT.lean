/- The engine, part T: a long region, or a long row of statements, told in stages: each stage hands on the values of the slots that are still read. -/
import Derived.Test.YtcaokpglbolkcaaNfD
namespace Go.Nf
open Go

mutual
def OT.graft (s : OT) : OT → OT
  | .nil => s
  | .take i t => .take i (OT.graft s t)
  | .eff c => .eff (OC.graft s c)
def OC.graft (s : OT) : OC → OC
  | .one i t => .one i (OT.graft s t)
  | .alt a b => .alt (OC.graft s a) (OC.graft s b)
end
theorem OC.heads_graft (s : OT) : ∀ c : OC, (OC.graft s c).heads = c.heads
  | .one i t => rfl
  | .alt a b => by simp only [OC.graft, OC.heads, OC.heads_graft s a, OC.heads_graft s b]

/-- what is read is dead once one that waits for it (as 'dl' tells) has come up -/
abbrev Deads := List (Nat × Nat)
def deadBy (dl : Deads) (L : Array Bool) (i : Nat) : Bool := dl.any fun p => Nat.beq p.2 i && L.getD p.1 false
def deadsOk (ops : Array Oper) (effs : List Nat) (dl : Deads) : Bool := Nat.ble 2 ops.size && dl.all fun p => effs.contains p.1 && reach .any ops 2 p.1 p.2
theorem reach_succ {md : Region.Mode} {ops : Array Oper} : ∀ (n j i : Nat), reach md ops n j i = true → reach md ops (n + 1) j i = true
  | 0, _, _, h => by simp [reach] at h
  | n + 1, j, i, h => by
    unfold reach at h ⊢
    cases ho : ops[j]? with
    | none => rw [ho] at h; cases h
    | some o =>
      rw [ho] at h
      simp only [Array.any_eq_true, Bool.and_eq_true, Bool.or_eq_true] at h ⊢
      obtain ⟨k, hk, hb, h⟩ := h
      exact ⟨k, hk, hb, h.imp id (reach_succ n _ _)⟩
theorem reach_le {md : Region.Mode} {ops : Array Oper} {j i n : Nat} (h : reach md ops n j i = true) : ∀ m, n ≤ m → reach md ops m j i = true
  | 0, hm => by obtain rfl : n = 0 := by omega
                exact h
  | m + 1, hm => by
    by_cases e : n = m + 1
    · subst e; exact h
    · exact reach_succ m j i (reach_le h m (by omega))
theorem deadBy_dead {ops : Array Oper} {effs : List Nat} {dl : Deads} (hok : deadsOk ops effs dl = true) {L : Array Bool} {i : Nat} (h : deadBy dl L i = true) : dead .any ops effs L i = true := by
  simp only [deadsOk, Bool.and_eq_true, List.all_eq_true, List.contains_iff_mem] at hok
  simp only [deadBy, List.any_eq_true, Bool.and_eq_true] at h
  obtain ⟨p, hp, h1, h2⟩ := h
  obtain ⟨h3, h4⟩ := hok.2 p hp
  rw [← Nat.eq_of_beq_eq_true h1]
  unfold dead
  rw [List.any_eq_true]
  exact ⟨p.1, h3, by rw [h2, reach_le h4 _ (Nat.le_of_ble_eq_true hok.1)]; rfl⟩
theorem heldAll_weaken {d1 d2 : Nat → Bool} {w : World} {K : Prop} (hd : ∀ i, d1 i = true → d2 i = true) : ∀ {l : HeldL}, heldAll d1 w K l → heldAll d2 w K l
  | [], h => h
  | (i, Y) :: l, h => by
    simp only [heldAll] at h ⊢
    cases h1 : d1 i <;> cases h2 : d2 i <;> simp only [h1, h2, cond_true, cond_false] at h ⊢
    · exact ⟨h.1, heldAll_weaken hd h.2⟩
    · exact heldAll_weaken hd h.2
    · rw [hd i h1] at h2; cases h2
    · exact heldAll_weaken hd h

abbrev Leaf := Array Bool → HeldL → Env → World → Prop
mutual
/-- as vcE, but a leaf hands on what has come up -/
def vcG (P : Program) (ops : Array Oper) (ms : Marks) (effs : List Nat) (dl : Deads) : OT → Array Bool → HeldL → Env → World → Leaf → Prop
  | .nil, L, hd, ρ, w, K => K L hd ρ w
  | .take i t, L, hd, ρ, w, K =>
    match ops[i]? with
    | none => False
    | some o =>
      bif !effs.contains i && ((Region.ready .any ops L).contains i && Region.free .any ops L i) then
        bif Region.wanted o (yE ops ρ) then vcTake P (markOf ms i) o (ev ρ) w fun v Y => vcG P ops ms effs dl t (L.setIfInBounds i true) (addHeld i Y hd) (ρ.put o.dst v) w K
        else vcG P ops ms effs dl t (L.setIfInBounds i true) hd (ρ.put o.dst undef) w K
      else False
  | .eff c, L, hd, ρ, w, K => bif Region.ready .any ops L == c.heads && !c.heads.isEmpty then vcH P ops ms effs dl c L hd ρ w K else False
def vcH (P : Program) (ops : Array Oper) (ms : Marks) (effs : List Nat) (dl : Deads) : OC → Array Bool → HeldL → Env → World → Leaf → Prop
  | .one i t, L, hd, ρ, w, K =>
    match ops[i]? with
    | none => False
    | some o =>
      bif Region.wanted o (yE ops ρ) then vcOp P (markOf ms i) o (ev ρ) w fun v w' => heldAll (deadBy dl (L.setIfInBounds i true)) w' (vcG P ops ms effs dl t (L.setIfInBounds i true) hd (ρ.put o.dst v) w' K) hd
      else vcG P ops ms effs dl t (L.setIfInBounds i true) hd (ρ.put o.dst undef) w K
  | .alt a b, L, hd, ρ, w, K => vcH P ops ms effs dl a L hd ρ w K ∧ vcH P ops ms effs dl b L hd ρ w K
end

section
variable {P : Program} {ops : Array Oper} {ms : Marks} {effs : List Nat} {dl : Deads}
mutual
theorem vcG_graft (hok : deadsOk ops effs dl = true) {s : OT} {K : Env → World → Prop} {K' : Leaf} (hk : ∀ L hd ρ w, K' L hd ρ w → vcE P ops ms effs s L hd ρ w K) :
    ∀ (t : OT) (L : Array Bool) (hd : HeldL) (ρ : Env) (w : World), vcG P ops ms effs dl t L hd ρ w K' → vcE P ops ms effs (OT.graft s t) L hd ρ w K
  | .nil, L, hd, ρ, w, h => hk _ _ _ _ (by simpa only [vcG] using h)
  | .take i t, L, hd, ρ, w, h => by
    simp only [vcG] at h
    simp only [OT.graft, vcE]
    cases ho : ops[i]? with
    | none => rw [ho] at h; exact h.elim
    | some o =>
    simp only [ho] at h ⊢
    cases hr : (!effs.contains i && ((Region.ready .any ops L).contains i && Region.free .any ops L i))
    · rw [hr] at h; exact h.elim
    · simp only [hr, cond_true] at h ⊢
      cases hw : Region.wanted o (yE ops ρ)
      · simp only [hw, cond_false] at h ⊢
        exact vcG_graft hok hk t _ _ _ _ h
      · simp only [hw, cond_true] at h ⊢
        exact vcTake_mono (fun v Y h => vcG_graft hok hk t _ _ _ _ h) h
  | .eff c, L, hd, ρ, w, h => by
    simp only [vcG] at h
    simp only [OT.graft, vcE, OC.heads_graft]
    cases hr : (Region.ready .any ops L == c.heads && !c.heads.isEmpty)
    · rw [hr] at h; exact h.elim
    · simp only [hr, cond_true] at h ⊢
      exact vcH_graft hok hk c _ _ _ _ h
theorem vcH_graft (hok : deadsOk ops effs dl = true) {s : OT} {K : Env → World → Prop} {K' : Leaf} (hk : ∀ L hd ρ w, K' L hd ρ w → vcE P ops ms effs s L hd ρ w K) :
    ∀ (c : OC) (L : Array Bool) (hd : HeldL) (ρ : Env) (w : World), vcH P ops ms effs dl c L hd ρ w K' → vcF P ops ms effs (OC.graft s c) L hd ρ w K
  | .one i t, L, hd, ρ, w, h => by
    simp only [vcH] at h
    simp only [OC.graft, vcF]
    cases ho : ops[i]? with
    | none => rw [ho] at h; exact h.elim
    | some o =>
    simp only [ho] at h ⊢
    cases hw : Region.wanted o (yE ops ρ)
    · simp only [hw, cond_false] at h ⊢
      exact vcG_graft hok hk t _ _ _ _ h
    · simp only [hw, cond_true] at h ⊢
      exact vcOp_mono (fun v w' h => heldAll_weaken (fun i hi => deadBy_dead hok hi) (heldAll_mono (fun h => vcG_graft hok hk t _ _ _ _ h) h)) h
  | .alt a b, L, hd, ρ, w, h => by
    simp only [vcH] at h
    simp only [OC.graft, vcF]
    exact ⟨vcH_graft hok hk a _ _ _ _ h.1, vcH_graft hok hk b _ _ _ _ h.2⟩
end

/-! ### What is held and dead is forgotten -/
def allDead (ops : Array Oper) (effs : List Nat) (L : Array Bool) (old : HeldL) : Prop := ∀ p ∈ old, dead .any ops effs L p.1 = true
theorem allDead.set {L : Array Bool} {old : HeldL} (h : allDead ops effs L old) (i : Nat) : allDead ops effs (L.setIfInBounds i true) old := fun p hp => by
  cases hd : dead .any ops effs (L.setIfInBounds i true) p.1
  · have := h p hp
    rw [dead_mono hd] at this
    cases this
  · rfl
theorem heldAll_dead {dd : Nat → Bool} {w : World} {K : Prop} (hK : K) : ∀ {hd : HeldL}, (∀ p ∈ hd, dd p.1 = true) → heldAll dd w K hd
  | [], _ => hK
  | (i, Y) :: hd, h => by
    have h1 := h (i, Y) List.mem_cons_self
    simp only at h1
    simp only [heldAll, h1, cond_true]
    exact heldAll_dead hK fun p hp => h p (List.mem_cons_of_mem _ hp)
theorem heldAll_append {dd : Nat → Bool} {w : World} {K : Prop} : ∀ {hd old : HeldL}, (∀ p ∈ old, dd p.1 = true) → heldAll dd w K hd → heldAll dd w K (hd ++ old)
  | [], old, ho, h => heldAll_dead h ho
  | (i, Y) :: hd, old, ho, h => by
    simp only [List.cons_append, heldAll] at h ⊢
    cases hi : dd i
    · rw [hi] at h; exact ⟨h.1, heldAll_append ho h.2⟩
    · rw [hi] at h; exact heldAll_append ho h
theorem addHeld_append {i : Nat} {Y : Option (World → Prop)} {hd old : HeldL} : addHeld i Y (hd ++ old) = addHeld i Y hd ++ old := by
  cases Y <;> rfl
mutual
theorem vcE_more {K : Env → World → Prop} {old : HeldL} :
    ∀ (t : OT) (L : Array Bool) (hd : HeldL) (ρ : Env) (w : World), allDead ops effs L old → vcE P ops ms effs t L hd ρ w K → vcE P ops ms effs t L (hd ++ old) ρ w K
  | .nil, L, hd, ρ, w, ho, h => by
    simp only [vcE] at h ⊢
    exact h
  | .take i t, L, hd, ρ, w, hold, h => by
    simp only [vcE] at h ⊢
    cases ho : ops[i]? with
    | none => rw [ho] at h; exact h.elim
    | some o =>
    simp only [ho] at h ⊢
    cases hr : (!effs.contains i && ((Region.ready .any ops L).contains i && Region.free .any ops L i))
    · rw [hr] at h; exact h.elim
    · simp only [hr, cond_true] at h ⊢
      cases hw : Region.wanted o (yE ops ρ)
      · simp only [hw, cond_false] at h ⊢
        exact vcE_more t _ _ _ _ (hold.set i) h
      · simp only [hw, cond_true] at h ⊢
        exact vcTake_mono (fun v Y h => by rw [addHeld_append]; exact vcE_more t _ _ _ _ (hold.set i) h) h
  | .eff c, L, hd, ρ, w, hold, h => by
    simp only [vcE] at h ⊢
    cases hr : (Region.ready .any ops L == c.heads && !c.heads.isEmpty)
    · rw [hr] at h; exact h.elim
    · simp only [hr, cond_true] at h ⊢
      exact vcF_more c _ _ _ _ hold h
theorem vcF_more {K : Env → World → Prop} {old : HeldL} :
    ∀ (c : OC) (L : Array Bool) (hd : HeldL) (ρ : Env) (w : World), allDead ops effs L old → vcF P ops ms effs c L hd ρ w K → vcF P ops ms effs c L (hd ++ old) ρ w K
  | .one i t, L, hd, ρ, w, hold, h => by
    simp only [vcF] at h ⊢
    cases ho : ops[i]? with
    | none => rw [ho] at h; exact h.elim
    | some o =>
    simp only [ho] at h ⊢
    cases hw : Region.wanted o (yE ops ρ)
    · simp only [hw, cond_false] at h ⊢
      exact vcE_more t _ _ _ _ (hold.set i) h
    · simp only [hw, cond_true] at h ⊢
      exact vcOp_mono (fun v w' h => heldAll_append (hold.set i) (heldAll_mono (fun h => vcE_more t _ _ _ _ (hold.set i) h) h)) h
  | .alt a b, L, hd, ρ, w, hold, h => by
    simp only [vcF] at h ⊢
    exact ⟨vcF_more a _ _ _ _ hold h.1, vcF_more b _ _ _ _ hold h.2⟩
end

/-! ### The slots that a stage hands on -/
def Env.fill (ρ : Env) : List Nat → List Value → Env
  | i :: l, v :: vs => (ρ.fill l vs).upd i v
  | _, _ => ρ
theorem Env.fill_self (ρ : Env) : ∀ l : List Nat, ρ.fill l (l.map ρ) = ρ
  | [] => rfl
  | i :: l => by
    simp only [List.map_cons, Env.fill, Env.fill_self ρ l]
    exact upd_self rfl
/-- a stage's leaf: what has come up is L2, all that was read has been used, and the slots' values go on -/
def stop (dl : Deads) (L2 : Array Bool) (live : List Nat) (K : List Value → World → Prop) : Leaf := fun L hd ρ w =>
  bif L == L2 && hd.all (fun p => deadBy dl L2 p.1) then K (live.map ρ) w else False
theorem vcE_stage (hok : deadsOk ops effs dl = true) {L2 : Array Bool} {live : List Nat} {s t : OT} {L : Array Bool} {hd : HeldL} {ρ : Env} {w : World} {K : Env → World → Prop} {K' : List Value → World → Prop}
    (h : vcG P ops ms effs dl t L hd ρ w (stop dl L2 live K')) (hs : ∀ vs w, K' vs w → ∀ g : Env, vcE P ops ms effs s L2 [] (g.fill live vs) w K) : vcE P ops ms effs (OT.graft s t) L hd ρ w K := by
  refine vcG_graft hok (fun L hd ρ w k => ?_) t L hd ρ w h
  clear h
  unfold stop at k
  cases hb : (L == L2 && hd.all (fun p => deadBy dl L2 p.1))
  · rw [hb] at k; exact k.elim
  · simp only [hb, cond_true] at k
    simp only [Bool.and_eq_true, beq_iff_eq, List.all_eq_true] at hb
    obtain ⟨rfl, hd'⟩ := hb
    have := hs _ _ k ρ
    rw [Env.fill_self] at this
    exact vcE_more (hd := []) (old := hd) s L ρ w (fun p hp => deadBy_dead hok (hd' p hp)) this
end

/-! ### The same for statements one behind the other -/
def regOps : Code → Array Oper
  | .region _ ops _ => ops
  | _ => #[]
def seqL : Code → Code
  | .seq a _ => a
  | c => c
def upTo (n m : Nat) : Array Bool := (List.replicate n true ++ List.replicate m false).toArray
def seqR : Nat → Code → Code
  | 0, c => c
  | n + 1, .seq _ b => seqR n b
  | _ + 1, c => c
def anR : Nat → An → An
  | 0, x => x
  | n + 1, .seq _ y => anR n y
  | _ + 1, x => x
def vcN (P : Program) (Q : Post) : Nat → Code → An → Env → World → (Env → World → Prop) → Prop
  | 0, _, _, ρ, w, K => K ρ w
  | n + 1, .seq a b, .seq x y, ρ, w, K => vc P a x (Q.seq fun ρ' w' => vcN P Q n b y ρ' w' K) ρ w
  | _ + 1, _, _, _, _, _ => False
theorem vc_of_vcN {P : Program} {Q : Post} : ∀ (n : Nat) (c : Code) (x : An) (ρ : Env) (w : World), vcN P Q n c x ρ w (fun ρ w => vc P (seqR n c) (anR n x) Q ρ w) → vc P c x Q ρ w
  | 0, c, x, ρ, w, h => h
  | n + 1, c, x, ρ, w, h => by
    cases c <;> cases x <;> simp only [vcN] at h
    simp only [seqR, anR] at h
    simp only [vc]
    refine vc_mono _ _ _ _ _ _ (fun e ρ' w' _ hq => ?_) h
    cases e <;> first
      | exact vc_of_vcN n _ _ _ _ hq
      | exact hq
theorem vcN_mono {P : Program} {Q : Post} {K K' : Env → World → Prop} (hk : ∀ ρ w, K ρ w → K' ρ w) : ∀ (n : Nat) (c : Code) (x : An) (ρ : Env) (w : World), vcN P Q n c x ρ w K → vcN P Q n c x ρ w K'
  | 0, c, x, ρ, w, h => hk _ _ h
  | n + 1, c, x, ρ, w, h => by
    cases c <;> cases x <;> simp only [vcN] at h ⊢
    refine vc_mono _ _ _ _ _ _ (fun e ρ' w' _ hq => ?_) h
    cases e <;> first
      | exact vcN_mono hk n _ _ _ _ hq
      | exact hq
theorem vc_stage {P : Program} {Q : Post} {n : Nat} {c : Code} {x : An} {ρ : Env} {w : World} {live : List Nat} {K' : List Value → World → Prop}
    (h : vcN P Q n c x ρ w fun ρ w => K' (live.map ρ) w) (hs : ∀ vs w, K' vs w → ∀ g : Env, vc P (seqR n c) (anR n x) Q (g.fill live vs) w) : vc P c x Q ρ w :=
  vc_of_vcN n c x ρ w (vcN_mono (fun ρ w h => by
    have := hs _ _ h ρ
    rw [Env.fill_self] at this
    exact this) n c x ρ w h)
end Go.Nf
