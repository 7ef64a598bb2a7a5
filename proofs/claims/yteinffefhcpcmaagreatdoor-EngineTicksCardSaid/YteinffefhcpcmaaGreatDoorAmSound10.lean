/- The abstract machine is sound: regions, control, calls of functions. -/
import Derived.Test.YteinffefhcpcmaaGreatDoorAmSound9
namespace Go.Am

section
variable {P : Program} {n : Nat} {D : List Deferred}

theorem cROp_parts {ops : Array Oper} {o : Oper} {r : ROp} (h : cROp P ops n o = some r) :
    cOp P o = some (r.op, r.args) ∧ r.dst = o.dst ∧ (∀ d, o.dst = some d → d < n) ∧
      ((o.guard = none ∧ r.guard = none) ∨ ∃ j b d o', o.guard = some (j, b) ∧ ops[j]? = some o' ∧ o'.dst = some d ∧ r.guard = some (d, b)) := by
  unfold cROp at h
  simp only [Option.bind_eq_some_iff] at h
  obtain ⟨⟨op, args⟩, hop, g, hg, h⟩ := h
  split at h
  · rename_i hd
    cases h
    refine ⟨hop, rfl, fun d e => by rw [e] at hd; simpa using hd, ?_⟩
    unfold cGuard at hg
    split at hg
    · rename_i hgn
      cases hg
      exact .inl ⟨hgn, rfl⟩
    · rename_i j b hgs
      simp only [Option.bind_eq_some_iff, Option.map_eq_some_iff] at hg
      obtain ⟨o', ho', d, hd', rfl⟩ := hg
      exact .inr ⟨j, b, d, o', hgs, ho', hd', rfl⟩
  · cases h

theorem rop_step {nm : Nm} {o : Oper} {r : ROp} (hop : OpOK P n o r.op r.args) (hdst : r.dst = o.dst) (hd : ∀ d, o.dst = some d → d < n) {G : Ghost} {w : World} {fr : Fr} {st : Store} {a : Act} {K : Fr → Store → Prop} {KP : AVal → Fr → Store → Prop}
    (hC : ConcD n D G w ⟨fr, st⟩ a) (h : rop P nm r fr st K KP) {Kw : Act → World → Prop} {Q : Exit → Act → World → Prop}
    (hK : ∀ fr' st' G' w' a', K fr' st' → ConcD n D G' w' ⟨fr', st'⟩ a' → Ext G w st G' w' st' → Kw a' w')
    (hP : ∀ v x fr' st' G' w' a', KP v fr' st' → Rep G' st' v x → ConcD n D G' w' ⟨fr', st'⟩ a' → Ext G w st G' w' st' → Q (.panic [{ v := x, recovered := false }]) a' w') : o.wp P a w Kw Q := by
  have hdr : ∀ d, r.dst = some d → d < n := by rw [hdst]; exact hd
  unfold rop at h
  unfold OpOK at hop
  split at h
  · rename_i p e
    rw [e] at hop
    obtain ⟨v, hv, hk⟩ := h
    obtain ⟨x, w', G', hrun, hr, hS, hE⟩ := hop G w fr st a v hC.toConc hv
    refine wp_value hrun (hK _ _ G' w' _ hk ?_ hE)
    rw [← hdst]
    exact hC.put hE.later hS hdr hr
  · rename_i l e
    rw [e] at hop
    obtain ⟨v, hv, hk⟩ := h
    obtain ⟨x, hrun, hr⟩ := hop G w fr st a v hC.toConc hv
    refine wp_value hrun (hK _ _ G w _ hk ?_ (Ext.refl _ _ _))
    rw [← hdst]
    exact hC.put (Later.refl _ _) hC.st hdr hr
  · rename_i i e
    rw [e] at hop
    refine hop G w fr st a _ _ _ _ hC.toConc h Kw Q (fun v x st' G' w' hk hr hS hE => hK _ _ G' w' _ hk ?_ hE) (fun v x st' G' w' hk hr hS hE => hP v x _ _ G' w' _ hk hr ?_ hE)
    · rw [← hdst]; exact hC.put hE.later hS hdr hr
    · exact ⟨⟨hS, hC.size, fun t => (hC.fr t).later hE.later⟩, hC.defers⟩

theorem yielded_of {ops : Array Oper} {j d : Nat} {o : Oper} (ho : ops[j]? = some o) (hd : o.dst = some d) {tmps : Array Value} {c : Bool} (h : tmps.getD d undef = .bool c) : yielded ops tmps j = some c := by
  unfold yielded
  rw [ho]
  simp only [Option.bind_some, hd]
  cases hx : tmps[d]? with
  | none => simp [hx, undef] at h
  | some v => simp [hx] at h; subst h; rfl

theorem yielded_none {ops : Array Oper} {j d : Nat} {o : Oper} (ho : ops[j]? = some o) (hd : o.dst = some d) {tmps : Array Value} (h : tmps.getD d undef = undef) : yielded ops tmps j = none := by
  unfold yielded
  rw [ho]
  simp only [Option.bind_some, hd]
  cases hx : tmps[d]? with
  | none => rfl
  | some v => simp [hx] at h; subst h; rfl

theorem rep_tup0 {G : Ghost} {st : Store} {x : Value} (h : Rep G st (.tup []) x) : x = undef := by
  cases h with
  | tup l vs h =>
    have := h.length
    simp at this
    subst this
    rfl

theorem rep_undef {G : Ghost} {st : Store} : Rep G st (.tup []) undef := .tup [] #[] .nil

theorem rwp_sound {nm : Nm} {ops : Array Oper} : ∀ (os : List Oper) (l : List ROp), os.mapM (cROp P ops n) = some l → ∀ {G : Ghost} {w : World} {fr : Fr} {st : Store} {a : Act} {K : Fr → Store → Prop} {KP : AVal → Fr → Store → Prop},
    ConcD n D G w ⟨fr, st⟩ a → rwp P nm l fr st K KP → ∀ {Q : Exit → Act → World → Prop},
    (∀ fr' st' G' w' a', K fr' st' → ConcD n D G' w' ⟨fr', st'⟩ a' → Ext G w st G' w' st' → Q .normal a' w') →
    (∀ v x fr' st' G' w' a', KP v fr' st' → Rep G' st' v x → ConcD n D G' w' ⟨fr', st'⟩ a' → Ext G w st G' w' st' → Q (.panic [{ v := x, recovered := false }]) a' w') → wpList P ops Q os a w
  | [], l, hl, G, w, fr, st, a, K, KP, hC, h, Q, hK, hP => by
    simp at hl; subst hl
    exact hK _ _ _ _ _ h hC (Ext.refl _ _ _)
  | o :: os, l, hl, G, w, fr, st, a, K, KP, hC, h, Q, hK, hP => by
    rw [List.mapM_cons] at hl
    cases hr : cROp P ops n o with
    | none => simp [hr] at hl
    | some r =>
      cases hrs : os.mapM (cROp P ops n) with
      | none => simp [hr, hrs] at hl
      | some rs =>
        simp [hr, hrs] at hl
        subst hl
        obtain ⟨h1, h2, h3, h4⟩ := cROp_parts hr
        have hop := cOp_sound (n := n) h1
        simp only [rwp] at h
        have step : ∀ (_ : rop P nm r fr st (fun fr st => rwp P nm rs fr st K KP) KP), o.wp P a w (wpList P ops Q os) Q := fun hh =>
          rop_step hop h2 h3 hC hh (fun fr' st' G' w' a' hk hC' hE => rwp_sound os rs hrs hC' hk (fun _ _ _ _ _ k c e => hK _ _ _ _ _ k c (hE.trans e)) (fun _ _ _ _ _ _ _ k r c e => hP _ _ _ _ _ _ _ k r c (hE.trans e)))
            (fun v x fr' st' G' w' a' hk hr hC' hE => hP v x _ _ _ _ _ hk hr hC' hE)
        unfold wpList
        rcases h4 with ⟨g1, g2⟩ | ⟨j, b, d, o', g1, g2, g3, g4⟩
        · unfold ropG at h
          rw [g2] at h
          rw [if_pos (by simp [Region.wanted, g1])]
          exact .inl (step h)
        · unfold ropG at h
          rw [g4] at h
          simp only at h
          split at h
          · rename_i c hc
            have hb := hC.fr d
            rw [hc] at hb
            have hb' := rep_bool hb
            have hy := yielded_of g2 g3 hb'
            split at h
            · rename_i hcb
              rw [if_pos (by simp [Region.wanted, g1, hy, hcb])]
              exact .inl (step h)
            · rename_i hcb
              rw [if_neg (by simp [Region.wanted, g1, hy, hcb])]
              refine rwp_sound os rs hrs ?_ h hK hP
              rw [h2]
              exact hC.put (Later.refl _ _) hC.st h3 rep_undef
          · rename_i hc
            have hb := hC.fr d
            rw [hc] at hb
            have hy := yielded_none g2 g3 (rep_tup0 hb)
            rw [if_neg (by simp [Region.wanted, g1, hy])]
            refine rwp_sound os rs hrs ?_ h hK hP
            rw [h2]
            exact hC.put (Later.refl _ _) hC.st h3 rep_undef
          · exact h.elim

/-! ## Control -/

theorem AW.mono {c : Code} {Q Q' : AQ} {fr : Fr} {st : Store} (h : AW P n c Q fr st) (hq : ∀ e fr st, Q e fr st → Q' e fr st) : AW P n c Q' fr st :=
  fun D G w a hC => wp_mono (h D G w a hC) fun _ _ _ ⟨ae, fr', st', G', h1, h2⟩ => ⟨ae, fr', st', G', hq _ _ _ h1, h2⟩

theorem AW.region {nm : Nm} {id : Nat} {ops : Array Oper} {l : List ROp} (hl : ops.toList.mapM (cROp P ops n) = some l) {Q : AQ} {fr : Fr} {st : Store}
    (h : rwp P nm l fr st (Q .normal) (fun v fr st => Q (.panic v) fr st)) : AW P n (.region id ops false) Q fr st := by
  intro D G w a hC
  refine wp_region_list (rwp_sound ops.toList l hl hC h (fun fr' st' G' w' a' hk hC' hE => ⟨.normal, fr', st', G', hk, .normal, hC', hE⟩) (fun v x fr' st' G' w' a' hk hr hC' hE => ⟨.panic v, fr', st', G', hk, .panic v x hr, hC', hE⟩))

theorem AW.seq {x y : Code} {Q : AQ} {fr : Fr} {st : Store} (h : AW P n x (thenQ (AW P n y Q) Q) fr st) : AW P n (.seq x y) Q fr st := by
  intro D G w a hC
  refine wp_seq (wp_mono (h D G w a hC) ?_)
  rintro e a' w' ⟨ae, fr', st', G', h1, h2, h3, h4⟩
  cases h2 with
  | normal =>
    refine wp_mono (h1 D G' w' a' h3) ?_
    rintro e a2 w2 ⟨ae, fr2, st2, G2, k1, k2, k3, k4⟩
    exact ⟨ae, fr2, st2, G2, k1, k2, k3, h4.trans k4⟩
  | exit id => exact ⟨_, fr', st', G', h1, .exit id, h3, h4⟩
  | goto l => exact ⟨_, fr', st', G', h1, .goto l, h3, h4⟩
  | ret => exact ⟨_, fr', st', G', h1, .ret, h3, h4⟩
  | panic v x hr => exact ⟨_, fr', st', G', h1, .panic v x hr, h3, h4⟩

theorem AW.cond {c : Operand} {d : Opd} (hd : opd P 0 c = some d) {x y : Code} {Q : AQ} {fr : Fr} {st : Store} {t : Bool} (ht : fr.ev d = .bool t) (h : AW P n (if t then x else y) Q fr st) : AW P n (.cond c x y) Q fr st := by
  intro D G w a hC
  have h1 := opd_sound hC.toConc hd
  rw [ht] at h1
  exact wp_cond (rep_bool h1) (h D G w a hC)

theorem AW.block {id : Nat} {c : Code} {Q : AQ} {fr : Fr} {st : Store} (h : AW P n c (blockQ id Q) fr st) : AW P n (.block id c) Q fr st := by
  intro D G w a hC
  refine wp_block (wp_mono (h D G w a hC) ?_)
  rintro e a' w' ⟨ae, fr', st', G', h1, h2, h3, h4⟩
  cases h2 with
  | normal => exact ⟨_, fr', st', G', h1, .normal, h3, h4⟩
  | exit id' =>
    simp only [Exit.inBlock, blockQ] at h1 ⊢
    split at h1
    · rename_i e; rw [if_pos e]; exact ⟨_, fr', st', G', h1, .normal, h3, h4⟩
    · rename_i e; rw [if_neg e]; exact ⟨_, fr', st', G', h1, .exit id', h3, h4⟩
  | goto l => exact ⟨_, fr', st', G', h1, .goto l, h3, h4⟩
  | ret => exact ⟨_, fr', st', G', h1, .ret, h3, h4⟩
  | panic v x hr => exact ⟨_, fr', st', G', h1, .panic v x hr, h3, h4⟩

/-- A loop whose measure stands in no frame. -/
theorem wp_loop_ghost {X : Type} {c : Code} {Q : Exit → Act → World → Prop} (I : X → Act → World → Prop) (μ : X → Nat)
    (round : ∀ x a w, I x a w → c.wp P (Exit.then (fun a' w' => ∃ x', I x' a' w' ∧ μ x' < μ x) Q) a w) {x : X} {a : Act} {w : World} (h₀ : I x a w) : (Code.loop c).wp P Q a w := by
  intro b k cs
  have key : ∀ m x a w, μ x = m → I x a w →
      ∃ e a' w', Q e a' w' ∧ Arrives P (lone (b.at a (.code c :: .inLoop c :: k)) cs w) b k cs e a' w' := by
    intro m
    induction m using Nat.strongRecOn with
    | _ m ih =>
      intro x a w hn hI
      obtain ⟨e, a₁, w₁, hq, harr⟩ := round x a w hI b (.inLoop c :: k) cs
      cases e with
      | normal =>
        obtain ⟨x', hI₁, hlt⟩ := hq
        obtain ⟨e₂, a₂, w₂, hq₂, harr₂⟩ := ih (μ x') (hn ▸ hlt) x' a₁ w₁ rfl hI₁
        exact ⟨e₂, a₂, w₂, hq₂, .of_steps (Steps.trans harr (.one step_inLoop)) harr₂⟩
      | exit id => exact ⟨_, a₁, w₁, hq, .pass (x := .inLoop c) rfl (fun _ _ => .inl (by simp)) harr⟩
      | goto l => exact ⟨_, a₁, w₁, hq, .pass (x := .inLoop c) rfl (fun _ _ => .inl (by simp)) harr⟩
      | ret => exact ⟨_, a₁, w₁, hq, .pass (x := .inLoop c) rfl (fun _ _ => .inl (by simp)) harr⟩
      | panic ch => exact ⟨_, a₁, w₁, hq, .pass (x := .inLoop c) rfl (fun _ _ => .inl (by simp)) harr⟩
      | outgrown => exact ⟨_, a₁, w₁, hq, .pass (x := .inLoop c) rfl (fun _ _ => .inl (by simp)) harr⟩
  obtain ⟨e, a', w', hq, harr⟩ := key _ x a w rfl h₀
  exact ⟨e, a', w', hq, .of_steps (.one step_loop) harr⟩

/-- A loop, by what its rounds begin with. -/
theorem AW.loop {X : Type} {c : Code} {Q : AQ} (I : X → Fr → Store → Prop) (μ : X → Nat)
    (round : ∀ x fr st, I x fr st → AW P n c (thenQ (fun fr st => ∃ x', I x' fr st ∧ μ x' < μ x) Q) fr st) {x : X} {fr : Fr} {st : Store} (h : I x fr st) : AW P n (.loop c) Q fr st := by
  intro D G w a hC
  refine wp_loop_ghost (X := X) (fun x a' w' => ∃ fr' st' G', I x fr' st' ∧ ConcD n D G' w' ⟨fr', st'⟩ a' ∧ Ext G w st G' w' st') μ ?_ ⟨fr, st, G, h, hC, Ext.refl _ _ _⟩
  rintro x a' w' ⟨fr', st', G', hI, hC', hE⟩
  refine wp_mono (round x fr' st' hI D G' w' a' hC') ?_
  rintro e a2 w2 ⟨ae, fr2, st2, G2, h1, h2, h3, h4⟩
  cases h2 with
  | normal =>
    obtain ⟨x', hx, hlt⟩ := h1
    exact ⟨x', ⟨fr2, st2, G2, hx, h3, hE.trans h4⟩, hlt⟩
  | exit id => exact ⟨_, fr2, st2, G2, h1, .exit id, h3, hE.trans h4⟩
  | goto l => exact ⟨_, fr2, st2, G2, h1, .goto l, h3, hE.trans h4⟩
  | ret => exact ⟨_, fr2, st2, G2, h1, .ret, h3, hE.trans h4⟩
  | panic v x hr => exact ⟨_, fr2, st2, G2, h1, .panic v x hr, h3, hE.trans h4⟩

end
end Go.Am
