/- The abstract machine, walked step by step. -/
import Derived.Test.YteinffefhcpcmaaGreatDoorAmExecSound2
namespace Go.Am

section
variable {P : Program} {nm : Nm} {n : Nat} {fr : Fr} {st : Store} {K : Fr → Store → Prop} {KP : AVal → Fr → Store → Prop} {Q : AQ}

theorem rwp_nil (h : K fr st) : rwp P nm [] fr st K KP := h

theorem rwp_p {dst : Option Nat} {p : POp} {args : List Opd} {os : List ROp} {vs : List AVal} {v : AVal} (hv : pev p vs = some v) (ha : args.map fr.ev = vs) (h : rwp P nm os (fr.put dst v) st K KP) : rwp P nm (⟨dst, .p p, args, none⟩ :: os) fr st K KP :=
  ⟨v, by rw [ha]; exact hv, h⟩

theorem rwp_l {dst : Option Nat} {l : LOp} {args : List Opd} {os : List ROp} {vs : List AVal} {v : AVal} (hv : lev st l vs = some v) (ha : args.map fr.ev = vs) (h : rwp P nm os (fr.put dst v) st K KP) : rwp P nm (⟨dst, .l l, args, none⟩ :: os) fr st K KP :=
  ⟨v, by rw [ha]; exact hv, h⟩

theorem rwp_pr {dst : Option Nat} {p : POp} {args : List Opd} {os : List ROp} {v : AVal} (hv : pev p (args.map fr.ev) = some v) (h : rwp P nm os (fr.put dst v) st K KP) : rwp P nm (⟨dst, .p p, args, none⟩ :: os) fr st K KP := ⟨v, hv, h⟩

theorem rwp_lr {dst : Option Nat} {l : LOp} {args : List Opd} {os : List ROp} {v : AVal} (hv : lev st l (args.map fr.ev) = some v) (h : rwp P nm os (fr.put dst v) st K KP) : rwp P nm (⟨dst, .l l, args, none⟩ :: os) fr st K KP := ⟨v, hv, h⟩

theorem rwp_i {dst : Option Nat} {i : IOp} {args : List Opd} {os : List ROp} {vs : List AVal} (ha : args.map fr.ev = vs) (h : iwp P (nm.key (dst.getD 0)) (nm.mu (dst.getD 0)) i vs st (fun v st' => rwp P nm os (fr.put dst v) st' K KP) (fun v st' => KP v fr st')) : rwp P nm (⟨dst, .i i, args, none⟩ :: os) fr st K KP := by
  subst ha
  exact h

theorem rwp_call {dst : Option Nat} {f : Nat} {args : List Opd} {os : List ROp} {vs : List AVal} {R : AEnd → Store → Prop} (hc : ACalls P f vs st R) (ha : args.map fr.ev = vs) (hp : ∀ v st', ¬ R (.panic v) st')
    (h : ∀ v st', R (.ret v) st' → rwp P nm os (fr.put dst v) st' K KP) : rwp P nm (⟨dst, .i (.call f), args, none⟩ :: os) fr st K KP := by
  subst ha
  refine rwp_i rfl ?_
  simp only [iwp]
  exact hc.mono fun e st' he => by
    cases e with
    | ret v => exact h v st' he
    | panic v => exact absurd he (hp v st')

theorem rwp_g1 {dst : Option Nat} {op : AOp} {args : List Opd} {g : Nat} {b : Bool} {os : List ROp} (hg : fr.get g = .bool b) (h : rwp P nm (⟨dst, op, args, none⟩ :: os) fr st K KP) : rwp P nm (⟨dst, op, args, some (g, b)⟩ :: os) fr st K KP := by
  show ropG P nm _ fr st _ KP
  unfold ropG
  simp only [hg, if_true]
  exact h

theorem rwp_g0 {dst : Option Nat} {op : AOp} {args : List Opd} {g : Nat} {b c : Bool} {os : List ROp} (hg : fr.get g = .bool c) (hne : (c == b) = false) (h : rwp P nm os (fr.put dst (.tup [])) st K KP) : rwp P nm (⟨dst, op, args, some (g, b)⟩ :: os) fr st K KP := by
  show ropG P nm _ fr st _ KP
  unfold ropG
  have : ¬ c = b := by simpa using hne
  simp only [hg, if_neg this]
  exact h

theorem rwp_gt {dst : Option Nat} {op : AOp} {args : List Opd} {g : Nat} {b : Bool} {os : List ROp} (hg : fr.get g = .tup []) (h : rwp P nm os (fr.put dst (.tup [])) st K KP) : rwp P nm (⟨dst, op, args, some (g, b)⟩ :: os) fr st K KP := by
  show ropG P nm _ fr st _ KP
  unfold ropG
  simp only [hg]
  exact h

theorem swp_done (h : K fr st) : swp P nm .done fr st K KP := h

theorem swp_p {dst : Option Nat} {p : POp} {args : List Opd} {s : Sched} {vs : List AVal} {v : AVal} (hv : pev p vs = some v) (ha : args.map fr.ev = vs) (h : swp P nm s (fr.put dst v) st K KP) : swp P nm (.q ⟨dst, .p p, args, none⟩ s) fr st K KP :=
  ⟨v, by show pev p (args.map fr.ev) = _; rw [ha]; exact hv, h⟩

theorem swp_pr {dst : Option Nat} {p : POp} {args : List Opd} {s : Sched} {v : AVal} (hv : pev p (args.map fr.ev) = some v) (h : swp P nm s (fr.put dst v) st K KP) : swp P nm (.q ⟨dst, .p p, args, none⟩ s) fr st K KP := ⟨v, hv, h⟩

theorem swp_lr {dst : Option Nat} {l : LOp} {args : List Opd} {s : Sched} {v : AVal} (hv : lev st l (args.map fr.ev) = some v) (h : swp P nm s (fr.put dst v) st K KP) : swp P nm (.q ⟨dst, .l l, args, none⟩ s) fr st K KP := ⟨v, hv, h⟩

theorem swp_l {dst : Option Nat} {l : LOp} {args : List Opd} {s : Sched} {vs : List AVal} {v : AVal} (hv : lev st l vs = some v) (ha : args.map fr.ev = vs) (h : swp P nm s (fr.put dst v) st K KP) : swp P nm (.q ⟨dst, .l l, args, none⟩ s) fr st K KP :=
  ⟨v, by show lev st l (args.map fr.ev) = _; rw [ha]; exact hv, h⟩

theorem swp_qg1 {dst : Option Nat} {op : AOp} {args : List Opd} {g : Nat} {b : Bool} {s : Sched} (hg : fr.get g = .bool b) (h : swp P nm (.q ⟨dst, op, args, none⟩ s) fr st K KP) : swp P nm (.q ⟨dst, op, args, some (g, b)⟩ s) fr st K KP := by
  obtain ⟨v, h1, h2⟩ := h
  refine ⟨v, ?_, h2⟩
  unfold qev at h1 ⊢
  simp only [hg, if_true]
  exact h1

theorem swp_qg0 {dst : Option Nat} {op : AOp} {args : List Opd} {g : Nat} {b c : Bool} {s : Sched} (hg : fr.get g = .bool c) (hne : (c == b) = false) (h : swp P nm s (fr.put dst (.tup [])) st K KP) : swp P nm (.q ⟨dst, op, args, some (g, b)⟩ s) fr st K KP := by
  refine ⟨.tup [], ?_, h⟩
  unfold qev
  have : ¬ c = b := by simpa using hne
  simp only [hg, if_neg this]

theorem swp_qgt {dst : Option Nat} {op : AOp} {args : List Opd} {g : Nat} {b : Bool} {s : Sched} (hg : fr.get g = .tup []) (h : swp P nm s (fr.put dst (.tup [])) st K KP) : swp P nm (.q ⟨dst, op, args, some (g, b)⟩ s) fr st K KP := by
  refine ⟨.tup [], ?_, h⟩
  unfold qev
  simp only [hg]

/-- An operation that changes something, with nothing to be looked at again. -/
theorem swp_e {o : ROp} {s : Sched} (h : rwp P nm [o] fr st (fun fr' st' => swp P nm s fr' st' K KP) (fun v _ st' => ∀ fr', KP v fr' st')) : swp P nm (.e o [] s) fr st K KP := by
  show ropG P nm o fr st (fun fr' st' => stills [] fr' st' ∧ swp P nm s fr' st' K KP) _
  have h1 : ropG P nm o fr st (fun fr' st' => swp P nm s fr' st' K KP) (fun v _ st' => ∀ fr', KP v fr' st') := h
  have key : ∀ {K' K'' : Fr → Store → Prop} {KP' : AVal → Fr → Store → Prop}, (∀ f s, K' f s → K'' f s) → ropG P nm o fr st K' KP' → ropG P nm o fr st K'' KP' := by
    intro K' K'' KP' hk hr
    have r : rop P nm o fr st K' KP' → rop P nm o fr st K'' KP' := by
      intro hr
      unfold rop at hr ⊢
      split at hr
      · obtain ⟨v, h1, h2⟩ := hr; exact ⟨v, h1, hk _ _ h2⟩
      · obtain ⟨v, h1, h2⟩ := hr; exact ⟨v, h1, hk _ _ h2⟩
      · exact iwp_mono (fun v s h => hk _ _ h) (fun _ _ h => h) hr
    unfold ropG at hr ⊢
    split at hr
    · exact r hr
    · split at hr
      · split at hr
        · rename_i e; rw [if_pos e]; exact r hr
        · rename_i e; rw [if_neg e]; exact hk _ _ hr
      · exact hk _ _ hr
      · exact hr
  exact key (fun f s h => ⟨trivial, h⟩) h1

theorem ac_skip (h : Q .normal fr st) : AC P nm n .skip Q fr st := by
  intro code hc
  obtain rfl := inv_of hc
  exact fun D G w a hC => wp_skip ⟨.normal, fr, st, G, h, .normal, hC, Ext.refl _ _ _⟩

theorem ac_region {ops : List ROp} (h : rwp P nm ops fr st (fun fr st => Q .normal fr st) (fun v fr st => Q (.panic v) fr st)) : AC P nm n (.region ops) Q fr st := by
  intro code hc
  obtain ⟨id, ops', rfl, hl⟩ := inv_of hc
  exact AW.region hl h

theorem ac_draw (hm : P.follows .mixedOrders = true) {s : Sched} (h : swp P nm s fr st (fun fr st => Q .normal fr st) (fun v fr st => Q (.panic v) fr st)) : AC P nm n (.draw s) Q fr st := by
  intro code hc
  obtain ⟨id, ops, l, rfl, hl, hs⟩ := inv_of hc
  exact AW.draw hm hl hs h

theorem ac_seq {a b : ACode} (h : AC P nm n a (thenQ (fun fr st => AC P nm n b Q fr st) Q) fr st) : AC P nm n (.seq a b) Q fr st := by
  intro code hc
  obtain ⟨x, y, rfl, hx, hy⟩ := inv_of hc
  refine AW.seq ((h x hx).mono fun e fr st hq => ?_)
  cases e <;> first | exact hq y hy | exact hq

theorem ac_cond {c : Opd} {a b : ACode} {t : Bool} (ht : fr.ev c = .bool t) (h : AC P nm n (cond t a b) Q fr st) : AC P nm n (.cond c a b) Q fr st := by
  intro code hc
  obtain ⟨c', x, y, rfl, hd, hx, hy⟩ := inv_of hc
  refine AW.cond hd ht ?_
  cases t
  · simp only [Bool.false_eq_true, if_false]; exact h y hy
  · simp only [if_true]; exact h x hx

theorem ac_cond1 {c : Opd} {a b : ACode} (ht : fr.ev c = .bool true) (h : AC P nm n a Q fr st) : AC P nm n (.cond c a b) Q fr st := ac_cond ht h
theorem ac_cond0 {c : Opd} {a b : ACode} (ht : fr.ev c = .bool false) (h : AC P nm n b Q fr st) : AC P nm n (.cond c a b) Q fr st := ac_cond ht h

theorem ac_block {id : Nat} {b : ACode} (h : AC P nm n b (blockQ id Q) fr st) : AC P nm n (.block id b) Q fr st := by
  intro code hc
  obtain ⟨x, rfl, hx⟩ := inv_of hc
  exact AW.block (h x hx)

theorem ac_exit {id : Nat} (h : Q (.exit id) fr st) : AC P nm n (.exit id) Q fr st := by
  intro code hc
  obtain rfl := inv_of hc
  exact fun D G w a hC => wp_exit ⟨.exit _, fr, st, G, h, .exit _, hC, Ext.refl _ _ _⟩

theorem ac_label {l : Nat} (h : Q .normal fr st) : AC P nm n (.label l) Q fr st := by
  intro code hc
  obtain rfl := inv_of hc
  exact fun D G w a hC => wp_label ⟨.normal, fr, st, G, h, .normal, hC, Ext.refl _ _ _⟩

theorem ac_ret (h : Q .ret fr st) : AC P nm n .ret Q fr st := by
  intro code hc
  obtain rfl := inv_of hc
  exact fun D G w a hC => wp_ret ⟨.ret, fr, st, G, h, .ret, hC, Ext.refl _ _ _⟩

theorem thenQ_n {next : Fr → Store → Prop} (h : next fr st) : thenQ next Q .normal fr st := h
theorem thenQ_e {next : Fr → Store → Prop} {id : Nat} (h : Q (.exit id) fr st) : thenQ next Q (.exit id) fr st := h
theorem thenQ_r {next : Fr → Store → Prop} (h : Q .ret fr st) : thenQ next Q .ret fr st := h
theorem blockQ_n {id : Nat} (h : Q .normal fr st) : blockQ id Q .normal fr st := h
theorem blockQ_r {id : Nat} (h : Q .ret fr st) : blockQ id Q .ret fr st := h
theorem blockQ_hit {id : Nat} (h : Q .normal fr st) : blockQ id Q (.exit id) fr st := by simp only [blockQ, if_true]; exact h
theorem blockQ_miss {id id' : Nat} (hne : Nat.beq id' id = false) (h : Q (.exit id') fr st) : blockQ id Q (.exit id') fr st := by
  have : ¬ id' = id := by rintro rfl; simp at hne
  simp only [blockQ, if_neg this]; exact h

/-- Of a frame less may be known. -/
theorem AC.forget {c : ACode} {fr' : Fr} (h : AC P nm n c Q fr' st) (hf : ∀ t, fr'.get t = .junk ∨ fr'.get t = fr.get t) : AC P nm n c Q fr st := by
  intro code hc D G w a hC
  refine h code hc D G w a ⟨⟨hC.st, hC.size, fun t => ?_⟩, hC.defers⟩
  show Rep G st (fr'.get t) _
  rcases hf t with e | e
  · rw [e]; exact .junk _
  · rw [e]; exact hC.fr t

/-- Does a frame have what a list says? -/
theorem forget_of : ∀ {l : Fr} {fr : Fr}, (∀ p ∈ l, fr.get p.1 = p.2) → ∀ t, l.get t = .junk ∨ l.get t = fr.get t
  | [], _, _, t => .inl rfl
  | (d, v) :: l, fr, h, t => by
    simp only [Fr.get]
    by_cases e : d = t
    · rw [if_pos e]
      subst e
      exact .inr (h (d, v) (List.mem_cons_self ..)).symm
    · rw [if_neg e]
      exact forget_of (fun p hp => h p (List.mem_cons_of_mem _ hp)) t

end
end Go.Am
