/- The abstract machine, run: regions, code, calls. -/
import Derived.Test.YteinffefhcpcmaaGreatDoorAmExecSound
import Derived.Scope
namespace Go.Am

/-- A store that a run knows so much of. -/
structure Agr (h : Hp) (b : Nat) (st : Store) : Prop where
  know : Knows h st
  lt : ∀ i s, h.get i = some s → i < b
  fresh : ∀ i, b ≤ i → st (0, i) = slot0

structure Step (h : Hp) (b : Nat) (st : Store) (h' : Hp) (b' : Nat) (st' : Store) : Prop where
  agr : Agr h' b' st'
  le : b ≤ b'
  gr : ∀ i s, h'.get i = some s → (∃ s', h.get i = some s') ∨ b ≤ i
  keep : ∀ i s, i < b → h.get i = some s → ∃ s', h'.get i = some s'
  fx : ∀ k : Key, (k.1 = 0 → k.2 < b ∧ h.get k.2 = none) → st' k = st k

theorem Step.refl {h : Hp} {b : Nat} {st : Store} (ha : Agr h b st) : Step h b st h b st :=
  ⟨ha, Nat.le_refl _, fun _ s e => .inl ⟨s, e⟩, fun _ s _ e => ⟨s, e⟩, fun _ _ => rfl⟩

theorem Step.trans {h h1 h2 : Hp} {b b1 b2 : Nat} {st st1 st2 : Store} (x : Step h b st h1 b1 st1) (y : Step h1 b1 st1 h2 b2 st2) : Step h b st h2 b2 st2 where
  agr := y.agr
  le := Nat.le_trans x.le y.le
  gr := fun i s e => by
    rcases y.gr i s e with ⟨s', h⟩ | h
    · exact x.gr i s' h
    · exact .inr (Nat.le_trans x.le h)
  keep := fun i s hi e => by
    obtain ⟨s', e'⟩ := x.keep i s hi e
    exact y.keep i s' (Nat.lt_of_lt_of_le hi x.le) e'
  fx := fun k hk => by
    rw [y.fx k (fun e => ?_), x.fx k hk]
    obtain ⟨k1, k2⟩ := hk e
    refine ⟨Nat.lt_of_lt_of_le k1 x.le, ?_⟩
    cases hg : h1.get k.2 with
    | none => rfl
    | some s =>
      rcases x.gr _ _ hg with ⟨s', e'⟩ | e'
      · rw [k2] at e'; cases e'
      · omega

structure RAg (b n : Nat) (h : Hp) (nx : Nat) (st : Store) : Prop where
  agr : Agr h nx st
  rsv : ∀ i, b ≤ i → i < b + n → h.get i = none → st (0, i) = slot0
  le : b + n ≤ nx

structure RStep (b n : Nat) (h : Hp) (nx : Nat) (st : Store) (h' : Hp) (nx' : Nat) (st' : Store) : Prop where
  rag : RAg b n h' nx' st'
  le : nx ≤ nx'
  gr : ∀ i s, h'.get i = some s → (∃ s', h.get i = some s') ∨ b ≤ i
  keep : ∀ i s, i < b → h.get i = some s → ∃ s', h'.get i = some s'
  fx : ∀ k : Key, (k.1 = 0 → k.2 < b ∧ h.get k.2 = none) → st' k = st k

theorem RStep.refl {b n : Nat} {h : Hp} {nx : Nat} {st : Store} (ha : RAg b n h nx st) : RStep b n h nx st h nx st :=
  ⟨ha, Nat.le_refl _, fun _ s e => .inl ⟨s, e⟩, fun _ s _ e => ⟨s, e⟩, fun _ _ => rfl⟩

theorem RStep.trans {b n : Nat} {h h1 h2 : Hp} {nx n1 n2 : Nat} {st st1 st2 : Store} (x : RStep b n h nx st h1 n1 st1) (y : RStep b n h1 n1 st1 h2 n2 st2) : RStep b n h nx st h2 n2 st2 where
  rag := y.rag
  le := Nat.le_trans x.le y.le
  gr := fun i s e => by
    rcases y.gr i s e with ⟨s', h⟩ | h
    · exact x.gr i s' h
    · exact .inr h
  keep := fun i s hi e => by
    obtain ⟨s', e'⟩ := x.keep i s hi e
    exact y.keep i s' hi e'
  fx := fun k hk => by
    rw [y.fx k (fun e => ?_), x.fx k hk]
    obtain ⟨k1, k2⟩ := hk e
    refine ⟨k1, ?_⟩
    cases hg : h1.get k.2 with
    | none => rfl
    | some s =>
      rcases x.gr _ _ hg with ⟨s', e'⟩ | e'
      · rw [k2] at e'; cases e'
      · omega

theorem RStep.ofUpd {b n d nx : Nat} {h h' : Hp} {st st' : Store} (ha : RAg b n h nx st) (hd : d < n) (hu : Upd (b + d) h st h' st') : RStep b n h nx st h' nx st' where
  rag := by
    have hle := ha.le
    have hlt : ∀ i s, h'.get i = some s → i < nx := fun i s e => by
      rcases hu.gr i s e with ⟨s', e'⟩ | e'
      · exact ha.agr.lt _ _ e'
      · omega
    refine ⟨⟨hu.ag, hlt, fun i hi => ?_⟩, fun i h1 h2 hg => ?_, ha.le⟩
    · rw [hu.fx (0, i) (fun _ => ?_)]
      · exact ha.agr.fresh i hi
      · cases hg : h'.get i with
        | none => rfl
        | some s => have := hlt i s hg; omega
    · rw [hu.fx (0, i) (fun _ => hg)]
      refine ha.rsv i h1 h2 ?_
      cases hg' : h.get i with
      | none => rfl
      | some s => obtain ⟨s', e⟩ := hu.keep i s hg'; rw [e] at hg; cases hg
  le := Nat.le_refl _
  gr := fun i s e => by
    rcases hu.gr i s e with h1 | h1
    · exact .inl h1
    · exact .inr (by omega)
  keep := fun i s _ e => hu.keep i s e
  fx := fun k hk => hu.fx k fun e => by
    obtain ⟨h1, h2⟩ := hk e
    cases hg : h'.get k.2 with
    | none => rfl
    | some s =>
      rcases hu.gr _ _ hg with ⟨s', e'⟩ | e'
      · rw [h2] at e'; cases e'
      · omega

theorem RStep.ofStep {b n nx nx' : Nat} {h h' : Hp} {st st' : Store} (ha : RAg b n h nx st) (hs : Step h nx st h' nx' st') : RStep b n h nx st h' nx' st' where
  rag := by
    have hle := ha.le
    refine ⟨hs.agr, fun i h1 h2 hg => ?_, Nat.le_trans ha.le hs.le⟩
    have hn : h.get i = none := by
      cases hg' : h.get i with
      | none => rfl
      | some s => obtain ⟨s', e⟩ := hs.keep i s (by omega) hg'; rw [e] at hg; cases hg
    rw [hs.fx (0, i) (fun _ => ⟨by simp only; omega, hn⟩)]
    exact ha.rsv i h1 h2 hn
  le := hs.le
  gr := fun i s e => by
    have hle := ha.le
    rcases hs.gr i s e with h1 | h1
    · exact .inl h1
    · exact .inr (by omega)
  keep := fun i s hi e => hs.keep i s (by have := ha.le; omega) e
  fx := fun k hk => hs.fx k fun e => by
    obtain ⟨h1, h2⟩ := hk e
    exact ⟨by have := ha.le; omega, h2⟩

theorem RAg.begin {h : Hp} {b n : Nat} {st : Store} (ha : Agr h b st) : RAg b n h (b + n) st :=
  ⟨⟨ha.know, fun i s e => by have := ha.lt i s e; omega, fun i hi => ha.fresh i (by omega)⟩, fun i hi _ _ => ha.fresh i hi, Nat.le_refl _⟩

theorem RStep.fin {b n nx' : Nat} {h h' : Hp} {st st' : Store} (hs : RStep b n h (b + n) st h' nx' st') : Step h b st h' nx' st' :=
  ⟨hs.rag.agr, by have := hs.le; omega, hs.gr, hs.keep, hs.fx⟩

def FrEq (fr : Fr) (rf : RF) : Prop := ∀ t, fr.get t = rf.at t

theorem FrEq.ev {fr : Fr} {rf : RF} (h : FrEq fr rf) (o : Opd) : fr.ev o = rf.ev o := by
  cases o with
  | t n => exact h n
  | c a => rfl

theorem FrEq.evs {fr : Fr} {rf : RF} (h : FrEq fr rf) (l : List Opd) : l.map fr.ev = l.map rf.ev :=
  List.map_congr_left fun o _ => h.ev o

theorem RF.at_put (rf : RF) (d : Nat) (v : AVal) (t : Nat) : RF.at (T.put rf d v) t = if t = d then v else rf.at t := by
  unfold RF.at
  rw [T.get_put]
  by_cases h : t = d
  · rw [if_pos h, if_pos h]
  · rw [if_neg h, if_neg h]

theorem FrEq.put {fr : Fr} {rf : RF} (h : FrEq fr rf) (d : Option Nat) (v : AVal) : FrEq (fr.put d v) (rf.set d v) := by
  intro t
  cases d with
  | none => exact h t
  | some d =>
    simp only [Fr.put, RF.set, Fr.get, RF.at_put]
    by_cases e : d = t
    · rw [if_pos e, if_pos e.symm]
    · rw [if_neg e, if_neg (fun x => e x.symm)]; exact h t

theorem bindL_mem {α β : Type} {f : α → Option (List β)} : ∀ {l : List α} {m : List β}, bindL f l = some m → ∀ a ∈ l, ∃ x, f a = some x ∧ ∀ y ∈ x, y ∈ m
  | [], m, h, a, ha => by cases ha
  | c :: l, m, h, a, ha => by
    simp only [bindL] at h
    split at h
    · cases h
    · rename_i x hx
      split at h
      · cases h
      · rename_i y hy
        cases h
        rcases List.mem_cons.1 ha with rfl | ha
        · exact ⟨x, hx, fun z hz => List.mem_append.2 (.inl hz)⟩
        · obtain ⟨x', h1, h2⟩ := bindL_mem hy a ha
          exact ⟨x', h1, fun z hz => List.mem_append.2 (.inr (h2 z hz))⟩

def CallOK (P : Program) (call : CallF) : Prop := ∀ f args h b outs, call f args h b = some outs → ∀ st, Agr h b st →
  ACalls P f args st (endK (fun v st' => ∃ o ∈ outs, v = o.1 ∧ Step h b st o.2.1 o.2.2 st') (fun _ _ => False)) ∧ Callable P f

def nmOf (b : Nat) : Nm := ⟨fun d => (0, b + d), fun _ => false⟩

section
variable {P : Program} {call : CallF} (hcall : CallOK P call) {b n : Nat}
include hcall

theorem xop_sound {o : ROp} {rf : RF} {h : Hp} {nx : Nat} {l : List (AVal × Hp × Nat)} (hx : xop call b n o rf h nx = some l) {fr : Fr} {st : Store} (hf : FrEq fr rf) (ha : RAg b n h nx st)
    {K : Fr → Store → Prop} {KP : AVal → Fr → Store → Prop} (hk : ∀ p ∈ l, ∀ st', RStep b n h nx st p.2.1 p.2.2 st' → K (fr.put o.dst p.1) st') : rop P (nmOf b) o fr st K KP := by
  unfold xop at hx
  unfold rop
  rw [hf.evs]
  split at hx
  · rename_i p e
    rw [e]
    split at hx
    · rename_i v hv
      cases hx
      exact ⟨v, hv, hk (v, h, nx) (List.mem_singleton.2 rfl) _ (.refl ha)⟩
    · cases hx
  · rename_i p e
    rw [e]
    split at hx
    · rename_i v hv
      cases hx
      exact ⟨v, xlev_sound hv ha.agr.know, hk (v, h, nx) (List.mem_singleton.2 rfl) _ (.refl ha)⟩
    · cases hx
  · rename_i i e
    rw [e]
    simp only
    generalize o.args.map rf.ev = args at *
    split at hx
    · rename_i f
      obtain ⟨h1, h2⟩ := hcall _ _ _ _ _ hx st ha.agr
      simp only [iwp]
      refine h1.mono fun e st' he => ?_
      cases e with
      | ret v =>
        obtain ⟨p, hp, rfl, hs⟩ := he
        exact hk p hp _ (.ofStep ha hs)
      | panic v => exact he.elim
    · rename_i f first cap rest
      obtain ⟨h1, h2⟩ := hcall _ _ _ _ _ hx st ha.agr
      simp only [iwp]
      refine ⟨h2, h1.mono fun e st' he => ?_⟩
      cases e with
      | ret v =>
        obtain ⟨p, hp, rfl, hs⟩ := he
        exact hk p hp _ (.ofStep ha hs)
      | panic v => exact he.elim
    · cases hb : Nat.blt (o.dst.getD 0) n with
      | false => simp [hb] at hx
      | true =>
        have hd : o.dst.getD 0 < n := by simpa [Nat.blt_eq] using hb
        simp only [hb, cond_true] at hx
        split at hx
        · rename_i l' hi
          cases hx
          refine iex_sound hi ha.agr.know (fun e => ha.rsv _ (by omega) (by omega) e) fun p hp st' hu => ?_
          exact hk (p.1, p.2, nx) (List.mem_map.2 ⟨p, hp, rfl⟩) _ (.ofUpd ha hd hu)
        · cases hx

theorem xopG_sound {o : ROp} {rf : RF} {h : Hp} {nx : Nat} {l : List (AVal × Hp × Nat)} (hx : xopG call b n o rf h nx = some l) {fr : Fr} {st : Store} (hf : FrEq fr rf) (ha : RAg b n h nx st)
    {K : Fr → Store → Prop} {KP : AVal → Fr → Store → Prop} (hk : ∀ p ∈ l, ∀ st', RStep b n h nx st p.2.1 p.2.2 st' → K (fr.put o.dst p.1) st') : ropG P (nmOf b) o fr st K KP := by
  unfold xopG at hx
  unfold ropG
  split at hx
  · rename_i e
    rw [e]
    exact xop_sound hcall hx hf ha hk
  · rename_i g t e
    rw [e]
    simp only
    rw [hf g]
    split at hx
    · rename_i c hc
      rw [hc]
      simp only
      by_cases hct : c = t
      · rw [if_pos hct]
        subst hct
        simp only [beq_self_eq_true, cond_true] at hx
        exact xop_sound hcall hx hf ha hk
      · rw [if_neg hct]
        have : (c == t) = false := by simpa using hct
        rw [this] at hx
        cases hx
        exact hk (.tup [], h, nx) (List.mem_singleton.2 rfl) _ (.refl ha)
    · rename_i hc
      rw [hc]
      cases hx
      exact hk (.tup [], h, nx) (List.mem_singleton.2 rfl) _ (.refl ha)
    · cases hx

theorem xreg_sound : ∀ {os : List ROp} {rf : RF} {h : Hp} {nx : Nat} {l : List (RF × Hp × Nat)} (_ : xreg call b n os rf h nx = some l) {fr : Fr} {st : Store} (_ : FrEq fr rf) (_ : RAg b n h nx st)
    {K : Fr → Store → Prop} {KP : AVal → Fr → Store → Prop} (_ : ∀ p ∈ l, ∀ fr' st', FrEq fr' p.1 → RStep b n h nx st p.2.1 p.2.2 st' → K fr' st'), rwp P (nmOf b) os fr st K KP
  | [], rf, h, nx, l, hx, fr, st, hf, ha, K, KP, hk => by
    simp only [xreg] at hx
    cases hx
    exact hk (rf, h, nx) (List.mem_singleton.2 rfl) _ _ hf (.refl ha)
  | o :: os, rf, h, nx, l, hx, fr, st, hf, ha, K, KP, hk => by
    simp only [xreg] at hx
    split at hx
    · cases hx
    · rename_i l' hl'
      refine xopG_sound hcall hl' hf ha fun p hp st' hs => ?_
      obtain ⟨x, h1, h2⟩ := bindL_mem hx p hp
      exact xreg_sound (os := os) h1 (hf.put _ _) hs.rag fun q hq fr' st2 hf' hs' => hk q (h2 q hq) _ _ hf' (hs.trans hs')

omit hcall in
theorem xqev_sound {o : ROp} {rf : RF} {h : Hp} {v : AVal} (hx : xqev o rf h = some v) {fr : Fr} {st : Store} (hf : FrEq fr rf) (ha : Knows h st) : qev o fr st = some v := by
  have key : (match o.op with | .p p => pev p (o.args.map rf.ev) | .l l => xlev h l (o.args.map rf.ev) | .i _ => none) = some v → qop o fr st = some v := by
    intro hq
    unfold qop
    rw [hf.evs]
    split at hq
    · rename_i e; rw [e]; exact hq
    · rename_i e; rw [e]; exact xlev_sound hq ha
    · cases hq
  unfold xqev at hx
  unfold qev
  split at hx
  · rename_i e
    rw [e]
    exact key hx
  · rename_i g t e
    rw [e]
    simp only
    rw [hf g]
    split at hx
    · rename_i c hc
      rw [hc]
      simp only
      by_cases hct : c = t
      · rw [if_pos hct]
        subst hct
        simp only [beq_self_eq_true, cond_true] at hx
        exact key hx
      · rw [if_neg hct]
        have : (c == t) = false := by simpa using hct
        rw [this] at hx
        exact hx
    · rename_i hc
      rw [hc]
      exact hx
    · cases hx

omit hcall in
theorem xstills_sound {rf : RF} {h : Hp} {fr : Fr} {st : Store} (hf : FrEq fr rf) (ha : Knows h st) : ∀ {l : List ROp}, xstills l rf h = true → stills l fr st
  | [], _ => trivial
  | o :: l, hx => by
    simp only [xstills, Bool.and_eq_true] at hx
    refine ⟨?_, xstills_sound hf ha hx.2⟩
    have h1 := hx.1
    unfold xstill at h1
    split at h1
    · rename_i v hv
      refine ⟨v, xqev_sound hv hf ha, fun d hd => ?_⟩
      rw [hd] at h1
      rw [hf d]
      exact veq_eq h1
    · cases h1

theorem xsched_sound : ∀ {s : Sched} {rf : RF} {h : Hp} {nx : Nat} {l : List (RF × Hp × Nat)} (_ : xsched call b n s rf h nx = some l) {fr : Fr} {st : Store} (_ : FrEq fr rf) (_ : RAg b n h nx st)
    {K : Fr → Store → Prop} {KP : AVal → Fr → Store → Prop} (_ : ∀ p ∈ l, ∀ fr' st', FrEq fr' p.1 → RStep b n h nx st p.2.1 p.2.2 st' → K fr' st'), swp P (nmOf b) s fr st K KP
  | .done, rf, h, nx, l, hx, fr, st, hf, ha, K, KP, hk => by
    simp only [xsched] at hx
    cases hx
    exact hk (rf, h, nx) (List.mem_singleton.2 rfl) _ _ hf (.refl ha)
  | .q o s, rf, h, nx, l, hx, fr, st, hf, ha, K, KP, hk => by
    simp only [xsched] at hx
    split at hx
    · rename_i v hv
      exact ⟨v, xqev_sound hv hf ha.agr.know, xsched_sound (s := s) hx (hf.put _ _) ha hk⟩
    · cases hx
  | .e o re s, rf, h, nx, l, hx, fr, st, hf, ha, K, KP, hk => by
    simp only [xsched] at hx
    split at hx
    · cases hx
    · rename_i l' hl'
      refine xopG_sound hcall hl' hf ha fun p hp st' hs => ?_
      obtain ⟨x, h1, h2⟩ := bindL_mem hx p hp
      cases hst : xstills re (rf.set o.dst p.1) p.2.1 with
      | false => simp [hst] at h1
      | true =>
        simp only [hst, cond_true] at h1
        refine ⟨xstills_sound (hf.put _ _) hs.rag.agr.know hst, ?_⟩
        exact xsched_sound (s := s) h1 (hf.put _ _) hs.rag fun q hq fr' st2 hf' hs' => hk q (h2 q hq) _ _ hf' (hs.trans hs')
  | .both x y, rf, h, nx, l, hx, fr, st, hf, ha, K, KP, hk => by
    simp only [xsched] at hx
    split at hx
    · rename_i l1 l2 h1 h2
      cases hx
      exact ⟨xsched_sound (s := x) h1 hf ha fun q hq => hk q (List.mem_append.2 (.inl hq)), xsched_sound (s := y) h2 hf ha fun q hq => hk q (List.mem_append.2 (.inr hq))⟩
    · cases hx

end

def postQ (outs : List Out) (h : Hp) (b : Nat) (st : Store) : AQ := fun e fr' st' => ∃ o ∈ outs, e = o.1.a ∧ FrEq fr' o.2.1 ∧ Step h b st o.2.2.1 o.2.2.2 st'

theorem AW.scope {P : Program} {n : Nat} {c : Code} {Q : AQ} {fr : Fr} {st : Store} (h : AW P n c Q fr st) (hg : ∀ l fr st, ¬ Q (.goto l) fr st) : AW P n (.scope c) Q fr st := by
  intro D G w a hC
  refine wp_scope_straight ?_
  refine wp_mono (h D G w a hC) ?_
  rintro e a2 w2 ⟨ae, fr2, st2, G2, h1, h2, h3, h4⟩
  cases h2 with
  | normal => exact ⟨_, fr2, st2, G2, h1, .normal, h3, h4⟩
  | exit id => exact ⟨_, fr2, st2, G2, h1, .exit id, h3, h4⟩
  | goto l => exact absurd h1 (hg _ _ _)
  | ret => exact ⟨_, fr2, st2, G2, h1, .ret, h3, h4⟩
  | panic v x hr => exact ⟨_, fr2, st2, G2, h1, .panic v x hr, h3, h4⟩

section
variable {P : Program} (hm : P.follows .mixedOrders = true) {call : CallF} (hcall : CallOK P call) {lf n : Nat}
include hm hcall

theorem xcode_sound : ∀ {c : ACode} {rf : RF} {h : Hp} {b : Nat} {outs : List Out}, xcode call lf n c rf h b = some outs → ∀ {fr : Fr} {st : Store}, FrEq fr rf → Agr h b st →
    ∀ nm, AC P nm n c (postQ outs h b st) fr st := by
  intro c
  induction c with
  | skip =>
    intro rf h b outs hx fr st hf ha nm code hc
    simp only [xcode] at hx
    cases hx
    obtain rfl := inv_of hc
    exact fun D G w a hC => wp_skip ⟨.normal, fr, st, G, ⟨_, List.mem_singleton.2 rfl, rfl, hf, .refl ha⟩, .normal, hC, Ext.refl _ _ _⟩
  | region ops =>
    intro rf h b outs hx fr st hf ha nm code hc
    obtain ⟨id, ops', rfl, hl⟩ := inv_of hc
    simp only [xcode] at hx
    split at hx
    · rename_i l hl'
      cases hx
      refine AW.region (nm := nmOf b) hl (xreg_sound hcall hl' hf (.begin ha) fun p hp fr' st' hf' hs => ?_)
      exact ⟨(.normal, p), List.mem_map.2 ⟨p, hp, rfl⟩, rfl, hf', hs.fin⟩
    · cases hx
  | draw s =>
    intro rf h b outs hx fr st hf ha nm code hc
    obtain ⟨id, ops, l, rfl, hl, hs⟩ := inv_of hc
    simp only [xcode] at hx
    split at hx
    · rename_i l' hl'
      cases hx
      refine AW.draw (nm := nmOf b) hm hl hs (xsched_sound hcall hl' hf (.begin ha) fun p hp fr' st' hf' hs => ?_)
      exact ⟨(.normal, p), List.mem_map.2 ⟨p, hp, rfl⟩, rfl, hf', hs.fin⟩
    · cases hx
  | seq x y ihx ihy =>
    intro rf h b outs hx fr st hf ha nm code hc
    obtain ⟨cx, cy, rfl, hcx, hcy⟩ := inv_of hc
    simp only [xcode] at hx
    split at hx
    · cases hx
    · rename_i l hl
      refine AW.seq ((ihx hl hf ha nm cx hcx).mono fun e fr' st' hq => ?_)
      obtain ⟨o, ho, rfl, hf', hs⟩ := hq
      obtain ⟨m, h1, h2⟩ := bindL_mem hx o ho
      obtain ⟨e, rf', h', b'⟩ := o
      cases e with
      | normal =>
        simp only at h1
        refine (ihy h1 hf' hs.agr nm cy hcy).mono fun e fr2 st2 hq2 => ?_
        obtain ⟨o2, ho2, he2, hf2, hs2⟩ := hq2
        exact ⟨o2, h2 _ ho2, he2, hf2, hs.trans hs2⟩
      | exit id => cases h1; exact ⟨_, h2 _ (List.mem_singleton.2 rfl), rfl, hf', hs⟩
      | ret => cases h1; exact ⟨_, h2 _ (List.mem_singleton.2 rfl), rfl, hf', hs⟩
  | cond d x y ihx ihy =>
    intro rf h b outs hx fr st hf ha nm code hc
    obtain ⟨c, cx, cy, rfl, hd, hcx, hcy⟩ := inv_of hc
    simp only [xcode] at hx
    split at hx
    · rename_i e
      exact AW.cond hd (t := true) (by rw [hf.ev]; exact e) (ihx hx hf ha nm cx hcx)
    · rename_i e
      exact AW.cond hd (t := false) (by rw [hf.ev]; exact e) (ihy hx hf ha nm cy hcy)
    · cases hx
  | block id x ih =>
    intro rf h b outs hx fr st hf ha nm code hc
    obtain ⟨cx, rfl, hcx⟩ := inv_of hc
    simp only [xcode] at hx
    split at hx
    · cases hx
    · rename_i l hl
      cases hx
      refine AW.block ((ih hl hf ha nm cx hcx).mono fun e fr' st' hq => ?_)
      obtain ⟨o, ho, rfl, hf', hs⟩ := hq
      have hmem := List.mem_map_of_mem (f := fun p : Out => match p with
        | (.exit i, q) => (cond (Nat.beq i id) XExit.normal (.exit i), q)
        | p => p) ho
      obtain ⟨e, q⟩ := o
      cases e with
      | normal => exact ⟨_, hmem, rfl, hf', hs⟩
      | ret => exact ⟨_, hmem, rfl, hf', hs⟩
      | exit i =>
        simp only at hmem
        simp only [XExit.a, blockQ]
        by_cases hi : i = id
        · subst hi
          simp only [Nat.beq_refl, cond_true] at hmem
          rw [if_pos rfl]
          exact ⟨_, hmem, rfl, hf', hs⟩
        · have : Nat.beq i id = false := by
            cases hb : Nat.beq i id with
            | false => rfl
            | true => exact absurd (Nat.eq_of_beq_eq_true hb) hi
          simp only [this, cond_false] at hmem
          rw [if_neg hi]
          exact ⟨_, hmem, rfl, hf', hs⟩
  | loop x ih =>
    intro rf h b outs hx fr st hf ha nm code hc
    obtain ⟨cx, rfl, hcx⟩ := inv_of hc
    simp only [xcode] at hx
    refine AW.loop (X := Nat) (fun f fr' st' => ∃ rf' h' b' l, xloop (xcode call lf n x) f rf' h' b' = some l ∧ (∀ o ∈ l, o ∈ outs) ∧ FrEq fr' rf' ∧ Step h b st h' b' st') id ?_ (x := lf) ⟨rf, h, b, outs, hx, fun _ h => h, hf, .refl ha⟩
    rintro f fr1 st1 ⟨rf1, h1, b1, l1, hx1, hsub, hf1, hs1⟩
    cases f with
    | zero => simp [xloop] at hx1
    | succ f =>
      simp only [xloop] at hx1
      split at hx1
      · cases hx1
      · rename_i l2 hl2
        refine (ih hl2 hf1 hs1.agr nm cx hcx).mono fun e fr' st' hq => ?_
        obtain ⟨o, ho, rfl, hf', hs⟩ := hq
        obtain ⟨m, k1, k2⟩ := bindL_mem hx1 o ho
        obtain ⟨e, rf', h', b'⟩ := o
        cases e with
        | normal =>
          simp only at k1
          exact ⟨f, ⟨rf', h', b', m, k1, fun o ho => hsub o (k2 o ho), hf', hs1.trans hs⟩, Nat.lt_succ_self f⟩
        | exit id => cases k1; exact ⟨_, hsub _ (k2 _ (List.mem_singleton.2 rfl)), rfl, hf', hs1.trans hs⟩
        | ret => cases k1; exact ⟨_, hsub _ (k2 _ (List.mem_singleton.2 rfl)), rfl, hf', hs1.trans hs⟩
  | rangeFunc f ps a b iha ihb => intro rf h b outs hx; simp [xcode] at hx
  | exit id =>
    intro rf h b outs hx fr st hf ha nm code hc
    simp only [xcode] at hx
    cases hx
    obtain rfl := inv_of hc
    exact fun D G w a hC => wp_exit ⟨.exit _, fr, st, G, ⟨_, List.mem_singleton.2 rfl, rfl, hf, .refl ha⟩, .exit _, hC, Ext.refl _ _ _⟩
  | scope x ih =>
    intro rf h b outs hx fr st hf ha nm code hc
    obtain ⟨cx, rfl, hcx⟩ := inv_of hc
    simp only [xcode] at hx
    refine AW.scope (ih hx hf ha nm cx hcx) ?_
    rintro l fr' st' ⟨o, ho, he, _⟩
    obtain ⟨e, _⟩ := o
    cases e <;> simp [XExit.a] at he
  | label l =>
    intro rf h b outs hx fr st hf ha nm code hc
    simp only [xcode] at hx
    cases hx
    obtain rfl := inv_of hc
    exact fun D G w a hC => wp_label ⟨.normal, fr, st, G, ⟨_, List.mem_singleton.2 rfl, rfl, hf, .refl ha⟩, .normal, hC, Ext.refl _ _ _⟩
  | goto l => intro rf h b outs hx; simp [xcode] at hx
  | ret =>
    intro rf h b outs hx fr st hf ha nm code hc
    simp only [xcode] at hx
    cases hx
    obtain rfl := inv_of hc
    exact fun D G w a hC => wp_ret ⟨.ret, fr, st, G, ⟨_, List.mem_singleton.2 rfl, rfl, hf, .refl ha⟩, .ret, hC, Ext.refl _ _ _⟩

end

theorem xres1_sound {h : Hp} {rf : RF} {fr : Fr} {st : Store} (hf : FrEq fr rf) (ha : Knows h st) {r : ARes} {v : AVal} (hx : xres1 h rf r = some v) : res1 st fr r = some v := by
  cases r with
  | t n => simp only [xres1, res1] at hx ⊢; rw [hf n]; exact hx
  | cell n sz => simp only [xres1, res1] at hx ⊢; rw [hf n]; exact ha.load hx

theorem xresL_sound {h : Hp} {rf : RF} {fr : Fr} {st : Store} (hf : FrEq fr rf) (ha : Knows h st) : ∀ {rs : List ARes} {l : List AVal}, xresL h rf rs = some l → rs.mapM (res1 st fr) = some l
  | [], l, hx => by simp only [xresL] at hx; cases hx; rfl
  | r :: rs, l, hx => by
    simp only [xresL] at hx
    split at hx
    · rename_i v m h1 h2
      cases hx
      rw [List.mapM_cons, xres1_sound hf ha h1]
      simp [xresL_sound hf ha h2]
    · cases hx

theorem xres_sound {h : Hp} {rf : RF} {fr : Fr} {st : Store} (hf : FrEq fr rf) (ha : Knows h st) {rs : List ARes} {v : AVal} (hx : xres h rf rs = some v) : resA st fr rs = some v := by
  unfold xres at hx
  unfold resA
  split at hx
  · exact xres1_sound hf ha hx
  · rename_i hne
    split at hx
    · rename_i l hl
      cases hx
      split
      · exact absurd rfl (hne _)
      · rw [xresL_sound hf ha hl]; rfl
    · cases hx

theorem xrets_sound {res : List ARes} : ∀ {outs : List Out} {l : List (AVal × Hp × Nat)}, xrets res outs = some l → ∀ o ∈ outs, (o.1 = .normal ∨ o.1 = .ret) ∧ ∃ v, xres o.2.2.1 o.2.1 res = some v ∧ (v, o.2.2) ∈ l
  | [], _, _, o, ho => by cases ho
  | (e, rf, h, b) :: m, l, hx, o, ho => by
    simp only [xrets] at hx
    have key : e ≠ .exit 0 ∨ True := .inr trivial
    cases e with
    | exit id => simp at hx
    | normal =>
      simp only at hx
      split at hx
      · rename_i v m' h1 h2
        cases hx
        rcases List.mem_cons.1 ho with rfl | ho
        · exact ⟨.inl rfl, v, h1, List.mem_cons_self ..⟩
        · obtain ⟨k1, v', k2, k3⟩ := xrets_sound h2 o ho
          exact ⟨k1, v', k2, List.mem_cons_of_mem _ k3⟩
      · cases hx
    | ret =>
      simp only at hx
      split at hx
      · rename_i v m' h1 h2
        cases hx
        rcases List.mem_cons.1 ho with rfl | ho
        · exact ⟨.inr rfl, v, h1, List.mem_cons_self ..⟩
        · obtain ⟨k1, v', k2, k3⟩ := xrets_sound h2 o ho
          exact ⟨k1, v', k2, List.mem_cons_of_mem _ k3⟩
      · cases hx

theorem keeps_sound {b0 : Nat} : ∀ (t m : Hp) (a c : Nat), keeps b0 a c t m = true → ∀ j s, t.get j = some s → a * j + c < b0 → ∃ s', m.get j = some s'
  | .leaf, m, a, c, _, j, s, e, _ => by simp [T.get] at e
  | .node v l r, .leaf, a, c, h, j, s, e, hlt => by
    exfalso
    simp only [keeps, Bool.and_eq_true] at h
    obtain ⟨⟨h1, h2⟩, h3⟩ := h
    simp only [T.get] at e
    cases hj : Nat.beq j 0 with
    | true =>
      rw [hj] at e
      simp only [cond_true] at e
      subst e
      simp only [Nat.ble_eq] at h1
      have := Nat.eq_of_beq_eq_true hj
      subst this
      omega
    | false =>
      have hj0 : j ≠ 0 := by intro e; subst e; simp at hj
      rw [hj] at e
      simp only [cond_false] at e
      cases hp : Nat.beq ((j - 1) % 2) 0 with
      | true =>
        rw [hp] at e
        have hp' := Nat.eq_of_beq_eq_true hp
        obtain ⟨s', e'⟩ := keeps_sound l .leaf _ _ h2 _ s e (by
          obtain ⟨q, rfl⟩ : ∃ q, j = 2 * q + 1 := ⟨(j - 1) / 2, by omega⟩
          rw [show (2 * q + 1 - 1) / 2 = q by omega]
          rw [Nat.mul_add, Nat.mul_one] at hlt
          rw [Nat.mul_comm 2 a, Nat.mul_assoc]
          omega)
        simp [T.get] at e'
      | false =>
        rw [hp] at e
        have hp' : (j - 1) % 2 ≠ 0 := by intro e; rw [e] at hp; simp at hp
        obtain ⟨s', e'⟩ := keeps_sound r .leaf _ _ h3 _ s e (by
          obtain ⟨q, rfl⟩ : ∃ q, j = 2 * q + 2 := ⟨(j - 2) / 2, by omega⟩
          rw [show (2 * q + 2 - 1) / 2 = q by omega]
          rw [Nat.mul_add] at hlt
          rw [Nat.mul_comm 2 a, Nat.mul_assoc]
          omega)
        simp [T.get] at e'
  | .node v l r, .node v' l' r', a, c, h, j, s, e, hlt => by
    simp only [keeps, Bool.and_eq_true] at h
    obtain ⟨⟨h1, h2⟩, h3⟩ := h
    simp only [T.get] at e ⊢
    cases hj : Nat.beq j 0 with
    | true =>
      rw [hj] at e
      simp only [cond_true] at e ⊢
      subst e
      have := Nat.eq_of_beq_eq_true hj
      subst this
      cases v' with
      | some s' => exact ⟨s', rfl⟩
      | none => simp only [Nat.ble_eq] at h1; omega
    | false =>
      have hj0 : j ≠ 0 := by intro e; subst e; simp at hj
      rw [hj] at e
      simp only [cond_false] at e ⊢
      cases hp : Nat.beq ((j - 1) % 2) 0 with
      | true =>
        rw [hp] at e
        have hp' := Nat.eq_of_beq_eq_true hp
        exact keeps_sound l l' _ _ h2 _ s e (by
          obtain ⟨q, rfl⟩ : ∃ q, j = 2 * q + 1 := ⟨(j - 1) / 2, by omega⟩
          rw [show (2 * q + 1 - 1) / 2 = q by omega]
          rw [Nat.mul_add, Nat.mul_one] at hlt
          rw [Nat.mul_comm 2 a, Nat.mul_assoc]
          omega)
      | false =>
        rw [hp] at e
        have hp' : (j - 1) % 2 ≠ 0 := by intro e; rw [e] at hp; simp at hp
        exact keeps_sound r r' _ _ h3 _ s e (by
          obtain ⟨q, rfl⟩ : ∃ q, j = 2 * q + 2 := ⟨(j - 2) / 2, by omega⟩
          rw [show (2 * q + 2 - 1) / 2 = q by omega]
          rw [Nat.mul_add] at hlt
          rw [Nat.mul_comm 2 a, Nat.mul_assoc]
          omega)

theorem Step.weaken {h h1 h2 : Hp} {b b1 b2 : Nat} {st st' : Store} (hs : Step h b st h1 b1 st') (hb : b1 ≤ b2) (hsub : ∀ i s, h2.get i = some s → h1.get i = some s)
    (hk : ∀ i s, h1.get i = some s → i < b → ∃ s', h2.get i = some s') : Step h b st h2 b2 st' where
  agr := ⟨fun i s e => hs.agr.know i s (hsub i s e), fun i s e => Nat.lt_of_lt_of_le (hs.agr.lt i s (hsub i s e)) hb, fun i hi => hs.agr.fresh i (Nat.le_trans hb hi)⟩
  le := Nat.le_trans hs.le hb
  gr := fun i s e => hs.gr i s (hsub i s e)
  keep := fun i s hi e => by
    obtain ⟨s', e'⟩ := hs.keep i s hi e
    exact hk i s' e' hi
  fx := hs.fx

theorem joinIn_sound {h : Hp} {b : Nat} {st st' : Store} {v1 : AVal} {h1 : Hp} {b1 : Nat} : ∀ {l : List (AVal × Hp × Nat)} (o : AVal × Hp × Nat), (o = (v1, h1, b1) ∨ o ∈ l) → Step h b st o.2.1 o.2.2 st' →
    ∃ o' ∈ joinIn b v1 h1 b1 l, o'.1 = o.1 ∧ Step h b st o'.2.1 o'.2.2 st'
  | [], o, ho, hs => by
    rcases ho with rfl | ho
    · exact ⟨_, List.mem_singleton.2 rfl, rfl, hs⟩
    · cases ho
  | (v', h', b') :: l, o, ho, hs => by
    simp only [joinIn]
    cases hc : (veq v1 v' && keeps b 1 0 h1 (meet h1 h') && keeps b 1 0 h' (meet h1 h')) with
    | true =>
      simp only [Bool.and_eq_true] at hc
      obtain ⟨⟨hv, k1⟩, k2⟩ := hc
      have hv := veq_eq hv
      subst hv
      simp only [cond_true]
      have s1 : Step h b st h1 b1 st' → Step h b st (meet h1 h') (max b1 b') st' := fun hs => hs.weaken (Nat.le_max_left ..) (fun i s e => meet_left _ _ e) (fun i s e hi => keeps_sound _ _ 1 0 k1 i s e (by omega))
      have s2 : Step h b st h' b' st' → Step h b st (meet h1 h') (max b1 b') st' := fun hs => hs.weaken (Nat.le_max_right ..) (fun i s e => meet_right _ _ e) (fun i s e hi => keeps_sound _ _ 1 0 k2 i s e (by omega))
      rcases ho with rfl | ho
      · exact ⟨_, List.mem_cons_self .., rfl, s1 hs⟩
      · rcases List.mem_cons.1 ho with rfl | ho
        · exact ⟨_, List.mem_cons_self .., rfl, s2 hs⟩
        · exact ⟨o, List.mem_cons_of_mem _ ho, rfl, hs⟩
    | false =>
      simp only [cond_false]
      have rest : (o = (v1, h1, b1) ∨ o ∈ l) → _ := fun ho => joinIn_sound (l := l) o ho hs
      rcases ho with ho | ho
      · obtain ⟨o', m1, m2⟩ := rest (.inl ho)
        exact ⟨o', List.mem_cons_of_mem _ m1, m2⟩
      · rcases List.mem_cons.1 ho with rfl | ho
        · exact ⟨_, List.mem_cons_self .., rfl, hs⟩
        · obtain ⟨o', m1, m2⟩ := rest (.inr ho)
          exact ⟨o', List.mem_cons_of_mem _ m1, m2⟩

theorem joinL_sound {h : Hp} {b : Nat} {st st' : Store} : ∀ {l : List (AVal × Hp × Nat)} (o : AVal × Hp × Nat), o ∈ l → Step h b st o.2.1 o.2.2 st' → ∃ o' ∈ joinL b l, o'.1 = o.1 ∧ Step h b st o'.2.1 o'.2.2 st'
  | [], o, ho, _ => by cases ho
  | [x], o, ho, hs => ⟨o, ho, rfl, hs⟩
  | (v, h1, b1) :: y :: l, o, ho, hs => by
    simp only [joinL]
    rcases List.mem_cons.1 ho with rfl | ho
    · exact joinIn_sound _ (.inl rfl) hs
    · obtain ⟨o', m1, m2, m3⟩ := joinL_sound (l := y :: l) o ho hs
      obtain ⟨o2, k1, k2, k3⟩ := joinIn_sound (v1 := v) (h1 := h1) (b1 := b1) o' (.inr m1) m3
      exact ⟨o2, k1, k2.trans m2, k3⟩

theorem argRF_at : ∀ (l : List AVal) (i : Nat) (r : RF) (t : Nat), (argRF i l r).at t = if i ≤ t ∧ t < i + l.length then (l[t - i]?).getD .junk else r.at t
  | [], i, r, t => by simp only [argRF, List.length_nil]; rw [if_neg (by omega)]
  | a :: l, i, r, t => by
    simp only [argRF, List.length_cons]
    rw [argRF_at l (i + 1) _ t, RF.at_put]
    by_cases h1 : t = i
    · subst h1
      rw [if_neg (by omega), if_pos rfl, if_pos (by omega)]
      simp
    · rw [if_neg h1]
      by_cases h2 : i ≤ t ∧ t < i + (l.length + 1)
      · rw [if_pos (by omega), if_pos h2]
        have : t - i = (t - (i + 1)) + 1 := by omega
        rw [this]; simp
      · rw [if_neg (by omega), if_neg h2]

theorem argRF_eq (args : List AVal) : FrEq (argFr args) (argRF 0 args .leaf) := by
  intro t
  rw [argFr_get, argRF_at]
  by_cases h : t < args.length
  · rw [if_pos (by omega)]; simp
  · rw [if_neg (by omega), List.getElem?_eq_none (by omega)]
    rfl

def TabOK (P : Program) (tab : T AFunc) : Prop := ∀ f af, tab.get f = some af → ∃ fn, P.funcs[f]? = some fn ∧ cFunc P fn = some af ∧ fn.body.isSome = true ∧ fn.name ≠ "runtime.NumGoroutine"

def PrimOK (P : Program) (prim : Prim) : Prop := ∀ f p, prim f = some p → ∀ call, CallOK P call → ∀ args h b outs, p call args h b = some outs → ∀ st, Agr h b st →
  ACalls P f args st (endK (fun v st' => ∃ o ∈ outs, v = o.1 ∧ Step h b st o.2.1 o.2.2 st') (fun _ _ => False)) ∧ Callable P f

theorem xcall_sound {P : Program} (hm : P.follows .mixedOrders = true) {tab : T AFunc} (ht : TabOK P tab) {prim : Prim} (hp : PrimOK P prim) {lf : Nat} : ∀ fuel, CallOK P (xcall tab prim lf fuel)
  | 0 => fun f args h b outs hx => by simp [xcall] at hx
  | fuel + 1 => fun f args h b outs hx st ha => by
    have ih := xcall_sound hm ht hp (lf := lf) fuel
    simp only [xcall] at hx
    split at hx
    · rename_i p hp'
      exact hp _ _ hp' _ ih _ _ _ _ hx st ha
    · split at hx
      · cases hx
      · rename_i af haf
        obtain ⟨fn, h1, h2, h3, h4⟩ := ht _ _ haf
        refine ⟨?_, fn, h1, h3, h4⟩
        cases hb : Nat.ble args.length af.n with
        | false => simp [hb] at hx
        | true =>
          have hle := Nat.le_of_ble_eq_true hb
          simp only [hb, cond_true] at hx
          split at hx
          · cases hx
          · rename_i outs' ho
            split at hx
            · cases hx
            · rename_i l hl
              cases hx
              refine ACalls_of h1 h2 (nmOf 0) hle fun code hc => ?_
              refine (xcode_sound hm ih ho (argRF_eq args) ha (nmOf 0) code hc).mono fun e fr' st' hq => ?_
              obtain ⟨o, hmem, rfl, hf', hs⟩ := hq
              obtain ⟨k1, v, k2, k3⟩ := xrets_sound hl o hmem
              have hres := xres_sound hf' hs.agr.know k2
              obtain ⟨o', m1, m2, m3⟩ := joinL_sound (v, o.2.2) k3 hs
              have : ∃ v, resA st' fr' af.res = some v ∧ endK (fun v st' => ∃ o ∈ joinL b l, v = o.1 ∧ Step h b st o.2.1 o.2.2 st') (fun _ _ => False) (.ret v) st' := ⟨v, hres, o', m1, m2.symm, m3⟩
              rcases k1 with e | e <;> rw [e] <;> exact this

end Go.Am
