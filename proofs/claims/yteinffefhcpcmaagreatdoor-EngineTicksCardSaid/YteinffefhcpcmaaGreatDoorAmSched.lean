/- The abstract machine is sound: regions whose order is drawn. -/
import Derived.Test.YteinffefhcpcmaaGreatDoorAmSound10
namespace Go.Am
set_option linter.unusedSectionVars false

section
variable {P : Program} {n : Nat} {D : List Deferred}

theorem ropG_step {nm : Nm} {ops : Array Oper} {i : Nat} {o : Oper} {r : ROp} (ho : ops[i]? = some o) (hr : cROp P ops n o = some r) {G : Ghost} {w : World} {fr : Fr} {st : Store} {a : Act} {K : Fr → Store → Prop} {KP : AVal → Fr → Store → Prop}
    (hC : ConcD n D G w ⟨fr, st⟩ a) (h : ropG P nm r fr st K KP) {Kw : Act → World → Prop} {Q : Exit → Act → World → Prop}
    (hK : ∀ fr' st' G' w' a', K fr' st' → ConcD n D G' w' ⟨fr', st'⟩ a' → Ext G w st G' w' st' → Kw a' w')
    (hP : ∀ v x fr' st' G' w' a', KP v fr' st' → Rep G' st' v x → ConcD n D G' w' ⟨fr', st'⟩ a' → Ext G w st G' w' st' → Q (.panic [{ v := x, recovered := false }]) a' w') : wpOp P ops Q i Kw a w := by
  obtain ⟨h1, h2, h3, h4⟩ := cROp_parts hr
  have hop := cOp_sound (n := n) h1
  unfold wpOp
  simp only [ho]
  rcases h4 with ⟨g1, g2⟩ | ⟨j, b, d, o', g1, g2, g3, g4⟩
  · unfold ropG at h
    rw [g2] at h
    rw [if_pos (by simp [Region.wanted, g1])]
    exact .inl (rop_step hop h2 h3 hC h hK hP)
  · unfold ropG at h
    rw [g4] at h
    simp only at h
    split at h
    · rename_i c hc
      have hb := hC.fr d
      rw [hc] at hb
      have hb' := rep_bool hb
      have hy := yielded_of g2 g3 hb'
      split at h
      · rename_i hcb
        rw [if_pos (by simp [Region.wanted, g1, hy, hcb])]
        exact .inl (rop_step hop h2 h3 hC h hK hP)
      · rename_i hcb
        rw [if_neg (by simp [Region.wanted, g1, hy, hcb])]
        refine hK _ _ G w _ h ?_ (Ext.refl _ _ _)
        rw [h2]
        exact hC.put (Later.refl _ _) hC.st h3 rep_undef
    · rename_i hc
      have hb := hC.fr d
      rw [hc] at hb
      have hy := yielded_none g2 g3 (rep_tup0 hb)
      rw [if_neg (by simp [Region.wanted, g1, hy])]
      refine hK _ _ G w _ h ?_ (Ext.refl _ _ _)
      rw [h2]
      exact hC.put (Later.refl _ _) hC.st h3 rep_undef
    · exact h.elim

theorem Fr.get_put_ne {fr : Fr} {dst : Option Nat} {v : AVal} {t : Nat} (h : dst ≠ some t) : (fr.put dst v).get t = fr.get t := by
  cases dst with
  | none => rfl
  | some d =>
    have : d ≠ t := fun e => h (by rw [e])
    simp [Fr.put, Fr.get, this]

theorem Fr.get_put_eq {fr : Fr} {v : AVal} {t : Nat} : (fr.put (some t) v).get t = v := by simp [Fr.put, Fr.get]

theorem ev_same {fr fr' : Fr} {r : ROp} (h : ∀ t ∈ r.reads, fr'.get t = fr.get t) : r.args.map fr'.ev = r.args.map fr.ev := by
  refine List.map_congr_left fun x hx => ?_
  cases x with
  | c a => rfl
  | t m => exact h m (List.mem_append_left _ (List.mem_filterMap.2 ⟨.t m, hx, rfl⟩))

theorem guard_same {fr fr' : Fr} {r : ROp} (h : ∀ t ∈ r.reads, fr'.get t = fr.get t) {g : Nat} {b : Bool} (hg : r.guard = some (g, b)) : fr'.get g = fr.get g :=
  h g (List.mem_append_right _ (by simp [hg]))

theorem qop_same {fr fr' : Fr} {st : Store} {r : ROp} (h : ∀ t ∈ r.reads, fr'.get t = fr.get t) : qop r fr' st = qop r fr st := by
  unfold qop; rw [ev_same h]

theorem qev_same {fr fr' : Fr} {st : Store} {r : ROp} (h : ∀ t ∈ r.reads, fr'.get t = fr.get t) : qev r fr' st = qev r fr st := by
  unfold qev
  cases hg : r.guard with
  | none => exact qop_same h
  | some gb => obtain ⟨g, b⟩ := gb; simp only [guard_same h hg, qop_same h]

theorem qev_store {fr : Fr} {st st' : Store} {r : ROp} (h : r.op.looks = false) : qev r fr st' = qev r fr st := by
  unfold qev qop
  cases ho : r.op <;> simp_all [AOp.looks]

theorem ropG_of_qev {nm : Nm} {r : ROp} {fr : Fr} {st : Store} {v : AVal} (h : qev r fr st = some v) {KP : AVal → Fr → Store → Prop} : ropG P nm r fr st (fun f s => f = fr.put r.dst v ∧ s = st) KP := by
  have key : ∀ {v}, qop r fr st = some v → rop P nm r fr st (fun f s => f = fr.put r.dst v ∧ s = st) KP := by
    intro v h
    unfold qop at h
    unfold rop
    split at h
    · exact ⟨v, h, rfl, rfl⟩
    · exact ⟨v, h, rfl, rfl⟩
    · cases h
  unfold qev at h
  unfold ropG
  cases hg : r.guard with
  | none => rw [hg] at h; exact key h
  | some gb =>
    obtain ⟨g, b⟩ := gb
    rw [hg] at h
    simp only at h ⊢
    split at h
    · split at h
      · rename_i hc; rw [if_pos hc]; exact key h
      · rename_i hc; rw [if_neg hc]; cases h; exact (by simp)
    · cases h; exact (by simp)
    · cases h

theorem iwp_mono {key : Key} {mu : Bool} {i : IOp} {args : List AVal} {st : Store} {K K' KP KP' : AVal → Store → Prop} (hk : ∀ v s, K v s → K' v s) (hp : ∀ v s, KP v s → KP' v s)
    (h : iwp P key mu i args st K KP) : iwp P key mu i args st K' KP' := by
  unfold iwp at h ⊢
  split at h
  · exact hk _ _ h
  · exact ⟨h.1, h.2.1, hk _ _ h.2.2⟩
  · obtain ⟨h1, h2, h3, h4, h5⟩ := h
    refine ⟨h1, h2, h3, h4, ?_⟩
    split at h5
    · exact ⟨h5.1, hk _ _ h5.2⟩
    · exact h5
  · rename_i e by_ tag e' l x
    by_cases hm : mu = true
    · rw [if_pos hm] at h; exact h.elim
    · rw [if_neg hm] at h ⊢
      obtain ⟨h1, h2, h3, m, h4, h5, h6⟩ := h
      exact ⟨h1, h2, h3, m, h4, h5, hk _ _ h6⟩
  · exact h.mono fun e s he => by cases e <;> first | exact hk _ _ he | exact hp _ _ he
  · exact ⟨h.1, h.2.mono fun e s he => by cases e <;> first | exact hk _ _ he | exact hp _ _ he⟩
  · exact ⟨h.1, hp _ _ h.2⟩
  · exact hk _ _ h
  · obtain ⟨h1, es, c, h2, h3⟩ := h
    refine ⟨h1, es, c, h2, ?_⟩
    rcases h3 with ⟨es', h3, h4⟩ | ⟨h3, h4⟩
    · exact .inl ⟨es', h3, hk _ _ h4⟩
    · exact .inr ⟨h3, hk _ _ h4⟩
  · exact ⟨h.1, hk _ _ h.2⟩
  · obtain ⟨h1, es, c, h2, es', h3, h4⟩ := h
    exact ⟨h1, es, c, h2, es', h3, hk _ _ h4⟩
  · exact hk _ _ h
  · obtain ⟨es, c, h2, h3⟩ := h
    exact ⟨es, c, h2, hk _ _ h3⟩
  · exact hk _ _ h
  · obtain ⟨h1, h2, h3, h4, h5, h6⟩ := h
    refine ⟨h1, h2, h3, h4, h5, ?_⟩
    split at h6
    · exact ⟨h6.1, hk _ _ h6.2⟩
    · exact h6
  · obtain ⟨es, c, h2, h3⟩ := h
    exact ⟨es, c, h2, hk _ _ h3⟩
  · obtain ⟨h1, h2⟩ := h
    refine ⟨h1, ?_⟩
    split at h2
    · obtain ⟨es, c, h3, h4, h5, h6⟩ := h2
      exact ⟨es, c, h3, h4, fun e => hk _ _ (h5 e), fun e he => hk _ _ (h6 e he)⟩
    · exact h2
  · obtain ⟨h1, h2, h3, h4, h5, h6⟩ := h
    exact ⟨h1, h2, h3, h4, h5, hk _ _ h6⟩
  · exact hk _ _ h
  · obtain ⟨h1, h2, h3, h4, h5, h6, h7, h8, h9⟩ := h
    exact ⟨h1, h2, h3, h4, h5, h6, h7, h8, hk _ _ h9⟩
  · exact h

theorem ropG_frame {nm : Nm} {r : ROp} {fr af : Fr} {st : Store} {K : Fr → Store → Prop} {KP : AVal → Fr → Store → Prop} (hs : ∀ t ∈ r.reads, af.get t = fr.get t) (h : ropG P nm r fr st K KP) :
    ropG P nm r af st (fun f s => ∃ v, f = af.put r.dst v ∧ K (fr.put r.dst v) s) (fun v f s => f = af ∧ KP v fr s) := by
  have key : rop P nm r fr st K KP → rop P nm r af st (fun f s => ∃ v, f = af.put r.dst v ∧ K (fr.put r.dst v) s) (fun v f s => f = af ∧ KP v fr s) := by
    intro h
    unfold rop at h ⊢
    rw [ev_same hs]
    split at h
    · obtain ⟨v, h1, h2⟩ := h; exact ⟨v, h1, v, rfl, h2⟩
    · obtain ⟨v, h1, h2⟩ := h; exact ⟨v, h1, v, rfl, h2⟩
    · exact iwp_mono (fun v s hk => ⟨v, rfl, hk⟩) (fun v s hk => ⟨rfl, hk⟩) h
  unfold ropG at h ⊢
  cases hg : r.guard with
  | none => rw [hg] at h; exact key h
  | some gb =>
    obtain ⟨g, b⟩ := gb
    rw [hg] at h
    simp only at h ⊢
    rw [guard_same hs hg]
    split at h
    · split at h
      · rename_i hc; rw [if_pos hc]; exact key h
      · rename_i hc; rw [if_neg hc]; exact ⟨_, rfl, h⟩
    · exact ⟨_, rfl, h⟩
    · exact h.elim

theorem ConcD.congr {G : Ghost} {w : World} {fr fr' : Fr} {st : Store} {a : Act} (h : ConcD n D G w ⟨fr, st⟩ a) (he : ∀ t, fr'.get t = fr.get t) : ConcD n D G w ⟨fr', st⟩ a :=
  ⟨⟨h.st, h.size, fun t => by show Rep G st (fr'.get t) _; rw [he t]; exact h.fr t⟩, h.defers⟩

/-! ## The order -/

section
variable (rs : List ROp) (dl : List (List Nat))

/-- Where the run stands (A), and where the chosen order stands (C): it is ahead by what only looks. -/
structure Pnd (A C : Array Bool) (fr af : Fr) (st : Store) : Prop where
  hA : A.size = rs.length
  hC : C.size = rs.length
  sub : ∀ i, A.getD i false = true → C.getD i false = true
  clA : ∀ i, A.getD i false = true → ∀ d ∈ depOf dl i, A.getD d false = true
  clC : ∀ i, C.getD i false = true → ∀ d ∈ depOf dl i, C.getD d false = true
  pend : ∀ (i : Nat) (r : ROp), rs[i]? = some r → C.getD i false = true → A.getD i false = false → isQ rs dl i = true ∧ still r fr st
  frm : ∀ t, (∀ (i : Nat) (r : ROp), rs[i]? = some r → C.getD i false = true → A.getD i false = false → r.dst ≠ some t) → af.get t = fr.get t

theorem getD_setT {C : Array Bool} {i j : Nat} {d : Bool} (hi : i < C.size) : (C.setIfInBounds i true).getD j d = if i = j then true else C.getD j d := by
  split
  · rename_i h; subst h; simp [hi]
  · rename_i h; exact getD_set_ne d h

theorem getD_tf {C : Array Bool} {i : Nat} (hi : i < C.size) : C.getD i true = C.getD i false := by simp [hi]

theorem getD_lt {C : Array Bool} {i : Nat} (h : C.getD i false = true) : i < C.size := by
  rcases Nat.lt_or_ge i C.size with h' | h'
  · exact h'
  · simp [Array.getElem?_eq_none h'] at h

theorem ancs_sub {A : Array Bool} (hA : ∀ i, A.getD i false = true → ∀ d ∈ depOf dl i, A.getD d false = true) : ∀ (j : Nat) (l : List Nat), (∀ d ∈ l, A.getD d false = true) → ∀ d ∈ ancs dl j l, A.getD d false = true
  | 0, l, h => h
  | j + 1, l, h => by
    unfold ancs
    refine ancs_sub hA j _ ?_
    split
    · rename_i hc
      intro d hd
      rcases List.mem_append.1 hd with h1 | h1
      · exact hA j (h j (by simpa using hc)) d (List.mem_filter.1 h1).1
      · exact h d h1
    · exact h

structure OK : Prop where
  lt : ∀ i, i < rs.length → ∀ d ∈ depOf dl i, d < i
  rw : ∀ (i j : Nat) (x y : ROp) t, rs[i]? = some x → rs[j]? = some y → y.dst = some t → t ∈ x.reads → j ∈ depOf dl i ∨ i ∈ depOf dl j ∨ i = j
  ww : ∀ (i j : Nat) (x y : ROp) t, rs[i]? = some x → rs[j]? = some y → y.dst = some t → x.dst = some t → i = j

theorem OK.of (h : schedOK rs dl = true) : OK rs dl := by
  have h1 : ∀ i, i < rs.length → (∀ d ∈ depOf dl i, d < i) ∧ ∀ j, j < rs.length → _ := fun i hi => by
    have := List.all_eq_true.1 h i (List.mem_range.2 hi)
    rw [Bool.and_eq_true] at this
    exact ⟨fun d hd => by simpa using List.all_eq_true.1 this.1 d hd, fun j hj => List.all_eq_true.1 this.2 j (List.mem_range.2 hj)⟩
  have lt : ∀ {i : Nat} {x : ROp}, rs[i]? = some x → i < rs.length := fun e => (List.getElem?_eq_some_iff.1 e).1
  refine ⟨fun i hi => (h1 i hi).1, fun i j x y t hx hy ht hr => ?_, fun i j x y t hx hy ht hr => ?_⟩
  · have := (h1 i (lt hx)).2 j (lt hy)
    rw [hx, hy] at this
    simp only [ht, Bool.and_eq_true, Bool.or_eq_true, Bool.not_eq_true', List.contains_eq_mem, decide_eq_true_eq, beq_iff_eq, decide_eq_false_iff_not] at this
    rcases this.1 with ((h | h) | h) | h
    · exact absurd hr h
    · exact .inl h
    · exact .inr (.inl h)
    · exact .inr (.inr h)
  · have := (h1 i (lt hx)).2 j (lt hy)
    rw [hx, hy] at this
    simp only [ht, Bool.and_eq_true, Bool.or_eq_true, Bool.not_eq_true', List.contains_eq_mem, decide_eq_true_eq, beq_iff_eq, decide_eq_false_iff_not, bne_iff_ne] at this
    rcases this.2 with h | h
    · exact h
    · exact absurd hr h

theorem isQ_spec {i : Nat} {r : ROp} (hr : rs[i]? = some r) (h : isQ rs dl i = true) : r.op.quiet = true ∧ ∀ t, r.dst = some t → ∀ (j : Nat) (y : ROp), rs[j]? = some y → t ∈ y.reads → i ∈ depOf dl j := by
  unfold isQ at h
  rw [hr] at h
  simp only [Bool.and_eq_true] at h
  refine ⟨h.1, fun t ht j y hy hm => ?_⟩
  have h2 := h.2
  rw [ht] at h2
  have := List.all_eq_true.1 h2 j (List.mem_range.2 (List.getElem?_eq_some_iff.1 hy).1)
  rw [hy] at this
  simp only [Bool.or_eq_true, Bool.not_eq_true', List.contains_eq_mem, decide_eq_true_eq, decide_eq_false_iff_not] at this
  exact this.resolve_left fun h => h hm

theorem rdy_iff {C : Array Bool} {i : Nat} (hC : C.size = rs.length) (hi : i < rs.length) : rdy dl C i = true ↔ C.getD i false = false ∧ ∀ d ∈ depOf dl i, C.getD d false = true := by
  unfold rdy
  rw [getD_tf (by omega)]
  simp only [Bool.and_eq_true, Bool.not_eq_true', List.all_eq_true]

theorem swp_bothOf {nm : Nm} : ∀ {l : List Sched} {s : Sched}, bothOf l = some s → ∀ {fr st K KP}, swp P nm s fr st K KP → ∀ x ∈ l, swp P nm x fr st K KP
  | [], _, h, _, _, _, _, _, _, _ => by simp [bothOf] at h
  | [a], s, h, fr, st, K, KP, hs, x, hx => by
    simp [bothOf] at h; subst h
    simp at hx; subst hx; exact hs
  | a :: b :: l, s, h, fr, st, K, KP, hs, x, hx => by
    simp only [bothOf, Option.map_eq_some_iff] at h
    obtain ⟨s', hs', rfl⟩ := h
    rcases List.mem_cons.1 hx with rfl | hx
    · exact hs.1
    · exact swp_bothOf hs' hs.2 x hx

theorem stills_mem : ∀ {l : List ROp} {fr : Fr} {st : Store}, stills l fr st → ∀ r ∈ l, still r fr st
  | [], _, _, _, _, h => by cases h
  | a :: l, fr, st, hs, r, h => by
    rcases List.mem_cons.1 h with rfl | h
    · exact hs.1
    · exact stills_mem hs.2 r h

end

section
variable {rs : List ROp} {dl : List (List Nat)} {nm : Nm}

theorem still_put {r : ROp} {fr : Fr} {st : Store} {dst : Option Nat} {v : AVal} (hr : ∀ t, dst = some t → t ∉ r.reads) (hd : ∀ t, dst = some t → r.dst ≠ some t) (h : still r fr st) : still r (fr.put dst v) st := by
  obtain ⟨u, h1, h2⟩ := h
  refine ⟨u, ?_, fun d e => ?_⟩
  · rw [qev_same (fr := fr)]
    · exact h1
    · intro t ht; exact Fr.get_put_ne fun e => hr t e ht
  · rw [Fr.get_put_ne (fun e' => hd d e' e)]; exact h2 d e

theorem all_listed {A C : Array Bool} {fr af : Fr} {st : Store} (hp : Pnd rs dl A C fr af st) (ok : OK rs dl) (h : ∀ i, i < rs.length → rdy dl A i = false) : ∀ i, i < rs.length → A.getD i false = true := by
  intro i
  induction i using Nat.strongRecOn with
  | _ i ih =>
    intro hi
    cases hx : A.getD i false with
    | true => rfl
    | false =>
      have := (rdy_iff rs dl hp.hA hi).2 ⟨hx, fun d hd => ih d (ok.lt i hi d hd) (by have := ok.lt i hi d hd; omega)⟩
      rw [h i hi] at this
      cases this

end

section
variable {ops : Array Oper} {rs : List ROp} {nm : Nm}

theorem compiled (hrs : ops.toList.mapM (cROp P ops n) = some rs) : rs.length = ops.size ∧ ∀ (i : Nat) (r : ROp), rs[i]? = some r → ∃ o, ops[i]? = some o ∧ cROp P ops n o = some r := by
  obtain ⟨h1, h2⟩ := mapM_get hrs
  refine ⟨by simpa using h1, fun i r hr => ?_⟩
  have hi : i < ops.size := by have := (List.getElem?_eq_some_iff.1 hr).1; simpa [h1] using this
  obtain ⟨b, hb, hc⟩ := h2 i ops[i] (by simp [hi])
  rw [hr] at hb
  cases hb
  exact ⟨ops[i], by simp [hi], hc⟩

theorem depOf_eq {i : Nat} {o : Oper} (h : ops[i]? = some o) : depOf (ops.toList.map depsOf) i = depsOf o := by
  simp [depOf, h]

theorem ready_iff (hl : rs.length = ops.size) {A : Array Bool} {i : Nat} (hA : A.size = rs.length) : i ∈ Region.ready .any ops A ↔ i < rs.length ∧ rdy (ops.toList.map depsOf) A i = true := by
  rw [mem_ready]
  constructor
  · rintro ⟨h1, o, ho, h2⟩
    have hi : i < ops.size := (Array.getElem?_eq_some_iff.1 ho).1
    refine ⟨by omega, ?_⟩
    rw [rdy_iff rs _ hA (by omega), depOf_eq ho]
    refine ⟨by rw [← getD_tf (by omega)]; exact h1, fun d hd => ?_⟩
    simp only [depsOf, List.mem_map, List.mem_filter] at hd
    obtain ⟨e, ⟨he, hb⟩, rfl⟩ := hd
    exact h2 e (by simpa using he) hb
  · rintro ⟨hi, hr⟩
    rw [rdy_iff rs _ hA hi] at hr
    have ho : ops[i]? = some ops[i] := by simp
    rw [depOf_eq ho] at hr
    refine ⟨by rw [getD_tf (by omega)]; exact hr.1, _, ho, fun e he hb => hr.2 _ ?_⟩
    simp only [depsOf, List.mem_map, List.mem_filter]
    exact ⟨e, ⟨by simpa using he, hb⟩, rfl⟩

theorem schedFrom_done {dl : List (List Nat)} {C : Array Bool} {f : Nat} {s : Sched} (h : schedFrom rs dl f C = some s) (hall : ∀ i, i < rs.length → C.getD i false = true) : s = .done := by
  have : (List.range rs.length).all (fun i => C.getD i false) = true := List.all_eq_true.2 fun i hi => hall i (List.mem_range.1 hi)
  cases f with
  | zero => unfold schedFrom at h; rw [if_pos this] at h; cases h; rfl
  | succ f => unfold schedFrom at h; rw [if_pos this] at h; cases h; rfl

theorem count_set {A : Array Bool} {i : Nat} (hi : i < A.size) (h : A.getD i false = false) : (A.setIfInBounds i true).toList.count false + 1 = A.toList.count false := by
  have h0 : A[i] = false := by simpa [hi] using h
  have hm : false ∈ A.toList := by rw [← h0]; simp
  have hp : 0 < A.toList.count false := List.count_pos_iff.2 hm
  have hc : (A.setIfInBounds i true).toList.count false = A.toList.count false - 1 := by
    rw [Array.toList_setIfInBounds, List.count_set (by simpa using hi)]
    simp [h0]
  omega

section
variable {dl : List (List Nat)} {A C : Array Bool} {fr af : Fr} {st : Store}

theorem Pnd.both (hp : Pnd rs dl A C fr af st) (ok : OK rs dl) {i : Nat} {r : ROp} (hr : rs[i]? = some r) (hCi : C.getD i false = false) (hdep : ∀ d ∈ depOf dl i, A.getD d false = true) {st' : Store} {v : AVal}
    (hst : ∀ (k : Nat) (y : ROp), rs[k]? = some y → C.getD k false = true → A.getD k false = false → still y (fr.put r.dst v) st') : Pnd rs dl (A.setIfInBounds i true) (C.setIfInBounds i true) (fr.put r.dst v) (af.put r.dst v) st' := by
  have hi := (List.getElem?_eq_some_iff.1 hr).1
  have hAs : i < A.size := by have := hp.hA; omega
  have hCs : i < C.size := by have := hp.hC; omega
  have hAi : A.getD i false = false := by
    cases h : A.getD i false with
    | false => rfl
    | true => rw [hp.sub i h] at hCi; cases hCi
  refine ⟨by simpa using hp.hA, by simpa using hp.hC, fun k hk => ?_, fun k hk d hd => ?_, fun k hk d hd => ?_, fun k y hy hkC hkA => ?_, fun t ht => ?_⟩
  · rw [getD_setT hAs] at hk; rw [getD_setT hCs]
    split
    · rfl
    · rename_i h; rw [if_neg h] at hk; exact hp.sub k hk
  · rw [getD_setT hAs] at hk ⊢
    split
    · rfl
    · split at hk
      · rename_i h; subst h; exact hdep d hd
      · exact hp.clA k hk d hd
  · rw [getD_setT hCs] at hk ⊢
    split
    · rfl
    · split at hk
      · rename_i h; subst h; exact hp.sub _ (hdep d hd)
      · exact hp.clC k hk d hd
  · rw [getD_setT hCs] at hkC; rw [getD_setT hAs] at hkA
    split at hkA
    · cases hkA
    · rename_i h
      rw [if_neg h] at hkC
      exact ⟨(hp.pend k y hy hkC hkA).1, hst k y hy hkC hkA⟩
  · by_cases hdt : r.dst = some t
    · rw [hdt, Fr.get_put_eq, Fr.get_put_eq]
    · rw [Fr.get_put_ne hdt, Fr.get_put_ne hdt]
      refine hp.frm t fun k y hy hkC hkA => ht k y hy ?_ ?_
      · rw [getD_setT hCs]; split <;> simp_all
      · rw [getD_setT hAs]
        split
        · rename_i h; subst h; rw [hkC] at hCi; cases hCi
        · exact hkA

theorem Pnd.behind (hp : Pnd rs dl A C fr af st) (ok : OK rs dl) {i : Nat} {r : ROp} (hr : rs[i]? = some r) (hCi : C.getD i false = true) (hdep : ∀ d ∈ depOf dl i, A.getD d false = true) {v : AVal}
    (hv : ∀ d, r.dst = some d → fr.get d = v) : Pnd rs dl (A.setIfInBounds i true) C fr (af.put r.dst v) st := by
  have hi := (List.getElem?_eq_some_iff.1 hr).1
  have hAs : i < A.size := by have := hp.hA; omega
  refine ⟨by simpa using hp.hA, hp.hC, fun k hk => ?_, fun k hk d hd => ?_, hp.clC, fun k y hy hkC hkA => ?_, fun t ht => ?_⟩
  · rw [getD_setT hAs] at hk
    split at hk
    · rename_i h; subst h; exact hCi
    · exact hp.sub k hk
  · rw [getD_setT hAs] at hk ⊢
    split
    · rfl
    · split at hk
      · rename_i h; subst h; exact hdep d hd
      · exact hp.clA k hk d hd
  · rw [getD_setT hAs] at hkA
    split at hkA
    · cases hkA
    · exact hp.pend k y hy hkC hkA
  · by_cases hdt : r.dst = some t
    · rw [hdt, Fr.get_put_eq]; exact (hv t hdt).symm
    · rw [Fr.get_put_ne hdt]
      refine hp.frm t fun k y hy hkC hkA => ?_
      by_cases hki : k = i
      · subst hki; rw [hr] at hy; cases hy; exact hdt
      · refine ht k y hy hkC ?_
        rw [getD_setT hAs, if_neg (Ne.symm hki)]; exact hkA

theorem Pnd.ahead (hp : Pnd rs dl A C fr af st) (ok : OK rs dl) {j : Nat} {r : ROp} (hr : rs[j]? = some r) (hq : isQ rs dl j = true) (hCj : C.getD j false = false) (hdep : ∀ d ∈ depOf dl j, C.getD d false = true) {v : AVal}
    (hv : qev r fr st = some v) : Pnd rs dl A (C.setIfInBounds j true) (fr.put r.dst v) af st := by
  have hj := (List.getElem?_eq_some_iff.1 hr).1
  have hCs : j < C.size := by have := hp.hC; omega
  have hAj : A.getD j false = false := by
    cases h : A.getD j false with
    | false => rfl
    | true => rw [hp.sub j h] at hCj; cases hCj
  have hown := (isQ_spec rs dl hr hq).2
  refine ⟨hp.hA, by simpa using hp.hC, fun k hk => ?_, hp.clA, fun k hk d hd => ?_, fun k y hy hkC hkA => ?_, fun t ht => ?_⟩
  · rw [getD_setT hCs]
    split
    · rfl
    · exact hp.sub k hk
  · rw [getD_setT hCs] at hk ⊢
    split
    · rfl
    · split at hk
      · rename_i h; subst h; exact hdep d hd
      · exact hp.clC k hk d hd
  · rw [getD_setT hCs] at hkC
    split at hkC
    · rename_i h
      subst h
      rw [hr] at hy; cases hy
      refine ⟨hq, v, ?_, fun d hd => by rw [hd, Fr.get_put_eq]⟩
      rw [qev_same (fr := fr)]
      · exact hv
      · intro t ht
        refine Fr.get_put_ne fun hd => ?_
        have := ok.lt j hj j (hown t hd j r hr ht)
        omega
    · rename_i h
      obtain ⟨h1, h2⟩ := hp.pend k y hy hkC hkA
      refine ⟨h1, still_put (fun t hd ht => ?_) (fun t hd hd' => h (ok.ww j k r y t hr hy hd' hd)) h2⟩
      have := hp.clC k hkC j (hown t hd k y hy ht)
      rw [hCj] at this; cases this
  · have hdt : r.dst ≠ some t := ht j r hr (by rw [getD_setT hCs, if_pos rfl]) hAj
    rw [Fr.get_put_ne hdt]
    refine hp.frm t fun k y hy hkC hkA => ht k y hy ?_ hkA
    rw [getD_setT hCs]; split <;> simp_all
end

section
variable (hrs : ops.toList.mapM (cROp P ops n) = some rs) (ok : OK rs (ops.toList.map depsOf)) {G0 : Ghost} {w0 : World} {st0 : Store} {K : Fr → Store → Prop} {KP : AVal → Fr → Store → Prop} {Q : Exit → Act → World → Prop}
  (hK : ∀ fr' st' G' w' a', K fr' st' → ConcD n D G' w' ⟨fr', st'⟩ a' → Ext G0 w0 st0 G' w' st' → Q .normal a' w')
  (hP : ∀ v x fr' st' G' w' a', KP v fr' st' → Rep G' st' v x → ConcD n D G' w' ⟨fr', st'⟩ a' → Ext G0 w0 st0 G' w' st' → Q (.panic [{ v := x, recovered := false }]) a' w')
include hrs ok hK hP

theorem wpAny_fin {A C : Array Bool} {fr af : Fr} {st : Store} {G : Ghost} {a : Act} {w : World} {f : Nat} {s : Sched} (hp : Pnd rs (ops.toList.map depsOf) A C fr af st) (hC : ConcD n D G w ⟨af, st⟩ a) (hE : Ext G0 w0 st0 G w st)
    (hs : schedFrom rs (ops.toList.map depsOf) f C = some s) (hw : swp P nm s fr st K KP) (hall : ∀ i, i < rs.length → A.getD i false = true) : Q .normal a w := by
  have hd := schedFrom_done hs fun i hi => hp.sub i (hall i hi)
  subst hd
  refine hK _ _ G w a hw (hC.congr fun t => (hp.frm t ?_).symm) hE
  intro i r hr _ hA
  rw [hall i (List.getElem?_eq_some_iff.1 hr).1] at hA
  cases hA

/-- One step of the run, at an operation that stands next in both orders, or that only looks. -/
theorem wpAny_step {fA : Nat} (ih : ∀ A C fr af st G a w f s, Pnd rs (ops.toList.map depsOf) A C fr af st → ConcD n D G w ⟨af, st⟩ a → Ext G0 w0 st0 G w st → schedFrom rs (ops.toList.map depsOf) f C = some s → swp P nm s fr st K KP →
      A.toList.count false ≤ fA → wpAny P .any ops Q fA A a w) {A : Array Bool} {af : Fr} {st : Store} {G : Ghost} {a : Act} {w : World} (hC : ConcD n D G w ⟨af, st⟩ a) (hE : Ext G0 w0 st0 G w st) (hcount : A.toList.count false ≤ fA + 1) {i : Nat} (hi : i < rs.length) (hr : rdy (ops.toList.map depsOf) A i = true) :
    ∀ (f : Nat) (C : Array Bool) (fr : Fr) (s : Sched), Pnd rs (ops.toList.map depsOf) A C fr af st → C.getD i false = false → schedFrom rs (ops.toList.map depsOf) f C = some s → swp P nm s fr st K KP →
      wpOp P ops Q i (wpAny P .any ops Q fA (A.setIfInBounds i true)) a w := by
  obtain ⟨hl, hget⟩ := compiled hrs
  generalize hdl : ops.toList.map depsOf = dl at *
  have hri : rs[i]? = some rs[i] := by simp [hi]
  obtain ⟨oi, hoi, hci⟩ := hget i _ hri
  intro f
  induction f with
  | zero =>
    intro C fr s hp hCi hs hw
    unfold schedFrom at hs
    split at hs
    · rename_i hall
      have := List.all_eq_true.1 hall i (List.mem_range.2 hi)
      rw [hCi] at this; cases this
    · cases hs
  | succ f ihf =>
    intro C fr s hp hCi hs hw
    have hdep := (rdy_iff rs dl hp.hA hi).1 hr
    have hAs : i < A.size := by have := hp.hA; omega
    have hCs : i < C.size := by have := hp.hC; omega
    have hcount' : (A.setIfInBounds i true).toList.count false ≤ fA := by have := count_set hAs hdep.1; omega
    -- what the operation reads is no place of what is ahead
    have hread : ∀ t ∈ (rs[i]).reads, af.get t = fr.get t := by
      intro t ht
      refine hp.frm t fun k rk hk hkC hkA hkd => ?_
      have hq := (isQ_spec rs dl hk (hp.pend k rk hk hkC hkA).1).2 t hkd i _ hri ht
      rw [hdep.2 k hq] at hkA; cases hkA
    unfold schedFrom at hs
    split at hs
    · rename_i hall
      have := List.all_eq_true.1 hall i (List.mem_range.2 hi)
      rw [hCi] at this; cases this
    split at hs
    · rename_i j hj
      have hjq := List.find?_some hj
      have hjm := List.mem_range.1 (List.mem_of_find?_eq_some hj)
      simp only [Bool.and_eq_true] at hjq
      have hrj : rs[j]? = some rs[j] := by simp [hjm]
      rw [hrj] at hs
      simp only [Option.bind_some, Option.map_eq_some_iff] at hs
      obtain ⟨s', hs', rfl⟩ := hs
      obtain ⟨v, hv, hw⟩ := hw
      have hjr := (rdy_iff rs dl hp.hC hjm).1 hjq.1
      have hjs : j < C.size := by have := hp.hC; omega
      have hown := (isQ_spec rs dl hrj hjq.2).2
      by_cases hji : j = i
      · subst hji
        refine ropG_step (nm := nm) hoi hci hC (ropG_frame hread (ropG_of_qev hv (KP := fun _ _ _ => False))) ?_ (fun v x fr' st' G' w' a' h => h.2.elim)
        rintro fr' st' G' w' a' ⟨u, rfl, hu, rfl⟩ hC' hE'
        have huv : af.put (rs[j]).dst u = af.put (rs[j]).dst v := by
          cases hd : (rs[j]).dst with
          | none => rfl
          | some d => rw [hd] at hu; simp [Fr.put] at hu; rw [hu]
        rw [huv] at hC'
        refine ih _ _ _ _ _ _ _ _ f s' (hp.both ok hrj hCi hdep.2 fun k y hy hkC hkA => ?_) hC' (hE.trans hE') hs' hw hcount'
        refine still_put (fun t hd ht => ?_) (fun t hd hd' => ?_) (hp.pend k y hy hkC hkA).2
        · have := hp.clC k hkC j (hown t hd k y hy ht)
          rw [hCi] at this; cases this
        · have := ok.ww j k _ y t hrj hy hd' hd
          subst this
          rw [hkC] at hCi; cases hCi
      · refine ihf (C.setIfInBounds j true) (fr.put (rs[j]).dst v) s' ?_ (by rw [getD_setT hjs, if_neg hji]; exact hCi) hs' hw
        exact hp.ahead ok hrj hjq.2 hjr.1 hjr.2 hv
    · rename_i hnone
      have hirdy : rdy dl C i = true := (rdy_iff rs dl hp.hC hi).2 ⟨hCi, fun d hd => hp.sub d (hdep.2 d hd)⟩
      simp only [Option.bind_eq_some_iff] at hs
      obtain ⟨l, hl1, hl2⟩ := hs
      obtain ⟨_, hl3⟩ := mapM_get hl1
      have him : i ∈ (List.range rs.length).filter (rdy dl C) := List.mem_filter.2 ⟨List.mem_range.2 hi, hirdy⟩
      obtain ⟨m, hm⟩ := List.getElem?_of_mem him
      obtain ⟨b, hb, hbe⟩ := hl3 m i hm
      rw [hri] at hbe
      simp only [Option.bind_some, Option.map_eq_some_iff] at hbe
      obtain ⟨s', hs', rfl⟩ := hbe
      have hsw := swp_bothOf hl2 hw _ (List.mem_of_getElem? hb)
      refine ropG_step (nm := nm) hoi hci hC (ropG_frame hread hsw) ?_ ?_
      · rintro fr' st' G' w' a' ⟨v, rfl, hst, hw'⟩ hC' hE'
        refine ih _ _ _ _ _ _ _ _ f s' (hp.both ok hri hCi hdep.2 fun k y hy hkC hkA => ?_) hC' (hE.trans hE') hs' hw' hcount'
        obtain ⟨hkq, hks⟩ := hp.pend k y hy hkC hkA
        cases hlk : y.op.looks with
        | true =>
          refine stills_mem hst y (List.mem_filterMap.2 ⟨k, List.mem_range.2 (List.getElem?_eq_some_iff.1 hy).1, ?_⟩)
          have hna : k ∉ ancs dl i (depOf dl i) := fun hm => by
            have := ancs_sub dl hp.clA i _ hdep.2 k hm
            rw [hkA] at this; cases this
          simp [hy, hlk, hna, -Array.getD_eq_getD_getElem?, hkC]
        | false =>
          have hpure : still y fr st' := by
            obtain ⟨u, h1, h2⟩ := hks
            exact ⟨u, by rw [qev_store hlk]; exact h1, h2⟩
          refine still_put (fun t hd ht => ?_) (fun t hd hd' => ?_) hpure
          · rcases ok.rw k i y _ t hy hri hd ht with h | h | h
            · have := hp.clC k hkC i h
              rw [hCi] at this; cases this
            · have := hdep.2 k h
              rw [hkA] at this; cases this
            · subst h; rw [hkC] at hCi; cases hCi
          · have := ok.ww i k _ y t hri hy hd' hd
            subst this
            rw [hkC] at hCi; cases hCi
      · rintro v x fr' st' G' w' a' ⟨rfl, hkp⟩ hr hC' hE'
        exact hP v x _ _ _ _ _ (hkp _) hr hC' (hE.trans hE')

theorem wpAny_of_swp : ∀ (fA : Nat) A C fr af st G a w f s, Pnd rs (ops.toList.map depsOf) A C fr af st → ConcD n D G w ⟨af, st⟩ a → Ext G0 w0 st0 G w st → schedFrom rs (ops.toList.map depsOf) f C = some s → swp P nm s fr st K KP →
      A.toList.count false ≤ fA → wpAny P .any ops Q fA A a w := by
  obtain ⟨hl, hget⟩ := compiled hrs
  intro fA
  induction fA with
  | zero =>
    intro A C fr af st G a w f s hp hC hE hs hw hcount
    have hall : ∀ i, i < rs.length → A.getD i false = true := by
      intro i hi
      cases h : A.getD i false with
      | true => rfl
      | false =>
        have := count_set (A := A) (i := i) (by have := hp.hA; omega) h
        omega
    refine ⟨List.eq_nil_iff_forall_not_mem.2 fun i hi => ?_, wpAny_fin hrs ok hK hP hp hC hE hs hw hall⟩
    rw [ready_iff hl hp.hA] at hi
    have := (rdy_iff rs _ hp.hA hi.1).1 hi.2
    rw [hall i hi.1] at this
    cases this.1
  | succ fA ih =>
    intro A C fr af st G a w f s hp hC hE hs hw hcount
    refine ⟨fun h0 => wpAny_fin hrs ok hK hP hp hC hE hs hw (all_listed hp ok fun i hi => ?_), fun i hi => ?_⟩
    · cases h : rdy (ops.toList.map depsOf) A i with
      | false => rfl
      | true =>
        have := (ready_iff hl hp.hA).2 ⟨hi, h⟩
        rw [h0] at this; cases this
    · rw [ready_iff hl hp.hA] at hi
      obtain ⟨hi, hr⟩ := hi
      have hdep := (rdy_iff rs _ hp.hA hi).1 hr
      cases hCi : C.getD i false with
      | false => exact wpAny_step hrs ok hK hP ih hC hE hcount hi hr f C fr s hp hCi hs hw
      | true =>
        have hri : rs[i]? = some rs[i] := by simp [hi]
        obtain ⟨oi, hoi, hci⟩ := hget i _ hri
        obtain ⟨hq, v, hv, hvd⟩ := hp.pend i _ hri hCi hdep.1
        have hAs : i < A.size := by have := hp.hA; omega
        have hread : ∀ t ∈ (rs[i]).reads, af.get t = fr.get t := by
          intro t ht
          refine hp.frm t fun k rk hk hkC hkA hkd => ?_
          have hq := (isQ_spec rs _ hk (hp.pend k rk hk hkC hkA).1).2 t hkd i _ hri ht
          rw [hdep.2 k hq] at hkA; cases hkA
        refine ropG_step (nm := nm) hoi hci hC (ropG_of_qev (v := v) (by rw [qev_same hread]; exact hv) (KP := fun _ _ _ => False)) ?_ (fun v x fr' st' G' w' a' h => h.elim)
        rintro fr' st' G' w' a' ⟨rfl, rfl⟩ hC' hE'
        exact ih _ _ _ _ _ _ _ _ f s (hp.behind ok hri hCi hdep.2 hvd) hC' (hE.trans hE') hs hw (by have := count_set hAs hdep.1; omega)
end

theorem AW.draw {nm : Nm} {id : Nat} {ops : Array Oper} {l : List ROp} (hm : P.follows .mixedOrders = true) (hl : ops.toList.mapM (cROp P ops n) = some l) {s : Sched} (hs : schedOf ops l = some s) {Q : AQ} {fr : Fr} {st : Store}
    (h : swp P nm s fr st (Q .normal) (fun v fr st => Q (.panic v) fr st)) : AW P n (.region id ops true) Q fr st := by
  intro D G w a hC
  unfold schedOf at hs
  simp only at hs
  split at hs
  · rename_i hok
    refine wp_region_any hm ?_
    have hlen := (compiled hl).1
    have hz : ∀ i, (Array.replicate l.length false).getD i false = false := fun i => by
      simp [Array.getElem?_replicate]; split <;> rfl
    have hC' : ConcD n D G { w with drawn := w.drawn + 1 } ⟨fr, st⟩ a := ⟨⟨hC.st.heap rfl, hC.size, hC.fr⟩, hC.defers⟩
    rw [← hlen]
    refine wpAny_of_swp (G0 := G) (w0 := w) (st0 := st) hl (OK.of _ _ hok) (fun fr' st' G' w' a' hk hC' hE => ⟨.normal, fr', st', G', hk, .normal, hC', hE⟩) (fun v x fr' st' G' w' a' hk hr hC' hE => ⟨.panic v, fr', st', G', hk, .panic v x hr, hC', hE⟩)
      _ _ _ fr fr st G a _ _ s ?_ hC' ⟨.refl _ _, Nat.le_refl _, fun _ _ _ => rfl, fun k _ _ h => ⟨k, h⟩, fun _ _ _ h _ => .inl h, rfl, rfl, rfl⟩ hs h (by simp)
    refine ⟨by simp, by simp, fun i hi => hi, fun i hi => ?_, fun i hi => ?_, fun i r _ hi _ => ?_, fun _ _ => rfl⟩ <;> rw [hz] at hi <;> cases hi
  · cases hs
end
end
end Go.Am
