/- The abstract machine is sound: code, functions. -/
import Derived.Test.YteinffefhcpcmaaGreatDoorAmSched
namespace Go.Am

def res1 (st : Store) (fr : Fr) : ARes → Option AVal
  | .t n => some (fr.get n)
  | .cell n sz => load st sz (fr.get n)

def resA (st : Store) (fr : Fr) : List ARes → Option AVal
  | [r] => res1 st fr r
  | rs => (rs.mapM (res1 st fr)).map .tup

/-- What the end of a body must be. -/
def retQ (res : List ARes) (R : AEnd → Store → Prop) : AQ
  | .normal, fr, st => ∃ v, resA st fr res = some v ∧ R (.ret v) st
  | .ret, fr, st => ∃ v, resA st fr res = some v ∧ R (.ret v) st
  | .panic v, _, st => R (.panic v) st
  | _, _, _ => False

def argFr (args : List AVal) : Fr := args.zipIdx.map fun p => (p.2, p.1)

section
variable {P : Program} {n : Nat}

theorem inv_region {ops : Array Oper} {d : Bool} {id : Nat} {c : ACode} (h : cCode P n (.region id ops d) = some c) : ∃ l, ops.toList.mapM (cROp P ops n) = some l ∧ (if d then (schedOf ops l).map .draw else some (.region l)) = some c := by
  simp only [cCode, Option.bind_eq_bind, Option.bind_eq_some_iff] at h
  obtain ⟨l, h1, h2⟩ := h
  exact ⟨l, h1, h2⟩

/-- What code was read as code of this kind. -/
def Inv (P : Program) (n : Nat) (code : Code) : ACode → Prop
  | .skip => code = .skip
  | .region l => ∃ id ops, code = .region id ops false ∧ ops.toList.mapM (cROp P ops n) = some l
  | .draw s => ∃ id ops l, code = .region id ops true ∧ ops.toList.mapM (cROp P ops n) = some l ∧ schedOf ops l = some s
  | .seq a b => ∃ x y, code = .seq x y ∧ cCode P n x = some a ∧ cCode P n y = some b
  | .cond d a b => ∃ c x y, code = .cond c x y ∧ opd P 0 c = some d ∧ cCode P n x = some a ∧ cCode P n y = some b
  | .block id b => ∃ x, code = .block id x ∧ cCode P n x = some b
  | .loop b => ∃ x, code = .loop x ∧ cCode P n x = some b
  | .rangeFunc d ps a b => ∃ f qs x y, code = .rangeFunc f qs x y ∧ opd P 0 f = some d ∧ qs.toList = ps ∧ cCode P n x = some a ∧ cCode P n y = some b
  | .exit id => code = .exit id
  | .scope b => ∃ x, code = .scope x ∧ cCode P n x = some b
  | .label l => code = .label l
  | .goto l => code = .goto l
  | .ret => code = .ret

theorem inv_of {code : Code} {c : ACode} (h : cCode P n code = some c) : Inv P n code c := by
  cases code with
  | region id ops d =>
    obtain ⟨l, h1, h2⟩ := inv_region h
    cases d
    · simp only [Bool.false_eq_true, if_false, Option.some.injEq] at h2
      subst h2
      exact ⟨id, ops, rfl, h1⟩
    · simp only [if_true, Option.map_eq_some_iff] at h2
      obtain ⟨s, hs, rfl⟩ := h2
      exact ⟨id, ops, l, rfl, h1, hs⟩
  | skip => simp only [cCode, Option.some.injEq] at h; subst h; rfl
  | exit id => simp only [cCode, Option.some.injEq] at h; subst h; rfl
  | label id => simp only [cCode, Option.some.injEq] at h; subst h; rfl
  | goto id => simp only [cCode, Option.some.injEq] at h; subst h; rfl
  | ret => simp only [cCode, Option.some.injEq] at h; subst h; rfl
  | refuse w => simp [cCode] at h
  | seq x y =>
    simp only [cCode, Option.bind_eq_bind, Option.bind_eq_some_iff, Option.some.injEq] at h
    obtain ⟨a, h1, b, h2, rfl⟩ := h
    exact ⟨x, y, rfl, h1, h2⟩
  | cond q x y =>
    simp only [cCode, Option.bind_eq_bind, Option.bind_eq_some_iff, Option.some.injEq] at h
    obtain ⟨d, h0, a, h1, b, h2, rfl⟩ := h
    exact ⟨q, x, y, rfl, h0, h1, h2⟩
  | block id x =>
    simp only [cCode, Option.bind_eq_bind, Option.bind_eq_some_iff, Option.some.injEq] at h
    obtain ⟨a, h1, rfl⟩ := h
    exact ⟨x, rfl, h1⟩
  | loop x =>
    simp only [cCode, Option.bind_eq_bind, Option.bind_eq_some_iff, Option.some.injEq] at h
    obtain ⟨a, h1, rfl⟩ := h
    exact ⟨x, rfl, h1⟩
  | scope x =>
    simp only [cCode, Option.bind_eq_bind, Option.bind_eq_some_iff, Option.some.injEq] at h
    obtain ⟨a, h1, rfl⟩ := h
    exact ⟨x, rfl, h1⟩
  | rangeFunc f ps x y =>
    simp only [cCode, Option.bind_eq_bind, Option.bind_eq_some_iff, Option.some.injEq] at h
    obtain ⟨d, h0, a, h1, b, h2, rfl⟩ := h
    exact ⟨f, ps, x, y, rfl, h0, rfl, h1, h2⟩

theorem AC.loop {nm : Nm} {X : Type} {c : ACode} {Q : AQ} (I : X → Fr → Store → Prop) (μ : X → Nat)
    (round : ∀ x fr st, I x fr st → AC P nm n c (thenQ (fun fr st => ∃ x', I x' fr st ∧ μ x' < μ x) Q) fr st) {x : X} {fr : Fr} {st : Store} (h : I x fr st) : AC P nm n (.loop c) Q fr st := by
  intro code hc
  obtain ⟨b, rfl, hb⟩ := inv_of hc
  exact AW.loop I μ (fun x fr st hI => round x fr st hI b hb) h

theorem AC_of_awp (hm : P.follows .mixedOrders = true) {nm : Nm} : ∀ {c : ACode} {Q : AQ} {fr : Fr} {st : Store}, awp P nm n c Q fr st → AC P nm n c Q fr st := by
  intro c
  induction c with
  | skip =>
    intro Q fr st h code hc
    obtain rfl := inv_of hc
    exact fun D G w a hC => wp_skip ⟨.normal, fr, st, G, h, .normal, hC, Ext.refl _ _ _⟩
  | region ops =>
    intro Q fr st h code hc
    obtain ⟨id, ops', rfl, hl⟩ := inv_of hc
    exact AW.region hl h
  | draw s =>
    intro Q fr st h code hc
    obtain ⟨id, ops, l, rfl, hl, hs⟩ := inv_of hc
    exact AW.draw hm hl hs h
  | seq a b iha ihb =>
    intro Q fr st h code hc
    obtain ⟨x, y, rfl, hx, hy⟩ := inv_of hc
    refine AW.seq ?_
    refine (iha h x hx).mono fun e fr st hq => ?_
    cases e <;> first | exact ihb hq y hy | exact hq
  | cond d a b iha ihb =>
    intro Q fr st h code hc
    obtain ⟨c, x, y, rfl, hd, hx, hy⟩ := inv_of hc
    simp only [awp] at h
    split at h
    · rename_i t ht
      refine AW.cond hd ht ?_
      cases t
      · simp only [Bool.false_eq_true, if_false] at h ⊢; exact ihb h y hy
      · simp only [if_true] at h ⊢; exact iha h x hx
    · exact h.elim
  | block id b ih =>
    intro Q fr st h code hc
    obtain ⟨x, rfl, hx⟩ := inv_of hc
    exact AW.block (ih h x hx)
  | loop b ih => exact fun h => h
  | rangeFunc f ps a b iha ihb => exact fun h => h
  | exit id =>
    intro Q fr st h code hc
    obtain rfl := inv_of hc
    exact fun D G w a hC => wp_exit ⟨.exit _, fr, st, G, h, .exit _, hC, Ext.refl _ _ _⟩
  | scope b ih => exact fun h => h
  | label l =>
    intro Q fr st h code hc
    obtain rfl := inv_of hc
    exact fun D G w a hC => wp_label ⟨.normal, fr, st, G, h, .normal, hC, Ext.refl _ _ _⟩
  | goto l =>
    intro Q fr st h code hc
    obtain rfl := inv_of hc
    exact fun D G w a hC => wp_goto ⟨.goto _, fr, st, G, h, .goto _, hC, Ext.refl _ _ _⟩
  | ret =>
    intro Q fr st h code hc
    obtain rfl := inv_of hc
    exact fun D G w a hC => wp_ret ⟨.ret, fr, st, G, h, .ret, hC, Ext.refl _ _ _⟩

/-- How a result is read at a function's end. -/
def readRes (tmps : Array Value) : ResultVar → Sem Value
  | .tmp t => pure (tmps.getD t undef)
  | .cell a t => do loadVar t (← asAddr (tmps.getD a undef))

theorem results_eq (fn : Func) (tmps : Array Value) : results fn tmps = (do
    let vs ← fn.results.mapM (readRes tmps)
    pure (if h : vs.size = 1 then vs[0] else .tuple vs)) := by
  unfold results
  congr 1

def cRes (P : Program) : ResultVar → Option ARes
  | .tmp t => some (.t t)
  | .cell a t => (szO P t).map (.cell a)

theorem res1_sound {G : Ghost} {w : World} {fr : Fr} {st : Store} {a : Act} (hC : Conc n G w ⟨fr, st⟩ a) {r : ResultVar} {b : ARes} (hb : cRes P r = some b) {u : AVal} (hu : res1 st fr b = some u) :
    ∃ x, (readRes a.tmps r).run P w = .ok x w ∧ Rep G st u x := by
  cases r with
  | tmp t =>
    simp only [cRes, Option.some.injEq] at hb
    subst hb
    simp only [res1, Option.some.injEq] at hu
    subst hu
    exact ⟨a.tmps.getD t undef, rfl, hC.fr t⟩
  | cell a' t =>
    simp only [cRes, Option.map_eq_some_iff] at hb
    obtain ⟨sz, hsz, rfl⟩ := hb
    simp only [res1] at hu
    have hp := hC.fr a'
    simp only at hp
    simp only [readRes]
    generalize fr.get a' = X at *
    generalize a.tmps.getD a' undef = V at *
    cases X <;> simp only [load, reduceCtorEq] at hu
    · rename_i k ver off
      rw [Option.bind_eq_some_iff] at hu
      obtain ⟨l, hl, hpp⟩ := hu
      obtain ⟨hver, vs, hr, hc⟩ := cellsAt_sound hC.st hl
      cases hp with
      | ref k v off ad h hx =>
        have := hx hver.symm
        subst this
        obtain ⟨V, hV, hrv⟩ := loadVar_of (P := P) (w := w) (b := G.blk k) (o := 0) hsz hpp hr (fun j x hx => by rw [Nat.zero_add]; exact hc j x hx)
        rw [Nat.zero_add] at hV
        exact ⟨V, by rw [Sem.run_bind]; exact hV, hrv⟩
    · cases hp with
      | iptr cs b off vs hi hh =>
        obtain ⟨V, hV, hrv⟩ := loadVar_of (P := P) (w := w) (b := b) (o := off) hsz hu hh (fun j x hx => hC.st.imm _ _ _ (hi j x hx))
        rw [Nat.add_zero] at hV
        exact ⟨V, by rw [Sem.run_bind]; exact hV, hrv⟩

theorem resL_sound {G : Ghost} {w : World} {fr : Fr} {st : Store} {a : Act} (hC : Conc n G w ⟨fr, st⟩ a) : ∀ {rs : List ResultVar} {res : List ARes} {us : List AVal}, rs.mapM (cRes P) = some res → res.mapM (res1 st fr) = some us →
    ∃ xs, (rs.mapM (readRes a.tmps)).run P w = .ok xs w ∧ RepL G st us xs
  | [], res, us, h1, h2 => by
    simp at h1; subst h1
    simp at h2; subst h2
    exact ⟨[], by simp, .nil⟩
  | r :: rs, res, us, h1, h2 => by
    rw [List.mapM_cons] at h1
    cases hb : cRes P r with
    | none => simp [hb] at h1
    | some b =>
      cases hbs : rs.mapM (cRes P) with
      | none => simp [hb, hbs] at h1
      | some bs =>
        simp [hb, hbs] at h1
        subst h1
        rw [List.mapM_cons] at h2
        cases hu : res1 st fr b with
        | none => simp [hu] at h2
        | some u =>
          cases hus : bs.mapM (res1 st fr) with
          | none => simp [hu, hus] at h2
          | some us' =>
            simp [hu, hus] at h2
            subst h2
            obtain ⟨x, hx, hr⟩ := res1_sound hC hb hu
            obtain ⟨xs, hxs, hrs⟩ := resL_sound hC hbs hus
            exact ⟨x :: xs, by simp [List.mapM_cons, hx, hxs], .cons _ _ _ _ hr hrs⟩

theorem res_sound {G : Ghost} {w : World} {fr : Fr} {st : Store} {a : Act} (hC : Conc n G w ⟨fr, st⟩ a) {fn : Func} {res : List ARes} (hres : fn.results.toList.mapM (cRes P) = some res) {v : AVal} (h : resA st fr res = some v) :
    ∃ x, (results fn a.tmps).run P w = .ok x w ∧ Rep G st v x := by
  have hm : ∀ {us : List AVal}, res.mapM (res1 st fr) = some us → ∃ xs, (fn.results.mapM (readRes a.tmps)).run P w = .ok xs.toArray w ∧ RepL G st us xs := by
    intro us hus
    obtain ⟨xs, h1, h2⟩ := resL_sound hC hres hus
    refine ⟨xs, ?_, h2⟩
    rw [Array.mapM_eq_mapM_toList, Sem.run_map, h1]
    rfl
  rw [results_eq]
  unfold resA at h
  split at h
  · rename_i r
    obtain ⟨xs, h1, h2⟩ := hm (us := [v]) (by simp [h])
    cases h2 with
    | cons _ x _ vs hr ht =>
      cases ht
      exact ⟨x, by rw [Sem.run_bind, h1]; simp, hr⟩
  · rename_i hne
    simp only [Option.map_eq_some_iff] at h
    obtain ⟨us, hus, rfl⟩ := h
    obtain ⟨xs, h1, h2⟩ := hm hus
    refine ⟨.tuple xs.toArray, ?_, .tup _ _ (by simpa using h2)⟩
    rw [Sem.run_bind, h1]
    have hlen : xs.length ≠ 1 := by
      have e1 := h2.length
      have e2 := (mapM_get hus).1
      intro e
      have : res.length = 1 := by omega
      obtain ⟨r, hr⟩ := List.length_eq_one_iff.1 this
      exact hne r hr
    simp [hlen]

theorem argFr_get (args : List AVal) (t : Nat) : Fr.get (argFr args) t = (args[t]?).getD .junk := by
  have key : ∀ (l : List AVal) (k : Nat), Fr.get ((l.zipIdx k).map fun p => (p.2, p.1)) t = if k ≤ t then (l[t - k]?).getD .junk else .junk := by
    intro l
    induction l with
    | nil => intro k; simp [Fr.get]
    | cons a l ih =>
      intro k
      simp only [List.zipIdx_cons, List.map_cons, Fr.get]
      by_cases h : k = t
      · subst h; simp
      · rw [if_neg h, ih (k + 1)]
        by_cases h2 : k ≤ t
        · rw [if_pos (by omega), if_pos h2]
          have : t - k = (t - (k + 1)) + 1 := by omega
          rw [this]; simp
        · rw [if_neg (by omega), if_neg h2]
  have := key args 0
  simpa [argFr] using this

/-- A function, by its body. -/
theorem ACalls_of {f : FuncId} {fn : Func} {af : AFunc} (hf : P.funcs[f]? = some fn) (hc : cFunc P fn = some af) (nm : Nm) {args : List AVal} (hn : args.length ≤ af.n) {st : Store} {R : AEnd → Store → Prop}
    (h : AC P nm af.n af.code (retQ af.res R) (argFr args) st) : ACalls P f args st R := by
  intro G w vs hS hr
  have hcf : ∃ c, fn.body = some c ∧ cCode P fn.ntmps c = some af.code ∧ fn.results.toList.mapM (cRes P) = some af.res ∧ af.n = fn.ntmps := by
    unfold cFunc at hc
    simp only [Option.bind_eq_bind, Option.bind_eq_some_iff, Option.some.injEq] at hc
    obtain ⟨c, h1, code, h2, res, h3, rfl⟩ := hc
    refine ⟨c, h1, h2, ?_, rfl⟩
    rw [← h3]
    congr 1
    funext r
    cases r with
    | tmp t => rfl
    | cell a t => simp only [cRes]; cases szO P t <;> rfl
  obtain ⟨c, hb, hcode, hres, hnt⟩ := hcf
  refine calls_of_wp hf hb ?_
  have hsize : (vs.toArray ++ Array.replicate (fn.ntmps - vs.toArray.size) undef).size = af.n := by
    have := hr.length
    simp; omega
  have hC : ConcD af.n [] G w ⟨argFr args, st⟩ { tmps := vs.toArray ++ Array.replicate (fn.ntmps - vs.toArray.size) undef, defers := [] } := by
    refine ⟨⟨hS, hsize, fun t => ?_⟩, rfl⟩
    simp only [argFr_get]
    have hl := hr.length
    by_cases h : t < args.length
    · obtain ⟨v, hv, hrv⟩ := hr.get (List.getElem?_eq_getElem h)
      rw [List.getElem?_eq_getElem h, Option.getD_some]
      have : (vs.toArray ++ Array.replicate (fn.ntmps - vs.toArray.size) undef).getD t undef = v := by
        simp only [Array.getD_eq_getD_getElem?]
        rw [Array.getElem?_append_left (by simp; omega)]
        simp [hv]
      rw [this]
      exact hrv
    · rw [List.getElem?_eq_none (by omega), Option.getD_none]
      exact .junk _
  refine wp_mono (h c (by rw [hnt]; exact hcode) [] G w _ hC) ?_
  rintro e a' w' ⟨ae, fr', st', G', h1, h2, h3, h4⟩
  cases h2 with
  | normal =>
    obtain ⟨v, hv, hR⟩ := h1
    obtain ⟨x, hx, hrx⟩ := res_sound h3.toConc hres hv
    exact ⟨h3.defers, x, hx, .ret v, st', G', hR, .ret v x hrx, h3.st, h4⟩
  | ret =>
    obtain ⟨v, hv, hR⟩ := h1
    obtain ⟨x, hx, hrx⟩ := res_sound h3.toConc hres hv
    exact ⟨h3.defers, x, hx, .ret v, st', G', hR, .ret v x hrx, h3.st, h4⟩
  | panic v x hrx => exact ⟨h3.defers, .panic v, st', G', h1, .panic v x hrx, h3.st, h4⟩
  | exit id => exact h1.elim
  | goto l => exact h1.elim

end
end Go.Am
