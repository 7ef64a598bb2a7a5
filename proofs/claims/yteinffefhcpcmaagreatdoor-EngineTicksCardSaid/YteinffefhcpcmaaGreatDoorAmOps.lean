/- The abstract machine is sound: maps, walks over maps, slices of arrays. -/
import Derived.Test.YteinffefhcpcmaaGreatDoorAmSound8
import Derived.Laws.IdiomStrings
import Derived.Laws.MakeOwn
import Derived.Laws.Externs
import Derived.Laws.StructEq
import Derived.Maps.RangeRun
namespace Go.Am
open Go.ChangeMaps (setBlock)

section
variable {P : Program} {n : Nat} {G : Ghost} {w : World} {fr : Fr} {st : Store} {a : Act}

theorem ConcS.heap {G : Ghost} {w w' : World} {st : Store} (h : ConcS G w st) (he : w'.heap = w.heap) : ConcS G w' st where
  one := h.one
  imm := fun b o v e => by have := h.imm b o v e; simp only [World.cell?, he] at this ⊢; exact this
  obj := fun k o e => by have := h.obj k o e; cases o <;> simp only [ObjOK, he] at this ⊢ <;> exact this
  inj := h.inj
  own := h.own
  size := fun k b e => by rw [he]; exact h.size k b e

theorem heap_setBlock (w : World) {r : Nat} (o : Obj) (h : r < w.heap.size) : (setBlock w r o).heap[r]? = some o := by
  simp [setBlock, h]

theorem heap_setBlock_ne (w : World) {r b : Nat} (o : Obj) (h : b ≠ r) : (setBlock w r o).heap[b]? = w.heap[b]? := by
  simp [setBlock, Array.getElem?_setIfInBounds_ne (Ne.symm h)]

theorem size_setBlock (w : World) (r : Nat) (o : Obj) : (setBlock w r o).heap.size = w.heap.size := by simp [setBlock]

theorem run_setMap {r : Nat} {es : Array MapEntry} {c : Nat} (h : w.heap[r]? = some (.map es c)) (o : Obj) : (setObj r o).run P w = .ok () (setBlock w r o) := by
  simp [setObj, Sem.run, h, setBlock]

theorem later_setObj (G : Ghost) (st : Store) (k : Key) (ao : AObj) (hao : ∀ n, ao ≠ .tail n) : Later G st G (st.set k ⟨(st k).ver, some ao⟩) where
  imm := fun _ _ _ h => h
  ver := fun k' => by
    by_cases h : k' = k
    · subst h; simp
    · rw [Store.set_other _ _ h]; exact Nat.le_refl _
  blk := fun _ _ => ⟨rfl, rfl, rfl⟩
  tail := fun k' m _ h => by
    by_cases e : k' = k
    · subst e; simp at h; exact absurd h (hao m)
    · rw [Store.set_other _ _ e] at h; exact h

theorem mapAt_obj {k : Key} {v : Nat} {es : List AEntry} {c : Nat} (h : mapAt st k v = some (es, c)) : (st k).ver = v ∧ (st k).obj = some (.map es c) := by
  unfold mapAt at h
  split at h
  · rename_i hv
    split at h
    · rename_i es' c' ho
      simp only [Option.some.injEq, Prod.mk.injEq] at h
      obtain ⟨rfl, rfl⟩ := h
      exact ⟨hv, ho⟩
    · cases h
  · cases h

/-- A map's entries are others now. -/
theorem conc_setMap (hC : ConcS G w st) {k : Key} {v : Nat} {es : List AEntry} {c : Nat} (hm : mapAt st k v = some (es, c)) {es' : List AEntry} {c' : Nat} {ents' : Array MapEntry} (hn : ents'.size = es'.length)
    (hr : ∀ i (h : i < es'.length) (h' : i < ents'.size), RepEntry G st es'[i] ents'[i]) :
    ConcS G (setBlock w (G.blk k) (.map ents' c')) (st.set k ⟨v, some (.map es' c')⟩) ∧ Ext G w st G (setBlock w (G.blk k) (.map ents' c')) (st.set k ⟨v, some (.map es' c')⟩) := by
  obtain ⟨hv, ho⟩ := mapAt_obj hm
  subst hv
  have hown : Owns G st k (G.blk k) := by simp [Owns, ho]
  have hlt := hC.size k _ hown
  have himm : ∀ o, G.imm (G.blk k) o = none := fun o' => by
    rcases hC.own k _ o' hown with h | ⟨m, hm, _⟩
    · exact h
    · rw [ho] at hm; cases hm
  have hl := later_setObj G st k (.map es' c') (by simp)
  exact conc_setObj hC hown (.map es' c') (by simp) (fun b' hb' => heap_setBlock_ne w _ hb') (size_setBlock _ _ _) himm (fun b' hb' => by simp [Owns] at hb'; exact hb'.symm)
    ⟨ents', heap_setBlock w _ hlt, hn, fun i h h' => (hr i h h').later hl⟩ rfl rfl rfl

theorem setE_none {key x : AVal} : ∀ {es : List AEntry}, setE es key x = some none → findE es key = some none
  | [], _ => rfl
  | e :: es, h => by
    unfold setE at h
    unfold findE
    cases hc : cellEq key e.key with
    | none => simp [hc] at h
    | some b =>
      cases b with
      | true => simp [hc] at h
      | false =>
        simp only [hc, Option.map_eq_some_iff] at h
        obtain ⟨r, h1, h2⟩ := h
        cases r with
        | none => simpa using setE_none h1
        | some _ => simp at h2

theorem setE_some {key x : AVal} : ∀ {es es' : List AEntry}, setE es key x = some (some es') → ∃ i e, es[i]? = some e ∧ cellEq key e.key = some true ∧ findE es key = some (some e) ∧ es' = es.set i ⟨e.born, key, x⟩ ∧ (∀ m < i, ∀ e', es[m]? = some e' → cellEq key e'.key = some false)
  | [], _, h => by simp [setE] at h
  | e :: es, es', h => by
    unfold setE at h
    cases hc : cellEq key e.key with
    | none => simp [hc] at h
    | some b =>
      cases b with
      | true =>
        simp only [hc, Option.some.injEq] at h
        subst h
        exact ⟨0, e, rfl, hc, by simp [findE, hc], rfl, fun m hm => by omega⟩
      | false =>
        simp only [hc, Option.map_eq_some_iff] at h
        obtain ⟨r, h1, h2⟩ := h
        cases r with
        | none => simp at h2
        | some l =>
          simp at h2; subst h2
          obtain ⟨i, e', a1, a2, a3, a4, a5⟩ := setE_some h1
          refine ⟨i + 1, e', by simpa using a1, a2, by simp [findE, hc, a3], by simp [a4], fun m hm e'' he => ?_⟩
          cases m with
          | zero => simp at he; subst he; exact hc
          | succ m => exact a5 m (by omega) e'' (by simpa using he)

theorem delE_spec {key : AVal} : ∀ {es es' : List AEntry}, delE es key = some es' → (findE es key = some none ∧ es' = es) ∨ ∃ i e, es[i]? = some e ∧ cellEq key e.key = some true ∧ findE es key = some (some e) ∧ es' = es.eraseIdx i ∧ (∀ m < i, ∀ e', es[m]? = some e' → cellEq key e'.key = some false)
  | [], _, h => by simp [delE] at h; subst h; exact .inl ⟨rfl, rfl⟩
  | e :: es, es', h => by
    unfold delE at h
    cases hc : cellEq key e.key with
    | none => simp [hc] at h
    | some b =>
      cases b with
      | true =>
        simp only [hc, Option.some.injEq] at h
        subst h
        exact .inr ⟨0, e, rfl, hc, by simp [findE, hc], rfl, fun m hm => by omega⟩
      | false =>
        simp only [hc, Option.map_eq_some_iff] at h
        obtain ⟨l, h1, rfl⟩ := h
        rcases delE_spec h1 with ⟨h2, rfl⟩ | ⟨i, e', a1, a2, a3, a4, a5⟩
        · exact .inl ⟨by simp [findE, hc, h2], rfl⟩
        · refine .inr ⟨i + 1, e', by simpa using a1, a2, by simp [findE, hc, a3], by simp [a4], fun m hm e'' he => ?_⟩
          cases m with
          | zero => simp at he; subst he; exact hc
          | succ m => exact a5 m (by omega) e'' (by simpa using he)

/-- Where a key lies, it lies first. -/
theorem first_eq {es : List AEntry} {key : AVal} {i j : Nat} {e e' : AEntry} (h1 : es[i]? = some e) (h2 : cellEq key e.key = some true) (h3 : ∀ m < i, ∀ e', es[m]? = some e' → cellEq key e'.key = some false)
    (h4 : es[j]? = some e') (h5 : cellEq key e'.key = some true) (h6 : ∀ m < j, ∀ e', es[m]? = some e' → cellEq key e'.key = some false) : i = j := by
  rcases Nat.lt_trichotomy i j with h | h | h
  · have := h6 i h e h1; rw [h2] at this; cases this
  · exact h
  · have := h3 j h e' h4; rw [h5] at this; cases this

theorem findE_mem {key : AVal} : ∀ {es : List AEntry} {e : AEntry}, findE es key = some (some e) → cellEq key e.key = some true
  | [], _, h => by simp [findE] at h
  | e :: es, e', h => by
    unfold findE at h
    cases hc : cellEq key e.key with
    | none => simp [hc] at h
    | some b =>
      cases b with
      | true => simp [hc] at h; subst h; exact hc
      | false => simp [hc] at h; exact findE_mem h

theorem sameBits_key {key k' : AVal} {x y : Value} (hx : Rep G st key x) (hy : Rep G st k' y) (h : cellEq key k' = some true) (hk : (∃ b, keyIs b key = true)) : Instr.sameBits 10000 y x = true := by
  obtain ⟨b, hk⟩ := hk
  cases key <;> cases b <;> simp [keyIs] at hk
  · cases k' <;> simp [cellEq] at h
    obtain ⟨rfl, rfl⟩ := h
    cases hx; cases hy
    simp [Instr.sameBits]
  · cases k' <;> simp [cellEq] at h
    subst h
    cases hx with
    | str l s hs hb =>
      cases hy with
      | str l' s' hs' hb' =>
        have : s' = s := by
          cases s; cases s'; simp at hs hs'
          congr 1
          apply Array.ext'; rw [hs, hs']
        subst this
        simp [Instr.sameBits, beq_toListBytes]

theorem mapset_ok {o : Oper} {t kt el : TypeId} {m k x : Operand} {ks : Bool} (ho : o.op = .mapUpdate t m k x) (hu : P.underlying t = some (.map kt el)) (hks : keyKind P kt = some ks)
    {dm dk dx : Opd} (hm : opd P t m = some dm) (hk : opd P kt k = some dk) (hx : opd P el x = some dx) : ImpOK P n o (.mapset ks) [dm, dk, dx] := by
  intro G w fr st a key mu K KP hC hi Kw Q hK hP
  have h1 := opd_sound hC hm
  have h2 := opd_sound hC hk
  have h3 := opd_sound hC hx
  obtain ⟨d, hud, hfit⟩ := keyKind_fits hks
  simp only [List.map_cons, List.map_nil] at hi
  generalize fr.ev dm = M at *
  generalize fr.ev dk = KK at *
  generalize fr.ev dx = X at *
  generalize hVM : a.eval m = VM at *
  generalize hVK : a.eval k = VK at *
  generalize hVX : a.eval x = VX at *
  cases M <;> simp only [iwp] at hi
  rename_i kk ver
  obtain ⟨hki, es, c, hmap, hi⟩ := hi
  obtain ⟨hver, ents, he, hn, hr⟩ := mapAt_sound hC.st hmap
  cases h1 with
  | mapr k' v' r' h hxx =>
    have := hxx hver.symm
    subst this
    have hg := run_getObj (P := P) w _ _ he (by simp)
    have hck := run_checkKey (P := P) hud (hfit _ hki) h2 false 9999 w
    rcases hi with ⟨es', hset, hk'⟩ | ⟨hset, hk'⟩
    · obtain ⟨i, e, a1, a2, a3, rfl, a5⟩ := setE_some hset
      obtain ⟨q, hq, hqr⟩ := findE_sound (hfit _ hki) h2 (es := es) (ents := ents.toList) 0 (by simp [hn]) (fun i p p' => by simpa using hr i p (by simpa using p')) a3
      have hfk := run_findKey (P := P) hud hq w
      cases q with
      | none => exact hqr.elim
      | some q =>
        obtain ⟨j, u⟩ := q
        obtain ⟨_, b2, b3, b4⟩ := hqr
        simp only [Nat.sub_zero] at b2 b4
        have hij : i = j := first_eq a1 a2 a5 b2 a2 b4
        subst hij
        have hil : i < es.length := (List.getElem?_eq_some_iff.1 a1).1
        have hie : i < ents.size := by omega
        have hrep := hr i hil hie
        have hei : es[i] = e := (List.getElem?_eq_some_iff.1 a1).2
        rw [hei] at hrep
        have hsb := sameBits_key h2 hrep.2.1 a2 ⟨_, hki⟩
        obtain ⟨c1, c2⟩ := conc_setMap hC.st hmap (es' := es.set i ⟨e.born, KK, X⟩) (c' := c) (ents' := ents.modify i fun e => { e with key := VK, val := VX }) (by simp [hn]) (fun j p p' => by
          by_cases hij : i = j
          · subst hij
            simp only [List.getElem_set_self, Array.getElem_modify_self]
            exact ⟨hrep.1, h2, h3⟩
          · simp only [List.getElem_set_ne hij, Array.getElem_modify_of_ne hij]
            exact hr j (by simpa using p) (by simpa using p'))
        refine wp_skipped (w' := _) ?_ (hK _ undef _ _ _ hk' (.junk _) c1 c2)
        simp [execOp, ho, hVM, hVK, hVX, Instr.mapUpdate, underlying, hu, hg, hck, hfk, Instr.keyThatStays, hie, hsb, run_setMap he]
    · have a3 := setE_none hset
      obtain ⟨q, hq, hqr⟩ := findE_sound (hfit _ hki) h2 (es := es) (ents := ents.toList) 0 (by simp [hn]) (fun i p p' => by simpa using hr i p (by simpa using p')) a3
      have hfk := run_findKey (P := P) hud hq w
      cases q with
      | some q => exact hqr.elim
      | none =>
        obtain ⟨c1, c2⟩ := conc_setMap hC.st hmap (es' := es ++ [⟨c, KK, X⟩]) (c' := c + 1) (ents' := ents.push { key := VK, val := VX, born := c }) (by simp [hn]) (fun j p p' => by
          by_cases hj : j < es.length
          · rw [List.getElem_append_left hj, Array.getElem_push_lt (by omega)]
            exact hr j hj (by omega)
          · have hje : j = es.length := by simp at p; omega
            subst hje
            rw [List.getElem_append_right (by omega)]
            simp only [Nat.sub_self, List.getElem_cons_zero]
            have : (ents.push { key := VK, val := VX, born := c })[es.length]'p' = { key := VK, val := VX, born := c } := by
              have := Array.getElem_push_eq (xs := ents) (x := ({ key := VK, val := VX, born := c } : MapEntry))
              simp only [hn] at this
              exact this
            rw [this]
            exact ⟨rfl, h2, h3⟩)
        refine wp_skipped (w' := _) ?_ (hK _ undef _ _ _ hk' (.junk _) c1 c2)
        simp [execOp, ho, hVM, hVK, hVX, Instr.mapUpdate, underlying, hu, hg, hck, hfk, run_setMap he]

theorem two_args' {c : Call} {x y : Operand} {t u : TypeId} {b : Builtin} (hb : c.callee = .builtin b) (hargs : c.args.toList = [x, y]) (hts : c.argTypes.toList = [t, u]) : c = ⟨.builtin b, #[x, y], #[t, u]⟩ := two_args hb hargs hts

theorem one_args {c : Call} {x : Operand} {t : TypeId} {b : Builtin} (hb : c.callee = .builtin b) (hargs : c.args.toList = [x]) (hts : c.argTypes.toList = [t]) : c = ⟨.builtin b, #[x], #[t]⟩ := by
  obtain ⟨callee, args, argTypes⟩ := c
  simp only at hb hargs hts
  subst hb
  have e1 : args = #[x] := by rw [← Array.toArray_toList (xs := args), hargs]
  have e2 : argTypes = #[t] := by rw [← Array.toArray_toList (xs := argTypes), hts]
  subst e1; subst e2; rfl

theorem delete_ok {o : Oper} {c : Call} {t u kt el : TypeId} {m k : Operand} {ks : Bool} (ho : o.op = .call c) (hb : c.callee = .builtin .delete) (hargs : c.args.toList = [m, k]) (hts : c.argTypes.toList = [t, u])
    (hu : P.underlying t = some (.map kt el)) (hks : keyKind P kt = some ks) {dm dk : Opd} (hm : opd P t m = some dm) (hk : opd P u k = some dk) : ImpOK P n o (.delete ks) [dm, dk] := by
  intro G w fr st a key mu K KP hC hi Kw Q hK hP
  have h1 := opd_sound hC hm
  have h2 := opd_sound hC hk
  rw [two_args hb hargs hts] at ho
  obtain ⟨d, hud, hfit⟩ := keyKind_fits hks
  simp only [List.map_cons, List.map_nil] at hi
  generalize fr.ev dm = M at *
  generalize fr.ev dk = KK at *
  generalize hVM : a.eval m = VM at *
  generalize hVK : a.eval k = VK at *
  have hex : ∀ {V w'}, (Builtin.delete_ #[t, u] o.type #[VM, VK]).run P w = .ok V w' → (execOp a.eval o).run P w = .ok (.value V) w' := by
    intro V w' h
    simp [execOp, ho, resolve, invoke, builtin, hVM, hVK, h]
  cases M <;> simp only [iwp] at hi
  · rename_i kk ver
    obtain ⟨hki, es, c, hmap, es', hdel, hk'⟩ := hi
    obtain ⟨hver, ents, he, hn, hr⟩ := mapAt_sound hC.st hmap
    cases h1 with
    | mapr k' v' r' h hxx =>
      have := hxx hver.symm
      subst this
      have hg := run_getObj (P := P) w _ _ he (by simp)
      have hck := run_checkKey (P := P) hud (hfit _ hki) h2 ents.isEmpty 9999 w
      rcases delE_spec hdel with ⟨a3, rfl⟩ | ⟨i, e, a1, a2, a3, rfl, a5⟩
      · obtain ⟨q, hq, hqr⟩ := findE_sound (hfit _ hki) h2 (es := es') (ents := ents.toList) 0 (by simp [hn]) (fun i p p' => by simpa using hr i p (by simpa using p')) a3
        have hfk := run_findKey (P := P) hud hq w
        cases q with
        | some q => exact hqr.elim
        | none =>
          obtain ⟨c1, c2⟩ := conc_setMap hC.st hmap (es' := es') (c' := c) (ents' := ents) hn hr
          refine wp_value (hex (V := .tuple #[]) (w' := setBlock w (G.blk kk) (.map ents c)) ?_) (hK _ _ _ _ _ hk' (.junk _) c1 c2)
          simp [Builtin.delete_, underlying, hu, hg, hck, hfk, run_setMap he]
      · obtain ⟨q, hq, hqr⟩ := findE_sound (hfit _ hki) h2 (es := es) (ents := ents.toList) 0 (by simp [hn]) (fun i p p' => by simpa using hr i p (by simpa using p')) a3
        have hfk := run_findKey (P := P) hud hq w
        cases q with
        | none => exact hqr.elim
        | some q =>
          obtain ⟨j, u⟩ := q
          obtain ⟨_, b2, b3, b4⟩ := hqr
          simp only [Nat.sub_zero] at b2 b4
          have hij : i = j := first_eq a1 a2 a5 b2 a2 b4
          subst hij
          have hil : i < es.length := (List.getElem?_eq_some_iff.1 a1).1
          have hie : i < ents.size := by omega
          obtain ⟨c1, c2⟩ := conc_setMap hC.st hmap (es' := es.eraseIdx i) (c' := c) (ents' := ents.eraseIdxIfInBounds i) (by simp [Array.eraseIdxIfInBounds, hie, hn, List.length_eraseIdx, hil]) (fun j p p' => by
            simp only [Array.eraseIdxIfInBounds, hie, dif_pos] at p' ⊢
            rw [Array.getElem_eraseIdx, List.getElem_eraseIdx]
            split
            · exact hr j _ _
            · exact hr (j + 1) _ _)
          refine wp_value (hex (V := .tuple #[]) (w' := setBlock w (G.blk kk) (.map (ents.eraseIdxIfInBounds i) c)) ?_) (hK _ _ _ _ _ hk' (.junk _) c1 c2)
          simp [Builtin.delete_, underlying, hu, hg, hck, hfk, run_setMap he]
  · obtain ⟨hki, hi⟩ := hi
    cases h1
    have hck := run_checkKey (P := P) hud (hfit _ hki) h2 true 9999 w
    refine wp_value (hex (V := .tuple #[]) (w' := w) ?_) (hK _ _ _ _ _ hi (.junk _) hC.st (Ext.refl _ _ _))
    simp [Builtin.delete_, underlying, hu, hck]

theorem clearM_ok {o : Oper} {c : Call} {t kt el : TypeId} {m : Operand} (ho : o.op = .call c) (hb : c.callee = .builtin .clear) (hargs : c.args.toList = [m]) (hts : c.argTypes.toList = [t])
    (hu : P.underlying t = some (.map kt el)) {dm : Opd} (hm : opd P t m = some dm) : ImpOK P n o .clearM [dm] := by
  intro G w fr st a key mu K KP hC hi Kw Q hK hP
  have h1 := opd_sound hC hm
  rw [one_args hb hargs hts] at ho
  simp only [List.map_cons, List.map_nil] at hi
  generalize fr.ev dm = M at *
  generalize hVM : a.eval m = VM at *
  have hex : ∀ {V w'}, (Builtin.clear_ #[t] o.type #[VM]).run P w = .ok V w' → (execOp a.eval o).run P w = .ok (.value V) w' := by
    intro V w' h
    simp [execOp, ho, resolve, invoke, builtin, hVM, h]
  cases M <;> simp only [iwp] at hi
  · rename_i kk ver
    obtain ⟨es, c, hmap, hk'⟩ := hi
    obtain ⟨hver, ents, he, hn, hr⟩ := mapAt_sound hC.st hmap
    cases h1 with
    | mapr k' v' r' h hxx =>
      have := hxx hver.symm
      subst this
      have hg := run_getObj (P := P) w _ _ he (by simp)
      obtain ⟨c1, c2⟩ := conc_setMap hC.st hmap (es' := []) (c' := c) (ents' := #[]) rfl (fun i h => by simp at h)
      refine wp_value (hex (V := .tuple #[]) (w' := setBlock w (G.blk kk) (.map #[] c)) ?_) (hK _ _ _ _ _ hk' (.junk _) c1 c2)
      simp [Builtin.clear_, underlying, hu, hg, run_setMap he]
  · cases h1
    refine wp_value (hex (V := .tuple #[]) (w' := w) ?_) (hK _ _ _ _ _ hi (.junk _) hC.st (Ext.refl _ _ _))
    simp [Builtin.clear_, underlying, hu]

theorem range_ok {o : Oper} {t kt el : TypeId} {m : Operand} (ho : o.op = .range t m) (hu : P.underlying t = some (.map kt el)) {dm : Opd} (hm : opd P t m = some dm) : ImpOK P n o .range [dm] := by
  intro G w fr st a key mu K KP hC hi Kw Q hK hP
  have h1 := opd_sound hC hm
  simp only [List.map_cons, List.map_nil] at hi
  generalize fr.ev dm = M at *
  generalize hVM : a.eval m = VM at *
  cases M <;> simp only [iwp] at hi
  rename_i kk ver
  obtain ⟨es, c, hmap, hk'⟩ := hi
  obtain ⟨hver, ents, he, hn, hr⟩ := mapAt_sound hC.st hmap
  have hobj := mapAt_obj hmap
  cases h1 with
  | mapr k' v' r' h hxx =>
    have := hxx hver.symm
    subst this
    have hg := run_getObj (P := P) w _ _ he (by simp)
    have hlt : G.blk kk < w.heap.size := hC.st.size kk _ (by simp [Owns, hobj.2])
    obtain ⟨c1, c2⟩ := conc_newObj hC.st key (.mapIter (some (G.blk kk)) c #[] c) (.iter kk ver c [] c) 0 0 (by
      refine ⟨by by_cases e : kk = key <;> simp [Store.set, e] <;> (try subst e) <;> omega, fun e => ?_⟩
      have hne : kk ≠ key := by rintro rfl; simp at e; omega
      simp only [Ghost.setLoc, if_pos]
      rw [if_neg hne, heap_alloc_at])
    refine wp_value (x := .pointer (some ⟨w.heap.size, 0, none⟩)) (w' := w.alloc (.mapIter (some (G.blk kk)) c #[] c)) ?_ (hK _ _ _ _ _ hk' (.ref _ _ _ _ (by simp) fun _ => by simp [Ghost.setLoc]) c1 c2)
    simp [execOp, ho, hVM, Instr.range, underlying, hu, hg]

theorem entry_ok {o : Oper} {x : Operand} (ho : o.op = .entry x) {d : Opd} (hd : opd P o.type x = some d) : LoadOK P n o .entry [d] := by
  intro G w fr st a v hC hv
  have h1 := opd_sound hC hd
  simp only [List.map_cons, List.map_nil] at hv
  generalize fr.ev d = X at *
  generalize hX : a.eval x = V at *
  cases X <;> simp only [lev, reduceCtorEq] at hv
  rename_i k ver off
  cases off with
  | succ off => simp at hv
  | zero =>
    simp only at hv
    split at hv
    · rename_i hver
      split at hv
      · rename_i m mv since seen last hobj
        rw [Option.bind_eq_some_iff] at hv
        obtain ⟨⟨es, c⟩, hmap, hv⟩ := hv
        simp only at hv
        split at hv
        · rename_i hlast
          rw [Option.bind_eq_some_iff] at hv
          obtain ⟨b, hb, hv⟩ := hv
          simp only [Option.map_eq_some_iff] at hv
          obtain ⟨e, hf, rfl⟩ := hv
          obtain ⟨hmv, ents, he, hn, hr⟩ := mapAt_sound hC.st hmap
          obtain ⟨_, hit⟩ := hC.st.obj k _ hobj
          have hit := hit hmv.symm
          cases h1 with
          | ref k v off ad h hx =>
            have := hx hver.symm
            subst this
            have hg := run_getObj (P := P) w _ _ he (by simp)
            have hgi := run_getObj (P := P) w _ _ hit (by simp)
            have hback : seen.toArray.back? = some b := by simpa using hb
            obtain ⟨en, hen, hre⟩ : ∃ en, ents.find? (fun x => x.born == b) = some en ∧ RepEntry G st e en := by
              rw [← Array.find?_toList]
              have key : ∀ (es : List AEntry) (ents : List MapEntry), ents.length = es.length → (∀ i (h : i < es.length) (h' : i < ents.length), RepEntry G st es[i] ents[i]) → es.find? (fun e => e.born == b) = some e → ∃ en, ents.find? (fun x => x.born == b) = some en ∧ RepEntry G st e en := by
                intro es
                induction es with
                | nil => intro ents _ _ h; simp at h
                | cons e0 es ih =>
                  intro ents hn hr hf
                  cases ents with
                  | nil => simp at hn
                  | cons en ents =>
                    have h0 := hr 0 (by simp) (by simp)
                    simp only [List.getElem_cons_zero] at h0
                    rw [List.find?_cons] at hf ⊢
                    rw [← h0.1]
                    split at hf
                    · cases hf; exact ⟨en, rfl, h0⟩
                    · exact ih ents (by simpa using hn) (fun i p p' => by
                        have := hr (i + 1) (by simpa using p) (by simpa using p')
                        simpa using this) hf
              exact key es ents.toList (by simpa using hn) (fun i p p' => by simpa using hr i p (by simpa using p')) hf
            refine ⟨.tuple #[en.key, en.val], ?_, .tup _ _ (.cons _ _ _ _ hre.2.1 (.cons _ _ _ _ hre.2.2 .nil))⟩
            simp [execOp, ho, hX, Instr.entry, hgi, hg, hback, hlast, hen]
        · cases hv
      · cases hv
    · cases hv

theorem next_ok {o : Oper} {x : Operand} (ho : o.op = .next x false) {d : Opd} (hd : opd P o.type x = some d) : ImpOK P n o .next [d] := by
  intro G w fr st a key mu K KP hC hi Kw Q hK hP
  have h1 := opd_sound hC hd
  simp only [List.map_cons, List.map_nil] at hi
  generalize fr.ev d = X at *
  generalize hX : a.eval x = V at *
  cases X <;> simp only [iwp] at hi
  rename_i k ver off
  cases off with
  | succ off => exact hi.elim
  | zero =>
    simp only at hi
    obtain ⟨hver, hi⟩ := hi
    subst hver
    split at hi
    · rename_i m mv since seen last hobj
      obtain ⟨es, c, hmap, hn1, hn2, hn3⟩ := hi
      obtain ⟨hmv, ents, he, hn, hr⟩ := mapAt_sound hC.st hmap
      obtain ⟨_, hit⟩ := hC.st.obj k _ hobj
      have hit := hit hmv.symm
      have hown : Owns G st k (G.blk k) := by simp [Owns, hobj]
      have hlt := hC.st.size k _ hown
      cases h1 with
      | ref k v off ad h hx =>
        have := hx rfl
        subst this
        have hg := run_getObj (P := P) w _ _ he (by simp)
        have hgi := run_getObj (P := P) w _ _ hit (by simp)
        -- the entries of both kinds, side by side
        have hpair : ∀ en ∈ ents, ∃ e ∈ es, RepEntry G st e en := by
          intro en hen
          obtain ⟨i, hi, rfl⟩ := Array.mem_iff_getElem.1 hen
          exact ⟨es[i]'(by omega), List.getElem_mem _, hr i (by omega) hi⟩
        have hpair' : ∀ e ∈ es, ∃ en ∈ ents, RepEntry G st e en := by
          intro e hee
          obtain ⟨i, hi, rfl⟩ := List.mem_iff_getElem.1 hee
          exact ⟨ents[i]'(by omega), Array.getElem_mem _, hr i hi (by omega)⟩
        have htest : (!(seen.toArray).isEmpty && !ents.isEmpty && ents.all (fun x => decide (x.born ≥ last))) = false := by
          rw [← hn1]
          have e1 : ents.isEmpty = es.isEmpty := by
            cases es with
            | nil => simp at hn; simp [hn]
            | cons e es => simp [Array.isEmpty, hn]
          have e2 : ents.all (fun x => decide (x.born ≥ last)) = es.all (fun e => decide (e.born ≥ last)) := by
            rw [Bool.eq_iff_iff]
            simp only [Array.all_eq_true_iff_forall_mem, List.all_eq_true, decide_eq_true_eq]
            constructor
            · intro h e hee
              obtain ⟨en, h1, h2⟩ := hpair' e hee
              rw [h2.1]; exact h en h1
            · intro h en hen
              obtain ⟨e, h1, h2⟩ := hpair en hen
              rw [← h2.1]; exact h e h1
          rw [e1, e2]
          simp
        have hleft : ∀ en, en ∈ ents.filter (fun e => !(seen.toArray).contains e.born) ↔ en ∈ ents ∧ seen.contains en.born = false := by
          intro en; simp
        generalize hL : ents.filter (fun e => !(seen.toArray).contains e.born) = L at hleft
        generalize hcand : ((if (L.filter (fun x => decide (x.born < since))).isEmpty then #[none] else #[]) ++ (L.filter (fun x => decide (x.born < since)) ++ L.filter (fun x => decide (x.born ≥ since))).map some : Array (Option MapEntry)) = cand
        have hmem : ∀ y ∈ cand, (y = none ∧ (L.filter (fun x => decide (x.born < since))).isEmpty = true) ∨ ∃ en ∈ L, y = some en := by
          intro y hy
          rw [← hcand] at hy
          rcases Array.mem_append.1 hy with h | h
          · split at h
            · rename_i h0; simp at h; exact .inl ⟨h, h0⟩
            · simp at h
          · obtain ⟨en, h1, rfl⟩ := Array.mem_map.1 h
            refine .inr ⟨en, ?_, rfl⟩
            rcases Array.mem_append.1 h1 with h2 | h2 <;> exact (Array.mem_filter.1 h2).1
        have hpos : 0 < cand.size := by
          rw [← hcand]
          by_cases h0 : (L.filter (fun x => decide (x.born < since))).isEmpty = true
          · rw [if_pos h0]; simp; omega
          · have : 0 < (L.filter (fun x => decide (x.born < since))).size := by
              rw [Array.isEmpty] at h0
              simp only [decide_eq_true_eq] at h0
              omega
            simp only [Array.size_append, Array.size_map]
            omega
        obtain ⟨j, w1, hj, hw1, hch⟩ : ∃ (j : Nat) (w1 : World), j < cand.size ∧ (w1 = w ∨ w1 = w.drew) ∧ (choose (Question.mapNext cand.size)).run P w = .ok j w1 := by
          by_cases hf : cand.size ≤ 1
          · exact ⟨0, w, by omega, Or.inl rfl, by simp [choose, Sem.run, Question.forced, hf]⟩
          · exact ⟨_, w.drew, Nat.mod_lt _ hpos, Or.inr rfl, by
              simp only [choose, Sem.run, Question.forced, decide_eq_true_eq, hf, if_false, Question.cut]
              rfl⟩
        have hheap : w1.heap = w.heap := by rcases hw1 with rfl | rfl <;> rfl
        have hExt : Ext G w st G w1 st := by
          rcases hw1 with rfl | rfl
          · exact Ext.refl _ _ _
          · exact ⟨.refl _ _, Nat.le_refl _, fun _ _ _ => rfl, fun k _ _ h => ⟨k, h⟩, fun _ _ _ h _ => .inl h, rfl, rfl, rfl⟩
        have hS1 : ConcS G w1 st := by
          rcases hw1 with rfl | rfl
          · exact hC.st
          · exact {
              one := hC.st.one
              imm := fun b o v e => hC.st.imm b o v e
              obj := fun k o e => by have := hC.st.obj k o e; cases o <;> exact this
              inj := hC.st.inj
              own := hC.st.own
              size := hC.st.size }
        have hmm := hmem cand[j] (Array.getElem_mem hj)
        have hcj : cand[j]? = some cand[j] := by simp [hj]
        rcases hmm with ⟨hnone, hempty⟩ | ⟨en, henL, hsome⟩
        · have hover := hn2 (by
            rw [List.filter_eq_nil_iff]
            intro e hee
            have hee' := List.mem_filter.1 hee
            obtain ⟨en, h1, h2⟩ := hpair' e hee'.1
            intro hlt
            have : en ∈ L.filter (fun x => decide (x.born < since)) := Array.mem_filter.2 ⟨(hleft en).2 ⟨h1, by rw [← h2.1]; simpa using hee'.2⟩, by rw [← h2.1]; exact hlt⟩
            rw [Array.isEmpty_iff.1 hempty] at this
            simp at this)
          refine wp_value (x := .tuple #[.bool false]) (w' := w1) ?_ (hK _ _ _ _ _ hover (.tup _ _ (.cons _ _ _ _ (.bool false) .nil)) hS1 hExt)
          have hnext : (Instr.next (.pointer (some ⟨G.blk k, 0, none⟩)) false o.type).run P w = .ok (.tuple #[.bool false]) w1 := by
            simp only [Instr.next, Sem.run_bind, hgi, hg, Result.andThen, htest, Bool.false_eq_true, if_false, hL, hcand, hch, hcj, hnone]
            rfl
          simp [execOp, ho, hX, hnext]
        · obtain ⟨h1, h2⟩ := (hleft en).1 henL
          obtain ⟨e, hee, hre⟩ := hpair en h1
          have hk := hn3 e (List.mem_filter.2 ⟨hee, by rw [hre.1, h2]; rfl⟩)
          have himm : ∀ o, G.imm (G.blk k) o = none := fun o' => by
            rcases hC.st.own k _ o' hown with h | ⟨m, hm, _⟩
            · exact h
            · rw [hobj] at hm; cases hm
          have hit1 : w1.heap[G.blk k]? = some (.mapIter (some (G.blk m)) since seen.toArray last) := by rw [hheap]; exact hit
          have hl := later_setObj G st k (.iter m mv since (seen ++ [e.born]) c) (by simp)
          obtain ⟨c1, c2⟩ := conc_setObj hS1 hown (w' := setBlock w1 (G.blk k) (.mapIter (some (G.blk m)) since (seen.toArray.push en.born) c)) (.iter m mv since (seen ++ [e.born]) c) (by simp) (fun b' hb' => heap_setBlock_ne w1 _ hb') (size_setBlock _ _ _) himm (fun b' hb' => by simp [Owns] at hb'; exact hb'.symm)
            (by
              refine ⟨?_, fun _ => ?_⟩
              · by_cases e' : m = k
                · subst e'; simp; omega
                · rw [Store.set_other _ _ e']; omega
              · rw [heap_setBlock w1 _ (by rw [hheap]; exact hlt), hre.1]
                simp) rfl rfl rfl
          refine wp_value (x := .tuple #[.bool true, en.key, en.val]) (w' := setBlock w1 (G.blk k) (.mapIter (some (G.blk m)) since (seen.toArray.push en.born) c)) ?_
            (hK _ _ _ _ _ hk (.tup _ _ (.cons _ _ _ _ (.bool true) (.cons _ _ _ _ (hre.2.1.later hl) (.cons _ _ _ _ (hre.2.2.later hl) .nil)))) c1 (hExt.trans c2))
          have hnext : (Instr.next (.pointer (some ⟨G.blk k, 0, none⟩)) false o.type).run P w = .ok (.tuple #[.bool true, en.key, en.val]) (setBlock w1 (G.blk k) (.mapIter (some (G.blk m)) since (seen.toArray.push en.born) c)) := by
            simp only [Instr.next, Sem.run_bind, hgi, hg, Result.andThen, htest, Bool.false_eq_true, if_false, hL, hcand, hch, hcj, hsome, run_setObj_at hit1]
            rfl
          simp [execOp, ho, hX, hnext]
    · exact hi.elim

end
end Go.Am
