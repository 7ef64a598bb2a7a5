/- The abstract machine, run: what a run says is so. -/
import Derived.Test.YteinffefhcpcmaaGreatDoorAmExec
import Derived.Test.YteinffefhcpcmaaGreatDoorAmSound11
namespace Go.Am

/-! ## Stores -/

def Knows (h : Hp) (st : Store) : Prop := ∀ i s, h.get i = some s → st (0, i) = s.norm

theorem Hp.st_obj {h : Hp} {k : Key} {o : AObj} (hk : (h.st k).obj = some o) : ∃ s, isZ k.1 = true ∧ h.get k.2 = some s ∧ h.st k = s.norm := by
  unfold Hp.st Hp.at at hk ⊢
  split at hk
  · rename_i s h1 h2
    exact ⟨s, h1, h2, rfl⟩
  · simp [slot0] at hk

theorem Knows.obj {h : Hp} {st : Store} (hk : Knows h st) {k : Key} {o : AObj} (ho : (h.st k).obj = some o) : st k = h.st k := by
  obtain ⟨s, h1, h2, h3⟩ := Hp.st_obj ho
  have := hk _ _ h2
  rw [h3, ← this]
  congr 1
  exact Prod.ext (isZ_zero h1) rfl

theorem objAt_some {h : Hp} {k : Key} {v : Nat} {o : AObj} (ho : objAt h k v = some o) : k = (0, k.2) ∧ ∃ s, h.get k.2 = some s ∧ s.norm = ⟨v, some o⟩ := by
  unfold objAt Hp.at at ho
  split at ho
  · rename_i ver o' e
    split at e
    · rename_i s h1 h2
      cases hb : Nat.beq ver v with
      | false => simp [hb] at ho
      | true =>
        simp [hb] at ho
        rw [Nat.beq_eq] at hb
        subst hb ho
        exact ⟨Prod.ext (isZ_zero h1) rfl, s, h2, e⟩
    · simp [slot0] at e
  · cases ho

theorem arrAt_some {h : Hp} {k : Key} {v n : Nat} {o : List (Nat × Nat)} (ho : arrAt h k v = some (n, o)) : k = (0, k.2) ∧ h.get k.2 = some ⟨v, some (.arr n o)⟩ := by
  unfold arrAt at ho
  split at ho
  · rename_i ver n' o' h1 h2
    cases hb : Nat.beq ver v with
    | false => simp [hb] at ho
    | true =>
      simp [hb] at ho
      rw [Nat.beq_eq] at hb
      obtain ⟨rfl, rfl⟩ := ho
      subst hb
      exact ⟨Prod.ext (isZ_zero h1) rfl, h2⟩
  · cases ho

theorem Knows.cellsAt {h : Hp} {st : Store} (hk : Knows h st) {k : Key} {v : Nat} {l : List AVal} (e : cellsAt h.st k v = some l) : cellsAt st k v = some l := by
  unfold Am.cellsAt at e ⊢
  split at e
  · rename_i hv
    split at e
    · rename_i l' ho
      have := hk.obj ho
      rw [this, if_pos hv, ho]
      exact e
    · cases e
  · cases e

theorem Knows.mapAt {h : Hp} {st : Store} (hk : Knows h st) {k : Key} {v : Nat} {l : List AEntry × Nat} (e : mapAt h.st k v = some l) : mapAt st k v = some l := by
  unfold Am.mapAt at e ⊢
  split at e
  · rename_i hv
    split at e
    · rename_i l' c ho
      have := hk.obj ho
      rw [this, if_pos hv, ho]
      exact e
    · cases e
  · cases e

theorem Knows.elems {h : Hp} {st : Store} (hk : Knows h st) {x : AVal} {r : Nat × List AVal} (e : elems h.st x = some r) : elems st x = some r := by
  unfold Am.elems at e ⊢
  split at e
  · exact e
  · rename_i k v e' off len
    split at e
    · rename_i hv
      split at e
      · rename_i l' ho
        have := hk.obj ho
        rw [this, if_pos hv, ho]
        exact e
      · cases e
    · cases e
  · cases e

theorem Knows.srcA {h : Hp} {st : Store} (hk : Knows h st) {x : AVal} {r : List AVal} (e : srcA h.st x = some r) : srcA st x = some r := by
  unfold Am.srcA at e ⊢
  split at e
  · exact e
  · exact e
  · rename_i h1 h2
    rw [Option.map_eq_some_iff] at e
    obtain ⟨p, hp, rfl⟩ := e
    rw [hk.elems hp]; rfl

theorem Knows.load {h : Hp} {st : Store} (hk : Knows h st) {sz : Option Nat} {p v : AVal} (e : load h.st sz p = some v) : load st sz p = some v := by
  unfold Am.load at e ⊢
  split at e
  · rw [Option.bind_eq_some_iff] at e ⊢
    obtain ⟨l, h1, h2⟩ := e
    exact ⟨l, hk.cellsAt h1, h2⟩
  · exact e
  · cases e

theorem Knows.lev {h : Hp} {st : Store} (hk : Knows h st) {l : LOp} {args : List AVal} {v : AVal} (e : lev h.st l args = some v) : lev st l args = some v := by
  unfold Am.lev at e ⊢
  split at e
  · exact hk.load e
  · exact e
  · rw [Option.map_eq_some_iff] at e ⊢
    obtain ⟨m, h1, h2⟩ := e
    exact ⟨m, hk.mapAt h1, h2⟩
  · exact e
  · rename_i ks z agg ok k v' key
    by_cases hks : keyIs ks key = true
    · rw [if_pos hks] at e ⊢
      rw [Option.bind_eq_some_iff] at e ⊢
      obtain ⟨m, h1, h2⟩ := e
      exact ⟨m, hk.mapAt h1, h2⟩
    · rw [if_neg hks] at e; cases e
  · rw [Option.bind_eq_some_iff] at e ⊢
    obtain ⟨m, h1, h2⟩ := e
    exact ⟨m, hk.cellsAt h1, h2⟩
  · rw [Option.bind_eq_some_iff] at e ⊢
    obtain ⟨m, h1, h2⟩ := e
    exact ⟨m, hk.elems h1, h2⟩
  · rename_i k v'
    by_cases hv : (h.st k).ver = v'
    · rw [if_pos hv] at e
      split at e
      · rename_i m mv since seen last ho
        have := hk.obj ho
        rw [this, if_pos hv, ho]
        simp only
        rw [Option.bind_eq_some_iff] at e ⊢
        obtain ⟨p, h1, h2⟩ := e
        exact ⟨p, hk.mapAt h1, h2⟩
      · cases e
    · rw [if_neg hv] at e; cases e
  · cases e

/-! ## One operation -/

structure Upd (i : Nat) (h : Hp) (st : Store) (h' : Hp) (st' : Store) : Prop where
  ag : Knows h' st'
  fx : ∀ k : Key, (k.1 = 0 → h'.get k.2 = none) → st' k = st k
  gr : ∀ j s, h'.get j = some s → (∃ s', h.get j = some s') ∨ j = i
  keep : ∀ j s, h.get j = some s → ∃ s', h'.get j = some s'

theorem Upd.refl {i : Nat} {h : Hp} {st : Store} (hk : Knows h st) : Upd i h st h st := ⟨hk, fun _ _ => rfl, fun _ s hs => .inl ⟨s, hs⟩, fun _ s hs => ⟨s, hs⟩⟩

theorem Upd.put {i j : Nat} {h h' : Hp} {st st' : Store} (hu : Upd i h st h' st') (hj : (∃ s', h.get j = some s') ∨ j = i) (s : XSlot) :
    Upd i h st (h'.put j s) (st'.set (0, j) s.norm) where
  ag := fun a b e => by
    rw [T.get_put] at e
    unfold Store.set
    by_cases ha : a = j
    · subst ha; simp at e; simp [e]
    · rw [if_neg ha] at e
      rw [if_neg (by simpa using ha)]
      exact hu.ag _ _ e
  fx := fun k hk => by
    unfold Store.set
    have hne : k ≠ (0, j) := by
      rintro rfl
      have := hk rfl
      rw [T.get_put] at this
      simp at this
    rw [if_neg hne]
    refine hu.fx k fun e => ?_
    have := hk e
    rw [T.get_put] at this
    split at this
    · cases this
    · exact this
  keep := fun a b e => by
    obtain ⟨s', hs⟩ := hu.keep a b e
    rw [T.get_put]
    split
    · exact ⟨_, rfl⟩
    · exact ⟨s', hs⟩
  gr := fun a b e => by
    rw [T.get_put] at e
    by_cases ha : a = j
    · subst ha; exact hj
    · rw [if_neg ha] at e
      exact hu.gr _ _ e

section
variable {P : Program} {i : Nat} {h : Hp} {st : Store} {K KP : AVal → Store → Prop}

theorem mk_sound {h' : Hp} {st' : Store} {v : AVal} {o : AObj} {outs : Outs} (e : mk i v o h' = some outs) (hu : Upd i h st h' st')
    (hn : h.get i = none → st (0, i) = slot0) (hk : ∀ p ∈ outs, ∀ st', Upd i h st p.2 st' → K p.1 st') (hi : h'.get i = none → h.get i = none ∧ st' (0, i) = st (0, i)) :
    (st' (0, i)).ver + 1 = 1 ∧ K v (st'.set (0, i) ⟨1, some o⟩) := by
  unfold mk at e
  split at e
  · rename_i hg
    obtain ⟨h1, h2⟩ := hi hg
    cases e
    refine ⟨by rw [h2, hn h1]; rfl, hk (v, _) (List.mem_singleton.2 rfl) _ (hu.put (.inr rfl) ⟨1, some (.o o)⟩)⟩
  · cases e

theorem mkArr_sound {h' : Hp} {st' : Store} {n : Nat} {outs : Outs} (e : mkArr i n h' = some outs) (hu : Upd i h st h' st')
    (hn : h.get i = none → st (0, i) = slot0) (hk : ∀ p ∈ outs, ∀ st', Upd i h st p.2 st' → K p.1 st') (hi : h'.get i = none → h.get i = none ∧ st' (0, i) = st (0, i)) :
    (st' (0, i)).ver + 1 = 1 ∧ K (.ref (0, i) 1 0) (st'.set (0, i) ⟨1, some (.cells (exp 0 n []))⟩) := by
  unfold mkArr at e
  split at e
  · rename_i hg
    obtain ⟨h1, h2⟩ := hi hg
    cases e
    exact ⟨by rw [h2, hn h1]; rfl, hk _ (List.mem_singleton.2 rfl) _ (hu.put (.inr rfl) ⟨1, some (.arr n [])⟩)⟩
  · cases e

theorem at_sound {k : Key} {v : Nat} {o : AObj} (ho : objAt h k v = some o) (ha : Knows h st) : st k = ⟨v, some o⟩ := by
  obtain ⟨h1, s, h2, h4⟩ := objAt_some ho
  have h3 := ha _ _ h2
  rw [← h1, h4] at h3
  exact h3

theorem arr_sound {k : Key} {v n : Nat} {o : List (Nat × Nat)} (ho : arrAt h k v = some (n, o)) (ha : Knows h st) : st k = ⟨v, some (.cells (exp 0 n o))⟩ := by
  obtain ⟨h1, h2⟩ := arrAt_some ho
  have h3 := ha _ _ h2
  rw [← h1] at h3
  exact h3

theorem upd_sound {k : Key} {v : Nat} {o o' : AObj} {outs : Outs} (ho : objAt h k v = some o') (e : upd k v o h = some outs) (ha : Knows h st) (hk : ∀ p ∈ outs, ∀ st', Upd i h st p.2 st' → K p.1 st') :
    st k = ⟨v, some o'⟩ ∧ K .junk (st.set k ⟨v, some o⟩) := by
  obtain ⟨h1, s, h2, h4⟩ := objAt_some ho
  unfold upd at e
  cases e
  refine ⟨at_sound ho ha, hk (.junk, _) (List.mem_singleton.2 rfl) _ ?_⟩
  rw [h1]
  exact (Upd.refl ha).put (.inl ⟨_, h2⟩) ⟨v, some (.o o)⟩

theorem updArr_sound {k : Key} {v n m : Nat} {o o' : List (Nat × Nat)} {outs : Outs} (ho : arrAt h k v = some (n, o')) (e : updArr k v m o h = some outs) (ha : Knows h st) (hk : ∀ p ∈ outs, ∀ st', Upd i h st p.2 st' → K p.1 st') :
    st k = ⟨v, some (.cells (exp 0 n o'))⟩ ∧ K .junk (st.set k ⟨v, some (.cells (exp 0 m o))⟩) := by
  obtain ⟨h1, h2⟩ := arrAt_some ho
  unfold updArr at e
  cases e
  refine ⟨arr_sound ho ha, hk (.junk, _) (List.mem_singleton.2 rfl) _ ?_⟩
  rw [h1]
  exact (Upd.refl ha).put (.inl ⟨_, h2⟩) ⟨v, some (.arr m o)⟩

theorem appx_sound {e : ESz} {tag : Tag} {len n : Nat} {l : List AVal} {outs : Outs} (hx : appx i e tag len l n h = some outs) (ha : Knows h st)
    (hn : h.get i = none → st (0, i) = slot0) (hk : ∀ p ∈ outs, ∀ st', Upd i h st p.2 st' → K p.1 st') :
    App st tag len ∧ K (.list (.tk (0, i) (((st.kill tag) (0, i)).ver + 1)) e l) ((st.kill tag).set (0, i) ⟨((st.kill tag) (0, i)).ver + 1, some (.tail n)⟩) := by
  unfold appx at hx
  split at hx
  · obtain ⟨h1, h2⟩ := mk_sound hx (Upd.refl ha) hn hk (fun e => ⟨e, rfl⟩)
    refine ⟨trivial, ?_⟩
    simp only [Store.kill]
    rw [h1]
    exact h2
  · rename_i k v
    split at hx
    · rename_i m ho
      cases hb : Nat.beq m len with
      | false => simp [hb] at hx
      | true =>
        rw [Nat.beq_eq] at hb
        subst hb
        simp only [Nat.beq_refl, cond_true] at hx
        have h3 := at_sound ho ha
        obtain ⟨h4, s5, h5, _⟩ := objAt_some ho
        have hu : Upd i h st (T.put h k.2 ⟨v, none⟩) (st.set (0, k.2) ⟨v, none⟩) := (Upd.refl ha).put (.inl ⟨_, h5⟩) ⟨v, none⟩
        obtain ⟨h1, h2⟩ := mk_sound hx hu hn hk (fun e => by
          rw [T.get_put] at e
          by_cases hik : i = k.2
          · rw [if_pos hik] at e; cases e
          · rw [if_neg hik] at e
            refine ⟨e, ?_⟩
            unfold Store.set
            rw [if_neg (by simpa using hik)])
        have hkill : st.kill (.tk k v) = st.set (0, k.2) ⟨v, none⟩ := by
          simp only [Store.kill]
          rw [h3, ← h4]
        refine ⟨⟨by rw [h3], by rw [h3]⟩, ?_⟩
        rw [hkill, h1]
        exact h2
    · cases hx
  · cases hx

theorem exp_nil : ∀ {n i : Nat}, exp i n [] = List.replicate n (.int .u64 (.ofNat 0))
  | 0, _ => by simp [exp]
  | n + 1, i => by simp only [exp, List.replicate_succ]; rw [exp_nil]

theorem splice_all {n : Nat} (over : List (Nat × Nat)) : splice (exp 0 n over) 0 (List.replicate n (exp 0 1 [])).flatten = exp 0 n [] := by
  have h1 : (List.replicate n (exp 0 1 [])).flatten = exp 0 n [] := by
    rw [exp_nil, exp_nil]
    simp [List.flatten_replicate_replicate]
  rw [h1]
  unfold splice
  simp [exp_length]

theorem mapAt_of {k : Key} {v : Nat} {es : List AEntry} {c : Nat} (h : st k = ⟨v, some (.map es c)⟩) : mapAt st k v = some (es, c) := by
  unfold mapAt
  rw [h]
  simp

theorem iex_sound {op : IOp} {args : List AVal} {outs : Outs} (hx : iex i op args h = some outs) (ha : Knows h st)
    (hn : h.get i = none → st (0, i) = slot0) (hk : ∀ p ∈ outs, ∀ st', Upd i h st p.2 st' → K p.1 st') : iwp P (0, i) false op args st K KP := by
  have hself : ∀ e : h.get i = none, h.get i = none ∧ st (0, i) = st (0, i) := fun e => ⟨e, rfl⟩
  unfold iex at hx
  split at hx
  · -- alloc
    obtain ⟨h1, h2⟩ := mk_sound hx (Upd.refl ha) hn hk hself
    simp only [iwp]
    rw [h1]; exact h2
  · split at hx
    · rename_i hc
      obtain ⟨h1, h2⟩ := mkArr_sound hx (Upd.refl ha) hn hk hself
      have he := zeros_exp (i := 0) hc.2.2
      simp only [iwp]
      rw [h1, he]; exact ⟨hc.1, exp_length, h2⟩
    · split at hx
      · rename_i hc
        obtain ⟨h1, h2⟩ := mk_sound hx (Upd.refl ha) hn hk hself
        simp only [iwp]
        rw [h1]; exact ⟨hc.1, hc.2, h2⟩
      · cases hx
  · split at hx
    · rename_i n over ho
      split at hx
      · rename_i m
        split at hx
        · rename_i hc
          obtain ⟨rfl, hlt, hs⟩ := hc
          obtain ⟨h1, h2⟩ := updArr_sound ho hx ha hk
          simp only [iwp]
          rw [h1]
          refine ⟨rfl, rfl, rfl, rfl, ?_, ?_⟩
          · rw [exp_length]; omega
          · simp only [AVal.cells]
            rw [exp_splice hs hlt]
            exact h2
        · cases hx
      · cases hx
    · split at hx
      · rename_i l ho
        split at hx
        · rename_i hc
          obtain ⟨h1, h2⟩ := upd_sound ho hx ha hk
          simp only [iwp]
          rw [h1]
          exact ⟨rfl, hc.1, hc.2.1, hc.2.2.1, hc.2.2.2, h2⟩
        · cases hx
      · cases hx
  · split at hx
    · rename_i m hm
      split at hx
      · rename_i hc
        obtain ⟨h1, h2⟩ := appx_sound hx ha hn hk
        simp only [iwp, Bool.false_eq_true, if_false]
        exact ⟨hc.1, h1, hc.2.1, m, ha.srcA hm, hc.2.2, h2⟩
      · cases hx
    · cases hx
  · split at hx
    · rename_i hc
      obtain ⟨h1, h2⟩ := appx_sound hx ha hn hk
      simp only [iwp]
      exact ⟨hc.1, hc.2.1, h1, hc.2.2.1, hc.2.2.2.1, hc.2.2.2.2.1, hc.2.2.2.2.2.1, hc.2.2.2.2.2.2, h2⟩
    · cases hx
  · obtain ⟨h1, h2⟩ := mk_sound hx (Upd.refl ha) hn hk hself
    simp only [iwp]
    rw [h1]; exact h2
  · -- mapset
    split at hx
    · rename_i es c ho
      split at hx
      · rename_i hks
        simp only [iwp]
        refine ⟨hks, es, c, mapAt_of (at_sound ho ha), ?_⟩
        split at hx
        · rename_i es' hs
          exact .inl ⟨es', hs, (upd_sound ho hx ha hk).2⟩
        · rename_i hs
          exact .inr ⟨hs, (upd_sound ho hx ha hk).2⟩
        · cases hx
      · cases hx
    · cases hx
  · split at hx
    · rename_i hks
      cases hx
      simp only [iwp]
      exact ⟨hks, hk (.junk, h) (List.mem_singleton.2 rfl) _ (Upd.refl ha)⟩
    · cases hx
  · split at hx
    · rename_i es c ho
      split at hx
      · rename_i hks
        split at hx
        · rename_i es' hs
          simp only [iwp]
          exact ⟨hks, es, c, mapAt_of (at_sound ho ha), es', hs, (upd_sound ho hx ha hk).2⟩
        · cases hx
      · cases hx
    · cases hx
  · cases hx
    simp only [iwp]
    exact hk (.junk, h) (List.mem_singleton.2 rfl) _ (Upd.refl ha)
  · split at hx
    · rename_i es c ho
      simp only [iwp]
      exact ⟨es, c, mapAt_of (at_sound ho ha), (upd_sound ho hx ha hk).2⟩
    · cases hx
  · cases hx
    simp only [iwp]
    exact hk (.junk, h) (List.mem_singleton.2 rfl) _ (Upd.refl ha)
  · split at hx
    · rename_i n over ho
      split at hx
      · rename_i hc
        obtain ⟨rfl, rfl, rfl, hpos, hl1, hz⟩ := hc
        obtain ⟨h1, h2⟩ := updArr_sound ho hx ha hk
        have he := zeros_exp (i := 0) hz
        simp only [iwp]
        rw [h1]
        refine ⟨rfl, hl1, Nat.zero_lt_one, hpos, ?_, ?_, ?_⟩
        · rw [he]; rfl
        · rw [exp_length]; omega
        · rw [he, splice_all over]
          exact h2
      · cases hx
    · split at hx
      · rename_i l ho
        split at hx
        · rename_i hc
          obtain ⟨h1, h2⟩ := upd_sound ho hx ha hk
          simp only [iwp]
          rw [h1]
          exact ⟨rfl, hc.1, hc.2.1, hc.2.2.1, hc.2.2.2.1, hc.2.2.2.2, h2⟩
        · cases hx
      · cases hx
  · split at hx
    · rename_i es c ho
      obtain ⟨h1, h2⟩ := mk_sound hx (Upd.refl ha) hn hk hself
      simp only [iwp]
      refine ⟨es, c, mapAt_of (at_sound ho ha), ?_⟩
      rw [h1]; exact h2
    · cases hx
  · -- next
    split at hx
    · rename_i m mv since seen last ho
      split at hx
      · rename_i es c hm
        simp only [iwp]
        have h1 := at_sound ho ha
        obtain ⟨hk1, sk, hk2, _⟩ := objAt_some ho
        rw [h1]
        refine ⟨rfl, es, c, mapAt_of (at_sound hm ha), ?_⟩
        unfold nexts at hx
        split at hx
        · cases hx
        · rename_i hc
          cases hx
          refine ⟨by simpa using hc, fun he => ?_, fun e he => ?_⟩
          · refine hk (.tup [.bool false], h) ?_ _ (Upd.refl ha)
            rw [he]
            simp
          · refine hk (.tup [.bool true, e.key, e.val], _) (List.mem_append.2 (.inr (List.mem_map.2 ⟨e, he, rfl⟩))) _ ?_
            rw [hk1]
            exact (Upd.refl ha).put (.inl ⟨_, hk2⟩) ⟨_, some (.o (.iter m mv since (seen ++ [e.born]) c))⟩
      · cases hx
    · cases hx
  · split at hx
    · rename_i hc
      obtain ⟨h1, h2⟩ := mk_sound hx (Upd.refl ha) hn hk hself
      simp only [iwp]
      rw [h1]
      exact ⟨hc.1, hc.2.1, hc.2.2.1, hc.2.2.2.1, hc.2.2.2.2, h2⟩
    · cases hx
  · obtain ⟨h1, h2⟩ := mk_sound hx (Upd.refl ha) hn hk hself
    simp only [iwp]
    rw [h1]; exact h2
  · cases hx

theorem xlev_sound {l : LOp} {args : List AVal} {v : AVal} (hx : xlev h l args = some v) (ha : Knows h st) : lev st l args = some v := by
  unfold xlev at hx
  split at hx
  · rename_i k ver off
    split at hx
    · rename_i n over ho
      split at hx
      · rename_i hc
        cases hx
        have h1 := arr_sound ho ha
        have h2 := exp_get (i := 0) hc.2 hc.1
        simp only [lev, load, cellsAt, h1, if_true, Option.bind_some, partA]
        rw [h2, Nat.zero_add]
      · cases hx
    · exact ha.load hx
  · rename_i n e lo hi k ver off args
    split at hx
    · rename_i m over ho
      split at hx
      · rename_i hc
        have h1 := arr_sound ho ha
        simp only [lev, cellsAt, h1, if_true, Option.bind_some]
        rw [if_pos (by rw [exp_length]; exact hc)]
        exact hx
      · cases hx
    · exact ha.lev hx
  · exact ha.lev hx

end

end Go.Am
