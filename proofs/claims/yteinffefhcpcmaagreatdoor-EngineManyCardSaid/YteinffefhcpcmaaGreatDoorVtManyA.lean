/- EngineMany: what the engine's questions come to, over an engine without rows. -/
import Derived.Test.YteinffefhcpcmaaGreatDoorVtNs
set_option linter.unusedVariables false
set_option linter.unusedSimpArgs false
set_option linter.unusedSectionVars false
namespace Go.Am.Tab
open Go.Am Go.Proofs
set_option maxRecDepth 100000

/-- The question. -/
def askCells : List AVal := [.int .i64 0, .str [], .str [], .list .full 1 [], .list .full 5 [], .int .i64 0, .int .i64 1, .int .i64 1, .int .i64 1, .int .u64 0, .int .u64 0]
def askA : AVal := .agg askCells
def matcher0 : AVal := .agg [.int .i64 0, .str [], .str [], .list .full 1 [], .list .full 5 []]
def confA : AVal := .agg [.int .i64 1, .int .i64 1, .int .i64 1, .int .i64 1, .int .i64 1]

def oneIs (p : AVal → Bool) : Option (List (AVal × Hp × Nat)) → Bool
  | some [(v, _, _)] => p v
  | _ => false

theorem oneIs_some {p : AVal → Bool} {o : Option (List (AVal × Hp × Nat))} (h : oneIs p o = true) : ∃ v h b, o = some [(v, h, b)] ∧ p v = true := by
  unfold oneIs at h
  split at h
  · exact ⟨_, _, _, rfl, h⟩
  · cases h

theorem check_run : oneIs (veq (.int .i64 0)) (xcall tab prim 100000 100 24 [confA, .int .i64 0, askA] .leaf 0) = true := by kernel_rfl

def isFive : AVal → Bool
  | .agg l => Nat.beq l.length 5 && l.all isCell
  | _ => false

theorem own_run : oneIs isFive (xcall tab prim 100000 100 25 [matcher0] .leaf 0) = true := by kernel_rfl
theorem sort_run : oneIs (fun _ => true) (xcall tab prim 100000 100 107 [.list .full 8 [], .fn (.func 108) [] []] .leaf 0) = true := by kernel_rfl

/-- Outside a name space a store is as it was. -/
def Out (c : Int) (st st' : Store) : Prop := ∀ k : Key, k.1 ≠ c → st' k = st k

theorem check24 (c : Int) {st : Store} (hf : ∀ i, st (c, i) = slot0) : ACalls Tryz.prog 24 [confA, .int .i64 0, askA] st (endK (fun v st' => v = .int .i64 0 ∧ Out c st st') (fun _ _ => False)) := by
  obtain ⟨v, h, b, e, hv⟩ := oneIs_some check_run
  refine (run_ns e (fun ρ => rfl) c hf).mono fun e st' he => ?_
  cases e with
  | panic v => exact he
  | ret v =>
    obtain ⟨⟨o, ho, rfl⟩, h2⟩ := he
    rw [List.mem_singleton.1 ho]
    refine ⟨?_, h2⟩
    show AVal.ren _ _ = _
    rw [← veq_eq hv]
    rfl

theorem isCell_ren (ρ : Key → Key) (a : AVal) : isCell (a.ren ρ) = isCell a := by cases a <;> rfl

theorem all_isCell_ren (ρ : Key → Key) : ∀ l : List AVal, (renL ρ l).all isCell = l.all isCell
  | [] => rfl
  | a :: l => by simp [renL, isCell_ren, all_isCell_ren ρ l]

theorem own25 (c : Int) {st : Store} (hf : ∀ i, st (c, i) = slot0) : ACalls Tryz.prog 25 [matcher0] st (endK (fun v st' => (∃ l, v = .agg l ∧ l.length = 5 ∧ l.all isCell = true) ∧ Out c st st') (fun _ _ => False)) := by
  obtain ⟨v, h, b, e, hv⟩ := oneIs_some own_run
  refine (run_ns e (fun ρ => rfl) c hf).mono fun e st' he => ?_
  cases e with
  | panic v => exact he
  | ret v =>
    obtain ⟨⟨o, ho, rfl⟩, h2⟩ := he
    rw [List.mem_singleton.1 ho]
    refine ⟨?_, h2⟩
    unfold isFive at hv
    split at hv
    · rename_i l
      simp only [Bool.and_eq_true, Nat.beq_eq] at hv
      exact ⟨renL _ l, rfl, by rw [renL_length]; exact hv.1, by rw [all_isCell_ren]; exact hv.2⟩
    · cases hv

theorem sort107 (c : Int) {st : Store} (hf : ∀ i, st (c, i) = slot0) : ACalls Tryz.prog 107 [.list .full 8 [], .fn (.func 108) [] []] st (endK (fun v st' => Out c st st') (fun _ _ => False)) := by
  obtain ⟨v, h, b, e, hv⟩ := oneIs_some sort_run
  refine (run_ns e (fun ρ => rfl) c hf).mono fun e st' he => ?_
  cases e with
  | panic v => exact he
  | ret v => exact he.2

theorem place9 (v : Int) (st : Store) : ACalls Tryz.prog 9 [.int .i64 v, .int .i64 16] st (endK (fun r st' => (∃ n : Nat, n < 16 ∧ r = .int .i64 (n : Int)) ∧ st' = st) (fun _ _ => False)) := by
  refine ACalls_of Tryz.func9 c9 (nmOf 0) (by simp [a9]) (AC_of_awp mixed ?_)
  have h1 := Int.tmod_lt_of_pos v (show (0 : Int) < 16 by decide)
  have h2 := Int.lt_tmod_of_pos v (show (0 : Int) < 16 by decide)
  by_cases hneg : v.tmod 16 < 0
  · have hw : IntKind.i64.wrap (v.tmod 16 + 16) = v.tmod 16 + 16 := by
      simp [IntKind.wrap, IntKind.signed, IntKind.bits]
      omega
    simp [a9, awp, rwp, ropG, rop, thenQ, Fr.get, Fr.put, Fr.ev, argFr, pev, abin, aint, retQ, resA, res1, endK, hneg, hw]
    exact ⟨(v.tmod 16 + 16).toNat, by omega, by omega⟩
  · simp [a9, awp, rwp, ropG, rop, thenQ, Fr.get, Fr.put, Fr.ev, argFr, pev, abin, aint, retQ, resA, res1, endK, hneg]
    exact ⟨(v.tmod 16).toNat, by omega, by omega⟩

end Go.Am.Tab
/- EngineMany: maps of cursors; what is live. -/
namespace Go.Am.Tab
open Go.Am Go.Proofs
set_option maxRecDepth 100000

/-! ## The map of cursors -/

def num (i : Nat) : AVal := .int .i64 (i : Int)

def Cur (es : List AEntry) (ids : List Nat) : Prop := es.map (·.key) = ids.map num ∧ ids.Nodup ∧ ∀ e ∈ es, ∃ k v o, e.val = .ref k v o

theorem cellEq_num (i j : Nat) : cellEq (num i) (num j) = some (i == j) := by
  simp only [cellEq, num, if_true, Option.some.injEq]
  rw [Bool.eq_iff_iff]
  simp only [beq_iff_eq]
  omega

theorem findE_in : ∀ {es : List AEntry} {ids : List Nat} {i : Nat}, Cur es ids → i ∈ ids → ∃ e, findE es (num i) = some (some e) ∧ ∃ k v o, e.val = .ref k v o
  | [], ids, i, h, hi => by
    have := h.1
    cases ids with
    | nil => cases hi
    | cons => simp at this
  | e :: es, ids, i, h, hi => by
    obtain ⟨h1, h2, h3⟩ := h
    cases ids with
    | nil => cases hi
    | cons j ids =>
      simp only [List.map_cons, List.cons.injEq] at h1
      obtain ⟨h1, h1'⟩ := h1
      simp only [findE]
      rw [h1, cellEq_num]
      cases hij : (i == j) with
      | true => exact ⟨e, rfl, h3 e (List.mem_cons_self ..)⟩
      | false =>
        have hne : i ≠ j := by simpa using hij
        rcases List.mem_cons.1 hi with rfl | hi
        · exact absurd rfl hne
        · exact findE_in (es := es) (ids := ids) ⟨h1', (List.nodup_cons.1 h2).2, fun e he => h3 e (List.mem_cons_of_mem _ he)⟩ hi

theorem findE_out : ∀ {es : List AEntry} {ids : List Nat} {i : Nat}, es.map (·.key) = ids.map num → i ∉ ids → findE es (num i) = some none
  | [], _, _, _, _ => rfl
  | e :: es, ids, i, h1, hi => by
    cases ids with
    | nil => simp at h1
    | cons j ids =>
      simp only [List.map_cons, List.cons.injEq] at h1
      obtain ⟨h1, h1'⟩ := h1
      simp only [findE]
      rw [h1, cellEq_num]
      have hne : i ≠ j := fun e => hi (by rw [e]; exact List.mem_cons_self ..)
      have : (i == j) = false := by simpa using hne
      rw [this]
      exact findE_out h1' fun h => hi (List.mem_cons_of_mem _ h)

theorem setE_out : ∀ {es : List AEntry} {ids : List Nat} {i : Nat} {x : AVal}, es.map (·.key) = ids.map num → i ∉ ids → setE es (num i) x = some none
  | [], _, _, _, _, _ => rfl
  | e :: es, ids, i, x, h1, hi => by
    cases ids with
    | nil => simp at h1
    | cons j ids =>
      simp only [List.map_cons, List.cons.injEq] at h1
      obtain ⟨h1, h1'⟩ := h1
      simp only [setE]
      rw [h1, cellEq_num]
      have hne : i ≠ j := fun e => hi (by rw [e]; exact List.mem_cons_self ..)
      have : (i == j) = false := by simpa using hne
      rw [this]
      simp only
      rw [setE_out h1' fun h => hi (List.mem_cons_of_mem _ h)]
      rfl

theorem delE_cur : ∀ {es : List AEntry} {ids : List Nat} {i : Nat}, Cur es ids → i ∈ ids → ∃ es', delE es (num i) = some es' ∧ Cur es' (ids.erase i)
  | [], ids, i, h, hi => by
    have := h.1
    cases ids with
    | nil => cases hi
    | cons => simp at this
  | e :: es, ids, i, h, hi => by
    obtain ⟨h1, h2, h3⟩ := h
    cases ids with
    | nil => cases hi
    | cons j ids =>
      simp only [List.map_cons, List.cons.injEq] at h1
      obtain ⟨h1, h1'⟩ := h1
      obtain ⟨hn1, hn2⟩ := List.nodup_cons.1 h2
      simp only [delE]
      rw [h1, cellEq_num]
      cases hij : (i == j) with
      | true =>
        have : i = j := by simpa using hij
        subst this
        refine ⟨es, rfl, ?_⟩
        rw [List.erase_cons_head]
        exact ⟨h1', hn2, fun e he => h3 e (List.mem_cons_of_mem _ he)⟩
      | false =>
        have hne : i ≠ j := by simpa using hij
        rcases List.mem_cons.1 hi with rfl | hi
        · exact absurd rfl hne
        · obtain ⟨es', q1, q2⟩ := delE_cur (es := es) (ids := ids) ⟨h1', hn2, fun e he => h3 e (List.mem_cons_of_mem _ he)⟩ hi
          refine ⟨e :: es', by simp only [q1]; rfl, ?_⟩
          have hji : (j == i) = false := by simpa using fun e => hne e.symm
          rw [List.erase_cons_tail (by simpa using fun e => hne e.symm)]
          refine ⟨by simp [h1, q2.1], List.nodup_cons.2 ⟨fun h => hn1 (List.mem_of_mem_erase h), q2.2.1⟩, fun x hx => ?_⟩
          rcases List.mem_cons.1 hx with rfl | hx
          · exact h3 _ (List.mem_cons_self ..)
          · exact q2.2.2 x hx

theorem Cur.add {es : List AEntry} {ids : List Nat} {i : Nat} (h : Cur es ids) (hi : i ∉ ids) (c : Nat) (k : Key) (v o : Nat) : Cur (es ++ [⟨c, num i, .ref k v o⟩]) (ids ++ [i]) := by
  refine ⟨by simp [h.1], ?_, fun e he => ?_⟩
  · rw [List.nodup_append]
    refine ⟨h.2.1, by simp, fun a ha b hb => ?_⟩
    simp at hb
    subst hb
    rintro rfl
    exact hi ha
  · rcases List.mem_append.1 he with he | he
    · exact h.2.2 e he
    · simp at he
      subst he
      exact ⟨k, v, o, rfl⟩

theorem Cur.length {es : List AEntry} {ids : List Nat} (h : Cur es ids) : es.length = ids.length := by
  have := congrArg List.length h.1
  simpa using this

/-! ## Name spaces that were used -/

/-- Nothing is changed but in the name spaces from c to below d. -/
def Outs (c d : Int) (st st' : Store) : Prop := ∀ k : Key, (k.1 < c ∨ d ≤ k.1) → st' k = st k

theorem Outs.refl (c : Int) (st : Store) : Outs c c st st := fun _ _ => rfl

theorem Outs.trans {c d e : Int} {st st1 st2 : Store} (h : Outs c d st st1) (h' : Outs d e st1 st2) (hcd : c ≤ d) (hde : d ≤ e) : Outs c e st st2 := fun k hk => by
  rw [h' k (by omega), h k (by omega)]

theorem Out.outs {c : Int} {st st' : Store} (h : Out c st st') : Outs c (c + 1) st st' := fun k hk => h k (by omega)

theorem Outs.set {c : Int} {st : Store} (i : Nat) (s : Slot) : Outs c (c + 1) st (st.set (c, i) s) := fun k hk => by
  simp only [Store.set]
  rw [if_neg]
  rintro rfl
  simp only at hk
  omega

theorem Outs.wide {c d e : Int} {st st' : Store} (h : Outs c d st st') (hde : d ≤ e) : Outs c e st st' := fun k hk => h k (by omega)

/-- From c on all name spaces are free. -/
def Ns (c : Int) (st : Store) : Prop := ∀ c', c ≤ c' → ∀ i, st (c', i) = slot0

theorem Ns.outs {c d : Int} {st st' : Store} (h : Ns c st) (ho : Outs c d st st') (hcd : c ≤ d) : Ns d st' := fun c' hc i => by
  rw [ho (c', i) (.inr hc)]
  exact h c' (by omega) i

def nmC (c : Int) : Nm := ⟨fun d => (c, d), fun _ => false⟩

/-! ## What is live, where there is nothing -/

def noRows : AVal := .list .full 8 []

theorem shared49 {c : Int} {st : Store} (hn : Ns c st) {km kr : Key} {vm vr : Nat} (hm : st km = ⟨vm, some (.cells [.mapr kr vr])⟩) {clk : Nat} (hr : st kr = ⟨vr, some (.map [] clk)⟩) (hk : km.1 < c ∧ kr.1 < c) :
    ACalls Tryz.prog 49 [.ref km vm 0] st (endK (fun v st' => v = noRows ∧ Outs c (c + 2) st st') (fun _ _ => False)) := by
  refine ACalls_of Tryz.func49 c49 (nmC c) (by simp [a49]) ?_
  have L1 : lev st (.load none) [.ref km vm 0] = some (.mapr kr vr) := by simp [lev, load, cellsAt, hm, partA]
  unfold a49
  repeat first
    | refine ac_seq ?_ | refine ac_region ?_ | refine ac_block ?_ | refine ac_draw mixed ?_
    | refine ac_cond1 rfl ?_ | refine ac_cond0 rfl ?_ | refine ac_skip ?_ | refine ac_exit ?_ | refine ac_ret ?_
    | refine rwp_l L1 rfl ?_ | refine swp_l L1 rfl ?_
    | refine rwp_g1 rfl ?_ | refine rwp_g0 rfl rfl ?_ | refine rwp_gt rfl ?_ | refine swp_qg1 rfl ?_ | refine swp_qg0 rfl rfl ?_ | refine swp_qgt rfl ?_
    | refine rwp_pr (v := .int _ _) rfl ?_ | refine swp_pr (v := .int _ _) rfl ?_
    | refine rwp_pr (v := .bool _) rfl ?_ | refine swp_pr (v := .bool _) rfl ?_
    | refine rwp_pr (v := .ref _ _ _) rfl ?_ | refine swp_pr (v := .ref _ _ _) rfl ?_
    | refine rwp_pr (v := .list _ _ _) rfl ?_ | refine swp_pr (v := .list _ _ _) rfl ?_
    | refine rwp_pr (v := .iptr _) rfl ?_ | refine swp_pr (v := .iptr _) rfl ?_
    | refine rwp_pr (v := .tup _) rfl ?_ | refine swp_pr (v := .tup _) rfl ?_
    | refine rwp_pr (v := .agg _) rfl ?_ | refine swp_pr (v := .agg _) rfl ?_
    | refine rwp_pr (v := .str _) rfl ?_ | refine swp_pr (v := .str _) rfl ?_
    | refine rwp_lr (v := .int _ _) rfl ?_ | refine swp_lr (v := .int _ _) rfl ?_
    | refine rwp_lr (v := .bool _) rfl ?_ | refine swp_lr (v := .bool _) rfl ?_
    | refine rwp_lr (v := .ref _ _ _) rfl ?_ | refine swp_lr (v := .ref _ _ _) rfl ?_
    | refine rwp_lr (v := .list _ _ _) rfl ?_ | refine swp_lr (v := .list _ _ _) rfl ?_
    | refine rwp_lr (v := .iptr _) rfl ?_ | refine swp_lr (v := .iptr _) rfl ?_
    | refine rwp_lr (v := .tup _) rfl ?_ | refine swp_lr (v := .tup _) rfl ?_
    | refine rwp_lr (v := .agg _) rfl ?_ | refine swp_lr (v := .agg _) rfl ?_
    | refine rwp_lr (v := .str _) rfl ?_ | refine swp_lr (v := .str _) rfl ?_
    | refine rwp_nil ?_ | refine swp_done ?_ | refine swp_e ?_
    | refine thenQ_n ?_ | refine thenQ_e ?_ | refine thenQ_r ?_ | refine blockQ_n ?_ | refine blockQ_hit ?_ | refine blockQ_miss rfl ?_ | refine blockQ_r ?_
  refine rwp_i (vs := [.mapr kr vr]) rfl ?_
  simp only [iwp]
  refine ⟨[], clk, mapAt_of hr, ?_⟩
  have hk0 : st (c, 13) = slot0 := hn c (Int.le_refl _) 13
  show rwp _ _ _ (Fr.put _ _ (.ref (c, 13) ((st (c, 13)).ver + 1) 0)) (st.set (c, 13) ⟨(st (c, 13)).ver + 1, some (.iter kr vr clk [] clk)⟩) _ _
  rw [hk0]
  generalize hst1 : st.set (c, 13) ⟨slot0.ver + 1, some (.iter kr vr clk [] clk)⟩ = st1
  have hO : Outs c (c + 1) st st1 := by rw [← hst1]; exact Outs.set _ _
  have hit : st1 (c, 13) = ⟨1, some (.iter kr vr clk [] clk)⟩ := by rw [← hst1]; simp [Store.set, slot0]
  have hr1 : st1 kr = ⟨vr, some (.map [] clk)⟩ := by rw [hO kr (.inl hk.2)]; exact hr
  repeat first
    | refine ac_seq ?_ | refine ac_region ?_ | refine ac_block ?_ | refine ac_draw mixed ?_
    | refine ac_cond1 rfl ?_ | refine ac_cond0 rfl ?_ | refine ac_skip ?_ | refine ac_exit ?_ | refine ac_ret ?_
    | refine rwp_g1 rfl ?_ | refine rwp_g0 rfl rfl ?_ | refine rwp_gt rfl ?_ | refine swp_qg1 rfl ?_ | refine swp_qg0 rfl rfl ?_ | refine swp_qgt rfl ?_
    | refine rwp_pr (v := .int _ _) rfl ?_ | refine swp_pr (v := .int _ _) rfl ?_
    | refine rwp_pr (v := .bool _) rfl ?_ | refine swp_pr (v := .bool _) rfl ?_
    | refine rwp_pr (v := .ref _ _ _) rfl ?_ | refine swp_pr (v := .ref _ _ _) rfl ?_
    | refine rwp_pr (v := .list _ _ _) rfl ?_ | refine swp_pr (v := .list _ _ _) rfl ?_
    | refine rwp_pr (v := .iptr _) rfl ?_ | refine swp_pr (v := .iptr _) rfl ?_
    | refine rwp_pr (v := .tup _) rfl ?_ | refine swp_pr (v := .tup _) rfl ?_
    | refine rwp_pr (v := .agg _) rfl ?_ | refine swp_pr (v := .agg _) rfl ?_
    | refine rwp_pr (v := .str _) rfl ?_ | refine swp_pr (v := .str _) rfl ?_
    | refine rwp_lr (v := .int _ _) rfl ?_ | refine swp_lr (v := .int _ _) rfl ?_
    | refine rwp_lr (v := .bool _) rfl ?_ | refine swp_lr (v := .bool _) rfl ?_
    | refine rwp_lr (v := .ref _ _ _) rfl ?_ | refine swp_lr (v := .ref _ _ _) rfl ?_
    | refine rwp_lr (v := .list _ _ _) rfl ?_ | refine swp_lr (v := .list _ _ _) rfl ?_
    | refine rwp_lr (v := .iptr _) rfl ?_ | refine swp_lr (v := .iptr _) rfl ?_
    | refine rwp_lr (v := .tup _) rfl ?_ | refine swp_lr (v := .tup _) rfl ?_
    | refine rwp_lr (v := .agg _) rfl ?_ | refine swp_lr (v := .agg _) rfl ?_
    | refine rwp_lr (v := .str _) rfl ?_ | refine swp_lr (v := .str _) rfl ?_
    | refine rwp_nil ?_ | refine swp_done ?_ | refine swp_e ?_
    | refine thenQ_n ?_ | refine thenQ_e ?_ | refine thenQ_r ?_ | refine blockQ_n ?_ | refine blockQ_hit ?_ | refine blockQ_miss rfl ?_ | refine blockQ_r ?_
  refine AC.loop (X := Unit) (fun _ fr st' => fr.get 3 = noRows ∧ fr.get 13 = .ref (c, 13) 1 0 ∧ st' = st1) (fun _ => 0) ?_ (x := ()) ⟨rfl, rfl, rfl⟩
  rintro _ fr st' ⟨e3, e13, rfl⟩
  refine AC.forget (fr' := [(3, noRows), (13, .ref (c, 13) 1 0)]) ?_ (forget_of (by simp [e3, e13]))
  have M : pev .mv [noRows] = some noRows := rfl
  repeat first
    | refine ac_seq ?_ | refine ac_region ?_ | refine ac_block ?_ | refine ac_draw mixed ?_
    | refine ac_cond1 rfl ?_ | refine ac_cond0 rfl ?_ | refine ac_skip ?_ | refine ac_exit ?_ | refine ac_ret ?_
    | refine rwp_g1 rfl ?_ | refine rwp_g0 rfl rfl ?_ | refine rwp_gt rfl ?_ | refine swp_qg1 rfl ?_ | refine swp_qg0 rfl rfl ?_ | refine swp_qgt rfl ?_
    | refine rwp_pr (v := .int _ _) rfl ?_ | refine swp_pr (v := .int _ _) rfl ?_
    | refine rwp_pr (v := .bool _) rfl ?_ | refine swp_pr (v := .bool _) rfl ?_
    | refine rwp_pr (v := .ref _ _ _) rfl ?_ | refine swp_pr (v := .ref _ _ _) rfl ?_
    | refine rwp_pr (v := .list _ _ _) rfl ?_ | refine swp_pr (v := .list _ _ _) rfl ?_
    | refine rwp_pr (v := .iptr _) rfl ?_ | refine swp_pr (v := .iptr _) rfl ?_
    | refine rwp_pr (v := .tup _) rfl ?_ | refine swp_pr (v := .tup _) rfl ?_
    | refine rwp_pr (v := .agg _) rfl ?_ | refine swp_pr (v := .agg _) rfl ?_
    | refine rwp_pr (v := .str _) rfl ?_ | refine swp_pr (v := .str _) rfl ?_
    | refine rwp_lr (v := .int _ _) rfl ?_ | refine swp_lr (v := .int _ _) rfl ?_
    | refine rwp_lr (v := .bool _) rfl ?_ | refine swp_lr (v := .bool _) rfl ?_
    | refine rwp_lr (v := .ref _ _ _) rfl ?_ | refine swp_lr (v := .ref _ _ _) rfl ?_
    | refine rwp_lr (v := .list _ _ _) rfl ?_ | refine swp_lr (v := .list _ _ _) rfl ?_
    | refine rwp_lr (v := .iptr _) rfl ?_ | refine swp_lr (v := .iptr _) rfl ?_
    | refine rwp_lr (v := .tup _) rfl ?_ | refine swp_lr (v := .tup _) rfl ?_
    | refine rwp_lr (v := .agg _) rfl ?_ | refine swp_lr (v := .agg _) rfl ?_
    | refine rwp_lr (v := .str _) rfl ?_ | refine swp_lr (v := .str _) rfl ?_
    | refine rwp_nil ?_ | refine swp_done ?_ | refine swp_e ?_
    | refine thenQ_n ?_ | refine thenQ_e ?_ | refine thenQ_r ?_ | refine blockQ_n ?_ | refine blockQ_hit ?_ | refine blockQ_miss rfl ?_ | refine blockQ_r ?_
  refine rwp_i (vs := [.ref (c, 13) 1 0]) rfl ?_
  simp only [iwp]
  rw [hit]
  refine ⟨rfl, [], clk, mapAt_of hr1, rfl, fun _ => ?_, fun e he => by simp at he⟩
  repeat first
    | refine ac_seq ?_ | refine ac_region ?_ | refine ac_block ?_ | refine ac_draw mixed ?_
    | refine ac_cond1 rfl ?_ | refine ac_cond0 rfl ?_ | refine ac_skip ?_ | refine ac_exit ?_ | refine ac_ret ?_
    | refine rwp_p M rfl ?_ | refine swp_p M rfl ?_
    | refine rwp_g1 rfl ?_ | refine rwp_g0 rfl rfl ?_ | refine rwp_gt rfl ?_ | refine swp_qg1 rfl ?_ | refine swp_qg0 rfl rfl ?_ | refine swp_qgt rfl ?_
    | refine rwp_pr (v := .int _ _) rfl ?_ | refine swp_pr (v := .int _ _) rfl ?_
    | refine rwp_pr (v := .bool _) rfl ?_ | refine swp_pr (v := .bool _) rfl ?_
    | refine rwp_pr (v := .ref _ _ _) rfl ?_ | refine swp_pr (v := .ref _ _ _) rfl ?_
    | refine rwp_pr (v := .list _ _ _) rfl ?_ | refine swp_pr (v := .list _ _ _) rfl ?_
    | refine rwp_pr (v := .iptr _) rfl ?_ | refine swp_pr (v := .iptr _) rfl ?_
    | refine rwp_pr (v := .tup _) rfl ?_ | refine swp_pr (v := .tup _) rfl ?_
    | refine rwp_pr (v := .agg _) rfl ?_ | refine swp_pr (v := .agg _) rfl ?_
    | refine rwp_pr (v := .str _) rfl ?_ | refine swp_pr (v := .str _) rfl ?_
    | refine rwp_lr (v := .int _ _) rfl ?_ | refine swp_lr (v := .int _ _) rfl ?_
    | refine rwp_lr (v := .bool _) rfl ?_ | refine swp_lr (v := .bool _) rfl ?_
    | refine rwp_lr (v := .ref _ _ _) rfl ?_ | refine swp_lr (v := .ref _ _ _) rfl ?_
    | refine rwp_lr (v := .list _ _ _) rfl ?_ | refine swp_lr (v := .list _ _ _) rfl ?_
    | refine rwp_lr (v := .iptr _) rfl ?_ | refine swp_lr (v := .iptr _) rfl ?_
    | refine rwp_lr (v := .tup _) rfl ?_ | refine swp_lr (v := .tup _) rfl ?_
    | refine rwp_lr (v := .agg _) rfl ?_ | refine swp_lr (v := .agg _) rfl ?_
    | refine rwp_lr (v := .str _) rfl ?_ | refine swp_lr (v := .str _) rfl ?_
    | refine rwp_nil ?_ | refine swp_done ?_ | refine swp_e ?_
    | refine thenQ_n ?_ | refine thenQ_e ?_ | refine thenQ_r ?_ | refine blockQ_n ?_ | refine blockQ_hit ?_ | refine blockQ_miss rfl ?_ | refine blockQ_r ?_
  refine rwp_call (sort107 (c + 1) (fun i => hn.outs hO (by omega) (c + 1) (Int.le_refl _) i)) rfl (fun _ _ h => h) ?_
  intro v st2 he
  have hO2 : Outs (c + 1) (c + 2) st' st2 := by
    have := Out.outs he
    rwa [show c + 1 + 1 = c + 2 by omega] at this
  repeat first
    | refine ac_seq ?_ | refine ac_region ?_ | refine ac_block ?_ | refine ac_draw mixed ?_
    | refine ac_cond1 rfl ?_ | refine ac_cond0 rfl ?_ | refine ac_skip ?_ | refine ac_exit ?_ | refine ac_ret ?_
    | refine rwp_p M rfl ?_ | refine swp_p M rfl ?_
    | refine rwp_g1 rfl ?_ | refine rwp_g0 rfl rfl ?_ | refine rwp_gt rfl ?_ | refine swp_qg1 rfl ?_ | refine swp_qg0 rfl rfl ?_ | refine swp_qgt rfl ?_
    | refine rwp_pr (v := .int _ _) rfl ?_ | refine swp_pr (v := .int _ _) rfl ?_
    | refine rwp_pr (v := .bool _) rfl ?_ | refine swp_pr (v := .bool _) rfl ?_
    | refine rwp_pr (v := .ref _ _ _) rfl ?_ | refine swp_pr (v := .ref _ _ _) rfl ?_
    | refine rwp_pr (v := .list _ _ _) rfl ?_ | refine swp_pr (v := .list _ _ _) rfl ?_
    | refine rwp_pr (v := .iptr _) rfl ?_ | refine swp_pr (v := .iptr _) rfl ?_
    | refine rwp_pr (v := .tup _) rfl ?_ | refine swp_pr (v := .tup _) rfl ?_
    | refine rwp_pr (v := .agg _) rfl ?_ | refine swp_pr (v := .agg _) rfl ?_
    | refine rwp_pr (v := .str _) rfl ?_ | refine swp_pr (v := .str _) rfl ?_
    | refine rwp_lr (v := .int _ _) rfl ?_ | refine swp_lr (v := .int _ _) rfl ?_
    | refine rwp_lr (v := .bool _) rfl ?_ | refine swp_lr (v := .bool _) rfl ?_
    | refine rwp_lr (v := .ref _ _ _) rfl ?_ | refine swp_lr (v := .ref _ _ _) rfl ?_
    | refine rwp_lr (v := .list _ _ _) rfl ?_ | refine swp_lr (v := .list _ _ _) rfl ?_
    | refine rwp_lr (v := .iptr _) rfl ?_ | refine swp_lr (v := .iptr _) rfl ?_
    | refine rwp_lr (v := .tup _) rfl ?_ | refine swp_lr (v := .tup _) rfl ?_
    | refine rwp_lr (v := .agg _) rfl ?_ | refine swp_lr (v := .agg _) rfl ?_
    | refine rwp_lr (v := .str _) rfl ?_ | refine swp_lr (v := .str _) rfl ?_
    | refine rwp_nil ?_ | refine swp_done ?_ | refine swp_e ?_
    | refine thenQ_n ?_ | refine thenQ_e ?_ | refine thenQ_r ?_ | refine blockQ_n ?_ | refine blockQ_hit ?_ | refine blockQ_miss rfl ?_ | refine blockQ_r ?_
  exact ⟨noRows, rfl, rfl, hO.trans hO2 (by omega) (by omega)⟩

end Go.Am.Tab
/- EngineMany: the engine's questions: asked, told, ended. -/
namespace Go.Am.Tab
open Go.Am Go.Proofs
set_option maxRecDepth 100000

theorem live27 {c : Int} {st : Store} (hn : Ns c st) {ks km kr : Key} {vs vm vr : Nat} {l : List AVal} (hs : st ks = ⟨vs, some (.cells l)⟩) (h7 : l[7]? = some noRows) (h9 : l[9]? = some (.ref km vm 0))
    (hm : st km = ⟨vm, some (.cells [.mapr kr vr])⟩) {clk : Nat} (hr : st kr = ⟨vr, some (.map [] clk)⟩) (hk : ks.1 < c ∧ km.1 < c ∧ kr.1 < c) :
    ACalls Tryz.prog 27 [.ref ks vs 0] st (endK (fun v st' => v = noRows ∧ Outs c (c + 2) st st') (fun _ _ => False)) := by
  refine ACalls_of Tryz.func27 c27 (nmC c) (by simp [a27]) ?_
  have L1 : lev st (.load none) [.ref ks vs 9] = some (.ref km vm 0) := by simp [lev, load, cellsAt, hs, partA, h9]
  have M : pev .mv [noRows] = some noRows := rfl
  unfold a27
  repeat first
    | refine ac_seq ?_ | refine ac_region ?_ | refine ac_block ?_ | refine ac_draw mixed ?_
    | refine ac_cond1 rfl ?_ | refine ac_cond0 rfl ?_ | refine ac_skip ?_ | refine ac_exit ?_ | refine ac_ret ?_ | refine ac_label ?_
    | refine rwp_p M rfl ?_ | refine swp_p M rfl ?_
    | refine rwp_l L1 rfl ?_ | refine swp_l L1 rfl ?_
    | refine rwp_g1 rfl ?_ | refine rwp_g0 rfl rfl ?_ | refine rwp_gt rfl ?_ | refine swp_qg1 rfl ?_ | refine swp_qg0 rfl rfl ?_ | refine swp_qgt rfl ?_
    | refine rwp_pr (v := .int _ _) rfl ?_ | refine swp_pr (v := .int _ _) rfl ?_
    | refine rwp_pr (v := .bool _) rfl ?_ | refine swp_pr (v := .bool _) rfl ?_
    | refine rwp_pr (v := .ref _ _ _) rfl ?_ | refine swp_pr (v := .ref _ _ _) rfl ?_
    | refine rwp_pr (v := .list _ _ _) rfl ?_ | refine swp_pr (v := .list _ _ _) rfl ?_
    | refine rwp_pr (v := .iptr _) rfl ?_ | refine swp_pr (v := .iptr _) rfl ?_
    | refine rwp_pr (v := .tup _) rfl ?_ | refine swp_pr (v := .tup _) rfl ?_
    | refine rwp_pr (v := .agg _) rfl ?_ | refine swp_pr (v := .agg _) rfl ?_
    | refine rwp_pr (v := .str _) rfl ?_ | refine swp_pr (v := .str _) rfl ?_
    | refine rwp_lr (v := .int _ _) rfl ?_ | refine swp_lr (v := .int _ _) rfl ?_
    | refine rwp_lr (v := .bool _) rfl ?_ | refine swp_lr (v := .bool _) rfl ?_
    | refine rwp_lr (v := .ref _ _ _) rfl ?_ | refine swp_lr (v := .ref _ _ _) rfl ?_
    | refine rwp_lr (v := .list _ _ _) rfl ?_ | refine swp_lr (v := .list _ _ _) rfl ?_
    | refine rwp_lr (v := .iptr _) rfl ?_ | refine swp_lr (v := .iptr _) rfl ?_
    | refine rwp_lr (v := .tup _) rfl ?_ | refine swp_lr (v := .tup _) rfl ?_
    | refine rwp_lr (v := .agg _) rfl ?_ | refine swp_lr (v := .agg _) rfl ?_
    | refine rwp_lr (v := .str _) rfl ?_ | refine swp_lr (v := .str _) rfl ?_
    | refine rwp_nil ?_ | refine swp_done ?_ | refine swp_e ?_
    | refine thenQ_n ?_ | refine thenQ_e ?_ | refine thenQ_r ?_ | refine blockQ_n ?_ | refine blockQ_hit ?_ | refine blockQ_miss rfl ?_ | refine blockQ_r ?_
  refine rwp_call (shared49 hn hm hr ⟨hk.2.1, hk.2.2⟩) rfl (fun _ _ h => h) ?_
  rintro v st1 ⟨rfl, hO⟩
  have hs1 : st1 ks = ⟨vs, some (.cells l)⟩ := by rw [hO ks (.inl hk.1)]; exact hs
  have L2 : lev st1 (.load none) [.ref ks vs 7] = some noRows := by simp [lev, load, cellsAt, hs1, partA, h7]
  have C0 : pev .lenL [noRows] = some (.int .i64 (.ofNat 0)) := rfl
  repeat first
    | refine ac_seq ?_ | refine ac_region ?_ | refine ac_block ?_ | refine ac_draw mixed ?_
    | refine ac_cond1 rfl ?_ | refine ac_cond0 rfl ?_ | refine ac_skip ?_ | refine ac_exit ?_ | refine ac_ret ?_ | refine ac_label ?_
    | refine rwp_p M rfl ?_ | refine swp_p M rfl ?_
    | refine rwp_p C0 rfl ?_ | refine swp_p C0 rfl ?_
    | refine rwp_l L2 rfl ?_ | refine swp_l L2 rfl ?_
    | refine rwp_g1 rfl ?_ | refine rwp_g0 rfl rfl ?_ | refine rwp_gt rfl ?_ | refine swp_qg1 rfl ?_ | refine swp_qg0 rfl rfl ?_ | refine swp_qgt rfl ?_
    | refine rwp_pr (v := .int _ _) rfl ?_ | refine swp_pr (v := .int _ _) rfl ?_
    | refine rwp_pr (v := .bool _) rfl ?_ | refine swp_pr (v := .bool _) rfl ?_
    | refine rwp_pr (v := .ref _ _ _) rfl ?_ | refine swp_pr (v := .ref _ _ _) rfl ?_
    | refine rwp_pr (v := .list _ _ _) rfl ?_ | refine swp_pr (v := .list _ _ _) rfl ?_
    | refine rwp_pr (v := .iptr _) rfl ?_ | refine swp_pr (v := .iptr _) rfl ?_
    | refine rwp_pr (v := .tup _) rfl ?_ | refine swp_pr (v := .tup _) rfl ?_
    | refine rwp_pr (v := .agg _) rfl ?_ | refine swp_pr (v := .agg _) rfl ?_
    | refine rwp_pr (v := .str _) rfl ?_ | refine swp_pr (v := .str _) rfl ?_
    | refine rwp_lr (v := .int _ _) rfl ?_ | refine swp_lr (v := .int _ _) rfl ?_
    | refine rwp_lr (v := .bool _) rfl ?_ | refine swp_lr (v := .bool _) rfl ?_
    | refine rwp_lr (v := .ref _ _ _) rfl ?_ | refine swp_lr (v := .ref _ _ _) rfl ?_
    | refine rwp_lr (v := .list _ _ _) rfl ?_ | refine swp_lr (v := .list _ _ _) rfl ?_
    | refine rwp_lr (v := .iptr _) rfl ?_ | refine swp_lr (v := .iptr _) rfl ?_
    | refine rwp_lr (v := .tup _) rfl ?_ | refine swp_lr (v := .tup _) rfl ?_
    | refine rwp_lr (v := .agg _) rfl ?_ | refine swp_lr (v := .agg _) rfl ?_
    | refine rwp_lr (v := .str _) rfl ?_ | refine swp_lr (v := .str _) rfl ?_
    | refine rwp_nil ?_ | refine swp_done ?_ | refine swp_e ?_
    | refine thenQ_n ?_ | refine thenQ_e ?_ | refine thenQ_r ?_ | refine blockQ_n ?_ | refine blockQ_hit ?_ | refine blockQ_miss rfl ?_ | refine blockQ_r ?_
  refine AC.loop (X := Unit) (fun _ fr st' => fr.get 3 = noRows ∧ fr.get 15 = .int .i64 (.ofNat 0) ∧ fr.get 16 = .int .i64 (.ofNat 0) ∧ st' = st1) (fun _ => 0) ?_ (x := ()) ⟨rfl, rfl, rfl, rfl⟩
  rintro _ fr st' ⟨e3, e15, e16, rfl⟩
  refine AC.forget (fr' := [(3, noRows), (15, .int .i64 (.ofNat 0)), (16, .int .i64 (.ofNat 0))]) ?_ (forget_of (by simp [e3, e15, e16]))
  repeat first
    | refine ac_seq ?_ | refine ac_region ?_ | refine ac_block ?_ | refine ac_draw mixed ?_
    | refine ac_cond1 rfl ?_ | refine ac_cond0 rfl ?_ | refine ac_skip ?_ | refine ac_exit ?_ | refine ac_ret ?_ | refine ac_label ?_
    | refine rwp_p M rfl ?_ | refine swp_p M rfl ?_
    | refine rwp_g1 rfl ?_ | refine rwp_g0 rfl rfl ?_ | refine rwp_gt rfl ?_ | refine swp_qg1 rfl ?_ | refine swp_qg0 rfl rfl ?_ | refine swp_qgt rfl ?_
    | refine rwp_pr (v := .int _ _) rfl ?_ | refine swp_pr (v := .int _ _) rfl ?_
    | refine rwp_pr (v := .bool _) rfl ?_ | refine swp_pr (v := .bool _) rfl ?_
    | refine rwp_pr (v := .ref _ _ _) rfl ?_ | refine swp_pr (v := .ref _ _ _) rfl ?_
    | refine rwp_pr (v := .list _ _ _) rfl ?_ | refine swp_pr (v := .list _ _ _) rfl ?_
    | refine rwp_pr (v := .iptr _) rfl ?_ | refine swp_pr (v := .iptr _) rfl ?_
    | refine rwp_pr (v := .tup _) rfl ?_ | refine swp_pr (v := .tup _) rfl ?_
    | refine rwp_pr (v := .agg _) rfl ?_ | refine swp_pr (v := .agg _) rfl ?_
    | refine rwp_pr (v := .str _) rfl ?_ | refine swp_pr (v := .str _) rfl ?_
    | refine rwp_lr (v := .int _ _) rfl ?_ | refine swp_lr (v := .int _ _) rfl ?_
    | refine rwp_lr (v := .bool _) rfl ?_ | refine swp_lr (v := .bool _) rfl ?_
    | refine rwp_lr (v := .ref _ _ _) rfl ?_ | refine swp_lr (v := .ref _ _ _) rfl ?_
    | refine rwp_lr (v := .list _ _ _) rfl ?_ | refine swp_lr (v := .list _ _ _) rfl ?_
    | refine rwp_lr (v := .iptr _) rfl ?_ | refine swp_lr (v := .iptr _) rfl ?_
    | refine rwp_lr (v := .tup _) rfl ?_ | refine swp_lr (v := .tup _) rfl ?_
    | refine rwp_lr (v := .agg _) rfl ?_ | refine swp_lr (v := .agg _) rfl ?_
    | refine rwp_lr (v := .str _) rfl ?_ | refine swp_lr (v := .str _) rfl ?_
    | refine rwp_nil ?_ | refine swp_done ?_ | refine swp_e ?_
    | refine thenQ_n ?_ | refine thenQ_e ?_ | refine thenQ_r ?_ | refine blockQ_n ?_ | refine blockQ_hit ?_ | refine blockQ_miss rfl ?_ | refine blockQ_r ?_
  exact ⟨noRows, rfl, rfl, hO⟩

theorem meant26 {c : Int} {st : Store} (hn : Ns c st) {m : List AVal} (hm : m.length = 5) :
    ACalls Tryz.prog 26 [.agg m, noRows] st (endK (fun v st' => v = noRows ∧ Outs c (c + 1) st st') (fun _ _ => False)) := by
  refine ACalls_of Tryz.func26 c26 (nmC c) (by simp [a26]) ?_
  have M : pev .mv [noRows] = some noRows := rfl
  have C0 : pev .lenL [noRows] = some (.int .i64 (.ofNat 0)) := rfl
  unfold a26
  refine ac_seq ?_
  refine ac_region ?_
  refine rwp_i (vs := [.agg m]) rfl ?_
  simp only [iwp]
  refine ⟨rfl, hm, ?_⟩
  generalize hst1 : st.set ((nmC c).key ((some 2).getD 0)) _ = st1
  have hO : Outs c (c + 1) st st1 := by rw [← hst1]; exact Outs.set _ _
  repeat first
    | refine ac_seq ?_ | refine ac_region ?_ | refine ac_block ?_ | refine ac_draw mixed ?_
    | refine ac_cond1 rfl ?_ | refine ac_cond0 rfl ?_ | refine ac_skip ?_ | refine ac_exit ?_ | refine ac_ret ?_ | refine ac_label ?_
    | refine rwp_p M rfl ?_ | refine swp_p M rfl ?_
    | refine rwp_g1 rfl ?_ | refine rwp_g0 rfl rfl ?_ | refine rwp_gt rfl ?_ | refine swp_qg1 rfl ?_ | refine swp_qg0 rfl rfl ?_ | refine swp_qgt rfl ?_
    | refine rwp_pr (v := .int _ _) rfl ?_ | refine swp_pr (v := .int _ _) rfl ?_
    | refine rwp_pr (v := .bool _) rfl ?_ | refine swp_pr (v := .bool _) rfl ?_
    | refine rwp_pr (v := .ref _ _ _) rfl ?_ | refine swp_pr (v := .ref _ _ _) rfl ?_
    | refine rwp_pr (v := .list _ _ _) rfl ?_ | refine swp_pr (v := .list _ _ _) rfl ?_
    | refine rwp_pr (v := .iptr _) rfl ?_ | refine swp_pr (v := .iptr _) rfl ?_
    | refine rwp_pr (v := .tup _) rfl ?_ | refine swp_pr (v := .tup _) rfl ?_
    | refine rwp_pr (v := .agg _) rfl ?_ | refine swp_pr (v := .agg _) rfl ?_
    | refine rwp_pr (v := .str _) rfl ?_ | refine swp_pr (v := .str _) rfl ?_
    | refine rwp_lr (v := .int _ _) rfl ?_ | refine swp_lr (v := .int _ _) rfl ?_
    | refine rwp_lr (v := .bool _) rfl ?_ | refine swp_lr (v := .bool _) rfl ?_
    | refine rwp_lr (v := .ref _ _ _) rfl ?_ | refine swp_lr (v := .ref _ _ _) rfl ?_
    | refine rwp_lr (v := .list _ _ _) rfl ?_ | refine swp_lr (v := .list _ _ _) rfl ?_
    | refine rwp_lr (v := .iptr _) rfl ?_ | refine swp_lr (v := .iptr _) rfl ?_
    | refine rwp_lr (v := .tup _) rfl ?_ | refine swp_lr (v := .tup _) rfl ?_
    | refine rwp_lr (v := .agg _) rfl ?_ | refine swp_lr (v := .agg _) rfl ?_
    | refine rwp_lr (v := .str _) rfl ?_ | refine swp_lr (v := .str _) rfl ?_
    | refine rwp_nil ?_ | refine swp_done ?_ | refine swp_e ?_
    | refine thenQ_n ?_ | refine thenQ_e ?_ | refine thenQ_r ?_ | refine blockQ_n ?_ | refine blockQ_hit ?_ | refine blockQ_miss rfl ?_ | refine blockQ_r ?_
  refine ac_scope ?_ ?_
  repeat first
    | refine ac_seq ?_ | refine ac_region ?_ | refine ac_block ?_ | refine ac_draw mixed ?_
    | refine ac_cond1 rfl ?_ | refine ac_cond0 rfl ?_ | refine ac_skip ?_ | refine ac_exit ?_ | refine ac_ret ?_ | refine ac_label ?_
    | refine rwp_p M rfl ?_ | refine swp_p M rfl ?_
    | refine rwp_p C0 rfl ?_ | refine swp_p C0 rfl ?_
    | refine rwp_g1 rfl ?_ | refine rwp_g0 rfl rfl ?_ | refine rwp_gt rfl ?_ | refine swp_qg1 rfl ?_ | refine swp_qg0 rfl rfl ?_ | refine swp_qgt rfl ?_
    | refine rwp_pr (v := .int _ _) rfl ?_ | refine swp_pr (v := .int _ _) rfl ?_
    | refine rwp_pr (v := .bool _) rfl ?_ | refine swp_pr (v := .bool _) rfl ?_
    | refine rwp_pr (v := .ref _ _ _) rfl ?_ | refine swp_pr (v := .ref _ _ _) rfl ?_
    | refine rwp_pr (v := .list _ _ _) rfl ?_ | refine swp_pr (v := .list _ _ _) rfl ?_
    | refine rwp_pr (v := .iptr _) rfl ?_ | refine swp_pr (v := .iptr _) rfl ?_
    | refine rwp_pr (v := .tup _) rfl ?_ | refine swp_pr (v := .tup _) rfl ?_
    | refine rwp_pr (v := .agg _) rfl ?_ | refine swp_pr (v := .agg _) rfl ?_
    | refine rwp_pr (v := .str _) rfl ?_ | refine swp_pr (v := .str _) rfl ?_
    | refine rwp_lr (v := .int _ _) rfl ?_ | refine swp_lr (v := .int _ _) rfl ?_
    | refine rwp_lr (v := .bool _) rfl ?_ | refine swp_lr (v := .bool _) rfl ?_
    | refine rwp_lr (v := .ref _ _ _) rfl ?_ | refine swp_lr (v := .ref _ _ _) rfl ?_
    | refine rwp_lr (v := .list _ _ _) rfl ?_ | refine swp_lr (v := .list _ _ _) rfl ?_
    | refine rwp_lr (v := .iptr _) rfl ?_ | refine swp_lr (v := .iptr _) rfl ?_
    | refine rwp_lr (v := .tup _) rfl ?_ | refine swp_lr (v := .tup _) rfl ?_
    | refine rwp_lr (v := .agg _) rfl ?_ | refine swp_lr (v := .agg _) rfl ?_
    | refine rwp_lr (v := .str _) rfl ?_ | refine swp_lr (v := .str _) rfl ?_
    | refine rwp_nil ?_ | refine swp_done ?_ | refine swp_e ?_
    | refine thenQ_n ?_ | refine thenQ_e ?_ | refine thenQ_r ?_ | refine blockQ_n ?_ | refine blockQ_hit ?_ | refine blockQ_miss rfl ?_ | refine blockQ_r ?_
  refine AC.loop (X := Unit) (fun _ fr st' => fr.get 5 = noRows ∧ fr.get 9 = .int .i64 (.ofNat 0) ∧ fr.get 10 = .int .i64 (.ofNat 0) ∧ st' = st1) (fun _ => 0) ?_ (x := ()) ⟨rfl, rfl, rfl, rfl⟩
  rintro _ fr st' ⟨e3, e15, e16, rfl⟩
  refine AC.forget (fr' := [(5, noRows), (9, .int .i64 (.ofNat 0)), (10, .int .i64 (.ofNat 0))]) ?_ (forget_of (by simp [e3, e15, e16]))
  repeat first
    | refine ac_seq ?_ | refine ac_region ?_ | refine ac_block ?_ | refine ac_draw mixed ?_
    | refine ac_cond1 rfl ?_ | refine ac_cond0 rfl ?_ | refine ac_skip ?_ | refine ac_exit ?_ | refine ac_ret ?_ | refine ac_label ?_
    | refine rwp_p M rfl ?_ | refine swp_p M rfl ?_
    | refine rwp_g1 rfl ?_ | refine rwp_g0 rfl rfl ?_ | refine rwp_gt rfl ?_ | refine swp_qg1 rfl ?_ | refine swp_qg0 rfl rfl ?_ | refine swp_qgt rfl ?_
    | refine rwp_pr (v := .int _ _) rfl ?_ | refine swp_pr (v := .int _ _) rfl ?_
    | refine rwp_pr (v := .bool _) rfl ?_ | refine swp_pr (v := .bool _) rfl ?_
    | refine rwp_pr (v := .ref _ _ _) rfl ?_ | refine swp_pr (v := .ref _ _ _) rfl ?_
    | refine rwp_pr (v := .list _ _ _) rfl ?_ | refine swp_pr (v := .list _ _ _) rfl ?_
    | refine rwp_pr (v := .iptr _) rfl ?_ | refine swp_pr (v := .iptr _) rfl ?_
    | refine rwp_pr (v := .tup _) rfl ?_ | refine swp_pr (v := .tup _) rfl ?_
    | refine rwp_pr (v := .agg _) rfl ?_ | refine swp_pr (v := .agg _) rfl ?_
    | refine rwp_pr (v := .str _) rfl ?_ | refine swp_pr (v := .str _) rfl ?_
    | refine rwp_lr (v := .int _ _) rfl ?_ | refine swp_lr (v := .int _ _) rfl ?_
    | refine rwp_lr (v := .bool _) rfl ?_ | refine swp_lr (v := .bool _) rfl ?_
    | refine rwp_lr (v := .ref _ _ _) rfl ?_ | refine swp_lr (v := .ref _ _ _) rfl ?_
    | refine rwp_lr (v := .list _ _ _) rfl ?_ | refine swp_lr (v := .list _ _ _) rfl ?_
    | refine rwp_lr (v := .iptr _) rfl ?_ | refine swp_lr (v := .iptr _) rfl ?_
    | refine rwp_lr (v := .tup _) rfl ?_ | refine swp_lr (v := .tup _) rfl ?_
    | refine rwp_lr (v := .agg _) rfl ?_ | refine swp_lr (v := .agg _) rfl ?_
    | refine rwp_lr (v := .str _) rfl ?_ | refine swp_lr (v := .str _) rfl ?_
    | refine rwp_nil ?_ | refine swp_done ?_ | refine swp_e ?_
    | refine thenQ_n ?_ | refine thenQ_e ?_ | refine thenQ_r ?_ | refine blockQ_n ?_ | refine blockQ_hit ?_ | refine blockQ_miss rfl ?_ | refine blockQ_r ?_
  exact ⟨noRows, rfl, rfl, hO⟩
  · exact fun l fr st h => h

end Go.Am.Tab
