/- EngineMany: the engine with cursors: ended, told of none. -/
import Derived.Test.YteinffefhcpcmaaGreatDoorVtManyA
set_option linter.unusedVariables false
set_option linter.unusedSimpArgs false
set_option linter.unusedSectionVars false
namespace Go.Am.Tab
open Go.Am Go.Proofs
set_option maxRecDepth 100000

/-- Where an engine's parts lie. -/
structure Ks where
  ko : Key
  vo : Nat
  ke : Key
  ve : Nat
  kc : Key
  vc : Nat
  ks : Key
  vs : Nat
  km : Key
  vm : Nat
  kr : Key
  vr : Nat

def engCells (f : AVal) (q : Ks) : List AVal := [f, .int .i64 1, .int .i64 1, .int .i64 1, .int .i64 1, .int .i64 1, .int .i64 0, .ref q.ks q.vs 0, .mapr q.kc q.vc, .bool false, .bool false]

/-- An engine without rows whose cursors have these numbers; from c on the name spaces are free. -/
structure Many (q : Ks) (ids : List Nat) (c : Int) (st : Store) : Prop where
  on : ∃ x y, st q.ko = ⟨q.vo, some (.cells [x, .ref q.ke q.ve 0, y])⟩
  eng : ∃ f, st q.ke = ⟨q.ve, some (.cells (engCells f q))⟩
  cur : ∃ es clk, st q.kc = ⟨q.vc, some (.map es clk)⟩ ∧ Cur es ids
  sta : ∃ l, st q.ks = ⟨q.vs, some (.cells l)⟩ ∧ l[7]? = some noRows ∧ l[9]? = some (.ref q.km q.vm 0)
  mem : st q.km = ⟨q.vm, some (.cells [.mapr q.kr q.vr])⟩
  row : ∃ clk, st q.kr = ⟨q.vr, some (.map [] clk)⟩
  zero : q.ko.1 = 0 ∧ q.ke.1 = 0 ∧ q.kc.1 = 0 ∧ q.ks.1 = 0 ∧ q.km.1 = 0 ∧ q.kr.1 = 0
  ne : q.ko ≠ q.kc ∧ q.ke ≠ q.kc ∧ q.ks ≠ q.kc ∧ q.km ≠ q.kc ∧ q.kr ≠ q.kc
  fresh : ∀ i, 1048576 ≤ i → st (0, i) = slot0
  lt : q.kc.2 < 1048576
  ns : Ns c st
  pos : 2 ≤ c
  own : st (1, 5) = ⟨1, some (.cells askCells)⟩

theorem Many.outs {q : Ks} {ids : List Nat} {c d : Int} {st st' : Store} (h : Many q ids c st) (ho : Outs c d st st') (hcd : c ≤ d) : Many q ids d st' := by
  have hp := h.pos
  have key : ∀ k : Key, k.1 = 0 → st' k = st k := fun k hk => ho k (.inl (by omega))
  obtain ⟨z1, z2, z3, z4, z5, z6⟩ := h.zero
  exact ⟨by rw [key _ z1]; exact h.on, by rw [key _ z2]; exact h.eng, by rw [key _ z3]; exact h.cur, by rw [key _ z4]; exact h.sta, by rw [key _ z5]; exact h.mem, by rw [key _ z6]; exact h.row,
    h.zero, h.ne, fun i hi => by rw [key (0, i) rfl]; exact h.fresh i hi, h.lt, h.ns.outs ho hcd, by omega, by rw [ho (1, 5) (.inl (by show (1 : Int) < c; omega))]; exact h.own⟩

/-- The map of cursors is exchanged. -/
theorem Many.setCur {q : Ks} {ids ids' : List Nat} {c : Int} {st : Store} (h : Many q ids c st) {es : List AEntry} {clk : Nat} (hc : Cur es ids') : Many q ids' c (st.set q.kc ⟨q.vc, some (.map es clk)⟩) := by
  obtain ⟨n1, n2, n3, n4, n5⟩ := h.ne
  have key : ∀ k : Key, k ≠ q.kc → (st.set q.kc ⟨q.vc, some (.map es clk)⟩) k = st k := fun k hk => by simp only [Store.set]; rw [if_neg hk]
  obtain ⟨z1, z2, z3, z4, z5, z6⟩ := h.zero
  exact ⟨by rw [key _ n1]; exact h.on, by rw [key _ n2]; exact h.eng, ⟨es, clk, by simp [Store.set], hc⟩, by rw [key _ n3]; exact h.sta, by rw [key _ n4]; exact h.mem, by rw [key _ n5]; exact h.row,
    h.zero, h.ne, fun i hi => by
      rw [key (0, i) (by intro e; have := h.lt; rw [← e] at this; simp only at this; omega)]; exact h.fresh i hi, h.lt, fun c' hc' i => by
      rw [key (c', i) (by intro e; have := h.pos; rw [← e] at z3; simp only at z3; omega)]; exact h.ns c' hc' i, h.pos, by
      rw [key (1, 5) (by intro e; rw [← e] at z3; simp at z3)]; exact h.own⟩

theorem eng_load {q : Ks} {ids : List Nat} {c : Int} {st : Store} (h : Many q ids c st) (i : Nat) (v : AVal) (hv : ∀ f, (engCells f q)[i]? = some v) : lev st (.load none) [.ref q.ke q.ve i] = some v := by
  obtain ⟨f, hf⟩ := h.eng
  simp [lev, load, cellsAt, hf, partA, hv f]

/-- An end of a cursor that there is. -/
theorem end_in {q : Ks} {ids : List Nat} {c : Int} {st : Store} (h : Many q ids c st) {k : Nat} (hk : k ∈ ids) :
    ACalls Tryz.prog 10 [.ref q.ke q.ve 0, num k] st (endK (fun v st' => v = .int .i64 0 ∧ Many q (ids.erase k) c st') (fun _ _ => False)) := by
  refine ACalls_of Tryz.func10 c10 (nmC c) (by simp [a10]) ?_
  have L1 := eng_load h 10 (.bool false) (fun f => rfl)
  have L2 := eng_load h 8 (.mapr q.kc q.vc) (fun f => rfl)
  obtain ⟨es, clk, hes, hcur⟩ := h.cur
  obtain ⟨e, hfe, k', v', o', hv⟩ := findE_in hcur hk
  obtain ⟨es', hde, hcur'⟩ := delE_cur hcur hk
  have L3 : lev st (.lookup false [(1, .nilp)] false false) [.mapr q.kc q.vc, num k] = some (.ref k' v' o') := by
    simp [lev, keyIs, num, mapAt_of hes]
    have : findE es (.int .i64 (k : Int)) = some (some e) := hfe
    rw [this]
    simp [hv]
  unfold a10
  repeat first
    | refine ac_seq ?_ | refine ac_region ?_ | refine ac_block ?_ | refine ac_draw mixed ?_
    | refine ac_cond1 rfl ?_ | refine ac_cond0 rfl ?_ | refine ac_skip ?_ | refine ac_exit ?_ | refine ac_ret ?_ | refine ac_label ?_
    | refine rwp_l L1 rfl ?_ | refine swp_l L1 rfl ?_
    | refine rwp_l L2 rfl ?_ | refine swp_l L2 rfl ?_
    | refine rwp_l L3 rfl ?_ | refine swp_l L3 rfl ?_
    | refine rwp_g1 rfl ?_ | refine rwp_g0 rfl rfl ?_ | refine rwp_gt rfl ?_ | refine swp_qg1 rfl ?_ | refine swp_qg0 rfl rfl ?_ | refine swp_qgt rfl ?_
    | refine rwp_pr (v := .int _ _) rfl ?_ | refine swp_pr (v := .int _ _) rfl ?_
    | refine rwp_pr (v := .bool _) rfl ?_ | refine swp_pr (v := .bool _) rfl ?_
    | refine rwp_pr (v := .ref _ _ _) rfl ?_ | refine swp_pr (v := .ref _ _ _) rfl ?_
    | refine rwp_pr (v := .list _ _ _) rfl ?_ | refine swp_pr (v := .list _ _ _) rfl ?_
    | refine rwp_pr (v := .iptr _) rfl ?_ | refine swp_pr (v := .iptr _) rfl ?_
    | refine rwp_pr (v := .tup _) rfl ?_ | refine swp_pr (v := .tup _) rfl ?_
    | refine rwp_pr (v := .agg _) rfl ?_ | refine swp_pr (v := .agg _) rfl ?_
    | refine rwp_pr (v := .str _) rfl ?_ | refine swp_pr (v := .str _) rfl ?_
    | refine rwp_lr (v := .int _ _) rfl ?_ | refine swp_lr (v := .int _ _) rfl ?_
    | refine rwp_lr (v := .bool _) rfl ?_ | refine swp_lr (v := .bool _) rfl ?_
    | refine rwp_lr (v := .ref _ _ _) rfl ?_ | refine swp_lr (v := .ref _ _ _) rfl ?_
    | refine rwp_lr (v := .list _ _ _) rfl ?_ | refine swp_lr (v := .list _ _ _) rfl ?_
    | refine rwp_lr (v := .iptr _) rfl ?_ | refine swp_lr (v := .iptr _) rfl ?_
    | refine rwp_lr (v := .tup _) rfl ?_ | refine swp_lr (v := .tup _) rfl ?_
    | refine rwp_lr (v := .agg _) rfl ?_ | refine swp_lr (v := .agg _) rfl ?_
    | refine rwp_lr (v := .str _) rfl ?_ | refine swp_lr (v := .str _) rfl ?_
    | refine rwp_nil ?_ | refine swp_done ?_ | refine swp_e ?_
    | refine thenQ_n ?_ | refine thenQ_e ?_ | refine thenQ_r ?_ | refine blockQ_n ?_ | refine blockQ_hit ?_ | refine blockQ_miss rfl ?_ | refine blockQ_r ?_
  refine rwp_i (vs := [.mapr q.kc q.vc, num k]) rfl ?_
  simp only [iwp]
  refine ⟨rfl, es, clk, mapAt_of hes, es', hde, ?_⟩
  repeat first
    | refine ac_seq ?_ | refine ac_region ?_ | refine ac_block ?_ | refine ac_draw mixed ?_
    | refine ac_cond1 rfl ?_ | refine ac_cond0 rfl ?_ | refine ac_skip ?_ | refine ac_exit ?_ | refine ac_ret ?_ | refine ac_label ?_
    | refine rwp_g1 rfl ?_ | refine rwp_g0 rfl rfl ?_ | refine rwp_gt rfl ?_ | refine swp_qg1 rfl ?_ | refine swp_qg0 rfl rfl ?_ | refine swp_qgt rfl ?_
    | refine rwp_pr (v := .int _ _) rfl ?_ | refine swp_pr (v := .int _ _) rfl ?_
    | refine rwp_pr (v := .bool _) rfl ?_ | refine swp_pr (v := .bool _) rfl ?_
    | refine rwp_pr (v := .ref _ _ _) rfl ?_ | refine swp_pr (v := .ref _ _ _) rfl ?_
    | refine rwp_pr (v := .list _ _ _) rfl ?_ | refine swp_pr (v := .list _ _ _) rfl ?_
    | refine rwp_pr (v := .iptr _) rfl ?_ | refine swp_pr (v := .iptr _) rfl ?_
    | refine rwp_pr (v := .tup _) rfl ?_ | refine swp_pr (v := .tup _) rfl ?_
    | refine rwp_pr (v := .agg _) rfl ?_ | refine swp_pr (v := .agg _) rfl ?_
    | refine rwp_pr (v := .str _) rfl ?_ | refine swp_pr (v := .str _) rfl ?_
    | refine rwp_lr (v := .int _ _) rfl ?_ | refine swp_lr (v := .int _ _) rfl ?_
    | refine rwp_lr (v := .bool _) rfl ?_ | refine swp_lr (v := .bool _) rfl ?_
    | refine rwp_lr (v := .ref _ _ _) rfl ?_ | refine swp_lr (v := .ref _ _ _) rfl ?_
    | refine rwp_lr (v := .list _ _ _) rfl ?_ | refine swp_lr (v := .list _ _ _) rfl ?_
    | refine rwp_lr (v := .iptr _) rfl ?_ | refine swp_lr (v := .iptr _) rfl ?_
    | refine rwp_lr (v := .tup _) rfl ?_ | refine swp_lr (v := .tup _) rfl ?_
    | refine rwp_lr (v := .agg _) rfl ?_ | refine swp_lr (v := .agg _) rfl ?_
    | refine rwp_lr (v := .str _) rfl ?_ | refine swp_lr (v := .str _) rfl ?_
    | refine rwp_nil ?_ | refine swp_done ?_ | refine swp_e ?_
    | refine thenQ_n ?_ | refine thenQ_e ?_ | refine thenQ_r ?_ | refine blockQ_n ?_ | refine blockQ_hit ?_ | refine blockQ_miss rfl ?_ | refine blockQ_r ?_
  exact ⟨.int .i64 0, rfl, rfl, h.setCur hcur'⟩

/-- An end of a cursor that there is not. -/
theorem end_out {q : Ks} {ids : List Nat} {c : Int} {st : Store} (h : Many q ids c st) {k : Nat} (hk : k ∉ ids) :
    ACalls Tryz.prog 10 [.ref q.ke q.ve 0, num k] st (endK (fun v st' => v = .int .i64 3 ∧ st' = st) (fun _ _ => False)) := by
  refine ACalls_of Tryz.func10 c10 (nmC c) (by simp [a10]) ?_
  have L1 := eng_load h 10 (.bool false) (fun f => rfl)
  have L2 := eng_load h 8 (.mapr q.kc q.vc) (fun f => rfl)
  obtain ⟨es, clk, hes, hcur⟩ := h.cur
  have hfe := findE_out hcur.1 hk
  have L3 : lev st (.lookup false [(1, .nilp)] false false) [.mapr q.kc q.vc, num k] = some .nilp := by
    simp [lev, keyIs, num, mapAt_of hes]
    have : findE es (.int .i64 (k : Int)) = some none := hfe
    rw [this]
    exact ⟨none, rfl, rfl⟩
  unfold a10
  repeat first
    | refine ac_seq ?_ | refine ac_region ?_ | refine ac_block ?_ | refine ac_draw mixed ?_
    | refine ac_cond1 rfl ?_ | refine ac_cond0 rfl ?_ | refine ac_skip ?_ | refine ac_exit ?_ | refine ac_ret ?_ | refine ac_label ?_
    | refine rwp_l L1 rfl ?_ | refine swp_l L1 rfl ?_
    | refine rwp_l L2 rfl ?_ | refine swp_l L2 rfl ?_
    | refine rwp_l L3 rfl ?_ | refine swp_l L3 rfl ?_
    | refine rwp_g1 rfl ?_ | refine rwp_g0 rfl rfl ?_ | refine rwp_gt rfl ?_ | refine swp_qg1 rfl ?_ | refine swp_qg0 rfl rfl ?_ | refine swp_qgt rfl ?_
    | refine rwp_pr (v := .int _ _) rfl ?_ | refine swp_pr (v := .int _ _) rfl ?_
    | refine rwp_pr (v := .bool _) rfl ?_ | refine swp_pr (v := .bool _) rfl ?_
    | refine rwp_pr (v := .ref _ _ _) rfl ?_ | refine swp_pr (v := .ref _ _ _) rfl ?_
    | refine rwp_pr (v := .list _ _ _) rfl ?_ | refine swp_pr (v := .list _ _ _) rfl ?_
    | refine rwp_pr (v := .iptr _) rfl ?_ | refine swp_pr (v := .iptr _) rfl ?_
    | refine rwp_pr (v := .tup _) rfl ?_ | refine swp_pr (v := .tup _) rfl ?_
    | refine rwp_pr (v := .agg _) rfl ?_ | refine swp_pr (v := .agg _) rfl ?_
    | refine rwp_pr (v := .str _) rfl ?_ | refine swp_pr (v := .str _) rfl ?_
    | refine rwp_lr (v := .int _ _) rfl ?_ | refine swp_lr (v := .int _ _) rfl ?_
    | refine rwp_lr (v := .bool _) rfl ?_ | refine swp_lr (v := .bool _) rfl ?_
    | refine rwp_lr (v := .ref _ _ _) rfl ?_ | refine swp_lr (v := .ref _ _ _) rfl ?_
    | refine rwp_lr (v := .list _ _ _) rfl ?_ | refine swp_lr (v := .list _ _ _) rfl ?_
    | refine rwp_lr (v := .iptr _) rfl ?_ | refine swp_lr (v := .iptr _) rfl ?_
    | refine rwp_lr (v := .tup _) rfl ?_ | refine swp_lr (v := .tup _) rfl ?_
    | refine rwp_lr (v := .agg _) rfl ?_ | refine swp_lr (v := .agg _) rfl ?_
    | refine rwp_lr (v := .str _) rfl ?_ | refine swp_lr (v := .str _) rfl ?_
    | refine rwp_nil ?_ | refine swp_done ?_ | refine swp_e ?_
    | refine thenQ_n ?_ | refine thenQ_e ?_ | refine thenQ_r ?_ | refine blockQ_n ?_ | refine blockQ_hit ?_ | refine blockQ_miss rfl ?_ | refine blockQ_r ?_
  exact ⟨.int .i64 3, rfl, rfl, rfl⟩

/-- What is asked of a cursor that there is not. -/
theorem next_out {q : Ks} {ids : List Nat} {c : Int} {st : Store} (h : Many q ids c st) {k : Nat} (hk : k ∉ ids) :
    ACalls Tryz.prog 11 [.ref q.ke q.ve 0, num k] st (endK (fun v st' => (∃ a, v = .tup [.agg [.int .i64 0, .bool false, .int .u64 0, a], .int .i64 3] ∧ a = .int .i64 0) ∧ Outs c (c + 1) st st') (fun _ _ => False)) := by
  refine ACalls_of Tryz.func11 c11 (nmC c) (by simp [a11]) ?_
  unfold a11
  refine ac_seq ?_
  refine ac_region ?_
  refine rwp_i (vs := []) rfl ?_
  simp only [iwp]
  have hk0 : st (c, 4) = slot0 := h.ns c (Int.le_refl _) 4
  show rwp _ _ _ (Fr.put _ _ (.ref (c, 4) ((st (c, 4)).ver + 1) 0)) (st.set (c, 4) ⟨(st (c, 4)).ver + 1, some (.cells (Zero.cells _))⟩) _ _
  rw [hk0]
  generalize hst1 : st.set (c, 4) _ = st1
  have hO : Outs c (c + 1) st st1 := by rw [← hst1]; exact Outs.set _ _
  have h1 : Many q ids (c + 1) st1 := h.outs hO (by omega)
  have ht : st1 (c, 4) = ⟨1, some (.cells [.int .i64 0, .bool false, .int .u64 0, .int .i64 0])⟩ := by rw [← hst1]; simp [Store.set, slot0, Zero.cells]
  have L1 := eng_load h1 10 (.bool false) (fun f => rfl)
  have L2 := eng_load h1 8 (.mapr q.kc q.vc) (fun f => rfl)
  obtain ⟨es, clk, hes, hcur⟩ := h1.cur
  have hfe := findE_out hcur.1 hk
  have L3 : lev st1 (.lookup false [(1, .nilp)] false false) [.mapr q.kc q.vc, num k] = some .nilp := by
    simp [lev, keyIs, num, mapAt_of hes]
    have : findE es (.int .i64 (k : Int)) = some none := hfe
    rw [this]
    exact ⟨none, rfl, rfl⟩
  have M : pev .mv [.nilp] = some .nilp := rfl
  have B : pev (.build [(1, .int .i64 (.ofNat 0)), (1, .bool false), (1, .int .u64 (.ofNat 0)), (1, .int .i64 (.ofNat 0))] []) [] = some (.agg [.int .i64 0, .bool false, .int .u64 0, .int .i64 0]) := rfl
  repeat first
    | refine ac_seq ?_ | refine ac_region ?_ | refine ac_block ?_ | refine ac_draw mixed ?_
    | refine ac_cond1 rfl ?_ | refine ac_cond0 rfl ?_ | refine ac_skip ?_ | refine ac_exit ?_ | refine ac_ret ?_ | refine ac_label ?_
    | refine rwp_p M rfl ?_ | refine swp_p M rfl ?_
    | refine rwp_p B rfl ?_ | refine swp_p B rfl ?_
    | refine rwp_l L1 rfl ?_ | refine swp_l L1 rfl ?_
    | refine rwp_l L2 rfl ?_ | refine swp_l L2 rfl ?_
    | refine rwp_l L3 rfl ?_ | refine swp_l L3 rfl ?_
    | refine rwp_g1 rfl ?_ | refine rwp_g0 rfl rfl ?_ | refine rwp_gt rfl ?_ | refine swp_qg1 rfl ?_ | refine swp_qg0 rfl rfl ?_ | refine swp_qgt rfl ?_
    | refine rwp_pr (v := .int _ _) rfl ?_ | refine swp_pr (v := .int _ _) rfl ?_
    | refine rwp_pr (v := .bool _) rfl ?_ | refine swp_pr (v := .bool _) rfl ?_
    | refine rwp_pr (v := .ref _ _ _) rfl ?_ | refine swp_pr (v := .ref _ _ _) rfl ?_
    | refine rwp_pr (v := .list _ _ _) rfl ?_ | refine swp_pr (v := .list _ _ _) rfl ?_
    | refine rwp_pr (v := .iptr _) rfl ?_ | refine swp_pr (v := .iptr _) rfl ?_
    | refine rwp_pr (v := .tup _) rfl ?_ | refine swp_pr (v := .tup _) rfl ?_
    | refine rwp_pr (v := .agg _) rfl ?_ | refine swp_pr (v := .agg _) rfl ?_
    | refine rwp_pr (v := .str _) rfl ?_ | refine swp_pr (v := .str _) rfl ?_
    | refine rwp_lr (v := .int _ _) rfl ?_ | refine swp_lr (v := .int _ _) rfl ?_
    | refine rwp_lr (v := .bool _) rfl ?_ | refine swp_lr (v := .bool _) rfl ?_
    | refine rwp_lr (v := .ref _ _ _) rfl ?_ | refine swp_lr (v := .ref _ _ _) rfl ?_
    | refine rwp_lr (v := .list _ _ _) rfl ?_ | refine swp_lr (v := .list _ _ _) rfl ?_
    | refine rwp_lr (v := .iptr _) rfl ?_ | refine swp_lr (v := .iptr _) rfl ?_
    | refine rwp_lr (v := .tup _) rfl ?_ | refine swp_lr (v := .tup _) rfl ?_
    | refine rwp_lr (v := .agg _) rfl ?_ | refine swp_lr (v := .agg _) rfl ?_
    | refine rwp_lr (v := .str _) rfl ?_ | refine swp_lr (v := .str _) rfl ?_
    | refine rwp_nil ?_ | refine swp_done ?_ | refine swp_e ?_
    | refine thenQ_n ?_ | refine thenQ_e ?_ | refine thenQ_r ?_ | refine blockQ_n ?_ | refine blockQ_hit ?_ | refine blockQ_miss rfl ?_ | refine blockQ_r ?_
  refine rwp_i (vs := [.ref (c, 4) 1 0, .agg [.int .i64 0, .bool false, .int .u64 0, .int .i64 0]]) rfl ?_
  simp only [iwp]
  rw [ht]
  refine ⟨rfl, rfl, rfl, rfl, by decide, ?_⟩
  generalize hst2 : st1.set (c, 4) _ = st2
  have hO2 : Outs c (c + 1) st st2 := fun k hk => by
    rw [← hst2]
    simp only [Store.set]
    rw [if_neg (by rintro rfl; simp only at hk; omega)]
    exact hO k hk
  have ht2 : st2 (c, 4) = ⟨1, some (.cells [.int .i64 0, .bool false, .int .u64 0, .int .i64 0])⟩ := by rw [← hst2]; simp [Store.set, splice, AVal.cells]
  repeat first
    | refine ac_seq ?_ | refine ac_region ?_ | refine ac_block ?_ | refine ac_draw mixed ?_
    | refine ac_cond1 rfl ?_ | refine ac_cond0 rfl ?_ | refine ac_skip ?_ | refine ac_exit ?_ | refine ac_ret ?_ | refine ac_label ?_
    | refine rwp_g1 rfl ?_ | refine rwp_g0 rfl rfl ?_ | refine rwp_gt rfl ?_ | refine swp_qg1 rfl ?_ | refine swp_qg0 rfl rfl ?_ | refine swp_qgt rfl ?_
    | refine rwp_pr (v := .int _ _) rfl ?_ | refine swp_pr (v := .int _ _) rfl ?_
    | refine rwp_pr (v := .bool _) rfl ?_ | refine swp_pr (v := .bool _) rfl ?_
    | refine rwp_pr (v := .ref _ _ _) rfl ?_ | refine swp_pr (v := .ref _ _ _) rfl ?_
    | refine rwp_pr (v := .list _ _ _) rfl ?_ | refine swp_pr (v := .list _ _ _) rfl ?_
    | refine rwp_pr (v := .iptr _) rfl ?_ | refine swp_pr (v := .iptr _) rfl ?_
    | refine rwp_pr (v := .tup _) rfl ?_ | refine swp_pr (v := .tup _) rfl ?_
    | refine rwp_pr (v := .agg _) rfl ?_ | refine swp_pr (v := .agg _) rfl ?_
    | refine rwp_pr (v := .str _) rfl ?_ | refine swp_pr (v := .str _) rfl ?_
    | refine rwp_lr (v := .int _ _) rfl ?_ | refine swp_lr (v := .int _ _) rfl ?_
    | refine rwp_lr (v := .bool _) rfl ?_ | refine swp_lr (v := .bool _) rfl ?_
    | refine rwp_lr (v := .ref _ _ _) rfl ?_ | refine swp_lr (v := .ref _ _ _) rfl ?_
    | refine rwp_lr (v := .list _ _ _) rfl ?_ | refine swp_lr (v := .list _ _ _) rfl ?_
    | refine rwp_lr (v := .iptr _) rfl ?_ | refine swp_lr (v := .iptr _) rfl ?_
    | refine rwp_lr (v := .tup _) rfl ?_ | refine swp_lr (v := .tup _) rfl ?_
    | refine rwp_lr (v := .agg _) rfl ?_ | refine swp_lr (v := .agg _) rfl ?_
    | refine rwp_lr (v := .str _) rfl ?_ | refine swp_lr (v := .str _) rfl ?_
    | refine rwp_nil ?_ | refine swp_done ?_ | refine swp_e ?_
    | refine thenQ_n ?_ | refine thenQ_e ?_ | refine thenQ_r ?_ | refine blockQ_n ?_ | refine blockQ_hit ?_ | refine blockQ_miss rfl ?_ | refine blockQ_r ?_
  refine ⟨_, ?_, ⟨_, rfl, rfl⟩, hO2⟩
  have R : load st2 (some 4) (.ref (c, 4) 1 0) = some (.agg [.int .i64 0, .bool false, .int .u64 0, .int .i64 0]) := by simp [load, cellsAt, ht2, partA]
  show (do let v ← load st2 (some 4) (.ref (c, 4) 1 0); let l ← [ARes.t 5].mapM (res1 st2 _); pure (v :: l)).map AVal.tup = _
  rw [R]
  rfl

end Go.Am.Tab
/- EngineMany: the engine with cursors: asked. -/
namespace Go.Am.Tab
open Go.Am Go.Proofs
set_option maxRecDepth 100000

def askTail : List AVal := [.int .i64 0, .int .i64 1, .int .i64 1, .int .i64 1, .int .u64 0, .int .u64 0]

theorem Many.kc0 {q : Ks} {ids : List Nat} {c : Int} {st : Store} (h : Many q ids c st) (i : Nat) : q.kc ≠ (c, i) := fun e => by
  have := h.zero.2.2.1
  have hp := h.pos
  rw [e] at this
  simp only at this
  omega

/-- An object of a name space that was used is exchanged. -/
theorem Many.setOwn {q : Ks} {ids : List Nat} {c d : Int} {st : Store} (h : Many q ids d st) (hc : 2 ≤ c) (hd : c < d) (i : Nat) (s : Slot) : Many q ids d (st.set (c, i) s) := by
  have hO : ∀ k : Key, k ≠ (c, i) → (st.set (c, i) s) k = st k := fun k hk => by simp only [Store.set]; rw [if_neg hk]
  have z : ∀ k : Key, k.1 = 0 → (st.set (c, i) s) k = st k := fun k hk => hO k (by rintro rfl; simp only at hk; omega)
  obtain ⟨z1, z2, z3, z4, z5, z6⟩ := h.zero
  exact ⟨by rw [z _ z1]; exact h.on, by rw [z _ z2]; exact h.eng, by rw [z _ z3]; exact h.cur, by rw [z _ z4]; exact h.sta, by rw [z _ z5]; exact h.mem, by rw [z _ z6]; exact h.row, h.zero, h.ne,
    fun i hi => by rw [z (0, i) rfl]; exact h.fresh i hi, h.lt, fun c' hc' i => by rw [hO _ (by intro e; have := congrArg Prod.fst e; simp only at this; omega)]; exact h.ns c' hc' i, h.pos, by rw [hO _ (by intro e; have := congrArg Prod.fst e; simp only at this; omega)]; exact h.own⟩

/-- No room for a cursor more. -/
theorem ask_full {q : Ks} {ids : List Nat} {c : Int} {st : Store} (h : Many q ids c st) (hl : ids.length = 16) :
    ACalls Tryz.prog 8 [.ref q.ke q.ve 0, askA] st (endK (fun v st' => v = .tup [.int .i64 0, .int .i64 10] ∧ Many q ids (c + 2) st') (fun _ _ => False)) := by
  refine ACalls_of Tryz.func8 c8 (nmC c) (by simp [a8]) ?_
  unfold a8
  refine ac_seq ?_
  refine ac_region ?_
  refine rwp_i (vs := [askA]) rfl ?_
  simp only [iwp]
  refine ⟨rfl, rfl, ?_⟩
  have hk0 : st (c, 3) = slot0 := h.ns c (Int.le_refl _) 3
  show rwp _ _ _ (Fr.put _ _ (.ref (c, 3) ((st (c, 3)).ver + 1) 0)) (st.set (c, 3) ⟨(st (c, 3)).ver + 1, some (.cells askCells)⟩) _ _
  rw [hk0]
  generalize hst1 : st.set (c, 3) _ = st1
  have hO : Outs c (c + 1) st st1 := by rw [← hst1]; exact Outs.set _ _
  have h1 : Many q ids (c + 1) st1 := h.outs hO (by omega)
  have ht : st1 (c, 3) = ⟨1, some (.cells askCells)⟩ := by rw [← hst1]; simp [Store.set, slot0]
  have L1 := eng_load h1 10 (.bool false) (fun f => rfl)
  have L2 : lev st1 (.load (some 5)) [.ref q.ke q.ve 1] = some confA := by
    obtain ⟨f, hf⟩ := h1.eng
    simp [lev, load, cellsAt, hf, partA, engCells, confA]
  have L3 := eng_load h1 6 (.int .i64 0) (fun f => rfl)
  have L4 : lev st1 (.load (some 11)) [.ref (c, 3) 1 0] = some askA := by simp [lev, load, cellsAt, ht, partA, askCells, askA]
  repeat first
    | refine ac_seq ?_ | refine ac_region ?_ | refine ac_block ?_ | refine ac_draw mixed ?_
    | refine ac_cond1 rfl ?_ | refine ac_cond0 rfl ?_ | refine ac_skip ?_ | refine ac_exit ?_ | refine ac_ret ?_ | refine ac_label ?_
    | refine rwp_l L1 rfl ?_ | refine swp_l L1 rfl ?_
    | refine rwp_l L2 rfl ?_ | refine swp_l L2 rfl ?_
    | refine rwp_l L3 rfl ?_ | refine swp_l L3 rfl ?_
    | refine rwp_l L4 rfl ?_ | refine swp_l L4 rfl ?_
    | refine rwp_g1 rfl ?_ | refine rwp_g0 rfl rfl ?_ | refine rwp_gt rfl ?_ | refine swp_qg1 rfl ?_ | refine swp_qg0 rfl rfl ?_ | refine swp_qgt rfl ?_
    | refine rwp_pr (v := .int _ _) rfl ?_ | refine swp_pr (v := .int _ _) rfl ?_
    | refine rwp_pr (v := .bool _) rfl ?_ | refine swp_pr (v := .bool _) rfl ?_
    | refine rwp_pr (v := .ref _ _ _) rfl ?_ | refine swp_pr (v := .ref _ _ _) rfl ?_
    | refine rwp_pr (v := .list _ _ _) rfl ?_ | refine swp_pr (v := .list _ _ _) rfl ?_
    | refine rwp_pr (v := .iptr _) rfl ?_ | refine swp_pr (v := .iptr _) rfl ?_
    | refine rwp_pr (v := .tup _) rfl ?_ | refine swp_pr (v := .tup _) rfl ?_
    | refine rwp_pr (v := .agg _) rfl ?_ | refine swp_pr (v := .agg _) rfl ?_
    | refine rwp_pr (v := .str _) rfl ?_ | refine swp_pr (v := .str _) rfl ?_
    | refine rwp_lr (v := .int _ _) rfl ?_ | refine swp_lr (v := .int _ _) rfl ?_
    | refine rwp_lr (v := .bool _) rfl ?_ | refine swp_lr (v := .bool _) rfl ?_
    | refine rwp_lr (v := .ref _ _ _) rfl ?_ | refine swp_lr (v := .ref _ _ _) rfl ?_
    | refine rwp_lr (v := .list _ _ _) rfl ?_ | refine swp_lr (v := .list _ _ _) rfl ?_
    | refine rwp_lr (v := .iptr _) rfl ?_ | refine swp_lr (v := .iptr _) rfl ?_
    | refine rwp_lr (v := .tup _) rfl ?_ | refine swp_lr (v := .tup _) rfl ?_
    | refine rwp_lr (v := .agg _) rfl ?_ | refine swp_lr (v := .agg _) rfl ?_
    | refine rwp_lr (v := .str _) rfl ?_ | refine swp_lr (v := .str _) rfl ?_
    | refine rwp_nil ?_ | refine swp_done ?_ | refine swp_e ?_
    | refine thenQ_n ?_ | refine thenQ_e ?_ | refine thenQ_r ?_ | refine blockQ_n ?_ | refine blockQ_hit ?_ | refine blockQ_miss rfl ?_ | refine blockQ_r ?_
  refine rwp_call (check24 (c + 1) (fun i => h1.ns (c + 1) (Int.le_refl _) i)) rfl (fun _ _ h => h) ?_
  rintro v st2 ⟨rfl, hO2⟩
  have h2 : Many q ids (c + 2) st2 := by
    have := h1.outs (Out.outs hO2) (by omega)
    rwa [show c + 1 + 1 = c + 2 by omega] at this
  have M2 := eng_load h2 8 (.mapr q.kc q.vc) (fun f => rfl)
  obtain ⟨es, clk, hes, hcur⟩ := h2.cur
  have M3 : lev st2 .lenM [.mapr q.kc q.vc] = some (.int .i64 16) := by simp [lev, mapAt_of hes, hcur.length, hl]
  repeat first
    | refine ac_seq ?_ | refine ac_region ?_ | refine ac_block ?_ | refine ac_draw mixed ?_
    | refine ac_cond1 rfl ?_ | refine ac_cond0 rfl ?_ | refine ac_skip ?_ | refine ac_exit ?_ | refine ac_ret ?_ | refine ac_label ?_
    | refine rwp_l M2 rfl ?_ | refine swp_l M2 rfl ?_
    | refine rwp_l M3 rfl ?_ | refine swp_l M3 rfl ?_
    | refine rwp_g1 rfl ?_ | refine rwp_g0 rfl rfl ?_ | refine rwp_gt rfl ?_ | refine swp_qg1 rfl ?_ | refine swp_qg0 rfl rfl ?_ | refine swp_qgt rfl ?_
    | refine rwp_pr (v := .int _ _) rfl ?_ | refine swp_pr (v := .int _ _) rfl ?_
    | refine rwp_pr (v := .bool _) rfl ?_ | refine swp_pr (v := .bool _) rfl ?_
    | refine rwp_pr (v := .ref _ _ _) rfl ?_ | refine swp_pr (v := .ref _ _ _) rfl ?_
    | refine rwp_pr (v := .list _ _ _) rfl ?_ | refine swp_pr (v := .list _ _ _) rfl ?_
    | refine rwp_pr (v := .iptr _) rfl ?_ | refine swp_pr (v := .iptr _) rfl ?_
    | refine rwp_pr (v := .tup _) rfl ?_ | refine swp_pr (v := .tup _) rfl ?_
    | refine rwp_pr (v := .agg _) rfl ?_ | refine swp_pr (v := .agg _) rfl ?_
    | refine rwp_pr (v := .str _) rfl ?_ | refine swp_pr (v := .str _) rfl ?_
    | refine rwp_lr (v := .int _ _) rfl ?_ | refine swp_lr (v := .int _ _) rfl ?_
    | refine rwp_lr (v := .bool _) rfl ?_ | refine swp_lr (v := .bool _) rfl ?_
    | refine rwp_lr (v := .ref _ _ _) rfl ?_ | refine swp_lr (v := .ref _ _ _) rfl ?_
    | refine rwp_lr (v := .list _ _ _) rfl ?_ | refine swp_lr (v := .list _ _ _) rfl ?_
    | refine rwp_lr (v := .iptr _) rfl ?_ | refine swp_lr (v := .iptr _) rfl ?_
    | refine rwp_lr (v := .tup _) rfl ?_ | refine swp_lr (v := .tup _) rfl ?_
    | refine rwp_lr (v := .agg _) rfl ?_ | refine swp_lr (v := .agg _) rfl ?_
    | refine rwp_lr (v := .str _) rfl ?_ | refine swp_lr (v := .str _) rfl ?_
    | refine rwp_nil ?_ | refine swp_done ?_ | refine swp_e ?_
    | refine thenQ_n ?_ | refine thenQ_e ?_ | refine thenQ_r ?_ | refine blockQ_n ?_ | refine blockQ_hit ?_ | refine blockQ_miss rfl ?_ | refine blockQ_r ?_
  exact ⟨_, rfl, rfl, h2⟩

set_option maxHeartbeats 2000000 in
/-- A cursor more: it has the least number that is free. -/
theorem ask_new {q : Ks} {ids : List Nat} {c : Int} {st : Store} (h : Many q ids c st) (hl : ids.length < 16) {n : Nat} (hn : n ∉ ids) (hn1 : 1 ≤ n) (hn2 : n ≤ 16) (hlow : ∀ j, 1 ≤ j → j < n → j ∈ ids) :
    ACalls Tryz.prog 8 [.ref q.ke q.ve 0, askA] st (endK (fun v st' => v = .tup [num n, .int .i64 0] ∧ Many q (ids ++ [n]) (c + 6) st') (fun _ _ => False)) := by
  refine ACalls_of Tryz.func8 c8 (nmC c) (by simp [a8]) ?_
  unfold a8
  refine ac_seq ?_
  refine ac_region ?_
  refine rwp_i (vs := [askA]) rfl ?_
  simp only [iwp]
  refine ⟨rfl, rfl, ?_⟩
  have hk0 : st (c, 3) = slot0 := h.ns c (Int.le_refl _) 3
  have hk59 : st (c, 59) = slot0 := h.ns c (Int.le_refl _) 59
  show rwp _ _ _ (Fr.put _ _ (.ref (c, 3) ((st (c, 3)).ver + 1) 0)) (st.set (c, 3) ⟨(st (c, 3)).ver + 1, some (.cells askCells)⟩) _ _
  rw [hk0]
  generalize hst1 : st.set (c, 3) _ = st1
  have hO : Outs c (c + 1) st st1 := by rw [← hst1]; exact Outs.set _ _
  have h1 : Many q ids (c + 1) st1 := h.outs hO (by omega)
  have ht : st1 (c, 3) = ⟨1, some (.cells askCells)⟩ := by rw [← hst1]; simp [Store.set, slot0]
  have ht59 : st1 (c, 59) = slot0 := by rw [← hst1]; simp [Store.set, hk59]
  have L1 := eng_load h1 10 (.bool false) (fun f => rfl)
  have L2 : lev st1 (.load (some 5)) [.ref q.ke q.ve 1] = some confA := by
    obtain ⟨f, hf⟩ := h1.eng
    simp [lev, load, cellsAt, hf, partA, engCells, confA]
  have L3 := eng_load h1 6 (.int .i64 0) (fun f => rfl)
  have L4 : lev st1 (.load (some 11)) [.ref (c, 3) 1 0] = some askA := by simp [lev, load, cellsAt, ht, partA, askCells, askA]
  repeat first
    | refine ac_seq ?_ | refine ac_region ?_ | refine ac_block ?_ | refine ac_draw mixed ?_
    | refine ac_cond1 rfl ?_ | refine ac_cond0 rfl ?_ | refine ac_skip ?_ | refine ac_exit ?_ | refine ac_ret ?_ | refine ac_label ?_
    | refine rwp_l L1 rfl ?_ | refine swp_l L1 rfl ?_
    | refine rwp_l L2 rfl ?_ | refine swp_l L2 rfl ?_
    | refine rwp_l L3 rfl ?_ | refine swp_l L3 rfl ?_
    | refine rwp_l L4 rfl ?_ | refine swp_l L4 rfl ?_
    | refine rwp_g1 rfl ?_ | refine rwp_g0 rfl rfl ?_ | refine rwp_gt rfl ?_ | refine swp_qg1 rfl ?_ | refine swp_qg0 rfl rfl ?_ | refine swp_qgt rfl ?_
    | refine rwp_pr (v := .int _ _) rfl ?_ | refine swp_pr (v := .int _ _) rfl ?_
    | refine rwp_pr (v := .bool _) rfl ?_ | refine swp_pr (v := .bool _) rfl ?_
    | refine rwp_pr (v := .ref _ _ _) rfl ?_ | refine swp_pr (v := .ref _ _ _) rfl ?_
    | refine rwp_pr (v := .list _ _ _) rfl ?_ | refine swp_pr (v := .list _ _ _) rfl ?_
    | refine rwp_pr (v := .iptr _) rfl ?_ | refine swp_pr (v := .iptr _) rfl ?_
    | refine rwp_pr (v := .tup _) rfl ?_ | refine swp_pr (v := .tup _) rfl ?_
    | refine rwp_pr (v := .agg _) rfl ?_ | refine swp_pr (v := .agg _) rfl ?_
    | refine rwp_pr (v := .str _) rfl ?_ | refine swp_pr (v := .str _) rfl ?_
    | refine rwp_lr (v := .int _ _) rfl ?_ | refine swp_lr (v := .int _ _) rfl ?_
    | refine rwp_lr (v := .bool _) rfl ?_ | refine swp_lr (v := .bool _) rfl ?_
    | refine rwp_lr (v := .ref _ _ _) rfl ?_ | refine swp_lr (v := .ref _ _ _) rfl ?_
    | refine rwp_lr (v := .list _ _ _) rfl ?_ | refine swp_lr (v := .list _ _ _) rfl ?_
    | refine rwp_lr (v := .iptr _) rfl ?_ | refine swp_lr (v := .iptr _) rfl ?_
    | refine rwp_lr (v := .tup _) rfl ?_ | refine swp_lr (v := .tup _) rfl ?_
    | refine rwp_lr (v := .agg _) rfl ?_ | refine swp_lr (v := .agg _) rfl ?_
    | refine rwp_lr (v := .str _) rfl ?_ | refine swp_lr (v := .str _) rfl ?_
    | refine rwp_nil ?_ | refine swp_done ?_ | refine swp_e ?_
    | refine thenQ_n ?_ | refine thenQ_e ?_ | refine thenQ_r ?_ | refine blockQ_n ?_ | refine blockQ_hit ?_ | refine blockQ_miss rfl ?_ | refine blockQ_r ?_
  refine rwp_call (check24 (c + 1) (fun i => h1.ns (c + 1) (Int.le_refl _) i)) rfl (fun _ _ h => h) ?_
  rintro v st2 ⟨rfl, hO2⟩
  have h2 : Many q ids (c + 2) st2 := by
    have := h1.outs (Out.outs hO2) (by omega)
    rwa [show c + 1 + 1 = c + 2 by omega] at this
  have ht2 : st2 (c, 3) = ⟨1, some (.cells askCells)⟩ := by rw [hO2 _ (by simp only; omega)]; exact ht
  have ht259 : st2 (c, 59) = slot0 := by rw [hO2 _ (by simp only; omega)]; exact ht59
  have M2 := eng_load h2 8 (.mapr q.kc q.vc) (fun f => rfl)
  obtain ⟨es, clk, hes, hcur⟩ := h2.cur
  have M3 : lev st2 .lenM [.mapr q.kc q.vc] = some (.int .i64 (ids.length : Int)) := by simp [lev, mapAt_of hes, hcur.length]
  have G1 : pev (.bin .geq) [.int .i64 (ids.length : Int), .int .i64 (.ofNat 16)] = some (.bool false) := by simp [pev, abin, aint]; omega
  repeat first
    | refine ac_seq ?_ | refine ac_region ?_ | refine ac_block ?_ | refine ac_draw mixed ?_
    | refine ac_cond1 rfl ?_ | refine ac_cond0 rfl ?_ | refine ac_skip ?_ | refine ac_exit ?_ | refine ac_ret ?_ | refine ac_label ?_
    | refine rwp_p G1 rfl ?_ | refine swp_p G1 rfl ?_
    | refine rwp_l M2 rfl ?_ | refine swp_l M2 rfl ?_
    | refine rwp_l M3 rfl ?_ | refine swp_l M3 rfl ?_
    | refine rwp_g1 rfl ?_ | refine rwp_g0 rfl rfl ?_ | refine rwp_gt rfl ?_ | refine swp_qg1 rfl ?_ | refine swp_qg0 rfl rfl ?_ | refine swp_qgt rfl ?_
    | refine rwp_pr (v := .int _ _) rfl ?_ | refine swp_pr (v := .int _ _) rfl ?_
    | refine rwp_pr (v := .bool _) rfl ?_ | refine swp_pr (v := .bool _) rfl ?_
    | refine rwp_pr (v := .ref _ _ _) rfl ?_ | refine swp_pr (v := .ref _ _ _) rfl ?_
    | refine rwp_pr (v := .list _ _ _) rfl ?_ | refine swp_pr (v := .list _ _ _) rfl ?_
    | refine rwp_pr (v := .iptr _) rfl ?_ | refine swp_pr (v := .iptr _) rfl ?_
    | refine rwp_pr (v := .tup _) rfl ?_ | refine swp_pr (v := .tup _) rfl ?_
    | refine rwp_pr (v := .agg _) rfl ?_ | refine swp_pr (v := .agg _) rfl ?_
    | refine rwp_pr (v := .str _) rfl ?_ | refine swp_pr (v := .str _) rfl ?_
    | refine rwp_lr (v := .int _ _) rfl ?_ | refine swp_lr (v := .int _ _) rfl ?_
    | refine rwp_lr (v := .bool _) rfl ?_ | refine swp_lr (v := .bool _) rfl ?_
    | refine rwp_lr (v := .ref _ _ _) rfl ?_ | refine swp_lr (v := .ref _ _ _) rfl ?_
    | refine rwp_lr (v := .list _ _ _) rfl ?_ | refine swp_lr (v := .list _ _ _) rfl ?_
    | refine rwp_lr (v := .iptr _) rfl ?_ | refine swp_lr (v := .iptr _) rfl ?_
    | refine rwp_lr (v := .tup _) rfl ?_ | refine swp_lr (v := .tup _) rfl ?_
    | refine rwp_lr (v := .agg _) rfl ?_ | refine swp_lr (v := .agg _) rfl ?_
    | refine rwp_lr (v := .str _) rfl ?_ | refine swp_lr (v := .str _) rfl ?_
    | refine rwp_nil ?_ | refine swp_done ?_ | refine swp_e ?_
    | refine thenQ_n ?_ | refine thenQ_e ?_ | refine thenQ_r ?_ | refine blockQ_n ?_ | refine blockQ_hit ?_ | refine blockQ_miss rfl ?_ | refine blockQ_r ?_
  refine AC.loop (X := Nat) (fun j fr st' => 1 ≤ j ∧ j ≤ n ∧ fr.get 0 = .ref q.ke q.ve 0 ∧ fr.get 3 = .ref (c, 3) 1 0 ∧ fr.get 7 = num j ∧ st' = st2) (fun j => n - j) ?_ (x := 1) ⟨Nat.le_refl _, hn1, rfl, rfl, rfl, rfl⟩
  rintro j fr st' ⟨hj1, hj2, e0, e3, e7, rfl⟩
  refine AC.forget (fr' := [(0, .ref q.ke q.ve 0), (3, .ref (c, 3) 1 0), (7, num j)]) ?_ (forget_of (by simp [e0, e3, e7]))
  by_cases hjn : j < n
  · obtain ⟨e, hfe, k', v', o', hv⟩ := findE_in hcur (hlow j hj1 hjn)
    have L5 : lev st' (.lookup false [(1, .nilp)] false false) [.mapr q.kc q.vc, num j] = some (.ref k' v' o') := by
      simp [lev, keyIs, num, mapAt_of hes]
      have : findE es (.int .i64 (j : Int)) = some (some e) := hfe
      rw [this]
      simp [hv]
    have C4 : pev (.bin .add) [num j, .int .i64 (.ofNat 1)] = some (num (j + 1)) := by
      simp only [num, pev, abin, aint, if_true]
      rw [show ((j : Int) + Int.ofNat 1) = ((j + 1 : Nat) : Int) from rfl]
      congr 2
      simp [IntKind.wrap, IntKind.signed, IntKind.bits]
      omega
    repeat first
      | refine ac_seq ?_ | refine ac_region ?_ | refine ac_block ?_ | refine ac_draw mixed ?_
      | refine ac_cond1 rfl ?_ | refine ac_cond0 rfl ?_ | refine ac_skip ?_ | refine ac_exit ?_ | refine ac_ret ?_ | refine ac_label ?_
      | refine rwp_p C4 rfl ?_ | refine swp_p C4 rfl ?_
      | refine rwp_l M2 rfl ?_ | refine swp_l M2 rfl ?_
      | refine rwp_l L5 rfl ?_ | refine swp_l L5 rfl ?_
      | refine rwp_g1 rfl ?_ | refine rwp_g0 rfl rfl ?_ | refine rwp_gt rfl ?_ | refine swp_qg1 rfl ?_ | refine swp_qg0 rfl rfl ?_ | refine swp_qgt rfl ?_
      | refine rwp_pr (v := .int _ _) rfl ?_ | refine swp_pr (v := .int _ _) rfl ?_
      | refine rwp_pr (v := .bool _) rfl ?_ | refine swp_pr (v := .bool _) rfl ?_
      | refine rwp_pr (v := .ref _ _ _) rfl ?_ | refine swp_pr (v := .ref _ _ _) rfl ?_
      | refine rwp_pr (v := .list _ _ _) rfl ?_ | refine swp_pr (v := .list _ _ _) rfl ?_
      | refine rwp_pr (v := .iptr _) rfl ?_ | refine swp_pr (v := .iptr _) rfl ?_
      | refine rwp_pr (v := .tup _) rfl ?_ | refine swp_pr (v := .tup _) rfl ?_
      | refine rwp_pr (v := .agg _) rfl ?_ | refine swp_pr (v := .agg _) rfl ?_
      | refine rwp_pr (v := .str _) rfl ?_ | refine swp_pr (v := .str _) rfl ?_
      | refine rwp_lr (v := .int _ _) rfl ?_ | refine swp_lr (v := .int _ _) rfl ?_
      | refine rwp_lr (v := .bool _) rfl ?_ | refine swp_lr (v := .bool _) rfl ?_
      | refine rwp_lr (v := .ref _ _ _) rfl ?_ | refine swp_lr (v := .ref _ _ _) rfl ?_
      | refine rwp_lr (v := .list _ _ _) rfl ?_ | refine swp_lr (v := .list _ _ _) rfl ?_
      | refine rwp_lr (v := .iptr _) rfl ?_ | refine swp_lr (v := .iptr _) rfl ?_
      | refine rwp_lr (v := .tup _) rfl ?_ | refine swp_lr (v := .tup _) rfl ?_
      | refine rwp_lr (v := .agg _) rfl ?_ | refine swp_lr (v := .agg _) rfl ?_
      | refine rwp_lr (v := .str _) rfl ?_ | refine swp_lr (v := .str _) rfl ?_
      | refine rwp_nil ?_ | refine swp_done ?_ | refine swp_e ?_
      | refine thenQ_n ?_ | refine thenQ_e ?_ | refine thenQ_r ?_ | refine blockQ_n ?_ | refine blockQ_hit ?_ | refine blockQ_miss rfl ?_ | refine blockQ_r ?_
    exact ⟨j + 1, ⟨by omega, by omega, rfl, rfl, rfl, rfl⟩, by omega⟩
  · have hjn : j = n := by omega
    subst hjn
    have hfe := findE_out hcur.1 hn
    have L5 : lev st' (.lookup false [(1, .nilp)] false false) [.mapr q.kc q.vc, num j] = some .nilp := by
      simp [lev, keyIs, num, mapAt_of hes]
      have : findE es (.int .i64 (j : Int)) = some none := hfe
      rw [this]
      exact ⟨none, rfl, rfl⟩
    have P5 : pev (.isnil .ptr true) [.nilp] = some (.bool false) := rfl
    have L6 : lev st' (.load (some 5)) [.ref (c, 3) 1 0] = some matcher0 := by simp [lev, load, cellsAt, ht2, partA, askCells, matcher0]
    refine ac_seq ?_
    refine ac_seq ?_
    refine ac_region ?_
    refine rwp_pr (v := .ref _ _ _) rfl ?_
    refine rwp_pr (v := .ref _ _ _) rfl ?_
    refine rwp_pr (v := .ref _ _ _) rfl ?_
    refine rwp_l M2 rfl ?_
    refine rwp_pr (v := .int _ _) rfl ?_
    refine rwp_l L5 rfl ?_
    refine rwp_p P5 rfl ?_
    refine rwp_nil ?_
    repeat first
      | refine ac_seq ?_ | refine ac_region ?_ | refine ac_block ?_ | refine ac_draw mixed ?_
      | refine ac_cond1 rfl ?_ | refine ac_cond0 rfl ?_ | refine ac_skip ?_ | refine ac_exit ?_ | refine ac_ret ?_ | refine ac_label ?_
      | refine rwp_l L6 rfl ?_ | refine swp_l L6 rfl ?_
      | refine rwp_g1 rfl ?_ | refine rwp_g0 rfl rfl ?_ | refine rwp_gt rfl ?_ | refine swp_qg1 rfl ?_ | refine swp_qg0 rfl rfl ?_ | refine swp_qgt rfl ?_
      | refine rwp_pr (v := .int _ _) rfl ?_ | refine swp_pr (v := .int _ _) rfl ?_
      | refine rwp_pr (v := .bool _) rfl ?_ | refine swp_pr (v := .bool _) rfl ?_
      | refine rwp_pr (v := .ref _ _ _) rfl ?_ | refine swp_pr (v := .ref _ _ _) rfl ?_
      | refine rwp_pr (v := .list _ _ _) rfl ?_ | refine swp_pr (v := .list _ _ _) rfl ?_
      | refine rwp_pr (v := .iptr _) rfl ?_ | refine swp_pr (v := .iptr _) rfl ?_
      | refine rwp_pr (v := .tup _) rfl ?_ | refine swp_pr (v := .tup _) rfl ?_
      | refine rwp_pr (v := .agg _) rfl ?_ | refine swp_pr (v := .agg _) rfl ?_
      | refine rwp_pr (v := .str _) rfl ?_ | refine swp_pr (v := .str _) rfl ?_
      | refine rwp_lr (v := .int _ _) rfl ?_ | refine swp_lr (v := .int _ _) rfl ?_
      | refine rwp_lr (v := .bool _) rfl ?_ | refine swp_lr (v := .bool _) rfl ?_
      | refine rwp_lr (v := .ref _ _ _) rfl ?_ | refine swp_lr (v := .ref _ _ _) rfl ?_
      | refine rwp_lr (v := .list _ _ _) rfl ?_ | refine swp_lr (v := .list _ _ _) rfl ?_
      | refine rwp_lr (v := .iptr _) rfl ?_ | refine swp_lr (v := .iptr _) rfl ?_
      | refine rwp_lr (v := .tup _) rfl ?_ | refine swp_lr (v := .tup _) rfl ?_
      | refine rwp_lr (v := .agg _) rfl ?_ | refine swp_lr (v := .agg _) rfl ?_
      | refine rwp_lr (v := .str _) rfl ?_ | refine swp_lr (v := .str _) rfl ?_
      | refine rwp_nil ?_ | refine swp_done ?_ | refine swp_e ?_
      | refine thenQ_n ?_ | refine thenQ_e ?_ | refine thenQ_r ?_ | refine blockQ_n ?_ | refine blockQ_hit ?_ | refine blockQ_miss rfl ?_ | refine blockQ_r ?_
    refine rwp_call (own25 (c + 2) (fun i => h2.ns (c + 2) (Int.le_refl _) i)) rfl (fun _ _ h => h) ?_
    rintro v st3 ⟨⟨m, rfl, hm5, hmc⟩, hO3⟩
    have h3 : Many q ids (c + 3) st3 := by
      have := h2.outs (Out.outs hO3) (by omega)
      rwa [show c + 2 + 1 = c + 3 by omega] at this
    have ht3 : st3 (c, 3) = ⟨1, some (.cells askCells)⟩ := by rw [hO3 _ (by simp only; omega)]; exact ht2
    have ht359 : st3 (c, 59) = slot0 := by rw [hO3 _ (by simp only; omega)]; exact ht259
    repeat first
      | refine ac_seq ?_ | refine ac_region ?_ | refine ac_block ?_ | refine ac_draw mixed ?_
      | refine ac_cond1 rfl ?_ | refine ac_cond0 rfl ?_ | refine ac_skip ?_ | refine ac_exit ?_ | refine ac_ret ?_ | refine ac_label ?_
      | refine rwp_g1 rfl ?_ | refine rwp_g0 rfl rfl ?_ | refine rwp_gt rfl ?_ | refine swp_qg1 rfl ?_ | refine swp_qg0 rfl rfl ?_ | refine swp_qgt rfl ?_
      | refine rwp_pr (v := .int _ _) rfl ?_ | refine swp_pr (v := .int _ _) rfl ?_
      | refine rwp_pr (v := .bool _) rfl ?_ | refine swp_pr (v := .bool _) rfl ?_
      | refine rwp_pr (v := .ref _ _ _) rfl ?_ | refine swp_pr (v := .ref _ _ _) rfl ?_
      | refine rwp_pr (v := .list _ _ _) rfl ?_ | refine swp_pr (v := .list _ _ _) rfl ?_
      | refine rwp_pr (v := .iptr _) rfl ?_ | refine swp_pr (v := .iptr _) rfl ?_
      | refine rwp_pr (v := .tup _) rfl ?_ | refine swp_pr (v := .tup _) rfl ?_
      | refine rwp_pr (v := .agg _) rfl ?_ | refine swp_pr (v := .agg _) rfl ?_
      | refine rwp_pr (v := .str _) rfl ?_ | refine swp_pr (v := .str _) rfl ?_
      | refine rwp_lr (v := .int _ _) rfl ?_ | refine swp_lr (v := .int _ _) rfl ?_
      | refine rwp_lr (v := .bool _) rfl ?_ | refine swp_lr (v := .bool _) rfl ?_
      | refine rwp_lr (v := .ref _ _ _) rfl ?_ | refine swp_lr (v := .ref _ _ _) rfl ?_
      | refine rwp_lr (v := .list _ _ _) rfl ?_ | refine swp_lr (v := .list _ _ _) rfl ?_
      | refine rwp_lr (v := .iptr _) rfl ?_ | refine swp_lr (v := .iptr _) rfl ?_
      | refine rwp_lr (v := .tup _) rfl ?_ | refine swp_lr (v := .tup _) rfl ?_
      | refine rwp_lr (v := .agg _) rfl ?_ | refine swp_lr (v := .agg _) rfl ?_
      | refine rwp_lr (v := .str _) rfl ?_ | refine swp_lr (v := .str _) rfl ?_
      | refine rwp_nil ?_ | refine swp_done ?_ | refine swp_e ?_
      | refine thenQ_n ?_ | refine thenQ_e ?_ | refine thenQ_r ?_ | refine blockQ_n ?_ | refine blockQ_hit ?_ | refine blockQ_miss rfl ?_ | refine blockQ_r ?_
    refine rwp_i (vs := [.ref (c, 3) 1 0, .agg m]) rfl ?_
    simp only [iwp]
    rw [ht3]
    refine ⟨rfl, rfl, hmc, hm5, by decide, ?_⟩
    have hsp : splice askCells 0 (AVal.agg m).cells = m ++ askTail := by simp [splice, AVal.cells, hm5, askCells, askTail]
    rw [hsp]
    generalize hst4 : st3.set (c, 3) _ = st4
    have hO4 : ∀ k : Key, k ≠ (c, 3) → st4 k = st3 k := fun k hk => by rw [← hst4]; simp only [Store.set]; rw [if_neg hk]
    have hpos := h.pos
    have h4 : Many q ids (c + 3) st4 := by rw [← hst4]; exact h3.setOwn (c := c) hpos (by omega) 3 _
    have ht4 : st4 (c, 3) = ⟨1, some (.cells (m ++ askTail))⟩ := by rw [← hst4]; simp [Store.set]
    have ht459 : st4 (c, 59) = slot0 := by rw [hO4 _ (by simp)]; exact ht359
    have N1 := eng_load h4 8 (.mapr q.kc q.vc) (fun f => rfl)
    have N2 := eng_load h4 7 (.ref q.ks q.vs 0) (fun f => rfl)
    have ldA : ∀ {st' : Store}, st' (c, 3) = ⟨1, some (.cells (m ++ askTail))⟩ → lev st' (.load (some 11)) [.ref (c, 3) 1 0] = some (.agg (m ++ askTail)) := fun ht' => by
      simp [lev, load, cellsAt, ht', partA, hm5, askTail]
      exact List.take_of_length_le (by simp [hm5])
    have ldM : ∀ {st' : Store}, st' (c, 3) = ⟨1, some (.cells (m ++ askTail))⟩ → lev st' (.load (some 5)) [.ref (c, 3) 1 0] = some (.agg m) := fun ht' => by
      simp [lev, load, cellsAt, ht', partA, hm5, askTail]
    have N3 := ldA ht4
    have N4 := ldM ht4
    repeat first
      | refine ac_seq ?_ | refine ac_region ?_ | refine ac_block ?_ | refine ac_draw mixed ?_
      | refine ac_cond1 rfl ?_ | refine ac_cond0 rfl ?_ | refine ac_skip ?_ | refine ac_exit ?_ | refine ac_ret ?_ | refine ac_label ?_
      | refine rwp_l N1 rfl ?_ | refine swp_l N1 rfl ?_
      | refine rwp_l N2 rfl ?_ | refine swp_l N2 rfl ?_
      | refine rwp_l N3 rfl ?_ | refine swp_l N3 rfl ?_
      | refine rwp_l N4 rfl ?_ | refine swp_l N4 rfl ?_
      | refine rwp_g1 rfl ?_ | refine rwp_g0 rfl rfl ?_ | refine rwp_gt rfl ?_ | refine swp_qg1 rfl ?_ | refine swp_qg0 rfl rfl ?_ | refine swp_qgt rfl ?_
      | refine rwp_pr (v := .int _ _) rfl ?_ | refine swp_pr (v := .int _ _) rfl ?_
      | refine rwp_pr (v := .bool _) rfl ?_ | refine swp_pr (v := .bool _) rfl ?_
      | refine rwp_pr (v := .ref _ _ _) rfl ?_ | refine swp_pr (v := .ref _ _ _) rfl ?_
      | refine rwp_pr (v := .list _ _ _) rfl ?_ | refine swp_pr (v := .list _ _ _) rfl ?_
      | refine rwp_pr (v := .iptr _) rfl ?_ | refine swp_pr (v := .iptr _) rfl ?_
      | refine rwp_pr (v := .tup _) rfl ?_ | refine swp_pr (v := .tup _) rfl ?_
      | refine rwp_pr (v := .agg _) rfl ?_ | refine swp_pr (v := .agg _) rfl ?_
      | refine rwp_pr (v := .str _) rfl ?_ | refine swp_pr (v := .str _) rfl ?_
      | refine rwp_lr (v := .int _ _) rfl ?_ | refine swp_lr (v := .int _ _) rfl ?_
      | refine rwp_lr (v := .bool _) rfl ?_ | refine swp_lr (v := .bool _) rfl ?_
      | refine rwp_lr (v := .ref _ _ _) rfl ?_ | refine swp_lr (v := .ref _ _ _) rfl ?_
      | refine rwp_lr (v := .list _ _ _) rfl ?_ | refine swp_lr (v := .list _ _ _) rfl ?_
      | refine rwp_lr (v := .iptr _) rfl ?_ | refine swp_lr (v := .iptr _) rfl ?_
      | refine rwp_lr (v := .tup _) rfl ?_ | refine swp_lr (v := .tup _) rfl ?_
      | refine rwp_lr (v := .agg _) rfl ?_ | refine swp_lr (v := .agg _) rfl ?_
      | refine rwp_lr (v := .str _) rfl ?_ | refine swp_lr (v := .str _) rfl ?_
      | refine rwp_nil ?_ | refine swp_done ?_ | refine swp_e ?_
      | refine thenQ_n ?_ | refine thenQ_e ?_ | refine thenQ_r ?_ | refine blockQ_n ?_ | refine blockQ_hit ?_ | refine blockQ_miss rfl ?_ | refine blockQ_r ?_
    obtain ⟨sl, hs1, hs7, hs9⟩ := h4.sta
    obtain ⟨clkr, hrow⟩ := h4.row
    obtain ⟨z1, z2, z3, z4, z5, z6⟩ := h4.zero
    refine swp_er ?_
    refine rwp_call (live27 h4.ns hs1 hs7 hs9 h4.mem hrow ⟨by rw [z4]; omega, by rw [z5]; omega, by rw [z6]; omega⟩) rfl (fun _ _ h => h) ?_
    rintro v st5 ⟨rfl, hO5⟩
    have h5 : Many q ids (c + 5) st5 := by
      rw [show c + 3 + 2 = c + 5 by omega] at hO5
      exact h4.outs hO5 (by omega)
    have ht5 : st5 (c, 3) = ⟨1, some (.cells (m ++ askTail))⟩ := by rw [hO5 _ (.inl (by simp only; omega))]; exact ht4
    have ht559 : st5 (c, 59) = slot0 := by rw [hO5 _ (.inl (by simp only; omega))]; exact ht459
    refine rwp_nil ?_
    refine ⟨stills_l (eng_load h5 8 (.mapr q.kc q.vc) (fun f => rfl)) rfl rfl (stills_l (ldA ht5) rfl rfl (stills_l (ldM ht5) rfl rfl stills_nil)), ?_⟩
    refine swp_er ?_
    refine rwp_call (meant26 h5.ns hm5) rfl (fun _ _ h => h) ?_
    rintro v st6 ⟨rfl, hO6⟩
    have h6 : Many q ids (c + 6) st6 := by
      rw [show c + 5 + 1 = c + 6 by omega] at hO6
      exact h5.outs hO6 (by omega)
    have ht6 : st6 (c, 3) = ⟨1, some (.cells (m ++ askTail))⟩ := by rw [hO6 _ (.inl (by simp only; omega))]; exact ht5
    have ht659 : st6 (c, 59) = slot0 := by rw [hO6 _ (.inl (by simp only; omega))]; exact ht559
    refine rwp_nil ?_
    refine ⟨stills_l (eng_load h6 8 (.mapr q.kc q.vc) (fun f => rfl)) rfl rfl (stills_l (ldA ht6) rfl rfl stills_nil), ?_⟩
    have Bld : pev (.build [(1, .int .i64 (.ofNat 0)), (1, .str []), (1, .str []), (1, .list .full 1 []), (1, .list .full 5 []), (1, .int .i64 (.ofNat 0)), (1, .int .i64 (.ofNat 0)), (1, .int .i64 (.ofNat 0)), (1, .int .i64 (.ofNat 0)), (1, .int .u64 (.ofNat 0)), (1, .int .u64 (.ofNat 0)), (1, .list .full 8 []), (1, .int .i64 (.ofNat 0))] [(0, 11), (11, 1)]) [.agg (m ++ askTail), noRows] = some (.agg (m ++ askTail ++ [noRows, .int .i64 0])) := by
      match m, hm5 with
      | [a, b, c, d, e], _ => rfl
    refine swp_p Bld rfl ?_
    refine swp_er ?_
    refine rwp_i (vs := [.agg (m ++ askTail ++ [noRows, .int .i64 0])]) rfl ?_
    simp only [iwp]
    refine ⟨rfl, by simp [AVal.cells, hm5, askTail], ?_⟩
    show rwp _ _ _ (Fr.put _ _ (.ref (c, 59) ((st6 (c, 59)).ver + 1) 0)) (st6.set (c, 59) ⟨(st6 (c, 59)).ver + 1, _⟩) _ _
    rw [ht659]
    have h7 := h6.setOwn (c := c) hpos (by omega) 59 ⟨slot0.ver + 1, some (.cells (AVal.agg (m ++ askTail ++ [noRows, .int .i64 0])).cells)⟩
    generalize st6.set (c, 59) _ = st7 at h7 ⊢
    refine rwp_nil ?_
    refine ⟨stills_l (eng_load h7 8 (.mapr q.kc q.vc) (fun f => rfl)) rfl rfl stills_nil, ?_⟩
    obtain ⟨es7, clk7, hes7, hcur7⟩ := h7.cur
    refine swp_e ?_
    refine rwp_i (vs := [.mapr q.kc q.vc, num j, .ref (c, 59) 1 0]) rfl ?_
    simp only [iwp]
    refine ⟨rfl, es7, clk7, mapAt_of hes7, .inr ⟨setE_out hcur7.1 hn, ?_⟩⟩
    have h8 := h7.setCur (clk := clk7 + 1) (hcur7.add hn clk7 (c, 59) 1 0)
    repeat first
      | refine ac_seq ?_ | refine ac_region ?_ | refine ac_block ?_ | refine ac_draw mixed ?_
      | refine ac_cond1 rfl ?_ | refine ac_cond0 rfl ?_ | refine ac_skip ?_ | refine ac_exit ?_ | refine ac_ret ?_ | refine ac_label ?_
      | refine rwp_g1 rfl ?_ | refine rwp_g0 rfl rfl ?_ | refine rwp_gt rfl ?_ | refine swp_qg1 rfl ?_ | refine swp_qg0 rfl rfl ?_ | refine swp_qgt rfl ?_
      | refine rwp_pr (v := .int _ _) rfl ?_ | refine swp_pr (v := .int _ _) rfl ?_
      | refine rwp_pr (v := .bool _) rfl ?_ | refine swp_pr (v := .bool _) rfl ?_
      | refine rwp_pr (v := .ref _ _ _) rfl ?_ | refine swp_pr (v := .ref _ _ _) rfl ?_
      | refine rwp_pr (v := .list _ _ _) rfl ?_ | refine swp_pr (v := .list _ _ _) rfl ?_
      | refine rwp_pr (v := .iptr _) rfl ?_ | refine swp_pr (v := .iptr _) rfl ?_
      | refine rwp_pr (v := .tup _) rfl ?_ | refine swp_pr (v := .tup _) rfl ?_
      | refine rwp_pr (v := .agg _) rfl ?_ | refine swp_pr (v := .agg _) rfl ?_
      | refine rwp_pr (v := .str _) rfl ?_ | refine swp_pr (v := .str _) rfl ?_
      | refine rwp_lr (v := .int _ _) rfl ?_ | refine swp_lr (v := .int _ _) rfl ?_
      | refine rwp_lr (v := .bool _) rfl ?_ | refine swp_lr (v := .bool _) rfl ?_
      | refine rwp_lr (v := .ref _ _ _) rfl ?_ | refine swp_lr (v := .ref _ _ _) rfl ?_
      | refine rwp_lr (v := .list _ _ _) rfl ?_ | refine swp_lr (v := .list _ _ _) rfl ?_
      | refine rwp_lr (v := .iptr _) rfl ?_ | refine swp_lr (v := .iptr _) rfl ?_
      | refine rwp_lr (v := .tup _) rfl ?_ | refine swp_lr (v := .tup _) rfl ?_
      | refine rwp_lr (v := .agg _) rfl ?_ | refine swp_lr (v := .agg _) rfl ?_
      | refine rwp_lr (v := .str _) rfl ?_ | refine swp_lr (v := .str _) rfl ?_
      | refine rwp_nil ?_ | refine swp_done ?_ | refine swp_e ?_
      | refine thenQ_n ?_ | refine thenQ_e ?_ | refine thenQ_r ?_ | refine blockQ_n ?_ | refine blockQ_hit ?_ | refine blockQ_miss rfl ?_ | refine blockQ_r ?_
    exact ⟨_, rfl, rfl, h8⟩

end Go.Am.Tab
