/- EngineMany over the abstract machine: whatever the list, it returns true. -/
import Derived.Test.YteinffefhcpcmaaGreatDoorVtMany6
set_option linter.unusedVariables false
set_option linter.unusedSimpArgs false
set_option linter.unusedSectionVars false
namespace Go.Am.Tab
open Go.Am Go.Proofs
set_option maxRecDepth 100000

/-- An object of the first name space, but for the question, is exchanged. -/
theorem Many.set1 {q : Ks} {ids : List Nat} {c : Int} {st : Store} (h : Many q ids c st) (i : Nat) (hi : i ≠ 5) (s : Slot) : Many q ids c (st.set (1, i) s) := by
  have hp := h.pos
  have hO : ∀ k : Key, k ≠ (1, i) → (st.set (1, i) s) k = st k := fun k hk => by simp only [Store.set]; rw [if_neg hk]
  have z : ∀ k : Key, k.1 = 0 → (st.set (1, i) s) k = st k := fun k hk => hO k (by rintro rfl; simp at hk)
  obtain ⟨z1, z2, z3, z4, z5, z6⟩ := h.zero
  exact ⟨by rw [z _ z1]; exact h.on, by rw [z _ z2]; exact h.eng, by rw [z _ z3]; exact h.cur, by rw [z _ z4]; exact h.sta, by rw [z _ z5]; exact h.mem, by rw [z _ z6]; exact h.row, h.zero, h.ne,
    fun i hi => by rw [z (0, i) rfl]; exact h.fresh i hi, h.lt, fun c' hc' i => by rw [hO _ (by intro e; have := congrArg Prod.fst e; simp only at this; omega)]; exact h.ns c' hc' i, h.pos, by
      rw [hO _ (by intro e; have := congrArg Prod.snd e; simp only at this; omega)]; exact h.own⟩

theorem Many.on_load {q : Ks} {ids : List Nat} {c : Int} {st : Store} (h : Many q ids c st) : lev st (.load none) [.ref q.ko q.vo 1] = some (.ref q.ke q.ve 0) := by
  obtain ⟨x, y, hxy⟩ := h.on
  simp [lev, load, cellsAt, hxy, partA]

theorem Many.ask_load {q : Ks} {ids : List Nat} {c : Int} {st : Store} (h : Many q ids c st) : lev st (.load (some 11)) [.ref (1, 5) 1 0] = some askA := by
  simp [lev, load, cellsAt, h.own, partA, askCells, askA]

theorem Many.nodup {q : Ks} {ids : List Nat} {c : Int} {st : Store} (h : Many q ids c st) : ids.Nodup := by
  obtain ⟨es, clk, _, hc⟩ := h.cur
  exact hc.2.1

theorem neqSame (n : Nat) : pev (.bin .neq) [num n, num n] = some (.bool false) := by simp [num, pev, abin, aint]

theorem addOne (n : Nat) (h : n < 1000) : pev (.bin .add) [num n, .int .i64 (.ofNat 1)] = some (num (n + 1)) := by
  simp only [num, pev, abin, aint, if_true]
  rw [show ((n : Int) + Int.ofNat 1) = ((n + 1 : Nat) : Int) from rfl]
  congr 2
  simp [IntKind.wrap, IntKind.signed, IntKind.bits]
  omega

set_option maxHeartbeats 4000000 in
theorem many3 {st : Store} (hf : Fresh 0 st) (hns : Ns 1 st) {X : AVal} {l : List Int} (hX : IntsArg X l) : ACalls Tryz.prog 3 [X] st tru := by
  refine ACalls_of Tryz.func3 c3 (nmC 1) (by simp [a3]) ?_
  have M : pev .mv [X] = some X := rfl
  have C0 := hX.len
  unfold a3
  repeat first
    | refine ac_seq ?_ | refine ac_region ?_ | refine ac_block ?_ | refine ac_draw mixed ?_
    | refine ac_cond1 rfl ?_ | refine ac_cond0 rfl ?_ | refine ac_skip ?_ | refine ac_exit ?_ | refine ac_ret ?_ | refine ac_label ?_
    | refine rwp_g1 rfl ?_ | refine rwp_g0 rfl rfl ?_ | refine rwp_gt rfl ?_ | refine swp_qg1 rfl ?_ | refine swp_qg0 rfl rfl ?_ | refine swp_qgt rfl ?_
    | refine rwp_pr (v := .int _ _) rfl ?_ | refine swp_pr (v := .int _ _) rfl ?_
    | refine rwp_pr (v := .bool _) rfl ?_ | refine swp_pr (v := .bool _) rfl ?_
    | refine rwp_pr (v := .ref _ _ _) rfl ?_ | refine swp_pr (v := .ref _ _ _) rfl ?_
    | refine rwp_pr (v := .list _ _ _) rfl ?_ | refine swp_pr (v := .list _ _ _) rfl ?_
    | refine rwp_pr (v := .iptr _) rfl ?_ | refine swp_pr (v := .iptr _) rfl ?_
    | refine rwp_pr (v := .tup _) rfl ?_ | refine swp_pr (v := .tup _) rfl ?_
    | refine rwp_pr (v := .agg _) rfl ?_ | refine swp_pr (v := .agg _) rfl ?_
    | refine rwp_pr (v := .str _) rfl ?_ | refine swp_pr (v := .str _) rfl ?_
    | refine rwp_lr (v := .int _ _) rfl ?_ | refine swp_lr (v := .int _ _) rfl ?_
    | refine rwp_lr (v := .bool _) rfl ?_ | refine swp_lr (v := .bool _) rfl ?_
    | refine rwp_lr (v := .ref _ _ _) rfl ?_ | refine swp_lr (v := .ref _ _ _) rfl ?_
    | refine rwp_lr (v := .list _ _ _) rfl ?_ | refine swp_lr (v := .list _ _ _) rfl ?_
    | refine rwp_lr (v := .iptr _) rfl ?_ | refine swp_lr (v := .iptr _) rfl ?_
    | refine rwp_lr (v := .tup _) rfl ?_ | refine swp_lr (v := .tup _) rfl ?_
    | refine rwp_lr (v := .agg _) rfl ?_ | refine swp_lr (v := .agg _) rfl ?_
    | refine rwp_lr (v := .str _) rfl ?_ | refine swp_lr (v := .str _) rfl ?_
    | refine rwp_nil ?_ | refine swp_done ?_ | refine swp_e ?_
    | refine thenQ_n ?_ | refine thenQ_e ?_ | refine thenQ_r ?_ | refine blockQ_n ?_ | refine blockQ_hit ?_ | refine blockQ_miss rfl ?_ | refine blockQ_r ?_
  refine rwp_call (conf7n hf hns) rfl (fun _ _ h => h) ?_
  rintro v st1 ⟨rfl, hf1, hns1⟩
  refine rwp_call (new6 hf1 hns1) rfl (fun _ _ h => h) ?_
  rintro v st2 ⟨q, rfl, hq⟩
  repeat first
    | refine ac_seq ?_ | refine ac_region ?_ | refine ac_block ?_ | refine ac_draw mixed ?_
    | refine ac_cond1 rfl ?_ | refine ac_cond0 rfl ?_ | refine ac_skip ?_ | refine ac_exit ?_ | refine ac_ret ?_ | refine ac_label ?_
    | refine rwp_g1 rfl ?_ | refine rwp_g0 rfl rfl ?_ | refine rwp_gt rfl ?_ | refine swp_qg1 rfl ?_ | refine swp_qg0 rfl rfl ?_ | refine swp_qgt rfl ?_
    | refine rwp_pr (v := .int _ _) rfl ?_ | refine swp_pr (v := .int _ _) rfl ?_
    | refine rwp_pr (v := .bool _) rfl ?_ | refine swp_pr (v := .bool _) rfl ?_
    | refine rwp_pr (v := .ref _ _ _) rfl ?_ | refine swp_pr (v := .ref _ _ _) rfl ?_
    | refine rwp_pr (v := .list _ _ _) rfl ?_ | refine swp_pr (v := .list _ _ _) rfl ?_
    | refine rwp_pr (v := .iptr _) rfl ?_ | refine swp_pr (v := .iptr _) rfl ?_
    | refine rwp_pr (v := .tup _) rfl ?_ | refine swp_pr (v := .tup _) rfl ?_
    | refine rwp_pr (v := .agg _) rfl ?_ | refine swp_pr (v := .agg _) rfl ?_
    | refine rwp_pr (v := .str _) rfl ?_ | refine swp_pr (v := .str _) rfl ?_
    | refine rwp_lr (v := .int _ _) rfl ?_ | refine swp_lr (v := .int _ _) rfl ?_
    | refine rwp_lr (v := .bool _) rfl ?_ | refine swp_lr (v := .bool _) rfl ?_
    | refine rwp_lr (v := .ref _ _ _) rfl ?_ | refine swp_lr (v := .ref _ _ _) rfl ?_
    | refine rwp_lr (v := .list _ _ _) rfl ?_ | refine swp_lr (v := .list _ _ _) rfl ?_
    | refine rwp_lr (v := .iptr _) rfl ?_ | refine swp_lr (v := .iptr _) rfl ?_
    | refine rwp_lr (v := .tup _) rfl ?_ | refine swp_lr (v := .tup _) rfl ?_
    | refine rwp_lr (v := .agg _) rfl ?_ | refine swp_lr (v := .agg _) rfl ?_
    | refine rwp_lr (v := .str _) rfl ?_ | refine swp_lr (v := .str _) rfl ?_
    | refine rwp_nil ?_ | refine swp_done ?_ | refine swp_e ?_
    | refine thenQ_n ?_ | refine thenQ_e ?_ | refine thenQ_r ?_ | refine blockQ_n ?_ | refine blockQ_hit ?_ | refine blockQ_miss rfl ?_ | refine blockQ_r ?_
  refine rwp_i (vs := []) rfl ?_
  simp only [iwp]
  have hk0 : st2 (1, 5) = slot0 := hq.ns 1 (Int.le_refl _) 5
  show rwp _ _ _ (Fr.put _ _ (.ref (1, 5) ((st2 (1, 5)).ver + 1) 0)) (st2.set (1, 5) ⟨(st2 (1, 5)).ver + 1, some (.cells (Zero.cells _))⟩) _ _
  rw [hk0]
  refine rwp_i (vs := [.ref (1, 5) 1 0, askA]) rfl ?_
  simp only [iwp, Store.set_at, Store.set_set]
  refine ⟨rfl, rfl, by decide, rfl, by decide, ?_⟩
  have hMany : Many q [] 2 (st2.set (1, 5) ⟨1, some (.cells askCells)⟩) := by
    have z : ∀ k : Key, k.1 = 0 → (st2.set (1, 5) ⟨1, some (.cells askCells)⟩) k = st2 k := fun k hk => by
      simp only [Store.set]
      rw [if_neg (by rintro rfl; simp at hk)]
    obtain ⟨z1, z2, z3, z4, z5, z6⟩ := hq.zero
    obtain ⟨clk, hcu⟩ := hq.cur
    exact ⟨by rw [z _ z1]; exact hq.on, by rw [z _ z2]; exact hq.eng, ⟨[], clk, by rw [z _ z3]; exact hcu, rfl, List.nodup_nil, fun e he => by cases he⟩, by rw [z _ z4]; exact hq.sta, by rw [z _ z5]; exact hq.mem, by rw [z _ z6]; exact hq.row, hq.zero, hq.ne,
      fun i hi => by rw [z (0, i) rfl]; exact hq.fresh i hi, hq.lt, fun c' hc' i => by
        simp only [Store.set]
        rw [if_neg (by intro e; have := congrArg Prod.fst e; simp only at this; omega)]
        exact hq.ns c' (by omega) i, Int.le_refl _, by simp [Store.set]⟩
  have hsp : splice (Zero.cells [(1, .int .i64 (.ofNat 0)), (1, .str []), (1, .str []), (1, .list .full 1 []), (1, .list .full 5 []), (1, .int .i64 (.ofNat 0)), (1, .int .i64 (.ofNat 0)), (1, .int .i64 (.ofNat 0)), (1, .int .i64 (.ofNat 0)), (1, .int .u64 (.ofNat 0)), (1, .int .u64 (.ofNat 0))]) 0 askA.cells = askCells := rfl
  rw [hsp]
  show rwp _ _ _ _ (st2.set (1, 5) ⟨1, some (.cells askCells)⟩) _ _
  generalize st2.set (1, 5) ⟨1, some (.cells askCells)⟩ = st3 at hMany ⊢
  repeat first
    | refine ac_seq ?_ | refine ac_region ?_ | refine ac_block ?_ | refine ac_draw mixed ?_
    | refine ac_cond1 rfl ?_ | refine ac_cond0 rfl ?_ | refine ac_skip ?_ | refine ac_exit ?_ | refine ac_ret ?_ | refine ac_label ?_
    | refine rwp_g1 rfl ?_ | refine rwp_g0 rfl rfl ?_ | refine rwp_gt rfl ?_ | refine swp_qg1 rfl ?_ | refine swp_qg0 rfl rfl ?_ | refine swp_qgt rfl ?_
    | refine rwp_pr (v := .int _ _) rfl ?_ | refine swp_pr (v := .int _ _) rfl ?_
    | refine rwp_pr (v := .bool _) rfl ?_ | refine swp_pr (v := .bool _) rfl ?_
    | refine rwp_pr (v := .ref _ _ _) rfl ?_ | refine swp_pr (v := .ref _ _ _) rfl ?_
    | refine rwp_pr (v := .list _ _ _) rfl ?_ | refine swp_pr (v := .list _ _ _) rfl ?_
    | refine rwp_pr (v := .iptr _) rfl ?_ | refine swp_pr (v := .iptr _) rfl ?_
    | refine rwp_pr (v := .tup _) rfl ?_ | refine swp_pr (v := .tup _) rfl ?_
    | refine rwp_pr (v := .agg _) rfl ?_ | refine swp_pr (v := .agg _) rfl ?_
    | refine rwp_pr (v := .str _) rfl ?_ | refine swp_pr (v := .str _) rfl ?_
    | refine rwp_lr (v := .int _ _) rfl ?_ | refine swp_lr (v := .int _ _) rfl ?_
    | refine rwp_lr (v := .bool _) rfl ?_ | refine swp_lr (v := .bool _) rfl ?_
    | refine rwp_lr (v := .ref _ _ _) rfl ?_ | refine swp_lr (v := .ref _ _ _) rfl ?_
    | refine rwp_lr (v := .list _ _ _) rfl ?_ | refine swp_lr (v := .list _ _ _) rfl ?_
    | refine rwp_lr (v := .iptr _) rfl ?_ | refine swp_lr (v := .iptr _) rfl ?_
    | refine rwp_lr (v := .tup _) rfl ?_ | refine swp_lr (v := .tup _) rfl ?_
    | refine rwp_lr (v := .agg _) rfl ?_ | refine swp_lr (v := .agg _) rfl ?_
    | refine rwp_lr (v := .str _) rfl ?_ | refine swp_lr (v := .str _) rfl ?_
    | refine rwp_nil ?_ | refine swp_done ?_ | refine swp_e ?_
    | refine thenQ_n ?_ | refine thenQ_e ?_ | refine thenQ_r ?_ | refine blockQ_n ?_ | refine blockQ_hit ?_ | refine blockQ_miss rfl ?_ | refine blockQ_r ?_
  refine AC.loop (X := Nat) (fun i fr st' => 1 ≤ i ∧ i ≤ 17 ∧ fr.get 0 = X ∧ fr.get 3 = .ref q.ko q.vo 0 ∧ fr.get 5 = .ref (1, 5) 1 0 ∧ fr.get 6 = num i ∧ ∃ c ids, Many q ids c st' ∧ ids.length + 1 = i ∧ ∀ j, j ∈ ids ↔ 1 ≤ j ∧ j < i) (fun i => 17 - i) ?_ (x := 1)
    ⟨Nat.le_refl _, by omega, rfl, rfl, rfl, rfl, 2, [], hMany, rfl, fun j => by simp; omega⟩
  rintro i fr st4 ⟨hi1, hi2, e0, e3, e5, e6, c, ids, hM, hlen, hids⟩
  refine AC.forget (fr' := [(0, X), (3, .ref q.ko q.vo 0), (5, .ref (1, 5) 1 0), (6, num i)]) ?_ (forget_of (by simp [e0, e3, e5, e6]))
  have L1 := hM.on_load
  have L2 := hM.ask_load
  by_cases hi : i ≤ 16
  · have C1 : pev (.bin .leq) [num i, .int .i64 (.ofNat 16)] = some (.bool true) := by simp [num, pev, abin, aint]; omega
    repeat first
      | refine ac_seq ?_ | refine ac_region ?_ | refine ac_block ?_ | refine ac_draw mixed ?_
      | refine ac_cond1 rfl ?_ | refine ac_cond0 rfl ?_ | refine ac_skip ?_ | refine ac_exit ?_ | refine ac_ret ?_ | refine ac_label ?_
      | refine rwp_p C1 rfl ?_ | refine swp_p C1 rfl ?_
      | refine rwp_l L1 rfl ?_ | refine swp_l L1 rfl ?_
      | refine rwp_l L2 rfl ?_ | refine swp_l L2 rfl ?_
      | refine rwp_g1 rfl ?_ | refine rwp_g0 rfl rfl ?_ | refine rwp_gt rfl ?_ | refine swp_qg1 rfl ?_ | refine swp_qg0 rfl rfl ?_ | refine swp_qgt rfl ?_
      | refine rwp_pr (v := .int _ _) rfl ?_ | refine swp_pr (v := .int _ _) rfl ?_
      | refine rwp_pr (v := .bool _) rfl ?_ | refine swp_pr (v := .bool _) rfl ?_
      | refine rwp_pr (v := .ref _ _ _) rfl ?_ | refine swp_pr (v := .ref _ _ _) rfl ?_
      | refine rwp_pr (v := .list _ _ _) rfl ?_ | refine swp_pr (v := .list _ _ _) rfl ?_
      | refine rwp_pr (v := .iptr _) rfl ?_ | refine swp_pr (v := .iptr _) rfl ?_
      | refine rwp_pr (v := .tup _) rfl ?_ | refine swp_pr (v := .tup _) rfl ?_
      | refine rwp_pr (v := .agg _) rfl ?_ | refine swp_pr (v := .agg _) rfl ?_
      | refine rwp_pr (v := .str _) rfl ?_ | refine swp_pr (v := .str _) rfl ?_
      | refine rwp_lr (v := .int _ _) rfl ?_ | refine swp_lr (v := .int _ _) rfl ?_
      | refine rwp_lr (v := .bool _) rfl ?_ | refine swp_lr (v := .bool _) rfl ?_
      | refine rwp_lr (v := .ref _ _ _) rfl ?_ | refine swp_lr (v := .ref _ _ _) rfl ?_
      | refine rwp_lr (v := .list _ _ _) rfl ?_ | refine swp_lr (v := .list _ _ _) rfl ?_
      | refine rwp_lr (v := .iptr _) rfl ?_ | refine swp_lr (v := .iptr _) rfl ?_
      | refine rwp_lr (v := .tup _) rfl ?_ | refine swp_lr (v := .tup _) rfl ?_
      | refine rwp_lr (v := .agg _) rfl ?_ | refine swp_lr (v := .agg _) rfl ?_
      | refine rwp_lr (v := .str _) rfl ?_ | refine swp_lr (v := .str _) rfl ?_
      | refine rwp_nil ?_ | refine swp_done ?_ | refine swp_e ?_
      | refine thenQ_n ?_ | refine thenQ_e ?_ | refine thenQ_r ?_ | refine blockQ_n ?_ | refine blockQ_hit ?_ | refine blockQ_miss rfl ?_ | refine blockQ_r ?_
    refine rwp_call (ask_new hM (by omega) (n := i) (fun h => by have := (hids i).1 h; omega) hi1 hi (fun j h1 h2 => (hids j).2 ⟨h1, h2⟩)) rfl (fun _ _ h => h) ?_
    rintro v st5 ⟨rfl, hM5⟩
    have N1 := neqSame i
    have A1 := addOne i (by omega)
    repeat first
      | refine ac_seq ?_ | refine ac_region ?_ | refine ac_block ?_ | refine ac_draw mixed ?_
      | refine ac_cond1 rfl ?_ | refine ac_cond0 rfl ?_ | refine ac_skip ?_ | refine ac_exit ?_ | refine ac_ret ?_ | refine ac_label ?_
      | refine rwp_p N1 rfl ?_ | refine swp_p N1 rfl ?_
      | refine rwp_p A1 rfl ?_ | refine swp_p A1 rfl ?_
      | refine rwp_g1 rfl ?_ | refine rwp_g0 rfl rfl ?_ | refine rwp_gt rfl ?_ | refine swp_qg1 rfl ?_ | refine swp_qg0 rfl rfl ?_ | refine swp_qgt rfl ?_
      | refine rwp_pr (v := .int _ _) rfl ?_ | refine swp_pr (v := .int _ _) rfl ?_
      | refine rwp_pr (v := .bool _) rfl ?_ | refine swp_pr (v := .bool _) rfl ?_
      | refine rwp_pr (v := .ref _ _ _) rfl ?_ | refine swp_pr (v := .ref _ _ _) rfl ?_
      | refine rwp_pr (v := .list _ _ _) rfl ?_ | refine swp_pr (v := .list _ _ _) rfl ?_
      | refine rwp_pr (v := .iptr _) rfl ?_ | refine swp_pr (v := .iptr _) rfl ?_
      | refine rwp_pr (v := .tup _) rfl ?_ | refine swp_pr (v := .tup _) rfl ?_
      | refine rwp_pr (v := .agg _) rfl ?_ | refine swp_pr (v := .agg _) rfl ?_
      | refine rwp_pr (v := .str _) rfl ?_ | refine swp_pr (v := .str _) rfl ?_
      | refine rwp_lr (v := .int _ _) rfl ?_ | refine swp_lr (v := .int _ _) rfl ?_
      | refine rwp_lr (v := .bool _) rfl ?_ | refine swp_lr (v := .bool _) rfl ?_
      | refine rwp_lr (v := .ref _ _ _) rfl ?_ | refine swp_lr (v := .ref _ _ _) rfl ?_
      | refine rwp_lr (v := .list _ _ _) rfl ?_ | refine swp_lr (v := .list _ _ _) rfl ?_
      | refine rwp_lr (v := .iptr _) rfl ?_ | refine swp_lr (v := .iptr _) rfl ?_
      | refine rwp_lr (v := .tup _) rfl ?_ | refine swp_lr (v := .tup _) rfl ?_
      | refine rwp_lr (v := .agg _) rfl ?_ | refine swp_lr (v := .agg _) rfl ?_
      | refine rwp_lr (v := .str _) rfl ?_ | refine swp_lr (v := .str _) rfl ?_
      | refine rwp_nil ?_ | refine swp_done ?_ | refine swp_e ?_
      | refine thenQ_n ?_ | refine thenQ_e ?_ | refine thenQ_r ?_ | refine blockQ_n ?_ | refine blockQ_hit ?_ | refine blockQ_miss rfl ?_ | refine blockQ_r ?_
    refine ⟨i + 1, ⟨by omega, by omega, rfl, rfl, rfl, rfl, c + 6, ids ++ [i], hM5, by simp; omega, fun j => ?_⟩, by omega⟩
    simp only [List.mem_append, List.mem_singleton, hids]
    omega
  · have C1 : pev (.bin .leq) [num i, .int .i64 (.ofNat 16)] = some (.bool false) := by simp [num, pev, abin, aint]; omega
    have hi17 : i = 17 := by omega
    subst hi17
    repeat first
      | refine ac_seq ?_ | refine ac_region ?_ | refine ac_block ?_ | refine ac_draw mixed ?_
      | refine ac_cond1 rfl ?_ | refine ac_cond0 rfl ?_ | refine ac_skip ?_ | refine ac_exit ?_ | refine ac_ret ?_ | refine ac_label ?_
      | refine rwp_p C1 rfl ?_ | refine swp_p C1 rfl ?_
      | refine rwp_l L1 rfl ?_ | refine swp_l L1 rfl ?_
      | refine rwp_l L2 rfl ?_ | refine swp_l L2 rfl ?_
      | refine rwp_g1 rfl ?_ | refine rwp_g0 rfl rfl ?_ | refine rwp_gt rfl ?_ | refine swp_qg1 rfl ?_ | refine swp_qg0 rfl rfl ?_ | refine swp_qgt rfl ?_
      | refine rwp_pr (v := .int _ _) rfl ?_ | refine swp_pr (v := .int _ _) rfl ?_
      | refine rwp_pr (v := .bool _) rfl ?_ | refine swp_pr (v := .bool _) rfl ?_
      | refine rwp_pr (v := .ref _ _ _) rfl ?_ | refine swp_pr (v := .ref _ _ _) rfl ?_
      | refine rwp_pr (v := .list _ _ _) rfl ?_ | refine swp_pr (v := .list _ _ _) rfl ?_
      | refine rwp_pr (v := .iptr _) rfl ?_ | refine swp_pr (v := .iptr _) rfl ?_
      | refine rwp_pr (v := .tup _) rfl ?_ | refine swp_pr (v := .tup _) rfl ?_
      | refine rwp_pr (v := .agg _) rfl ?_ | refine swp_pr (v := .agg _) rfl ?_
      | refine rwp_pr (v := .str _) rfl ?_ | refine swp_pr (v := .str _) rfl ?_
      | refine rwp_lr (v := .int _ _) rfl ?_ | refine swp_lr (v := .int _ _) rfl ?_
      | refine rwp_lr (v := .bool _) rfl ?_ | refine swp_lr (v := .bool _) rfl ?_
      | refine rwp_lr (v := .ref _ _ _) rfl ?_ | refine swp_lr (v := .ref _ _ _) rfl ?_
      | refine rwp_lr (v := .list _ _ _) rfl ?_ | refine swp_lr (v := .list _ _ _) rfl ?_
      | refine rwp_lr (v := .iptr _) rfl ?_ | refine swp_lr (v := .iptr _) rfl ?_
      | refine rwp_lr (v := .tup _) rfl ?_ | refine swp_lr (v := .tup _) rfl ?_
      | refine rwp_lr (v := .agg _) rfl ?_ | refine swp_lr (v := .agg _) rfl ?_
      | refine rwp_lr (v := .str _) rfl ?_ | refine swp_lr (v := .str _) rfl ?_
      | refine rwp_nil ?_ | refine swp_done ?_ | refine swp_e ?_
      | refine thenQ_n ?_ | refine thenQ_e ?_ | refine thenQ_r ?_ | refine blockQ_n ?_ | refine blockQ_hit ?_ | refine blockQ_miss rfl ?_ | refine blockQ_r ?_
    refine rwp_call (ask_full hM (by omega)) rfl (fun _ _ h => h) ?_
    rintro v st5 ⟨rfl, hM5⟩
    repeat first
      | refine ac_seq ?_ | refine ac_region ?_ | refine ac_block ?_ | refine ac_draw mixed ?_
      | refine ac_cond1 rfl ?_ | refine ac_cond0 rfl ?_ | refine ac_skip ?_ | refine ac_exit ?_ | refine ac_ret ?_ | refine ac_label ?_
      | refine rwp_g1 rfl ?_ | refine rwp_g0 rfl rfl ?_ | refine rwp_gt rfl ?_ | refine swp_qg1 rfl ?_ | refine swp_qg0 rfl rfl ?_ | refine swp_qgt rfl ?_
      | refine rwp_pr (v := .int _ _) rfl ?_ | refine swp_pr (v := .int _ _) rfl ?_
      | refine rwp_pr (v := .bool _) rfl ?_ | refine swp_pr (v := .bool _) rfl ?_
      | refine rwp_pr (v := .ref _ _ _) rfl ?_ | refine swp_pr (v := .ref _ _ _) rfl ?_
      | refine rwp_pr (v := .list _ _ _) rfl ?_ | refine swp_pr (v := .list _ _ _) rfl ?_
      | refine rwp_pr (v := .iptr _) rfl ?_ | refine swp_pr (v := .iptr _) rfl ?_
      | refine rwp_pr (v := .tup _) rfl ?_ | refine swp_pr (v := .tup _) rfl ?_
      | refine rwp_pr (v := .agg _) rfl ?_ | refine swp_pr (v := .agg _) rfl ?_
      | refine rwp_pr (v := .str _) rfl ?_ | refine swp_pr (v := .str _) rfl ?_
      | refine rwp_lr (v := .int _ _) rfl ?_ | refine swp_lr (v := .int _ _) rfl ?_
      | refine rwp_lr (v := .bool _) rfl ?_ | refine swp_lr (v := .bool _) rfl ?_
      | refine rwp_lr (v := .ref _ _ _) rfl ?_ | refine swp_lr (v := .ref _ _ _) rfl ?_
      | refine rwp_lr (v := .list _ _ _) rfl ?_ | refine swp_lr (v := .list _ _ _) rfl ?_
      | refine rwp_lr (v := .iptr _) rfl ?_ | refine swp_lr (v := .iptr _) rfl ?_
      | refine rwp_lr (v := .tup _) rfl ?_ | refine swp_lr (v := .tup _) rfl ?_
      | refine rwp_lr (v := .agg _) rfl ?_ | refine swp_lr (v := .agg _) rfl ?_
      | refine rwp_lr (v := .str _) rfl ?_ | refine swp_lr (v := .str _) rfl ?_
      | refine rwp_nil ?_ | refine swp_done ?_ | refine swp_e ?_
      | refine thenQ_n ?_ | refine thenQ_e ?_ | refine thenQ_r ?_ | refine blockQ_n ?_ | refine blockQ_hit ?_ | refine blockQ_miss rfl ?_ | refine blockQ_r ?_
    refine AC.loop (X := Nat) (fun i fr st' => i ≤ 20 ∧ i ≤ l.length ∧ fr.get 0 = X ∧ fr.get 3 = .ref q.ko q.vo 0 ∧ fr.get 5 = .ref (1, 5) 1 0 ∧ fr.get 11 = num i ∧ ∃ c ids, Many q ids c st' ∧ ids.length = 16 ∧ ∀ j, j ∈ ids ↔ 1 ≤ j ∧ j ≤ 16) (fun i => 20 - i) ?_ (x := 0)
      ⟨by omega, by omega, rfl, rfl, rfl, rfl, c + 2, ids, hM5, by omega, fun j => by rw [hids]; omega⟩
    rintro i fr st6 ⟨hi1, hi2, e0, e3, e5, e11, c, ids, hM, hlen, hids⟩
    refine AC.forget (fr' := [(0, X), (3, .ref q.ko q.vo 0), (5, .ref (1, 5) 1 0), (11, num i)]) ?_ (forget_of (by simp [e0, e3, e5, e11]))
    have L1 := hM.on_load
    have L2 := hM.ask_load
    by_cases hc : i < l.length ∧ i < 20
    · obtain ⟨hc1, hc2⟩ := hc
      have C1 : pev (.bin .lss) [num i, .int .i64 (l.length : Int)] = some (.bool true) := by simp [num, pev, abin, aint]; omega
      have C2 : pev (.bin .lss) [num i, .int .i64 (.ofNat 20)] = some (.bool true) := by simp [num, pev, abin, aint]; omega
      obtain ⟨d, hd⟩ : ∃ d, l[i]? = some d := ⟨l[i], List.getElem?_eq_getElem hc1⟩
      obtain ⟨cs, C3⟩ := hX.el i d hd
      repeat first
        | refine ac_seq ?_ | refine ac_region ?_ | refine ac_block ?_ | refine ac_draw mixed ?_
        | refine ac_cond1 rfl ?_ | refine ac_cond0 rfl ?_ | refine ac_skip ?_ | refine ac_exit ?_ | refine ac_ret ?_ | refine ac_label ?_
        | refine rwp_p M rfl ?_ | refine swp_p M rfl ?_
        | refine rwp_p C0 rfl ?_ | refine swp_p C0 rfl ?_
        | refine rwp_p C1 rfl ?_ | refine swp_p C1 rfl ?_
        | refine rwp_p C2 rfl ?_ | refine swp_p C2 rfl ?_
        | refine rwp_p C3 rfl ?_ | refine swp_p C3 rfl ?_
        | refine rwp_l L1 rfl ?_ | refine swp_l L1 rfl ?_
        | refine rwp_l L2 rfl ?_ | refine swp_l L2 rfl ?_
        | refine rwp_g1 rfl ?_ | refine rwp_g0 rfl rfl ?_ | refine rwp_gt rfl ?_ | refine swp_qg1 rfl ?_ | refine swp_qg0 rfl rfl ?_ | refine swp_qgt rfl ?_
        | refine rwp_pr (v := .int _ _) rfl ?_ | refine swp_pr (v := .int _ _) rfl ?_
        | refine rwp_pr (v := .bool _) rfl ?_ | refine swp_pr (v := .bool _) rfl ?_
        | refine rwp_pr (v := .ref _ _ _) rfl ?_ | refine swp_pr (v := .ref _ _ _) rfl ?_
        | refine rwp_pr (v := .list _ _ _) rfl ?_ | refine swp_pr (v := .list _ _ _) rfl ?_
        | refine rwp_pr (v := .iptr _) rfl ?_ | refine swp_pr (v := .iptr _) rfl ?_
        | refine rwp_pr (v := .tup _) rfl ?_ | refine swp_pr (v := .tup _) rfl ?_
        | refine rwp_pr (v := .agg _) rfl ?_ | refine swp_pr (v := .agg _) rfl ?_
        | refine rwp_pr (v := .str _) rfl ?_ | refine swp_pr (v := .str _) rfl ?_
        | refine rwp_lr (v := .int _ _) rfl ?_ | refine swp_lr (v := .int _ _) rfl ?_
        | refine rwp_lr (v := .bool _) rfl ?_ | refine swp_lr (v := .bool _) rfl ?_
        | refine rwp_lr (v := .ref _ _ _) rfl ?_ | refine swp_lr (v := .ref _ _ _) rfl ?_
        | refine rwp_lr (v := .list _ _ _) rfl ?_ | refine swp_lr (v := .list _ _ _) rfl ?_
        | refine rwp_lr (v := .iptr _) rfl ?_ | refine swp_lr (v := .iptr _) rfl ?_
        | refine rwp_lr (v := .tup _) rfl ?_ | refine swp_lr (v := .tup _) rfl ?_
        | refine rwp_lr (v := .agg _) rfl ?_ | refine swp_lr (v := .agg _) rfl ?_
        | refine rwp_lr (v := .str _) rfl ?_ | refine swp_lr (v := .str _) rfl ?_
        | refine rwp_nil ?_ | refine swp_done ?_ | refine swp_e ?_
        | refine thenQ_n ?_ | refine thenQ_e ?_ | refine thenQ_r ?_ | refine blockQ_n ?_ | refine blockQ_hit ?_ | refine blockQ_miss rfl ?_ | refine blockQ_r ?_
      refine rwp_call (place9 d _) rfl (fun _ _ h => h) ?_
      rintro v st7 ⟨⟨m, hm, rfl⟩, rfl⟩
      have A0 : pev (.bin .add) [.int .i64 (.ofNat 1), .int .i64 (m : Int)] = some (num (m + 1)) := by
        simp only [num, pev, abin, aint, if_true]
        rw [show (Int.ofNat 1 + (m : Int)) = ((m + 1 : Nat) : Int) by simp; omega]
        congr 2
        simp [IntKind.wrap, IntKind.signed, IntKind.bits]
        omega
      have hk : m + 1 ∈ ids := (hids _).2 (by omega)
      have hk' : m + 1 ∉ ids.erase (m + 1) := fun h => (hM.nodup.mem_erase_iff.1 h).1 rfl
      repeat first
        | refine ac_seq ?_ | refine ac_region ?_ | refine ac_block ?_ | refine ac_draw mixed ?_
        | refine ac_cond1 rfl ?_ | refine ac_cond0 rfl ?_ | refine ac_skip ?_ | refine ac_exit ?_ | refine ac_ret ?_ | refine ac_label ?_
        | refine rwp_p A0 rfl ?_ | refine swp_p A0 rfl ?_
        | refine rwp_l L1 rfl ?_ | refine swp_l L1 rfl ?_
        | refine rwp_l L2 rfl ?_ | refine swp_l L2 rfl ?_
        | refine rwp_g1 rfl ?_ | refine rwp_g0 rfl rfl ?_ | refine rwp_gt rfl ?_ | refine swp_qg1 rfl ?_ | refine swp_qg0 rfl rfl ?_ | refine swp_qgt rfl ?_
        | refine rwp_pr (v := .int _ _) rfl ?_ | refine swp_pr (v := .int _ _) rfl ?_
        | refine rwp_pr (v := .bool _) rfl ?_ | refine swp_pr (v := .bool _) rfl ?_
        | refine rwp_pr (v := .ref _ _ _) rfl ?_ | refine swp_pr (v := .ref _ _ _) rfl ?_
        | refine rwp_pr (v := .list _ _ _) rfl ?_ | refine swp_pr (v := .list _ _ _) rfl ?_
        | refine rwp_pr (v := .iptr _) rfl ?_ | refine swp_pr (v := .iptr _) rfl ?_
        | refine rwp_pr (v := .tup _) rfl ?_ | refine swp_pr (v := .tup _) rfl ?_
        | refine rwp_pr (v := .agg _) rfl ?_ | refine swp_pr (v := .agg _) rfl ?_
        | refine rwp_pr (v := .str _) rfl ?_ | refine swp_pr (v := .str _) rfl ?_
        | refine rwp_lr (v := .int _ _) rfl ?_ | refine swp_lr (v := .int _ _) rfl ?_
        | refine rwp_lr (v := .bool _) rfl ?_ | refine swp_lr (v := .bool _) rfl ?_
        | refine rwp_lr (v := .ref _ _ _) rfl ?_ | refine swp_lr (v := .ref _ _ _) rfl ?_
        | refine rwp_lr (v := .list _ _ _) rfl ?_ | refine swp_lr (v := .list _ _ _) rfl ?_
        | refine rwp_lr (v := .iptr _) rfl ?_ | refine swp_lr (v := .iptr _) rfl ?_
        | refine rwp_lr (v := .tup _) rfl ?_ | refine swp_lr (v := .tup _) rfl ?_
        | refine rwp_lr (v := .agg _) rfl ?_ | refine swp_lr (v := .agg _) rfl ?_
        | refine rwp_lr (v := .str _) rfl ?_ | refine swp_lr (v := .str _) rfl ?_
        | refine rwp_nil ?_ | refine swp_done ?_ | refine swp_e ?_
        | refine thenQ_n ?_ | refine thenQ_e ?_ | refine thenQ_r ?_ | refine blockQ_n ?_ | refine blockQ_hit ?_ | refine blockQ_miss rfl ?_ | refine blockQ_r ?_
      refine rwp_call (end_in hM hk) rfl (fun _ _ h => h) ?_
      rintro v st8 ⟨rfl, hM8⟩
      have M1 := hM8.on_load
      have M2 := hM8.ask_load
      repeat first
        | refine ac_seq ?_ | refine ac_region ?_ | refine ac_block ?_ | refine ac_draw mixed ?_
        | refine ac_cond1 rfl ?_ | refine ac_cond0 rfl ?_ | refine ac_skip ?_ | refine ac_exit ?_ | refine ac_ret ?_ | refine ac_label ?_
        | refine rwp_l M1 rfl ?_ | refine swp_l M1 rfl ?_
        | refine rwp_l M2 rfl ?_ | refine swp_l M2 rfl ?_
        | refine rwp_g1 rfl ?_ | refine rwp_g0 rfl rfl ?_ | refine rwp_gt rfl ?_ | refine swp_qg1 rfl ?_ | refine swp_qg0 rfl rfl ?_ | refine swp_qgt rfl ?_
        | refine rwp_pr (v := .int _ _) rfl ?_ | refine swp_pr (v := .int _ _) rfl ?_
        | refine rwp_pr (v := .bool _) rfl ?_ | refine swp_pr (v := .bool _) rfl ?_
        | refine rwp_pr (v := .ref _ _ _) rfl ?_ | refine swp_pr (v := .ref _ _ _) rfl ?_
        | refine rwp_pr (v := .list _ _ _) rfl ?_ | refine swp_pr (v := .list _ _ _) rfl ?_
        | refine rwp_pr (v := .iptr _) rfl ?_ | refine swp_pr (v := .iptr _) rfl ?_
        | refine rwp_pr (v := .tup _) rfl ?_ | refine swp_pr (v := .tup _) rfl ?_
        | refine rwp_pr (v := .agg _) rfl ?_ | refine swp_pr (v := .agg _) rfl ?_
        | refine rwp_pr (v := .str _) rfl ?_ | refine swp_pr (v := .str _) rfl ?_
        | refine rwp_lr (v := .int _ _) rfl ?_ | refine swp_lr (v := .int _ _) rfl ?_
        | refine rwp_lr (v := .bool _) rfl ?_ | refine swp_lr (v := .bool _) rfl ?_
        | refine rwp_lr (v := .ref _ _ _) rfl ?_ | refine swp_lr (v := .ref _ _ _) rfl ?_
        | refine rwp_lr (v := .list _ _ _) rfl ?_ | refine swp_lr (v := .list _ _ _) rfl ?_
        | refine rwp_lr (v := .iptr _) rfl ?_ | refine swp_lr (v := .iptr _) rfl ?_
        | refine rwp_lr (v := .tup _) rfl ?_ | refine swp_lr (v := .tup _) rfl ?_
        | refine rwp_lr (v := .agg _) rfl ?_ | refine swp_lr (v := .agg _) rfl ?_
        | refine rwp_lr (v := .str _) rfl ?_ | refine swp_lr (v := .str _) rfl ?_
        | refine rwp_nil ?_ | refine swp_done ?_ | refine swp_e ?_
        | refine thenQ_n ?_ | refine thenQ_e ?_ | refine thenQ_r ?_ | refine blockQ_n ?_ | refine blockQ_hit ?_ | refine blockQ_miss rfl ?_ | refine blockQ_r ?_
      refine rwp_call (end_out hM8 hk') rfl (fun _ _ h => h) ?_
      rintro v st9 ⟨rfl, rfl⟩
      repeat first
        | refine ac_seq ?_ | refine ac_region ?_ | refine ac_block ?_ | refine ac_draw mixed ?_
        | refine ac_cond1 rfl ?_ | refine ac_cond0 rfl ?_ | refine ac_skip ?_ | refine ac_exit ?_ | refine ac_ret ?_ | refine ac_label ?_
        | refine rwp_l M1 rfl ?_ | refine swp_l M1 rfl ?_
        | refine rwp_l M2 rfl ?_ | refine swp_l M2 rfl ?_
        | refine rwp_g1 rfl ?_ | refine rwp_g0 rfl rfl ?_ | refine rwp_gt rfl ?_ | refine swp_qg1 rfl ?_ | refine swp_qg0 rfl rfl ?_ | refine swp_qgt rfl ?_
        | refine rwp_pr (v := .int _ _) rfl ?_ | refine swp_pr (v := .int _ _) rfl ?_
        | refine rwp_pr (v := .bool _) rfl ?_ | refine swp_pr (v := .bool _) rfl ?_
        | refine rwp_pr (v := .ref _ _ _) rfl ?_ | refine swp_pr (v := .ref _ _ _) rfl ?_
        | refine rwp_pr (v := .list _ _ _) rfl ?_ | refine swp_pr (v := .list _ _ _) rfl ?_
        | refine rwp_pr (v := .iptr _) rfl ?_ | refine swp_pr (v := .iptr _) rfl ?_
        | refine rwp_pr (v := .tup _) rfl ?_ | refine swp_pr (v := .tup _) rfl ?_
        | refine rwp_pr (v := .agg _) rfl ?_ | refine swp_pr (v := .agg _) rfl ?_
        | refine rwp_pr (v := .str _) rfl ?_ | refine swp_pr (v := .str _) rfl ?_
        | refine rwp_lr (v := .int _ _) rfl ?_ | refine swp_lr (v := .int _ _) rfl ?_
        | refine rwp_lr (v := .bool _) rfl ?_ | refine swp_lr (v := .bool _) rfl ?_
        | refine rwp_lr (v := .ref _ _ _) rfl ?_ | refine swp_lr (v := .ref _ _ _) rfl ?_
        | refine rwp_lr (v := .list _ _ _) rfl ?_ | refine swp_lr (v := .list _ _ _) rfl ?_
        | refine rwp_lr (v := .iptr _) rfl ?_ | refine swp_lr (v := .iptr _) rfl ?_
        | refine rwp_lr (v := .tup _) rfl ?_ | refine swp_lr (v := .tup _) rfl ?_
        | refine rwp_lr (v := .agg _) rfl ?_ | refine swp_lr (v := .agg _) rfl ?_
        | refine rwp_lr (v := .str _) rfl ?_ | refine swp_lr (v := .str _) rfl ?_
        | refine rwp_nil ?_ | refine swp_done ?_ | refine swp_e ?_
        | refine thenQ_n ?_ | refine thenQ_e ?_ | refine thenQ_r ?_ | refine blockQ_n ?_ | refine blockQ_hit ?_ | refine blockQ_miss rfl ?_ | refine blockQ_r ?_
      refine rwp_call (next_out hM8 hk') rfl (fun _ _ h => h) ?_
      rintro v st10 ⟨⟨a0, rfl, rfl⟩, hO10⟩
      have hM10 := hM8.outs hO10 (by omega)
      repeat first
        | refine ac_seq ?_ | refine ac_region ?_ | refine ac_block ?_ | refine ac_draw mixed ?_
        | refine ac_cond1 rfl ?_ | refine ac_cond0 rfl ?_ | refine ac_skip ?_ | refine ac_exit ?_ | refine ac_ret ?_ | refine ac_label ?_
        | refine rwp_g1 rfl ?_ | refine rwp_g0 rfl rfl ?_ | refine rwp_gt rfl ?_ | refine swp_qg1 rfl ?_ | refine swp_qg0 rfl rfl ?_ | refine swp_qgt rfl ?_
        | refine rwp_pr (v := .int _ _) rfl ?_ | refine swp_pr (v := .int _ _) rfl ?_
        | refine rwp_pr (v := .bool _) rfl ?_ | refine swp_pr (v := .bool _) rfl ?_
        | refine rwp_pr (v := .ref _ _ _) rfl ?_ | refine swp_pr (v := .ref _ _ _) rfl ?_
        | refine rwp_pr (v := .list _ _ _) rfl ?_ | refine swp_pr (v := .list _ _ _) rfl ?_
        | refine rwp_pr (v := .iptr _) rfl ?_ | refine swp_pr (v := .iptr _) rfl ?_
        | refine rwp_pr (v := .tup _) rfl ?_ | refine swp_pr (v := .tup _) rfl ?_
        | refine rwp_pr (v := .agg _) rfl ?_ | refine swp_pr (v := .agg _) rfl ?_
        | refine rwp_pr (v := .str _) rfl ?_ | refine swp_pr (v := .str _) rfl ?_
        | refine rwp_lr (v := .int _ _) rfl ?_ | refine swp_lr (v := .int _ _) rfl ?_
        | refine rwp_lr (v := .bool _) rfl ?_ | refine swp_lr (v := .bool _) rfl ?_
        | refine rwp_lr (v := .ref _ _ _) rfl ?_ | refine swp_lr (v := .ref _ _ _) rfl ?_
        | refine rwp_lr (v := .list _ _ _) rfl ?_ | refine swp_lr (v := .list _ _ _) rfl ?_
        | refine rwp_lr (v := .iptr _) rfl ?_ | refine swp_lr (v := .iptr _) rfl ?_
        | refine rwp_lr (v := .tup _) rfl ?_ | refine swp_lr (v := .tup _) rfl ?_
        | refine rwp_lr (v := .agg _) rfl ?_ | refine swp_lr (v := .agg _) rfl ?_
        | refine rwp_lr (v := .str _) rfl ?_ | refine swp_lr (v := .str _) rfl ?_
        | refine rwp_nil ?_ | refine swp_done ?_ | refine swp_e ?_
        | refine thenQ_n ?_ | refine thenQ_e ?_ | refine thenQ_r ?_ | refine blockQ_n ?_ | refine blockQ_hit ?_ | refine blockQ_miss rfl ?_ | refine blockQ_r ?_
      refine rwp_i (vs := []) rfl ?_
      simp only [iwp]
      show rwp _ _ _ (Fr.put _ _ (.ref (1, 13) ((st10 (1, 13)).ver + 1) 0)) (st10.set (1, 13) ⟨(st10 (1, 13)).ver + 1, some (.cells (Zero.cells _))⟩) _ _
      generalize (st10 (1, 13)).ver + 1 = v13
      refine rwp_i (vs := [.ref (1, 13) v13 0, .agg [.int .i64 0, .bool false, .int .u64 0, .int .i64 0]]) rfl ?_
      simp only [iwp, Store.set_at, Store.set_set]
      refine ⟨trivial, rfl, by decide, rfl, by decide, ?_⟩
      have hM11 := hM10.set1 13 (by omega) ⟨v13, some (.cells (splice (Zero.cells [(1, .int .i64 (.ofNat 0)), (1, .bool false), (1, .int .u64 (.ofNat 0)), (1, .int .i64 (.ofNat 0))]) 0 (AVal.agg [.int .i64 0, .bool false, .int .u64 0, .int .i64 0]).cells))⟩
      generalize st10.set (1, 13) _ = st11 at hM11 ⊢
      have P1 := hM11.on_load
      have P2 := hM11.ask_load
      repeat first
        | refine ac_seq ?_ | refine ac_region ?_ | refine ac_block ?_ | refine ac_draw mixed ?_
        | refine ac_cond1 rfl ?_ | refine ac_cond0 rfl ?_ | refine ac_skip ?_ | refine ac_exit ?_ | refine ac_ret ?_ | refine ac_label ?_
        | refine rwp_l P1 rfl ?_ | refine swp_l P1 rfl ?_
        | refine rwp_l P2 rfl ?_ | refine swp_l P2 rfl ?_
        | refine rwp_g1 rfl ?_ | refine rwp_g0 rfl rfl ?_ | refine rwp_gt rfl ?_ | refine swp_qg1 rfl ?_ | refine swp_qg0 rfl rfl ?_ | refine swp_qgt rfl ?_
        | refine rwp_pr (v := .int _ _) rfl ?_ | refine swp_pr (v := .int _ _) rfl ?_
        | refine rwp_pr (v := .bool _) rfl ?_ | refine swp_pr (v := .bool _) rfl ?_
        | refine rwp_pr (v := .ref _ _ _) rfl ?_ | refine swp_pr (v := .ref _ _ _) rfl ?_
        | refine rwp_pr (v := .list _ _ _) rfl ?_ | refine swp_pr (v := .list _ _ _) rfl ?_
        | refine rwp_pr (v := .iptr _) rfl ?_ | refine swp_pr (v := .iptr _) rfl ?_
        | refine rwp_pr (v := .tup _) rfl ?_ | refine swp_pr (v := .tup _) rfl ?_
        | refine rwp_pr (v := .agg _) rfl ?_ | refine swp_pr (v := .agg _) rfl ?_
        | refine rwp_pr (v := .str _) rfl ?_ | refine swp_pr (v := .str _) rfl ?_
        | refine rwp_lr (v := .int _ _) rfl ?_ | refine swp_lr (v := .int _ _) rfl ?_
        | refine rwp_lr (v := .bool _) rfl ?_ | refine swp_lr (v := .bool _) rfl ?_
        | refine rwp_lr (v := .ref _ _ _) rfl ?_ | refine swp_lr (v := .ref _ _ _) rfl ?_
        | refine rwp_lr (v := .list _ _ _) rfl ?_ | refine swp_lr (v := .list _ _ _) rfl ?_
        | refine rwp_lr (v := .iptr _) rfl ?_ | refine swp_lr (v := .iptr _) rfl ?_
        | refine rwp_lr (v := .tup _) rfl ?_ | refine swp_lr (v := .tup _) rfl ?_
        | refine rwp_lr (v := .agg _) rfl ?_ | refine swp_lr (v := .agg _) rfl ?_
        | refine rwp_lr (v := .str _) rfl ?_ | refine swp_lr (v := .str _) rfl ?_
        | refine rwp_nil ?_ | refine swp_done ?_ | refine swp_e ?_
        | refine thenQ_n ?_ | refine thenQ_e ?_ | refine thenQ_r ?_ | refine blockQ_n ?_ | refine blockQ_hit ?_ | refine blockQ_miss rfl ?_ | refine blockQ_r ?_
      have hlen11 : (ids.erase (m + 1)).length = 15 := by rw [List.length_erase_of_mem hk, hlen]
      refine rwp_call (ask_new hM11 (by omega) (n := m + 1) hk' (by omega) (by omega) (fun j h1 h2 => hM.nodup.mem_erase_iff.2 ⟨by omega, (hids j).2 (by omega)⟩)) rfl (fun _ _ h => h) ?_
      rintro v st12 ⟨rfl, hM12⟩
      have N1 := neqSame (m + 1)
      have A1 := addOne i (by omega)
      repeat first
        | refine ac_seq ?_ | refine ac_region ?_ | refine ac_block ?_ | refine ac_draw mixed ?_
        | refine ac_cond1 rfl ?_ | refine ac_cond0 rfl ?_ | refine ac_skip ?_ | refine ac_exit ?_ | refine ac_ret ?_ | refine ac_label ?_
        | refine rwp_p N1 rfl ?_ | refine swp_p N1 rfl ?_
        | refine rwp_p A1 rfl ?_ | refine swp_p A1 rfl ?_
        | refine rwp_g1 rfl ?_ | refine rwp_g0 rfl rfl ?_ | refine rwp_gt rfl ?_ | refine swp_qg1 rfl ?_ | refine swp_qg0 rfl rfl ?_ | refine swp_qgt rfl ?_
        | refine rwp_pr (v := .int _ _) rfl ?_ | refine swp_pr (v := .int _ _) rfl ?_
        | refine rwp_pr (v := .bool _) rfl ?_ | refine swp_pr (v := .bool _) rfl ?_
        | refine rwp_pr (v := .ref _ _ _) rfl ?_ | refine swp_pr (v := .ref _ _ _) rfl ?_
        | refine rwp_pr (v := .list _ _ _) rfl ?_ | refine swp_pr (v := .list _ _ _) rfl ?_
        | refine rwp_pr (v := .iptr _) rfl ?_ | refine swp_pr (v := .iptr _) rfl ?_
        | refine rwp_pr (v := .tup _) rfl ?_ | refine swp_pr (v := .tup _) rfl ?_
        | refine rwp_pr (v := .agg _) rfl ?_ | refine swp_pr (v := .agg _) rfl ?_
        | refine rwp_pr (v := .str _) rfl ?_ | refine swp_pr (v := .str _) rfl ?_
        | refine rwp_lr (v := .int _ _) rfl ?_ | refine swp_lr (v := .int _ _) rfl ?_
        | refine rwp_lr (v := .bool _) rfl ?_ | refine swp_lr (v := .bool _) rfl ?_
        | refine rwp_lr (v := .ref _ _ _) rfl ?_ | refine swp_lr (v := .ref _ _ _) rfl ?_
        | refine rwp_lr (v := .list _ _ _) rfl ?_ | refine swp_lr (v := .list _ _ _) rfl ?_
        | refine rwp_lr (v := .iptr _) rfl ?_ | refine swp_lr (v := .iptr _) rfl ?_
        | refine rwp_lr (v := .tup _) rfl ?_ | refine swp_lr (v := .tup _) rfl ?_
        | refine rwp_lr (v := .agg _) rfl ?_ | refine swp_lr (v := .agg _) rfl ?_
        | refine rwp_lr (v := .str _) rfl ?_ | refine swp_lr (v := .str _) rfl ?_
        | refine rwp_nil ?_ | refine swp_done ?_ | refine swp_e ?_
        | refine thenQ_n ?_ | refine thenQ_e ?_ | refine thenQ_r ?_ | refine blockQ_n ?_ | refine blockQ_hit ?_ | refine blockQ_miss rfl ?_ | refine blockQ_r ?_
      refine ⟨i + 1, ⟨by omega, by omega, rfl, rfl, rfl, rfl, _, _, hM12, by simp [hlen11], fun j => ?_⟩, by omega⟩
      simp only [List.mem_append, List.mem_singleton, hM.nodup.mem_erase_iff, hids]
      omega
    · by_cases hc1 : i < l.length
      · have C1 : pev (.bin .lss) [num i, .int .i64 (l.length : Int)] = some (.bool true) := by simp [num, pev, abin, aint]; omega
        have C2 : pev (.bin .lss) [num i, .int .i64 (.ofNat 20)] = some (.bool false) := by simp [num, pev, abin, aint]; omega
        repeat first
          | refine ac_seq ?_ | refine ac_region ?_ | refine ac_block ?_ | refine ac_draw mixed ?_
          | refine ac_cond1 rfl ?_ | refine ac_cond0 rfl ?_ | refine ac_skip ?_ | refine ac_exit ?_ | refine ac_ret ?_ | refine ac_label ?_
          | refine rwp_p M rfl ?_ | refine swp_p M rfl ?_
          | refine rwp_p C0 rfl ?_ | refine swp_p C0 rfl ?_
          | refine rwp_p C1 rfl ?_ | refine swp_p C1 rfl ?_
          | refine rwp_p C2 rfl ?_ | refine swp_p C2 rfl ?_
          | refine rwp_g1 rfl ?_ | refine rwp_g0 rfl rfl ?_ | refine rwp_gt rfl ?_ | refine swp_qg1 rfl ?_ | refine swp_qg0 rfl rfl ?_ | refine swp_qgt rfl ?_
          | refine rwp_pr (v := .int _ _) rfl ?_ | refine swp_pr (v := .int _ _) rfl ?_
          | refine rwp_pr (v := .bool _) rfl ?_ | refine swp_pr (v := .bool _) rfl ?_
          | refine rwp_pr (v := .ref _ _ _) rfl ?_ | refine swp_pr (v := .ref _ _ _) rfl ?_
          | refine rwp_pr (v := .list _ _ _) rfl ?_ | refine swp_pr (v := .list _ _ _) rfl ?_
          | refine rwp_pr (v := .iptr _) rfl ?_ | refine swp_pr (v := .iptr _) rfl ?_
          | refine rwp_pr (v := .tup _) rfl ?_ | refine swp_pr (v := .tup _) rfl ?_
          | refine rwp_pr (v := .agg _) rfl ?_ | refine swp_pr (v := .agg _) rfl ?_
          | refine rwp_pr (v := .str _) rfl ?_ | refine swp_pr (v := .str _) rfl ?_
          | refine rwp_lr (v := .int _ _) rfl ?_ | refine swp_lr (v := .int _ _) rfl ?_
          | refine rwp_lr (v := .bool _) rfl ?_ | refine swp_lr (v := .bool _) rfl ?_
          | refine rwp_lr (v := .ref _ _ _) rfl ?_ | refine swp_lr (v := .ref _ _ _) rfl ?_
          | refine rwp_lr (v := .list _ _ _) rfl ?_ | refine swp_lr (v := .list _ _ _) rfl ?_
          | refine rwp_lr (v := .iptr _) rfl ?_ | refine swp_lr (v := .iptr _) rfl ?_
          | refine rwp_lr (v := .tup _) rfl ?_ | refine swp_lr (v := .tup _) rfl ?_
          | refine rwp_lr (v := .agg _) rfl ?_ | refine swp_lr (v := .agg _) rfl ?_
          | refine rwp_lr (v := .str _) rfl ?_ | refine swp_lr (v := .str _) rfl ?_
          | refine rwp_nil ?_ | refine swp_done ?_ | refine swp_e ?_
          | refine thenQ_n ?_ | refine thenQ_e ?_ | refine thenQ_r ?_ | refine blockQ_n ?_ | refine blockQ_hit ?_ | refine blockQ_miss rfl ?_ | refine blockQ_r ?_
        refine rwp_call (awake12 hM.fresh) rfl (fun _ _ h => h) ?_
        intro v st7 he
        obtain rfl : v = .bool true := he
        repeat first
          | refine ac_seq ?_ | refine ac_region ?_ | refine ac_block ?_ | refine ac_draw mixed ?_
          | refine ac_cond1 rfl ?_ | refine ac_cond0 rfl ?_ | refine ac_skip ?_ | refine ac_exit ?_ | refine ac_ret ?_ | refine ac_label ?_
          | refine rwp_g1 rfl ?_ | refine rwp_g0 rfl rfl ?_ | refine rwp_gt rfl ?_ | refine swp_qg1 rfl ?_ | refine swp_qg0 rfl rfl ?_ | refine swp_qgt rfl ?_
          | refine rwp_pr (v := .int _ _) rfl ?_ | refine swp_pr (v := .int _ _) rfl ?_
          | refine rwp_pr (v := .bool _) rfl ?_ | refine swp_pr (v := .bool _) rfl ?_
          | refine rwp_pr (v := .ref _ _ _) rfl ?_ | refine swp_pr (v := .ref _ _ _) rfl ?_
          | refine rwp_pr (v := .list _ _ _) rfl ?_ | refine swp_pr (v := .list _ _ _) rfl ?_
          | refine rwp_pr (v := .iptr _) rfl ?_ | refine swp_pr (v := .iptr _) rfl ?_
          | refine rwp_pr (v := .tup _) rfl ?_ | refine swp_pr (v := .tup _) rfl ?_
          | refine rwp_pr (v := .agg _) rfl ?_ | refine swp_pr (v := .agg _) rfl ?_
          | refine rwp_pr (v := .str _) rfl ?_ | refine swp_pr (v := .str _) rfl ?_
          | refine rwp_lr (v := .int _ _) rfl ?_ | refine swp_lr (v := .int _ _) rfl ?_
          | refine rwp_lr (v := .bool _) rfl ?_ | refine swp_lr (v := .bool _) rfl ?_
          | refine rwp_lr (v := .ref _ _ _) rfl ?_ | refine swp_lr (v := .ref _ _ _) rfl ?_
          | refine rwp_lr (v := .list _ _ _) rfl ?_ | refine swp_lr (v := .list _ _ _) rfl ?_
          | refine rwp_lr (v := .iptr _) rfl ?_ | refine swp_lr (v := .iptr _) rfl ?_
          | refine rwp_lr (v := .tup _) rfl ?_ | refine swp_lr (v := .tup _) rfl ?_
          | refine rwp_lr (v := .agg _) rfl ?_ | refine swp_lr (v := .agg _) rfl ?_
          | refine rwp_lr (v := .str _) rfl ?_ | refine swp_lr (v := .str _) rfl ?_
          | refine rwp_nil ?_ | refine swp_done ?_ | refine swp_e ?_
          | refine thenQ_n ?_ | refine thenQ_e ?_ | refine thenQ_r ?_ | refine blockQ_n ?_ | refine blockQ_hit ?_ | refine blockQ_miss rfl ?_ | refine blockQ_r ?_
        exact ⟨.bool true, rfl, rfl⟩
      · have C1 : pev (.bin .lss) [num i, .int .i64 (l.length : Int)] = some (.bool false) := by simp [num, pev, abin, aint]; omega
        repeat first
          | refine ac_seq ?_ | refine ac_region ?_ | refine ac_block ?_ | refine ac_draw mixed ?_
          | refine ac_cond1 rfl ?_ | refine ac_cond0 rfl ?_ | refine ac_skip ?_ | refine ac_exit ?_ | refine ac_ret ?_ | refine ac_label ?_
          | refine rwp_p M rfl ?_ | refine swp_p M rfl ?_
          | refine rwp_p C0 rfl ?_ | refine swp_p C0 rfl ?_
          | refine rwp_p C1 rfl ?_ | refine swp_p C1 rfl ?_
          | refine rwp_g1 rfl ?_ | refine rwp_g0 rfl rfl ?_ | refine rwp_gt rfl ?_ | refine swp_qg1 rfl ?_ | refine swp_qg0 rfl rfl ?_ | refine swp_qgt rfl ?_
          | refine rwp_pr (v := .int _ _) rfl ?_ | refine swp_pr (v := .int _ _) rfl ?_
          | refine rwp_pr (v := .bool _) rfl ?_ | refine swp_pr (v := .bool _) rfl ?_
          | refine rwp_pr (v := .ref _ _ _) rfl ?_ | refine swp_pr (v := .ref _ _ _) rfl ?_
          | refine rwp_pr (v := .list _ _ _) rfl ?_ | refine swp_pr (v := .list _ _ _) rfl ?_
          | refine rwp_pr (v := .iptr _) rfl ?_ | refine swp_pr (v := .iptr _) rfl ?_
          | refine rwp_pr (v := .tup _) rfl ?_ | refine swp_pr (v := .tup _) rfl ?_
          | refine rwp_pr (v := .agg _) rfl ?_ | refine swp_pr (v := .agg _) rfl ?_
          | refine rwp_pr (v := .str _) rfl ?_ | refine swp_pr (v := .str _) rfl ?_
          | refine rwp_lr (v := .int _ _) rfl ?_ | refine swp_lr (v := .int _ _) rfl ?_
          | refine rwp_lr (v := .bool _) rfl ?_ | refine swp_lr (v := .bool _) rfl ?_
          | refine rwp_lr (v := .ref _ _ _) rfl ?_ | refine swp_lr (v := .ref _ _ _) rfl ?_
          | refine rwp_lr (v := .list _ _ _) rfl ?_ | refine swp_lr (v := .list _ _ _) rfl ?_
          | refine rwp_lr (v := .iptr _) rfl ?_ | refine swp_lr (v := .iptr _) rfl ?_
          | refine rwp_lr (v := .tup _) rfl ?_ | refine swp_lr (v := .tup _) rfl ?_
          | refine rwp_lr (v := .agg _) rfl ?_ | refine swp_lr (v := .agg _) rfl ?_
          | refine rwp_lr (v := .str _) rfl ?_ | refine swp_lr (v := .str _) rfl ?_
          | refine rwp_nil ?_ | refine swp_done ?_ | refine swp_e ?_
          | refine thenQ_n ?_ | refine thenQ_e ?_ | refine thenQ_r ?_ | refine blockQ_n ?_ | refine blockQ_hit ?_ | refine blockQ_miss rfl ?_ | refine blockQ_r ?_
        refine rwp_call (awake12 hM.fresh) rfl (fun _ _ h => h) ?_
        intro v st7 he
        obtain rfl : v = .bool true := he
        repeat first
          | refine ac_seq ?_ | refine ac_region ?_ | refine ac_block ?_ | refine ac_draw mixed ?_
          | refine ac_cond1 rfl ?_ | refine ac_cond0 rfl ?_ | refine ac_skip ?_ | refine ac_exit ?_ | refine ac_ret ?_ | refine ac_label ?_
          | refine rwp_g1 rfl ?_ | refine rwp_g0 rfl rfl ?_ | refine rwp_gt rfl ?_ | refine swp_qg1 rfl ?_ | refine swp_qg0 rfl rfl ?_ | refine swp_qgt rfl ?_
          | refine rwp_pr (v := .int _ _) rfl ?_ | refine swp_pr (v := .int _ _) rfl ?_
          | refine rwp_pr (v := .bool _) rfl ?_ | refine swp_pr (v := .bool _) rfl ?_
          | refine rwp_pr (v := .ref _ _ _) rfl ?_ | refine swp_pr (v := .ref _ _ _) rfl ?_
          | refine rwp_pr (v := .list _ _ _) rfl ?_ | refine swp_pr (v := .list _ _ _) rfl ?_
          | refine rwp_pr (v := .iptr _) rfl ?_ | refine swp_pr (v := .iptr _) rfl ?_
          | refine rwp_pr (v := .tup _) rfl ?_ | refine swp_pr (v := .tup _) rfl ?_
          | refine rwp_pr (v := .agg _) rfl ?_ | refine swp_pr (v := .agg _) rfl ?_
          | refine rwp_pr (v := .str _) rfl ?_ | refine swp_pr (v := .str _) rfl ?_
          | refine rwp_lr (v := .int _ _) rfl ?_ | refine swp_lr (v := .int _ _) rfl ?_
          | refine rwp_lr (v := .bool _) rfl ?_ | refine swp_lr (v := .bool _) rfl ?_
          | refine rwp_lr (v := .ref _ _ _) rfl ?_ | refine swp_lr (v := .ref _ _ _) rfl ?_
          | refine rwp_lr (v := .list _ _ _) rfl ?_ | refine swp_lr (v := .list _ _ _) rfl ?_
          | refine rwp_lr (v := .iptr _) rfl ?_ | refine swp_lr (v := .iptr _) rfl ?_
          | refine rwp_lr (v := .tup _) rfl ?_ | refine swp_lr (v := .tup _) rfl ?_
          | refine rwp_lr (v := .agg _) rfl ?_ | refine swp_lr (v := .agg _) rfl ?_
          | refine rwp_lr (v := .str _) rfl ?_ | refine swp_lr (v := .str _) rfl ?_
          | refine rwp_nil ?_ | refine swp_done ?_ | refine swp_e ?_
          | refine thenQ_n ?_ | refine thenQ_e ?_ | refine thenQ_r ?_ | refine blockQ_n ?_ | refine blockQ_hit ?_ | refine blockQ_miss rfl ?_ | refine blockQ_r ?_
        exact ⟨.bool true, rfl, rfl⟩

end Go.Am.Tab
