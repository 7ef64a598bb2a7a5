/- EngineTicks over the abstract machine: the loop. -/
import Derived.Test.YteinffefhcpcmaaGreatDoorVtTicks
import Derived.Test.YteinffefhcpcmaaGreatDoorAmStep
namespace Go.Am.Tab
open Go.Am Go.Proofs

/-- The numbers that a list of values is. -/
def ints (l : List Int) : List AVal := l.map (AVal.int .i64)

/-- A slice of numbers. -/
structure IntsArg (X : AVal) (l : List Int) : Prop where
  len : pev .lenL [X] = some (.int .i64 (l.length : Int))
  el : ∀ (i : Nat) (d : Int), l[i]? = some d → ∃ cs, pev (.iaddr 1) [X, .int .i64 (i : Int)] = some (.iptr (.int .i64 d :: cs))

def tru : AEnd → Store → Prop := endK (fun v _ => v = .bool true) (fun _ _ => False)

set_option maxHeartbeats 4000000 in
set_option maxRecDepth 100000 in
theorem ticks4 {st : Store} (hf : Fresh 0 st) {X : AVal} {l : List Int} (hX : IntsArg X l) : ACalls Tryz.prog 4 [X] st tru := by
  refine ACalls_of Tryz.func4 c4 (nmOf 0) (by simp [a4]) (AC_of_awp mixed ?_)
  simp [a4, awp, rwp, ropG, rop, thenQ, Fr.get, Fr.put, Fr.ev, argFr, pev, iwp]
  refine (conf7 hf).mono fun e st1 he => ?_
  cases e with
  | panic v => exact he.elim
  | ret v =>
  obtain ⟨rfl, hf1⟩ := he
  simp [endK, rwp, ropG, rop, thenQ, Fr.get, Fr.put, Fr.ev, pev, iwp]
  refine (open6 hf1).mono fun e st2 he => ?_
  cases e with
  | panic v => exact he.elim
  | ret v =>
  obtain ⟨ko, vo, ke, ve, rfl, ho⟩ := he
  simp [endK, awp, rwp, ropG, rop, thenQ, Fr.get, Fr.put, Fr.ev, pev, iwp, aun]
  refine AC.loop (X := Nat) (fun i fr st' => i ≤ 60 ∧ i ≤ l.length ∧ fr.get 0 = X ∧ fr.get 3 = .ref ko vo 0 ∧ fr.get 6 = .int .i64 (i : Int) ∧ ∃ n : Nat, n ≤ slots1 ∧ fr.get 5 = .int .i64 (n : Int) ∧ Opened ko vo ke ve n st') (fun i => 60 - i) ?_ (x := 0) ?_
  · rintro i fr st' ⟨hi60, hil2, e0, e3, e6, n, hn, e5, ho'⟩
    obtain ⟨xo, yo, hon⟩ := ho'.on
    refine AC.forget (fr' := [(0, X), (3, .ref ko vo 0), (6, .int .i64 (i : Int)), (5, .int .i64 (n : Int))]) ?_ (forget_of (by simp [e0, e3, e5, e6]))
    have L1 : lev st' (.load none) [.ref ko vo 1] = some (.ref ke ve 0) := by simp [lev, load, cellsAt, hon, partA]
    have C0 := hX.len
    have M : pev .mv [X] = some X := rfl
    by_cases hc : i < l.length ∧ i < 60
    · obtain ⟨hc1, hc2⟩ := hc
      have C1 : pev (.bin .lss) [.int .i64 (i : Int), .int .i64 (l.length : Int)] = some (.bool true) := by simp [pev, abin, aint]; omega
      have C2 : pev (.bin .lss) [.int .i64 (i : Int), .int .i64 60] = some (.bool true) := by simp [pev, abin, aint]; omega
      obtain ⟨d, hd⟩ : ∃ d, l[i]? = some d := ⟨l[i], List.getElem?_eq_getElem hc1⟩
      obtain ⟨cs, C3⟩ := hX.el i d hd
      have C4 : pev (.bin .add) [.int .i64 (i : Int), .int .i64 1] = some (.int .i64 ((i + 1 : Nat) : Int)) := by
        simp [pev, abin, aint]
        rw [show ((i : Int) + 1) = ((i + 1 : Nat) : Int) by omega]; exact wrapN (by omega)
      have C5 : pev .pick [.bool true, .bool true, .bool false] = some (.bool true) := rfl
      repeat first
        | refine ac_seq ?_ | refine ac_region ?_ | refine ac_block ?_ | refine ac_draw mixed ?_
        | refine ac_cond1 rfl ?_ | refine ac_cond0 rfl ?_ | refine ac_skip ?_ | refine ac_exit ?_ | refine ac_ret ?_
        | refine rwp_p M rfl ?_ | refine swp_p M rfl ?_ | refine rwp_p C0 rfl ?_ | refine swp_p C0 rfl ?_
        | refine rwp_p C1 rfl ?_ | refine swp_p C1 rfl ?_
        | refine rwp_p C2 rfl ?_ | refine swp_p C2 rfl ?_
        | refine rwp_p M rfl ?_ | refine swp_p M rfl ?_ | refine rwp_p C3 rfl ?_ | refine swp_p C3 rfl ?_
        | refine rwp_p C4 rfl ?_ | refine swp_p C4 rfl ?_
        | refine rwp_l L1 rfl ?_ | refine swp_l L1 rfl ?_
        | refine rwp_g1 rfl ?_ | refine rwp_g0 rfl rfl ?_ | refine rwp_gt rfl ?_ | refine swp_qg1 rfl ?_ | refine swp_qg0 rfl rfl ?_ | refine swp_qgt rfl ?_
        | refine rwp_pr (v := .int _ _) rfl ?_ | refine swp_pr (v := .int _ _) rfl ?_
        | refine rwp_pr (v := .bool _) rfl ?_ | refine swp_pr (v := .bool _) rfl ?_
        | refine rwp_pr (v := .ref _ _ _) rfl ?_ | refine swp_pr (v := .ref _ _ _) rfl ?_
        | refine rwp_pr (v := .list _ _ _) rfl ?_ | refine swp_pr (v := .list _ _ _) rfl ?_
        | refine rwp_pr (v := .iptr _) rfl ?_ | refine swp_pr (v := .iptr _) rfl ?_
        | refine rwp_pr (v := .tup _) rfl ?_ | refine swp_pr (v := .tup _) rfl ?_
        | refine rwp_pr (v := .agg _) rfl ?_ | refine swp_pr (v := .agg _) rfl ?_
        | refine rwp_pr (v := .str _) rfl ?_ | refine swp_pr (v := .str _) rfl ?_
        | refine rwp_lr (v := .int _ _) rfl ?_ | refine swp_lr (v := .int _ _) rfl ?_
        | refine rwp_lr (v := .bool _) rfl ?_ | refine swp_lr (v := .bool _) rfl ?_
        | refine rwp_lr (v := .ref _ _ _) rfl ?_ | refine swp_lr (v := .ref _ _ _) rfl ?_
        | refine rwp_lr (v := .list _ _ _) rfl ?_ | refine swp_lr (v := .list _ _ _) rfl ?_
        | refine rwp_lr (v := .iptr _) rfl ?_ | refine swp_lr (v := .iptr _) rfl ?_
        | refine rwp_lr (v := .tup _) rfl ?_ | refine swp_lr (v := .tup _) rfl ?_
        | refine rwp_lr (v := .agg _) rfl ?_ | refine swp_lr (v := .agg _) rfl ?_
        | refine rwp_lr (v := .str _) rfl ?_ | refine swp_lr (v := .str _) rfl ?_
        | refine rwp_nil ?_ | refine swp_done ?_ | refine swp_e ?_
        | refine thenQ_n ?_ | refine thenQ_e ?_ | refine thenQ_r ?_ | refine blockQ_n ?_ | refine blockQ_hit ?_ | refine blockQ_miss rfl ?_ | refine blockQ_r ?_
      refine rwp_call (tick13 ho' hn d) rfl (fun _ _ h => h) ?_
      intro v st3 he
      simp only [endK] at he
      by_cases hneg : d < 0
      · rw [if_pos hneg] at he
        obtain ⟨rfl, rfl⟩ := he
        have D1 : pev (.bin .lss) [.int .i64 d, .int .i64 (.ofNat 0)] = some (.bool true) := by simp [pev, abin, aint, hneg]
        repeat first
          | refine ac_seq ?_ | refine ac_region ?_ | refine ac_block ?_ | refine ac_draw mixed ?_
          | refine ac_cond1 rfl ?_ | refine ac_cond0 rfl ?_ | refine ac_skip ?_ | refine ac_exit ?_ | refine ac_ret ?_
          | refine rwp_p M rfl ?_ | refine swp_p M rfl ?_ | refine rwp_p C3 rfl ?_ | refine swp_p C3 rfl ?_
          | refine rwp_p D1 rfl ?_ | refine swp_p D1 rfl ?_
          | refine rwp_l L1 rfl ?_ | refine swp_l L1 rfl ?_
          | refine rwp_g1 rfl ?_ | refine rwp_g0 rfl rfl ?_ | refine rwp_gt rfl ?_ | refine swp_qg1 rfl ?_ | refine swp_qg0 rfl rfl ?_ | refine swp_qgt rfl ?_
          | refine rwp_pr (v := .int _ _) rfl ?_ | refine swp_pr (v := .int _ _) rfl ?_
          | refine rwp_pr (v := .bool _) rfl ?_ | refine swp_pr (v := .bool _) rfl ?_
          | refine rwp_pr (v := .ref _ _ _) rfl ?_ | refine swp_pr (v := .ref _ _ _) rfl ?_
          | refine rwp_pr (v := .list _ _ _) rfl ?_ | refine swp_pr (v := .list _ _ _) rfl ?_
          | refine rwp_pr (v := .iptr _) rfl ?_ | refine swp_pr (v := .iptr _) rfl ?_
          | refine rwp_pr (v := .tup _) rfl ?_ | refine swp_pr (v := .tup _) rfl ?_
          | refine rwp_pr (v := .agg _) rfl ?_ | refine swp_pr (v := .agg _) rfl ?_
          | refine rwp_pr (v := .str _) rfl ?_ | refine swp_pr (v := .str _) rfl ?_
          | refine rwp_lr (v := .int _ _) rfl ?_ | refine swp_lr (v := .int _ _) rfl ?_
          | refine rwp_lr (v := .bool _) rfl ?_ | refine swp_lr (v := .bool _) rfl ?_
          | refine rwp_lr (v := .ref _ _ _) rfl ?_ | refine swp_lr (v := .ref _ _ _) rfl ?_
          | refine rwp_lr (v := .list _ _ _) rfl ?_ | refine swp_lr (v := .list _ _ _) rfl ?_
          | refine rwp_lr (v := .iptr _) rfl ?_ | refine swp_lr (v := .iptr _) rfl ?_
          | refine rwp_lr (v := .tup _) rfl ?_ | refine swp_lr (v := .tup _) rfl ?_
          | refine rwp_lr (v := .agg _) rfl ?_ | refine swp_lr (v := .agg _) rfl ?_
          | refine rwp_lr (v := .str _) rfl ?_ | refine swp_lr (v := .str _) rfl ?_
          | refine rwp_nil ?_ | refine swp_done ?_ | refine swp_e ?_
          | refine thenQ_n ?_ | refine thenQ_e ?_ | refine thenQ_r ?_ | refine blockQ_n ?_ | refine blockQ_hit ?_ | refine blockQ_miss rfl ?_ | refine blockQ_r ?_
        refine rwp_call (now14 ho') rfl (fun _ _ h => h) ?_
        rintro v st4 ⟨rfl, rfl⟩
        have N1 : pev (.bin .neq) [.int .i64 (n : Int), .int .i64 (n : Int)] = some (.bool false) := by simp [pev, abin, aint]
        repeat first
          | refine ac_seq ?_ | refine ac_region ?_ | refine ac_block ?_ | refine ac_draw mixed ?_
          | refine ac_cond1 rfl ?_ | refine ac_cond0 rfl ?_ | refine ac_skip ?_ | refine ac_exit ?_ | refine ac_ret ?_
          | refine rwp_p N1 rfl ?_ | refine swp_p N1 rfl ?_
          | refine rwp_p C4 rfl ?_ | refine swp_p C4 rfl ?_
          | refine rwp_l L1 rfl ?_ | refine swp_l L1 rfl ?_
          | refine rwp_g1 rfl ?_ | refine rwp_g0 rfl rfl ?_ | refine rwp_gt rfl ?_ | refine swp_qg1 rfl ?_ | refine swp_qg0 rfl rfl ?_ | refine swp_qgt rfl ?_
          | refine rwp_pr (v := .int _ _) rfl ?_ | refine swp_pr (v := .int _ _) rfl ?_
          | refine rwp_pr (v := .bool _) rfl ?_ | refine swp_pr (v := .bool _) rfl ?_
          | refine rwp_pr (v := .ref _ _ _) rfl ?_ | refine swp_pr (v := .ref _ _ _) rfl ?_
          | refine rwp_pr (v := .list _ _ _) rfl ?_ | refine swp_pr (v := .list _ _ _) rfl ?_
          | refine rwp_pr (v := .iptr _) rfl ?_ | refine swp_pr (v := .iptr _) rfl ?_
          | refine rwp_pr (v := .tup _) rfl ?_ | refine swp_pr (v := .tup _) rfl ?_
          | refine rwp_pr (v := .agg _) rfl ?_ | refine swp_pr (v := .agg _) rfl ?_
          | refine rwp_pr (v := .str _) rfl ?_ | refine swp_pr (v := .str _) rfl ?_
          | refine rwp_lr (v := .int _ _) rfl ?_ | refine swp_lr (v := .int _ _) rfl ?_
          | refine rwp_lr (v := .bool _) rfl ?_ | refine swp_lr (v := .bool _) rfl ?_
          | refine rwp_lr (v := .ref _ _ _) rfl ?_ | refine swp_lr (v := .ref _ _ _) rfl ?_
          | refine rwp_lr (v := .list _ _ _) rfl ?_ | refine swp_lr (v := .list _ _ _) rfl ?_
          | refine rwp_lr (v := .iptr _) rfl ?_ | refine swp_lr (v := .iptr _) rfl ?_
          | refine rwp_lr (v := .tup _) rfl ?_ | refine swp_lr (v := .tup _) rfl ?_
          | refine rwp_lr (v := .agg _) rfl ?_ | refine swp_lr (v := .agg _) rfl ?_
          | refine rwp_lr (v := .str _) rfl ?_ | refine swp_lr (v := .str _) rfl ?_
          | refine rwp_nil ?_ | refine swp_done ?_ | refine swp_e ?_
          | refine thenQ_n ?_ | refine thenQ_e ?_ | refine thenQ_r ?_ | refine blockQ_n ?_ | refine blockQ_hit ?_ | refine blockQ_miss rfl ?_ | refine blockQ_r ?_
        exact ⟨i + 1, ⟨by omega, by omega, rfl, rfl, rfl, n, hn, rfl, ho'⟩, by omega⟩
      · rw [if_neg hneg] at he
        obtain ⟨rfl, ho2⟩ := he
        obtain ⟨xo2, yo2, hon2⟩ := ho2.on
        have L2 : lev st3 (.load none) [.ref ko vo 1] = some (.ref ke ve 0) := by simp [lev, load, cellsAt, hon2, partA]
        have D0 : pev (.bin .lss) [.int .i64 d, .int .i64 (.ofNat 0)] = some (.bool false) := by simp [pev, abin, aint]; omega
        obtain ⟨D, rfl⟩ : ∃ D : Nat, d = (D : Int) := ⟨d.toNat, by omega⟩
        simp only [Int.toNat_natCast] at ho2
        have hm : n + min D (slots1 - n) ≤ slots1 := by unfold slots1 at *; omega
        have F1 : pev (.bin .sub) [.int .i64 (.ofNat 1099511627775), .int .i64 (n : Int)] = some (.int .i64 ((slots1 - n : Nat) : Int)) := by
          unfold slots1 at *
          simp [pev, abin, aint]
          rw [show (1099511627775 - (n : Int)) = ((1099511627775 - n : Nat) : Int) by omega]
          exact wrapN (by omega)
        have F2 : pev .mn [.int .i64 (D : Int), .int .i64 ((slots1 - n : Nat) : Int)] = some (.int .i64 ((min D (slots1 - n) : Nat) : Int)) := by
          simp [pev]
          split <;> omega
        have F3 : pev (.bin .add) [.int .i64 (n : Int), .int .i64 ((min D (slots1 - n) : Nat) : Int)] = some (.int .i64 ((n + min D (slots1 - n) : Nat) : Int)) := by
          simp only [pev, abin, aint, if_true]
          rw [show ((n : Int) + ((min D (slots1 - n) : Nat) : Int)) = ((n + min D (slots1 - n) : Nat) : Int) by omega]
          rw [wrapN (by unfold slots1 at *; omega)]
        generalize n + min D (slots1 - n) = m at *
        generalize min D (slots1 - n) = q at *
        repeat first
          | refine ac_seq ?_ | refine ac_region ?_ | refine ac_block ?_ | refine ac_draw mixed ?_
          | refine ac_cond1 rfl ?_ | refine ac_cond0 rfl ?_ | refine ac_skip ?_ | refine ac_exit ?_ | refine ac_ret ?_
          | refine rwp_p M rfl ?_ | refine swp_p M rfl ?_ | refine rwp_p C3 rfl ?_ | refine swp_p C3 rfl ?_
          | refine rwp_p D0 rfl ?_ | refine swp_p D0 rfl ?_
          | refine rwp_p F1 rfl ?_ | refine swp_p F1 rfl ?_
          | refine rwp_p F2 rfl ?_ | refine swp_p F2 rfl ?_
          | refine rwp_p F3 rfl ?_ | refine swp_p F3 rfl ?_
          | refine rwp_l L2 rfl ?_ | refine swp_l L2 rfl ?_
          | refine rwp_g1 rfl ?_ | refine rwp_g0 rfl rfl ?_ | refine rwp_gt rfl ?_ | refine swp_qg1 rfl ?_ | refine swp_qg0 rfl rfl ?_ | refine swp_qgt rfl ?_
          | refine rwp_pr (v := .int _ _) rfl ?_ | refine swp_pr (v := .int _ _) rfl ?_
          | refine rwp_pr (v := .bool _) rfl ?_ | refine swp_pr (v := .bool _) rfl ?_
          | refine rwp_pr (v := .ref _ _ _) rfl ?_ | refine swp_pr (v := .ref _ _ _) rfl ?_
          | refine rwp_pr (v := .list _ _ _) rfl ?_ | refine swp_pr (v := .list _ _ _) rfl ?_
          | refine rwp_pr (v := .iptr _) rfl ?_ | refine swp_pr (v := .iptr _) rfl ?_
          | refine rwp_pr (v := .tup _) rfl ?_ | refine swp_pr (v := .tup _) rfl ?_
          | refine rwp_pr (v := .agg _) rfl ?_ | refine swp_pr (v := .agg _) rfl ?_
          | refine rwp_pr (v := .str _) rfl ?_ | refine swp_pr (v := .str _) rfl ?_
          | refine rwp_lr (v := .int _ _) rfl ?_ | refine swp_lr (v := .int _ _) rfl ?_
          | refine rwp_lr (v := .bool _) rfl ?_ | refine swp_lr (v := .bool _) rfl ?_
          | refine rwp_lr (v := .ref _ _ _) rfl ?_ | refine swp_lr (v := .ref _ _ _) rfl ?_
          | refine rwp_lr (v := .list _ _ _) rfl ?_ | refine swp_lr (v := .list _ _ _) rfl ?_
          | refine rwp_lr (v := .iptr _) rfl ?_ | refine swp_lr (v := .iptr _) rfl ?_
          | refine rwp_lr (v := .tup _) rfl ?_ | refine swp_lr (v := .tup _) rfl ?_
          | refine rwp_lr (v := .agg _) rfl ?_ | refine swp_lr (v := .agg _) rfl ?_
          | refine rwp_lr (v := .str _) rfl ?_ | refine swp_lr (v := .str _) rfl ?_
          | refine rwp_nil ?_ | refine swp_done ?_ | refine swp_e ?_
          | refine thenQ_n ?_ | refine thenQ_e ?_ | refine thenQ_r ?_ | refine blockQ_n ?_ | refine blockQ_hit ?_ | refine blockQ_miss rfl ?_ | refine blockQ_r ?_
        refine rwp_call (now14 ho2) rfl (fun _ _ h => h) ?_
        rintro v st4 ⟨rfl, rfl⟩
        have N1 : pev (.bin .neq) [.int .i64 (m : Int), .int .i64 (m : Int)] = some (.bool false) := by simp [pev, abin, aint]
        repeat first
          | refine ac_seq ?_ | refine ac_region ?_ | refine ac_block ?_ | refine ac_draw mixed ?_
          | refine ac_cond1 rfl ?_ | refine ac_cond0 rfl ?_ | refine ac_skip ?_ | refine ac_exit ?_ | refine ac_ret ?_
          | refine rwp_p N1 rfl ?_ | refine swp_p N1 rfl ?_
          | refine rwp_p C4 rfl ?_ | refine swp_p C4 rfl ?_
          | refine rwp_l L2 rfl ?_ | refine swp_l L2 rfl ?_
          | refine rwp_g1 rfl ?_ | refine rwp_g0 rfl rfl ?_ | refine rwp_gt rfl ?_ | refine swp_qg1 rfl ?_ | refine swp_qg0 rfl rfl ?_ | refine swp_qgt rfl ?_
          | refine rwp_pr (v := .int _ _) rfl ?_ | refine swp_pr (v := .int _ _) rfl ?_
          | refine rwp_pr (v := .bool _) rfl ?_ | refine swp_pr (v := .bool _) rfl ?_
          | refine rwp_pr (v := .ref _ _ _) rfl ?_ | refine swp_pr (v := .ref _ _ _) rfl ?_
          | refine rwp_pr (v := .list _ _ _) rfl ?_ | refine swp_pr (v := .list _ _ _) rfl ?_
          | refine rwp_pr (v := .iptr _) rfl ?_ | refine swp_pr (v := .iptr _) rfl ?_
          | refine rwp_pr (v := .tup _) rfl ?_ | refine swp_pr (v := .tup _) rfl ?_
          | refine rwp_pr (v := .agg _) rfl ?_ | refine swp_pr (v := .agg _) rfl ?_
          | refine rwp_pr (v := .str _) rfl ?_ | refine swp_pr (v := .str _) rfl ?_
          | refine rwp_lr (v := .int _ _) rfl ?_ | refine swp_lr (v := .int _ _) rfl ?_
          | refine rwp_lr (v := .bool _) rfl ?_ | refine swp_lr (v := .bool _) rfl ?_
          | refine rwp_lr (v := .ref _ _ _) rfl ?_ | refine swp_lr (v := .ref _ _ _) rfl ?_
          | refine rwp_lr (v := .list _ _ _) rfl ?_ | refine swp_lr (v := .list _ _ _) rfl ?_
          | refine rwp_lr (v := .iptr _) rfl ?_ | refine swp_lr (v := .iptr _) rfl ?_
          | refine rwp_lr (v := .tup _) rfl ?_ | refine swp_lr (v := .tup _) rfl ?_
          | refine rwp_lr (v := .agg _) rfl ?_ | refine swp_lr (v := .agg _) rfl ?_
          | refine rwp_lr (v := .str _) rfl ?_ | refine swp_lr (v := .str _) rfl ?_
          | refine rwp_nil ?_ | refine swp_done ?_ | refine swp_e ?_
          | refine thenQ_n ?_ | refine thenQ_e ?_ | refine thenQ_r ?_ | refine blockQ_n ?_ | refine blockQ_hit ?_ | refine blockQ_miss rfl ?_ | refine blockQ_r ?_
        exact ⟨i + 1, ⟨by omega, by omega, rfl, rfl, rfl, m, hm, rfl, ho2⟩, by omega⟩
    · by_cases hc1 : i < l.length
      · have C1 : pev (.bin .lss) [.int .i64 (i : Int), .int .i64 (l.length : Int)] = some (.bool true) := by simp [pev, abin, aint]; omega
        have C2 : pev (.bin .lss) [.int .i64 (i : Int), .int .i64 60] = some (.bool false) := by simp [pev, abin, aint]; omega
        repeat first
          | refine ac_seq ?_ | refine ac_region ?_ | refine ac_block ?_ | refine ac_draw mixed ?_
          | refine ac_cond1 rfl ?_ | refine ac_cond0 rfl ?_ | refine ac_skip ?_ | refine ac_exit ?_ | refine ac_ret ?_
          | refine rwp_p M rfl ?_ | refine swp_p M rfl ?_ | refine rwp_p C0 rfl ?_ | refine swp_p C0 rfl ?_
          | refine rwp_p C1 rfl ?_ | refine swp_p C1 rfl ?_
          | refine rwp_p C2 rfl ?_ | refine swp_p C2 rfl ?_
          | refine rwp_l L1 rfl ?_ | refine swp_l L1 rfl ?_
          | refine rwp_g1 rfl ?_ | refine rwp_g0 rfl rfl ?_ | refine rwp_gt rfl ?_ | refine swp_qg1 rfl ?_ | refine swp_qg0 rfl rfl ?_ | refine swp_qgt rfl ?_
          | refine rwp_pr (v := .int _ _) rfl ?_ | refine swp_pr (v := .int _ _) rfl ?_
          | refine rwp_pr (v := .bool _) rfl ?_ | refine swp_pr (v := .bool _) rfl ?_
          | refine rwp_pr (v := .ref _ _ _) rfl ?_ | refine swp_pr (v := .ref _ _ _) rfl ?_
          | refine rwp_pr (v := .list _ _ _) rfl ?_ | refine swp_pr (v := .list _ _ _) rfl ?_
          | refine rwp_pr (v := .iptr _) rfl ?_ | refine swp_pr (v := .iptr _) rfl ?_
          | refine rwp_pr (v := .tup _) rfl ?_ | refine swp_pr (v := .tup _) rfl ?_
          | refine rwp_pr (v := .agg _) rfl ?_ | refine swp_pr (v := .agg _) rfl ?_
          | refine rwp_pr (v := .str _) rfl ?_ | refine swp_pr (v := .str _) rfl ?_
          | refine rwp_lr (v := .int _ _) rfl ?_ | refine swp_lr (v := .int _ _) rfl ?_
          | refine rwp_lr (v := .bool _) rfl ?_ | refine swp_lr (v := .bool _) rfl ?_
          | refine rwp_lr (v := .ref _ _ _) rfl ?_ | refine swp_lr (v := .ref _ _ _) rfl ?_
          | refine rwp_lr (v := .list _ _ _) rfl ?_ | refine swp_lr (v := .list _ _ _) rfl ?_
          | refine rwp_lr (v := .iptr _) rfl ?_ | refine swp_lr (v := .iptr _) rfl ?_
          | refine rwp_lr (v := .tup _) rfl ?_ | refine swp_lr (v := .tup _) rfl ?_
          | refine rwp_lr (v := .agg _) rfl ?_ | refine swp_lr (v := .agg _) rfl ?_
          | refine rwp_lr (v := .str _) rfl ?_ | refine swp_lr (v := .str _) rfl ?_
          | refine rwp_nil ?_ | refine swp_done ?_ | refine swp_e ?_
          | refine thenQ_n ?_ | refine thenQ_e ?_ | refine thenQ_r ?_ | refine blockQ_n ?_ | refine blockQ_hit ?_ | refine blockQ_miss rfl ?_ | refine blockQ_r ?_
        exact (awake12 ho'.fresh).mono fun e st3 he => by
          cases e with
          | panic v => exact he.elim
          | ret v => exact ⟨v, rfl, he⟩
      · have C1 : pev (.bin .lss) [.int .i64 (i : Int), .int .i64 (l.length : Int)] = some (.bool false) := by simp [pev, abin, aint]; omega
        repeat first
          | refine ac_seq ?_ | refine ac_region ?_ | refine ac_block ?_ | refine ac_draw mixed ?_
          | refine ac_cond1 rfl ?_ | refine ac_cond0 rfl ?_ | refine ac_skip ?_ | refine ac_exit ?_ | refine ac_ret ?_
          | refine rwp_p M rfl ?_ | refine swp_p M rfl ?_ | refine rwp_p C0 rfl ?_ | refine swp_p C0 rfl ?_
          | refine rwp_p C1 rfl ?_ | refine swp_p C1 rfl ?_
          | refine rwp_l L1 rfl ?_ | refine swp_l L1 rfl ?_
          | refine rwp_g1 rfl ?_ | refine rwp_g0 rfl rfl ?_ | refine rwp_gt rfl ?_ | refine swp_qg1 rfl ?_ | refine swp_qg0 rfl rfl ?_ | refine swp_qgt rfl ?_
          | refine rwp_pr (v := .int _ _) rfl ?_ | refine swp_pr (v := .int _ _) rfl ?_
          | refine rwp_pr (v := .bool _) rfl ?_ | refine swp_pr (v := .bool _) rfl ?_
          | refine rwp_pr (v := .ref _ _ _) rfl ?_ | refine swp_pr (v := .ref _ _ _) rfl ?_
          | refine rwp_pr (v := .list _ _ _) rfl ?_ | refine swp_pr (v := .list _ _ _) rfl ?_
          | refine rwp_pr (v := .iptr _) rfl ?_ | refine swp_pr (v := .iptr _) rfl ?_
          | refine rwp_pr (v := .tup _) rfl ?_ | refine swp_pr (v := .tup _) rfl ?_
          | refine rwp_pr (v := .agg _) rfl ?_ | refine swp_pr (v := .agg _) rfl ?_
          | refine rwp_pr (v := .str _) rfl ?_ | refine swp_pr (v := .str _) rfl ?_
          | refine rwp_lr (v := .int _ _) rfl ?_ | refine swp_lr (v := .int _ _) rfl ?_
          | refine rwp_lr (v := .bool _) rfl ?_ | refine swp_lr (v := .bool _) rfl ?_
          | refine rwp_lr (v := .ref _ _ _) rfl ?_ | refine swp_lr (v := .ref _ _ _) rfl ?_
          | refine rwp_lr (v := .list _ _ _) rfl ?_ | refine swp_lr (v := .list _ _ _) rfl ?_
          | refine rwp_lr (v := .iptr _) rfl ?_ | refine swp_lr (v := .iptr _) rfl ?_
          | refine rwp_lr (v := .tup _) rfl ?_ | refine swp_lr (v := .tup _) rfl ?_
          | refine rwp_lr (v := .agg _) rfl ?_ | refine swp_lr (v := .agg _) rfl ?_
          | refine rwp_lr (v := .str _) rfl ?_ | refine swp_lr (v := .str _) rfl ?_
          | refine rwp_nil ?_ | refine swp_done ?_ | refine swp_e ?_
          | refine thenQ_n ?_ | refine thenQ_e ?_ | refine thenQ_r ?_ | refine blockQ_n ?_ | refine blockQ_hit ?_ | refine blockQ_miss rfl ?_ | refine blockQ_r ?_
        exact (awake12 ho'.fresh).mono fun e st3 he => by
          cases e with
          | panic v => exact he.elim
          | ret v => exact ⟨v, rfl, he⟩
  · exact ⟨by omega, by omega, rfl, rfl, rfl, 0, by simp [slots1], rfl, ho⟩

end Go.Am.Tab
