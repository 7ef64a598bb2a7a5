/- Runs of the program: awake(), the config, a new engine. -/
import Derived.Test.YteinffefhcpcmaaGreatDoorVtRun
import Derived.Test.YteinffefhcpcmaaGreatDoorAmE
set_option linter.unusedVariables false
set_option linter.unusedSimpArgs false
set_option linter.unusedSectionVars false
namespace Go.Am.Tab
open Go.Am Go.Proofs
set_option maxRecDepth 100000

/-- From where on the names are free for awake(). -/
def top : Nat := 1048576

theorem awake_run : isTrue (xcall tab prim 100000 100 12 [] .leaf top) = true := by kernel_rfl

def isConf : Option (List (AVal × Hp × Nat)) → Bool
  | some [(v, _, b)] => veq v (.agg [.int .i64 1, .int .i64 1, .int .i64 1, .int .i64 1, .int .i64 1]) && Nat.ble b 1000
  | _ => false

theorem conf_run : isConf (xcall tab prim 100000 100 7 [.int .i64 1, .list .full 1 []] .leaf 0) = true := by kernel_rfl

def conf1 : AVal := .agg [.int .i64 1, .int .i64 1, .int .i64 1, .int .i64 1, .int .i64 1]

/-- What a new engine is. -/
def isOpen : Option (List (AVal × Hp × Nat)) → Bool
  | some [(.tup [.ref ko vo 0, .bool true], h, b)] => Nat.ble b top && match objAt h ko vo with
    | some (.cells [_, .ref ke ve 0, _]) => !keyEq ko ke && match objAt h ke ve with
      | some (.cells [_, _, _, _, _, _, .int .i64 (.ofNat n), _, _, .bool false, .bool false]) => Nat.beq n 0
      | _ => false
    | _ => false
  | _ => false

theorem open_run : isOpen (xcall tab prim 100000 100 6 [conf1, .int .i64 0] .leaf 1000) = true := by kernel_rfl

end Go.Am.Tab
/- EngineTicks over the abstract machine: whatever the list, it returns true. -/
namespace Go.Am.Tab
open Go.Am Go.Proofs

theorem isTrue_some {o : Option (List (AVal × Hp × Nat))} (h : isTrue o = true) : ∃ h b, o = some [(.bool true, h, b)] := by
  unfold isTrue at h
  split at h
  · exact ⟨_, _, rfl⟩
  · cases h

theorem awake12 {st : Store} (hf : ∀ i, top ≤ i → st (0, i) = slot0) : ACalls Tryz.prog 12 [] st (endK (fun v _ => v = .bool true) (fun _ _ => False)) := by
  obtain ⟨h, b, e⟩ := isTrue_some awake_run
  refine ((runOK 100000 100) 12 [] .leaf top _ e st ⟨fun i s e => by simp [T.get] at e, fun i s e => by simp [T.get] at e, hf⟩).1.mono fun e st' he => ?_
  cases e with
  | panic v => exact he
  | ret v =>
    obtain ⟨o, ho, rfl, _⟩ := he
    rw [List.mem_singleton.1 ho]
    exact rfl

def Fresh (b : Nat) (st : Store) : Prop := ∀ i, b ≤ i → st (0, i) = slot0

theorem agr_leaf {b : Nat} {st : Store} (hf : Fresh b st) : Agr .leaf b st := ⟨fun i s e => by simp [T.get] at e, fun i s e => by simp [T.get] at e, hf⟩

theorem conf7 {st : Store} (hf : Fresh 0 st) : ACalls Tryz.prog 7 [.int .i64 1, .list .full 1 []] st (endK (fun v st' => v = conf1 ∧ Fresh 1000 st') (fun _ _ => False)) := by
  have hr := conf_run
  unfold isConf at hr
  split at hr
  · rename_i v h b e
    simp only [Bool.and_eq_true, Nat.ble_eq] at hr
    refine ((runOK 100000 100) 7 _ .leaf 0 _ e st (agr_leaf hf)).1.mono fun e st' he => ?_
    cases e with
    | panic v => exact he
    | ret v =>
      obtain ⟨o, ho, rfl, hs⟩ := he
      rw [List.mem_singleton.1 ho] at hs ⊢
      exact ⟨veq_eq hr.1, fun i hi => hs.agr.fresh i (by have := hr.2; simp only at *; omega)⟩
  · cases hr

structure Opened (ko : Key) (vo : Nat) (ke : Key) (ve : Nat) (n : Nat) (st : Store) : Prop where
  on : ∃ x y, st ko = ⟨vo, some (.cells [x, .ref ke ve 0, y])⟩
  eng : ∃ a b c d e f g h, st ke = ⟨ve, some (.cells [a, b, c, d, e, f, .int .i64 (n : Int), g, h, .bool false, .bool false])⟩
  ne : ko ≠ ke
  lt : ko.2 < top ∧ ke.2 < top
  fresh : Fresh top st

theorem open6 {st : Store} (hf : Fresh 1000 st) : ACalls Tryz.prog 6 [conf1, .int .i64 0] st (endK (fun v st' => ∃ ko vo ke ve, v = .tup [.ref ko vo 0, .bool true] ∧ Opened ko vo ke ve 0 st') (fun _ _ => False)) := by
  have hr := open_run
  unfold isOpen at hr
  split at hr
  · rename_i ko vo h b e
    simp only [Bool.and_eq_true, Nat.ble_eq] at hr
    obtain ⟨hb, hr⟩ := hr
    split at hr
    · rename_i x ke ve y ho
      simp only [Bool.and_eq_true] at hr
      obtain ⟨hne, hr⟩ := hr
      split at hr
      · rename_i a1 a2 a3 a4 a5 a6 n a7 a8 hen
        have hn := Nat.eq_of_beq_eq_true hr
        subst hn
        refine ((runOK 100000 100) 6 _ .leaf 1000 _ e st (agr_leaf hf)).1.mono fun e st' he => ?_
        cases e with
        | panic v => exact he
        | ret v =>
          obtain ⟨o, hmem, rfl, hs⟩ := he
          rw [List.mem_singleton.1 hmem] at hs ⊢
          obtain ⟨k1, _, k2, _⟩ := objAt_some ho
          obtain ⟨k3, _, k4, _⟩ := objAt_some hen
          refine ⟨ko, vo, ke, ve, rfl, ⟨x, y, at_sound ho hs.agr.know⟩, ⟨a1, a2, a3, a4, a5, a6, a7, a8, at_sound hen hs.agr.know⟩, ?_, ⟨?_, ?_⟩, fun i hi => hs.agr.fresh i (by simp only; omega)⟩
          · rintro rfl
            have : keyEq ko ko = true := by
              rw [k1]; simp [keyEq, isZ]
            rw [this] at hne
            cases hne
          · have := hs.agr.lt _ _ k2; simp only at this; omega
          · have := hs.agr.lt _ _ k4; simp only at this; omega
      · cases hr
    · cases hr
  · cases hr

def slots1 : Nat := 1099511627775

theorem wrapN {n : Nat} (h : n < 9223372036854775808) : IntKind.i64.wrap (n : Int) = (n : Int) := by
  simp [IntKind.wrap, IntKind.signed, IntKind.bits]
  omega

theorem now14 {ko : Key} {vo : Nat} {ke : Key} {ve n : Nat} {st : Store} (ho : Opened ko vo ke ve n st) :
    ACalls Tryz.prog 14 [.ref ke ve 0] st (endK (fun v st' => v = .int .i64 (n : Int) ∧ st' = st) (fun _ _ => False)) := by
  obtain ⟨a, b, c, d, e, f, g, h, he⟩ := ho.eng
  refine ACalls_of Tryz.func14 c14 (nmOf 0) (by simp [a14]) (AC_of_awp mixed ?_)
  simp [a14, awp, rwp, ropG, rop, thenQ, Fr.get, Fr.put, Fr.ev, argFr, pev, abin, aint, retQ, resA, res1, endK, lev, load, cellsAt, he, partA]

set_option maxHeartbeats 4000000 in
theorem tick13 {ko : Key} {vo : Nat} {ke : Key} {ve n : Nat} {st : Store} (ho : Opened ko vo ke ve n st) (hn : n ≤ slots1) (d : Int) :
    ACalls Tryz.prog 13 [.ref ke ve 0, .int .i64 d] st (endK (fun v st' => if d < 0 then v = .int .i64 1 ∧ st' = st else v = .int .i64 0 ∧ Opened ko vo ke ve (n + min d.toNat (slots1 - n)) st') (fun _ _ => False)) := by
  obtain ⟨a, b, c, d1, e, f, g, h, he⟩ := ho.eng
  refine ACalls_of Tryz.func13 c13 (nmOf 0) (by simp [a13]) (AC_of_awp mixed ?_)
  unfold slots1 at hn ⊢
  by_cases hd : d < 0
  · simp [a13, awp, rwp, swp, qev, qop, ropG, rop, thenQ, blockQ, Fr.get, Fr.put, Fr.ev, argFr, pev, abin, aint, retQ, resA, res1, endK, lev, load, cellsAt, he, partA, hd]
  · have h1 : IntKind.i64.wrap (1099511627775 - (n : Int)) = ((1099511627775 - n : Nat) : Int) := by
      rw [show (1099511627775 - (n : Int)) = ((1099511627775 - n : Nat) : Int) by omega]
      exact wrapN (by omega)
    have h2 : ∀ m : Nat, m ≤ 1099511627775 - n → IntKind.i64.wrap ((n : Int) + (m : Int)) = ((n + m : Nat) : Int) := fun m hm => by
      rw [show ((n : Int) + (m : Int)) = ((n + m : Nat) : Int) by omega]
      exact wrapN (by omega)
    obtain ⟨D, rfl⟩ : ∃ D : Nat, d = (D : Int) := ⟨d.toNat, by omega⟩
    have hfin : ∀ m : Nat, Opened ko vo ke ve m (st.set ke ⟨ve, some (.cells [a, b, c, d1, e, f, .int .i64 (m : Int), g, h, .bool false, .bool false])⟩) := fun m => by
      obtain ⟨x, y, hxy⟩ := ho.on
      refine ⟨⟨x, y, ?_⟩, ⟨a, b, c, d1, e, f, g, h, by simp [Store.set]⟩, ho.ne, ho.lt, fun i hi => ?_⟩
      · simp only [Store.set]; rw [if_neg ho.ne]; exact hxy
      · simp only [Store.set]
        rw [if_neg]
        · exact ho.fresh i hi
        · rintro rfl; have := ho.lt.2; simp only at this; omega
    by_cases hlt : (1099511627775 - n : Nat) < D
    · have e1 : ((1099511627775 - n : Nat) : Int) < (D : Int) := by omega
      have e2 : min D (1099511627775 - n) = 1099511627775 - n := by omega
      simp [a13, awp, rwp, swp, qev, qop, ropG, rop, thenQ, blockQ, Fr.get, Fr.put, Fr.ev, argFr, pev, abin, aint, retQ, resA, res1, endK, lev, load, cellsAt, he, partA, hd, h1, e1, e2, h2, iwp, isV, isCell, AVal.cells, splice, stills]
      exact hfin _
    · have e1 : ¬ ((1099511627775 - n : Nat) : Int) < (D : Int) := by omega
      have e2 : min D (1099511627775 - n) = D := by omega
      simp [a13, awp, rwp, swp, qev, qop, ropG, rop, thenQ, blockQ, Fr.get, Fr.put, Fr.ev, argFr, pev, abin, aint, retQ, resA, res1, endK, lev, load, cellsAt, he, partA, hd, h1, e1, e2, h2 D (by omega), iwp, isV, isCell, AVal.cells, splice, stills]
      exact hfin _

end Go.Am.Tab
/- EngineTicks over the abstract machine: the loop. -/
namespace Go.Am.Tab
open Go.Am Go.Proofs

/-- The numbers that a list of values is. -/
def ints (l : List Int) : List AVal := l.map (AVal.int .i64)

/-- A slice of numbers. -/
structure IntsArg (X : AVal) (l : List Int) : Prop where
  len : pev .lenL [X] = some (.int .i64 (l.length : Int))
  el : ∀ (i : Nat) (d : Int), l[i]? = some d → ∃ cs, pev (.iaddr 1) [X, .int .i64 (i : Int)] = some (.iptr (.int .i64 d :: cs))

def tru : AEnd → Store → Prop := endK (fun v _ => v = .bool true) (fun _ _ => False)

set_option maxHeartbeats 4000000 in
set_option maxRecDepth 100000 in
theorem ticks4 {st : Store} (hf : Fresh 0 st) {X : AVal} {l : List Int} (hX : IntsArg X l) : ACalls Tryz.prog 4 [X] st tru := by
  refine ACalls_of Tryz.func4 c4 (nmOf 0) (by simp [a4]) (AC_of_awp mixed ?_)
  simp [a4, awp, rwp, ropG, rop, thenQ, Fr.get, Fr.put, Fr.ev, argFr, pev, iwp]
  refine (conf7 hf).mono fun e st1 he => ?_
  cases e with
  | panic v => exact he.elim
  | ret v =>
  obtain ⟨rfl, hf1⟩ := he
  simp [endK, rwp, ropG, rop, thenQ, Fr.get, Fr.put, Fr.ev, pev, iwp]
  refine (open6 hf1).mono fun e st2 he => ?_
  cases e with
  | panic v => exact he.elim
  | ret v =>
  obtain ⟨ko, vo, ke, ve, rfl, ho⟩ := he
  simp [endK, awp, rwp, ropG, rop, thenQ, Fr.get, Fr.put, Fr.ev, pev, iwp, aun]
  refine AC.loop (X := Nat) (fun i fr st' => i ≤ 60 ∧ i ≤ l.length ∧ fr.get 0 = X ∧ fr.get 3 = .ref ko vo 0 ∧ fr.get 6 = .int .i64 (i : Int) ∧ ∃ n : Nat, n ≤ slots1 ∧ fr.get 5 = .int .i64 (n : Int) ∧ Opened ko vo ke ve n st') (fun i => 60 - i) ?_ (x := 0) ?_
  · rintro i fr st' ⟨hi60, hil2, e0, e3, e6, n, hn, e5, ho'⟩
    obtain ⟨xo, yo, hon⟩ := ho'.on
    refine AC.forget (fr' := [(0, X), (3, .ref ko vo 0), (6, .int .i64 (i : Int)), (5, .int .i64 (n : Int))]) ?_ (forget_of (by simp [e0, e3, e5, e6]))
    have L1 : lev st' (.load none) [.ref ko vo 1] = some (.ref ke ve 0) := by simp [lev, load, cellsAt, hon, partA]
    have C0 := hX.len
    have M : pev .mv [X] = some X := rfl
    by_cases hc : i < l.length ∧ i < 60
    · obtain ⟨hc1, hc2⟩ := hc
      have C1 : pev (.bin .lss) [.int .i64 (i : Int), .int .i64 (l.length : Int)] = some (.bool true) := by simp [pev, abin, aint]; omega
      have C2 : pev (.bin .lss) [.int .i64 (i : Int), .int .i64 60] = some (.bool true) := by simp [pev, abin, aint]; omega
      obtain ⟨d, hd⟩ : ∃ d, l[i]? = some d := ⟨l[i], List.getElem?_eq_getElem hc1⟩
      obtain ⟨cs, C3⟩ := hX.el i d hd
      have C4 : pev (.bin .add) [.int .i64 (i : Int), .int .i64 1] = some (.int .i64 ((i + 1 : Nat) : Int)) := by
        simp [pev, abin, aint]
        rw [show ((i : Int) + 1) = ((i + 1 : Nat) : Int) by omega]; exact wrapN (by omega)
      have C5 : pev .pick [.bool true, .bool true, .bool false] = some (.bool true) := rfl
      repeat first
        | refine ac_seq ?_ | refine ac_region ?_ | refine ac_block ?_ | refine ac_draw mixed ?_
        | refine ac_cond1 rfl ?_ | refine ac_cond0 rfl ?_ | refine ac_skip ?_ | refine ac_exit ?_ | refine ac_ret ?_
        | refine rwp_p M rfl ?_ | refine swp_p M rfl ?_ | refine rwp_p C0 rfl ?_ | refine swp_p C0 rfl ?_
        | refine rwp_p C1 rfl ?_ | refine swp_p C1 rfl ?_
        | refine rwp_p C2 rfl ?_ | refine swp_p C2 rfl ?_
        | refine rwp_p M rfl ?_ | refine swp_p M rfl ?_ | refine rwp_p C3 rfl ?_ | refine swp_p C3 rfl ?_
        | refine rwp_p C4 rfl ?_ | refine swp_p C4 rfl ?_
        | refine rwp_l L1 rfl ?_ | refine swp_l L1 rfl ?_
        | refine rwp_g1 rfl ?_ | refine rwp_g0 rfl rfl ?_ | refine rwp_gt rfl ?_ | refine swp_qg1 rfl ?_ | refine swp_qg0 rfl rfl ?_ | refine swp_qgt rfl ?_
        | refine rwp_pr (v := .int _ _) rfl ?_ | refine swp_pr (v := .int _ _) rfl ?_
        | refine rwp_pr (v := .bool _) rfl ?_ | refine swp_pr (v := .bool _) rfl ?_
        | refine rwp_pr (v := .ref _ _ _) rfl ?_ | refine swp_pr (v := .ref _ _ _) rfl ?_
        | refine rwp_pr (v := .list _ _ _) rfl ?_ | refine swp_pr (v := .list _ _ _) rfl ?_
        | refine rwp_pr (v := .iptr _) rfl ?_ | refine swp_pr (v := .iptr _) rfl ?_
        | refine rwp_pr (v := .tup _) rfl ?_ | refine swp_pr (v := .tup _) rfl ?_
        | refine rwp_pr (v := .agg _) rfl ?_ | refine swp_pr (v := .agg _) rfl ?_
        | refine rwp_pr (v := .str _) rfl ?_ | refine swp_pr (v := .str _) rfl ?_
        | refine rwp_lr (v := .int _ _) rfl ?_ | refine swp_lr (v := .int _ _) rfl ?_
        | refine rwp_lr (v := .bool _) rfl ?_ | refine swp_lr (v := .bool _) rfl ?_
        | refine rwp_lr (v := .ref _ _ _) rfl ?_ | refine swp_lr (v := .ref _ _ _) rfl ?_
        | refine rwp_lr (v := .list _ _ _) rfl ?_ | refine swp_lr (v := .list _ _ _) rfl ?_
        | refine rwp_lr (v := .iptr _) rfl ?_ | refine swp_lr (v := .iptr _) rfl ?_
        | refine rwp_lr (v := .tup _) rfl ?_ | refine swp_lr (v := .tup _) rfl ?_
        | refine rwp_lr (v := .agg _) rfl ?_ | refine swp_lr (v := .agg _) rfl ?_
        | refine rwp_lr (v := .str _) rfl ?_ | refine swp_lr (v := .str _) rfl ?_
        | refine rwp_nil ?_ | refine swp_done ?_ | refine swp_e ?_
        | refine thenQ_n ?_ | refine thenQ_e ?_ | refine thenQ_r ?_ | refine blockQ_n ?_ | refine blockQ_hit ?_ | refine blockQ_miss rfl ?_ | refine blockQ_r ?_
      refine rwp_call (tick13 ho' hn d) rfl (fun _ _ h => h) ?_
      intro v st3 he
      simp only [endK] at he
      by_cases hneg : d < 0
      · rw [if_pos hneg] at he
        obtain ⟨rfl, rfl⟩ := he
        have D1 : pev (.bin .lss) [.int .i64 d, .int .i64 (.ofNat 0)] = some (.bool true) := by simp [pev, abin, aint, hneg]
        repeat first
          | refine ac_seq ?_ | refine ac_region ?_ | refine ac_block ?_ | refine ac_draw mixed ?_
          | refine ac_cond1 rfl ?_ | refine ac_cond0 rfl ?_ | refine ac_skip ?_ | refine ac_exit ?_ | refine ac_ret ?_
          | refine rwp_p M rfl ?_ | refine swp_p M rfl ?_ | refine rwp_p C3 rfl ?_ | refine swp_p C3 rfl ?_
          | refine rwp_p D1 rfl ?_ | refine swp_p D1 rfl ?_
          | refine rwp_l L1 rfl ?_ | refine swp_l L1 rfl ?_
          | refine rwp_g1 rfl ?_ | refine rwp_g0 rfl rfl ?_ | refine rwp_gt rfl ?_ | refine swp_qg1 rfl ?_ | refine swp_qg0 rfl rfl ?_ | refine swp_qgt rfl ?_
          | refine rwp_pr (v := .int _ _) rfl ?_ | refine swp_pr (v := .int _ _) rfl ?_
          | refine rwp_pr (v := .bool _) rfl ?_ | refine swp_pr (v := .bool _) rfl ?_
          | refine rwp_pr (v := .ref _ _ _) rfl ?_ | refine swp_pr (v := .ref _ _ _) rfl ?_
          | refine rwp_pr (v := .list _ _ _) rfl ?_ | refine swp_pr (v := .list _ _ _) rfl ?_
          | refine rwp_pr (v := .iptr _) rfl ?_ | refine swp_pr (v := .iptr _) rfl ?_
          | refine rwp_pr (v := .tup _) rfl ?_ | refine swp_pr (v := .tup _) rfl ?_
          | refine rwp_pr (v := .agg _) rfl ?_ | refine swp_pr (v := .agg _) rfl ?_
          | refine rwp_pr (v := .str _) rfl ?_ | refine swp_pr (v := .str _) rfl ?_
          | refine rwp_lr (v := .int _ _) rfl ?_ | refine swp_lr (v := .int _ _) rfl ?_
          | refine rwp_lr (v := .bool _) rfl ?_ | refine swp_lr (v := .bool _) rfl ?_
          | refine rwp_lr (v := .ref _ _ _) rfl ?_ | refine swp_lr (v := .ref _ _ _) rfl ?_
          | refine rwp_lr (v := .list _ _ _) rfl ?_ | refine swp_lr (v := .list _ _ _) rfl ?_
          | refine rwp_lr (v := .iptr _) rfl ?_ | refine swp_lr (v := .iptr _) rfl ?_
          | refine rwp_lr (v := .tup _) rfl ?_ | refine swp_lr (v := .tup _) rfl ?_
          | refine rwp_lr (v := .agg _) rfl ?_ | refine swp_lr (v := .agg _) rfl ?_
          | refine rwp_lr (v := .str _) rfl ?_ | refine swp_lr (v := .str _) rfl ?_
          | refine rwp_nil ?_ | refine swp_done ?_ | refine swp_e ?_
          | refine thenQ_n ?_ | refine thenQ_e ?_ | refine thenQ_r ?_ | refine blockQ_n ?_ | refine blockQ_hit ?_ | refine blockQ_miss rfl ?_ | refine blockQ_r ?_
        refine rwp_call (now14 ho') rfl (fun _ _ h => h) ?_
        rintro v st4 ⟨rfl, rfl⟩
        have N1 : pev (.bin .neq) [.int .i64 (n : Int), .int .i64 (n : Int)] = some (.bool false) := by simp [pev, abin, aint]
        repeat first
          | refine ac_seq ?_ | refine ac_region ?_ | refine ac_block ?_ | refine ac_draw mixed ?_
          | refine ac_cond1 rfl ?_ | refine ac_cond0 rfl ?_ | refine ac_skip ?_ | refine ac_exit ?_ | refine ac_ret ?_
          | refine rwp_p N1 rfl ?_ | refine swp_p N1 rfl ?_
          | refine rwp_p C4 rfl ?_ | refine swp_p C4 rfl ?_
          | refine rwp_l L1 rfl ?_ | refine swp_l L1 rfl ?_
          | refine rwp_g1 rfl ?_ | refine rwp_g0 rfl rfl ?_ | refine rwp_gt rfl ?_ | refine swp_qg1 rfl ?_ | refine swp_qg0 rfl rfl ?_ | refine swp_qgt rfl ?_
          | refine rwp_pr (v := .int _ _) rfl ?_ | refine swp_pr (v := .int _ _) rfl ?_
          | refine rwp_pr (v := .bool _) rfl ?_ | refine swp_pr (v := .bool _) rfl ?_
          | refine rwp_pr (v := .ref _ _ _) rfl ?_ | refine swp_pr (v := .ref _ _ _) rfl ?_
          | refine rwp_pr (v := .list _ _ _) rfl ?_ | refine swp_pr (v := .list _ _ _) rfl ?_
          | refine rwp_pr (v := .iptr _) rfl ?_ | refine swp_pr (v := .iptr _) rfl ?_
          | refine rwp_pr (v := .tup _) rfl ?_ | refine swp_pr (v := .tup _) rfl ?_
          | refine rwp_pr (v := .agg _) rfl ?_ | refine swp_pr (v := .agg _) rfl ?_
          | refine rwp_pr (v := .str _) rfl ?_ | refine swp_pr (v := .str _) rfl ?_
          | refine rwp_lr (v := .int _ _) rfl ?_ | refine swp_lr (v := .int _ _) rfl ?_
          | refine rwp_lr (v := .bool _) rfl ?_ | refine swp_lr (v := .bool _) rfl ?_
          | refine rwp_lr (v := .ref _ _ _) rfl ?_ | refine swp_lr (v := .ref _ _ _) rfl ?_
          | refine rwp_lr (v := .list _ _ _) rfl ?_ | refine swp_lr (v := .list _ _ _) rfl ?_
          | refine rwp_lr (v := .iptr _) rfl ?_ | refine swp_lr (v := .iptr _) rfl ?_
          | refine rwp_lr (v := .tup _) rfl ?_ | refine swp_lr (v := .tup _) rfl ?_
          | refine rwp_lr (v := .agg _) rfl ?_ | refine swp_lr (v := .agg _) rfl ?_
          | refine rwp_lr (v := .str _) rfl ?_ | refine swp_lr (v := .str _) rfl ?_
          | refine rwp_nil ?_ | refine swp_done ?_ | refine swp_e ?_
          | refine thenQ_n ?_ | refine thenQ_e ?_ | refine thenQ_r ?_ | refine blockQ_n ?_ | refine blockQ_hit ?_ | refine blockQ_miss rfl ?_ | refine blockQ_r ?_
        exact ⟨i + 1, ⟨by omega, by omega, rfl, rfl, rfl, n, hn, rfl, ho'⟩, by omega⟩
      · rw [if_neg hneg] at he
        obtain ⟨rfl, ho2⟩ := he
        obtain ⟨xo2, yo2, hon2⟩ := ho2.on
        have L2 : lev st3 (.load none) [.ref ko vo 1] = some (.ref ke ve 0) := by simp [lev, load, cellsAt, hon2, partA]
        have D0 : pev (.bin .lss) [.int .i64 d, .int .i64 (.ofNat 0)] = some (.bool false) := by simp [pev, abin, aint]; omega
        obtain ⟨D, rfl⟩ : ∃ D : Nat, d = (D : Int) := ⟨d.toNat, by omega⟩
        simp only [Int.toNat_natCast] at ho2
        have hm : n + min D (slots1 - n) ≤ slots1 := by unfold slots1 at *; omega
        have F1 : pev (.bin .sub) [.int .i64 (.ofNat 1099511627775), .int .i64 (n : Int)] = some (.int .i64 ((slots1 - n : Nat) : Int)) := by
          unfold slots1 at *
          simp [pev, abin, aint]
          rw [show (1099511627775 - (n : Int)) = ((1099511627775 - n : Nat) : Int) by omega]
          exact wrapN (by omega)
        have F2 : pev .mn [.int .i64 (D : Int), .int .i64 ((slots1 - n : Nat) : Int)] = some (.int .i64 ((min D (slots1 - n) : Nat) : Int)) := by
          simp [pev]
          split <;> omega
        have F3 : pev (.bin .add) [.int .i64 (n : Int), .int .i64 ((min D (slots1 - n) : Nat) : Int)] = some (.int .i64 ((n + min D (slots1 - n) : Nat) : Int)) := by
          simp only [pev, abin, aint, if_true]
          rw [show ((n : Int) + ((min D (slots1 - n) : Nat) : Int)) = ((n + min D (slots1 - n) : Nat) : Int) by omega]
          rw [wrapN (by unfold slots1 at *; omega)]
        generalize n + min D (slots1 - n) = m at *
        generalize min D (slots1 - n) = q at *
        repeat first
          | refine ac_seq ?_ | refine ac_region ?_ | refine ac_block ?_ | refine ac_draw mixed ?_
          | refine ac_cond1 rfl ?_ | refine ac_cond0 rfl ?_ | refine ac_skip ?_ | refine ac_exit ?_ | refine ac_ret ?_
          | refine rwp_p M rfl ?_ | refine swp_p M rfl ?_ | refine rwp_p C3 rfl ?_ | refine swp_p C3 rfl ?_
          | refine rwp_p D0 rfl ?_ | refine swp_p D0 rfl ?_
          | refine rwp_p F1 rfl ?_ | refine swp_p F1 rfl ?_
          | refine rwp_p F2 rfl ?_ | refine swp_p F2 rfl ?_
          | refine rwp_p F3 rfl ?_ | refine swp_p F3 rfl ?_
          | refine rwp_l L2 rfl ?_ | refine swp_l L2 rfl ?_
          | refine rwp_g1 rfl ?_ | refine rwp_g0 rfl rfl ?_ | refine rwp_gt rfl ?_ | refine swp_qg1 rfl ?_ | refine swp_qg0 rfl rfl ?_ | refine swp_qgt rfl ?_
          | refine rwp_pr (v := .int _ _) rfl ?_ | refine swp_pr (v := .int _ _) rfl ?_
          | refine rwp_pr (v := .bool _) rfl ?_ | refine swp_pr (v := .bool _) rfl ?_
          | refine rwp_pr (v := .ref _ _ _) rfl ?_ | refine swp_pr (v := .ref _ _ _) rfl ?_
          | refine rwp_pr (v := .list _ _ _) rfl ?_ | refine swp_pr (v := .list _ _ _) rfl ?_
          | refine rwp_pr (v := .iptr _) rfl ?_ | refine swp_pr (v := .iptr _) rfl ?_
          | refine rwp_pr (v := .tup _) rfl ?_ | refine swp_pr (v := .tup _) rfl ?_
          | refine rwp_pr (v := .agg _) rfl ?_ | refine swp_pr (v := .agg _) rfl ?_
          | refine rwp_pr (v := .str _) rfl ?_ | refine swp_pr (v := .str _) rfl ?_
          | refine rwp_lr (v := .int _ _) rfl ?_ | refine swp_lr (v := .int _ _) rfl ?_
          | refine rwp_lr (v := .bool _) rfl ?_ | refine swp_lr (v := .bool _) rfl ?_
          | refine rwp_lr (v := .ref _ _ _) rfl ?_ | refine swp_lr (v := .ref _ _ _) rfl ?_
          | refine rwp_lr (v := .list _ _ _) rfl ?_ | refine swp_lr (v := .list _ _ _) rfl ?_
          | refine rwp_lr (v := .iptr _) rfl ?_ | refine swp_lr (v := .iptr _) rfl ?_
          | refine rwp_lr (v := .tup _) rfl ?_ | refine swp_lr (v := .tup _) rfl ?_
          | refine rwp_lr (v := .agg _) rfl ?_ | refine swp_lr (v := .agg _) rfl ?_
          | refine rwp_lr (v := .str _) rfl ?_ | refine swp_lr (v := .str _) rfl ?_
          | refine rwp_nil ?_ | refine swp_done ?_ | refine swp_e ?_
          | refine thenQ_n ?_ | refine thenQ_e ?_ | refine thenQ_r ?_ | refine blockQ_n ?_ | refine blockQ_hit ?_ | refine blockQ_miss rfl ?_ | refine blockQ_r ?_
        refine rwp_call (now14 ho2) rfl (fun _ _ h => h) ?_
        rintro v st4 ⟨rfl, rfl⟩
        have N1 : pev (.bin .neq) [.int .i64 (m : Int), .int .i64 (m : Int)] = some (.bool false) := by simp [pev, abin, aint]
        repeat first
          | refine ac_seq ?_ | refine ac_region ?_ | refine ac_block ?_ | refine ac_draw mixed ?_
          | refine ac_cond1 rfl ?_ | refine ac_cond0 rfl ?_ | refine ac_skip ?_ | refine ac_exit ?_ | refine ac_ret ?_
          | refine rwp_p N1 rfl ?_ | refine swp_p N1 rfl ?_
          | refine rwp_p C4 rfl ?_ | refine swp_p C4 rfl ?_
          | refine rwp_l L2 rfl ?_ | refine swp_l L2 rfl ?_
          | refine rwp_g1 rfl ?_ | refine rwp_g0 rfl rfl ?_ | refine rwp_gt rfl ?_ | refine swp_qg1 rfl ?_ | refine swp_qg0 rfl rfl ?_ | refine swp_qgt rfl ?_
          | refine rwp_pr (v := .int _ _) rfl ?_ | refine swp_pr (v := .int _ _) rfl ?_
          | refine rwp_pr (v := .bool _) rfl ?_ | refine swp_pr (v := .bool _) rfl ?_
          | refine rwp_pr (v := .ref _ _ _) rfl ?_ | refine swp_pr (v := .ref _ _ _) rfl ?_
          | refine rwp_pr (v := .list _ _ _) rfl ?_ | refine swp_pr (v := .list _ _ _) rfl ?_
          | refine rwp_pr (v := .iptr _) rfl ?_ | refine swp_pr (v := .iptr _) rfl ?_
          | refine rwp_pr (v := .tup _) rfl ?_ | refine swp_pr (v := .tup _) rfl ?_
          | refine rwp_pr (v := .agg _) rfl ?_ | refine swp_pr (v := .agg _) rfl ?_
          | refine rwp_pr (v := .str _) rfl ?_ | refine swp_pr (v := .str _) rfl ?_
          | refine rwp_lr (v := .int _ _) rfl ?_ | refine swp_lr (v := .int _ _) rfl ?_
          | refine rwp_lr (v := .bool _) rfl ?_ | refine swp_lr (v := .bool _) rfl ?_
          | refine rwp_lr (v := .ref _ _ _) rfl ?_ | refine swp_lr (v := .ref _ _ _) rfl ?_
          | refine rwp_lr (v := .list _ _ _) rfl ?_ | refine swp_lr (v := .list _ _ _) rfl ?_
          | refine rwp_lr (v := .iptr _) rfl ?_ | refine swp_lr (v := .iptr _) rfl ?_
          | refine rwp_lr (v := .tup _) rfl ?_ | refine swp_lr (v := .tup _) rfl ?_
          | refine rwp_lr (v := .agg _) rfl ?_ | refine swp_lr (v := .agg _) rfl ?_
          | refine rwp_lr (v := .str _) rfl ?_ | refine swp_lr (v := .str _) rfl ?_
          | refine rwp_nil ?_ | refine swp_done ?_ | refine swp_e ?_
          | refine thenQ_n ?_ | refine thenQ_e ?_ | refine thenQ_r ?_ | refine blockQ_n ?_ | refine blockQ_hit ?_ | refine blockQ_miss rfl ?_ | refine blockQ_r ?_
        exact ⟨i + 1, ⟨by omega, by omega, rfl, rfl, rfl, m, hm, rfl, ho2⟩, by omega⟩
    · by_cases hc1 : i < l.length
      · have C1 : pev (.bin .lss) [.int .i64 (i : Int), .int .i64 (l.length : Int)] = some (.bool true) := by simp [pev, abin, aint]; omega
        have C2 : pev (.bin .lss) [.int .i64 (i : Int), .int .i64 60] = some (.bool false) := by simp [pev, abin, aint]; omega
        repeat first
          | refine ac_seq ?_ | refine ac_region ?_ | refine ac_block ?_ | refine ac_draw mixed ?_
          | refine ac_cond1 rfl ?_ | refine ac_cond0 rfl ?_ | refine ac_skip ?_ | refine ac_exit ?_ | refine ac_ret ?_
          | refine rwp_p M rfl ?_ | refine swp_p M rfl ?_ | refine rwp_p C0 rfl ?_ | refine swp_p C0 rfl ?_
          | refine rwp_p C1 rfl ?_ | refine swp_p C1 rfl ?_
          | refine rwp_p C2 rfl ?_ | refine swp_p C2 rfl ?_
          | refine rwp_l L1 rfl ?_ | refine swp_l L1 rfl ?_
          | refine rwp_g1 rfl ?_ | refine rwp_g0 rfl rfl ?_ | refine rwp_gt rfl ?_ | refine swp_qg1 rfl ?_ | refine swp_qg0 rfl rfl ?_ | refine swp_qgt rfl ?_
          | refine rwp_pr (v := .int _ _) rfl ?_ | refine swp_pr (v := .int _ _) rfl ?_
          | refine rwp_pr (v := .bool _) rfl ?_ | refine swp_pr (v := .bool _) rfl ?_
          | refine rwp_pr (v := .ref _ _ _) rfl ?_ | refine swp_pr (v := .ref _ _ _) rfl ?_
          | refine rwp_pr (v := .list _ _ _) rfl ?_ | refine swp_pr (v := .list _ _ _) rfl ?_
          | refine rwp_pr (v := .iptr _) rfl ?_ | refine swp_pr (v := .iptr _) rfl ?_
          | refine rwp_pr (v := .tup _) rfl ?_ | refine swp_pr (v := .tup _) rfl ?_
          | refine rwp_pr (v := .agg _) rfl ?_ | refine swp_pr (v := .agg _) rfl ?_
          | refine rwp_pr (v := .str _) rfl ?_ | refine swp_pr (v := .str _) rfl ?_
          | refine rwp_lr (v := .int _ _) rfl ?_ | refine swp_lr (v := .int _ _) rfl ?_
          | refine rwp_lr (v := .bool _) rfl ?_ | refine swp_lr (v := .bool _) rfl ?_
          | refine rwp_lr (v := .ref _ _ _) rfl ?_ | refine swp_lr (v := .ref _ _ _) rfl ?_
          | refine rwp_lr (v := .list _ _ _) rfl ?_ | refine swp_lr (v := .list _ _ _) rfl ?_
          | refine rwp_lr (v := .iptr _) rfl ?_ | refine swp_lr (v := .iptr _) rfl ?_
          | refine rwp_lr (v := .tup _) rfl ?_ | refine swp_lr (v := .tup _) rfl ?_
          | refine rwp_lr (v := .agg _) rfl ?_ | refine swp_lr (v := .agg _) rfl ?_
          | refine rwp_lr (v := .str _) rfl ?_ | refine swp_lr (v := .str _) rfl ?_
          | refine rwp_nil ?_ | refine swp_done ?_ | refine swp_e ?_
          | refine thenQ_n ?_ | refine thenQ_e ?_ | refine thenQ_r ?_ | refine blockQ_n ?_ | refine blockQ_hit ?_ | refine blockQ_miss rfl ?_ | refine blockQ_r ?_
        exact (awake12 ho'.fresh).mono fun e st3 he => by
          cases e with
          | panic v => exact he.elim
          | ret v => exact ⟨v, rfl, he⟩
      · have C1 : pev (.bin .lss) [.int .i64 (i : Int), .int .i64 (l.length : Int)] = some (.bool false) := by simp [pev, abin, aint]; omega
        repeat first
          | refine ac_seq ?_ | refine ac_region ?_ | refine ac_block ?_ | refine ac_draw mixed ?_
          | refine ac_cond1 rfl ?_ | refine ac_cond0 rfl ?_ | refine ac_skip ?_ | refine ac_exit ?_ | refine ac_ret ?_
          | refine rwp_p M rfl ?_ | refine swp_p M rfl ?_ | refine rwp_p C0 rfl ?_ | refine swp_p C0 rfl ?_
          | refine rwp_p C1 rfl ?_ | refine swp_p C1 rfl ?_
          | refine rwp_l L1 rfl ?_ | refine swp_l L1 rfl ?_
          | refine rwp_g1 rfl ?_ | refine rwp_g0 rfl rfl ?_ | refine rwp_gt rfl ?_ | refine swp_qg1 rfl ?_ | refine swp_qg0 rfl rfl ?_ | refine swp_qgt rfl ?_
          | refine rwp_pr (v := .int _ _) rfl ?_ | refine swp_pr (v := .int _ _) rfl ?_
          | refine rwp_pr (v := .bool _) rfl ?_ | refine swp_pr (v := .bool _) rfl ?_
          | refine rwp_pr (v := .ref _ _ _) rfl ?_ | refine swp_pr (v := .ref _ _ _) rfl ?_
          | refine rwp_pr (v := .list _ _ _) rfl ?_ | refine swp_pr (v := .list _ _ _) rfl ?_
          | refine rwp_pr (v := .iptr _) rfl ?_ | refine swp_pr (v := .iptr _) rfl ?_
          | refine rwp_pr (v := .tup _) rfl ?_ | refine swp_pr (v := .tup _) rfl ?_
          | refine rwp_pr (v := .agg _) rfl ?_ | refine swp_pr (v := .agg _) rfl ?_
          | refine rwp_pr (v := .str _) rfl ?_ | refine swp_pr (v := .str _) rfl ?_
          | refine rwp_lr (v := .int _ _) rfl ?_ | refine swp_lr (v := .int _ _) rfl ?_
          | refine rwp_lr (v := .bool _) rfl ?_ | refine swp_lr (v := .bool _) rfl ?_
          | refine rwp_lr (v := .ref _ _ _) rfl ?_ | refine swp_lr (v := .ref _ _ _) rfl ?_
          | refine rwp_lr (v := .list _ _ _) rfl ?_ | refine swp_lr (v := .list _ _ _) rfl ?_
          | refine rwp_lr (v := .iptr _) rfl ?_ | refine swp_lr (v := .iptr _) rfl ?_
          | refine rwp_lr (v := .tup _) rfl ?_ | refine swp_lr (v := .tup _) rfl ?_
          | refine rwp_lr (v := .agg _) rfl ?_ | refine swp_lr (v := .agg _) rfl ?_
          | refine rwp_lr (v := .str _) rfl ?_ | refine swp_lr (v := .str _) rfl ?_
          | refine rwp_nil ?_ | refine swp_done ?_ | refine swp_e ?_
          | refine thenQ_n ?_ | refine thenQ_e ?_ | refine thenQ_r ?_ | refine blockQ_n ?_ | refine blockQ_hit ?_ | refine blockQ_miss rfl ?_ | refine blockQ_r ?_
        exact (awake12 ho'.fresh).mono fun e st3 he => by
          cases e with
          | panic v => exact he.elim
          | ret v => exact ⟨v, rfl, he⟩
  · exact ⟨by omega, by omega, rfl, rfl, rfl, 0, by simp [slots1], rfl, ho⟩

end Go.Am.Tab
