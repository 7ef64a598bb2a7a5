/- EngineTicks over the abstract machine: whatever the list, it returns true. -/
import Derived.Test.YteinffefhcpcmaaGreatDoorVtRuns1
namespace Go.Am.Tab
open Go.Am Go.Proofs

theorem isTrue_some {o : Option (List (AVal × Hp × Nat))} (h : isTrue o = true) : ∃ h b, o = some [(.bool true, h, b)] := by
  unfold isTrue at h
  split at h
  · exact ⟨_, _, rfl⟩
  · cases h

theorem awake12 {st : Store} (hf : ∀ i, top ≤ i → st (0, i) = slot0) : ACalls Tryz.prog 12 [] st (endK (fun v _ => v = .bool true) (fun _ _ => False)) := by
  obtain ⟨h, b, e⟩ := isTrue_some awake_run
  refine ((runOK 100000 100) 12 [] .leaf top _ e st ⟨fun i s e => by simp [T.get] at e, fun i s e => by simp [T.get] at e, hf⟩).1.mono fun e st' he => ?_
  cases e with
  | panic v => exact he
  | ret v =>
    obtain ⟨o, ho, rfl, _⟩ := he
    rw [List.mem_singleton.1 ho]
    exact rfl

def Fresh (b : Nat) (st : Store) : Prop := ∀ i, b ≤ i → st (0, i) = slot0

theorem agr_leaf {b : Nat} {st : Store} (hf : Fresh b st) : Agr .leaf b st := ⟨fun i s e => by simp [T.get] at e, fun i s e => by simp [T.get] at e, hf⟩

theorem conf7 {st : Store} (hf : Fresh 0 st) : ACalls Tryz.prog 7 [.int .i64 1, .list .full 1 []] st (endK (fun v st' => v = conf1 ∧ Fresh 1000 st') (fun _ _ => False)) := by
  have hr := conf_run
  unfold isConf at hr
  split at hr
  · rename_i v h b e
    simp only [Bool.and_eq_true, Nat.ble_eq] at hr
    refine ((runOK 100000 100) 7 _ .leaf 0 _ e st (agr_leaf hf)).1.mono fun e st' he => ?_
    cases e with
    | panic v => exact he
    | ret v =>
      obtain ⟨o, ho, rfl, hs⟩ := he
      rw [List.mem_singleton.1 ho] at hs ⊢
      exact ⟨veq_eq hr.1, fun i hi => hs.agr.fresh i (by have := hr.2; simp only at *; omega)⟩
  · cases hr

structure Opened (ko : Key) (vo : Nat) (ke : Key) (ve : Nat) (n : Nat) (st : Store) : Prop where
  on : ∃ x y, st ko = ⟨vo, some (.cells [x, .ref ke ve 0, y])⟩
  eng : ∃ a b c d e f g h, st ke = ⟨ve, some (.cells [a, b, c, d, e, f, .int .i64 (n : Int), g, h, .bool false, .bool false])⟩
  ne : ko ≠ ke
  lt : ko.2 < top ∧ ke.2 < top
  fresh : Fresh top st

theorem open6 {st : Store} (hf : Fresh 1000 st) : ACalls Tryz.prog 6 [conf1, .int .i64 0] st (endK (fun v st' => ∃ ko vo ke ve, v = .tup [.ref ko vo 0, .bool true] ∧ Opened ko vo ke ve 0 st') (fun _ _ => False)) := by
  have hr := open_run
  unfold isOpen at hr
  split at hr
  · rename_i ko vo h b e
    simp only [Bool.and_eq_true, Nat.ble_eq] at hr
    obtain ⟨hb, hr⟩ := hr
    split at hr
    · rename_i x ke ve y ho
      simp only [Bool.and_eq_true] at hr
      obtain ⟨hne, hr⟩ := hr
      split at hr
      · rename_i a1 a2 a3 a4 a5 a6 n a7 a8 hen
        have hn := Nat.eq_of_beq_eq_true hr
        subst hn
        refine ((runOK 100000 100) 6 _ .leaf 1000 _ e st (agr_leaf hf)).1.mono fun e st' he => ?_
        cases e with
        | panic v => exact he
        | ret v =>
          obtain ⟨o, hmem, rfl, hs⟩ := he
          rw [List.mem_singleton.1 hmem] at hs ⊢
          obtain ⟨k1, _, k2, _⟩ := objAt_some ho
          obtain ⟨k3, _, k4, _⟩ := objAt_some hen
          refine ⟨ko, vo, ke, ve, rfl, ⟨x, y, at_sound ho hs.agr.know⟩, ⟨a1, a2, a3, a4, a5, a6, a7, a8, at_sound hen hs.agr.know⟩, ?_, ⟨?_, ?_⟩, fun i hi => hs.agr.fresh i (by simp only; omega)⟩
          · rintro rfl
            have : keyEq ko ko = true := by
              rw [k1]; simp [keyEq, isZ]
            rw [this] at hne
            cases hne
          · have := hs.agr.lt _ _ k2; simp only at this; omega
          · have := hs.agr.lt _ _ k4; simp only at this; omega
      · cases hr
    · cases hr
  · cases hr

def slots1 : Nat := 1099511627775

theorem wrapN {n : Nat} (h : n < 9223372036854775808) : IntKind.i64.wrap (n : Int) = (n : Int) := by
  simp [IntKind.wrap, IntKind.signed, IntKind.bits]
  omega

theorem now14 {ko : Key} {vo : Nat} {ke : Key} {ve n : Nat} {st : Store} (ho : Opened ko vo ke ve n st) :
    ACalls Tryz.prog 14 [.ref ke ve 0] st (endK (fun v st' => v = .int .i64 (n : Int) ∧ st' = st) (fun _ _ => False)) := by
  obtain ⟨a, b, c, d, e, f, g, h, he⟩ := ho.eng
  refine ACalls_of Tryz.func14 c14 (nmOf 0) (by simp [a14]) (AC_of_awp mixed ?_)
  simp [a14, awp, rwp, ropG, rop, thenQ, Fr.get, Fr.put, Fr.ev, argFr, pev, abin, aint, retQ, resA, res1, endK, lev, load, cellsAt, he, partA]

set_option maxHeartbeats 4000000 in
theorem tick13 {ko : Key} {vo : Nat} {ke : Key} {ve n : Nat} {st : Store} (ho : Opened ko vo ke ve n st) (hn : n ≤ slots1) (d : Int) :
    ACalls Tryz.prog 13 [.ref ke ve 0, .int .i64 d] st (endK (fun v st' => if d < 0 then v = .int .i64 1 ∧ st' = st else v = .int .i64 0 ∧ Opened ko vo ke ve (n + min d.toNat (slots1 - n)) st') (fun _ _ => False)) := by
  obtain ⟨a, b, c, d1, e, f, g, h, he⟩ := ho.eng
  refine ACalls_of Tryz.func13 c13 (nmOf 0) (by simp [a13]) (AC_of_awp mixed ?_)
  unfold slots1 at hn ⊢
  by_cases hd : d < 0
  · simp [a13, awp, rwp, swp, qev, qop, ropG, rop, thenQ, blockQ, Fr.get, Fr.put, Fr.ev, argFr, pev, abin, aint, retQ, resA, res1, endK, lev, load, cellsAt, he, partA, hd]
  · have h1 : IntKind.i64.wrap (1099511627775 - (n : Int)) = ((1099511627775 - n : Nat) : Int) := by
      rw [show (1099511627775 - (n : Int)) = ((1099511627775 - n : Nat) : Int) by omega]
      exact wrapN (by omega)
    have h2 : ∀ m : Nat, m ≤ 1099511627775 - n → IntKind.i64.wrap ((n : Int) + (m : Int)) = ((n + m : Nat) : Int) := fun m hm => by
      rw [show ((n : Int) + (m : Int)) = ((n + m : Nat) : Int) by omega]
      exact wrapN (by omega)
    obtain ⟨D, rfl⟩ : ∃ D : Nat, d = (D : Int) := ⟨d.toNat, by omega⟩
    have hfin : ∀ m : Nat, Opened ko vo ke ve m (st.set ke ⟨ve, some (.cells [a, b, c, d1, e, f, .int .i64 (m : Int), g, h, .bool false, .bool false])⟩) := fun m => by
      obtain ⟨x, y, hxy⟩ := ho.on
      refine ⟨⟨x, y, ?_⟩, ⟨a, b, c, d1, e, f, g, h, by simp [Store.set]⟩, ho.ne, ho.lt, fun i hi => ?_⟩
      · simp only [Store.set]; rw [if_neg ho.ne]; exact hxy
      · simp only [Store.set]
        rw [if_neg]
        · exact ho.fresh i hi
        · rintro rfl; have := ho.lt.2; simp only at this; omega
    by_cases hlt : (1099511627775 - n : Nat) < D
    · have e1 : ((1099511627775 - n : Nat) : Int) < (D : Int) := by omega
      have e2 : min D (1099511627775 - n) = 1099511627775 - n := by omega
      simp [a13, awp, rwp, swp, qev, qop, ropG, rop, thenQ, blockQ, Fr.get, Fr.put, Fr.ev, argFr, pev, abin, aint, retQ, resA, res1, endK, lev, load, cellsAt, he, partA, hd, h1, e1, e2, h2, iwp, isV, isCell, AVal.cells, splice, stills]
      exact hfin _
    · have e1 : ¬ ((1099511627775 - n : Nat) : Int) < (D : Int) := by omega
      have e2 : min D (1099511627775 - n) = D := by omega
      simp [a13, awp, rwp, swp, qev, qop, ropG, rop, thenQ, blockQ, Fr.get, Fr.put, Fr.ev, argFr, pev, abin, aint, retQ, resA, res1, endK, lev, load, cellsAt, he, partA, hd, h1, e1, e2, h2 D (by omega), iwp, isV, isCell, AVal.cells, splice, stills]
      exact hfin _

end Go.Am.Tab
