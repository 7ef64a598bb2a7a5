/- EngineMany: an engine at its beginning. -/
import Derived.Test.YteinffefhcpcmaaGreatDoorVtManyB
import Derived.Test.YteinffefhcpcmaaGreatDoorVtTicksA
set_option linter.unusedVariables false
set_option linter.unusedSimpArgs false
set_option linter.unusedSectionVars false
namespace Go.Am.Tab
open Go.Am Go.Proofs
set_option maxRecDepth 100000

/-- What a new engine is. -/
def isNew : Option (List (AVal × Hp × Nat)) → Bool
  | some [(.tup [.ref ko vo 0, .bool true], h, b)] => Nat.ble b top && match objAt h ko vo with
    | some (.cells [_, .ref ke ve 0, _]) => match objAt h ke ve with
      | some (.cells [_, c1, c2, c3, c4, c5, n, .ref ks vs 0, .mapr kc vc, x, y]) =>
        veqL [c1, c2, c3, c4, c5, n, x, y] [.int .i64 1, .int .i64 1, .int .i64 1, .int .i64 1, .int .i64 1, .int .i64 0, .bool false, .bool false] && match objAt h kc vc, objAt h ks vs with
          | some (.map [] _), some (.cells ls) => match (ls[7]? : Option AVal), (ls[9]? : Option AVal) with
            | some r, some (.ref km vm 0) => veq r noRows && match objAt h km vm with
              | some (.cells [.mapr kr vr]) => match objAt h kr vr with
                | some (.map [] _) => !keyEq ko kc && !keyEq ke kc && !keyEq ks kc && !keyEq km kc && !keyEq kr kc
                | _ => false
              | _ => false
            | _, _ => false
          | _, _ => false
      | _ => false
    | _ => false
  | _ => false

theorem new_run : isNew (xcall tab prim 100000 100 6 [conf1, .int .i64 0] .leaf 1000) = true := by kernel_rfl

/-- The same as 'Many', but for the question. -/
structure New (q : Ks) (st : Store) : Prop where
  on : ∃ x y, st q.ko = ⟨q.vo, some (.cells [x, .ref q.ke q.ve 0, y])⟩
  eng : ∃ f, st q.ke = ⟨q.ve, some (.cells (engCells f q))⟩
  cur : ∃ clk, st q.kc = ⟨q.vc, some (.map [] clk)⟩
  sta : ∃ l, st q.ks = ⟨q.vs, some (.cells l)⟩ ∧ l[7]? = some noRows ∧ l[9]? = some (.ref q.km q.vm 0)
  mem : st q.km = ⟨q.vm, some (.cells [.mapr q.kr q.vr])⟩
  row : ∃ clk, st q.kr = ⟨q.vr, some (.map [] clk)⟩
  zero : q.ko.1 = 0 ∧ q.ke.1 = 0 ∧ q.kc.1 = 0 ∧ q.ks.1 = 0 ∧ q.km.1 = 0 ∧ q.kr.1 = 0
  ne : q.ko ≠ q.kc ∧ q.ke ≠ q.kc ∧ q.ks ≠ q.kc ∧ q.km ≠ q.kc ∧ q.kr ≠ q.kc
  fresh : ∀ i, 1048576 ≤ i → st (0, i) = slot0
  lt : q.kc.2 < 1048576
  ns : Ns 1 st

theorem ne_of_keyEq {a b : Key} (ha : a.1 = 0) (h : (!keyEq a b) = true) : a ≠ b := by
  rintro rfl
  have : keyEq a a = true := by
    obtain ⟨x, i⟩ := a
    simp only at ha
    subst ha
    simp [keyEq, isZ]
  rw [this] at h
  cases h

theorem new6 {st : Store} (hf : Fresh 1000 st) (hns : Ns 1 st) : ACalls Tryz.prog 6 [conf1, .int .i64 0] st (endK (fun v st' => ∃ q, v = .tup [.ref q.ko q.vo 0, .bool true] ∧ New q st') (fun _ _ => False)) := by
  have hr := new_run
  unfold isNew at hr
  split at hr
  · rename_i ko vo h b e
    rw [Bool.and_eq_true, Nat.ble_eq] at hr
    obtain ⟨hb, hr⟩ := hr
    split at hr
    · rename_i x ke ve y ho
      split at hr
      · rename_i f c1 c2 c3 c4 c5 n ks vs kc vc x1 y1 hen
        rw [Bool.and_eq_true] at hr
        obtain ⟨hcs, hr⟩ := hr
        have hcs := veqL_eq hcs
        simp only [List.cons.injEq, and_true] at hcs
        obtain ⟨rfl, rfl, rfl, rfl, rfl, rfl, rfl, rfl⟩ := hcs
        split at hr
        · rename_i clk ls hcu hst
          split at hr
          · rename_i r km vm h7 h9
            rw [Bool.and_eq_true] at hr
            obtain ⟨hrr, hr⟩ := hr
            have hrr := veq_eq hrr
            subst hrr
            split at hr
            · rename_i kr vr hme
              split at hr
              · rename_i clkr hro
                simp only [Bool.and_eq_true] at hr
                obtain ⟨⟨⟨⟨n1, n2⟩, n3⟩, n4⟩, n5⟩ := hr
                obtain ⟨z1, s1, g1, _⟩ := objAt_some ho
                obtain ⟨z2, s2, g2, _⟩ := objAt_some hen
                obtain ⟨z3, s3, g3, _⟩ := objAt_some hcu
                obtain ⟨z4, s4, g4, _⟩ := objAt_some hst
                obtain ⟨z5, s5, g5, _⟩ := objAt_some hme
                obtain ⟨z6, s6, g6, _⟩ := objAt_some hro
                have w1 : ko.1 = 0 := by rw [z1]
                have w2 : ke.1 = 0 := by rw [z2]
                have w3 : kc.1 = 0 := by rw [z3]
                have w4 : ks.1 = 0 := by rw [z4]
                have w5 : km.1 = 0 := by rw [z5]
                have w6 : kr.1 = 0 := by rw [z6]
                refine ((runOK 100000 100) 6 _ .leaf 1000 _ e st (agr_leaf hf)).1.mono fun e st' he => ?_
                cases e with
                | panic v => exact he
                | ret v =>
                  obtain ⟨o, hmem, rfl, hs⟩ := he
                  rw [List.mem_singleton.1 hmem] at hs ⊢
                  have hk := hs.agr.know
                  refine ⟨⟨ko, vo, ke, ve, kc, vc, ks, vs, km, vm, kr, vr⟩, rfl, ⟨x, y, at_sound ho hk⟩, ⟨f, at_sound hen hk⟩, ⟨clk, at_sound hcu hk⟩, ⟨ls, at_sound hst hk, h7, h9⟩, at_sound hme hk, ⟨clkr, at_sound hro hk⟩,
                    ⟨w1, w2, w3, w4, w5, w6⟩, ⟨ne_of_keyEq w1 n1, ne_of_keyEq w2 n2, ne_of_keyEq w4 n3, ne_of_keyEq w5 n4, ne_of_keyEq w6 n5⟩, fun i hi => hs.agr.fresh i (by unfold top at hb; simp only; omega), ?_, fun c hc i => ?_⟩
                  · have := hs.agr.lt _ _ g3
                    unfold top at hb
                    simp only at this ⊢
                    omega
                  · rw [hs.fx (c, i) (fun e => by simp only at e; omega)]
                    exact hns c hc i
              · cases hr
            · cases hr
          · cases hr
        · cases hr
      · cases hr
    · cases hr
  · cases hr

theorem conf7n {st : Store} (hf : Fresh 0 st) (hns : Ns 1 st) : ACalls Tryz.prog 7 [.int .i64 1, .list .full 1 []] st (endK (fun v st' => v = conf1 ∧ Fresh 1000 st' ∧ Ns 1 st') (fun _ _ => False)) := by
  have hr := conf_run
  unfold isConf at hr
  split at hr
  · rename_i v h b e
    simp only [Bool.and_eq_true, Nat.ble_eq] at hr
    refine ((runOK 100000 100) 7 _ .leaf 0 _ e st (agr_leaf hf)).1.mono fun e st' he => ?_
    cases e with
    | panic v => exact he
    | ret v =>
      obtain ⟨o, ho, rfl, hs⟩ := he
      rw [List.mem_singleton.1 ho] at hs ⊢
      refine ⟨veq_eq hr.1, fun i hi => hs.agr.fresh i (by have := hr.2; simp only at *; omega), fun c hc i => ?_⟩
      rw [hs.fx (c, i) (fun e => by simp only at e; omega)]
      exact hns c hc i
  · cases hr

end Go.Am.Tab
