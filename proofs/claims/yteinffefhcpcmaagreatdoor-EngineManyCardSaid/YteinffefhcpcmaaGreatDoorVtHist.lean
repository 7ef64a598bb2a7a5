/- hist.Buckets, hist.upto, wide.Add as calls of the abstract machine. -/
import Derived.Test.YteinffefhcpcmaaGreatDoorVtC0
import Derived.Test.YteinffefhcpcmaaGreatDoorVtC1
import Derived.Test.YteinffefhcpcmaaGreatDoorVtC2
import Derived.Test.YteinffefhcpcmaaGreatDoorVtC3
import Derived.Test.YteinffefhcpcmaaGreatDoorAmE
set_option linter.unusedVariables false
set_option linter.unusedSimpArgs false
set_option linter.unusedSectionVars false
namespace Go.Am.Tab
open Go.Am Go.Proofs

theorem mixed : Tryz.prog.follows .mixedOrders = true := by kernel_rfl

theorem add125 (a b : Nat) (st : Store) : ACalls Tryz.prog 125 [.int .u64 (.ofNat a), .int .u64 (.ofNat b)] st (endK (fun v st' => v = .int .u64 (.ofNat (min (a + b) 18446744073709551615)) ∧ st' = st) (fun _ _ => False)) := by
  refine ACalls_of Tryz.func125 c125 (nmOf 0) (by simp [a125]) (AC_of_awp mixed ?_)
  by_cases h : a + b < 18446744073709551616
  · have h1 : (a + b) % 18446744073709551616 = a + b := Nat.mod_eq_of_lt h
    have h2 : (a + b) / 18446744073709551616 = 0 := Nat.div_eq_of_lt h
    simp [a125, awp, rwp, ropG, rop, thenQ, Fr.get, Fr.put, Fr.ev, argFr, pev, abin, aint, retQ, resA, res1, endK]
    split <;> omega
  · have h2 : 0 < (a + b) / 18446744073709551616 := by omega
    simp [a125, awp, rwp, ropG, rop, thenQ, Fr.get, Fr.put, Fr.ev, argFr, pev, abin, aint, retQ, resA, res1, endK]
    split <;> omega

/-- The cells of an array of numbers. -/
def Nums (l : List AVal) : Prop := ∀ a ∈ l, ∃ n : Nat, a = .int .u64 (.ofNat n)

theorem sumScan_nums : ∀ {l : List AVal} {acc s : Nat}, sumScan l acc = some s → Nums l
  | [], _, _, _ => fun a ha => by cases ha
  | x :: l, acc, s, h => by
    unfold sumScan at h
    split at h
    · rename_i e; cases e
    · rename_i n l' e
      cases e
      intro a ha
      rcases List.mem_cons.1 ha with rfl | ha
      · exact ⟨n, rfl⟩
      · exact sumScan_nums h a ha
    · cases h

theorem sumScan_take : ∀ {l : List AVal} {acc s : Nat}, acc ≤ 18446744073709551615 → sumScan l acc = some s → ∀ i, i ≤ l.length → ∃ t, sumScan (l.take i) acc = some t ∧ t ≤ 18446744073709551615 ∧
    (i = l.length → t = s) ∧ ∀ n, l[i]? = some (.int .u64 (.ofNat n)) → sumScan (l.take (i + 1)) acc = some (min (t + n) 18446744073709551615)
  | [], acc, s, hb, h, i, hi => by
    simp at hi
    subst hi
    simp only [sumScan, Option.some.injEq] at h
    exact ⟨acc, rfl, hb, fun _ => h, fun n hn => by simp at hn⟩
  | x :: l, acc, s, hb, h, 0, hi => by
    refine ⟨acc, rfl, hb, fun e => by simp at e, fun n hn => ?_⟩
    simp at hn
    subst hn
    simp only [List.take_succ_cons, List.take_zero, sumScan]
    cases hn : Nat.beq n 0 with
    | true => have := Nat.eq_of_beq_eq_true hn; subst this; simp; omega
    | false => simp
  | x :: l, acc, s, hb, h, i + 1, hi => by
    obtain ⟨n, rfl⟩ := sumScan_nums h x (List.mem_cons_self ..)
    simp only [sumScan] at h
    have hb' : (cond (Nat.beq n 0) acc (min (acc + n) 18446744073709551615)) ≤ 18446744073709551615 := by cases Nat.beq n 0 <;> simp <;> omega
    obtain ⟨t, h1, h2, h3, h4⟩ := sumScan_take hb' h i (by simpa using hi)
    refine ⟨t, by simp only [List.take_succ_cons, sumScan]; exact h1, h2, fun e => h3 (by simpa using e), fun m hm => ?_⟩
    simp only [List.take_succ_cons, sumScan]
    exact h4 m (by simpa using hm)

set_option maxRecDepth 100000 in
theorem upto186 {st : Store} {k : Key} {v off i s : Nat} {l : List AVal} (hi : i < 7424) (hl : load st (some 7424) (.ref k v off) = some (.agg l)) (hs : sumScan (l.take (i + 1)) 0 = some s) :
    ACalls Tryz.prog 186 [.ref k v off, .int .i64 (.ofNat i)] st (endK (fun v st' => v = .int .u64 (.ofNat s) ∧ st' = st) (fun _ _ => False)) := by
  simp only [load, Option.bind_eq_some_iff] at hl
  obtain ⟨L, hL, hp⟩ := hl
  simp only [partA] at hp
  split at hp
  · rename_i hoff
    cases hp
    refine ACalls_of Tryz.func186 c186 (nmOf 0) (by simp [a186]) (AC_of_awp mixed ?_)
    have hw : IntKind.i64.wrap ((i : Int) + 1) = ((i + 1 : Nat) : Int) := by
      have : ((i : Int) + 1) = ((i + 1 : Nat) : Int) := by omega
      rw [this]
      simp [IntKind.wrap, IntKind.signed, IntKind.bits]
      omega
    have h1 : i + 1 ≤ 7424 := hi
    have h2 : ((i : Int) + 1) ≤ 7424 := by omega
    have h3 : (0 : Int) ≤ ((i : Int) + 1) := by omega
    simp [a186, awp, rwp, ropG, rop, thenQ, Fr.get, Fr.put, Fr.ev, argFr, pev, abin, aint, retQ, resA, res1, endK, isNil, lev, hL, bnds, optInt, hw, hoff, h1, h2, h3]
    refine AC.loop (X := Nat) (fun j fr st' => st' = st ∧ j ≤ i + 1 ∧ fr.get 15 = .msl k v 1 off (i + 1) ∧ fr.get 16 = .int .i64 ((i : Int) + 1) ∧ fr.get 17 = .int .i64 (j : Int) ∧ ∃ t, sumScan ((((L.drop off).take 7424).take (i + 1)).take j) 0 = some t ∧ fr.get 5 = .int .u64 (t : Int)) (fun j => i + 1 - j) ?_ (x := 0) ?_
    · rintro j fr st' ⟨rfl, hj, e15, e16, e17, t, ht, e5⟩
      refine AC_of_awp mixed ?_
      have hlen : (((L.drop off).take 7424).take (i + 1)).length = i + 1 := by simp; omega
      obtain ⟨t', q1, q2, q3, q4⟩ := sumScan_take (Nat.zero_le _) hs j (by rw [hlen]; exact hj)
      rw [ht] at q1
      cases q1
      by_cases hji : j < i + 1
      · have g1 : (j : Int) < (i : Int) + 1 := by omega
        obtain ⟨n, hn⟩ := sumScan_nums hs ((((L.drop off).take 7424).take (i + 1))[j]'(by omega)) (List.getElem_mem _)
        have hcell : L[off + j]? = some (.int .u64 (n : Int)) := by
          have : (((L.drop off).take 7424).take (i + 1))[j]? = some (.int .u64 (n : Int)) := by rw [List.getElem?_eq_getElem (by omega), hn]; rfl
          rw [List.getElem?_take_of_lt hji, List.getElem?_take_of_lt (by omega), List.getElem?_drop] at this
          exact this
        have g2 := q4 n (by rw [List.getElem?_take_of_lt hji, List.getElem?_take_of_lt (by omega), List.getElem?_drop]; exact hcell)
        have hw2 : IntKind.i64.wrap ((j : Int) + 1) = ((j + 1 : Nat) : Int) := by
          have : ((j : Int) + 1) = ((j + 1 : Nat) : Int) := by omega
          rw [this]
          simp [IntKind.wrap, IntKind.signed, IntKind.bits]
          omega
        simp [awp, rwp, ropG, rop, thenQ, blockQ, Fr.get, Fr.put, Fr.ev, pev, abin, aint, lev, load, partA, hL, hcell, e15, e16, e17, e5, g1, hji, iwp]
        refine (add125 t n st').mono fun e st2 he => ?_
        cases e with
        | panic v => exact he.elim
        | ret v =>
          obtain ⟨rfl, rfl⟩ := he
          simp [endK, thenQ, awp, rwp, ropG, rop, Fr.get, Fr.put, Fr.ev, pev, abin, aint, hw2, e15, e16, e17]
          exact ⟨j + 1, ⟨by omega, by omega, _, g2, by simp⟩, by omega⟩
      · have g1 : ¬ (j : Int) < (i : Int) + 1 := by omega
        have := q3 (by rw [hlen]; omega)
        subst this
        simp [awp, rwp, ropG, rop, thenQ, blockQ, Fr.get, Fr.put, Fr.ev, pev, abin, aint, e15, e16, e17, e5, g1, retQ, resA, res1, endK]
    · exact ⟨rfl, by omega, rfl, rfl, rfl, 0, rfl, rfl⟩
  · cases hp

theorem bkScan_nums : ∀ {l : List AVal} {i : Nat} {acc s : List AVal}, bkScan l i acc = some s → Nums l
  | [], _, _, _, _ => fun a ha => by cases ha
  | x :: l, i, acc, s, h => by
    unfold bkScan at h
    split at h
    · rename_i e; cases e
    · rename_i n l' e
      cases e
      intro a ha
      rcases List.mem_cons.1 ha with rfl | ha
      · exact ⟨n, rfl⟩
      · exact bkScan_nums h a ha
    · cases h

def bkNext (acc : List AVal) (i n : Nat) : List AVal := cond (Nat.beq n 0) acc (acc ++ [.agg [.int .i64 (.ofNat i), .int .u64 (.ofNat n)]])

theorem bkScan_take : ∀ {l : List AVal} {i : Nat} {acc s : List AVal}, bkScan l i acc = some s → ∀ j, j ≤ l.length → ∃ t, bkScan (l.take j) i acc = some t ∧ t.length ≤ acc.length + j ∧
    (j = l.length → t = s) ∧ ∀ n, l[j]? = some (.int .u64 (.ofNat n)) → bkScan (l.take (j + 1)) i acc = some (bkNext t (i + j) n)
  | [], i, acc, s, h, j, hj => by
    simp at hj
    subst hj
    simp only [bkScan, Option.some.injEq] at h
    exact ⟨acc, rfl, by omega, fun _ => h, fun n hn => by simp at hn⟩
  | x :: l, i, acc, s, h, 0, hj => by
    refine ⟨acc, rfl, by omega, fun e => by simp at e, fun n hn => ?_⟩
    simp at hn
    subst hn
    simp only [List.take_succ_cons, List.take_zero, bkScan, bkNext]
    rfl
  | x :: l, i, acc, s, h, j + 1, hj => by
    obtain ⟨n, rfl⟩ := bkScan_nums h x (List.mem_cons_self ..)
    simp only [bkScan] at h
    obtain ⟨t, h1, h2, h3, h4⟩ := bkScan_take h j (by simpa using hj)
    refine ⟨t, by simp only [List.take_succ_cons, bkScan]; exact h1, ?_, fun e => h3 (by simpa using e), fun m hm => ?_⟩
    · have : (cond (Nat.beq n 0) acc (acc ++ [AVal.agg [.int .i64 (.ofNat i), .int .u64 (.ofNat n)]])).length ≤ acc.length + 1 := by cases Nat.beq n 0 <;> simp
      omega
    · simp only [List.take_succ_cons, bkScan]
      rw [h4 m (by simpa using hm)]
      congr 2
      omega

def valB (b : Nat) (acc : List AVal) : AVal := if acc.length = 0 then .list .full 2 [] else .list (.tk (0, b) acc.length) 2 acc
def stB (st : Store) (b : Nat) (acc : List AVal) : Store := if acc.length = 0 then st else st.set (0, b) ⟨acc.length, some (.tail acc.length)⟩

theorem Store.set_set (st : Store) (k : Key) (s s' : Slot) : (st.set k s).set k s' = st.set k s' := by
  funext x
  simp only [Store.set]
  split <;> rfl

theorem Store.set_at (st : Store) (k : Key) (s : Slot) : (st.set k s) k = s := by simp [Store.set]

def nmB (b : Nat) : Nm := ⟨fun _ => (0, b), fun _ => false⟩

set_option maxRecDepth 100000 in
theorem appendB {P : Program} {st : Store} {b : Nat} (hb : st (0, b) = slot0) {acc : List AVal} (hl : acc.length < 7424) (x : AVal) {K KP : AVal → Store → Prop} (hk : K (valB b (acc ++ [x])) (stB st b (acc ++ [x]))) :
    iwp P (0, b) false (.append 2 16) [valB b acc, .list .full 2 [x]] (stB st b acc) K KP := by
  unfold valB stB at hk ⊢
  rw [if_neg (by simp), if_neg (by simp)] at hk
  by_cases h : acc.length = 0
  · have : acc = [] := List.eq_nil_of_length_eq_zero h
    subst this
    rw [if_pos h, if_pos h]
    simp [iwp, App, srcE, srcA, Store.kill, hb, slot0]
    simpa using hk
  · rw [if_neg h, if_neg h]
    simp only [iwp, App, srcE, srcA, Store.kill, Store.set_at, Bool.false_eq_true, if_false, Store.set_set]
    refine ⟨trivial, ⟨trivial, trivial⟩, trivial, [x], rfl, ?_, ?_⟩
    · simp; omega
    · simpa using hk

set_option maxRecDepth 100000 in
theorem buckets61 {st : Store} {k : Key} {v off b : Nat} {l acc : List AVal} (hl : load st (some 7424) (.ref k v off) = some (.agg l)) (hs : bkScan l 0 [] = some acc) (hb : st (0, b) = slot0) :
    ACalls Tryz.prog 61 [.ref k v off] st (endK (fun v st' => v = valB b acc ∧ st' = stB st b acc) (fun _ _ => False)) := by
  have hl' := hl
  simp only [load, Option.bind_eq_some_iff] at hl'
  obtain ⟨L, hL, hp⟩ := hl'
  simp only [partA] at hp
  split at hp
  · rename_i hoff
    have hlen : l.length = 7424 := by
      simp only [Option.some.injEq, AVal.agg.injEq] at hp
      rw [← hp]; simp; omega
    clear hp
    refine ACalls_of Tryz.func61 c61 (nmB b) (by simp [a61]) (AC_of_awp mixed ?_)
    simp [a61, awp, rwp, ropG, rop, thenQ, Fr.get, Fr.put, Fr.ev, argFr, pev, abin, aint, retQ, resA, res1, isNil, lev, hl]
    refine AC.loop (X := Nat) (fun j fr st' => j ≤ 7424 ∧ fr.get 12 = .agg l ∧ fr.get 13 = .int .i64 (j : Int) ∧ ∃ t, bkScan (l.take j) 0 [] = some t ∧ fr.get 3 = valB b t ∧ st' = stB st b t) (fun j => 7424 - j) ?_ (x := 0) ?_
    · rintro j fr st' ⟨hj, e12, e13, t, ht, e3, rfl⟩
      refine AC_of_awp mixed ?_
      obtain ⟨t', q1, q2, q3, q4⟩ := bkScan_take hs j (by omega)
      rw [ht] at q1
      cases q1
      by_cases hji : j < 7424
      · have g1 : (j : Int) < 7424 := by omega
        obtain ⟨n, hn⟩ := bkScan_nums hs (l[j]'(by omega)) (List.getElem_mem _)
        have hcell : l[j]? = some (.int .u64 (n : Int)) := by rw [List.getElem?_eq_getElem (by omega), hn]; rfl
        have g2 := q4 n hcell
        have hw2 : IntKind.i64.wrap ((j : Int) + 1) = ((j + 1 : Nat) : Int) := by
          have : ((j : Int) + 1) = ((j + 1 : Nat) : Int) := by omega
          rw [this]
          simp [IntKind.wrap, IntKind.signed, IntKind.bits]
          omega
        by_cases hn0 : n = 0
        · subst hn0
          simp [awp, rwp, ropG, rop, thenQ, blockQ, Fr.get, Fr.put, Fr.ev, pev, abin, aint, lev, load, partA, hcell, e12, e13, e3, g1, hji, hw2]
          exact ⟨j + 1, ⟨by omega, by simp, t, by rw [g2]; simp [bkNext], rfl, rfl⟩, by omega⟩
        · have g3 : 0 < n := by omega
          have hbq : Nat.beq n 0 = false := by
            cases h : Nat.beq n 0 with
            | false => rfl
            | true => exact absurd (Nat.eq_of_beq_eq_true h) hn0
          simp [awp, rwp, ropG, rop, thenQ, blockQ, Fr.get, Fr.put, Fr.ev, pev, abin, aint, lev, load, partA, hcell, e12, e13, e3, g1, hji, hw2, g3, fillA, Zero.cells, isV, isCell, AVal.cells, chunks, nmB]
          refine appendB hb (by simp at q2; omega) _ ?_
          exact ⟨j + 1, ⟨by omega, by simp, _, g2, by simp [bkNext, hbq], by simp [bkNext, hbq]⟩, by omega⟩
      · have g1 : ¬ (j : Int) < 7424 := by omega
        have := q3 (by omega)
        subst this
        simp [awp, rwp, ropG, rop, thenQ, blockQ, Fr.get, Fr.put, Fr.ev, pev, abin, aint, e12, e13, e3, g1, retQ, resA, res1, endK]
    · exact ⟨by omega, rfl, rfl, [], rfl, rfl, rfl⟩
  · cases hp

theorem callable61 : Callable Tryz.prog 61 := ⟨Tryz.f61, Tryz.func61, rfl, by decide⟩
theorem callable186 : Callable Tryz.prog 186 := ⟨Tryz.f186, Tryz.func186, rfl, by decide⟩

theorem load_arr {h : Hp} {st : Store} (ha : Knows h st) {k : Key} {v : Nat} {over : List (Nat × Nat)} (ho : arrAt h k v = some (7424, over)) : load st (some 7424) (.ref k v 0) = some (.agg (exp 0 7424 over)) := by
  have h1 := arr_sound ho ha
  simp only [load, cellsAt, h1, if_true, Option.bind_some, partA, exp_length, Nat.zero_add, Nat.le_refl, List.drop_zero]
  rw [exp_take (Nat.le_refl _)]

theorem xupto_sound {args : List AVal} {h : Hp} {b : Nat} {outs : List (AVal × Hp × Nat)} (hx : xupto args h b = some outs) {st : Store} (ha : Agr h b st) :
    ACalls Tryz.prog 186 args st (endK (fun v st' => ∃ o ∈ outs, v = o.1 ∧ Step h b st o.2.1 o.2.2 st') (fun _ _ => False)) ∧ Callable Tryz.prog 186 := by
  refine ⟨?_, callable186⟩
  unfold xupto at hx
  split at hx
  · rename_i k v i
    split at hx
    · rename_i n over ho
      cases hc : (Nat.beq n 7424 && sorted 0 over && Nat.blt i 7424) with
      | false => rw [hc] at hx; cases hx
      | true =>
        rw [hc] at hx
        cases hx
        simp only [Bool.and_eq_true, Nat.beq_eq, Nat.blt_eq] at hc
        obtain ⟨⟨rfl, hs⟩, hi⟩ := hc
        have hsum : sumScan ((exp 0 7424 over).take (i + 1)) 0 = some (sumUp (i + 1) over 0) := by
          rw [exp_take (by omega), sumScan_exp hs, Nat.zero_add]
        refine (upto186 hi (load_arr ha.know ho) hsum).mono fun e st' he => ?_
        cases e with
        | panic v => exact he
        | ret v =>
          obtain ⟨rfl, rfl⟩ := he
          exact ⟨_, List.mem_singleton.2 rfl, rfl, .refl ha⟩
    · cases hx
  · cases hx

theorem xbuckets_sound {args : List AVal} {h : Hp} {b : Nat} {outs : List (AVal × Hp × Nat)} (hx : xbuckets args h b = some outs) {st : Store} (ha : Agr h b st) :
    ACalls Tryz.prog 61 args st (endK (fun v st' => ∃ o ∈ outs, v = o.1 ∧ Step h b st o.2.1 o.2.2 st') (fun _ _ => False)) ∧ Callable Tryz.prog 61 := by
  refine ⟨?_, callable61⟩
  unfold xbuckets at hx
  split at hx
  · rename_i k v
    split at hx
    · rename_i n over ho
      cases hc : (Nat.beq n 7424 && sorted 0 over && under 7424 over) with
      | false => rw [hc] at hx; cases hx
      | true =>
      rw [hc] at hx
      simp only [cond_true] at hx
      simp only [Bool.and_eq_true, Nat.beq_eq] at hc
      obtain ⟨⟨rfl, hsr⟩, hun⟩ := hc
      have hscan : bkScan (exp 0 7424 over) 0 [] = some (bkOf over) := by rw [bkScan_exp hsr (by simpa using hun)]; rfl
      have hfresh := ha.fresh b (Nat.le_refl _)
      generalize bkOf over = acc at *
      split at hx
      · cases hx
        refine (buckets61 (b := b) (load_arr ha.know ho) hscan hfresh).mono fun e st' he => ?_
        cases e with
        | panic v => exact he
        | ret v =>
          obtain ⟨rfl, rfl⟩ := he
          exact ⟨_, List.mem_singleton.2 rfl, rfl, .refl ha⟩
      · rename_i hne
        cases hx
        have hlen : acc.length ≠ 0 := fun e => hne (List.eq_nil_of_length_eq_zero e)
        refine (buckets61 (b := b) (load_arr ha.know ho) hscan hfresh).mono fun e st' he => ?_
        cases e with
        | panic v => exact he
        | ret v =>
          obtain ⟨rfl, rfl⟩ := he
          refine ⟨_, List.mem_singleton.2 rfl, by unfold valB; rw [if_neg hlen], ?_⟩
          unfold stB
          rw [if_neg hlen]
          have hu := (Upd.refl (i := b) ha.know).put (.inr rfl) (s := ⟨acc.length, some (.o (.tail acc.length))⟩)
          refine ⟨⟨hu.ag, fun i s e => ?_, fun i hi => ?_⟩, Nat.le_succ _, fun i s e => ?_, fun i s _ e => hu.keep i s e, fun k hk => ?_⟩
          · rcases hu.gr i s e with ⟨s', e'⟩ | e'
            · have := ha.lt i s' e'; simp only; omega
            · simp only; omega
          · simp only at hi
            rw [show (st.set (0, b) _) (0, i) = st (0, i) from by simp only [Store.set]; rw [if_neg (by simp; omega)]]
            exact ha.fresh i (by omega)
          · rcases hu.gr i s e with h1 | h1
            · exact .inl h1
            · exact .inr (by omega)
          · simp only [Store.set]
            rw [if_neg]
            rintro rfl
            have := (hk rfl).1
            simp at this
    · cases hx
  · cases hx

end Go.Am.Tab
