/- The abstract machine is sound: a function with one deferred call. -/
import Derived.Test.YteinffefhcpcmaaGreatDoorAmExecSound2
import Derived.Test.YteinffefhcpcmaaGreatDoorAmPrims
import Derived.Defers
namespace Go.Am

structure OneDefer (P : Program) (f : FuncId) (n : Nat) (l0 : List ROp) (r1 : ROp) (d : Nat) (rest : ACode) (res : List ARes) (fd : FuncId) (afd : AFunc) : Prop where
  of : ∃ fn i0 ops0 i1 o1 o2 c fnd, P.funcs[f]? = some fn ∧ fn.ntmps = n ∧ fn.body = some (.seq (.region i0 ops0 false) (.seq (.region i1 #[o1, o2] false) c)) ∧
    ops0.toList.mapM (cROp P ops0 n) = some l0 ∧ cROp P #[o1, o2] n o1 = some r1 ∧ o1.guard = none ∧ o1.dst = some d ∧
    o2.op = .defer { callee := .value (.tmp d), args := #[], argTypes := #[] } ∧ o2.guard = none ∧ o2.dst = none ∧
    cCode P n c = some rest ∧ fn.results.toList.mapM (cRes P) = some res ∧ P.funcs[fd]? = some fnd ∧ cFunc P fnd = some afd ∧ fnd.body.isSome = true ∧ fnd.name ≠ "runtime.NumGoroutine" ∧ fn.name ≠ "runtime.NumGoroutine"

theorem cFunc_parts {P : Program} {fn : Func} {af : AFunc} (hc : cFunc P fn = some af) : ∃ c, fn.body = some c ∧ cCode P fn.ntmps c = some af.code ∧ fn.results.toList.mapM (cRes P) = some af.res ∧ af.n = fn.ntmps := by
  unfold cFunc at hc
  simp only [Option.bind_eq_bind, Option.bind_eq_some_iff, Option.some.injEq] at hc
  obtain ⟨c, h1, code, h2, res, h3, rfl⟩ := hc
  refine ⟨c, h1, h2, ?_, rfl⟩
  rw [← h3]
  congr 1
  funext r
  cases r with
  | tmp t => rfl
  | cell a t => simp only [cRes]; cases szO P t <;> rfl

theorem enter_conc {G : Ghost} {w : World} {st : Store} {args : List AVal} {vs : List Value} {n : Nat} (hS : ConcS G w st) (hr : RepL G st args vs) (hn : args.length ≤ n) :
    ConcD n [] G w ⟨argFr args, st⟩ { tmps := vs.toArray ++ Array.replicate (n - vs.toArray.size) undef, defers := [] } := by
  have hsize : (vs.toArray ++ Array.replicate (n - vs.toArray.size) undef).size = n := by
    have := hr.length
    simp; omega
  refine ⟨⟨hS, hsize, fun t => ?_⟩, rfl⟩
  simp only [argFr_get]
  have hl := hr.length
  by_cases h : t < args.length
  · obtain ⟨v, hv, hrv⟩ := hr.get (List.getElem?_eq_getElem h)
    rw [List.getElem?_eq_getElem h, Option.getD_some]
    have : (vs.toArray ++ Array.replicate (n - vs.toArray.size) undef).getD t undef = v := by
      simp only [Array.getD_eq_getD_getElem?]
      rw [Array.getElem?_append_left (by simp; omega)]
      simp [hv]
    rw [this]
    exact hrv
  · rw [List.getElem?_eq_none (by omega), Option.getD_none]
    exact .junk _

theorem defer_sound {P : Program} (hm : P.follows .mixedOrders = true) {call : CallF} (hcall : CallOK P call) {f : FuncId} {n : Nat} {l0 : List ROp} {r1 : ROp} {d : Nat} {rest : ACode} {res : List ARes} {fd : FuncId} {afd : AFunc}
    (O : OneDefer P f n l0 r1 d rest res fd afd) {lf : Nat} {args : List AVal} {h : Hp} {b : Nat} {outs : List (AVal × Hp × Nat)} (hx : xdefer lf n l0 r1 d rest res fd afd call args h b = some outs) {st : Store} (ha : Agr h b st) :
    ACalls P f args st (endK (fun v st' => ∃ o ∈ outs, v = o.1 ∧ Step h b st o.2.1 o.2.2 st') (fun _ _ => False)) ∧ Callable P f := by
  obtain ⟨fn, i0, ops0, i1, o1, o2, c, fnd, hf, hnt, hb, hl0, hr1, hg1, hd1, hop2, hg2, hd2, hcc, hres, hfd, hafd, hbd, hnmd, hnm⟩ := O.of
  subst hnt
  refine ⟨?_, fn, hf, by rw [hb]; rfl, hnm⟩
  unfold xdefer at hx
  cases hle : Nat.ble args.length fn.ntmps with
  | false => simp [hle] at hx
  | true =>
  have hle' := Nat.le_of_ble_eq_true hle
  simp only [hle, cond_true] at hx
  split at hx
  · cases hx
  rename_i outs1 ho1
  intro G w vs hS hr
  refine calls_of_wp_defers hf hb ?_
  have hC := enter_conc hS hr hle'
  refine wp_seq (wp_region_list (rwp_sound ops0.toList l0 hl0 hC (xreg_sound hcall ho1 (argRF_eq args) (.begin ha) (K := fun fr1 st1 => ∃ p ∈ outs1, FrEq fr1 p.1 ∧ RStep b fn.ntmps h (b + fn.ntmps) st p.2.1 p.2.2 st1) (KP := fun _ _ _ => False)
    (fun p hp fr' st' hf hs => ⟨p, hp, hf, hs⟩)) ?_ (fun _ _ _ _ _ _ _ hF => hF.elim)))
  rintro fr1 st1 G1 w1 a1 ⟨⟨rf, h1, b1⟩, hp1, hf1, hs1⟩ hC1 hE1
  obtain ⟨x1, hx1, hsub1⟩ := bindL_mem hx _ hp1
  simp only at hx1
  split at hx1
  · cases hx1
  rename_i outs2 ho2
  have hs1' := hs1.fin
  refine wp_seq (wp_region_list ?_)
  obtain ⟨q1, q2, q3, q4⟩ := cROp_parts hr1
  have hop := cOp_sound (n := fn.ntmps) q1
  show wpList P #[o1, o2] _ [o1, o2] a1 w1
  unfold wpList
  rw [if_pos (by simp [Region.wanted, hg1])]
  refine .inl (rop_step hop q2 q3 hC1 (xop_sound hcall ho2 hf1 (.begin hs1'.agr) (K := fun fr2 st2 => ∃ p ∈ outs2, fr2 = fr1.put r1.dst p.1 ∧ RStep b1 fn.ntmps h1 (b1 + fn.ntmps) st1 p.2.1 p.2.2 st2) (KP := fun _ _ _ => False)
    (fun p hp st' hs => ⟨p, hp, rfl, hs⟩)) ?_ (fun _ _ _ _ _ _ _ hF => hF.elim))
  rintro fr2 st2 G2 w2 a2 ⟨⟨v, h2, b2⟩, hp2, rfl, hs2⟩ hC2 hE2
  obtain ⟨x2, hx2, hsub2⟩ := bindL_mem hx1 _ hp2
  simp only at hx2
  have hs2' := hs1'.trans hs2.fin
  unfold wpList
  rw [if_pos (by simp [Region.wanted, hg2])]
  refine .inl ?_
  split at hx2
  · rename_i g first cap
    have hgb : (Nat.beq g fd && Nat.ble (first ++ cap).length afd.n) = true := by
      cases hgb : (Nat.beq g fd && Nat.ble (first ++ cap).length afd.n) with
      | false => rw [hgb] at hx2; cases hx2
      | true => rfl
    rw [hgb] at hx2
    rw [Bool.and_eq_true] at hgb
    obtain ⟨hg, hlen⟩ := hgb
    have hg := Nat.eq_of_beq_eq_true hg
    subst hg
    have hlen := Nat.le_of_ble_eq_true hlen
    simp only [cond_true] at hx2
    split at hx2
    · cases hx2
    rename_i outs3 ho3
    -- the value that is put off
    have hval : ∃ fs cs, a2.eval (.tmp d) = .func (.func g) fs cs ∧ RepL G2 st2 first fs.toList ∧ RepL G2 st2 cap cs.toList := by
      have := hC2.fr d
      rw [q2, hd1] at this
      simp only [Fr.get_put_eq] at this
      show ∃ fs cs, a2.tmps.getD d undef = _ ∧ _
      generalize a2.tmps.getD d undef = V at this
      cases this with
      | fn _ _ _ fs cs h1 h2 => exact ⟨fs, cs, rfl, h1, h2⟩
    obtain ⟨fs, cs, hev, hfs, hcs⟩ := hval
    have hrun : (execOp a2.eval o2).run P w2 = .ok (.defer { target := .fn (.func g) cs, args := fs ++ #[] }) w2 := by
      simp [execOp, hop2, resolve, hev, Deferred.ofValue]
    unfold Oper.wp
    rw [hrun]
    rw [Oper.upon_defer, hd2]
    simp only [wpList]
    have hC2' : ConcD fn.ntmps [{ target := .fn (.func g) cs, args := fs ++ #[] }] G2 w2 ⟨fr1.put r1.dst (.fn (.func g) first cap), st2⟩ { a2 with defers := { target := .fn (.func g) cs, args := fs ++ #[] } :: a2.defers } :=
      ⟨⟨hC2.st, hC2.size, hC2.fr⟩, by rw [hC2.defers]⟩
    have hrest := xcode_sound hm hcall ho3 (hf1.put r1.dst (.fn (.func g) first cap)) hs2.fin.agr (nmOf 0) c hcc _ _ _ _ hC2'
    refine wp_mono hrest ?_
    rintro e a3 w3 ⟨ae, fr3, st3, G3, ⟨⟨e3, rf3, h3, b3⟩, hp3, rfl, hf3, hs3⟩, hER, hC3, hE3⟩
    obtain ⟨x3, hx3, hsub3⟩ := bindL_mem hx2 _ hp3
    simp only at hx3
    have key : (match xcode call lf afd.n afd.code (argRF 0 (first ++ cap) .leaf) h3 b3 with
        | none => none
        | some outs3 => match xrets afd.res outs3 with
          | none => none
          | some l3 => bindL (fun (_, h4, b4) => match xres h4 rf3 res with
            | some v => some [(v, h4, b4)]
            | none => none) l3) = some x3 → Leaves P fn a3.tmps (fun e w' => ∃ ae st' G', endK (fun v st' => ∃ o ∈ outs, v = o.1 ∧ Step h b st o.2.1 o.2.2 st') (fun _ _ => False) ae st' ∧ AEndRep G' st' ae e ∧ ConcS G' w' st' ∧ Ext G w st G' w' st') a3.defers .returning w3 := by
      intro hx3
      split at hx3
      · cases hx3
      rename_i outs4 ho4
      split at hx3
      · cases hx3
      rename_i l3 hl3
      rw [hC3.defers]
      obtain ⟨cd, hcd, hcdc, hcdr, hcdn⟩ := cFunc_parts hafd
      refine ⟨by simp, .func g, cs, g, fs ++ #[] ++ cs, rfl, ?_, ?_⟩
      · have hbn : fnd.body.isNone = false := by cases hfb : fnd.body <;> simp_all
        simp [invoke, callFunc, hfd, hnmd, hbn]
        intro hnone
        rw [hnone] at hbd
        cases hbd
      · have hall : RepL G3 st3 (first ++ cap) (fs.toList ++ cs.toList) := ((hfs.later hE3.later).append (hcs.later hE3.later))
        rw [hcdn] at hlen ho4
        have hCd := enter_conc (n := fnd.ntmps) hC3.st hall hlen
        have hwp := xcode_sound hm hcall ho4 (argRF_eq (first ++ cap)) hs3.agr (nmOf 0) cd hcdc [] G3 w3 _ hCd
        have hargs : fs ++ #[] ++ cs = (fs.toList ++ cs.toList).toArray := by apply Array.ext'; simp
        rw [hargs]
        refine CallsD.mono (callsD_of_wp (R := fun e w4 => ∃ v, e = .returned v ∧ Leaves P fn a3.tmps (fun e w' => ∃ ae st' G', endK (fun v st' => ∃ o ∈ outs, v = o.1 ∧ Step h b st o.2.1 o.2.2 st') (fun _ _ => False) ae st' ∧ AEndRep G' st' ae e ∧ ConcS G' w' st' ∧ Ext G w st G' w' st') [] .returning w4) hfd hcd (wp_mono hwp ?_)) ?_
        · rintro e a4 w4 ⟨ae, fr4, st4, G4, ⟨o4, hp4, rfl, hf4, hs4⟩, hER4, hC4, hE4⟩
          obtain ⟨k1, v4, k2, k3⟩ := xrets_sound hl3 o4 hp4
          have hres4 := xres_sound hf4 hs4.agr.know k2
          obtain ⟨x4, hx4, hrx4⟩ := res_sound hC4.toConc hcdr hres4
          obtain ⟨x5, hx5, hsub5⟩ := bindL_mem hx3 _ k3
          simp only at hx5
          split at hx5
          · rename_i v5 hv5
            cases hx5
            have hres5 := xres_sound hf3 hs4.agr.know hv5
            have hC3' : Conc fn.ntmps G4 w4 ⟨fr3, st4⟩ a3 := ⟨hC4.st, hC3.size, fun t => (hC3.fr t).later hE4.later⟩
            obtain ⟨x6, hx6, hrx6⟩ := res_sound hC3' hres hres5
            have fin : ∃ v, (Ending.returned x4) = .returned v ∧ Leaves P fn a3.tmps (fun e w' => ∃ ae st' G', endK (fun v st' => ∃ o ∈ outs, v = o.1 ∧ Step h b st o.2.1 o.2.2 st') (fun _ _ => False) ae st' ∧ AEndRep G' st' ae e ∧ ConcS G' w' st' ∧ Ext G w st G' w' st') [] .returning w4 :=
              ⟨x4, rfl, x6, hx6, .ret v5, st4, G4, ⟨(v5, o4.2.2), hsub1 _ (hsub2 _ (hsub3 _ (hsub5 _ (List.mem_singleton.2 rfl)))), rfl, (hs2'.trans hs3).trans hs4⟩, .ret v5 x6 hrx6, hC4.st, ((hE1.trans hE2).trans hE3).trans hE4⟩
            rcases k1 with k1 | k1 <;> rw [k1] at hER4 <;> cases hER4
            · exact ⟨hC4.defers, x4, hx4, fin⟩
            · exact ⟨hC4.defers, x4, hx4, fin⟩
          · cases hx5
        · rintro e u w4 ⟨rfl, v, rfl, hL⟩
          exact hL
    cases e3 with
    | normal => cases hER; exact key hx3
    | ret => cases hER; exact key hx3
    | exit id => simp at hx3
  · cases hx2

end Go.Am
