/- The abstract machine is sound: structs held against each other. -/
import Derived.Test.YteinffefhcpcmaaGreatDoorAmPrim
import Derived.Laws.StructEq
import Derived.ChangeKeysEq
namespace Go.Am

section
variable {P : Program} {n : Nat} {G : Ghost} {st : Store}

theorem run_part_one (w : World) {e : TypeId} (h : isAggB P e = false) (hs : (P.underlying e).isSome = true) {xs : Array Value} {off : Nat} {v : Value} (hx : xs[off]? = some v) : (part e xs off).run P w = .ok v w := by
  obtain ⟨d, hd⟩ := Option.isSome_iff_exists.1 hs
  unfold isAggB at h
  rw [hd] at h
  cases d <;> simp at h <;> simp [part, isAgg, underlying, hd, hx]

theorem eqCell_sound (w : World) {c : CK} {t : TypeId} (hc : ckOf P t = some c) {a b : AVal} {r : Bool} (hf : c.fits a = true) (h : cellEq a b = some r) {x y : Value} (ha : Rep G st a x) (hb : Rep G st b y) (d : Nat) :
    (Op.equalIn (d + 1) t x y).run P w = .ok r w := by
  unfold ckOf at hc
  split at hc
  · rename_i hu
    cases hc
    cases a <;> simp [CK.fits] at hf
    cases b <;> simp [cellEq] at h
    cases ha; cases hb
    subst h
    exact run_equalIn_bool' w d t _ _ hu
  · rename_i k hu
    cases hc
    cases a <;> simp [CK.fits] at hf
    cases b <;> simp [cellEq] at h
    obtain ⟨rfl, rfl⟩ := h
    cases ha; cases hb
    exact run_equalIn_int w d t _ _ _ _ hu
  · rename_i hu
    cases hc
    cases a <;> simp [CK.fits] at hf
    cases b <;> simp [cellEq] at h
    subst h
    cases ha with
    | str l s h1 _ =>
      cases hb with
      | str l' s' h2 _ =>
        rw [run_equalIn_string w d t _ _ hu]
        rw [ByteArray.toList_eq, ByteArray.toList_eq, h1, h2]
  · cases hc

theorem eqFields_sound (w : World) (d : Nat) {xs ys : Array Value} : ∀ {fs : List Field} {i : Nat} {cs : List CK} {a b : List AVal} {r : Bool}, ckFields P i fs = some cs → cellsEq cs a b = some r →
    RepL G st a (xs.toList.drop i) → RepL G st b (ys.toList.drop i) → (Op.eqFields (d + 1) xs ys fs).run P w = .ok r w
  | [], i, cs, a, b, r, hc, h, ha, hb => by
    simp only [ckFields, Option.some.injEq] at hc
    subst hc
    cases a <;> cases b <;> simp [cellsEq] at h
    subst h; simp [Op.eqFields]
  | f :: fs, i, cs, a, b, r, hc, h, ha, hb => by
    simp only [ckFields] at hc
    split at hc
    · rename_i hn
      simp only [Option.bind_eq_some_iff, Option.map_eq_some_iff] at hc
      obtain ⟨c, hc1, cs', hc2, rfl⟩ := hc
      cases a with
      | nil => simp [cellsEq] at h
      | cons a l =>
        cases b with
        | nil => simp [cellsEq] at h
        | cons b m =>
          simp only [cellsEq] at h
          split at h
          · rename_i hf
            split at h
            · rename_i x y h1 h2
              cases h
              have split1 : ∀ {zs : Array Value} {z : AVal} {l : List AVal}, RepL G st (z :: l) (zs.toList.drop i) → ∃ v, zs[i]? = some v ∧ Rep G st z v ∧ RepL G st l (zs.toList.drop (i + 1)) := by
                intro zs z l hz
                cases hd : zs.toList.drop i with
                | nil => rw [hd] at hz; cases hz
                | cons v vs =>
                  rw [hd] at hz
                  cases hz with
                  | cons _ _ _ _ hr ht =>
                    refine ⟨v, ?_, hr, ?_⟩
                    · have : (zs.toList.drop i)[0]? = some v := by rw [hd]; rfl
                      rw [List.getElem?_drop] at this
                      simpa using this
                    · have : zs.toList.drop (i + 1) = (zs.toList.drop i).drop 1 := by rw [List.drop_drop]
                      rw [this, hd]
                      exact ht
              obtain ⟨v, hv, hrv, hla⟩ := split1 ha
              obtain ⟨u, hu, hru, hlb⟩ := split1 hb
              have hagg : isAggB P f.type = false ∧ (P.underlying f.type).isSome = true := by
                unfold ckOf at hc1
                unfold isAggB
                split at hc1 <;> first | (rename_i e; rw [e]; exact ⟨rfl, rfl⟩) | (rename_i k e; rw [e]; exact ⟨rfl, rfl⟩) | cases hc1
              have p1 := run_part_one w hagg.1 hagg.2 hv
              have p2 := run_part_one w hagg.1 hagg.2 hu
              have p3 := eqCell_sound w hc1 hf h1 hrv hru d
              simp only [Op.eqFields]
              rw [if_pos hn.1]
              rw [hn.2]
              simp only [Sem.run_bind, p1, p2, p3, Result.andThen_ok]
              cases x
              · simp
              · simp [eqFields_sound w d hc2 h2 hla hlb]
            · cases h
          · cases h
    · cases hc

theorem eqs_ok {o : Oper} {neg : Bool} {t u : TypeId} {x y : Operand} {cs : List CK} (ho : o.op = .binOp (if neg then .neq else .eql) t x y u) (hu : eqCells P t = some cs) {dx dy : Opd} (hx : opd P t x = some dx)
    (hy : opd P t y = some dy) : PureOK P n o (.eqs cs neg) [dx, dy] := by
  intro G w fr st a v hC hv
  have h1 := opd_sound hC hx
  have h2 := opd_sound hC hy
  simp only [List.map_cons, List.map_nil] at hv
  generalize fr.ev dx = X at *
  generalize fr.ev dy = Y at *
  have hv' : ∃ l m r, X = .agg l ∧ Y = .agg m ∧ cellsEq cs l m = some r ∧ v = .bool (r != neg) := by
    cases X <;> cases Y <;> simp only [pev, reduceCtorEq, Option.map_eq_some_iff] at hv
    obtain ⟨r, h1, h2⟩ := hv
    exact ⟨_, _, r, rfl, rfl, h1, h2.symm⟩
  obtain ⟨l, m, r, rfl, rfl, hr, rfl⟩ := hv'
  generalize hVX : a.eval x = VX at *
  generalize hVY : a.eval y = VY at *
  unfold eqCells at hu
  split at hu
  · rename_i fs hfs
    split at hu
    · rename_i hg
      cases h1 with
      | agg l xs hxs =>
        cases h2 with
        | agg l' ys hys =>
          have hff : P.fieldsOf t = fs := by unfold Program.fieldsOf; rw [hfs]
          have heq : (Op.equalIn 10000 t (.agg xs) (.agg ys)).run P w = .ok r w := by
            rw [run_equalIn_struct w 9999 t xs ys (by rw [hff]; exact hfs) hg.1, hff]
            exact eqFields_sound w 9998 hu hr (by simpa using hxs) (by simpa using hys)
          have hgd : ∀ op, (eqGuard op t x y (.agg xs) (.agg ys)).run P w = .ok () w := fun op => run_eqGuard_agg w op t x y xs ys hg.2
          refine stay hC _ ?_ (.bool _)
          cases neg
          · simp [execOp, ho, hVX, hVY, hgd, run_eql_struct, heq]
          · simp [execOp, ho, hVX, hVY, hgd, run_neq_struct, heq]
    · cases hu
  · cases hu

end
end Go.Am
