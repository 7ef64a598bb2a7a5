/- The abstract machine is sound: functions without a body. -/
import Derived.Test.YteinffefhcpcmaaGreatDoorAmOps2
namespace Go.Am

section
variable {P : Program} {n : Nat} {G : Ghost} {w : World} {fr : Fr} {st : Store} {a : Act}

theorem find_f64bits {fn : Func} (h : fn.name = "math.Float64bits") : Extern.find fn = some Extern.MathFloatBits.float64bits := by
  have e1 : Extern.allGenericRows.lookup "math.Float64bits" = none := by kernel_rfl
  have e2 : Extern.allTypedRows.lookup "math.Float64bits" = none := by kernel_rfl
  have e3 : Extern.allRows.lookup "math.Float64bits" = some Extern.MathFloatBits.float64bits := by kernel_rfl
  simp [Extern.find, h, e1, e2, e3]

theorem next_none {fn : Func} {s t : String} (h : fn.name = s) (ho : fn.origin = t) (h1 : Extern.allNextRows.lookup s = none) (h2 : Extern.allNextRows.lookup t = none) : Extern.findNext fn = none := by
  simp [Extern.findNext, h, ho, h1, h2]

theorem find_f64from {fn : Func} (h : fn.name = "math.Float64frombits") : Extern.find fn = some Extern.MathFloatBits.float64frombits := by
  have e1 : Extern.allGenericRows.lookup "math.Float64frombits" = none := by kernel_rfl
  have e2 : Extern.allTypedRows.lookup "math.Float64frombits" = none := by kernel_rfl
  have e3 : Extern.allRows.lookup "math.Float64frombits" = some Extern.MathFloatBits.float64frombits := by kernel_rfl
  simp [Extern.find, h, e1, e2, e3]

theorem find_add64 {fn : Func} (h : fn.name = "math/bits.Add64") : Extern.find fn = some add64Entry := by
  have e1 : Extern.allGenericRows.lookup "math/bits.Add64" = none := by kernel_rfl
  have e2 : Extern.allTypedRows.lookup "math/bits.Add64" = none := by kernel_rfl
  have e3 : Extern.allRows.lookup "math/bits.Add64" = some add64Entry := by kernel_rfl
  simp [Extern.find, h, e1, e2, e3]

theorem find_cmp {fn : Func} (h : fn.name = "internal/bytealg.abigen_runtime_cmpstring") : Extern.find fn = some Extern.BytealgCompare.compare := by
  have e1 : Extern.allGenericRows.lookup "internal/bytealg.abigen_runtime_cmpstring" = none := by kernel_rfl
  have e2 : Extern.allTypedRows.lookup "internal/bytealg.abigen_runtime_cmpstring" = none := by kernel_rfl
  have e3 : Extern.allRows.lookup "internal/bytealg.abigen_runtime_cmpstring" = some Extern.BytealgCompare.compare := by kernel_rfl
  simp [Extern.find, h, e1, e2, e3]

theorem prim_call {o : Oper} {c : Call} {f : FuncId} {fn : Func} {ds : List Opd} {e : Array Value → Sem Value} (ho : o.op = .call c) (hcal : c.callee = .value (.func f)) (hn : c.args.size = c.argTypes.size) (hf : P.funcs[f]? = some fn) (hb : fn.body.isNone = true)
    (hname : fn.name ≠ "runtime.NumGoroutine") (hnx : Extern.findNext fn = none) (he : Extern.find fn = some e) (hd : (c.args.toList.zip c.argTypes.toList).mapM (fun (p : Operand × TypeId) => opd P p.2 p.1) = some ds) (hC : Conc n G w ⟨fr, st⟩ a) :
    ∃ vs, RepL G st (ds.map fr.ev) vs ∧ ∀ v w', (e vs.toArray).run P w = .ok v w' → (execOp a.eval o).run P w = .ok (.value v) w' := by
  have ha := args_sound hC (by simpa using hn) hd
  refine ⟨_, ha, fun v w' hv => ?_⟩
  have hrun := run_callFunc_extern hf (by simpa using hname) hb hnx he (c.args.toList.map a.eval).toArray w
  rw [hv] at hrun
  obtain ⟨callee, args, argTypes⟩ := c
  simp only at hcal
  subst hcal
  simp only [Result.andThen] at hrun
  have e1 : (args.toList.map a.eval).toArray = args.map a.eval := by apply Array.ext'; simp
  rw [e1] at hrun
  simp [execOp, ho, resolve, Act.eval, Deferred.ofValue, invoke]
  simpa using hrun

theorem prim_ok {o : Oper} {c : Call} {f : FuncId} {p : POp} {ds : List Opd} (ho : o.op = .call c) (hcal : c.callee = .value (.func f)) (hn : c.args.size = c.argTypes.size) (hp : primOf P f = some p)
    (hd : (c.args.toList.zip c.argTypes.toList).mapM (fun (p : Operand × TypeId) => opd P p.2 p.1) = some ds) : PureOK P n o p ds := by
  intro G w fr st a v hC hv
  unfold primOf at hp
  rw [Option.bind_eq_some_iff] at hp
  obtain ⟨fn, hf, hp⟩ := hp
  split at hp
  · cases hp
  rename_i hbo
  have hb : fn.body.isNone = true := by cases h : fn.body <;> simp_all
  have hor : fn.origin = "" := by simp at hbo; exact hbo.2
  have h0 : Extern.allNextRows.lookup "" = none := by kernel_rfl
  split at hp
  · rename_i hnm
    cases hp
    obtain ⟨vs, hr, hrun⟩ := prim_call ho hcal hn hf hb (by rw [hnm]; decide) (next_none hnm hor (by kernel_rfl) h0) (find_f64bits hnm) hd hC
    generalize ds.map fr.ev = A at *
    match A, hv, hr with
    | [.float .f64 b], hv, hr =>
      simp only [pev, Option.some.injEq] at hv
      subst hv
      cases hr with
      | cons _ x _ _ h t =>
        cases t; cases h
        exact stay hC _ (hrun _ _ (by rfl)) (.int _ _)
  split at hp
  · rename_i hnm
    cases hp
    obtain ⟨vs, hr, hrun⟩ := prim_call ho hcal hn hf hb (by rw [hnm]; decide) (next_none hnm hor (by kernel_rfl) h0) (find_f64from hnm) hd hC
    generalize ds.map fr.ev = A at *
    match A, hv, hr with
    | [.int .u64 b], hv, hr =>
      simp only [pev, Option.some.injEq] at hv
      subst hv
      cases hr with
      | cons _ x _ _ h t =>
        cases t; cases h
        exact stay hC _ (hrun _ _ (by rfl)) (.float _ _)
  split at hp
  · rename_i hnm
    cases hp
    obtain ⟨vs, hr, hrun⟩ := prim_call ho hcal hn hf hb (by rw [hnm]; decide) (next_none hnm hor (by kernel_rfl) h0) (find_add64 hnm) hd hC
    generalize ds.map fr.ev = A at *
    match A, hv, hr with
    | [.int .u64 x, .int .u64 y, .int .u64 z], hv, hr =>
      simp only [pev] at hv
      split at hv
      · rename_i hz
        cases hv
        cases hr with
        | cons _ _ _ _ h t =>
          cases t with
          | cons _ _ _ _ h2 t =>
            cases t with
            | cons _ _ _ _ h3 t =>
              cases t; cases h; cases h2; cases h3
              exact stay hC _ (hrun _ _ (run_add64 x y z hz.1 hz.2.1 hz.2.2.1 hz.2.2.2 w)) (.tup _ _ (.cons _ _ _ _ (.int _ _) (.cons _ _ _ _ (.int _ _) .nil)))
      · cases hv
  split at hp
  · rename_i hnm
    cases hp
    obtain ⟨vs, hr, hrun⟩ := prim_call ho hcal hn hf hb (by rw [hnm]; decide) (next_none hnm hor (by kernel_rfl) h0) (find_cmp hnm) hd hC
    generalize ds.map fr.ev = A at *
    match A, hv, hr with
    | [.str x, .str y], hv, hr =>
      simp only [pev, Option.some.injEq] at hv
      subst hv
      cases hr with
      | cons _ _ _ _ h t =>
        cases t with
        | cons _ _ _ _ h2 t =>
          cases t
          cases h with
          | str _ s hs _ =>
            cases h2 with
            | str _ s' hs' _ =>
              subst hs; subst hs'
              exact stay hC _ (hrun _ _ (Lib.run_compareString s s' w)) (.int _ _)
  · cases hp

end
end Go.Am
