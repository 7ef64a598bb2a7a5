/- The abstract machine is sound: calls; every operation. -/
import Derived.Test.YteinffefhcpcmaaGreatDoorAmSound7
namespace Go.Am

section
variable {P : Program} {n : Nat} {G : Ghost} {w : World} {fr : Fr} {st : Store} {a : Act}

theorem args_sound (hC : Conc n G w ⟨fr, st⟩ a) {xs : List Operand} {ts : List TypeId} (hn : xs.length = ts.length) {ds : List Opd} (h : (xs.zip ts).mapM (fun (p : Operand × TypeId) => opd P p.2 p.1) = some ds) :
    RepL G st (ds.map fr.ev) (xs.map a.eval) := by
  obtain ⟨h1, h2⟩ := mapM_get h
  refine RepL.ofGet (by simp at h1; simp; omega) fun i x v hx hv => ?_
  simp only [List.getElem?_map, Option.map_eq_some_iff] at hx hv
  obtain ⟨d, hd, rfl⟩ := hx
  obtain ⟨y, hy, rfl⟩ := hv
  have hi : i < xs.length := (List.getElem?_eq_some_iff.1 hy).1
  obtain ⟨d', hd', he⟩ := h2 i (y, ts[i]'(by omega)) (by simp [List.getElem?_zip_eq_some, hy])
  rw [hd] at hd'
  cases hd'
  exact opd_sound hC he

theorem upon_call {o : Oper} {f : FuncId} {args : Array Value} {Kw : Act → World → Prop} {Q : Exit → Act → World → Prop} (h : (execOp a.eval o).run P w = .ok (.enter f args) w)
    {as : List AVal} {K KP : AVal → Store → Prop} (hC : ConcS G w st) (ha : RepL G st as args.toList) (hcall : ACalls P f as st (endK K KP))
    (hK : ∀ v x st' G' w', K v st' → Rep G' st' v x → ConcS G' w' st' → Ext G w st G' w' st' → Kw (a.put o.dst x) w')
    (hP : ∀ v x st' G' w', KP v st' → Rep G' st' v x → ConcS G' w' st' → Ext G w st G' w' st' → Q (.panic [{ v := x, recovered := false }]) a w') : o.wp P a w Kw Q := by
  unfold Oper.wp
  rw [h]
  have := hcall G w args.toList hC ha
  rw [Array.toArray_toList] at this
  refine this.mono fun e w' ⟨ae, st', G', h1, h2, h3, h4⟩ => ?_
  cases h2 with
  | ret v x hr => exact hK v x st' G' w' h1 hr h3 h4
  | panic v x hr => exact hP v x st' G' w' h1 hr h3 h4

theorem call_ok {o : Oper} {c : Call} {f : FuncId} {fn : Func} {ds : List Opd} (ho : o.op = .call c) (hcal : c.callee = .value (.func f)) (hn : c.args.size = c.argTypes.size) (hf : P.funcs[f]? = some fn) (hb : fn.body.isSome = true)
    (hname : fn.name ≠ "runtime.NumGoroutine") (hd : (c.args.toList.zip c.argTypes.toList).mapM (fun (p : Operand × TypeId) => opd P p.2 p.1) = some ds) : ImpOK P n o (.call f) ds := by
  intro G w fr st a key mu K KP hC hi Kw Q hK hP
  have ha := args_sound hC (by simpa using hn) hd
  have hi' : ACalls P f (ds.map fr.ev) st (endK K KP) := by
    unfold iwp at hi
    exact hi
  refine upon_call (f := f) (args := c.args.map a.eval) ?_ hC.st (by simpa using ha) hi' hK hP
  obtain ⟨callee, args, argTypes⟩ := c
  simp only at hcal
  subst hcal
  have hbn : fn.body.isNone = false := by cases hfb : fn.body <;> simp_all
  simp [execOp, ho, resolve, Act.eval, Deferred.ofValue, invoke, callFunc, hf, hname, hbn]
  intro hnone
  rw [hnone] at hb
  cases hb

theorem panic_ok {o : Oper} {x : Operand} (ho : o.op = .panic x) {d : Opd} (hd : opd P o.type x = some d) : ImpOK P n o .panic [d] := by
  intro G w fr st a key mu K KP hC hi Kw Q hK hP
  have h1 := opd_sound hC hd
  simp only [List.map_cons, List.map_nil, iwp] at hi
  obtain ⟨⟨t, y, hy⟩, hi⟩ := hi
  unfold Oper.wp
  generalize hX : a.eval x = X at *
  rw [hy] at h1
  have h1' := h1
  cases h1 with
  | iface t' y' v hv =>
    have : (execOp a.eval o).run P w = .halt (.panic (.iface t v)) w := by simp [execOp, ho, hX, Instr.panic]
    rw [this]
    exact hP _ _ _ _ _ hi (by rw [hy]; exact h1') hC.st (Ext.refl _ _ _)

theorem callv_ok {o : Oper} {c : Call} {f : Operand} {d : Opd} {ds : List Opd} (ho : o.op = .call c) (hcal : c.callee = .value f) (hn : c.args.size = c.argTypes.size)
    (hfd : opd P o.type f = some d) (hd : (c.args.toList.zip c.argTypes.toList).mapM (fun (p : Operand × TypeId) => opd P p.2 p.1) = some ds)
    : ImpOK P n o .callv (d :: ds) := by
  intro G w fr st a key mu K KP hC hi Kw Q hK hP
  have ha := args_sound hC (by simpa using hn) hd
  have h1 := opd_sound hC hfd
  simp only [List.map_cons] at hi
  generalize fr.ev d = D at *
  generalize hF : a.eval f = F at *
  cases D <;> simp only [iwp] at hi
  rename_i g first cap
  cases g <;> simp only [iwp] at hi
  rename_i g
  obtain ⟨⟨fn, hf, hb, hname⟩, hi⟩ := hi
  cases h1 with
  | fn _ _ _ fs cs hfs hcs =>
  have hall := (hfs.append ha).append hcs
  refine upon_call (f := g) (args := fs ++ c.args.map a.eval ++ cs) ?_ hC.st (by simpa using hall) hi hK hP
  obtain ⟨callee, args, argTypes⟩ := c
  simp only at hcal
  subst hcal
  have hbn : fn.body.isNone = false := by cases hfb : fn.body <;> simp_all
  simp [execOp, ho, resolve, hF, Deferred.ofValue, invoke, callFunc, hf, hname, hbn]
  intro hnone
  rw [hnone] at hb
  cases hb

end
end Go.Am
