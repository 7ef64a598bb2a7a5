/- The abstract machine is sound: operations that change the store; calls. -/
import Derived.Test.YteinffefhcpcmaaGreatDoorAmSound4
namespace Go.Am

/-- What the soundness of an operation that changes the store says. -/
def ImpOK (P : Program) (n : Nat) (o : Oper) (i : IOp) (args : List Opd) : Prop :=
  ∀ (G : Ghost) (w : World) (fr : Fr) (st : Store) (a : Act) (key : Key) (mu : Bool) (K KP : AVal → Store → Prop), Conc n G w ⟨fr, st⟩ a → iwp P key mu i (args.map fr.ev) st K KP →
    ∀ (Kw : Act → World → Prop) (Q : Exit → Act → World → Prop),
      (∀ v x st' G' w', K v st' → Rep G' st' v x → ConcS G' w' st' → Ext G w st G' w' st' → Kw (a.put o.dst x) w') →
      (∀ v x st' G' w', KP v st' → Rep G' st' v x → ConcS G' w' st' → Ext G w st G' w' st' → Q (.panic [{ v := x, recovered := false }]) a w') → o.wp P a w Kw Q

section
variable {P : Program} {n : Nat} {G : Ghost} {w : World} {fr : Fr} {st : Store} {a : Act}

theorem wp_value {o : Oper} {x : Value} {w' : World} {Kw : Act → World → Prop} {Q : Exit → Act → World → Prop} (h : (execOp a.eval o).run P w = .ok (.value x) w') (hk : Kw (a.put o.dst x) w') : o.wp P a w Kw Q := by
  unfold Oper.wp
  rw [h]
  exact hk

theorem wp_skipped {o : Oper} {w' : World} {Kw : Act → World → Prop} {Q : Exit → Act → World → Prop} (h : (execOp a.eval o).run P w = .ok .skip w') (hk : Kw (a.put o.dst undef) w') : o.wp P a w Kw Q := by
  unfold Oper.wp
  rw [h]
  exact hk

theorem thawed_zero (m : Nat) : thawed (0, 0) m := fun o _ h => by omega

/-- A new object of cells. -/
theorem conc_newCells (hC : ConcS G w st) (key : Key) (l : List AVal) (cs : Array Value) (el : TypeId) {us rest : List Value} (hcs : cs.toList = us ++ rest) (hr : RepL G st l us) :
    ∃ G', ConcS G' (w.alloc (.cells cs el)) (st.set key ⟨(st key).ver + 1, some (.cells l)⟩) ∧ Ext G w st G' (w.alloc (.cells cs el)) (st.set key ⟨(st key).ver + 1, some (.cells l)⟩) ∧
      Rep G' (st.set key ⟨(st key).ver + 1, some (.cells l)⟩) (.ref key ((st key).ver + 1) 0) (.pointer (some ⟨w.heap.size, 0, none⟩)) ∧ G'.blk key = w.heap.size ∧ G'.hi key = cs.size := by
  have hl := later_setLoc G st key w.heap.size 0 cs.size (some (.cells l))
  obtain ⟨h1, h2⟩ := conc_newObj hC key (.cells cs el) (.cells l) 0 cs.size ⟨cs, el, (0, 0), us, rest, by
    have : (G.setLoc key w.heap.size 0 cs.size).blk key = w.heap.size := by simp [Ghost.setLoc]
    rw [this]; exact heap_alloc_at _ _, hcs, hr.later hl, thawed_zero _, by simp [Ghost.setLoc]⟩
  refine ⟨_, h1, h2, .ref _ _ _ _ (by simp) fun _ => by simp [Ghost.setLoc], by simp [Ghost.setLoc], by simp [Ghost.setLoc]⟩

theorem alloc_ok {o : Oper} {t : TypeId} {z : Zero} (ho : o.op = .alloc t) (hz : zeroA P t = some z) : ImpOK P n o (.alloc z) [] := by
  intro G w fr st a key mu K KP hC hi Kw Q hK hP
  obtain ⟨inf, Z, hinf, hZ, hsz, hr⟩ := zeroA_sound (G := G) (st := st) hz
  simp only [List.map_nil, iwp] at hi
  obtain ⟨G', h1, h2, h3, _⟩ := conc_newCells hC.st key z.cells Z.cells t (List.append_nil _).symm hr
  refine wp_value (x := .pointer (some ⟨w.heap.size, 0, none⟩)) (w' := w.alloc (.cells Z.cells t)) ?_ (hK _ _ _ _ _ hi h3 h1 h2)
  simp [execOp, ho, Instr.alloc, zeroValue, typeInfo, hinf, hZ, newVar, newRow]

theorem box_ok {o : Oper} {t : TypeId} {x : Operand} {sz : Nat} (ho : o.op = .box t x) {d : Opd} (hd : opd P t x = some d) : ImpOK P n o (.box sz) [d] := by
  intro G w fr st a key mu K KP hC hi Kw Q hK hP
  have hx := opd_sound hC hd
  simp only [List.map_cons, List.map_nil, iwp] at hi
  obtain ⟨hv, _, hi⟩ := hi
  obtain ⟨G', h1, h2, h3, _⟩ := conc_newCells hC.st key _ _ t (List.append_nil _).symm (rep_cells hx hv)
  refine wp_value (x := .pointer (some ⟨w.heap.size, 0, none⟩)) (w' := w.alloc (.cells (a.eval x).cells t)) ?_ (hK _ _ _ _ _ hi h3 h1 h2)
  simp [execOp, ho, Instr.box, newVar, newRow]

theorem mkmap_ok {o : Oper} {t kt el : TypeId} (ho : o.op = .makeMap t none) (hu : P.underlying t = some (.map kt el)) : ImpOK P n o .mkmap [] := by
  intro G w fr st a key mu K KP hC hi Kw Q hK hP
  simp only [List.map_nil, iwp] at hi
  have hl := later_setLoc G st key w.heap.size 0 0 (some (.map [] 0))
  obtain ⟨h1, h2⟩ := conc_newObj hC.st key (.map #[] 0) (.map [] 0) 0 0 ⟨#[], by
    have : (G.setLoc key w.heap.size 0 0).blk key = w.heap.size := by simp [Ghost.setLoc]
    rw [this]; exact heap_alloc_at _ _, rfl, by simp⟩
  refine wp_value (x := .map (some w.heap.size)) (w' := w.alloc (.map #[] 0)) ?_ (hK _ _ _ _ _ hi (.mapr _ _ _ (by simp) fun _ => by simp [Ghost.setLoc]) h1 h2)
  simp [execOp, ho, Instr.makeMap]

theorem splice_rep {l cs : List AVal} {vs xs : List Value} (off : Nat) (hl : RepL G st l vs) (hc : RepL G st cs xs) : RepL G st (splice l off cs) (vs.take off ++ xs ++ vs.drop (off + xs.length)) := by
  unfold splice
  rw [hc.length]
  exact ((hl.take _).append hc).append (hl.drop _)

theorem store_ok {o : Oper} {t : TypeId} {p x : Operand} {sz : Nat} (ho : o.op = .store t p x) (hsz : szOf P t = some sz) {dp dx : Opd} (hp : opd P o.type p = some dp) (hx : opd P t x = some dx) : ImpOK P n o (.store sz) [dp, dx] := by
  intro G w fr st a key mu K KP hC hi Kw Q hK hP
  have h1 := opd_sound hC hp
  have h2 := opd_sound hC hx
  obtain ⟨inf, hinf, hsize⟩ := szOf_info hsz
  simp only [List.map_cons, List.map_nil] at hi
  generalize fr.ev dp = D at *
  generalize fr.ev dx = X at *
  generalize hVP : a.eval p = VP at *
  generalize hVX : a.eval x = VX at *
  cases D <;> simp only [iwp] at hi
  rename_i k v off
  obtain ⟨hver, hisv, hcell, hlen, hi⟩ := hi
  have hxc := rep_cells h2 hisv
  have hxn : VX.cells.size = sz := by have := hxc.length; simp at this; omega
  have h1c : ∀ u ∈ VX.cells.toList, u.oneCell' = true := by
    intro u hu
    obtain ⟨i, hi⟩ := List.mem_iff_getElem?.1 hu
    have hlt : i < X.cells.length := by rw [← hxc.length]; exact (List.getElem?_eq_some_iff.1 hi).1
    obtain ⟨y, hy, hr⟩ := hxc.get (List.getElem?_eq_getElem hlt)
    rw [hi] at hy
    cases hy
    exact hr.oneCell (List.all_eq_true.1 hcell _ (List.getElem_mem hlt))
  cases h1 with
  | ref k' v' off' ad h hxx =>
    have hade := hxx hver.symm
    subst hade
    split at hi
    · rename_i l hobj
      obtain ⟨hle, hk⟩ := hi
      obtain ⟨vs, el, fz, us, rest, g1, ge, g2, g3, g4⟩ := hC.st.obj k _ hobj
      have hun : us.length = l.length := g2.length
      have hvn : vs.size = l.length + rest.length := by have := congrArg List.length ge; simp at this; omega
      have hown : Owns G st k (G.blk k) := by simp [Owns, hobj]
      have hrun : (storeCells ⟨G.blk k, off, none⟩ VX.cells.toList).run P w = .ok () (w.setRow (G.blk k) (vs.toList.take off ++ VX.cells.toList ++ vs.toList.drop (off + VX.cells.toList.length)).toArray) := by
        have := run_storeCells_thaw (P := P) (G.blk k) off el fz VX.cells.toList 0 vs w g1 g3 (by simp; omega) h1c
        simpa using this
      have himm : ∀ o, G.imm (G.blk k) o = none := fun o' => by
        rcases hC.st.own k _ o' hown with h | ⟨m, hm, _⟩
        · exact h
        · rw [hobj] at hm; cases hm
      obtain ⟨c1, c2⟩ := conc_setObj hC.st hown (w' := w.setRow (G.blk k) (vs.toList.take off ++ VX.cells.toList ++ vs.toList.drop (off + VX.cells.toList.length)).toArray) (.cells (splice l off X.cells)) (by simp) (fun b' hb' => heap_setRow_other _ _ _ hb') (by simp) himm
        (fun b' hb' => by simp [Owns] at hb'; exact hb'.symm)
        ⟨_, el, fz, us.take off ++ VX.cells.toList ++ us.drop (off + VX.cells.toList.length), rest, setRow_heap w (G.blk k) vs _ el fz g1, by
          simp only [ge]
          rw [List.take_append_of_le_length (by omega), List.drop_append_of_le_length (by simp; omega)]
          simp, by
          have hl : Later G st G (st.set k ⟨(st k).ver, some (.cells (splice l off X.cells))⟩) := {
            imm := fun _ _ _ h => h
            ver := fun k' => by by_cases e : k' = k <;> simp [Store.set, e]
            blk := fun _ _ => ⟨rfl, rfl, rfl⟩
            tail := fun k' m _ hm => by
              by_cases e : k' = k
              · subst e; simp at hm
              · rw [Store.set_other _ _ e] at hm; exact hm }
          exact (splice_rep off g2 hxc).later hl, by simp; intro o ho; exact g3 o (by omega), by simp; omega⟩ rfl rfl rfl
      refine wp_skipped (w' := _) ?_ (hK _ undef _ _ _ hk (.junk _) (by rw [← hver]; exact c1) (by rw [← hver]; exact c2))
      simp [execOp, ho, hVP, hVX, Instr.storeAt, Instr.sureAddr, storeVar, sizeOf, typeInfo, hinf, hsize, hxn, hrun]
    · exact hi.elim

end
end Go.Am
