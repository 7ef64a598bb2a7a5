/- The abstract machine is sound: structs and slices that are written out. -/
import Derived.Test.YteinffefhcpcmaaGreatDoorAmSound2
import Derived.Great.BuildSlice
namespace Go.Am

section
variable {P : Program} {n : Nat} {G : Ghost} {w : World} {fr : Fr} {st : Store} {a : Act}

theorem fill_map {place : Nat → Option (Nat × Nat)} {parts : List (Nat × Operand)} {f : Operand → Value} : (parts.map fun p => (p.1, f p.2)) = (parts.map (·.1)).zip (parts.map fun p => f p.2) := by
  induction parts with
  | nil => rfl
  | cons p ps ih => simp [ih]

theorem parts_sound (hC : Conc n G w ⟨fr, st⟩ a) {ty : Nat → Option TypeId} {l : List (Nat × Operand)} {xs : List Opd} (h : l.mapM (fun (p : Nat × Operand) => (ty p.1).bind fun t => opd P t p.2) = some xs) :
    RepL G st (xs.map fr.ev) (l.map fun p => a.eval p.2) := by
  obtain ⟨h1, h2⟩ := mapM_get h
  refine RepL.ofGet (by simp [h1]) fun i x v hx hv => ?_
  simp only [List.getElem?_map, Option.map_eq_some_iff] at hx hv
  obtain ⟨d, hd, rfl⟩ := hx
  obtain ⟨y, hy, rfl⟩ := hv
  obtain ⟨d', hd', he⟩ := h2 i y hy
  rw [hd] at hd'
  cases hd'
  simp only [Option.bind_eq_some_iff] at he
  obtain ⟨t, _, he⟩ := he
  exact opd_sound hC he

theorem build_struct_ok {o : Oper} {t : TypeId} {parts : Array (Nat × Operand)} {fs : Array Field} {z : Zero} {fl pl : List (Nat × Nat)} {xs : List Opd} (ho : o.op = .build t parts) (hu : P.underlying t = some (.struct fs)) (hz : zeroA P t = some z)
    (hfl : fs.toList.mapM (fun f : Field => (szOf P f.type).map fun m => (f.offset, m)) = some fl) (hpl : places fl parts.toList = some pl)
    (hxs : parts.toList.mapM (fun (p : Nat × Operand) => ((fs[p.1]?).map (·.type)).bind fun t => opd P t p.2) = some xs) : PureOK P n o (.build z pl) xs := by
  intro G w fr st a v hC hv
  obtain ⟨inf, Z, hi, hZ, hsz, hr⟩ := zeroA_sound (G := G) (st := st) hz
  simp only [pev, Option.map_eq_some_iff] at hv
  obtain ⟨cs, hf, rfl⟩ := hv
  have hxr := parts_sound (ty := fun i => (fs[i]?).map (·.type)) hC hxs
  obtain ⟨p1, p2⟩ := mapM_get hpl
  obtain ⟨ys, hy, hyr⟩ := fill_sound (place := (fl.toArray[·]?)) pl (parts.toList.map (·.1)) _ _ _ _ _ hr hxr (by simp [p1]) (fun j i hj => by
    simp only [List.getElem?_map, Option.map_eq_some_iff] at hj
    obtain ⟨p, hp, rfl⟩ := hj
    obtain ⟨b, hb, he⟩ := p2 j p hp
    rw [hb]
    simpa using he) hf
  have hfl' : fs.toList.mapM (fun f => (P.info? f.type).map fun i => (f.offset, i.size)) = some fl := by
    rw [← hfl]
    congr 1
    funext f
    simp only [szOf, Option.map_map]
    rfl
  have hb : P.built t (parts.map fun (i, x) => (i, a.eval x)).toList = some ys := by
    simp only [Program.built, hi, hu, hZ, hfl']
    rw [← hy]
    congr 1
    rw [Array.toList_map]
    exact fill_map (place := fun _ => none)
  refine stay hC (.agg ys) ?_ (.agg _ _ hyr)
  simp only [execOp, ho, Sem.run_bind, run_build w t _ ys hb, Result.andThen_ok, Sem.run_pure]

theorem build_array_ok {o : Oper} {t el : TypeId} {parts : Array (Nat × Operand)} {N s : Nat} {z : Zero} {xs : List Opd} (ho : o.op = .build t parts) (hu : P.underlying t = some (.array N el)) (hz : zeroA P t = some z)
    (hs : szOf P el = some s) (hxs : parts.toList.mapM (fun (p : Nat × Operand) => (some el).bind fun t => opd P t p.2) = some xs) : PureOK P n o (.build z (parts.toList.map fun p => (p.1 * s, s))) xs := by
  intro G w fr st a v hC hv
  obtain ⟨inf, Z, hi, hZ, hsz, hr⟩ := zeroA_sound (G := G) (st := st) hz
  obtain ⟨ie, hie, hes⟩ := szOf_info hs
  simp only [pev, Option.map_eq_some_iff] at hv
  obtain ⟨cs, hf, rfl⟩ := hv
  have hxr := parts_sound (ty := fun _ => some el) hC hxs
  obtain ⟨ys, hy, hyr⟩ := fill_sound (place := fun i => some (i * s, s)) (parts.toList.map fun p => (p.1 * s, s)) (parts.toList.map (·.1)) _ _ _ _ _ hr hxr (by simp) (fun j i hj => by
    simp only [List.getElem?_map, Option.map_eq_some_iff] at hj ⊢
    obtain ⟨p, hp, rfl⟩ := hj
    rw [hp]; rfl) hf
  have hb : P.built t (parts.map fun (i, x) => (i, a.eval x)).toList = some ys := by
    simp only [Program.built, hi, hu, hZ, hie, hes]
    rw [← hy]
    congr 1
    rw [Array.toList_map]
    exact fill_map (place := fun _ => none)
  refine stay hC (.agg ys) ?_ (.agg _ _ hyr)
  simp only [execOp, ho, Sem.run_bind, run_build w t _ ys hb, Result.andThen_ok, Sem.run_pure]

theorem fillA_length : ∀ {ps : List (Nat × Nat)} {vs l cs : List AVal}, fillA l ps vs = some cs → cs.length = l.length
  | [], [], l, cs, h => by simp [fillA] at h; rw [h]
  | [], v :: vs, l, cs, h => by simp [fillA] at h
  | p :: ps, [], l, cs, h => by obtain ⟨o, s⟩ := p; simp [fillA] at h
  | (off, sz) :: ps, v :: vs, l, cs, h => by
    simp only [fillA] at h
    split at h
    · rename_i hc
      have := fillA_length h
      simp at this
      omega
    · cases h

theorem chunks_flat {e : Nat} {ag : Bool} (hag : ag = false → e = 1)  : ∀ {m : Nat} {l : List AVal}, l.length = m * e → (ag = false → ∀ x ∈ l, x.cells = [x]) → flat (chunks e ag m l) = l ∧ (chunks e ag m l).length = m ∧ ∀ y ∈ chunks e ag m l, y.cells.length = e
  | 0, l, hl, _ => by
    have : l = [] := List.length_eq_zero_iff.1 (by omega)
    subst this
    simp [chunks, flat]
  | m + 1, l, hl, hc => by
    have hle : e ≤ l.length := by rw [hl, Nat.succ_mul]; omega
    obtain ⟨h1, h2, h3⟩ := chunks_flat hag (m := m) (l := l.drop e) (by rw [List.length_drop, hl, Nat.succ_mul]; omega) (fun h x hx => hc h x (List.mem_of_mem_drop hx))
    simp only [chunks, flat, List.flatMap_cons] at *
    cases ag with
    | true =>
      simp only [AVal.cells]
      rw [h1]
      refine ⟨List.take_append_drop e l, by simp [h2], ?_⟩
      intro y hy
      rcases List.mem_cons.1 hy with rfl | hy
      · simp [AVal.cells]; omega
      · exact h3 y hy
    | false =>
      have he := hag rfl
      subst he
      cases l with
      | nil => simp at hle
      | cons x l =>
        simp only [List.drop_succ_cons, List.drop_zero] at *
        have hx := hc trivial x (by simp)
        rw [hx, h1]
        refine ⟨rfl, by simp [h2], ?_⟩
        intro y hy
        rcases List.mem_cons.1 hy with rfl | hy
        · rw [hx]; rfl
        · exact h3 y hy


theorem isCell_cells {x : AVal} (h : isCell x = true) : x.cells = [x] := by cases x <;> first | rfl | (simp [isCell] at h)

theorem range_cells {l : List AVal} {zs : Array Value} (h : RepL G st l zs.toList) (m s : Nat) (hs : zs.size = s) (h0 : 0 < s) :
    RepL G st ((List.replicate m l).flatten) ((Array.range (m * s)).map (zs[· % zs.size]!)).toList := by
  have hl : l.length = s := by have := h.length; simp at this; omega
  refine RepL.ofGet (by simp [hl]) fun i x v hx hv => ?_
  have hi : i < m * s := by
    have := (List.getElem?_eq_some_iff.1 hv).1
    simpa using this
  have hmod : i % s < zs.size := by rw [hs]; exact Nat.mod_lt _ h0
  have hv' : v = zs[i % s] := by
    simp only [Array.toList_map, Array.toList_range, List.getElem?_map] at hv
    rw [List.getElem?_range hi] at hv
    simp only [Option.map_some, Option.some.injEq] at hv
    rw [hs] at hv
    rw [← hv]
    exact getElem!_pos zs (i % s) hmod
  have hx' : l[i % s]? = some x := by
    rw [← hx]
    clear hx hv hv'
    clear hmod
    induction m generalizing i with
    | zero => omega
    | succ m ih =>
      simp only [List.replicate_succ, List.flatten_cons]
      by_cases hlt : i < s
      · rw [List.getElem?_append_left (by omega), Nat.mod_eq_of_lt hlt]
      · rw [List.getElem?_append_right (by omega), hl]
        have e1 : i % s = (i - s) % s := by rw [← Nat.mod_eq_sub_mod (by omega)]
        have hi' : i - s < m * s := by rw [Nat.succ_mul] at hi; omega
        rw [e1]
        exact ih (i - s) hi'
  obtain ⟨y, hy, hr⟩ := h.get hx'
  have : y = v := by
    rw [hv']
    rw [Array.getElem?_toList, Array.getElem?_eq_getElem hmod] at hy
    exact (Option.some.inj hy).symm
  rw [← this]; exact hr

theorem bsl_ok {o : Oper} {t el : TypeId} {parts : Array (Nat × Operand)} {N s : Nat} {ag : Bool} {z : Zero} {xs : List Opd} (ho : o.op = .buildSlice t N parts) (hu : P.underlying t = some (.slice el)) (hz : zeroA P el = some z)
    (hs : eszOf P el = some s) (h0 : 0 < s) (h24 : N * s ≤ 2 ^ 24) (hall : ∀ p ∈ parts.toList, p.1 < N) (hxs : parts.toList.mapM (fun (p : Nat × Operand) => (some el).bind fun t => opd P t p.2) = some xs) :
    PureOK P n o (.bsl s N ag z (parts.toList.map fun p => (p.1 * s, s))) xs := by
  intro G w fr st a v hC hv
  obtain ⟨inf, Z, hi, hZ, hsz, hr⟩ := zeroA_sound (G := G) (st := st) hz
  obtain ⟨ie, hie, hes⟩ := eszOf_info hs
  rw [hi] at hie
  cases hie
  simp only [pev, Option.bind_eq_some_iff] at hv
  obtain ⟨cs, hf, hv⟩ := hv
  split at hv
  · rename_i hcond
    cases hv
    have hzs : Z.cells.size = s := by omega
    have hxr := parts_sound (ty := fun _ => some el) hC hxs
    have hrr := range_cells hr N s hzs h0
    obtain ⟨ys, hy, hyr⟩ := fill_sound (place := fun i => some (i * s, s)) (parts.toList.map fun p => (p.1 * s, s)) (parts.toList.map (·.1)) _ _ _ _ _ hrr hxr (by simp) (fun j i hj => by
      simp only [List.getElem?_map, Option.map_eq_some_iff] at hj ⊢
      obtain ⟨p, hp, rfl⟩ := hj
      rw [hp]; rfl) hf
    have hzl : z.cells.length = s := by have := hr.length; simp at this; omega
    have hcl : cs.length = N * s := by
      rw [fillA_length hf]
      simp [hzl]
    obtain ⟨c1, c2, c3⟩ := chunks_flat (e := s) (ag := ag) (fun h => by
        rcases hcond.1 with h' | h'
        · rw [h] at h'; cases h'
        · exact h') hcl
      (fun _ x hx => isCell_cells (List.all_eq_true.1 hcond.2 x hx))
    have hfill : Instr.fill (fun i => some (i * inf.size, inf.size)) ((Array.range (N * inf.size)).map (Z.cells[· % Z.cells.size]!)) (parts.map fun (i, x) => (i, a.eval x)).toList = some ys := by
      rw [hes, ← hy]
      congr 1
      rw [Array.toList_map]
      exact fill_map (place := fun _ => none)
    by_cases hN : N * s = 0
    · have hN0 : N = 0 := by
        rcases Nat.mul_eq_zero.1 hN with h | h
        · exact h
        · omega
      subst hN0
      have hp : parts = #[] := by
        cases hp : parts.toList with
        | nil => simpa using hp
        | cons p ps => have := hall p (by rw [hp]; simp); omega
      subst hp
      have hcs : cs = [] := List.length_eq_zero_iff.1 (by omega)
      subst hcs
      obtain ⟨k1, k2, k3⟩ := conc_newImm hC.st #[] el (by simp)
      refine ⟨.slice (some ⟨w.heap.size, 0, none⟩) 0 0, _, _, ?_, ?_, k1, k2⟩
      · simp only [execOp, ho, Sem.run_bind]
        simp [Instr.buildSlice, underlying, hu, sizeOf, typeInfo, hi, Instr.fill, newRow, show Array.range 0 = #[] from rfl]
      · exact Rep.list (G := G.addImm w.heap.size #[]) (st := st) .full s [] (some ⟨w.heap.size, 0, none⟩) 0 [] (Nat.le_refl 0) (by omega) (by simp) .nil
          (fun ad e => by cases e; exact ⟨rfl, k3⟩) (fun e => by cases e) rfl
    · have hrun := run_buildSlice w t el N (parts.map fun (i, x) => (i, a.eval x)) ys inf Z hu hi hZ (by rw [hes]; omega) (by rw [hes]; exact hN) hfill
      obtain ⟨k1, k2, k3⟩ := conc_newImm hC.st ys el (hyr.ones hcond.2)
      refine ⟨.slice (some ⟨w.heap.size, 0, none⟩) N N, _, _, ?_, ?_, k1, k2⟩
      · simp only [execOp, ho, Sem.run_bind, hrun, Result.andThen_ok, Sem.run_pure]
      · have hyr' := hyr.later k2.later
        rw [← c1] at hyr'
        have hlen : N = (chunks s ag N cs).length := c2.symm
        have h30 : N < 2 ^ 63 := by
          have : N * 1 ≤ N * s := Nat.mul_le_mul_left N h0
          omega
        have := Rep.list (G := G.addImm w.heap.size ys) (st := st) .full s (chunks s ag N cs) (some ⟨w.heap.size, 0, none⟩) N ys.toList (by omega) h30 c3 hyr'
          (fun ad e => by cases e; exact ⟨rfl, k3⟩) (fun e => by cases e) hlen
        rw [c2] at this
        exact this
  · cases hv


/-! ## Loads -/

/-- What a load's soundness says: nothing is changed. -/
def LoadOK (P : Program) (n : Nat) (o : Oper) (l : LOp) (args : List Opd) : Prop :=
  ∀ (G : Ghost) (w : World) (fr : Fr) (st : Store) (a : Act) (v : AVal), Conc n G w ⟨fr, st⟩ a → lev st l (args.map fr.ev) = some v →
    ∃ x, (execOp a.eval o).run P w = .ok (.value x) w ∧ Rep G st v x

theorem loadVar_of {t : TypeId} {sz : Option Nat} (hs : szO P t = some sz) {l : List AVal} {off : Nat} {v : AVal} (hp : partA off sz l = some v) {b o : Nat} {vs : List Value} (hr : RepL G st l vs)
    (hc : ∀ (j : Nat) (x : Value), vs[j]? = some x → w.cell? ⟨b, o + j, none⟩ = some x) : ∃ V, (loadVar t ⟨b, o + off, none⟩).run P w = .ok V w ∧ Rep G st v V := by
  rcases isAgg_of (w := w) hs with ⟨rfl, ha⟩ | ⟨k, inf, rfl, h1, h2, ha⟩
  · obtain ⟨x, hx, hr'⟩ := hr.get hp
    refine ⟨x, ?_, hr'⟩
    simp [loadVar, ha, hc off x hx]
  · simp only [partA] at hp
    split at hp
    · rename_i hle
      cases hp
      have hlen := hr.length
      have hcs : ((vs.drop off).take k).length = k := by simp; omega
      have hld : (loadCells ⟨b, o + off, none⟩ k).run P w = .ok ((vs.drop off).take k).toArray w := by
        have := run_loadCells_list (P := P) w ⟨b, o + off, none⟩ ((vs.drop off).take k) (fun j x hx => by
          rw [add_mk]
          rw [List.getElem?_take] at hx
          split at hx
          · rw [List.getElem?_drop] at hx
            have := hc (off + j) x hx
            rwa [← Nat.add_assoc] at this
          · cases hx)
        rwa [hcs] at this
      refine ⟨.agg ((vs.drop off).take k).toArray, by simp [loadVar, ha, sizeOf, typeInfo, h1, h2, hld], .agg _ _ ?_⟩
      simpa using (hr.drop off).take k
    · cases hp

theorem cellsAt_sound (hC : ConcS G w st) {k : Key} {v : Nat} {l : List AVal} (h : cellsAt st k v = some l) :
    (st k).ver = v ∧ ∃ vs, RepL G st l vs ∧ ∀ (j : Nat) (x : Value), vs[j]? = some x → w.cell? ⟨G.blk k, j, none⟩ = some x := by
  unfold cellsAt at h
  split at h
  · rename_i hv
    refine ⟨hv, ?_⟩
    split at h
    · rename_i l' ho
      cases h
      obtain ⟨vs, el, fz, us, rest, h1, h2, h3, h4, h5⟩ := hC.obj k _ ho
      refine ⟨us, h3, fun j x hx => ?_⟩
      simp only [World.cell?, h1]
      have hj : j < us.length := (List.getElem?_eq_some_iff.1 hx).1
      have : vs.toList[j]? = some x := by rw [h2, List.getElem?_append_left hj, hx]
      simpa using this
    · cases h
  · cases h

theorem load_ok {o : Oper} {t : TypeId} {x : Operand} {sz : Option Nat} (ho : o.op = .load t x) (hs : szO P t = some sz) {d : Opd} (hd : opd P o.type x = some d) : LoadOK P n o (.load sz) [d] := by
  intro G w fr st a v hC hv
  have h1 := opd_sound hC hd
  simp only [List.map_cons, List.map_nil, lev] at hv
  generalize fr.ev d = X at *
  generalize hX : a.eval x = V at *
  cases X <;> simp [load] at hv
  · rename_i k ver off
    rw [Option.bind_eq_some_iff] at hv
    obtain ⟨l, hl, hp⟩ := hv
    obtain ⟨hver, vs, hr, hc⟩ := cellsAt_sound hC.st hl
    cases h1 with
    | ref k v off ad h hx =>
      have := hx hver.symm
      subst this
      obtain ⟨V, hV, hrv⟩ := loadVar_of (P := P) (w := w) (b := G.blk k) (o := 0) hs hp hr (fun j x hx => by rw [Nat.zero_add]; exact hc j x hx)
      rw [Nat.zero_add] at hV
      exact ⟨V, by simp [execOp, ho, hX, Instr.loadAt, Instr.sureAddr, hV], hrv⟩
  · cases h1 with
    | iptr cs b off vs hi h =>
      obtain ⟨V, hV, hrv⟩ := loadVar_of (P := P) (w := w) (b := b) (o := off) hs hv h (fun j x hx => hC.st.imm _ _ _ (hi j x hx))
      exact ⟨V, by simp only [execOp, ho, hX, Instr.loadAt, Instr.sureAddr]; rw [Nat.add_zero] at hV; simp [hV], hrv⟩


/-- The elements behind a slice, as the world has them. -/
theorem elems_sound (hC : ConcS G w st) {X : AVal} {x : Value} (hx : Rep G st X x) {e : Nat} {m : List AVal} (h : elems st X = some (e, m)) :
    ∃ ad cap vs, x = .slice ad m.length cap ∧ RepL G st (flat m) vs ∧ (∀ y ∈ m, y.cells.length = e) ∧ (ad = none → m.length = 0) ∧ m.length < 2 ^ 63 ∧ (∀ v ∈ vs, one v = true) ∧
      ∀ a, ad = some a → ∀ (j : Nat) (v : Value), vs[j]? = some v → w.cell? (a.add j) = some v := by
  cases X <;> simp only [elems, reduceCtorEq] at h
  · rename_i tag e' l
    simp only [Option.some.injEq, Prod.mk.injEq] at h
    obtain ⟨rfl, rfl⟩ := h
    cases hx with
    | list tag e l ad cap vs hc hbd hel hr hi hn ht =>
      have hnone : ad = none → l.length = 0 := fun h0 => by have := hn h0; omega
      refine ⟨ad, cap, vs, rfl, hr, hel, hnone, by omega, fun v hv => ?_, fun a ha j v hv => ?_⟩
      · cases ad with
        | none =>
          have : vs = [] := List.length_eq_zero_iff.1 (by rw [hr.length, flat_length hel, hnone rfl]; simp)
          subst this; cases hv
        | some a =>
          obtain ⟨i, h⟩ := List.mem_iff_getElem?.1 hv
          exact hC.one _ _ _ ((hi a rfl).2 i v h)
      · obtain ⟨b, off, sp⟩ := a
        obtain ⟨h1, h2⟩ := hi _ ha
        simp only at h1; subst h1
        exact immCells.cell hC h2 j v hv
  · rename_i k ver e' off len
    split at h
    · rename_i hver
      split at h
      · rename_i l ho
        split at h
        · rename_i hle
          simp only [Option.some.injEq, Prod.mk.injEq] at h
          obtain ⟨rfl, rfl⟩ := h
          have hl1 : ((l.drop off).take (len * e')).length = len * e' := by simp; omega
          have hcells : ∀ x ∈ (l.drop off).take (len * e'), x.cells = [x] := fun x hx => isCell_cells (List.all_eq_true.1 hle.2 x hx)
          obtain ⟨c1, c2, c3⟩ := chunks_flat (e := e') (ag := e' != 1) (fun h => by simpa using h) hl1 (fun _ => hcells)
          obtain ⟨vs, elem, fz, us, rest, b1, be, b2, b3, b4⟩ := hC.obj k _ ho
          have hun : us.length = l.length := b2.length
          have hr : RepL G st ((l.drop off).take (len * e')) ((us.drop off).take (len * e')) := (b2.drop off).take _
          cases hx with
          | msl k v e off len a cap hc hbd hn h hx =>
            refine ⟨a, cap, _, by rw [c2], by rw [c1]; exact hr, c3, fun h0 => by have := hn h0; rw [c2]; omega, by rw [c2]; omega, hr.ones hle.2, fun ad ha j v hv => ?_⟩
            have hj : j < len * e' := by have := (List.getElem?_eq_some_iff.1 hv).1; simp at this; omega
            have hlen : 0 < len := by rcases Nat.eq_zero_or_pos len with h | h; (subst h; simp at hj); exact h
            obtain ⟨h1, h2⟩ := hx hver.symm ad ha (by omega)
            subst h1
            rw [add_mk]
            simp only [World.cell?, b1]
            rw [List.getElem?_take_of_lt hj, List.getElem?_drop] at hv
            have hv2 : vs.toList[off + j]? = some v := by rw [be, List.getElem?_append_left (by omega), hv]
            simpa using hv2
        · cases h
      · cases h
    · cases h

theorem convS_ok {o : Oper} {s d el : TypeId} {x : Operand} (ho : o.op = .convert s d x) (hs : P.underlying s = some (.slice el)) (he : P.underlying el = some (.int .u8)) (hd : P.underlying d = some .string) {dx : Opd} (hx : opd P s x = some dx) :
    LoadOK P n o .convS [dx] := by
  intro G w fr st a v hC hv
  have h1 := opd_sound hC hx
  simp only [List.map_cons, List.map_nil, lev] at hv
  generalize fr.ev dx = X at *
  generalize hX : a.eval x = V at *
  rw [Option.bind_eq_some_iff] at hv
  obtain ⟨⟨e, l⟩, hE, hv⟩ := hv
  simp only at hv
  split at hv
  · rename_i he1
    subst he1
    simp only [Option.map_eq_some_iff] at hv
    obtain ⟨bs, hb, rfl⟩ := hv
    obtain ⟨ad, cap, vs, rfl, hr, hel, hn, hbd, _, hcell⟩ := elems_sound hC.st h1 hE
    rw [bytesOf_flat hb] at hr
    obtain ⟨ns, e1, e2⟩ := bytesOf_sound hr hb
    have hlen : bs.length = l.length := bytesOf_length hb
    cases ad with
    | none =>
      have hl0 : l.length = 0 := hn rfl
      have hbs : bs = [] := List.length_eq_zero_iff.1 (by omega)
      subst hbs
      refine ⟨.string ByteArray.empty, ?_, .str _ _ rfl (by simp)⟩
      simp only [execOp, ho, hX, Sem.run_bind, run_convert_bytes_string w s d el none l.length cap hs he hd]
      simp [Conv.bytesToString]
    | some ad =>
      have hvl : vs.length = l.length := hr.length
      have hld : (loadCells ad l.length).run P w = .ok (ns.map (Value.int .u8)).toArray w := by
        rw [← hvl, run_loadCells_list w _ vs (hcell ad rfl), e1]
      refine ⟨.string (ns.foldl (fun r n => r.push (UInt8.ofNat n.toNat)) ByteArray.empty), ?_, .str _ _ ?_ (by omega)⟩
      · simp only [execOp, ho, hX, Sem.run_bind, run_convert_bytes_string w s d el _ l.length cap hs he hd, run_bytesToString w _ l.length cap ns hld]
        rfl
      · rw [foldl_push_toList, e2]; rfl
  · cases hv


/-! ## Maps -/

theorem run_getObj (w : World) (r : Nat) (o : Obj) (h : w.heap[r]? = some o) (hc : ∀ c e f, o ≠ .cells c e f) : (getObj r).run P w = .ok o w := by
  cases o <;> first | (exact absurd rfl (hc _ _ _)) | simp only [getObj, Sem.run, h]

theorem mapAt_sound (hC : ConcS G w st) {k : Key} {v : Nat} {es : List AEntry} {c : Nat} (h : mapAt st k v = some (es, c)) :
    (st k).ver = v ∧ ∃ ents, w.heap[G.blk k]? = some (.map ents c) ∧ ents.size = es.length ∧ (∀ i (h : i < es.length) (h' : i < ents.size), RepEntry G st es[i] ents[i]) := by
  unfold mapAt at h
  split at h
  · rename_i hv
    split at h
    · rename_i es' c' ho
      simp only [Option.some.injEq, Prod.mk.injEq] at h
      obtain ⟨rfl, rfl⟩ := h
      exact ⟨hv, hC.obj k _ ho⟩
    · cases h
  · cases h

theorem lenM_ok {o : Oper} {c : Call} {t kt el : TypeId} {x : Operand} (ho : o.op = .call c) (hb : c.callee = .builtin .len) (hargs : c.args.toList = [x]) (hts : c.argTypes.toList = [t]) (hu : P.underlying t = some (.map kt el))
    {dx : Opd} (hx : opd P t x = some dx) : LoadOK P n o .lenM [dx] := by
  intro G w fr st a v hC hv
  have h1 := opd_sound hC hx
  simp only [List.map_cons, List.map_nil] at hv
  generalize fr.ev dx = X at *
  obtain ⟨callee, args, argTypes⟩ := c
  simp only at hb hargs hts
  obtain rfl : args = #[x] := by rw [← Array.toArray_toList (xs := args), hargs]
  obtain rfl : argTypes = #[t] := by rw [← Array.toArray_toList (xs := argTypes), hts]
  subst hb
  generalize hVX : a.eval x = VX at *
  cases X <;> simp [lev] at hv
  · rename_i k ver
    obtain ⟨es, hm, rfl⟩ := hv
    obtain ⟨c, hm⟩ := hm
    obtain ⟨hver, ents, he, hn, hr⟩ := mapAt_sound hC.st hm
    cases h1 with
    | mapr k v r h hx =>
      have := hx hver.symm
      subst this
      have hg := run_getObj (P := P) w _ _ he (by simp)
      exact ⟨.int .i64 ents.size, by simp [execOp, ho, resolve, invoke, builtin, Builtin.len_, underlying, hu, hVX, goInt, hg], by rw [hn]; exact .int _ _⟩
  · subst hv
    cases h1
    exact ⟨.int .i64 0, by simp [execOp, ho, resolve, invoke, builtin, Builtin.len_, underlying, hu, hVX, goInt], .int _ _⟩

/-- Keys are held against each other at once. -/
theorem sameNow_sound {d : TypeDesc} (hd : (∃ k, d = .int k) ∨ d = .string) {a b : AVal} {x y : Value} {r : Bool} (h : cellEq a b = some r) (ha : Rep G st a x) (hb : Rep G st b y)
    (ht : (∃ k, d = .int k) → ∃ k m, a = .int k m) (hs : d = .string → ∃ s, a = .str s) : Instr.sameNow d x y = some r := by
  rcases hd with ⟨k, rfl⟩ | rfl
  · obtain ⟨k', m, rfl⟩ := ht ⟨k, rfl⟩
    cases b <;> simp [cellEq] at h
    obtain ⟨rfl, h⟩ := h
    cases ha; cases hb
    simp [Instr.sameNow, h]
  · obtain ⟨s, rfl⟩ := hs rfl
    cases b <;> simp [cellEq] at h
    cases ha with
    | str l s1 h1 _ =>
      cases hb with
      | str l' s2 h2 _ =>
        subst h1; subst h2
        simp only [Instr.sameNow]
        rw [← h]
        congr 1
        rw [beq_toListBytes, ByteArray.toList_eq, ByteArray.toList_eq]

/-- The key of a lookup fits the map's key type. -/
def KeyFits (d : TypeDesc) : AVal → Prop
  | .int _ _ => ∃ k, d = .int k
  | .str _ => d = .string
  | _ => False

theorem sameNow_fits {d : TypeDesc} {a b : AVal} {x y : Value} {r : Bool} (hk : KeyFits d a) (h : cellEq a b = some r) (ha : Rep G st a x) (hb : Rep G st b y) : Instr.sameNow d x y = some r := by
  cases a <;> simp [KeyFits] at hk
  · obtain ⟨k, rfl⟩ := hk
    exact sameNow_sound (.inl ⟨k, rfl⟩) h ha hb (fun _ => ⟨_, _, rfl⟩) (fun e => by cases e)
  · subst hk
    exact sameNow_sound (.inr rfl) h ha hb (fun ⟨_, e⟩ => by cases e) (fun _ => ⟨_, rfl⟩)


theorem findE_sound {d : TypeDesc} {key : AVal} {x : Value} (hk : KeyFits d key) (hx : Rep G st key x) : ∀ {es : List AEntry} {ents : List MapEntry} {r : Option AEntry} (i : Nat), ents.length = es.length →
    (∀ i (h : i < es.length) (h' : i < ents.length), RepEntry G st es[i] ents[i]) → findE es key = some r →
    ∃ q, Instr.findNow d x ents i = some q ∧ match r, q with
      | none, none => True
      | some e, some (j, v) => i ≤ j ∧ es[j - i]? = some e ∧ Rep G st e.val v ∧ (∀ m < j - i, ∀ e', es[m]? = some e' → cellEq key e'.key = some false)
      | _, _ => False
  | [], [], r, i, _, _, h => by
    simp [findE] at h; subst h
    exact ⟨none, rfl, trivial⟩
  | e :: es, [], r, i, hn, _, _ => by simp at hn
  | [], e :: es, r, i, hn, _, _ => by simp at hn
  | e :: es, en :: ents, r, i, hn, hr, h => by
    have h0 := hr 0 (by simp) (by simp)
    simp only [List.getElem_cons_zero] at h0
    unfold findE at h
    cases hc : cellEq key e.key with
    | none => simp [hc] at h
    | some b =>
      have hs := sameNow_fits hk hc hx h0.2.1
      cases b with
      | true =>
        simp [hc] at h; subst h
        refine ⟨some (i, en.val), by simp [Instr.findNow, hs], ?_⟩
        simp [h0.2.2]
      | false =>
        simp only [hc] at h
        obtain ⟨q, hq, hm⟩ := findE_sound hk hx (es := es) (ents := ents) (i + 1) (by simpa using hn) (fun j p p' => by
          have := hr (j + 1) (by simpa using p) (by simpa using p')
          simpa using this) h
        refine ⟨q, by simp [Instr.findNow, hs, hq], ?_⟩
        cases r <;> cases q <;> simp only at hm ⊢
        · rename_i e' jv
          obtain ⟨j, v⟩ := jv
          simp only at hm ⊢
          obtain ⟨m1, m2, m3, m4⟩ := hm
          refine ⟨by omega, ?_, m3, ?_⟩
          · have : j - i = (j - (i + 1)) + 1 := by omega
            rw [this]; simpa using m2
          · intro m hlt e'' he
            cases m with
            | zero => simp at he; subst he; exact hc
            | succ m => exact m4 m (by omega) e'' (by simpa using he)

theorem run_checkKey {kt : TypeId} {d : TypeDesc} (hu : P.underlying kt = some d) {key : AVal} {x : Value} (hk : KeyFits d key) (hx : Rep G st key x) (b : Bool) (m : Nat) (w : World) : (Instr.checkKey b (m + 1) kt x).run P w = .ok () w := by
  cases key <;> simp [KeyFits] at hk
  · obtain ⟨k, rfl⟩ := hk
    cases hx
    simp [Instr.checkKey, underlying, hu]
  · subst hk
    cases hx
    simp [Instr.checkKey, underlying, hu]

theorem run_findKey {kt : TypeId} {d : TypeDesc} (hu : P.underlying kt = some d) {x : Value} {ents : List MapEntry} {q : Option (Nat × Value)} (h : Instr.findNow d x ents 0 = some q) (w : World) : (Instr.findKey kt x ents).run P w = .ok q w := by
  simp [Instr.findKey, underlying, hu, h]

theorem keyKind_fits {kt : TypeId} {ks : Bool} (h : keyKind P kt = some ks) : ∃ d, P.underlying kt = some d ∧ ∀ key, keyIs ks key = true → KeyFits d key := by
  unfold keyKind at h
  split at h
  · rename_i k hu
    cases h
    exact ⟨_, hu, fun key hk => by cases key <;> simp [keyIs] at hk; exact ⟨k, rfl⟩⟩
  · rename_i hu
    cases h
    exact ⟨_, hu, fun key hk => by cases key <;> simp [keyIs] at hk; rfl⟩
  · cases h

theorem zeroVal_sound {t : TypeId} {z : Zero} {ag : Bool} (h : zeroA P t = some z) (hag : zAgg P t = some ag) (w : World) :
    ∃ V, (zeroValue t).run P w = .ok V w ∧ Rep G st (z.val ag) V := by
  obtain ⟨inf, Z, hi, hZ, hsz, hz⟩ := zeroA_sound (G := G) (st := st) h
  refine ⟨Z, by simp [zeroValue, typeInfo, hi, hZ], ?_⟩
  simp only [zAgg, hi, Option.bind_some, hZ] at hag
  have hval : ∀ x, x = Z → Z.cells = #[x] → ag = false → Rep G st (z.val ag) Z := by
    rintro x rfl hc rfl
    rw [hc] at hz
    generalize hl : z.cells = l at hz
    cases hz with
    | cons a x l vs hr ht =>
      cases ht
      simp only [Zero.val, Bool.false_eq_true, if_false, hl, List.headD_cons]
      exact hr
  cases Z with
  | agg cs =>
    simp at hag
    subst hag
    simp only [Zero.val, if_true]
    exact .agg _ _ hz
  | _ =>
    simp at hag
    exact hval _ rfl rfl hag

theorem lookup_ok {o : Oper} {t kt el : TypeId} {m k : Operand} {okk ks ag : Bool} {z : Zero} (ho : o.op = .lookup t m k okk) (hu : P.underlying t = some (.map kt el)) (hks : keyKind P kt = some ks) (hz : zeroA P el = some z)
    (hag : zAgg P el = some ag) {dm dk : Opd} (hm : opd P t m = some dm) (hk : opd P kt k = some dk) : LoadOK P n o (.lookup ks z ag okk) [dm, dk] := by
  intro G w fr st a v hC hv
  have h1 := opd_sound hC hm
  have h2 := opd_sound hC hk
  obtain ⟨d, hud, hfit⟩ := keyKind_fits hks
  obtain ⟨V, hV, hVr⟩ := zeroVal_sound (G := G) (st := st) hz hag w
  simp only [List.map_cons, List.map_nil] at hv
  generalize fr.ev dm = M at *
  generalize fr.ev dk = K at *
  generalize hVM : a.eval m = VM at *
  generalize hVK : a.eval k = VK at *
  have fin : ∀ (X : Value) (A : AVal) (b : Bool), Rep G st A X → Rep G st (if okk = true then .tup [A, .bool b] else A) (if okk = true then .tuple #[X, .bool b] else X) := by
    intro X A b hr
    cases okk
    · exact hr
    · exact .tup _ _ (.cons _ _ _ _ hr (.cons _ _ _ _ (.bool b) .nil))
  cases M <;> simp only [lev, reduceCtorEq] at hv
  · rename_i kk ver
    split at hv
    · rename_i hki
      simp only [Option.bind_eq_some_iff, Option.map_eq_some_iff] at hv
      obtain ⟨⟨es, c⟩, hmap, r, hf, rfl⟩ := hv
      obtain ⟨hver, ents, he, hn, hr⟩ := mapAt_sound hC.st hmap
      cases h1 with
      | mapr k' v' r' h hx =>
        have := hx hver.symm
        subst this
        have hg := run_getObj (P := P) w _ _ he (by simp)
        obtain ⟨q, hq, hqr⟩ := findE_sound (hfit _ hki) h2 (es := es) (ents := ents.toList) 0 (by simp [hn]) (fun i p p' => by simpa using hr i p (by simpa using p')) hf
        have hck := run_checkKey (P := P) hud (hfit _ hki) h2 ents.isEmpty 9999 w
        have hfk := run_findKey (P := P) hud hq w
        cases r with
        | none =>
          cases q with
          | some q => exact hqr.elim
          | none =>
            exact ⟨_, by simp [execOp, ho, hVM, hVK, Instr.lookup, underlying, hu, hg, hck, hfk, hV], fin V _ false hVr⟩
        | some e =>
          cases q with
          | none => exact hqr.elim
          | some q =>
            obtain ⟨j, x⟩ := q
            exact ⟨_, by simp [execOp, ho, hVM, hVK, Instr.lookup, underlying, hu, hg, hck, hfk], fin x _ true hqr.2.2.1⟩
    · cases hv
  · split at hv
    · rename_i hki
      cases hv
      cases h1
      have hck := run_checkKey (P := P) hud (hfit _ hki) h2 true 9999 w
      have hfk := run_findKey (P := P) hud (x := VK) (ents := []) (q := none) rfl w
      exact ⟨_, by simp [execOp, ho, hVM, hVK, Instr.lookup, underlying, hu, hck, hfk, hV], fin V _ false hVr⟩
    · cases hv

end
end Go.Am
