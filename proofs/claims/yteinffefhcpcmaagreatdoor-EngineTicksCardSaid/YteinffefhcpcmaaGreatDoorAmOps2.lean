/- The abstract machine is sound: slices of arrays, new slices that are written. -/
import Derived.Test.YteinffefhcpcmaaGreatDoorAmOps
namespace Go.Am

section
variable {P : Program} {n : Nat} {G : Ghost} {w : World} {fr : Fr} {st : Store} {a : Act}

theorem cellsAt_hi (hC : ConcS G w st) {k : Key} {v : Nat} {l : List AVal} (h : cellsAt st k v = some l) : (st k).ver = v ∧ l.length ≤ G.hi k := by
  unfold cellsAt at h
  split at h
  · rename_i hv
    split at h
    · rename_i l' ho
      cases h
      obtain ⟨vs, el, fz, us, rest, h1, h2, h3, h4, h5⟩ := hC.obj k _ ho
      refine ⟨hv, ?_⟩
      have e1 := h3.length
      have e2 := congrArg List.length h2
      simp at e2
      omega
    · cases h
  · cases h

theorem slA_ok {o : Oper} {t el : TypeId} {x : Operand} {lo hi mx : Option Operand} {N e : Nat} (ho : o.op = .slice t x lo hi mx) (hu : P.underlying t = some (.array N el)) (he : eszOf P el = some e) (hm : mx.isSome = true → hi.isSome = true)
    {d : Opd} {xs ys zs : List Opd} (hd : opd P o.type x = some d) (hx : lo.toList.mapM (opd P o.type) = some xs) (hy : hi.toList.mapM (opd P o.type) = some ys) (hz : mx.toList.mapM (opd P o.type) = some zs) :
    LoadOK P n o (.slA N e lo.isSome hi.isSome mx.isSome) (d :: (xs ++ ys ++ zs)) := by
  intro G w fr st a v hC hv
  have h1 := opd_sound hC hd
  obtain ⟨inf, hinf, hsz⟩ := eszOf_info he
  simp only [List.map_cons] at hv
  cases mx with
  | some m => simp [lev] at hv
  | none =>
  simp only [Option.toList_none, List.mapM_nil, Option.pure_def, Option.some.injEq] at hz
  subst hz
  generalize fr.ev d = X at *
  generalize hVX : a.eval x = VX at *
  cases X <;> simp only [Option.isSome_none, lev, reduceCtorEq] at hv
  rename_i k ver off
  rw [Option.bind_eq_some_iff] at hv
  obtain ⟨l, hl, hv⟩ := hv
  split at hv
  · rename_i hle
    simp only [Option.map_eq_some_iff] at hv
    obtain ⟨⟨p, q, m⟩, hb, rfl⟩ := hv
    obtain ⟨hver, hhi⟩ := cellsAt_hi hC.st hl
    cases h1 with
    | ref k v off ad h hxx =>
      have := hxx hver.symm
      subst this
      obtain ⟨c1, c2, c3, c4, hrun⟩ := bnds_sound hC (mx := none) (zs := []) hx hy rfl (by simp) (Nat.le_refl N) hb false
      have hmN := c4 rfl
      subst hmN
      simp only [Option.isSome_none, Bool.false_eq_true, if_false] at hrun
      refine ⟨.slice (some (if m = p then ⟨G.blk k, off, none⟩ else (⟨G.blk k, off, none⟩ : Addr).add (p * e))) (q - p) (m - p), ?_, ?_⟩
      · have hrun' : (Instr.sliceBounds false m m (lo.map a.eval) (hi.map a.eval) none).run P w = .ok (p, q, m) w := hrun
        simp [execOp, ho, hVX, Instr.sliceAt, Instr.sureAddr, underlying, hu, sizeOf, typeInfo, hinf, hsz, hrun']
      · show Rep G st (.msl k ver e (off + p * e) (q - p)) _
        have hle1 := hle.1
        refine .msl _ _ _ _ _ _ _ (by omega) (by omega) (fun h0 => by cases h0) h fun _ ad ha hpos => ?_
        cases ha
        rw [if_neg (by omega), add_mk]
        refine ⟨rfl, ?_⟩
        have : p * e + (m - p) * e = m * e := by rw [← Nat.add_mul]; congr 1; omega
        omega
  · cases hv

theorem makeSlice_ok {o : Oper} {t el : TypeId} {l c : Operand} {e by_ : Nat} {ag : Bool} {z : Zero} (ho : o.op = .makeSlice t l c) (hu : P.underlying t = some (.slice el)) (he : eszOf P el = some e) (hby : bytesE P el = some by_) (hz : zeroA P el = some z)
    {dl dc : Opd} (hl : opd P o.type l = some dl) (hc : opd P o.type c = some dc) : ImpOK P n o (.makeSlice e by_ ag z) [dl, dc] := by
  intro G w fr st a key mu K KP hC hi Kw Q hK hP
  have h1 := opd_sound hC hl
  have h2 := opd_sound hC hc
  obtain ⟨inf, hinf, hsz⟩ := eszOf_info he
  obtain ⟨inf', Z, hinf', hZ, hZsz, hZr⟩ := zeroA_sound (G := G) (st := st) hz
  rw [hinf] at hinf'
  cases hinf'
  have hbys : inf.bytes = by_ := by simpa [bytesE, hinf] using hby
  simp only [List.map_cons, List.map_nil] at hi
  generalize fr.ev dl = X at *
  generalize fr.ev dc = Y at *
  generalize hVX : a.eval l = VX at *
  generalize hVY : a.eval c = VY at *
  cases X <;> simp only [iwp] at hi
  cases Y <;> simp only [iwp] at hi
  rename_i k1 L k2 N
  obtain ⟨b1, b2, b3, b4, b5, hk⟩ := hi
  rw [rep_int h1] at hVX
  rw [rep_int h2] at hVY
  have hZe : Z.cells.size = e := by rw [hZsz, hsz]
  have hrun := run_make (P := P) w t el inf Z hu hinf hZ k1 k2 L N b1 b2 (by
    rw [hbys]; rw [Int.mul_comm]; have : (2:Int) ^ 47 ≤ 281474976710656 := by decide
    omega) (by have : (2:Int) ^ 62 ≤ 9223372036854775807 := by decide
               omega)
  rw [hsz] at hrun
  have hrc : RepL G st ((List.replicate N.toNat z.cells).flatten) (madeCells Z.cells (N.toNat * e)).toList := by
    rcases Nat.eq_zero_or_pos e with h0 | h0
    · have hz0 : z.cells = [] := List.length_eq_zero_iff.1 (by omega)
      have : madeCells Z.cells (N.toNat * e) = #[] := by apply Array.eq_empty_of_size_eq_zero; rw [size_madeCells, h0]; simp
      rw [this, hz0]
      simpa using RepL.nil
    · exact range_cells hZr N.toNat e hZe h0
  obtain ⟨G', g1, g2, g3, g4, g5⟩ := conc_newCells hC.st key _ (madeCells Z.cells (N.toNat * e)) el (List.append_nil _).symm hrc
  refine wp_value (x := .slice (some ⟨w.heap.size, 0, none⟩) L.toNat N.toNat) (w' := w.alloc (.cells (madeCells Z.cells (N.toNat * e)) el)) ?_ (hK _ _ _ _ _ hk ?_ g1 g2)
  · simp [execOp, ho, hVX, hVY, hrun]
  · refine .msl key _ e 0 _ _ _ (by omega) (by have : (2:Int) ^ 62 < 2 ^ 63 := by decide
                                               omega) (by simp) (by simp) fun _ ad ha _ => ?_
    cases ha
    rw [g4, g5, size_madeCells]
    exact ⟨rfl, by omega⟩

theorem convB_ok {o : Oper} {s d el : TypeId} {x : Operand} (ho : o.op = .convert s d x) (hs : P.underlying s = some .string) (hd : P.underlying d = some (.slice el)) (he : P.underlying el = some (.int .u8)) {dx : Opd} (hx : opd P s x = some dx) :
    ImpOK P n o .convB [dx] := by
  intro G w fr st a key mu K KP hC hi Kw Q hK hP
  have h1 := opd_sound hC hx
  simp only [List.map_cons, List.map_nil] at hi
  generalize fr.ev dx = X at *
  generalize hVX : a.eval x = VX at *
  cases X <;> simp only [iwp] at hi
  rename_i bs
  cases h1 with
  | str l s' hs' hb =>
    subst hs'
    have hrun := run_bytes_of_string (P := P) w s d el s' hs hd he
    have hcap := grownCap_ge w s'.size 0 el
    have hsz : s'.size = s'.data.toList.length := by simp
    have hcapm := grownCap_le_maxLen w s'.size 0 el (by rw [hsz]; simp only [maxLen]; omega)
    simp only [maxLen] at hcapm
    generalize hcp : grownCap w s'.size 0 el = cap at *
    have hl := later_setLoc G st key w.drew.heap.size 0 (bytesRow s' cap).size (some (.cells (bytesA s'.data.toList)))
    have hrow : (bytesRow s' cap).size = cap := by simp [bytesRow]; omega
    have hS1 : ConcS G w.drew st := hC.st.heap rfl
    have hExt : Ext G w st G w.drew st := ⟨.refl _ _, Nat.le_refl _, fun _ _ _ => rfl, fun k _ _ h => ⟨k, h⟩, fun _ _ _ h _ => .inl h, rfl, rfl, rfl⟩
    obtain ⟨c1, c2⟩ := conc_newObj hS1 key (.cells (bytesRow s' cap) el ((bytesRow s' cap).size, (bytesRow s' cap).size + 1)) (.cells (bytesA s'.data.toList)) 0 (bytesRow s' cap).size
      ⟨bytesRow s' cap, el, _, s'.data.toList.map (fun b => Value.int .u8 b.toNat), List.replicate (cap - s'.size) (.int .u8 0), by
        have : (G.setLoc key w.drew.heap.size 0 (bytesRow s' cap).size).blk key = w.drew.heap.size := by simp [Ghost.setLoc]
        rw [this]; exact heap_alloc_at _ _, by simp [bytesRow], (bytesA_rep _).later hl, fun o' h1 h2 => by simp only at h2; omega, by simp [Ghost.setLoc]⟩
    refine wp_value (x := .slice (some ⟨w.heap.size, 0, none⟩) s'.size cap) ?_ (hK _ _ _ _ _ hi ?_ c1 (hExt.trans c2))
    · simp [execOp, ho, hVX, hrun]
    · rw [hsz]
      refine .msl key _ 1 0 _ _ _ (by omega) (by omega) (by simp) (by simp) fun _ ad ha _ => ?_
      cases ha
      refine ⟨by simp [Ghost.setLoc], by simp only [Ghost.setLoc, if_pos]; omega⟩

theorem ones_of {l : List AVal} {vs : List Value} (h : RepL G st l vs) (hc : l.all isCell = true) : ∀ u ∈ vs, u.oneCell' = true := fun u hu => by
  rw [← one_eq]; exact h.ones hc u hu

theorem clearL_ok {o : Oper} {c : Call} {t el : TypeId} {m : Operand} {z : Zero} (ho : o.op = .call c) (hb : c.callee = .builtin .clear) (hargs : c.args.toList = [m]) (hts : c.argTypes.toList = [t])
    (hu : P.underlying t = some (.slice el)) (hz : zeroA P el = some z) {dm : Opd} (hm : opd P t m = some dm) : ImpOK P n o (.clearL z) [dm] := by
  intro G w fr st a key mu K KP hC hi Kw Q hK hP
  have h1 := opd_sound hC hm
  rw [one_args hb hargs hts] at ho
  obtain ⟨inf, Z, hinf, hZ, hZsz, hZr⟩ := zeroA_sound (G := G) (st := st) hz
  simp only [List.map_cons, List.map_nil] at hi
  generalize fr.ev dm = M at *
  generalize hVM : a.eval m = VM at *
  have hex : ∀ {V w'}, (Builtin.clear_ #[t] o.type #[VM]).run P w = .ok V w' → (execOp a.eval o).run P w = .ok (.value V) w' := by
    intro V w' h
    simp [execOp, ho, resolve, invoke, builtin, hVM, h]
  cases M <;> simp only [iwp] at hi
  · rename_i tag e l
    cases l with
    | cons y l => exact hi.elim
    | nil =>
      simp only at hi
      cases h1 with
      | list tag e l ad cap vs hc hbd hel hr hi' hn ht =>
        refine wp_value (hex (V := .tuple #[]) (w' := w) ?_) (hK _ _ _ _ _ hi (.junk _) hC.st (Ext.refl _ _ _))
        cases ad <;> simp [Builtin.clear_, underlying, hu]
  · rename_i k ver e off len
    obtain ⟨hver, hze, he0, hl0, hcell, hi⟩ := hi
    subst hver
    split at hi
    · rename_i l hobj
      obtain ⟨hle, hk⟩ := hi
      obtain ⟨vs, el', fz, us, rest, g1, ge, g2, g3, g4⟩ := hC.st.obj k _ hobj
      have hun : us.length = l.length := g2.length
      have hvn : vs.size = l.length + rest.length := by have := congrArg List.length ge; simp at this; omega
      have hown : Owns G st k (G.blk k) := by simp [Owns, hobj]
      have himm : ∀ o, G.imm (G.blk k) o = none := fun o' => by
        rcases hC.st.own k _ o' hown with h | ⟨m, hm, _⟩
        · exact h
        · rw [hobj] at hm; cases hm
      have hZe : Z.cells.size = e := by have := hZr.length; simp at this; omega
      have hrc := range_cells hZr len e hZe he0
      generalize hnews : ((Array.range (len * e)).map (Z.cells[· % Z.cells.size]!)).toList = news at *
      have hnl : news.length = len * e := by rw [← hnews]; simp
      have hallc : ((List.replicate len z.cells).flatten).all isCell = true := by
        rw [List.all_eq_true] at hcell ⊢
        intro y hy
        obtain ⟨l', h1, h2⟩ := List.mem_flatten.1 hy
        rw [List.eq_of_mem_replicate h1] at h2
        exact hcell y h2
      have hfl : ((List.replicate len z.cells).flatten).length = len * e := by simp [hze]
      cases h1 with
      | msl _ _ _ _ _ ad cap hc hbd hn h hx =>
        cases ad with
        | none => have := hn rfl; omega
        | some ad =>
          obtain ⟨hade, _⟩ := hx rfl ad rfl (by omega)
          subst hade
          have hrun := run_storeCells_thaw (P := P) (G.blk k) off el' fz news 0 vs w g1 g3 (by simp; omega) (ones_of hrc hallc)
          have hl := later_setObj G st k (.cells (splice l off (List.replicate len z.cells).flatten)) (by simp)
          obtain ⟨c1, c2⟩ := conc_setObj hC.st hown (w' := w.setRow (G.blk k) (vs.toList.take off ++ news ++ vs.toList.drop (off + news.length)).toArray) (.cells (splice l off (List.replicate len z.cells).flatten)) (by simp) (fun b' hb' => heap_setRow_other _ _ _ hb') (by simp) himm
            (fun b' hb' => by simp [Owns] at hb'; exact hb'.symm)
            ⟨_, el', fz, us.take off ++ news ++ us.drop (off + news.length), rest, setRow_heap w (G.blk k) vs _ el' fz g1, by
              simp only [ge]
              rw [List.take_append_of_le_length (by omega), List.drop_append_of_le_length (by omega)]
              simp, (splice_rep off g2 hrc).later hl, by
                have : (vs.toList.take off ++ news ++ vs.toList.drop (off + news.length)).toArray.size = vs.size := by simp; omega
                rw [this]; exact g3, by simp; omega⟩ rfl rfl rfl
          refine wp_value (hex (V := .tuple #[]) (w' := w.setRow (G.blk k) (vs.toList.take off ++ news ++ vs.toList.drop (off + news.length)).toArray) ?_) (hK _ _ _ _ _ hk (.junk _) c1 c2)
          have hzc : (Builtin.zeroCells Z.cells len).toList = news := by
            rw [← hnews, Builtin.zeroCells, hZe]
          have hl0' : len ≠ 0 := by omega
          simp only [Nat.add_zero] at hrun
          cases len with
          | zero => omega
          | succ len => simp [Builtin.clear_, underlying, hu, zeroValue, typeInfo, hinf, hZ, hzc, hrun]
    · exact hi.elim

end
end Go.Am
