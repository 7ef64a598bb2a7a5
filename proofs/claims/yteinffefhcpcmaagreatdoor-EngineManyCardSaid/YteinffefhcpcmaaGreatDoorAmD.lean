/- The abstract machine is sound: an operation as it is read off the program. -/
import Derived.Test.YteinffefhcpcmaaGreatDoorAmC
set_option linter.unusedVariables false
set_option linter.unusedSimpArgs false
set_option linter.unusedSectionVars false
namespace Go.Am

def OpOK (P : Program) (n : Nat) (o : Oper) (op : AOp) (args : List Opd) : Prop :=
  match op with
  | .p p => PureOK P n o p args
  | .l l => LoadOK P n o l args
  | .i i => ImpOK P n o i args

section
variable {P : Program} {n : Nat}

theorem pure_none {o : Oper} {p : POp} {args : List Opd} (h : ∀ vs, pev p vs = none) : PureOK P n o p args := by
  intro G w fr st a v hC hv
  rw [h] at hv
  cases hv

theorem load_none {o : Oper} {l : LOp} {args : List Opd} (h : ∀ st vs, lev st l vs = none) : LoadOK P n o l args := by
  intro G w fr st a v hC hv
  rw [h] at hv
  cases hv

theorem imp_none {o : Oper} {i : IOp} {args : List Opd} (h : ∀ key mu vs st K KP, ¬ iwp P key mu i vs st K KP) : ImpOK P n o i args := by
  intro G w fr st a key mu K KP hC hi
  exact absurd hi (h _ _ _ _ _ _)

set_option maxHeartbeats 1000000 in
theorem cOp_sound {o : Oper} {op : AOp} {args : List Opd} (h : cOp P o = some (op, args)) : OpOK P n o op args := by
  unfold cOp at h
  split at h
  · -- move
    rename_i x ho
    simp only [Option.bind_eq_bind, Option.bind_eq_some_iff, Option.some.injEq, Prod.mk.injEq] at h
    obtain ⟨d, hd, rfl, rfl⟩ := h
    exact mv_ok (.inl ho) hd
  · rename_i x ho
    simp only [Option.bind_eq_bind, Option.bind_eq_some_iff, Option.some.injEq, Prod.mk.injEq] at h
    obtain ⟨d, hd, rfl, rfl⟩ := h
    exact mv_ok (.inr ho) hd
  · rename_i c x y ho
    simp only [Option.bind_eq_bind, Option.bind_eq_some_iff, Option.some.injEq, Prod.mk.injEq] at h
    obtain ⟨d, hd, d1, hd1, d2, hd2, rfl, rfl⟩ := h
    exact pick_ok ho hd hd1 hd2
  · -- alloc
    rename_i t ho
    simp only [Option.bind_eq_bind, Option.bind_eq_some_iff, Option.some.injEq, Prod.mk.injEq] at h
    obtain ⟨z, hz, rfl, rfl⟩ := h
    exact alloc_ok ho hz
  · rename_i t x ho
    simp only [Option.bind_eq_bind, Option.bind_eq_some_iff, Option.some.injEq, Prod.mk.injEq] at h
    obtain ⟨s, hs, d, hd, rfl, rfl⟩ := h
    exact box_ok ho hd
  · -- build
    rename_i t parts ho
    simp only [Option.bind_eq_bind, Option.bind_eq_some_iff] at h
    obtain ⟨z, hz, h⟩ := h
    split at h
    · rename_i fs hu
      simp only [Option.bind_eq_some_iff, Option.some.injEq, Prod.mk.injEq] at h
      obtain ⟨fl, hfl, pl, hpl, xs, hxs, rfl, rfl⟩ := h
      refine build_struct_ok ho hu hz hfl hpl ?_
      rw [← hxs]
      congr 1
      funext p
      cases hp : fs[p.1]? <;> simp [hp]
    · rename_i N e hu
      simp only [Option.bind_eq_some_iff] at h
      obtain ⟨s, hs, xs, hxs, h⟩ := h
      split at h
      · simp only [Option.some.injEq, Prod.mk.injEq] at h
        obtain ⟨rfl, rfl⟩ := h
        exact build_array_ok ho hu hz hs hxs
      · cases h
    · cases h
  · -- buildSlice
    rename_i t N parts ho
    split at h
    · rename_i e hu
      simp only [Option.bind_eq_bind, Option.bind_eq_some_iff] at h
      obtain ⟨s, hs, z, hz, xs, hxs, h⟩ := h
      split at h
      · rename_i hc
        simp only [Bool.and_eq_true, decide_eq_true_eq, List.all_eq_true] at hc
        simp only [Option.some.injEq, Prod.mk.injEq] at h
        obtain ⟨rfl, rfl⟩ := h
        exact bsl_ok ho hu hz hs hc.1.2 hc.1.1.2 (fun p hp => hc.1.1.1 p hp) hxs
      · cases h
    · cases h
  · -- load
    rename_i t x ho
    simp only [Option.bind_eq_bind, Option.bind_eq_some_iff, Option.some.injEq, Prod.mk.injEq] at h
    obtain ⟨s, hs, d, hd, rfl, rfl⟩ := h
    exact load_ok ho hs hd
  · rename_i t p x ho
    simp only [Option.bind_eq_bind, Option.bind_eq_some_iff, Option.some.injEq, Prod.mk.injEq] at h
    obtain ⟨s, hs, d, hd, d2, hd2, rfl, rfl⟩ := h
    exact store_ok ho hs hd hd2
  · rename_i x ho
    simp only [Option.bind_eq_bind, Option.bind_eq_some_iff, Option.some.injEq, Prod.mk.injEq] at h
    obtain ⟨d, hd, rfl, rfl⟩ := h
    exact nilchk_ok ho hd
  · -- binOp
    rename_i bop t x y u ho
    split at h
    · split at h
      · simp only [Option.bind_eq_bind, Option.bind_eq_some_iff, Option.some.injEq, Prod.mk.injEq] at h
        obtain ⟨cs, hcs, d, hd, d2, hd2, rfl, rfl⟩ := h
        exact eqs_ok (neg := false) ho hcs hd hd2
      · simp only [Option.bind_eq_bind, Option.bind_eq_some_iff, Option.some.injEq, Prod.mk.injEq] at h
        obtain ⟨cs, hcs, d, hd, d2, hd2, rfl, rfl⟩ := h
        exact eqs_ok (neg := true) ho hcs hd hd2
      · cases h
    · split at h
      · simp only [Option.bind_eq_bind, Option.bind_eq_some_iff, Option.some.injEq, Prod.mk.injEq] at h
        obtain ⟨d, hd, d2, hd2, rfl, rfl⟩ := h
        exact bin_ok ho hd hd2
      · simp only [Option.bind_eq_bind, Option.bind_eq_some_iff, Option.some.injEq, Prod.mk.injEq] at h
        obtain ⟨d, hd, d2, hd2, rfl, rfl⟩ := h
        exact bin_ok ho hd hd2
      · simp only [Option.bind_eq_bind, Option.bind_eq_some_iff, Option.some.injEq, Prod.mk.injEq] at h
        obtain ⟨d, hd, d2, hd2, rfl, rfl⟩ := h
        exact bin_ok ho hd hd2
      · rename_i hu
        split at h
        · simp only [Option.bind_eq_bind, Option.bind_eq_some_iff, Option.some.injEq, Prod.mk.injEq] at h
          obtain ⟨d, hd, d2, hd2, rfl, rfl⟩ := h
          exact beq_ok (neg := false) ho hu hd hd2
        · simp only [Option.bind_eq_bind, Option.bind_eq_some_iff, Option.some.injEq, Prod.mk.injEq] at h
          obtain ⟨d, hd, d2, hd2, rfl, rfl⟩ := h
          exact beq_ok (neg := true) ho hu hd hd2
        · cases h
      · rename_i ds _ _ _ _ hu
        simp only [Option.bind_eq_bind, Option.bind_eq_some_iff] at h
        obtain ⟨⟨kd, z⟩, hn, h⟩ := h
        split at h
        · split at h
          · rename_i hz
            simp only [Option.bind_eq_bind, Option.bind_eq_some_iff, Option.some.injEq, Prod.mk.injEq] at h
            obtain ⟨d, hd, rfl, rfl⟩ := h
            exact isnil_ok (neg := false) ho hu hn hz hd
          · cases h
        · split at h
          · rename_i hz
            simp only [Option.bind_eq_bind, Option.bind_eq_some_iff, Option.some.injEq, Prod.mk.injEq] at h
            obtain ⟨d, hd, rfl, rfl⟩ := h
            exact isnil_ok (neg := true) ho hu hn hz hd
          · cases h
        · cases h
      · cases h
  · rename_i uop t x ho
    simp only [Option.bind_eq_bind, Option.bind_eq_some_iff, Option.some.injEq, Prod.mk.injEq] at h
    obtain ⟨d, hd, rfl, rfl⟩ := h
    exact un_ok ho hd
  · -- convert
    rename_i s d x ho
    split at h
    · rename_i k k' hs hd'
      simp only [Option.bind_eq_bind, Option.bind_eq_some_iff, Option.some.injEq, Prod.mk.injEq] at h
      obtain ⟨dx, hx, rfl, rfl⟩ := h
      exact convI_ok ho hs hd' hx
    · rename_i k hs hd'
      simp only [Option.bind_eq_bind, Option.bind_eq_some_iff, Option.some.injEq, Prod.mk.injEq] at h
      obtain ⟨dx, hx, rfl, rfl⟩ := h
      exact convF_ok ho hs hd' hx
    · rename_i hs hd'
      simp only [Option.bind_eq_bind, Option.bind_eq_some_iff, Option.some.injEq, Prod.mk.injEq] at h
      obtain ⟨dx, hx, rfl, rfl⟩ := h
      exact convId_ok ho hs hd' hx
    · rename_i e hs hd'
      split at h
      · rename_i he
        simp only [Option.bind_eq_bind, Option.bind_eq_some_iff, Option.some.injEq, Prod.mk.injEq] at h
        obtain ⟨dx, hx, rfl, rfl⟩ := h
        have hu8 : P.underlying e = some (.int .u8) := by
          unfold isInt at he
          split at he
          · rename_i k hk; cases he; exact hk
          · cases he
        exact convS_ok ho hs hu8 hd' hx
      · cases h
    · rename_i el hs hd'
      split at h
      · rename_i he
        simp only [Option.bind_eq_bind, Option.bind_eq_some_iff, Option.some.injEq, Prod.mk.injEq] at h
        obtain ⟨dx, hx, rfl, rfl⟩ := h
        have hu8 : P.underlying el = some (.int .u8) := by
          unfold isInt at he
          split at he
          · rename_i k hk; cases he; exact hk
          · cases he
        exact convB_ok ho hs hd' hu8 hx
      · cases h
    · cases h
  · -- makeInterface
    rename_i t x ho
    split at h
    · cases h
    · cases h
    · rename_i h1 h2
      simp only [Option.bind_eq_bind, Option.bind_eq_some_iff, Option.some.injEq, Prod.mk.injEq] at h
      obtain ⟨dx, hx, rfl, rfl⟩ := h
      cases hu : P.underlying t with
      | none => exact absurd hu h2
      | some ds => exact mki_ok ho hu (fun m e => h1 m (by rw [hu, e])) hx
  · rename_i fn a b ho
    simp only [Option.bind_eq_bind, Option.bind_eq_some_iff, Option.some.injEq, Prod.mk.injEq] at h
    obtain ⟨xs, hx, ys, hy, rfl, rfl⟩ := h
    exact mkf_ok ho hx hy
  · rename_i t r ho
    split at h
    · rename_i kt e hu
      cases h
      exact mkmap_ok ho hu
    · cases h
  · -- slice
    rename_i t x lo hi mx ho
    simp only [Option.bind_eq_bind, Option.bind_eq_some_iff] at h
    obtain ⟨xs, hx, ys, hy, zs, hz, h⟩ := h
    split at h
    · cases h
    · rename_i hmh
      have hm : mx.isSome = true → hi.isSome = true := by
        intro h1
        cases hi with
        | some _ => rfl
        | none => simp [h1] at hmh
      split at h
      · rename_i hu
        split at h
        · rename_i hmx
          simp only [Option.bind_eq_bind, Option.bind_eq_some_iff, Option.some.injEq, Prod.mk.injEq] at h
          obtain ⟨dx, hd, rfl, rfl⟩ := h
          have : mx = none := by cases mx <;> simp_all
          subst this
          exact slS_ok ho hu hd hx hy
        · cases h
      · rename_i e hu
        simp only [Option.bind_eq_bind, Option.bind_eq_some_iff, Option.some.injEq, Prod.mk.injEq] at h
        obtain ⟨s, hs, dx, hd, rfl, rfl⟩ := h
        exact slL_list_ok ho hu hs hm hd hx hy hz
      · rename_i N e hu
        simp only [Option.bind_eq_bind, Option.bind_eq_some_iff, Option.some.injEq, Prod.mk.injEq] at h
        obtain ⟨s, hs, dx, hd, rfl, rfl⟩ := h
        exact slA_ok ho hu hs hm hd hx hy hz
      · cases h
  · -- fieldAddr
    rename_i t x i ho
    simp only [Option.bind_eq_bind, Option.bind_eq_some_iff] at h
    obtain ⟨f, hf, h⟩ := h
    split at h
    · cases h
    · rename_i h0
      split at h
      · rename_i hz
        simp only [Option.bind_eq_bind, Option.bind_eq_some_iff, Option.some.injEq, Prod.mk.injEq] at h
        obtain ⟨dx, hd, rfl, rfl⟩ := h
        exact faddr_ok ho hf h0 hz hd
      · cases h
  · rename_i t x i ho
    simp only [Option.bind_eq_bind, Option.bind_eq_some_iff, Option.some.injEq, Prod.mk.injEq] at h
    obtain ⟨f, hf, s, hs, dx, hd, rfl, rfl⟩ := h
    exact field_ok ho hf hs hd
  · -- indexAddr
    rename_i t x i ho
    split at h
    · rename_i e hu
      simp only [Option.bind_eq_bind, Option.bind_eq_some_iff, Option.some.injEq, Prod.mk.injEq] at h
      obtain ⟨s, hs, dx, hd, di, hdi, rfl, rfl⟩ := h
      exact iaddr_ok ho hu hs hd hdi
    · rename_i N e hu
      split at h
      · rename_i hn
        simp only [Option.bind_eq_bind, Option.bind_eq_some_iff, Option.some.injEq, Prod.mk.injEq] at h
        obtain ⟨s, hs, dx, hd, di, hdi, rfl, rfl⟩ := h
        exact iaddrA_ok ho hu hn hs hd hdi
      · cases h
    · cases h
  · -- index
    rename_i t x i ho
    split at h
    · rename_i hu
      simp only [Option.bind_eq_bind, Option.bind_eq_some_iff, Option.some.injEq, Prod.mk.injEq] at h
      obtain ⟨dx, hd, di, hdi, rfl, rfl⟩ := h
      exact idxS_ok ho hu hd hdi
    · rename_i N e hu
      simp only [Option.bind_eq_bind, Option.bind_eq_some_iff, Option.some.injEq, Prod.mk.injEq] at h
      obtain ⟨s, hs, sz, hsz, dx, hd, di, hdi, rfl, rfl⟩ := h
      exact idxA_ok ho hu hs hsz hd hdi
    · cases h
  · -- lookup
    rename_i t m k okk ho
    split at h
    · rename_i kt e hu
      simp only [Option.bind_eq_bind, Option.bind_eq_some_iff, Option.some.injEq, Prod.mk.injEq] at h
      obtain ⟨ks, hks, z, hz, ag, hag, dm, hdm, dk, hdk, rfl, rfl⟩ := h
      exact lookup_ok ho hu hks hz hag hdm hdk
    · cases h
  · -- mapUpdate
    rename_i t m k v ho
    split at h
    · rename_i kt e hu
      simp only [Option.bind_eq_bind, Option.bind_eq_some_iff, Option.some.injEq, Prod.mk.injEq] at h
      obtain ⟨ks, hks, dm, hdm, dk, hdk, dv, hdv, rfl, rfl⟩ := h
      exact mapset_ok ho hu hks hdm hdk hdv
    · cases h
  · rename_i t m ho
    split at h
    · rename_i kt el hu
      simp only [Option.bind_eq_bind, Option.bind_eq_some_iff, Option.some.injEq, Prod.mk.injEq] at h
      obtain ⟨dm, hdm, rfl, rfl⟩ := h
      exact range_ok ho hu hdm
    · cases h
  · rename_i x ho
    simp only [Option.bind_eq_bind, Option.bind_eq_some_iff, Option.some.injEq, Prod.mk.injEq] at h
    obtain ⟨dm, hdm, rfl, rfl⟩ := h
    exact next_ok ho hdm
  · rename_i x ho
    simp only [Option.bind_eq_bind, Option.bind_eq_some_iff, Option.some.injEq, Prod.mk.injEq] at h
    obtain ⟨dm, hdm, rfl, rfl⟩ := h
    exact entry_ok ho hdm
  · rename_i x i ho
    simp only [Option.bind_eq_bind, Option.bind_eq_some_iff, Option.some.injEq, Prod.mk.injEq] at h
    obtain ⟨dx, hd, rfl, rfl⟩ := h
    exact ext_ok ho hd
  · rename_i x ho
    simp only [Option.bind_eq_bind, Option.bind_eq_some_iff, Option.some.injEq, Prod.mk.injEq] at h
    obtain ⟨dx, hd, rfl, rfl⟩ := h
    exact panic_ok ho hd
  · -- typeAssert
    rename_i x u t ho
    split at h
    · cases h
    · cases h
    · rename_i h1 h2
      simp only [Option.bind_eq_bind, Option.bind_eq_some_iff, Option.some.injEq, Prod.mk.injEq] at h
      obtain ⟨z, hz, dx, hx, rfl, rfl⟩ := h
      cases hu : P.underlying t with
      | none => exact absurd hu h2
      | some ds => exact assertOk_ok ho hu (fun m e => h1 m (by rw [hu, e])) hx
  · -- makeSlice
    rename_i t l c ho
    split at h
    · rename_i e hu
      simp only [Option.bind_eq_bind, Option.bind_eq_some_iff, Option.some.injEq, Prod.mk.injEq] at h
      obtain ⟨s, hs, b, hb, z, hz, dl, hdl, dc, hdc, rfl, rfl⟩ := h
      exact makeSlice_ok ho hu hs hb hz hdl hdc
    · cases h
  · -- call
    rename_i c ho
    split at h
    · rename_i f hcal
      split at h
      · rename_i hc
        simp only [Bool.and_eq_true, decide_eq_true_eq] at hc
        simp only [Option.bind_eq_bind, Option.bind_eq_some_iff, Option.some.injEq, Prod.mk.injEq] at h
        obtain ⟨xs, hxs, rfl, rfl⟩ := h
        obtain ⟨⟨hn, hb⟩, hnm⟩ := hc
        cases hf : P.funcs[f]? with
        | none => simp [hf] at hb
        | some fn =>
          simp only [hf, Option.map_some, Option.getD_some] at hb hnm
          exact call_ok ho hcal hn hf hb (by simpa using hnm) hxs
      · split at h
        · rename_i hn
          simp only [Option.bind_eq_bind, Option.bind_eq_some_iff, Option.some.injEq, Prod.mk.injEq] at h
          obtain ⟨p, hp, xs, hxs, rfl, rfl⟩ := h
          exact prim_ok ho hcal hn hp hxs
        · cases h
    · rename_i f _ hcal
      split at h
      · rename_i hn
        simp only [Option.bind_eq_bind, Option.bind_eq_some_iff, Option.some.injEq, Prod.mk.injEq] at h
        obtain ⟨xs, hxs, d, hd, rfl, rfl⟩ := h
        exact callv_ok ho hcal hn hd hxs
      · cases h
    · cases h
    · rename_i b hcal
      split at h
      · rename_i hn
        simp only [Option.bind_eq_bind, Option.bind_eq_some_iff] at h
        obtain ⟨xs, hxs, h⟩ := h
        have one_arg : ∀ t, c.argTypes.toList = [t] → ∃ x d, c.args.toList = [x] ∧ xs = [d] ∧ opd P t x = some d := by
          intro t ht
          have hl : c.args.toList.length = 1 := by
            have : c.argTypes.toList.length = 1 := by rw [ht]; rfl
            simp at this ⊢; omega
          obtain ⟨x, hx⟩ := List.length_eq_one_iff.1 hl
          rw [hx, ht] at hxs
          simp only [List.zip_cons_cons, List.zip_nil_left, List.mapM_cons, List.mapM_nil] at hxs
          cases hd : opd P t x with
          | none => simp [hd] at hxs
          | some d => simp [hd] at hxs; exact ⟨x, d, hx, hxs.symm, hd⟩
        have two_arg : ∀ t u, c.argTypes.toList = [t, u] → ∃ x y d d2, c.args.toList = [x, y] ∧ xs = [d, d2] ∧ opd P t x = some d ∧ opd P u y = some d2 := by
          intro t u ht
          have hl : c.args.toList.length = 2 := by
            have : c.argTypes.toList.length = 2 := by rw [ht]; rfl
            simp at this ⊢; omega
          obtain ⟨x, y, hx⟩ : ∃ x y, c.args.toList = [x, y] := by
            generalize c.args.toList = l at hl
            match l, hl with
            | [x, y], _ => exact ⟨x, y, rfl⟩
          rw [hx, ht] at hxs
          simp only [List.zip_cons_cons, List.zip_nil_left, List.mapM_cons, List.mapM_nil] at hxs
          cases hd : opd P t x with
          | none => simp [hd] at hxs
          | some d =>
            cases hd2 : opd P u y with
            | none => simp [hd, hd2] at hxs
            | some d2 => simp [hd, hd2] at hxs; exact ⟨x, y, d, d2, hx, hxs.symm, hd, hd2⟩
        split at h
        · rename_i t hts
          obtain ⟨x, d, hx, rfl, hd⟩ := one_arg t hts
          split at h
          · rename_i hu
            cases h
            exact lenS_ok ho hcal hx hts hu hd
          · rename_i e hu
            cases h
            exact lenL_ok ho hcal hx hts hu hd
          · rename_i N e hu
            cases h
            exact lenC_ok ho hcal hx hts hu hd
          · rename_i k e hu
            cases h
            exact lenM_ok ho hcal hx hts hu hd
          · cases h
        · split at h
          · cases h
            exact imp_none (fun _ _ _ _ _ _ hh => by unfold iwp at hh; exact hh)
          · cases h
        · rename_i t u hts
          obtain ⟨x, y, d, d2, hx, rfl, hd, hd2⟩ := two_arg t u hts
          have key : ∀ e, P.underlying t = some (.slice e) → notInt P u → (if appOk P e = true then (eszOf P e).bind fun a => (bytesE P e).bind fun b => some (AOp.i (.append a b), [d, d2]) else none) = some (op, args) → OpOK P n o op args := by
            intro e hu hni h
            split at h
            · rename_i hap
              simp only [Option.bind_eq_some_iff, Option.some.injEq, Prod.mk.injEq] at h
              obtain ⟨s, hs, b, hb, rfl, rfl⟩ := h
              simp only [appOk, Bool.and_eq_true, hs, hb, Option.map_some, Option.getD_some, decide_eq_true_eq] at hap
              obtain ⟨⟨hz, hb0⟩, hs0⟩ := hap
              obtain ⟨z, hz⟩ := Option.isSome_iff_exists.1 hz
              exact append_ok ho hcal hx hts hu hni hs hb hb0 hs0 hz hd hd2
            · cases h
          split at h
          · rename_i e e' hu hu'
            exact key e hu (.inl ⟨e', hu'⟩) h
          · rename_i e hu hu'
            exact key e hu (.inr hu') h
          · rename_i e kd hu hu'
            split at h
            · rename_i hap
              simp only [Option.bind_eq_some_iff, Option.some.injEq, Prod.mk.injEq] at h
              obtain ⟨s, hs, b, hb, z, hz, rfl, rfl⟩ := h
              simp only [appOk, Bool.and_eq_true, hs, hb, Option.map_some, Option.getD_some, decide_eq_true_eq] at hap
              obtain ⟨⟨_, hb0⟩, hs0⟩ := hap
              exact appendZ_ok ho hcal hx hts hu hu' hs hb hb0 hs0 hz hd hd2
            · cases h
          · cases h
        · split at h
          · simp only [Option.bind_eq_some_iff, Option.some.injEq, Prod.mk.injEq] at h
            obtain ⟨s, hs, rfl, rfl⟩ := h
            exact imp_none (fun _ _ _ _ _ _ hh => by unfold iwp at hh; exact hh)
          · cases h
        · rename_i t hts
          obtain ⟨x, d, hx, rfl, hd⟩ := one_arg t hts
          split at h
          · rename_i k e hu
            cases h
            exact clearM_ok ho hcal hx hts hu hd
          · rename_i e hu
            simp only [Option.bind_eq_some_iff, Option.some.injEq, Prod.mk.injEq] at h
            obtain ⟨z, hz, rfl, rfl⟩ := h
            exact clearL_ok ho hcal hx hts hu hz hd
          · cases h
        · rename_i t u hts
          obtain ⟨x, y, d, d2, hx, rfl, hd, hd2⟩ := two_arg t u hts
          split at h
          · rename_i kt e hu
            simp only [Option.bind_eq_some_iff, Option.some.injEq, Prod.mk.injEq] at h
            obtain ⟨ks, hks, rfl, rfl⟩ := h
            exact delete_ok ho hcal hx hts hu hks hd hd2
          · cases h
        · rename_i t u hts
          split at h
          · cases h
            obtain ⟨x, y, d, d2, hx, rfl, hd, hd2⟩ := two_arg t u hts
            exact mn_ok ho hcal hx hts hd hd2
          · cases h
        · rename_i t u hts
          split at h
          · cases h
            obtain ⟨x, y, d, d2, hx, rfl, hd, hd2⟩ := two_arg t u hts
            exact mx_ok ho hcal hx hts hd hd2
          · cases h
        · cases h
      · cases h
  · cases h

/-- Puts leave what the frame is. -/
theorem Conc.put {G : Ghost} {w : World} {fr : Fr} {st : Store} {a : Act} {G' : Ghost} {w' : World} {st' : Store} (hC : Conc n G w ⟨fr, st⟩ a) (hl : Later G st G' st') (hS : ConcS G' w' st') {dst : Option Nat} (hd : ∀ d, dst = some d → d < n) {v : AVal} {x : Value} (hr : Rep G' st' v x) :
    Conc n G' w' ⟨fr.put dst v, st'⟩ (a.put dst x) := by
  cases dst with
  | none => exact ⟨hS, hC.size, fun t => (hC.fr t).later hl⟩
  | some d =>
    refine ⟨hS, by simp [Act.put, hC.size], fun t => ?_⟩
    simp only [Fr.put, Fr.get, Act.put]
    by_cases h : d = t
    · subst h
      rw [if_pos rfl]
      have : d < a.tmps.size := by rw [hC.size]; exact hd d rfl
      simp [this]
      exact hr
    · rw [if_neg h]
      have := (hC.fr t).later hl
      simpa [Array.getElem?_setIfInBounds_ne h] using this


theorem ConcD.put {D : List Deferred} {G : Ghost} {w : World} {fr : Fr} {st : Store} {a : Act} {G' : Ghost} {w' : World} {st' : Store} (hC : ConcD n D G w ⟨fr, st⟩ a) (hl : Later G st G' st') (hS : ConcS G' w' st') {dst : Option Nat} (hd : ∀ d, dst = some d → d < n) {v : AVal} {x : Value} (hr : Rep G' st' v x) :
    ConcD n D G' w' ⟨fr.put dst v, st'⟩ (a.put dst x) :=
  ⟨hC.toConc.put hl hS hd hr, by cases dst <;> exact hC.defers⟩

end
end Go.Am
/- The abstract machine is sound: regions, control, calls of functions. -/
namespace Go.Am

section
variable {P : Program} {n : Nat} {D : List Deferred}

theorem cROp_parts {ops : Array Oper} {o : Oper} {r : ROp} (h : cROp P ops n o = some r) :
    cOp P o = some (r.op, r.args) ∧ r.dst = o.dst ∧ (∀ d, o.dst = some d → d < n) ∧
      ((o.guard = none ∧ r.guard = none) ∨ ∃ j b d o', o.guard = some (j, b) ∧ ops[j]? = some o' ∧ o'.dst = some d ∧ r.guard = some (d, b)) := by
  unfold cROp at h
  simp only [Option.bind_eq_some_iff] at h
  obtain ⟨⟨op, args⟩, hop, g, hg, h⟩ := h
  split at h
  · rename_i hd
    cases h
    refine ⟨hop, rfl, fun d e => by rw [e] at hd; simpa using hd, ?_⟩
    unfold cGuard at hg
    split at hg
    · rename_i hgn
      cases hg
      exact .inl ⟨hgn, rfl⟩
    · rename_i j b hgs
      simp only [Option.bind_eq_some_iff, Option.map_eq_some_iff] at hg
      obtain ⟨o', ho', d, hd', rfl⟩ := hg
      exact .inr ⟨j, b, d, o', hgs, ho', hd', rfl⟩
  · cases h

theorem rop_step {nm : Nm} {o : Oper} {r : ROp} (hop : OpOK P n o r.op r.args) (hdst : r.dst = o.dst) (hd : ∀ d, o.dst = some d → d < n) {G : Ghost} {w : World} {fr : Fr} {st : Store} {a : Act} {K : Fr → Store → Prop} {KP : AVal → Fr → Store → Prop}
    (hC : ConcD n D G w ⟨fr, st⟩ a) (h : rop P nm r fr st K KP) {Kw : Act → World → Prop} {Q : Exit → Act → World → Prop}
    (hK : ∀ fr' st' G' w' a', K fr' st' → ConcD n D G' w' ⟨fr', st'⟩ a' → Ext G w st G' w' st' → Kw a' w')
    (hP : ∀ v x fr' st' G' w' a', KP v fr' st' → Rep G' st' v x → ConcD n D G' w' ⟨fr', st'⟩ a' → Ext G w st G' w' st' → Q (.panic [{ v := x, recovered := false }]) a' w') : o.wp P a w Kw Q := by
  have hdr : ∀ d, r.dst = some d → d < n := by rw [hdst]; exact hd
  unfold rop at h
  unfold OpOK at hop
  split at h
  · rename_i p e
    rw [e] at hop
    obtain ⟨v, hv, hk⟩ := h
    obtain ⟨x, w', G', hrun, hr, hS, hE⟩ := hop G w fr st a v hC.toConc hv
    refine wp_value hrun (hK _ _ G' w' _ hk ?_ hE)
    rw [← hdst]
    exact hC.put hE.later hS hdr hr
  · rename_i l e
    rw [e] at hop
    obtain ⟨v, hv, hk⟩ := h
    obtain ⟨x, hrun, hr⟩ := hop G w fr st a v hC.toConc hv
    refine wp_value hrun (hK _ _ G w _ hk ?_ (Ext.refl _ _ _))
    rw [← hdst]
    exact hC.put (Later.refl _ _) hC.st hdr hr
  · rename_i i e
    rw [e] at hop
    refine hop G w fr st a _ _ _ _ hC.toConc h Kw Q (fun v x st' G' w' hk hr hS hE => hK _ _ G' w' _ hk ?_ hE) (fun v x st' G' w' hk hr hS hE => hP v x _ _ G' w' _ hk hr ?_ hE)
    · rw [← hdst]; exact hC.put hE.later hS hdr hr
    · exact ⟨⟨hS, hC.size, fun t => (hC.fr t).later hE.later⟩, hC.defers⟩

theorem yielded_of {ops : Array Oper} {j d : Nat} {o : Oper} (ho : ops[j]? = some o) (hd : o.dst = some d) {tmps : Array Value} {c : Bool} (h : tmps.getD d undef = .bool c) : yielded ops tmps j = some c := by
  unfold yielded
  rw [ho]
  simp only [Option.bind_some, hd]
  cases hx : tmps[d]? with
  | none => simp [hx, undef] at h
  | some v => simp [hx] at h; subst h; rfl

theorem yielded_none {ops : Array Oper} {j d : Nat} {o : Oper} (ho : ops[j]? = some o) (hd : o.dst = some d) {tmps : Array Value} (h : tmps.getD d undef = undef) : yielded ops tmps j = none := by
  unfold yielded
  rw [ho]
  simp only [Option.bind_some, hd]
  cases hx : tmps[d]? with
  | none => rfl
  | some v => simp [hx] at h; subst h; rfl

theorem rep_tup0 {G : Ghost} {st : Store} {x : Value} (h : Rep G st (.tup []) x) : x = undef := by
  cases h with
  | tup l vs h =>
    have := h.length
    simp at this
    subst this
    rfl

theorem rep_undef {G : Ghost} {st : Store} : Rep G st (.tup []) undef := .tup [] #[] .nil

theorem rwp_sound {nm : Nm} {ops : Array Oper} : ∀ (os : List Oper) (l : List ROp), os.mapM (cROp P ops n) = some l → ∀ {G : Ghost} {w : World} {fr : Fr} {st : Store} {a : Act} {K : Fr → Store → Prop} {KP : AVal → Fr → Store → Prop},
    ConcD n D G w ⟨fr, st⟩ a → rwp P nm l fr st K KP → ∀ {Q : Exit → Act → World → Prop},
    (∀ fr' st' G' w' a', K fr' st' → ConcD n D G' w' ⟨fr', st'⟩ a' → Ext G w st G' w' st' → Q .normal a' w') →
    (∀ v x fr' st' G' w' a', KP v fr' st' → Rep G' st' v x → ConcD n D G' w' ⟨fr', st'⟩ a' → Ext G w st G' w' st' → Q (.panic [{ v := x, recovered := false }]) a' w') → wpList P ops Q os a w
  | [], l, hl, G, w, fr, st, a, K, KP, hC, h, Q, hK, hP => by
    simp at hl; subst hl
    exact hK _ _ _ _ _ h hC (Ext.refl _ _ _)
  | o :: os, l, hl, G, w, fr, st, a, K, KP, hC, h, Q, hK, hP => by
    rw [List.mapM_cons] at hl
    cases hr : cROp P ops n o with
    | none => simp [hr] at hl
    | some r =>
      cases hrs : os.mapM (cROp P ops n) with
      | none => simp [hr, hrs] at hl
      | some rs =>
        simp [hr, hrs] at hl
        subst hl
        obtain ⟨h1, h2, h3, h4⟩ := cROp_parts hr
        have hop := cOp_sound (n := n) h1
        simp only [rwp] at h
        have step : ∀ (_ : rop P nm r fr st (fun fr st => rwp P nm rs fr st K KP) KP), o.wp P a w (wpList P ops Q os) Q := fun hh =>
          rop_step hop h2 h3 hC hh (fun fr' st' G' w' a' hk hC' hE => rwp_sound os rs hrs hC' hk (fun _ _ _ _ _ k c e => hK _ _ _ _ _ k c (hE.trans e)) (fun _ _ _ _ _ _ _ k r c e => hP _ _ _ _ _ _ _ k r c (hE.trans e)))
            (fun v x fr' st' G' w' a' hk hr hC' hE => hP v x _ _ _ _ _ hk hr hC' hE)
        unfold wpList
        rcases h4 with ⟨g1, g2⟩ | ⟨j, b, d, o', g1, g2, g3, g4⟩
        · unfold ropG at h
          rw [g2] at h
          rw [if_pos (by simp [Region.wanted, g1])]
          exact .inl (step h)
        · unfold ropG at h
          rw [g4] at h
          simp only at h
          split at h
          · rename_i c hc
            have hb := hC.fr d
            rw [hc] at hb
            have hb' := rep_bool hb
            have hy := yielded_of g2 g3 hb'
            split at h
            · rename_i hcb
              rw [if_pos (by simp [Region.wanted, g1, hy, hcb])]
              exact .inl (step h)
            · rename_i hcb
              rw [if_neg (by simp [Region.wanted, g1, hy, hcb])]
              refine rwp_sound os rs hrs ?_ h hK hP
              rw [h2]
              exact hC.put (Later.refl _ _) hC.st h3 rep_undef
          · rename_i hc
            have hb := hC.fr d
            rw [hc] at hb
            have hy := yielded_none g2 g3 (rep_tup0 hb)
            rw [if_neg (by simp [Region.wanted, g1, hy])]
            refine rwp_sound os rs hrs ?_ h hK hP
            rw [h2]
            exact hC.put (Later.refl _ _) hC.st h3 rep_undef
          · exact h.elim

/-! ## Control -/

theorem AW.mono {c : Code} {Q Q' : AQ} {fr : Fr} {st : Store} (h : AW P n c Q fr st) (hq : ∀ e fr st, Q e fr st → Q' e fr st) : AW P n c Q' fr st :=
  fun D G w a hC => wp_mono (h D G w a hC) fun _ _ _ ⟨ae, fr', st', G', h1, h2⟩ => ⟨ae, fr', st', G', hq _ _ _ h1, h2⟩

theorem AW.region {nm : Nm} {id : Nat} {ops : Array Oper} {l : List ROp} (hl : ops.toList.mapM (cROp P ops n) = some l) {Q : AQ} {fr : Fr} {st : Store}
    (h : rwp P nm l fr st (Q .normal) (fun v fr st => Q (.panic v) fr st)) : AW P n (.region id ops false) Q fr st := by
  intro D G w a hC
  refine wp_region_list (rwp_sound ops.toList l hl hC h (fun fr' st' G' w' a' hk hC' hE => ⟨.normal, fr', st', G', hk, .normal, hC', hE⟩) (fun v x fr' st' G' w' a' hk hr hC' hE => ⟨.panic v, fr', st', G', hk, .panic v x hr, hC', hE⟩))

theorem AW.seq {x y : Code} {Q : AQ} {fr : Fr} {st : Store} (h : AW P n x (thenQ (AW P n y Q) Q) fr st) : AW P n (.seq x y) Q fr st := by
  intro D G w a hC
  refine wp_seq (wp_mono (h D G w a hC) ?_)
  rintro e a' w' ⟨ae, fr', st', G', h1, h2, h3, h4⟩
  cases h2 with
  | normal =>
    refine wp_mono (h1 D G' w' a' h3) ?_
    rintro e a2 w2 ⟨ae, fr2, st2, G2, k1, k2, k3, k4⟩
    exact ⟨ae, fr2, st2, G2, k1, k2, k3, h4.trans k4⟩
  | exit id => exact ⟨_, fr', st', G', h1, .exit id, h3, h4⟩
  | goto l => exact ⟨_, fr', st', G', h1, .goto l, h3, h4⟩
  | ret => exact ⟨_, fr', st', G', h1, .ret, h3, h4⟩
  | panic v x hr => exact ⟨_, fr', st', G', h1, .panic v x hr, h3, h4⟩

theorem AW.cond {c : Operand} {d : Opd} (hd : opd P 0 c = some d) {x y : Code} {Q : AQ} {fr : Fr} {st : Store} {t : Bool} (ht : fr.ev d = .bool t) (h : AW P n (if t then x else y) Q fr st) : AW P n (.cond c x y) Q fr st := by
  intro D G w a hC
  have h1 := opd_sound hC.toConc hd
  rw [ht] at h1
  exact wp_cond (rep_bool h1) (h D G w a hC)

theorem AW.block {id : Nat} {c : Code} {Q : AQ} {fr : Fr} {st : Store} (h : AW P n c (blockQ id Q) fr st) : AW P n (.block id c) Q fr st := by
  intro D G w a hC
  refine wp_block (wp_mono (h D G w a hC) ?_)
  rintro e a' w' ⟨ae, fr', st', G', h1, h2, h3, h4⟩
  cases h2 with
  | normal => exact ⟨_, fr', st', G', h1, .normal, h3, h4⟩
  | exit id' =>
    simp only [Exit.inBlock, blockQ] at h1 ⊢
    split at h1
    · rename_i e; rw [if_pos e]; exact ⟨_, fr', st', G', h1, .normal, h3, h4⟩
    · rename_i e; rw [if_neg e]; exact ⟨_, fr', st', G', h1, .exit id', h3, h4⟩
  | goto l => exact ⟨_, fr', st', G', h1, .goto l, h3, h4⟩
  | ret => exact ⟨_, fr', st', G', h1, .ret, h3, h4⟩
  | panic v x hr => exact ⟨_, fr', st', G', h1, .panic v x hr, h3, h4⟩

/-- A loop whose measure stands in no frame. -/
theorem wp_loop_ghost {X : Type} {c : Code} {Q : Exit → Act → World → Prop} (I : X → Act → World → Prop) (μ : X → Nat)
    (round : ∀ x a w, I x a w → c.wp P (Exit.then (fun a' w' => ∃ x', I x' a' w' ∧ μ x' < μ x) Q) a w) {x : X} {a : Act} {w : World} (h₀ : I x a w) : (Code.loop c).wp P Q a w := by
  intro b k cs
  have key : ∀ m x a w, μ x = m → I x a w →
      ∃ e a' w', Q e a' w' ∧ Arrives P (lone (b.at a (.code c :: .inLoop c :: k)) cs w) b k cs e a' w' := by
    intro m
    induction m using Nat.strongRecOn with
    | _ m ih =>
      intro x a w hn hI
      obtain ⟨e, a₁, w₁, hq, harr⟩ := round x a w hI b (.inLoop c :: k) cs
      cases e with
      | normal =>
        obtain ⟨x', hI₁, hlt⟩ := hq
        obtain ⟨e₂, a₂, w₂, hq₂, harr₂⟩ := ih (μ x') (hn ▸ hlt) x' a₁ w₁ rfl hI₁
        exact ⟨e₂, a₂, w₂, hq₂, .of_steps (Steps.trans harr (.one step_inLoop)) harr₂⟩
      | exit id => exact ⟨_, a₁, w₁, hq, .pass (x := .inLoop c) rfl (fun _ _ => .inl (by simp)) harr⟩
      | goto l => exact ⟨_, a₁, w₁, hq, .pass (x := .inLoop c) rfl (fun _ _ => .inl (by simp)) harr⟩
      | ret => exact ⟨_, a₁, w₁, hq, .pass (x := .inLoop c) rfl (fun _ _ => .inl (by simp)) harr⟩
      | panic ch => exact ⟨_, a₁, w₁, hq, .pass (x := .inLoop c) rfl (fun _ _ => .inl (by simp)) harr⟩
      | outgrown => exact ⟨_, a₁, w₁, hq, .pass (x := .inLoop c) rfl (fun _ _ => .inl (by simp)) harr⟩
  obtain ⟨e, a', w', hq, harr⟩ := key _ x a w rfl h₀
  exact ⟨e, a', w', hq, .of_steps (.one step_loop) harr⟩

/-- A loop, by what its rounds begin with. -/
theorem AW.loop {X : Type} {c : Code} {Q : AQ} (I : X → Fr → Store → Prop) (μ : X → Nat)
    (round : ∀ x fr st, I x fr st → AW P n c (thenQ (fun fr st => ∃ x', I x' fr st ∧ μ x' < μ x) Q) fr st) {x : X} {fr : Fr} {st : Store} (h : I x fr st) : AW P n (.loop c) Q fr st := by
  intro D G w a hC
  refine wp_loop_ghost (X := X) (fun x a' w' => ∃ fr' st' G', I x fr' st' ∧ ConcD n D G' w' ⟨fr', st'⟩ a' ∧ Ext G w st G' w' st') μ ?_ ⟨fr, st, G, h, hC, Ext.refl _ _ _⟩
  rintro x a' w' ⟨fr', st', G', hI, hC', hE⟩
  refine wp_mono (round x fr' st' hI D G' w' a' hC') ?_
  rintro e a2 w2 ⟨ae, fr2, st2, G2, h1, h2, h3, h4⟩
  cases h2 with
  | normal =>
    obtain ⟨x', hx, hlt⟩ := h1
    exact ⟨x', ⟨fr2, st2, G2, hx, h3, hE.trans h4⟩, hlt⟩
  | exit id => exact ⟨_, fr2, st2, G2, h1, .exit id, h3, hE.trans h4⟩
  | goto l => exact ⟨_, fr2, st2, G2, h1, .goto l, h3, hE.trans h4⟩
  | ret => exact ⟨_, fr2, st2, G2, h1, .ret, h3, hE.trans h4⟩
  | panic v x hr => exact ⟨_, fr2, st2, G2, h1, .panic v x hr, h3, hE.trans h4⟩

end
end Go.Am
/- The abstract machine is sound: regions whose order is drawn. -/
namespace Go.Am
set_option linter.unusedSectionVars false

section
variable {P : Program} {n : Nat} {D : List Deferred}

theorem ropG_step {nm : Nm} {ops : Array Oper} {i : Nat} {o : Oper} {r : ROp} (ho : ops[i]? = some o) (hr : cROp P ops n o = some r) {G : Ghost} {w : World} {fr : Fr} {st : Store} {a : Act} {K : Fr → Store → Prop} {KP : AVal → Fr → Store → Prop}
    (hC : ConcD n D G w ⟨fr, st⟩ a) (h : ropG P nm r fr st K KP) {Kw : Act → World → Prop} {Q : Exit → Act → World → Prop}
    (hK : ∀ fr' st' G' w' a', K fr' st' → ConcD n D G' w' ⟨fr', st'⟩ a' → Ext G w st G' w' st' → Kw a' w')
    (hP : ∀ v x fr' st' G' w' a', KP v fr' st' → Rep G' st' v x → ConcD n D G' w' ⟨fr', st'⟩ a' → Ext G w st G' w' st' → Q (.panic [{ v := x, recovered := false }]) a' w') : wpOp P ops Q i Kw a w := by
  obtain ⟨h1, h2, h3, h4⟩ := cROp_parts hr
  have hop := cOp_sound (n := n) h1
  unfold wpOp
  simp only [ho]
  rcases h4 with ⟨g1, g2⟩ | ⟨j, b, d, o', g1, g2, g3, g4⟩
  · unfold ropG at h
    rw [g2] at h
    rw [if_pos (by simp [Region.wanted, g1])]
    exact .inl (rop_step hop h2 h3 hC h hK hP)
  · unfold ropG at h
    rw [g4] at h
    simp only at h
    split at h
    · rename_i c hc
      have hb := hC.fr d
      rw [hc] at hb
      have hb' := rep_bool hb
      have hy := yielded_of g2 g3 hb'
      split at h
      · rename_i hcb
        rw [if_pos (by simp [Region.wanted, g1, hy, hcb])]
        exact .inl (rop_step hop h2 h3 hC h hK hP)
      · rename_i hcb
        rw [if_neg (by simp [Region.wanted, g1, hy, hcb])]
        refine hK _ _ G w _ h ?_ (Ext.refl _ _ _)
        rw [h2]
        exact hC.put (Later.refl _ _) hC.st h3 rep_undef
    · rename_i hc
      have hb := hC.fr d
      rw [hc] at hb
      have hy := yielded_none g2 g3 (rep_tup0 hb)
      rw [if_neg (by simp [Region.wanted, g1, hy])]
      refine hK _ _ G w _ h ?_ (Ext.refl _ _ _)
      rw [h2]
      exact hC.put (Later.refl _ _) hC.st h3 rep_undef
    · exact h.elim

theorem Fr.get_put_ne {fr : Fr} {dst : Option Nat} {v : AVal} {t : Nat} (h : dst ≠ some t) : (fr.put dst v).get t = fr.get t := by
  cases dst with
  | none => rfl
  | some d =>
    have : d ≠ t := fun e => h (by rw [e])
    simp [Fr.put, Fr.get, this]

theorem Fr.get_put_eq {fr : Fr} {v : AVal} {t : Nat} : (fr.put (some t) v).get t = v := by simp [Fr.put, Fr.get]

theorem ev_same {fr fr' : Fr} {r : ROp} (h : ∀ t ∈ r.reads, fr'.get t = fr.get t) : r.args.map fr'.ev = r.args.map fr.ev := by
  refine List.map_congr_left fun x hx => ?_
  cases x with
  | c a => rfl
  | t m => exact h m (List.mem_append_left _ (List.mem_filterMap.2 ⟨.t m, hx, rfl⟩))

theorem guard_same {fr fr' : Fr} {r : ROp} (h : ∀ t ∈ r.reads, fr'.get t = fr.get t) {g : Nat} {b : Bool} (hg : r.guard = some (g, b)) : fr'.get g = fr.get g :=
  h g (List.mem_append_right _ (by simp [hg]))

theorem qop_same {fr fr' : Fr} {st : Store} {r : ROp} (h : ∀ t ∈ r.reads, fr'.get t = fr.get t) : qop r fr' st = qop r fr st := by
  unfold qop; rw [ev_same h]

theorem qev_same {fr fr' : Fr} {st : Store} {r : ROp} (h : ∀ t ∈ r.reads, fr'.get t = fr.get t) : qev r fr' st = qev r fr st := by
  unfold qev
  cases hg : r.guard with
  | none => exact qop_same h
  | some gb => obtain ⟨g, b⟩ := gb; simp only [guard_same h hg, qop_same h]

theorem qev_store {fr : Fr} {st st' : Store} {r : ROp} (h : r.op.looks = false) : qev r fr st' = qev r fr st := by
  unfold qev qop
  cases ho : r.op <;> simp_all [AOp.looks]

theorem ropG_of_qev {nm : Nm} {r : ROp} {fr : Fr} {st : Store} {v : AVal} (h : qev r fr st = some v) {KP : AVal → Fr → Store → Prop} : ropG P nm r fr st (fun f s => f = fr.put r.dst v ∧ s = st) KP := by
  have key : ∀ {v}, qop r fr st = some v → rop P nm r fr st (fun f s => f = fr.put r.dst v ∧ s = st) KP := by
    intro v h
    unfold qop at h
    unfold rop
    split at h
    · exact ⟨v, h, rfl, rfl⟩
    · exact ⟨v, h, rfl, rfl⟩
    · cases h
  unfold qev at h
  unfold ropG
  cases hg : r.guard with
  | none => rw [hg] at h; exact key h
  | some gb =>
    obtain ⟨g, b⟩ := gb
    rw [hg] at h
    simp only at h ⊢
    split at h
    · split at h
      · rename_i hc; rw [if_pos hc]; exact key h
      · rename_i hc; rw [if_neg hc]; cases h; exact (by simp)
    · cases h; exact (by simp)
    · cases h

theorem iwp_mono {key : Key} {mu : Bool} {i : IOp} {args : List AVal} {st : Store} {K K' KP KP' : AVal → Store → Prop} (hk : ∀ v s, K v s → K' v s) (hp : ∀ v s, KP v s → KP' v s)
    (h : iwp P key mu i args st K KP) : iwp P key mu i args st K' KP' := by
  unfold iwp at h ⊢
  split at h
  · exact hk _ _ h
  · exact ⟨h.1, h.2.1, hk _ _ h.2.2⟩
  · obtain ⟨h1, h2, h3, h4, h5⟩ := h
    refine ⟨h1, h2, h3, h4, ?_⟩
    split at h5
    · exact ⟨h5.1, hk _ _ h5.2⟩
    · exact h5
  · rename_i e by_ tag e' l x
    by_cases hm : mu = true
    · rw [if_pos hm] at h; exact h.elim
    · rw [if_neg hm] at h ⊢
      obtain ⟨h1, h2, h3, m, h4, h5, h6⟩ := h
      exact ⟨h1, h2, h3, m, h4, h5, hk _ _ h6⟩
  · exact h.mono fun e s he => by cases e <;> first | exact hk _ _ he | exact hp _ _ he
  · exact ⟨h.1, h.2.mono fun e s he => by cases e <;> first | exact hk _ _ he | exact hp _ _ he⟩
  · exact ⟨h.1, hp _ _ h.2⟩
  · exact hk _ _ h
  · obtain ⟨h1, es, c, h2, h3⟩ := h
    refine ⟨h1, es, c, h2, ?_⟩
    rcases h3 with ⟨es', h3, h4⟩ | ⟨h3, h4⟩
    · exact .inl ⟨es', h3, hk _ _ h4⟩
    · exact .inr ⟨h3, hk _ _ h4⟩
  · exact ⟨h.1, hk _ _ h.2⟩
  · obtain ⟨h1, es, c, h2, es', h3, h4⟩ := h
    exact ⟨h1, es, c, h2, es', h3, hk _ _ h4⟩
  · exact hk _ _ h
  · obtain ⟨es, c, h2, h3⟩ := h
    exact ⟨es, c, h2, hk _ _ h3⟩
  · exact hk _ _ h
  · obtain ⟨h1, h2, h3, h4, h5, h6⟩ := h
    refine ⟨h1, h2, h3, h4, h5, ?_⟩
    split at h6
    · exact ⟨h6.1, hk _ _ h6.2⟩
    · exact h6
  · obtain ⟨es, c, h2, h3⟩ := h
    exact ⟨es, c, h2, hk _ _ h3⟩
  · obtain ⟨h1, h2⟩ := h
    refine ⟨h1, ?_⟩
    split at h2
    · obtain ⟨es, c, h3, h4, h5, h6⟩ := h2
      exact ⟨es, c, h3, h4, fun e => hk _ _ (h5 e), fun e he => hk _ _ (h6 e he)⟩
    · exact h2
  · obtain ⟨h1, h2, h3, h4, h5, h6⟩ := h
    exact ⟨h1, h2, h3, h4, h5, hk _ _ h6⟩
  · exact hk _ _ h
  · obtain ⟨h1, h2, h3, h4, h5, h6, h7, h8, h9⟩ := h
    exact ⟨h1, h2, h3, h4, h5, h6, h7, h8, hk _ _ h9⟩
  · exact h

theorem ropG_frame {nm : Nm} {r : ROp} {fr af : Fr} {st : Store} {K : Fr → Store → Prop} {KP : AVal → Fr → Store → Prop} (hs : ∀ t ∈ r.reads, af.get t = fr.get t) (h : ropG P nm r fr st K KP) :
    ropG P nm r af st (fun f s => ∃ v, f = af.put r.dst v ∧ K (fr.put r.dst v) s) (fun v f s => f = af ∧ KP v fr s) := by
  have key : rop P nm r fr st K KP → rop P nm r af st (fun f s => ∃ v, f = af.put r.dst v ∧ K (fr.put r.dst v) s) (fun v f s => f = af ∧ KP v fr s) := by
    intro h
    unfold rop at h ⊢
    rw [ev_same hs]
    split at h
    · obtain ⟨v, h1, h2⟩ := h; exact ⟨v, h1, v, rfl, h2⟩
    · obtain ⟨v, h1, h2⟩ := h; exact ⟨v, h1, v, rfl, h2⟩
    · exact iwp_mono (fun v s hk => ⟨v, rfl, hk⟩) (fun v s hk => ⟨rfl, hk⟩) h
  unfold ropG at h ⊢
  cases hg : r.guard with
  | none => rw [hg] at h; exact key h
  | some gb =>
    obtain ⟨g, b⟩ := gb
    rw [hg] at h
    simp only at h ⊢
    rw [guard_same hs hg]
    split at h
    · split at h
      · rename_i hc; rw [if_pos hc]; exact key h
      · rename_i hc; rw [if_neg hc]; exact ⟨_, rfl, h⟩
    · exact ⟨_, rfl, h⟩
    · exact h.elim

theorem ConcD.congr {G : Ghost} {w : World} {fr fr' : Fr} {st : Store} {a : Act} (h : ConcD n D G w ⟨fr, st⟩ a) (he : ∀ t, fr'.get t = fr.get t) : ConcD n D G w ⟨fr', st⟩ a :=
  ⟨⟨h.st, h.size, fun t => by show Rep G st (fr'.get t) _; rw [he t]; exact h.fr t⟩, h.defers⟩

/-! ## The order -/

section
variable (rs : List ROp) (dl : List (List Nat))

/-- Where the run stands (A), and where the chosen order stands (C): it is ahead by what only looks. -/
structure Pnd (A C : Array Bool) (fr af : Fr) (st : Store) : Prop where
  hA : A.size = rs.length
  hC : C.size = rs.length
  sub : ∀ i, A.getD i false = true → C.getD i false = true
  clA : ∀ i, A.getD i false = true → ∀ d ∈ depOf dl i, A.getD d false = true
  clC : ∀ i, C.getD i false = true → ∀ d ∈ depOf dl i, C.getD d false = true
  pend : ∀ (i : Nat) (r : ROp), rs[i]? = some r → C.getD i false = true → A.getD i false = false → isQ rs dl i = true ∧ still r fr st
  frm : ∀ t, (∀ (i : Nat) (r : ROp), rs[i]? = some r → C.getD i false = true → A.getD i false = false → r.dst ≠ some t) → af.get t = fr.get t

theorem getD_setT {C : Array Bool} {i j : Nat} {d : Bool} (hi : i < C.size) : (C.setIfInBounds i true).getD j d = if i = j then true else C.getD j d := by
  split
  · rename_i h; subst h; simp [hi]
  · rename_i h; exact getD_set_ne d h

theorem getD_tf {C : Array Bool} {i : Nat} (hi : i < C.size) : C.getD i true = C.getD i false := by simp [hi]

theorem getD_lt {C : Array Bool} {i : Nat} (h : C.getD i false = true) : i < C.size := by
  rcases Nat.lt_or_ge i C.size with h' | h'
  · exact h'
  · simp [Array.getElem?_eq_none h'] at h

theorem ancs_sub {A : Array Bool} (hA : ∀ i, A.getD i false = true → ∀ d ∈ depOf dl i, A.getD d false = true) : ∀ (j : Nat) (l : List Nat), (∀ d ∈ l, A.getD d false = true) → ∀ d ∈ ancs dl j l, A.getD d false = true
  | 0, l, h => h
  | j + 1, l, h => by
    unfold ancs
    refine ancs_sub hA j _ ?_
    split
    · rename_i hc
      intro d hd
      rcases List.mem_append.1 hd with h1 | h1
      · exact hA j (h j (by simpa using hc)) d (List.mem_filter.1 h1).1
      · exact h d h1
    · exact h

structure OK : Prop where
  lt : ∀ i, i < rs.length → ∀ d ∈ depOf dl i, d < i
  rw : ∀ (i j : Nat) (x y : ROp) t, rs[i]? = some x → rs[j]? = some y → y.dst = some t → t ∈ x.reads → j ∈ depOf dl i ∨ i ∈ depOf dl j ∨ i = j
  ww : ∀ (i j : Nat) (x y : ROp) t, rs[i]? = some x → rs[j]? = some y → y.dst = some t → x.dst = some t → i = j

theorem OK.of (h : schedOK rs dl = true) : OK rs dl := by
  have h1 : ∀ i, i < rs.length → (∀ d ∈ depOf dl i, d < i) ∧ ∀ j, j < rs.length → _ := fun i hi => by
    have := List.all_eq_true.1 h i (List.mem_range.2 hi)
    rw [Bool.and_eq_true] at this
    exact ⟨fun d hd => by simpa using List.all_eq_true.1 this.1 d hd, fun j hj => List.all_eq_true.1 this.2 j (List.mem_range.2 hj)⟩
  have lt : ∀ {i : Nat} {x : ROp}, rs[i]? = some x → i < rs.length := fun e => (List.getElem?_eq_some_iff.1 e).1
  refine ⟨fun i hi => (h1 i hi).1, fun i j x y t hx hy ht hr => ?_, fun i j x y t hx hy ht hr => ?_⟩
  · have := (h1 i (lt hx)).2 j (lt hy)
    rw [hx, hy] at this
    simp only [ht, Bool.and_eq_true, Bool.or_eq_true, Bool.not_eq_true', List.contains_eq_mem, decide_eq_true_eq, beq_iff_eq, decide_eq_false_iff_not] at this
    rcases this.1 with ((h | h) | h) | h
    · exact absurd hr h
    · exact .inl h
    · exact .inr (.inl h)
    · exact .inr (.inr h)
  · have := (h1 i (lt hx)).2 j (lt hy)
    rw [hx, hy] at this
    simp only [ht, Bool.and_eq_true, Bool.or_eq_true, Bool.not_eq_true', List.contains_eq_mem, decide_eq_true_eq, beq_iff_eq, decide_eq_false_iff_not, bne_iff_ne] at this
    rcases this.2 with h | h
    · exact h
    · exact absurd hr h

theorem isQ_spec {i : Nat} {r : ROp} (hr : rs[i]? = some r) (h : isQ rs dl i = true) : r.op.quiet = true ∧ ∀ t, r.dst = some t → ∀ (j : Nat) (y : ROp), rs[j]? = some y → t ∈ y.reads → i ∈ depOf dl j := by
  unfold isQ at h
  rw [hr] at h
  simp only [Bool.and_eq_true] at h
  refine ⟨h.1, fun t ht j y hy hm => ?_⟩
  have h2 := h.2
  rw [ht] at h2
  have := List.all_eq_true.1 h2 j (List.mem_range.2 (List.getElem?_eq_some_iff.1 hy).1)
  rw [hy] at this
  simp only [Bool.or_eq_true, Bool.not_eq_true', List.contains_eq_mem, decide_eq_true_eq, decide_eq_false_iff_not] at this
  exact this.resolve_left fun h => h hm

theorem rdy_iff {C : Array Bool} {i : Nat} (hC : C.size = rs.length) (hi : i < rs.length) : rdy dl C i = true ↔ C.getD i false = false ∧ ∀ d ∈ depOf dl i, C.getD d false = true := by
  unfold rdy
  rw [getD_tf (by omega)]
  simp only [Bool.and_eq_true, Bool.not_eq_true', List.all_eq_true]

theorem swp_bothOf {nm : Nm} : ∀ {l : List Sched} {s : Sched}, bothOf l = some s → ∀ {fr st K KP}, swp P nm s fr st K KP → ∀ x ∈ l, swp P nm x fr st K KP
  | [], _, h, _, _, _, _, _, _, _ => by simp [bothOf] at h
  | [a], s, h, fr, st, K, KP, hs, x, hx => by
    simp [bothOf] at h; subst h
    simp at hx; subst hx; exact hs
  | a :: b :: l, s, h, fr, st, K, KP, hs, x, hx => by
    simp only [bothOf, Option.map_eq_some_iff] at h
    obtain ⟨s', hs', rfl⟩ := h
    rcases List.mem_cons.1 hx with rfl | hx
    · exact hs.1
    · exact swp_bothOf hs' hs.2 x hx

theorem stills_mem : ∀ {l : List ROp} {fr : Fr} {st : Store}, stills l fr st → ∀ r ∈ l, still r fr st
  | [], _, _, _, _, h => by cases h
  | a :: l, fr, st, hs, r, h => by
    rcases List.mem_cons.1 h with rfl | h
    · exact hs.1
    · exact stills_mem hs.2 r h

end

section
variable {rs : List ROp} {dl : List (List Nat)} {nm : Nm}

theorem still_put {r : ROp} {fr : Fr} {st : Store} {dst : Option Nat} {v : AVal} (hr : ∀ t, dst = some t → t ∉ r.reads) (hd : ∀ t, dst = some t → r.dst ≠ some t) (h : still r fr st) : still r (fr.put dst v) st := by
  obtain ⟨u, h1, h2⟩ := h
  refine ⟨u, ?_, fun d e => ?_⟩
  · rw [qev_same (fr := fr)]
    · exact h1
    · intro t ht; exact Fr.get_put_ne fun e => hr t e ht
  · rw [Fr.get_put_ne (fun e' => hd d e' e)]; exact h2 d e

theorem all_listed {A C : Array Bool} {fr af : Fr} {st : Store} (hp : Pnd rs dl A C fr af st) (ok : OK rs dl) (h : ∀ i, i < rs.length → rdy dl A i = false) : ∀ i, i < rs.length → A.getD i false = true := by
  intro i
  induction i using Nat.strongRecOn with
  | _ i ih =>
    intro hi
    cases hx : A.getD i false with
    | true => rfl
    | false =>
      have := (rdy_iff rs dl hp.hA hi).2 ⟨hx, fun d hd => ih d (ok.lt i hi d hd) (by have := ok.lt i hi d hd; omega)⟩
      rw [h i hi] at this
      cases this

end

section
variable {ops : Array Oper} {rs : List ROp} {nm : Nm}

theorem compiled (hrs : ops.toList.mapM (cROp P ops n) = some rs) : rs.length = ops.size ∧ ∀ (i : Nat) (r : ROp), rs[i]? = some r → ∃ o, ops[i]? = some o ∧ cROp P ops n o = some r := by
  obtain ⟨h1, h2⟩ := mapM_get hrs
  refine ⟨by simpa using h1, fun i r hr => ?_⟩
  have hi : i < ops.size := by have := (List.getElem?_eq_some_iff.1 hr).1; simpa [h1] using this
  obtain ⟨b, hb, hc⟩ := h2 i ops[i] (by simp [hi])
  rw [hr] at hb
  cases hb
  exact ⟨ops[i], by simp [hi], hc⟩

theorem depOf_eq {i : Nat} {o : Oper} (h : ops[i]? = some o) : depOf (ops.toList.map depsOf) i = depsOf o := by
  simp [depOf, h]

theorem ready_iff (hl : rs.length = ops.size) {A : Array Bool} {i : Nat} (hA : A.size = rs.length) : i ∈ Region.ready .any ops A ↔ i < rs.length ∧ rdy (ops.toList.map depsOf) A i = true := by
  rw [mem_ready]
  constructor
  · rintro ⟨h1, o, ho, h2⟩
    have hi : i < ops.size := (Array.getElem?_eq_some_iff.1 ho).1
    refine ⟨by omega, ?_⟩
    rw [rdy_iff rs _ hA (by omega), depOf_eq ho]
    refine ⟨by rw [← getD_tf (by omega)]; exact h1, fun d hd => ?_⟩
    simp only [depsOf, List.mem_map, List.mem_filter] at hd
    obtain ⟨e, ⟨he, hb⟩, rfl⟩ := hd
    exact h2 e (by simpa using he) hb
  · rintro ⟨hi, hr⟩
    rw [rdy_iff rs _ hA hi] at hr
    have ho : ops[i]? = some ops[i] := by simp
    rw [depOf_eq ho] at hr
    refine ⟨by rw [getD_tf (by omega)]; exact hr.1, _, ho, fun e he hb => hr.2 _ ?_⟩
    simp only [depsOf, List.mem_map, List.mem_filter]
    exact ⟨e, ⟨by simpa using he, hb⟩, rfl⟩

theorem schedFrom_done {dl : List (List Nat)} {C : Array Bool} {f : Nat} {s : Sched} (h : schedFrom rs dl f C = some s) (hall : ∀ i, i < rs.length → C.getD i false = true) : s = .done := by
  have : (List.range rs.length).all (fun i => C.getD i false) = true := List.all_eq_true.2 fun i hi => hall i (List.mem_range.1 hi)
  cases f with
  | zero => unfold schedFrom at h; rw [if_pos this] at h; cases h; rfl
  | succ f => unfold schedFrom at h; rw [if_pos this] at h; cases h; rfl

theorem count_set {A : Array Bool} {i : Nat} (hi : i < A.size) (h : A.getD i false = false) : (A.setIfInBounds i true).toList.count false + 1 = A.toList.count false := by
  have h0 : A[i] = false := by simpa [hi] using h
  have hm : false ∈ A.toList := by rw [← h0]; simp
  have hp : 0 < A.toList.count false := List.count_pos_iff.2 hm
  have hc : (A.setIfInBounds i true).toList.count false = A.toList.count false - 1 := by
    rw [Array.toList_setIfInBounds, List.count_set (by simpa using hi)]
    simp [h0]
  omega

section
variable {dl : List (List Nat)} {A C : Array Bool} {fr af : Fr} {st : Store}

theorem Pnd.both (hp : Pnd rs dl A C fr af st) (ok : OK rs dl) {i : Nat} {r : ROp} (hr : rs[i]? = some r) (hCi : C.getD i false = false) (hdep : ∀ d ∈ depOf dl i, A.getD d false = true) {st' : Store} {v : AVal}
    (hst : ∀ (k : Nat) (y : ROp), rs[k]? = some y → C.getD k false = true → A.getD k false = false → still y (fr.put r.dst v) st') : Pnd rs dl (A.setIfInBounds i true) (C.setIfInBounds i true) (fr.put r.dst v) (af.put r.dst v) st' := by
  have hi := (List.getElem?_eq_some_iff.1 hr).1
  have hAs : i < A.size := by have := hp.hA; omega
  have hCs : i < C.size := by have := hp.hC; omega
  have hAi : A.getD i false = false := by
    cases h : A.getD i false with
    | false => rfl
    | true => rw [hp.sub i h] at hCi; cases hCi
  refine ⟨by simpa using hp.hA, by simpa using hp.hC, fun k hk => ?_, fun k hk d hd => ?_, fun k hk d hd => ?_, fun k y hy hkC hkA => ?_, fun t ht => ?_⟩
  · rw [getD_setT hAs] at hk; rw [getD_setT hCs]
    split
    · rfl
    · rename_i h; rw [if_neg h] at hk; exact hp.sub k hk
  · rw [getD_setT hAs] at hk ⊢
    split
    · rfl
    · split at hk
      · rename_i h; subst h; exact hdep d hd
      · exact hp.clA k hk d hd
  · rw [getD_setT hCs] at hk ⊢
    split
    · rfl
    · split at hk
      · rename_i h; subst h; exact hp.sub _ (hdep d hd)
      · exact hp.clC k hk d hd
  · rw [getD_setT hCs] at hkC; rw [getD_setT hAs] at hkA
    split at hkA
    · cases hkA
    · rename_i h
      rw [if_neg h] at hkC
      exact ⟨(hp.pend k y hy hkC hkA).1, hst k y hy hkC hkA⟩
  · by_cases hdt : r.dst = some t
    · rw [hdt, Fr.get_put_eq, Fr.get_put_eq]
    · rw [Fr.get_put_ne hdt, Fr.get_put_ne hdt]
      refine hp.frm t fun k y hy hkC hkA => ht k y hy ?_ ?_
      · rw [getD_setT hCs]; split <;> simp_all
      · rw [getD_setT hAs]
        split
        · rename_i h; subst h; rw [hkC] at hCi; cases hCi
        · exact hkA

theorem Pnd.behind (hp : Pnd rs dl A C fr af st) (ok : OK rs dl) {i : Nat} {r : ROp} (hr : rs[i]? = some r) (hCi : C.getD i false = true) (hdep : ∀ d ∈ depOf dl i, A.getD d false = true) {v : AVal}
    (hv : ∀ d, r.dst = some d → fr.get d = v) : Pnd rs dl (A.setIfInBounds i true) C fr (af.put r.dst v) st := by
  have hi := (List.getElem?_eq_some_iff.1 hr).1
  have hAs : i < A.size := by have := hp.hA; omega
  refine ⟨by simpa using hp.hA, hp.hC, fun k hk => ?_, fun k hk d hd => ?_, hp.clC, fun k y hy hkC hkA => ?_, fun t ht => ?_⟩
  · rw [getD_setT hAs] at hk
    split at hk
    · rename_i h; subst h; exact hCi
    · exact hp.sub k hk
  · rw [getD_setT hAs] at hk ⊢
    split
    · rfl
    · split at hk
      · rename_i h; subst h; exact hdep d hd
      · exact hp.clA k hk d hd
  · rw [getD_setT hAs] at hkA
    split at hkA
    · cases hkA
    · exact hp.pend k y hy hkC hkA
  · by_cases hdt : r.dst = some t
    · rw [hdt, Fr.get_put_eq]; exact (hv t hdt).symm
    · rw [Fr.get_put_ne hdt]
      refine hp.frm t fun k y hy hkC hkA => ?_
      by_cases hki : k = i
      · subst hki; rw [hr] at hy; cases hy; exact hdt
      · refine ht k y hy hkC ?_
        rw [getD_setT hAs, if_neg (Ne.symm hki)]; exact hkA

theorem Pnd.ahead (hp : Pnd rs dl A C fr af st) (ok : OK rs dl) {j : Nat} {r : ROp} (hr : rs[j]? = some r) (hq : isQ rs dl j = true) (hCj : C.getD j false = false) (hdep : ∀ d ∈ depOf dl j, C.getD d false = true) {v : AVal}
    (hv : qev r fr st = some v) : Pnd rs dl A (C.setIfInBounds j true) (fr.put r.dst v) af st := by
  have hj := (List.getElem?_eq_some_iff.1 hr).1
  have hCs : j < C.size := by have := hp.hC; omega
  have hAj : A.getD j false = false := by
    cases h : A.getD j false with
    | false => rfl
    | true => rw [hp.sub j h] at hCj; cases hCj
  have hown := (isQ_spec rs dl hr hq).2
  refine ⟨hp.hA, by simpa using hp.hC, fun k hk => ?_, hp.clA, fun k hk d hd => ?_, fun k y hy hkC hkA => ?_, fun t ht => ?_⟩
  · rw [getD_setT hCs]
    split
    · rfl
    · exact hp.sub k hk
  · rw [getD_setT hCs] at hk ⊢
    split
    · rfl
    · split at hk
      · rename_i h; subst h; exact hdep d hd
      · exact hp.clC k hk d hd
  · rw [getD_setT hCs] at hkC
    split at hkC
    · rename_i h
      subst h
      rw [hr] at hy; cases hy
      refine ⟨hq, v, ?_, fun d hd => by rw [hd, Fr.get_put_eq]⟩
      rw [qev_same (fr := fr)]
      · exact hv
      · intro t ht
        refine Fr.get_put_ne fun hd => ?_
        have := ok.lt j hj j (hown t hd j r hr ht)
        omega
    · rename_i h
      obtain ⟨h1, h2⟩ := hp.pend k y hy hkC hkA
      refine ⟨h1, still_put (fun t hd ht => ?_) (fun t hd hd' => h (ok.ww j k r y t hr hy hd' hd)) h2⟩
      have := hp.clC k hkC j (hown t hd k y hy ht)
      rw [hCj] at this; cases this
  · have hdt : r.dst ≠ some t := ht j r hr (by rw [getD_setT hCs, if_pos rfl]) hAj
    rw [Fr.get_put_ne hdt]
    refine hp.frm t fun k y hy hkC hkA => ht k y hy ?_ hkA
    rw [getD_setT hCs]; split <;> simp_all
end

section
variable (hrs : ops.toList.mapM (cROp P ops n) = some rs) (ok : OK rs (ops.toList.map depsOf)) {G0 : Ghost} {w0 : World} {st0 : Store} {K : Fr → Store → Prop} {KP : AVal → Fr → Store → Prop} {Q : Exit → Act → World → Prop}
  (hK : ∀ fr' st' G' w' a', K fr' st' → ConcD n D G' w' ⟨fr', st'⟩ a' → Ext G0 w0 st0 G' w' st' → Q .normal a' w')
  (hP : ∀ v x fr' st' G' w' a', KP v fr' st' → Rep G' st' v x → ConcD n D G' w' ⟨fr', st'⟩ a' → Ext G0 w0 st0 G' w' st' → Q (.panic [{ v := x, recovered := false }]) a' w')
include hrs ok hK hP

theorem wpAny_fin {A C : Array Bool} {fr af : Fr} {st : Store} {G : Ghost} {a : Act} {w : World} {f : Nat} {s : Sched} (hp : Pnd rs (ops.toList.map depsOf) A C fr af st) (hC : ConcD n D G w ⟨af, st⟩ a) (hE : Ext G0 w0 st0 G w st)
    (hs : schedFrom rs (ops.toList.map depsOf) f C = some s) (hw : swp P nm s fr st K KP) (hall : ∀ i, i < rs.length → A.getD i false = true) : Q .normal a w := by
  have hd := schedFrom_done hs fun i hi => hp.sub i (hall i hi)
  subst hd
  refine hK _ _ G w a hw (hC.congr fun t => (hp.frm t ?_).symm) hE
  intro i r hr _ hA
  rw [hall i (List.getElem?_eq_some_iff.1 hr).1] at hA
  cases hA

/-- One step of the run, at an operation that stands next in both orders, or that only looks. -/
theorem wpAny_step {fA : Nat} (ih : ∀ A C fr af st G a w f s, Pnd rs (ops.toList.map depsOf) A C fr af st → ConcD n D G w ⟨af, st⟩ a → Ext G0 w0 st0 G w st → schedFrom rs (ops.toList.map depsOf) f C = some s → swp P nm s fr st K KP →
      A.toList.count false ≤ fA → wpAny P .any ops Q fA A a w) {A : Array Bool} {af : Fr} {st : Store} {G : Ghost} {a : Act} {w : World} (hC : ConcD n D G w ⟨af, st⟩ a) (hE : Ext G0 w0 st0 G w st) (hcount : A.toList.count false ≤ fA + 1) {i : Nat} (hi : i < rs.length) (hr : rdy (ops.toList.map depsOf) A i = true) :
    ∀ (f : Nat) (C : Array Bool) (fr : Fr) (s : Sched), Pnd rs (ops.toList.map depsOf) A C fr af st → C.getD i false = false → schedFrom rs (ops.toList.map depsOf) f C = some s → swp P nm s fr st K KP →
      wpOp P ops Q i (wpAny P .any ops Q fA (A.setIfInBounds i true)) a w := by
  obtain ⟨hl, hget⟩ := compiled hrs
  generalize hdl : ops.toList.map depsOf = dl at *
  have hri : rs[i]? = some rs[i] := by simp [hi]
  obtain ⟨oi, hoi, hci⟩ := hget i _ hri
  intro f
  induction f with
  | zero =>
    intro C fr s hp hCi hs hw
    unfold schedFrom at hs
    split at hs
    · rename_i hall
      have := List.all_eq_true.1 hall i (List.mem_range.2 hi)
      rw [hCi] at this; cases this
    · cases hs
  | succ f ihf =>
    intro C fr s hp hCi hs hw
    have hdep := (rdy_iff rs dl hp.hA hi).1 hr
    have hAs : i < A.size := by have := hp.hA; omega
    have hCs : i < C.size := by have := hp.hC; omega
    have hcount' : (A.setIfInBounds i true).toList.count false ≤ fA := by have := count_set hAs hdep.1; omega
    -- what the operation reads is no place of what is ahead
    have hread : ∀ t ∈ (rs[i]).reads, af.get t = fr.get t := by
      intro t ht
      refine hp.frm t fun k rk hk hkC hkA hkd => ?_
      have hq := (isQ_spec rs dl hk (hp.pend k rk hk hkC hkA).1).2 t hkd i _ hri ht
      rw [hdep.2 k hq] at hkA; cases hkA
    unfold schedFrom at hs
    split at hs
    · rename_i hall
      have := List.all_eq_true.1 hall i (List.mem_range.2 hi)
      rw [hCi] at this; cases this
    split at hs
    · rename_i j hj
      have hjq := List.find?_some hj
      have hjm := List.mem_range.1 (List.mem_of_find?_eq_some hj)
      simp only [Bool.and_eq_true] at hjq
      have hrj : rs[j]? = some rs[j] := by simp [hjm]
      rw [hrj] at hs
      simp only [Option.bind_some, Option.map_eq_some_iff] at hs
      obtain ⟨s', hs', rfl⟩ := hs
      obtain ⟨v, hv, hw⟩ := hw
      have hjr := (rdy_iff rs dl hp.hC hjm).1 hjq.1
      have hjs : j < C.size := by have := hp.hC; omega
      have hown := (isQ_spec rs dl hrj hjq.2).2
      by_cases hji : j = i
      · subst hji
        refine ropG_step (nm := nm) hoi hci hC (ropG_frame hread (ropG_of_qev hv (KP := fun _ _ _ => False))) ?_ (fun v x fr' st' G' w' a' h => h.2.elim)
        rintro fr' st' G' w' a' ⟨u, rfl, hu, rfl⟩ hC' hE'
        have huv : af.put (rs[j]).dst u = af.put (rs[j]).dst v := by
          cases hd : (rs[j]).dst with
          | none => rfl
          | some d => rw [hd] at hu; simp [Fr.put] at hu; rw [hu]
        rw [huv] at hC'
        refine ih _ _ _ _ _ _ _ _ f s' (hp.both ok hrj hCi hdep.2 fun k y hy hkC hkA => ?_) hC' (hE.trans hE') hs' hw hcount'
        refine still_put (fun t hd ht => ?_) (fun t hd hd' => ?_) (hp.pend k y hy hkC hkA).2
        · have := hp.clC k hkC j (hown t hd k y hy ht)
          rw [hCi] at this; cases this
        · have := ok.ww j k _ y t hrj hy hd' hd
          subst this
          rw [hkC] at hCi; cases hCi
      · refine ihf (C.setIfInBounds j true) (fr.put (rs[j]).dst v) s' ?_ (by rw [getD_setT hjs, if_neg hji]; exact hCi) hs' hw
        exact hp.ahead ok hrj hjq.2 hjr.1 hjr.2 hv
    · rename_i hnone
      have hirdy : rdy dl C i = true := (rdy_iff rs dl hp.hC hi).2 ⟨hCi, fun d hd => hp.sub d (hdep.2 d hd)⟩
      simp only [Option.bind_eq_some_iff] at hs
      obtain ⟨l, hl1, hl2⟩ := hs
      obtain ⟨_, hl3⟩ := mapM_get hl1
      have him : i ∈ (List.range rs.length).filter (rdy dl C) := List.mem_filter.2 ⟨List.mem_range.2 hi, hirdy⟩
      obtain ⟨m, hm⟩ := List.getElem?_of_mem him
      obtain ⟨b, hb, hbe⟩ := hl3 m i hm
      rw [hri] at hbe
      simp only [Option.bind_some, Option.map_eq_some_iff] at hbe
      obtain ⟨s', hs', rfl⟩ := hbe
      have hsw := swp_bothOf hl2 hw _ (List.mem_of_getElem? hb)
      refine ropG_step (nm := nm) hoi hci hC (ropG_frame hread hsw) ?_ ?_
      · rintro fr' st' G' w' a' ⟨v, rfl, hst, hw'⟩ hC' hE'
        refine ih _ _ _ _ _ _ _ _ f s' (hp.both ok hri hCi hdep.2 fun k y hy hkC hkA => ?_) hC' (hE.trans hE') hs' hw' hcount'
        obtain ⟨hkq, hks⟩ := hp.pend k y hy hkC hkA
        cases hlk : y.op.looks with
        | true =>
          refine stills_mem hst y (List.mem_filterMap.2 ⟨k, List.mem_range.2 (List.getElem?_eq_some_iff.1 hy).1, ?_⟩)
          have hna : k ∉ ancs dl i (depOf dl i) := fun hm => by
            have := ancs_sub dl hp.clA i _ hdep.2 k hm
            rw [hkA] at this; cases this
          simp [hy, hlk, hna, -Array.getD_eq_getD_getElem?, hkC]
        | false =>
          have hpure : still y fr st' := by
            obtain ⟨u, h1, h2⟩ := hks
            exact ⟨u, by rw [qev_store hlk]; exact h1, h2⟩
          refine still_put (fun t hd ht => ?_) (fun t hd hd' => ?_) hpure
          · rcases ok.rw k i y _ t hy hri hd ht with h | h | h
            · have := hp.clC k hkC i h
              rw [hCi] at this; cases this
            · have := hdep.2 k h
              rw [hkA] at this; cases this
            · subst h; rw [hkC] at hCi; cases hCi
          · have := ok.ww i k _ y t hri hy hd' hd
            subst this
            rw [hkC] at hCi; cases hCi
      · rintro v x fr' st' G' w' a' ⟨rfl, hkp⟩ hr hC' hE'
        exact hP v x _ _ _ _ _ (hkp _) hr hC' (hE.trans hE')

theorem wpAny_of_swp : ∀ (fA : Nat) A C fr af st G a w f s, Pnd rs (ops.toList.map depsOf) A C fr af st → ConcD n D G w ⟨af, st⟩ a → Ext G0 w0 st0 G w st → schedFrom rs (ops.toList.map depsOf) f C = some s → swp P nm s fr st K KP →
      A.toList.count false ≤ fA → wpAny P .any ops Q fA A a w := by
  obtain ⟨hl, hget⟩ := compiled hrs
  intro fA
  induction fA with
  | zero =>
    intro A C fr af st G a w f s hp hC hE hs hw hcount
    have hall : ∀ i, i < rs.length → A.getD i false = true := by
      intro i hi
      cases h : A.getD i false with
      | true => rfl
      | false =>
        have := count_set (A := A) (i := i) (by have := hp.hA; omega) h
        omega
    refine ⟨List.eq_nil_iff_forall_not_mem.2 fun i hi => ?_, wpAny_fin hrs ok hK hP hp hC hE hs hw hall⟩
    rw [ready_iff hl hp.hA] at hi
    have := (rdy_iff rs _ hp.hA hi.1).1 hi.2
    rw [hall i hi.1] at this
    cases this.1
  | succ fA ih =>
    intro A C fr af st G a w f s hp hC hE hs hw hcount
    refine ⟨fun h0 => wpAny_fin hrs ok hK hP hp hC hE hs hw (all_listed hp ok fun i hi => ?_), fun i hi => ?_⟩
    · cases h : rdy (ops.toList.map depsOf) A i with
      | false => rfl
      | true =>
        have := (ready_iff hl hp.hA).2 ⟨hi, h⟩
        rw [h0] at this; cases this
    · rw [ready_iff hl hp.hA] at hi
      obtain ⟨hi, hr⟩ := hi
      have hdep := (rdy_iff rs _ hp.hA hi).1 hr
      cases hCi : C.getD i false with
      | false => exact wpAny_step hrs ok hK hP ih hC hE hcount hi hr f C fr s hp hCi hs hw
      | true =>
        have hri : rs[i]? = some rs[i] := by simp [hi]
        obtain ⟨oi, hoi, hci⟩ := hget i _ hri
        obtain ⟨hq, v, hv, hvd⟩ := hp.pend i _ hri hCi hdep.1
        have hAs : i < A.size := by have := hp.hA; omega
        have hread : ∀ t ∈ (rs[i]).reads, af.get t = fr.get t := by
          intro t ht
          refine hp.frm t fun k rk hk hkC hkA hkd => ?_
          have hq := (isQ_spec rs _ hk (hp.pend k rk hk hkC hkA).1).2 t hkd i _ hri ht
          rw [hdep.2 k hq] at hkA; cases hkA
        refine ropG_step (nm := nm) hoi hci hC (ropG_of_qev (v := v) (by rw [qev_same hread]; exact hv) (KP := fun _ _ _ => False)) ?_ (fun v x fr' st' G' w' a' h => h.elim)
        rintro fr' st' G' w' a' ⟨rfl, rfl⟩ hC' hE'
        exact ih _ _ _ _ _ _ _ _ f s (hp.behind ok hri hCi hdep.2 hvd) hC' (hE.trans hE') hs hw (by have := count_set hAs hdep.1; omega)
end

theorem AW.draw {nm : Nm} {id : Nat} {ops : Array Oper} {l : List ROp} (hm : P.follows .mixedOrders = true) (hl : ops.toList.mapM (cROp P ops n) = some l) {s : Sched} (hs : schedOf ops l = some s) {Q : AQ} {fr : Fr} {st : Store}
    (h : swp P nm s fr st (Q .normal) (fun v fr st => Q (.panic v) fr st)) : AW P n (.region id ops true) Q fr st := by
  intro D G w a hC
  unfold schedOf at hs
  simp only at hs
  split at hs
  · rename_i hok
    refine wp_region_any hm ?_
    have hlen := (compiled hl).1
    have hz : ∀ i, (Array.replicate l.length false).getD i false = false := fun i => by
      simp [Array.getElem?_replicate]; split <;> rfl
    have hC' : ConcD n D G { w with drawn := w.drawn + 1 } ⟨fr, st⟩ a := ⟨⟨hC.st.heap rfl, hC.size, hC.fr⟩, hC.defers⟩
    rw [← hlen]
    refine wpAny_of_swp (G0 := G) (w0 := w) (st0 := st) hl (OK.of _ _ hok) (fun fr' st' G' w' a' hk hC' hE => ⟨.normal, fr', st', G', hk, .normal, hC', hE⟩) (fun v x fr' st' G' w' a' hk hr hC' hE => ⟨.panic v, fr', st', G', hk, .panic v x hr, hC', hE⟩)
      _ _ _ fr fr st G a _ _ s ?_ hC' ⟨.refl _ _, Nat.le_refl _, fun _ _ _ => rfl, fun k _ _ h => ⟨k, h⟩, fun _ _ _ h _ => .inl h, rfl, rfl, rfl⟩ hs h (by simp)
    refine ⟨by simp, by simp, fun i hi => hi, fun i hi => ?_, fun i hi => ?_, fun i r _ hi _ => ?_, fun _ _ => rfl⟩ <;> rw [hz] at hi <;> cases hi
  · cases hs
end
end
end Go.Am
/- The abstract machine is sound: code, functions. -/
namespace Go.Am

def res1 (st : Store) (fr : Fr) : ARes → Option AVal
  | .t n => some (fr.get n)
  | .cell n sz => load st sz (fr.get n)

def resA (st : Store) (fr : Fr) : List ARes → Option AVal
  | [r] => res1 st fr r
  | rs => (rs.mapM (res1 st fr)).map .tup

/-- What the end of a body must be. -/
def retQ (res : List ARes) (R : AEnd → Store → Prop) : AQ
  | .normal, fr, st => ∃ v, resA st fr res = some v ∧ R (.ret v) st
  | .ret, fr, st => ∃ v, resA st fr res = some v ∧ R (.ret v) st
  | .panic v, _, st => R (.panic v) st
  | _, _, _ => False

def argFr (args : List AVal) : Fr := args.zipIdx.map fun p => (p.2, p.1)

section
variable {P : Program} {n : Nat}

theorem inv_region {ops : Array Oper} {d : Bool} {id : Nat} {c : ACode} (h : cCode P n (.region id ops d) = some c) : ∃ l, ops.toList.mapM (cROp P ops n) = some l ∧ (if d then (schedOf ops l).map .draw else some (.region l)) = some c := by
  simp only [cCode, Option.bind_eq_bind, Option.bind_eq_some_iff] at h
  obtain ⟨l, h1, h2⟩ := h
  exact ⟨l, h1, h2⟩

/-- What code was read as code of this kind. -/
def Inv (P : Program) (n : Nat) (code : Code) : ACode → Prop
  | .skip => code = .skip
  | .region l => ∃ id ops, code = .region id ops false ∧ ops.toList.mapM (cROp P ops n) = some l
  | .draw s => ∃ id ops l, code = .region id ops true ∧ ops.toList.mapM (cROp P ops n) = some l ∧ schedOf ops l = some s
  | .seq a b => ∃ x y, code = .seq x y ∧ cCode P n x = some a ∧ cCode P n y = some b
  | .cond d a b => ∃ c x y, code = .cond c x y ∧ opd P 0 c = some d ∧ cCode P n x = some a ∧ cCode P n y = some b
  | .block id b => ∃ x, code = .block id x ∧ cCode P n x = some b
  | .loop b => ∃ x, code = .loop x ∧ cCode P n x = some b
  | .rangeFunc d ps a b => ∃ f qs x y, code = .rangeFunc f qs x y ∧ opd P 0 f = some d ∧ qs.toList = ps ∧ cCode P n x = some a ∧ cCode P n y = some b
  | .exit id => code = .exit id
  | .scope b => ∃ x, code = .scope x ∧ cCode P n x = some b
  | .label l => code = .label l
  | .goto l => code = .goto l
  | .ret => code = .ret

theorem inv_of {code : Code} {c : ACode} (h : cCode P n code = some c) : Inv P n code c := by
  cases code with
  | region id ops d =>
    obtain ⟨l, h1, h2⟩ := inv_region h
    cases d
    · simp only [Bool.false_eq_true, if_false, Option.some.injEq] at h2
      subst h2
      exact ⟨id, ops, rfl, h1⟩
    · simp only [if_true, Option.map_eq_some_iff] at h2
      obtain ⟨s, hs, rfl⟩ := h2
      exact ⟨id, ops, l, rfl, h1, hs⟩
  | skip => simp only [cCode, Option.some.injEq] at h; subst h; rfl
  | exit id => simp only [cCode, Option.some.injEq] at h; subst h; rfl
  | label id => simp only [cCode, Option.some.injEq] at h; subst h; rfl
  | goto id => simp only [cCode, Option.some.injEq] at h; subst h; rfl
  | ret => simp only [cCode, Option.some.injEq] at h; subst h; rfl
  | refuse w => simp [cCode] at h
  | seq x y =>
    simp only [cCode, Option.bind_eq_bind, Option.bind_eq_some_iff, Option.some.injEq] at h
    obtain ⟨a, h1, b, h2, rfl⟩ := h
    exact ⟨x, y, rfl, h1, h2⟩
  | cond q x y =>
    simp only [cCode, Option.bind_eq_bind, Option.bind_eq_some_iff, Option.some.injEq] at h
    obtain ⟨d, h0, a, h1, b, h2, rfl⟩ := h
    exact ⟨q, x, y, rfl, h0, h1, h2⟩
  | block id x =>
    simp only [cCode, Option.bind_eq_bind, Option.bind_eq_some_iff, Option.some.injEq] at h
    obtain ⟨a, h1, rfl⟩ := h
    exact ⟨x, rfl, h1⟩
  | loop x =>
    simp only [cCode, Option.bind_eq_bind, Option.bind_eq_some_iff, Option.some.injEq] at h
    obtain ⟨a, h1, rfl⟩ := h
    exact ⟨x, rfl, h1⟩
  | scope x =>
    simp only [cCode, Option.bind_eq_bind, Option.bind_eq_some_iff, Option.some.injEq] at h
    obtain ⟨a, h1, rfl⟩ := h
    exact ⟨x, rfl, h1⟩
  | rangeFunc f ps x y =>
    simp only [cCode, Option.bind_eq_bind, Option.bind_eq_some_iff, Option.some.injEq] at h
    obtain ⟨d, h0, a, h1, b, h2, rfl⟩ := h
    exact ⟨f, ps, x, y, rfl, h0, rfl, h1, h2⟩

theorem AC.loop {nm : Nm} {X : Type} {c : ACode} {Q : AQ} (I : X → Fr → Store → Prop) (μ : X → Nat)
    (round : ∀ x fr st, I x fr st → AC P nm n c (thenQ (fun fr st => ∃ x', I x' fr st ∧ μ x' < μ x) Q) fr st) {x : X} {fr : Fr} {st : Store} (h : I x fr st) : AC P nm n (.loop c) Q fr st := by
  intro code hc
  obtain ⟨b, rfl, hb⟩ := inv_of hc
  exact AW.loop I μ (fun x fr st hI => round x fr st hI b hb) h

theorem AC_of_awp (hm : P.follows .mixedOrders = true) {nm : Nm} : ∀ {c : ACode} {Q : AQ} {fr : Fr} {st : Store}, awp P nm n c Q fr st → AC P nm n c Q fr st := by
  intro c
  induction c with
  | skip =>
    intro Q fr st h code hc
    obtain rfl := inv_of hc
    exact fun D G w a hC => wp_skip ⟨.normal, fr, st, G, h, .normal, hC, Ext.refl _ _ _⟩
  | region ops =>
    intro Q fr st h code hc
    obtain ⟨id, ops', rfl, hl⟩ := inv_of hc
    exact AW.region hl h
  | draw s =>
    intro Q fr st h code hc
    obtain ⟨id, ops, l, rfl, hl, hs⟩ := inv_of hc
    exact AW.draw hm hl hs h
  | seq a b iha ihb =>
    intro Q fr st h code hc
    obtain ⟨x, y, rfl, hx, hy⟩ := inv_of hc
    refine AW.seq ?_
    refine (iha h x hx).mono fun e fr st hq => ?_
    cases e <;> first | exact ihb hq y hy | exact hq
  | cond d a b iha ihb =>
    intro Q fr st h code hc
    obtain ⟨c, x, y, rfl, hd, hx, hy⟩ := inv_of hc
    simp only [awp] at h
    split at h
    · rename_i t ht
      refine AW.cond hd ht ?_
      cases t
      · simp only [Bool.false_eq_true, if_false] at h ⊢; exact ihb h y hy
      · simp only [if_true] at h ⊢; exact iha h x hx
    · exact h.elim
  | block id b ih =>
    intro Q fr st h code hc
    obtain ⟨x, rfl, hx⟩ := inv_of hc
    exact AW.block (ih h x hx)
  | loop b ih => exact fun h => h
  | rangeFunc f ps a b iha ihb => exact fun h => h
  | exit id =>
    intro Q fr st h code hc
    obtain rfl := inv_of hc
    exact fun D G w a hC => wp_exit ⟨.exit _, fr, st, G, h, .exit _, hC, Ext.refl _ _ _⟩
  | scope b ih => exact fun h => h
  | label l =>
    intro Q fr st h code hc
    obtain rfl := inv_of hc
    exact fun D G w a hC => wp_label ⟨.normal, fr, st, G, h, .normal, hC, Ext.refl _ _ _⟩
  | goto l =>
    intro Q fr st h code hc
    obtain rfl := inv_of hc
    exact fun D G w a hC => wp_goto ⟨.goto _, fr, st, G, h, .goto _, hC, Ext.refl _ _ _⟩
  | ret =>
    intro Q fr st h code hc
    obtain rfl := inv_of hc
    exact fun D G w a hC => wp_ret ⟨.ret, fr, st, G, h, .ret, hC, Ext.refl _ _ _⟩

/-- How a result is read at a function's end. -/
def readRes (tmps : Array Value) : ResultVar → Sem Value
  | .tmp t => pure (tmps.getD t undef)
  | .cell a t => do loadVar t (← asAddr (tmps.getD a undef))

theorem results_eq (fn : Func) (tmps : Array Value) : results fn tmps = (do
    let vs ← fn.results.mapM (readRes tmps)
    pure (if h : vs.size = 1 then vs[0] else .tuple vs)) := by
  unfold results
  congr 1

def cRes (P : Program) : ResultVar → Option ARes
  | .tmp t => some (.t t)
  | .cell a t => (szO P t).map (.cell a)

theorem res1_sound {G : Ghost} {w : World} {fr : Fr} {st : Store} {a : Act} (hC : Conc n G w ⟨fr, st⟩ a) {r : ResultVar} {b : ARes} (hb : cRes P r = some b) {u : AVal} (hu : res1 st fr b = some u) :
    ∃ x, (readRes a.tmps r).run P w = .ok x w ∧ Rep G st u x := by
  cases r with
  | tmp t =>
    simp only [cRes, Option.some.injEq] at hb
    subst hb
    simp only [res1, Option.some.injEq] at hu
    subst hu
    exact ⟨a.tmps.getD t undef, rfl, hC.fr t⟩
  | cell a' t =>
    simp only [cRes, Option.map_eq_some_iff] at hb
    obtain ⟨sz, hsz, rfl⟩ := hb
    simp only [res1] at hu
    have hp := hC.fr a'
    simp only at hp
    simp only [readRes]
    generalize fr.get a' = X at *
    generalize a.tmps.getD a' undef = V at *
    cases X <;> simp only [load, reduceCtorEq] at hu
    · rename_i k ver off
      rw [Option.bind_eq_some_iff] at hu
      obtain ⟨l, hl, hpp⟩ := hu
      obtain ⟨hver, vs, hr, hc⟩ := cellsAt_sound hC.st hl
      cases hp with
      | ref k v off ad h hx =>
        have := hx hver.symm
        subst this
        obtain ⟨V, hV, hrv⟩ := loadVar_of (P := P) (w := w) (b := G.blk k) (o := 0) hsz hpp hr (fun j x hx => by rw [Nat.zero_add]; exact hc j x hx)
        rw [Nat.zero_add] at hV
        exact ⟨V, by rw [Sem.run_bind]; exact hV, hrv⟩
    · cases hp with
      | iptr cs b off vs hi hh =>
        obtain ⟨V, hV, hrv⟩ := loadVar_of (P := P) (w := w) (b := b) (o := off) hsz hu hh (fun j x hx => hC.st.imm _ _ _ (hi j x hx))
        rw [Nat.add_zero] at hV
        exact ⟨V, by rw [Sem.run_bind]; exact hV, hrv⟩

theorem resL_sound {G : Ghost} {w : World} {fr : Fr} {st : Store} {a : Act} (hC : Conc n G w ⟨fr, st⟩ a) : ∀ {rs : List ResultVar} {res : List ARes} {us : List AVal}, rs.mapM (cRes P) = some res → res.mapM (res1 st fr) = some us →
    ∃ xs, (rs.mapM (readRes a.tmps)).run P w = .ok xs w ∧ RepL G st us xs
  | [], res, us, h1, h2 => by
    simp at h1; subst h1
    simp at h2; subst h2
    exact ⟨[], by simp, .nil⟩
  | r :: rs, res, us, h1, h2 => by
    rw [List.mapM_cons] at h1
    cases hb : cRes P r with
    | none => simp [hb] at h1
    | some b =>
      cases hbs : rs.mapM (cRes P) with
      | none => simp [hb, hbs] at h1
      | some bs =>
        simp [hb, hbs] at h1
        subst h1
        rw [List.mapM_cons] at h2
        cases hu : res1 st fr b with
        | none => simp [hu] at h2
        | some u =>
          cases hus : bs.mapM (res1 st fr) with
          | none => simp [hu, hus] at h2
          | some us' =>
            simp [hu, hus] at h2
            subst h2
            obtain ⟨x, hx, hr⟩ := res1_sound hC hb hu
            obtain ⟨xs, hxs, hrs⟩ := resL_sound hC hbs hus
            exact ⟨x :: xs, by simp [List.mapM_cons, hx, hxs], .cons _ _ _ _ hr hrs⟩

theorem res_sound {G : Ghost} {w : World} {fr : Fr} {st : Store} {a : Act} (hC : Conc n G w ⟨fr, st⟩ a) {fn : Func} {res : List ARes} (hres : fn.results.toList.mapM (cRes P) = some res) {v : AVal} (h : resA st fr res = some v) :
    ∃ x, (results fn a.tmps).run P w = .ok x w ∧ Rep G st v x := by
  have hm : ∀ {us : List AVal}, res.mapM (res1 st fr) = some us → ∃ xs, (fn.results.mapM (readRes a.tmps)).run P w = .ok xs.toArray w ∧ RepL G st us xs := by
    intro us hus
    obtain ⟨xs, h1, h2⟩ := resL_sound hC hres hus
    refine ⟨xs, ?_, h2⟩
    rw [Array.mapM_eq_mapM_toList, Sem.run_map, h1]
    rfl
  rw [results_eq]
  unfold resA at h
  split at h
  · rename_i r
    obtain ⟨xs, h1, h2⟩ := hm (us := [v]) (by simp [h])
    cases h2 with
    | cons _ x _ vs hr ht =>
      cases ht
      exact ⟨x, by rw [Sem.run_bind, h1]; simp, hr⟩
  · rename_i hne
    simp only [Option.map_eq_some_iff] at h
    obtain ⟨us, hus, rfl⟩ := h
    obtain ⟨xs, h1, h2⟩ := hm hus
    refine ⟨.tuple xs.toArray, ?_, .tup _ _ (by simpa using h2)⟩
    rw [Sem.run_bind, h1]
    have hlen : xs.length ≠ 1 := by
      have e1 := h2.length
      have e2 := (mapM_get hus).1
      intro e
      have : res.length = 1 := by omega
      obtain ⟨r, hr⟩ := List.length_eq_one_iff.1 this
      exact hne r hr
    simp [hlen]

theorem argFr_get (args : List AVal) (t : Nat) : Fr.get (argFr args) t = (args[t]?).getD .junk := by
  have key : ∀ (l : List AVal) (k : Nat), Fr.get ((l.zipIdx k).map fun p => (p.2, p.1)) t = if k ≤ t then (l[t - k]?).getD .junk else .junk := by
    intro l
    induction l with
    | nil => intro k; simp [Fr.get]
    | cons a l ih =>
      intro k
      simp only [List.zipIdx_cons, List.map_cons, Fr.get]
      by_cases h : k = t
      · subst h; simp
      · rw [if_neg h, ih (k + 1)]
        by_cases h2 : k ≤ t
        · rw [if_pos (by omega), if_pos h2]
          have : t - k = (t - (k + 1)) + 1 := by omega
          rw [this]; simp
        · rw [if_neg (by omega), if_neg h2]
  have := key args 0
  simpa [argFr] using this

/-- A function, by its body. -/
theorem ACalls_of {f : FuncId} {fn : Func} {af : AFunc} (hf : P.funcs[f]? = some fn) (hc : cFunc P fn = some af) (nm : Nm) {args : List AVal} (hn : args.length ≤ af.n) {st : Store} {R : AEnd → Store → Prop}
    (h : AC P nm af.n af.code (retQ af.res R) (argFr args) st) : ACalls P f args st R := by
  intro G w vs hS hr
  have hcf : ∃ c, fn.body = some c ∧ cCode P fn.ntmps c = some af.code ∧ fn.results.toList.mapM (cRes P) = some af.res ∧ af.n = fn.ntmps := by
    unfold cFunc at hc
    simp only [Option.bind_eq_bind, Option.bind_eq_some_iff, Option.some.injEq] at hc
    obtain ⟨c, h1, code, h2, res, h3, rfl⟩ := hc
    refine ⟨c, h1, h2, ?_, rfl⟩
    rw [← h3]
    congr 1
    funext r
    cases r with
    | tmp t => rfl
    | cell a t => simp only [cRes]; cases szO P t <;> rfl
  obtain ⟨c, hb, hcode, hres, hnt⟩ := hcf
  refine calls_of_wp hf hb ?_
  have hsize : (vs.toArray ++ Array.replicate (fn.ntmps - vs.toArray.size) undef).size = af.n := by
    have := hr.length
    simp; omega
  have hC : ConcD af.n [] G w ⟨argFr args, st⟩ { tmps := vs.toArray ++ Array.replicate (fn.ntmps - vs.toArray.size) undef, defers := [] } := by
    refine ⟨⟨hS, hsize, fun t => ?_⟩, rfl⟩
    simp only [argFr_get]
    have hl := hr.length
    by_cases h : t < args.length
    · obtain ⟨v, hv, hrv⟩ := hr.get (List.getElem?_eq_getElem h)
      rw [List.getElem?_eq_getElem h, Option.getD_some]
      have : (vs.toArray ++ Array.replicate (fn.ntmps - vs.toArray.size) undef).getD t undef = v := by
        simp only [Array.getD_eq_getD_getElem?]
        rw [Array.getElem?_append_left (by simp; omega)]
        simp [hv]
      rw [this]
      exact hrv
    · rw [List.getElem?_eq_none (by omega), Option.getD_none]
      exact .junk _
  refine wp_mono (h c (by rw [hnt]; exact hcode) [] G w _ hC) ?_
  rintro e a' w' ⟨ae, fr', st', G', h1, h2, h3, h4⟩
  cases h2 with
  | normal =>
    obtain ⟨v, hv, hR⟩ := h1
    obtain ⟨x, hx, hrx⟩ := res_sound h3.toConc hres hv
    exact ⟨h3.defers, x, hx, .ret v, st', G', hR, .ret v x hrx, h3.st, h4⟩
  | ret =>
    obtain ⟨v, hv, hR⟩ := h1
    obtain ⟨x, hx, hrx⟩ := res_sound h3.toConc hres hv
    exact ⟨h3.defers, x, hx, .ret v, st', G', hR, .ret v x hrx, h3.st, h4⟩
  | panic v x hrx => exact ⟨h3.defers, .panic v, st', G', h1, .panic v x hrx, h3.st, h4⟩
  | exit id => exact h1.elim
  | goto l => exact h1.elim

end
end Go.Am
