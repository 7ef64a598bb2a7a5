/- The abstract machine is sound: an operation as it is read off the program. -/
import Derived.Test.YteinffefhcpcmaaGreatDoorAmEqs
namespace Go.Am

def OpOK (P : Program) (n : Nat) (o : Oper) (op : AOp) (args : List Opd) : Prop :=
  match op with
  | .p p => PureOK P n o p args
  | .l l => LoadOK P n o l args
  | .i i => ImpOK P n o i args

section
variable {P : Program} {n : Nat}

theorem pure_none {o : Oper} {p : POp} {args : List Opd} (h : ∀ vs, pev p vs = none) : PureOK P n o p args := by
  intro G w fr st a v hC hv
  rw [h] at hv
  cases hv

theorem load_none {o : Oper} {l : LOp} {args : List Opd} (h : ∀ st vs, lev st l vs = none) : LoadOK P n o l args := by
  intro G w fr st a v hC hv
  rw [h] at hv
  cases hv

theorem imp_none {o : Oper} {i : IOp} {args : List Opd} (h : ∀ key mu vs st K KP, ¬ iwp P key mu i vs st K KP) : ImpOK P n o i args := by
  intro G w fr st a key mu K KP hC hi
  exact absurd hi (h _ _ _ _ _ _)

set_option maxHeartbeats 1000000 in
theorem cOp_sound {o : Oper} {op : AOp} {args : List Opd} (h : cOp P o = some (op, args)) : OpOK P n o op args := by
  unfold cOp at h
  split at h
  · -- move
    rename_i x ho
    simp only [Option.bind_eq_bind, Option.bind_eq_some_iff, Option.some.injEq, Prod.mk.injEq] at h
    obtain ⟨d, hd, rfl, rfl⟩ := h
    exact mv_ok (.inl ho) hd
  · rename_i x ho
    simp only [Option.bind_eq_bind, Option.bind_eq_some_iff, Option.some.injEq, Prod.mk.injEq] at h
    obtain ⟨d, hd, rfl, rfl⟩ := h
    exact mv_ok (.inr ho) hd
  · rename_i c x y ho
    simp only [Option.bind_eq_bind, Option.bind_eq_some_iff, Option.some.injEq, Prod.mk.injEq] at h
    obtain ⟨d, hd, d1, hd1, d2, hd2, rfl, rfl⟩ := h
    exact pick_ok ho hd hd1 hd2
  · -- alloc
    rename_i t ho
    simp only [Option.bind_eq_bind, Option.bind_eq_some_iff, Option.some.injEq, Prod.mk.injEq] at h
    obtain ⟨z, hz, rfl, rfl⟩ := h
    exact alloc_ok ho hz
  · rename_i t x ho
    simp only [Option.bind_eq_bind, Option.bind_eq_some_iff, Option.some.injEq, Prod.mk.injEq] at h
    obtain ⟨s, hs, d, hd, rfl, rfl⟩ := h
    exact box_ok ho hd
  · -- build
    rename_i t parts ho
    simp only [Option.bind_eq_bind, Option.bind_eq_some_iff] at h
    obtain ⟨z, hz, h⟩ := h
    split at h
    · rename_i fs hu
      simp only [Option.bind_eq_some_iff, Option.some.injEq, Prod.mk.injEq] at h
      obtain ⟨fl, hfl, pl, hpl, xs, hxs, rfl, rfl⟩ := h
      refine build_struct_ok ho hu hz hfl hpl ?_
      rw [← hxs]
      congr 1
      funext p
      cases hp : fs[p.1]? <;> simp [hp]
    · rename_i N e hu
      simp only [Option.bind_eq_some_iff] at h
      obtain ⟨s, hs, xs, hxs, h⟩ := h
      split at h
      · simp only [Option.some.injEq, Prod.mk.injEq] at h
        obtain ⟨rfl, rfl⟩ := h
        exact build_array_ok ho hu hz hs hxs
      · cases h
    · cases h
  · -- buildSlice
    rename_i t N parts ho
    split at h
    · rename_i e hu
      simp only [Option.bind_eq_bind, Option.bind_eq_some_iff] at h
      obtain ⟨s, hs, z, hz, xs, hxs, h⟩ := h
      split at h
      · rename_i hc
        simp only [Bool.and_eq_true, decide_eq_true_eq, List.all_eq_true] at hc
        simp only [Option.some.injEq, Prod.mk.injEq] at h
        obtain ⟨rfl, rfl⟩ := h
        exact bsl_ok ho hu hz hs hc.1.2 hc.1.1.2 (fun p hp => hc.1.1.1 p hp) hxs
      · cases h
    · cases h
  · -- load
    rename_i t x ho
    simp only [Option.bind_eq_bind, Option.bind_eq_some_iff, Option.some.injEq, Prod.mk.injEq] at h
    obtain ⟨s, hs, d, hd, rfl, rfl⟩ := h
    exact load_ok ho hs hd
  · rename_i t p x ho
    simp only [Option.bind_eq_bind, Option.bind_eq_some_iff, Option.some.injEq, Prod.mk.injEq] at h
    obtain ⟨s, hs, d, hd, d2, hd2, rfl, rfl⟩ := h
    exact store_ok ho hs hd hd2
  · rename_i x ho
    simp only [Option.bind_eq_bind, Option.bind_eq_some_iff, Option.some.injEq, Prod.mk.injEq] at h
    obtain ⟨d, hd, rfl, rfl⟩ := h
    exact nilchk_ok ho hd
  · -- binOp
    rename_i bop t x y u ho
    split at h
    · split at h
      · simp only [Option.bind_eq_bind, Option.bind_eq_some_iff, Option.some.injEq, Prod.mk.injEq] at h
        obtain ⟨cs, hcs, d, hd, d2, hd2, rfl, rfl⟩ := h
        exact eqs_ok (neg := false) ho hcs hd hd2
      · simp only [Option.bind_eq_bind, Option.bind_eq_some_iff, Option.some.injEq, Prod.mk.injEq] at h
        obtain ⟨cs, hcs, d, hd, d2, hd2, rfl, rfl⟩ := h
        exact eqs_ok (neg := true) ho hcs hd hd2
      · cases h
    · split at h
      · simp only [Option.bind_eq_bind, Option.bind_eq_some_iff, Option.some.injEq, Prod.mk.injEq] at h
        obtain ⟨d, hd, d2, hd2, rfl, rfl⟩ := h
        exact bin_ok ho hd hd2
      · simp only [Option.bind_eq_bind, Option.bind_eq_some_iff, Option.some.injEq, Prod.mk.injEq] at h
        obtain ⟨d, hd, d2, hd2, rfl, rfl⟩ := h
        exact bin_ok ho hd hd2
      · simp only [Option.bind_eq_bind, Option.bind_eq_some_iff, Option.some.injEq, Prod.mk.injEq] at h
        obtain ⟨d, hd, d2, hd2, rfl, rfl⟩ := h
        exact bin_ok ho hd hd2
      · rename_i hu
        split at h
        · simp only [Option.bind_eq_bind, Option.bind_eq_some_iff, Option.some.injEq, Prod.mk.injEq] at h
          obtain ⟨d, hd, d2, hd2, rfl, rfl⟩ := h
          exact beq_ok (neg := false) ho hu hd hd2
        · simp only [Option.bind_eq_bind, Option.bind_eq_some_iff, Option.some.injEq, Prod.mk.injEq] at h
          obtain ⟨d, hd, d2, hd2, rfl, rfl⟩ := h
          exact beq_ok (neg := true) ho hu hd hd2
        · cases h
      · rename_i ds _ _ _ _ hu
        simp only [Option.bind_eq_bind, Option.bind_eq_some_iff] at h
        obtain ⟨⟨kd, z⟩, hn, h⟩ := h
        split at h
        · split at h
          · rename_i hz
            simp only [Option.bind_eq_bind, Option.bind_eq_some_iff, Option.some.injEq, Prod.mk.injEq] at h
            obtain ⟨d, hd, rfl, rfl⟩ := h
            exact isnil_ok (neg := false) ho hu hn hz hd
          · cases h
        · split at h
          · rename_i hz
            simp only [Option.bind_eq_bind, Option.bind_eq_some_iff, Option.some.injEq, Prod.mk.injEq] at h
            obtain ⟨d, hd, rfl, rfl⟩ := h
            exact isnil_ok (neg := true) ho hu hn hz hd
          · cases h
        · cases h
      · cases h
  · rename_i uop t x ho
    simp only [Option.bind_eq_bind, Option.bind_eq_some_iff, Option.some.injEq, Prod.mk.injEq] at h
    obtain ⟨d, hd, rfl, rfl⟩ := h
    exact un_ok ho hd
  · -- convert
    rename_i s d x ho
    split at h
    · rename_i k k' hs hd'
      simp only [Option.bind_eq_bind, Option.bind_eq_some_iff, Option.some.injEq, Prod.mk.injEq] at h
      obtain ⟨dx, hx, rfl, rfl⟩ := h
      exact convI_ok ho hs hd' hx
    · rename_i k hs hd'
      simp only [Option.bind_eq_bind, Option.bind_eq_some_iff, Option.some.injEq, Prod.mk.injEq] at h
      obtain ⟨dx, hx, rfl, rfl⟩ := h
      exact convF_ok ho hs hd' hx
    · rename_i hs hd'
      simp only [Option.bind_eq_bind, Option.bind_eq_some_iff, Option.some.injEq, Prod.mk.injEq] at h
      obtain ⟨dx, hx, rfl, rfl⟩ := h
      exact convId_ok ho hs hd' hx
    · rename_i e hs hd'
      split at h
      · rename_i he
        simp only [Option.bind_eq_bind, Option.bind_eq_some_iff, Option.some.injEq, Prod.mk.injEq] at h
        obtain ⟨dx, hx, rfl, rfl⟩ := h
        have hu8 : P.underlying e = some (.int .u8) := by
          unfold isInt at he
          split at he
          · rename_i k hk; cases he; exact hk
          · cases he
        exact convS_ok ho hs hu8 hd' hx
      · cases h
    · rename_i el hs hd'
      split at h
      · rename_i he
        simp only [Option.bind_eq_bind, Option.bind_eq_some_iff, Option.some.injEq, Prod.mk.injEq] at h
        obtain ⟨dx, hx, rfl, rfl⟩ := h
        have hu8 : P.underlying el = some (.int .u8) := by
          unfold isInt at he
          split at he
          · rename_i k hk; cases he; exact hk
          · cases he
        exact convB_ok ho hs hd' hu8 hx
      · cases h
    · cases h
  · -- makeInterface
    rename_i t x ho
    split at h
    · cases h
    · cases h
    · rename_i h1 h2
      simp only [Option.bind_eq_bind, Option.bind_eq_some_iff, Option.some.injEq, Prod.mk.injEq] at h
      obtain ⟨dx, hx, rfl, rfl⟩ := h
      cases hu : P.underlying t with
      | none => exact absurd hu h2
      | some ds => exact mki_ok ho hu (fun m e => h1 m (by rw [hu, e])) hx
  · rename_i fn a b ho
    simp only [Option.bind_eq_bind, Option.bind_eq_some_iff, Option.some.injEq, Prod.mk.injEq] at h
    obtain ⟨xs, hx, ys, hy, rfl, rfl⟩ := h
    exact mkf_ok ho hx hy
  · rename_i t r ho
    split at h
    · rename_i kt e hu
      cases h
      exact mkmap_ok ho hu
    · cases h
  · -- slice
    rename_i t x lo hi mx ho
    simp only [Option.bind_eq_bind, Option.bind_eq_some_iff] at h
    obtain ⟨xs, hx, ys, hy, zs, hz, h⟩ := h
    split at h
    · cases h
    · rename_i hmh
      have hm : mx.isSome = true → hi.isSome = true := by
        intro h1
        cases hi with
        | some _ => rfl
        | none => simp [h1] at hmh
      split at h
      · rename_i hu
        split at h
        · rename_i hmx
          simp only [Option.bind_eq_bind, Option.bind_eq_some_iff, Option.some.injEq, Prod.mk.injEq] at h
          obtain ⟨dx, hd, rfl, rfl⟩ := h
          have : mx = none := by cases mx <;> simp_all
          subst this
          exact slS_ok ho hu hd hx hy
        · cases h
      · rename_i e hu
        simp only [Option.bind_eq_bind, Option.bind_eq_some_iff, Option.some.injEq, Prod.mk.injEq] at h
        obtain ⟨s, hs, dx, hd, rfl, rfl⟩ := h
        exact slL_list_ok ho hu hs hm hd hx hy hz
      · rename_i N e hu
        simp only [Option.bind_eq_bind, Option.bind_eq_some_iff, Option.some.injEq, Prod.mk.injEq] at h
        obtain ⟨s, hs, dx, hd, rfl, rfl⟩ := h
        exact slA_ok ho hu hs hm hd hx hy hz
      · cases h
  · -- fieldAddr
    rename_i t x i ho
    simp only [Option.bind_eq_bind, Option.bind_eq_some_iff] at h
    obtain ⟨f, hf, h⟩ := h
    split at h
    · cases h
    · rename_i h0
      split at h
      · rename_i hz
        simp only [Option.bind_eq_bind, Option.bind_eq_some_iff, Option.some.injEq, Prod.mk.injEq] at h
        obtain ⟨dx, hd, rfl, rfl⟩ := h
        exact faddr_ok ho hf h0 hz hd
      · cases h
  · rename_i t x i ho
    simp only [Option.bind_eq_bind, Option.bind_eq_some_iff, Option.some.injEq, Prod.mk.injEq] at h
    obtain ⟨f, hf, s, hs, dx, hd, rfl, rfl⟩ := h
    exact field_ok ho hf hs hd
  · -- indexAddr
    rename_i t x i ho
    split at h
    · rename_i e hu
      simp only [Option.bind_eq_bind, Option.bind_eq_some_iff, Option.some.injEq, Prod.mk.injEq] at h
      obtain ⟨s, hs, dx, hd, di, hdi, rfl, rfl⟩ := h
      exact iaddr_ok ho hu hs hd hdi
    · rename_i N e hu
      split at h
      · rename_i hn
        simp only [Option.bind_eq_bind, Option.bind_eq_some_iff, Option.some.injEq, Prod.mk.injEq] at h
        obtain ⟨s, hs, dx, hd, di, hdi, rfl, rfl⟩ := h
        exact iaddrA_ok ho hu hn hs hd hdi
      · cases h
    · cases h
  · -- index
    rename_i t x i ho
    split at h
    · rename_i hu
      simp only [Option.bind_eq_bind, Option.bind_eq_some_iff, Option.some.injEq, Prod.mk.injEq] at h
      obtain ⟨dx, hd, di, hdi, rfl, rfl⟩ := h
      exact idxS_ok ho hu hd hdi
    · rename_i N e hu
      simp only [Option.bind_eq_bind, Option.bind_eq_some_iff, Option.some.injEq, Prod.mk.injEq] at h
      obtain ⟨s, hs, sz, hsz, dx, hd, di, hdi, rfl, rfl⟩ := h
      exact idxA_ok ho hu hs hsz hd hdi
    · cases h
  · -- lookup
    rename_i t m k okk ho
    split at h
    · rename_i kt e hu
      simp only [Option.bind_eq_bind, Option.bind_eq_some_iff, Option.some.injEq, Prod.mk.injEq] at h
      obtain ⟨ks, hks, z, hz, ag, hag, dm, hdm, dk, hdk, rfl, rfl⟩ := h
      exact lookup_ok ho hu hks hz hag hdm hdk
    · cases h
  · -- mapUpdate
    rename_i t m k v ho
    split at h
    · rename_i kt e hu
      simp only [Option.bind_eq_bind, Option.bind_eq_some_iff, Option.some.injEq, Prod.mk.injEq] at h
      obtain ⟨ks, hks, dm, hdm, dk, hdk, dv, hdv, rfl, rfl⟩ := h
      exact mapset_ok ho hu hks hdm hdk hdv
    · cases h
  · rename_i t m ho
    split at h
    · rename_i kt el hu
      simp only [Option.bind_eq_bind, Option.bind_eq_some_iff, Option.some.injEq, Prod.mk.injEq] at h
      obtain ⟨dm, hdm, rfl, rfl⟩ := h
      exact range_ok ho hu hdm
    · cases h
  · rename_i x ho
    simp only [Option.bind_eq_bind, Option.bind_eq_some_iff, Option.some.injEq, Prod.mk.injEq] at h
    obtain ⟨dm, hdm, rfl, rfl⟩ := h
    exact next_ok ho hdm
  · rename_i x ho
    simp only [Option.bind_eq_bind, Option.bind_eq_some_iff, Option.some.injEq, Prod.mk.injEq] at h
    obtain ⟨dm, hdm, rfl, rfl⟩ := h
    exact entry_ok ho hdm
  · rename_i x i ho
    simp only [Option.bind_eq_bind, Option.bind_eq_some_iff, Option.some.injEq, Prod.mk.injEq] at h
    obtain ⟨dx, hd, rfl, rfl⟩ := h
    exact ext_ok ho hd
  · rename_i x ho
    simp only [Option.bind_eq_bind, Option.bind_eq_some_iff, Option.some.injEq, Prod.mk.injEq] at h
    obtain ⟨dx, hd, rfl, rfl⟩ := h
    exact panic_ok ho hd
  · -- typeAssert
    rename_i x u t ho
    split at h
    · cases h
    · cases h
    · rename_i h1 h2
      simp only [Option.bind_eq_bind, Option.bind_eq_some_iff, Option.some.injEq, Prod.mk.injEq] at h
      obtain ⟨z, hz, dx, hx, rfl, rfl⟩ := h
      cases hu : P.underlying t with
      | none => exact absurd hu h2
      | some ds => exact assertOk_ok ho hu (fun m e => h1 m (by rw [hu, e])) hx
  · -- makeSlice
    rename_i t l c ho
    split at h
    · rename_i e hu
      simp only [Option.bind_eq_bind, Option.bind_eq_some_iff, Option.some.injEq, Prod.mk.injEq] at h
      obtain ⟨s, hs, b, hb, z, hz, dl, hdl, dc, hdc, rfl, rfl⟩ := h
      exact makeSlice_ok ho hu hs hb hz hdl hdc
    · cases h
  · -- call
    rename_i c ho
    split at h
    · rename_i f hcal
      split at h
      · rename_i hc
        simp only [Bool.and_eq_true, decide_eq_true_eq] at hc
        simp only [Option.bind_eq_bind, Option.bind_eq_some_iff, Option.some.injEq, Prod.mk.injEq] at h
        obtain ⟨xs, hxs, rfl, rfl⟩ := h
        obtain ⟨⟨hn, hb⟩, hnm⟩ := hc
        cases hf : P.funcs[f]? with
        | none => simp [hf] at hb
        | some fn =>
          simp only [hf, Option.map_some, Option.getD_some] at hb hnm
          exact call_ok ho hcal hn hf hb (by simpa using hnm) hxs
      · split at h
        · rename_i hn
          simp only [Option.bind_eq_bind, Option.bind_eq_some_iff, Option.some.injEq, Prod.mk.injEq] at h
          obtain ⟨p, hp, xs, hxs, rfl, rfl⟩ := h
          exact prim_ok ho hcal hn hp hxs
        · cases h
    · rename_i f _ hcal
      split at h
      · rename_i hn
        simp only [Option.bind_eq_bind, Option.bind_eq_some_iff, Option.some.injEq, Prod.mk.injEq] at h
        obtain ⟨xs, hxs, d, hd, rfl, rfl⟩ := h
        exact callv_ok ho hcal hn hd hxs
      · cases h
    · cases h
    · rename_i b hcal
      split at h
      · rename_i hn
        simp only [Option.bind_eq_bind, Option.bind_eq_some_iff] at h
        obtain ⟨xs, hxs, h⟩ := h
        have one_arg : ∀ t, c.argTypes.toList = [t] → ∃ x d, c.args.toList = [x] ∧ xs = [d] ∧ opd P t x = some d := by
          intro t ht
          have hl : c.args.toList.length = 1 := by
            have : c.argTypes.toList.length = 1 := by rw [ht]; rfl
            simp at this ⊢; omega
          obtain ⟨x, hx⟩ := List.length_eq_one_iff.1 hl
          rw [hx, ht] at hxs
          simp only [List.zip_cons_cons, List.zip_nil_left, List.mapM_cons, List.mapM_nil] at hxs
          cases hd : opd P t x with
          | none => simp [hd] at hxs
          | some d => simp [hd] at hxs; exact ⟨x, d, hx, hxs.symm, hd⟩
        have two_arg : ∀ t u, c.argTypes.toList = [t, u] → ∃ x y d d2, c.args.toList = [x, y] ∧ xs = [d, d2] ∧ opd P t x = some d ∧ opd P u y = some d2 := by
          intro t u ht
          have hl : c.args.toList.length = 2 := by
            have : c.argTypes.toList.length = 2 := by rw [ht]; rfl
            simp at this ⊢; omega
          obtain ⟨x, y, hx⟩ : ∃ x y, c.args.toList = [x, y] := by
            generalize c.args.toList = l at hl
            match l, hl with
            | [x, y], _ => exact ⟨x, y, rfl⟩
          rw [hx, ht] at hxs
          simp only [List.zip_cons_cons, List.zip_nil_left, List.mapM_cons, List.mapM_nil] at hxs
          cases hd : opd P t x with
          | none => simp [hd] at hxs
          | some d =>
            cases hd2 : opd P u y with
            | none => simp [hd, hd2] at hxs
            | some d2 => simp [hd, hd2] at hxs; exact ⟨x, y, d, d2, hx, hxs.symm, hd, hd2⟩
        split at h
        · rename_i t hts
          obtain ⟨x, d, hx, rfl, hd⟩ := one_arg t hts
          split at h
          · rename_i hu
            cases h
            exact lenS_ok ho hcal hx hts hu hd
          · rename_i e hu
            cases h
            exact lenL_ok ho hcal hx hts hu hd
          · rename_i N e hu
            cases h
            exact lenC_ok ho hcal hx hts hu hd
          · rename_i k e hu
            cases h
            exact lenM_ok ho hcal hx hts hu hd
          · cases h
        · split at h
          · cases h
            exact imp_none (fun _ _ _ _ _ _ hh => by unfold iwp at hh; exact hh)
          · cases h
        · rename_i t u hts
          obtain ⟨x, y, d, d2, hx, rfl, hd, hd2⟩ := two_arg t u hts
          have key : ∀ e, P.underlying t = some (.slice e) → notInt P u → (if appOk P e = true then (eszOf P e).bind fun a => (bytesE P e).bind fun b => some (AOp.i (.append a b), [d, d2]) else none) = some (op, args) → OpOK P n o op args := by
            intro e hu hni h
            split at h
            · rename_i hap
              simp only [Option.bind_eq_some_iff, Option.some.injEq, Prod.mk.injEq] at h
              obtain ⟨s, hs, b, hb, rfl, rfl⟩ := h
              simp only [appOk, Bool.and_eq_true, hs, hb, Option.map_some, Option.getD_some, decide_eq_true_eq] at hap
              obtain ⟨⟨hz, hb0⟩, hs0⟩ := hap
              obtain ⟨z, hz⟩ := Option.isSome_iff_exists.1 hz
              exact append_ok ho hcal hx hts hu hni hs hb hb0 hs0 hz hd hd2
            · cases h
          split at h
          · rename_i e e' hu hu'
            exact key e hu (.inl ⟨e', hu'⟩) h
          · rename_i e hu hu'
            exact key e hu (.inr hu') h
          · rename_i e kd hu hu'
            split at h
            · rename_i hap
              simp only [Option.bind_eq_some_iff, Option.some.injEq, Prod.mk.injEq] at h
              obtain ⟨s, hs, b, hb, z, hz, rfl, rfl⟩ := h
              simp only [appOk, Bool.and_eq_true, hs, hb, Option.map_some, Option.getD_some, decide_eq_true_eq] at hap
              obtain ⟨⟨_, hb0⟩, hs0⟩ := hap
              exact appendZ_ok ho hcal hx hts hu hu' hs hb hb0 hs0 hz hd hd2
            · cases h
          · cases h
        · split at h
          · simp only [Option.bind_eq_some_iff, Option.some.injEq, Prod.mk.injEq] at h
            obtain ⟨s, hs, rfl, rfl⟩ := h
            exact imp_none (fun _ _ _ _ _ _ hh => by unfold iwp at hh; exact hh)
          · cases h
        · rename_i t hts
          obtain ⟨x, d, hx, rfl, hd⟩ := one_arg t hts
          split at h
          · rename_i k e hu
            cases h
            exact clearM_ok ho hcal hx hts hu hd
          · rename_i e hu
            simp only [Option.bind_eq_some_iff, Option.some.injEq, Prod.mk.injEq] at h
            obtain ⟨z, hz, rfl, rfl⟩ := h
            exact clearL_ok ho hcal hx hts hu hz hd
          · cases h
        · rename_i t u hts
          obtain ⟨x, y, d, d2, hx, rfl, hd, hd2⟩ := two_arg t u hts
          split at h
          · rename_i kt e hu
            simp only [Option.bind_eq_some_iff, Option.some.injEq, Prod.mk.injEq] at h
            obtain ⟨ks, hks, rfl, rfl⟩ := h
            exact delete_ok ho hcal hx hts hu hks hd hd2
          · cases h
        · rename_i t u hts
          split at h
          · cases h
            obtain ⟨x, y, d, d2, hx, rfl, hd, hd2⟩ := two_arg t u hts
            exact mn_ok ho hcal hx hts hd hd2
          · cases h
        · rename_i t u hts
          split at h
          · cases h
            obtain ⟨x, y, d, d2, hx, rfl, hd, hd2⟩ := two_arg t u hts
            exact mx_ok ho hcal hx hts hd hd2
          · cases h
        · cases h
      · cases h
  · cases h

/-- Puts leave what the frame is. -/
theorem Conc.put {G : Ghost} {w : World} {fr : Fr} {st : Store} {a : Act} {G' : Ghost} {w' : World} {st' : Store} (hC : Conc n G w ⟨fr, st⟩ a) (hl : Later G st G' st') (hS : ConcS G' w' st') {dst : Option Nat} (hd : ∀ d, dst = some d → d < n) {v : AVal} {x : Value} (hr : Rep G' st' v x) :
    Conc n G' w' ⟨fr.put dst v, st'⟩ (a.put dst x) := by
  cases dst with
  | none => exact ⟨hS, hC.size, fun t => (hC.fr t).later hl⟩
  | some d =>
    refine ⟨hS, by simp [Act.put, hC.size], fun t => ?_⟩
    simp only [Fr.put, Fr.get, Act.put]
    by_cases h : d = t
    · subst h
      rw [if_pos rfl]
      have : d < a.tmps.size := by rw [hC.size]; exact hd d rfl
      simp [this]
      exact hr
    · rw [if_neg h]
      have := (hC.fr t).later hl
      simpa [Array.getElem?_setIfInBounds_ne h] using this


theorem ConcD.put {D : List Deferred} {G : Ghost} {w : World} {fr : Fr} {st : Store} {a : Act} {G' : Ghost} {w' : World} {st' : Store} (hC : ConcD n D G w ⟨fr, st⟩ a) (hl : Later G st G' st') (hS : ConcS G' w' st') {dst : Option Nat} (hd : ∀ d, dst = some d → d < n) {v : AVal} {x : Value} (hr : Rep G' st' v x) :
    ConcD n D G' w' ⟨fr.put dst v, st'⟩ (a.put dst x) :=
  ⟨hC.toConc.put hl hS hd hr, by cases dst <;> exact hC.defers⟩

end
end Go.Am
