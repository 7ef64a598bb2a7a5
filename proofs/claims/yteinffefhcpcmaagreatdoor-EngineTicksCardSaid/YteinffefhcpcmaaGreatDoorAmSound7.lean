/- The abstract machine is sound: append, the operation. -/
import Derived.Test.YteinffefhcpcmaaGreatDoorAmSound6
namespace Go.Am

section
variable {P : Program} {n : Nat} {G : Ghost} {w : World} {fr : Fr} {st : Store} {a : Act}

theorem rep_list' {tag : Tag} {e : Nat} {l : List AVal} {ad : Option Addr} {cap N : Nat} {vs : List Value} (hN : N = l.length) (hc : l.length ≤ cap) (hb : cap < 2 ^ 63) (he : ∀ y ∈ l, y.cells.length = e) (h : RepL G st (flat l) vs)
    (hi : ∀ x, ad = some x → x.spot = none ∧ immCells G x.block x.off vs) (hn : ad = none → cap = 0) (ht : TagOK G st tag e l.length cap ad) : Rep G st (.list tag e l) (.slice ad N cap) := by
  subst hN
  exact .list tag e l ad cap vs hc hb he h hi hn ht

theorem bytesA_cells (s : List UInt8) : ∀ y ∈ bytesA s, y.cells.length = 1 := by
  intro y hy
  simp only [bytesA, List.mem_map] at hy
  obtain ⟨b, _, rfl⟩ := hy
  rfl

theorem bytesA_flat (s : List UInt8) : flat (bytesA s) = bytesA s := by
  induction s with
  | nil => rfl
  | cons b s ih => simp only [bytesA, flat, List.map_cons, List.flatMap_cons, AVal.cells] at *; rw [ih]; rfl

theorem bytesA_rep (s : List UInt8) : RepL G st (bytesA s) (s.map fun b => Value.int .u8 b.toNat) := by
  induction s with
  | nil => exact .nil
  | cons b s ih => exact .cons _ _ _ _ (.int _ _) ih

theorem slice_src (hC : ConcS G w st) {e : Nat} {l : List AVal} {ad : Option Addr} {cap : Nat} {vs : List Value} (hr : RepL G st (flat l) vs) (he : ∀ y ∈ l, y.cells.length = e)
    (hi : ∀ x, ad = some x → x.spot = none ∧ immCells G x.block x.off vs) (hn : ad = none → cap = 0) (hc : l.length ≤ cap) : SrcOK P w e (.slice ad l.length cap) l.length vs := by
  have hlen : vs.length = l.length * e := by rw [hr.length, flat_length he]
  refine ⟨fun w' => by simp [Builtin.lenOf], fun w' hw => ?_, hlen⟩
  cases ad with
  | none =>
    have h0 : l.length = 0 := by have := hn rfl; omega
    have : vs = [] := List.length_eq_zero_iff.1 (by rw [hlen, h0]; simp)
    subst this
    simp [Builtin.firstCells]
  | some x =>
    obtain ⟨b, off, sp⟩ := x
    obtain ⟨h1, h2⟩ := hi _ rfl
    simp only at h1; subst h1
    refine run_firstCells_some w' e l.length _ _ _ vs hlen fun j v hv => ?_
    have := immCells.cell hC h2 j v hv
    simp only [World.cell?, hw] at this ⊢
    exact this

theorem immOne (hC : ConcS G w st) {e : Nat} {l : List AVal} {ad : Option Addr} {cap : Nat} {vs : List Value} (hr : RepL G st (flat l) vs) (he : ∀ y ∈ l, y.cells.length = e)
    (hi : ∀ x, ad = some x → x.spot = none ∧ immCells G x.block x.off vs) (hn : ad = none → cap = 0) (hc : l.length ≤ cap) : ∀ v ∈ vs, one v = true := by
  intro v hv
  cases ad with
  | none =>
    have h0 : l.length = 0 := by have := hn rfl; omega
    have : vs = [] := List.length_eq_zero_iff.1 (by rw [hr.length, flat_length he, h0]; simp)
    subst this
    cases hv
  | some x =>
    obtain ⟨i, h⟩ := List.mem_iff_getElem?.1 hv
    exact hC.one _ _ _ ((hi x rfl).2 i v h)

theorem src_sound (hC : ConcS G w st) {X : AVal} {x : Value} (hx : Rep G st X x) {e : Nat} {m : List AVal} (hE : srcE X = some e) (hA : srcA st X = some m) :
    ∃ news, SrcOK P w e x m.length news ∧ RepL G st (flat m) news ∧ (∀ y ∈ m, y.cells.length = e) ∧ ∀ v ∈ news, one v = true := by
  have key : ∀ {X : AVal}, Rep G st X x → elems st X = some (e, m) → ∃ news, SrcOK P w e x m.length news ∧ RepL G st (flat m) news ∧ (∀ y ∈ m, y.cells.length = e) ∧ ∀ v ∈ news, one v = true := by
    intro X hx h
    obtain ⟨ad, cap, vs, rfl, hr, hel, hn, hbd, hone, hcell⟩ := elems_sound hC hx h
    have hlen : vs.length = m.length * e := by rw [hr.length, flat_length hel]
    refine ⟨vs, ⟨fun w' => by simp [Builtin.lenOf], fun w' hw => ?_, hlen⟩, hr, hel, hone⟩
    cases ad with
    | none =>
      have h0 := hn rfl
      have : vs = [] := List.length_eq_zero_iff.1 (by rw [hlen, h0]; simp)
      subst this
      simp [Builtin.firstCells]
    | some a =>
      refine run_firstCells_some w' e m.length _ _ _ vs hlen fun j v hv => ?_
      have := hcell a rfl j v hv
      simp only [World.cell?, hw] at this ⊢
      exact this
  cases X <;> simp only [srcE, reduceCtorEq, Option.some.injEq] at hE
  · rename_i s
    simp only [srcA, Option.some.injEq] at hA
    subst hE; subst hA
    cases hx with
    | str l s' hs hb =>
      subst hs
      refine ⟨s'.data.toList.map fun b => Value.int .u8 b.toNat, ⟨fun w' => by simp [Builtin.lenOf, bytesA], fun w' _ => ?_, by simp [bytesA]⟩, by rw [bytesA_flat]; exact bytesA_rep _, bytesA_cells _, by simp [one]⟩
      have hlen : (bytesA s'.data.toList).length = s'.size := by simp [bytesA]
      rw [hlen]
      simp only [Builtin.firstCells, Sem.run_pure]
      congr 1
      apply Array.ext'
      simp
  · subst hE
    simp only [srcA, Option.some.injEq] at hA
    subst hA
    exact key hx (by simp [elems])
  · rename_i k0 v0 e0 off0 len0
    subst hE
    simp only [srcA, Option.map_eq_some_iff] at hA
    obtain ⟨⟨e', m'⟩, h1, rfl⟩ := hA
    have : e' = e0 := by
      simp only [elems] at h1
      split at h1
      · split at h1
        · split at h1
          · simp only [Option.some.injEq, Prod.mk.injEq] at h1; exact h1.1.symm
          · cases h1
        · cases h1
      · cases h1
    subst this
    exact key hx h1

/-- Whatever is appended. -/
theorem append_core {o : Oper} {t u el : TypeId} {e by_ : Nat} (ht : P.underlying t = some (.slice el)) {inf : TypeInfo} (hinf : P.info? el = some inf) (hsz : inf.size = e) (hbys : inf.bytes = by_) {Z : Value} (hZ : inf.zero = some Z) (hZsz : Z.cells.size = inf.size)
    (hC : Conc n G w ⟨fr, st⟩ a) {key : Key} {K : AVal → Store → Prop} {tag : Tag} {l m : List AVal} {VX VY : Value} {news : List Value} {Kw : Act → World → Prop} {Q : Exit → Act → World → Prop}
    (hK : ∀ v x st' G' w', K v st' → Rep G' st' v x → ConcS G' w' st' → Ext G w st G' w' st' → Kw (a.put o.dst x) w') (he0 : 0 < e) (hb0 : 0 < by_)
    (hex : ∀ {V w'}, (Builtin.append_ #[t, u] o.type #[VX, VY]).run P w = .ok V w' → (execOp a.eval o).run P w = .ok (.value V) w') (h1 : Rep G st (.list tag e l) VX) (hApp : App st tag l.length) (hbd : (l.length + m.length) * by_ ≤ 2 ^ 47)
    (hkk : K (.list (.tk key ((st key).ver + 1)) e (l ++ m)) (stTail st tag key (l ++ m).length)) (hs : Src P w u inf VY m.length news) (hnr : RepL G st (flat m) news) (hme : ∀ y ∈ m, y.cells.length = e) (hnone : ∀ v ∈ news, one v = true) : o.wp P a w Kw Q := by
  have hver' : (stTail st tag key (l ++ m).length key) = ⟨(st key).ver + 1, some (.tail (l ++ m).length)⟩ := by simp [stTail, kill_ver]
  cases h1 with
  | list _ _ _ ad cap vs hc hbc hel hr hi' hn htag =>
  have hold := slice_src (P := P) hC.st hr hel hi' hn hc
  have hvl : vs.length = l.length * e := hold.length
  have hnl : news.length = m.length * e := by rw [hs.length, hsz]
  have hlm : (l ++ m).length = l.length + m.length := by simp
  have hflat : flat (l ++ m) = flat l ++ flat m := flat_append l m
  have hle : ∀ y ∈ l ++ m, y.cells.length = e := fun y hy => by
    rcases List.mem_append.1 hy with h | h
    · exact hel y h
    · exact hme y h
  have hreg : cap = l.length ∨ ∃ k0 v0 adr, tag = .tk k0 v0 ∧ Owns G st k0 adr.block ∧ ad = some adr ∧ adr.off + l.length * e = G.lo k0 ∧ adr.off + cap * e ≤ G.hi k0 ∧ G.lo k0 < G.hi k0 ∧ adr.block = G.blk k0 ∧
      (st k0).obj = some (.tail l.length) := by
    cases tag with
    | none => exact hApp.elim
    | full => exact .inl htag
    | tk k0 v0 =>
      obtain ⟨a1, a2⟩ := hApp
      rcases htag.2 a1.symm a2 with h | ⟨adr, h1, h2, h3, h4, h5⟩
      · exact .inl h
      · exact .inr ⟨k0, v0, adr, rfl, by simp [Owns, a2, h5, h2], h1, h3, h4, h5, h2, a2⟩
  by_cases hroom : l.length + m.length ≤ cap
  · by_cases hm0 : m.length = 0
    · -- nothing is appended
      have hml : m = [] := List.length_eq_zero_iff.1 hm0
      subst hml
      have hrun := run_append_empty (P := P) (w := w) (ty := o.type) ht hinf hs ad hc
      rw [List.append_nil] at hkk hver'
      rcases hreg with hcap | ⟨k0, v0, adr, rfl, hown, rfl, r1, r2, r3, r4, r5⟩
      · obtain ⟨d1, d2⟩ := conc_tail hC.st tag key l.length w.heap.size 0 0 G.imm w (fun _ _ _ => rfl) (Nat.le_refl _) (fun h => by omega) (fun _ _ _ h => h) (fun _ _ _ h => .inl h) hC.st.imm
          (.inl (Nat.le_refl _)) (fun o' _ => by cases hh : G.imm w.heap.size o' with
            | none => rfl
            | some v => have := hC.st.imm_lt hh; omega) hC.st.one rfl rfl rfl
        refine wp_value (hex hrun) (hK _ _ _ _ _ hkk ?_ d1 d2)
        have hr2 := hr.later d2.later
        exact .list _ e l ad cap vs hc hbc hel hr2 (fun x hx => ⟨(hi' x hx).1, (hi' x hx).2.later d2.later⟩) hn ⟨by rw [hver']; exact Nat.le_refl _, fun _ _ => .inl hcap⟩
      · have hobj := hC.st.obj k0 _ r5 r3
        obtain ⟨vs0, el0, fz, g1, g2, g3⟩ := hobj
        have hblt : adr.block < w.heap.size := hC.st.size k0 _ hown
        obtain ⟨d1, d2⟩ := conc_tail hC.st (.tk k0 v0) key l.length adr.block (G.lo k0) (G.hi k0) G.imm w (fun _ _ _ => rfl) (Nat.le_refl _) (fun h => ⟨hblt, vs0, el0, fz, by rw [r4]; exact g1, g2, g3⟩) (fun _ _ _ h => h) (fun _ _ _ h => .inl h) hC.st.imm
          (.inr ⟨k0, v0, rfl, hown⟩) (fun o' ho' => by
            rcases hC.st.own k0 _ o' hown with h | ⟨_, _, h⟩
            · exact h
            · omega) hC.st.one rfl rfl rfl
        refine wp_value (hex hrun) (hK _ _ _ _ _ hkk ?_ d1 d2)
        have hr2 := hr.later d2.later
        refine .list _ e l _ cap vs hc hbc hel hr2 (fun x hx => ⟨(hi' x hx).1, (hi' x hx).2.later d2.later⟩) hn ⟨by rw [hver']; exact Nat.le_refl _, fun _ _ => .inr ⟨adr, rfl, ?_, ?_, ?_, ?_⟩⟩
        · simp [Ghost.tail, Ghost.setLoc]
        · simp [Ghost.tail, Ghost.setLoc, r1]
        · simpa [Ghost.tail, Ghost.setLoc] using r2
        · simpa [Ghost.tail, Ghost.setLoc] using r3
    · -- in place
      rcases hreg with hcap | ⟨k0, v0, adr, rfl, hown, rfl, r1, r2, r3, r4, r5⟩
      · omega
      · obtain ⟨vs0, el0, fz, g1, g2, g3⟩ := hC.st.obj k0 _ r5 r3
        have hblt : adr.block < w.heap.size := hC.st.size k0 _ hown
        obtain ⟨b, off, sp⟩ := adr
        obtain ⟨rfl, himm⟩ := hi' _ rfl
        simp only at r1 r2 r4 hown hblt himm
        subst r4
        have hmul : (l.length + m.length) * e ≤ cap * e := Nat.mul_le_mul_right e hroom
        rw [Nat.add_mul] at hmul
        have hrun := run_append_inplace (P := P) (w := w) (ty := o.type) (off := off) ht hinf hs g1 g2 hroom (by rw [hsz, hnl]; omega) (fun v hv => by rw [← one_eq]; exact hnone v hv)
        rw [hsz, r1] at hrun
        have hfr := setRow_heap w (G.blk k0) vs0 (vs0.toList.take (G.lo k0) ++ news ++ vs0.toList.drop (G.lo k0 + news.length)).toArray el0 fz g1
        generalize hcs : (vs0.toList.take (G.lo k0) ++ news ++ vs0.toList.drop (G.lo k0 + news.length)) = cs at *
        have hcsl : cs.length = vs0.size := by rw [← hcs]; simp; omega
        have hget : ∀ o', cs[o']? = if o' < G.lo k0 then vs0[o']? else if o' < G.lo k0 + news.length then news[o' - G.lo k0]? else vs0[o']? := by
          intro o'
          rw [← hcs]
          have hlt : (vs0.toList.take (G.lo k0)).length = G.lo k0 := by simp; omega
          by_cases p1 : o' < G.lo k0
          · rw [if_pos p1, List.append_assoc, List.getElem?_append_left (by omega), List.getElem?_take, if_pos p1]; simp
          · rw [if_neg p1]
            by_cases p2 : o' < G.lo k0 + news.length
            · rw [if_pos p2, List.append_assoc, List.getElem?_append_right (by omega), hlt, List.getElem?_append_left (by omega)]
            · rw [if_neg p2, List.getElem?_append_right (by simp; omega), List.getElem?_drop]
              simp only [List.length_append, hlt]
              rw [show G.lo k0 + news.length + (o' - (G.lo k0 + news.length)) = o' by omega]
              simp
        obtain ⟨imm', himm'⟩ : ∃ imm' : Nat → Nat → Option Value, imm' = fun b' o' => if b' = G.blk k0 ∧ G.lo k0 ≤ o' ∧ o' < G.lo k0 + news.length then news[o' - G.lo k0]? else G.imm b' o' := ⟨_, rfl⟩
        have hold0 : ∀ o', G.lo k0 ≤ o' → G.imm (G.blk k0) o' = none := fun o' ho' => by
          rcases hC.st.own k0 _ o' hown with h | ⟨_, _, h⟩
          · exact h
          · omega
        obtain ⟨d1, d2⟩ := conc_tail hC.st (.tk k0 v0) key (l ++ m).length (G.blk k0) (G.lo k0 + news.length) (G.hi k0) imm' (w.setRow (G.blk k0) cs.toArray) (fun b' _ hb' => heap_setRow_other _ _ _ hb') (by simp)
          (fun _ => ⟨by simpa using hblt, cs.toArray, el0, fz, hfr, by simpa [hcsl] using g2, by simp [hcsl, g3]⟩)
          (fun b' o' v h => by
            rw [himm']
            simp only
            rw [if_neg]
            · exact h
            · rintro ⟨rfl, p1, p2⟩
              rw [hold0 o' p1] at h
              cases h)
          (fun b' o' v h => by
            rw [himm'] at h
            simp only at h
            split at h
            · rename_i hh; exact .inr hh.1
            · exact .inl h)
          (fun b' o' v h => by
            rw [himm'] at h
            simp only at h
            split at h
            · rename_i hh
              obtain ⟨rfl, p1, p2⟩ := hh
              simp only [World.cell?, hfr]
              have := hget o'
              rw [if_neg (by omega), if_pos p2, h] at this
              simpa using this
            · rename_i hh
              have hc0 := hC.st.imm b' o' v h
              by_cases hbb : b' = G.blk k0
              · subst hbb
                have hlo : o' < G.lo k0 := by
                  by_cases p : G.lo k0 ≤ o'
                  · rw [hold0 o' p] at h; cases h
                  · omega
                simp only [World.cell?, hfr]
                have := hget o'
                rw [if_pos hlo] at this
                simp only [World.cell?, g1] at hc0
                have hv : vs0[o']? = some v := by simpa using hc0
                rw [hv] at this
                simpa using this
              · simp only [World.cell?] at hc0 ⊢
                rw [heap_setRow_other _ _ _ hbb]
                exact hc0)
          (.inr ⟨k0, v0, rfl, hown⟩)
          (fun o' ho' => by
            rw [himm']
            simp only
            rw [if_neg (by omega)]
            exact hold0 o' (by omega))
          (fun b' o' v h => by
            rw [himm'] at h
            simp only at h
            split at h
            · exact hnone v (List.mem_of_getElem? h)
            · exact hC.st.one b' o' v h) rfl rfl rfl
        refine wp_value (hex hrun) (hK _ _ _ _ _ hkk ?_ d1 d2)
        have hrr : RepL (G.tail imm' key (G.blk k0) (G.lo k0 + news.length) (G.hi k0)) (stTail st (.tk k0 v0) key (l ++ m).length) (flat (l ++ m)) (vs ++ news) := by
          rw [hflat]
          exact (hr.later d2.later).append (hnr.later d2.later)
        rw [← hlm]
        refine .list _ e (l ++ m) _ cap (vs ++ news) (by omega) hbc hle hrr (fun x hx => ?_) hn ⟨by rw [hver']; exact Nat.le_refl _, fun _ _ => ?_⟩
        · cases hx
          refine ⟨rfl, fun j v hv => ?_⟩
          show imm' _ _ = _
          rw [himm']
          simp only
          rw [List.getElem?_append] at hv
          split at hv
          · rename_i hj
            rw [if_neg (by omega)]
            exact himm j v hv
          · rename_i hj
            rw [if_pos ⟨trivial, by omega, by have := (List.getElem?_eq_some_iff.1 hv).1; omega⟩]
            rw [show off + j - G.lo k0 = j - vs.length by omega]
            exact hv
        · by_cases hfull : G.lo k0 + news.length < G.hi k0
          · right
            refine ⟨_, rfl, ?_, ?_, ?_, ?_⟩
            · simp [Ghost.tail, Ghost.setLoc]
            · simp only [Ghost.tail, Ghost.setLoc, if_true, hlm, Nat.add_mul]; omega
            · simpa [Ghost.tail, Ghost.setLoc] using r2
            · simpa [Ghost.tail, Ghost.setLoc] using hfull
          · left
            have : cap * e ≤ (l.length + m.length) * e := by rw [Nat.add_mul]; omega
            have := Nat.le_of_mul_le_mul_right this he0
            omega
  · -- a new block
    have hneed : l.length + m.length ≤ 2 ^ 47 := by
      have : (l.length + m.length) * 1 ≤ (l.length + m.length) * by_ := Nat.mul_le_mul_left _ hb0
      omega
    have hrun := run_append_new (P := P) (w := w) (ty := o.type) ht hinf hZ hs (by rw [hsz]; exact hold) (by omega) (by omega) (by rw [hbys]; exact hbd)
    have hge := grownCap_ge w (l.length + m.length) cap el
    have hlt := grownCap_le_maxLen w (l.length + m.length) cap el (by simp only [maxLen]; omega)
    simp only [maxLen] at hlt
    generalize grownCap w (l.length + m.length) cap el = cap' at *
    generalize hblk : (vs.toArray ++ news.toArray ++ Builtin.zeroCells Z.cells (cap' - (l.length + m.length))) = cells at *
    have hzs : (Builtin.zeroCells Z.cells (cap' - (l.length + m.length))).size = (cap' - (l.length + m.length)) * e := by rw [size_zeroCells, hZsz, hsz]
    have hcs : cells.size = cap' * e := by
      rw [← hblk]
      simp only [Array.size_append, List.size_toArray, hzs, hvl, hnl]
      rw [← Nat.add_mul, ← Nat.add_mul]
      congr 1
      omega
    have hget : ∀ (o' : Nat) (v : Value), (vs ++ news)[o']? = some v → cells[o']? = some v := by
      intro o' v hv
      have hlt' := (List.getElem?_eq_some_iff.1 hv).1
      rw [← hblk, Array.getElem?_append_left (by simp at hlt' ⊢; omega)]
      rw [← hv]
      simp
    obtain ⟨imm', himm'⟩ : ∃ imm' : Nat → Nat → Option Value, imm' = fun b' o' => if b' = w.heap.size then (vs ++ news)[o']? else G.imm b' o' := ⟨_, rfl⟩
    have hfresh : ∀ o', G.imm w.heap.size o' = none := fun o' => by
      cases hh : G.imm w.heap.size o' with
      | none => rfl
      | some v => have := hC.st.imm_lt hh; omega
    have hvone := immOne hC.st hr hel hi' hn hc
    obtain ⟨d1, d2⟩ := conc_tail hC.st tag key (l ++ m).length w.heap.size ((l.length + m.length) * e) (cap' * e) imm' (w.drew.alloc (.cells cells el))
      (fun b' hb' _ => by have := heap_alloc_lt w.drew (.cells cells el) (b := b') hb'; exact this) (by rw [heap_alloc_size]; exact Nat.le_succ _)
      (fun _ => ⟨by rw [heap_alloc_size]; exact Nat.lt_succ_self _, cells, el, (0, 0), heap_alloc_at w.drew _, thawed_zero _, hcs.symm⟩)
      (fun b' o' v h => by
        rw [himm']
        simp only
        rw [if_neg]
        · exact h
        · rintro rfl; rw [hfresh] at h; cases h)
      (fun b' o' v h => by
        rw [himm'] at h
        simp only at h
        split at h
        · rename_i hh; exact .inr hh
        · exact .inl h)
      (fun b' o' v h => by
        rw [himm'] at h
        simp only at h
        split at h
        · rename_i hh
          subst hh
          have h1 : (w.drew.alloc (.cells cells el)).heap[w.heap.size]? = some (.cells cells el) := heap_alloc_at w.drew _
          simp only [World.cell?, h1]
          simpa using hget o' v h
        · have hc0 := hC.st.imm b' o' v h
          have h1 : (w.drew.alloc (.cells cells el)).heap[b']? = w.heap[b']? := heap_alloc_lt w.drew (.cells cells el) (b := b') (hC.st.imm_lt h)
          simp only [World.cell?, h1] at hc0 ⊢
          exact hc0)
      (.inl (Nat.le_refl _))
      (fun o' ho' => by
        rw [himm']
        simp only [if_true]
        apply List.getElem?_eq_none
        rw [List.length_append, hvl, hnl, ← Nat.add_mul]
        exact ho')
      (fun b' o' v h => by
        rw [himm'] at h
        simp only at h
        split at h
        · rcases List.mem_append.1 (List.mem_of_getElem? h) with h | h
          · exact hvone v h
          · exact hnone v h
        · exact hC.st.one b' o' v h) rfl rfl rfl
    refine wp_value (hex hrun) (hK _ _ _ _ _ hkk ?_ d1 d2)
    have hrr : RepL (G.tail imm' key w.heap.size ((l.length + m.length) * e) (cap' * e)) (stTail st tag key (l ++ m).length) (flat (l ++ m)) (vs ++ news) := by
      rw [hflat]
      exact (hr.later d2.later).append (hnr.later d2.later)
    refine rep_list' (vs := vs ++ news) hlm.symm (by omega) (by omega) hle hrr (fun x hx => ?_) (fun h => by cases h) ⟨by rw [hver']; exact Nat.le_refl _, fun _ _ => ?_⟩
    · cases hx
      refine ⟨rfl, fun j v hv => ?_⟩
      show imm' _ _ = _
      rw [himm']
      simpa using hv
    · by_cases hfull : (l.length + m.length) * e < cap' * e
      · right
        refine ⟨_, rfl, ?_, ?_, ?_, ?_⟩
        · simp [Ghost.tail, Ghost.setLoc]
        · simp [Ghost.tail, Ghost.setLoc]
        · simp [Ghost.tail, Ghost.setLoc]
        · simpa [Ghost.tail, Ghost.setLoc] using hfull
      · left
        have : cap' * e ≤ (l.length + m.length) * e := by omega
        have := Nat.le_of_mul_le_mul_right this he0
        omega


theorem append_ok {o : Oper} {c : Call} {t u el : TypeId} {x y : Operand} {e by_ : Nat} (ho : o.op = .call c) (hb : c.callee = .builtin .append) (hargs : c.args.toList = [x, y]) (hts : c.argTypes.toList = [t, u])
    (ht : P.underlying t = some (.slice el)) (hu : notInt P u) (he : eszOf P el = some e) (hby : bytesE P el = some by_) (hb0 : 0 < by_) (he0 : 0 < e) {z : Zero} (hz : zeroA P el = some z) {dx dy : Opd} (hx : opd P t x = some dx) (hy : opd P u y = some dy) :
    ImpOK P n o (.append e by_) [dx, dy] := by
  intro G w fr st a key mu K KP hC hi Kw Q hK hP
  have h1 := opd_sound hC hx
  have h2 := opd_sound hC hy
  rw [two_args hb hargs hts] at ho
  obtain ⟨inf, hinf, hsz⟩ := eszOf_info he
  obtain ⟨inf', Z, hinf', hZ, hZsz, hZr⟩ := zeroA_sound (G := G) (st := st) hz
  rw [hinf] at hinf'
  cases hinf'
  have hbys : inf.bytes = by_ := by simpa [bytesE, hinf] using hby
  simp only [List.map_cons, List.map_nil] at hi
  generalize fr.ev dx = X at *
  generalize fr.ev dy = Y at *
  generalize hVX : a.eval x = VX at *
  generalize hVY : a.eval y = VY at *
  have hex : ∀ {V w'}, (Builtin.append_ #[t, u] o.type #[VX, VY]).run P w = .ok V w' → (execOp a.eval o).run P w = .ok (.value V) w' := by
    intro V w' h
    simp [execOp, ho, resolve, invoke, builtin, hVX, hVY, h]
  cases X <;> simp only [iwp] at hi
  rename_i tag e' l
  cases mu with
  | true => simp at hi
  | false =>
    simp only [Bool.false_eq_true, if_false] at hi
    obtain ⟨rfl, hApp, hE, m, hA, hbd, hk⟩ := hi
    have hkk : K (.list (.tk key ((st key).ver + 1)) e (l ++ m)) (stTail st tag key (l ++ m).length) := by
      have e1 : ((st.kill tag) key).ver = (st key).ver := kill_ver _ _ _
      rw [e1] at hk
      unfold stTail
      rw [e1]
      exact hk
    clear hk
    obtain ⟨news, hs, hnr, hme, hnone⟩ := src_sound (P := P) hC.st h2 hE hA
    exact append_core ht hinf hsz hbys hZ hZsz hC hK he0 hb0 hex h1 hApp hbd hkk (.plain hu (by rw [hsz]; exact hs)) hnr hme hnone

theorem appendZ_ok {o : Oper} {c : Call} {t u el : TypeId} {x y : Operand} {e by_ : Nat} {ag : Bool} {kd : IntKind} (ho : o.op = .call c) (hb : c.callee = .builtin .append) (hargs : c.args.toList = [x, y]) (hts : c.argTypes.toList = [t, u])
    (ht : P.underlying t = some (.slice el)) (hu : P.underlying u = some (.int kd)) (he : eszOf P el = some e) (hby : bytesE P el = some by_) (hb0 : 0 < by_) (he0 : 0 < e) {z : Zero} (hz : zeroA P el = some z) {dx dy : Opd} (hx : opd P t x = some dx) (hy : opd P u y = some dy) :
    ImpOK P n o (.appendZ e by_ ag z) [dx, dy] := by
  intro G w fr st a key mu K KP hC hi Kw Q hK hP
  have h1 := opd_sound hC hx
  have h2 := opd_sound hC hy
  rw [two_args hb hargs hts] at ho
  obtain ⟨inf, hinf, hsz⟩ := eszOf_info he
  obtain ⟨inf', Z, hinf', hZ, hZsz, hZr⟩ := zeroA_sound (G := G) (st := st) hz
  rw [hinf] at hinf'
  cases hinf'
  have hbys : inf.bytes = by_ := by simpa [bytesE, hinf] using hby
  simp only [List.map_cons, List.map_nil] at hi
  generalize fr.ev dx = X at *
  generalize fr.ev dy = Y at *
  generalize hVX : a.eval x = VX at *
  generalize hVY : a.eval y = VY at *
  have hex : ∀ {V w'}, (Builtin.append_ #[t, u] o.type #[VX, VY]).run P w = .ok V w' → (execOp a.eval o).run P w = .ok (.value V) w' := by
    intro V w' h
    simp [execOp, ho, resolve, invoke, builtin, hVX, hVY, h]
  cases X <;> simp only [iwp] at hi
  rename_i tag e' l
  cases Y <;> simp only [iwp] at hi
  rename_i k N
  obtain ⟨rfl, rfl, hApp, hN0, hze, hzc, hag, hbd, hk⟩ := hi
  have hVYe := rep_int h2
  subst hVYe
  have hZe : Z.cells.size = e := by rw [hZsz, hsz]
  have hrc := range_cells hZr N.toNat e hZe he0
  have hallc : ((List.replicate N.toNat z.cells).flatten).all isCell = true := by
    rw [List.all_eq_true] at hzc ⊢
    intro y hy
    obtain ⟨l', h1, h2⟩ := List.mem_flatten.1 hy
    rw [List.eq_of_mem_replicate h1] at h2
    exact hzc y h2
  have hfl : ((List.replicate N.toNat z.cells).flatten).length = N.toNat * e := by simp [hze]
  obtain ⟨c1, c2, c3⟩ := chunks_flat (e := e) (ag := ag) (fun h => by rcases hag with h' | h'; (rw [h] at h'; cases h'); exact h') hfl (fun _ y hy => isCell_cells (List.all_eq_true.1 hallc y hy))
  have hNb : N.toNat * by_ ≤ 2 ^ 47 := Nat.le_trans (Nat.mul_le_mul_right _ (by omega)) hbd
  have hN63 : N.toNat < 2 ^ 63 := by
    have : N.toNat * 1 ≤ N.toNat * by_ := Nat.mul_le_mul_left _ hb0
    omega
  refine append_core (key := key) (m := chunks e ag N.toNat (List.replicate N.toNat z.cells).flatten) ht hinf hsz hbys hZ hZsz hC hK he0 hb0 hex h1 hApp (by rw [c2]; exact hbd) ?_
    (.zeros kd hu (by rw [c2]; congr 1; omega) (by rw [c2]; exact hN63) (by rw [c2, hbys]; exact hNb) Z hZ rfl (by rw [c2]; simp [Builtin.zeroCells, hZsz])) (by rw [c1, c2]; simpa [Builtin.zeroCells, hZe] using hrc) c3 ?_
  · have e1 : ((st.kill tag) key).ver = (st key).ver := kill_ver _ _ _
    rw [e1] at hk
    unfold stTail
    rw [e1, List.length_append, c2]
    exact hk
  · rw [c2]
    have : (Builtin.zeroCells Z.cells N.toNat).toList = ((Array.range (N.toNat * e)).map (Z.cells[· % Z.cells.size]!)).toList := by simp [Builtin.zeroCells, hZe]
    rw [this]
    exact hrc.ones hallc

end
end Go.Am
