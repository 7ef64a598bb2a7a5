/- strings.Join as a call of the abstract machine. -/
import Derived.Test.YteinffefhcpcmaaGreatDoorVtShelfP
import Derived.Test.YteinffefhcpcmaaGreatDoorAmE
set_option linter.unusedVariables false
set_option linter.unusedSimpArgs false
set_option linter.unusedSectionVars false
namespace Go.Am.Tab
open Go.Am Go.Proofs Go.RowKit

theorem ConcS.below {G : Ghost} {w w' : World} {st : Store} (hC : ConcS G w st) (hb : Below w.heap.size w w') : ConcS G w' st where
  one := hC.one
  imm := fun b o v h => by
    have h1 := hC.imm b o v h
    have h2 := hb.block b (hC.imm_lt h)
    unfold World.cell? at h1 ⊢
    rw [h2]
    exact h1
  obj := fun k o h => by
    have hs : ∀ b, (Owns G st k b) → b < w.heap.size := fun b h => hC.size k b h
    have h1 := hC.obj k o h
    cases o with
    | tail n =>
      intro hlt
      obtain ⟨vs, elem, fz, e1, e2, e3⟩ := h1 hlt
      refine ⟨vs, elem, fz, ?_, e2, e3⟩
      rw [hb.block _ (hC.size k (G.blk k) (by unfold Owns; rw [h]; exact ⟨hlt, rfl⟩))]
      exact e1
    | cells l => exact ObjOK.later (Later.refl _ _) rfl (hb.block _ (hC.size k (G.blk k) (by unfold Owns; rw [h]))) h1
    | map es c => exact ObjOK.later (Later.refl _ _) rfl (hb.block _ (hC.size k (G.blk k) (by unfold Owns; rw [h]))) h1
    | iter m mv s l x => exact ObjOK.later (Later.refl _ _) rfl (hb.block _ (hC.size k (G.blk k) (by unfold Owns; rw [h]))) h1
  inj := hC.inj
  own := hC.own
  size := fun k b h => Nat.lt_of_lt_of_le (hC.size k b h) hb.size

theorem Ext.below {G : Ghost} {w w' : World} {st : Store} (hC : ConcS G w st) (hb : Below w.heap.size w w') : Ext G w st G w' st where
  later := Later.refl _ _
  size := hb.size
  unch := fun b h _ => hb.block b h
  own := fun k b _ h => ⟨k, h⟩
  imm := fun b o v h _ => .inl h
  tape := hb.tape
  os := hb.os
  output := hb.output

theorem strsOf_rep {G : Ghost} {st : Store} : ∀ {l : List AVal} {ss : List (List UInt8)} {vs : List Value}, strsOf l = some ss → RepL G st (flat l) vs →
    ∃ xs : List ByteArray, xs.map (·.data.toList) = ss ∧ vs = xs.map Value.string
  | [], ss, vs, h, hr => by
    simp only [strsOf, Option.some.injEq] at h
    subst h
    cases hr
    exact ⟨[], rfl, rfl⟩
  | a :: l, ss, vs, h, hr => by
    cases a with
    | str s =>
      simp only [strsOf, Option.map_eq_some_iff] at h
      obtain ⟨ss', h1, rfl⟩ := h
      simp only [flat, List.flatMap_cons, AVal.cells, List.cons_append, List.nil_append] at hr
      cases hr with
      | cons _ x _ vs hx ht =>
        obtain ⟨xs, e1, e2⟩ := strsOf_rep h1 ht
        cases hx with
        | str _ b hb _ => exact ⟨b :: xs, by simp [e1, hb], by simp [e2]⟩
    | _ => simp [strsOf] at h

theorem flat_strs : ∀ {l : List AVal} {ss : List (List UInt8)}, strsOf l = some ss → ss.length = l.length
  | [], ss, h => by simp only [strsOf, Option.some.injEq] at h; subst h; rfl
  | a :: l, ss, h => by
    cases a with
    | str s =>
      simp only [strsOf, Option.map_eq_some_iff] at h
      obtain ⟨ss', h1, rfl⟩ := h
      simp [flat_strs h1]
    | _ => simp [strsOf] at h

theorem callable191 : Callable Tryz.prog 191 := ⟨Tryz.f191, Tryz.func191, rfl, by decide⟩

theorem xjoin_sound {args : List AVal} {h : Hp} {b : Nat} {outs : List (AVal × Hp × Nat)} (hx : xjoin args h b = some outs) {st : Store} (ha : Agr h b st) :
    ACalls Tryz.prog 191 args st (endK (fun v st' => ∃ o ∈ outs, v = o.1 ∧ Step h b st o.2.1 o.2.2 st') (fun _ _ => False)) ∧ Callable Tryz.prog 191 := by
  refine ⟨?_, callable191⟩
  unfold xjoin at hx
  split at hx
  · rename_i tag l sep
    split at hx
    · rename_i ss hss
      cases hc : (Nat.ble (joinS sep ss).length 140737488355328 && Nat.ble 1 ss.length && Nat.ble ss.length 140737488355328) with
      | false => rw [hc] at hx; cases hx
      | true =>
        rw [hc] at hx
        cases hx
        simp only [Bool.and_eq_true, Nat.ble_eq] at hc
        obtain ⟨⟨c1, c2⟩, c3⟩ := hc
        intro G w vs hS hr
        cases hr with
        | cons _ x _ vs1 hx1 hr1 =>
          cases hr1 with
          | cons _ y _ vs2 hx2 hr2 =>
            cases hr2
            cases hx2 with
            | str _ sb hsb hslen =>
              cases hx1 with
              | list _ _ _ a cap us hcap hcb he hrl hi hn ht =>
                obtain ⟨xs, e1, e2⟩ := strsOf_rep hss hrl
                have hlen := flat_strs hss
                have hxl : xs.length = ss.length := by rw [← e1]; simp
                have ha' : ∃ ad, a = some ad := by
                  cases a with
                  | none => have := hn rfl; omega
                  | some ad => exact ⟨ad, rfl⟩
                obtain ⟨ad, rfl⟩ := ha'
                obtain ⟨hsp, hic⟩ := hi ad rfl
                obtain ⟨bk, o, spot⟩ := ad
                simp only at hsp hic
                subst hsp
                have hcells : ∀ (j : Nat) x, xs[j]? = some x → w.cell? ⟨bk, o + j, none⟩ = some (.string x) := fun j x hj => by
                  refine hS.imm _ _ _ (hic j _ ?_)
                  rw [e2, List.getElem?_map, hj]; rfl
                have hbk : bk < w.heap.size := by
                  have : ∃ x, xs[0]? = some x := ⟨xs[0]'(by omega), List.getElem?_eq_getElem (by omega)⟩
                  obtain ⟨x, hx⟩ := this
                  exact hS.imm_lt (hic 0 _ (by rw [e2, List.getElem?_map, hx]; rfl))
                have hcall := Tryz.strings_Join bk o cap xs sb w hcells hbk (by omega) (by omega) (by rw [e1, hsb]; exact c1)
                have hl2 : l.length = xs.length := by omega
                rw [hl2]
                refine hcall.mono fun e w' ⟨he, hw⟩ => ?_
                refine ⟨.ret (.str (joinS sep ss)), st, G, ⟨_, List.mem_singleton.2 rfl, rfl, .refl ha⟩, ?_, ConcS.below hS hw, Ext.below hS hw⟩
                rw [he]
                refine .ret _ _ (.str _ _ ?_ ?_)
                · simp only [e1, hsb]; rfl
                · omega
    · cases hx
  · cases hx

end Go.Am.Tab
