/- From a world's argument to the abstract machine: a slice of numbers that came in. -/
import Derived.Test.YteinffefhcpcmaaGreatDoorVtTicksA
import Derived.Test.YteinffefhcpcmaaGreatDoorTie
import Derived.ProofKit
import Derived.LaidMore
import Derived.OpenShut
import Derived.Stop.Joined
set_option linter.unusedVariables false
set_option linter.unusedSimpArgs false
set_option linter.unusedSectionVars false
namespace Go.Am.Tab
open Go.Am Go.Proofs Go.RowKit

def st0 : Store := fun k => if k.1 = -1 then ⟨1, none⟩ else slot0

theorem st0_obj (k : Key) : (st0 k).obj = none := by unfold st0; split <;> rfl

noncomputable def ghostOf (bk o : Nat) (zs : List Int) : Ghost where
  imm := fun b i => if b = bk ∧ o ≤ i then (zs[i - o]?).map (Value.int .i64) else none
  blk := fun _ => 0
  lo := fun _ => 0
  hi := fun _ => 0

theorem concS_of {w : World} {bk o : Nat} {zs : List Int} (h : ∀ (i : Nat) n, zs[i]? = some n → w.cell? ⟨bk, o + i, none⟩ = some (.int .i64 n)) : ConcS (ghostOf bk o zs) w st0 where
  one := fun b i v e => by
    simp only [ghostOf] at e
    split at e
    · rw [Option.map_eq_some_iff] at e
      obtain ⟨n, _, rfl⟩ := e
      rfl
    · cases e
  imm := fun b i v e => by
    simp only [ghostOf] at e
    split at e
    · rename_i hb
      rw [Option.map_eq_some_iff] at e
      obtain ⟨n, hn, rfl⟩ := e
      obtain ⟨rfl, hle⟩ := hb
      have := h _ _ hn
      rwa [show o + (i - o) = i by omega] at this
    · cases e
  obj := fun k o h => by simp [st0_obj] at h
  inj := fun k k' b h => by simp [Owns, st0_obj] at h
  own := fun k b o h => by simp [Owns, st0_obj] at h
  size := fun k b h => by simp [Owns, st0_obj] at h

theorem ints_rep {G : Ghost} {st : Store} : ∀ (zs : List Int), RepL G st (flat (ints zs)) (zs.map (Value.int .i64))
  | [] => .nil
  | n :: zs => by
    simp only [ints, List.map_cons, flat, List.flatMap_cons, AVal.cells, List.cons_append, List.nil_append]
    exact .cons _ _ _ _ (.int _ _) (ints_rep zs)

/-- A call whose arguments are nothing or a slice of numbers: below the heap's end the world is as it was. -/
theorem calls_ints {f : FuncId} {a : Option Addr} {len cap : Nat} {zs : List Int} {w : World} (hl : zs.length = len) (hlc : len ≤ cap) (hcap : cap < 9223372036854775808)
    (hn : a = none → cap = 0) (hc : ∀ ad, a = some ad → ∀ i, i < len → w.cell? (ad.add i) = some (.int .i64 (zs.getD i 0)))
    (h : ∀ X, IntsArg X zs → ACalls Tryz.prog f [X] st0 tru) :
    Calls Tryz.prog f #[.slice a len cap] w fun e w' => e = .returned (.bool true) ∧ Below w.heap.size w w' := by
  have fin : ∀ (X : AVal) (G : Ghost), IntsArg X zs → ConcS G w st0 → Rep G st0 X (.slice a len cap) → Calls Tryz.prog f #[.slice a len cap] w fun e w' => e = .returned (.bool true) ∧ Below w.heap.size w w' := by
    intro X G hX hC hr
    refine ((h X hX) G w [.slice a len cap] hC (.cons _ _ _ _ hr .nil)).mono fun e w' ⟨ae, st', G', h1, h2, h3, h4⟩ => ?_
    cases h2 with
    | panic v x hx => exact h1.elim
    | ret v x hx =>
      have : v = .bool true := h1
      subst this
      cases hx
      refine ⟨rfl, ⟨h4.os, h4.tape, h4.output, h4.size, fun k hk => h4.unch k hk fun k' ho => ?_⟩⟩
      simp [Owns, st0_obj] at ho
  by_cases hlen : len = 0
  · -- nothing in it
    have hz : zs = [] := List.eq_nil_of_length_eq_zero (by omega)
    subst hz
    subst hlen
    refine fin (.msl (-1, 0) 0 1 0 0) (ghostOf 0 0 []) ⟨by simp [pev], fun i d e => by simp at e⟩ (concS_of (fun i n e => by simp at e)) ?_
    exact .msl _ _ _ _ _ _ _ hlc (by omega) hn (Nat.zero_le _) (fun hv => by simp [st0] at hv)
  · cases a with
    | none => have := hn rfl; omega
    | some ad =>
      have hc' := hc ad rfl
      obtain ⟨bk, o, spot⟩ := ad
      have hsp : spot = none := by
        have := hc' 0 (by omega)
        cases spot with
        | none => rfl
        | some sp =>
          exfalso
          simp only [World.cell?, Addr.add] at this
          split at this <;> simp at this
      subst hsp
      have hcell : ∀ (i : Nat) n, zs[i]? = some n → w.cell? ⟨bk, o + i, none⟩ = some (.int .i64 n) := fun i n e => by
        have hi : i < len := by have := (List.getElem?_eq_some_iff.1 e).1; omega
        have := hc' i hi
        simp only [Addr.add, List.getD, e, Option.getD_some] at this
        split at this
        · rename_i h0
          subst h0
          exact this
        · exact this
      refine fin (.list .none 1 (ints zs)) (ghostOf bk o zs) ⟨by simp [pev, ints], fun i d e => ⟨[], ?_⟩⟩ (concS_of hcell) ?_
      · have hi := (List.getElem?_eq_some_iff.1 e).1
        have := (List.getElem?_eq_some_iff.1 e).2
        simp [pev, ints, hi, this, AVal.cells]
      · have hil : (ints zs).length = len := by simp [ints, hl]
        have := Rep.list (G := ghostOf bk o zs) (st := st0) .none 1 (ints zs) (some ⟨bk, o, none⟩) cap (zs.map (Value.int .i64)) (by omega) (by omega) (fun y hy => by
          simp only [ints, List.mem_map] at hy
          obtain ⟨n, _, rfl⟩ := hy
          rfl) (ints_rep zs) (fun ad e => by
            cases e
            refine ⟨rfl, fun i v hv => ?_⟩
            rw [List.getElem?_map, Option.map_eq_some_iff] at hv
            obtain ⟨n, hn, rfl⟩ := hv
            simp only [ghostOf]
            rw [if_pos ⟨trivial, by omega⟩, show o + i - o = i by omega, hn]
            rfl) (fun e => by cases e) trivial
        rw [hil] at this
        exact this

end Go.Am.Tab
