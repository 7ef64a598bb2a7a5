/- The abstract machine is sound: objects that are made, and written. -/
import Derived.Test.YteinffefhcpcmaaGreatDoorAmSound3
import Derived.Laws.Tables
import Derived.Lib.FrozenHead
namespace Go.Am

section
variable {P : Program} {n : Nat} {G : Ghost} {w : World} {fr : Fr} {st : Store} {a : Act}

@[simp] theorem Store.set_same (st : Store) (k : Key) (s : Slot) : (st.set k s) k = s := by simp [Store.set]
theorem Store.set_other (st : Store) {k k' : Key} (s : Slot) (h : k' ≠ k) : (st.set k s) k' = st k' := by simp [Store.set, h]

def Ghost.setLoc (G : Ghost) (k : Key) (b lo hi : Nat) : Ghost :=
  { G with blk := fun k' => if k' = k then b else G.blk k', lo := fun k' => if k' = k then lo else G.lo k', hi := fun k' => if k' = k then hi else G.hi k' }

theorem later_setLoc (G : Ghost) (st : Store) (k : Key) (b lo hi : Nat) (o : Option AObj) : Later G st (G.setLoc k b lo hi) (st.set k ⟨(st k).ver + 1, o⟩) where
  imm := fun _ _ _ h => h
  ver := fun k' => by
    by_cases h : k' = k
    · subst h; simp
    · rw [Store.set_other _ _ h]; exact Nat.le_refl _
  blk := fun k' e => by
    by_cases h : k' = k
    · subst h; simp at e
    · simp [Ghost.setLoc, h]
  tail := fun k' m e ht => by
    by_cases h : k' = k
    · subst h; simp at e
    · rw [Store.set_other _ _ h] at ht; exact ht

theorem blk_of_obj (hC : ConcS G w st) {k : Key} {o : AObj} (ho : (st k).obj = some o) : (∃ b, Owns G st k b ∧ G.blk k = b) ∨ (∀ b, ¬ Owns G st k b) ∧ ∀ (w' : World), ObjOK G st w' k o := by
  have hok := hC.obj k o ho
  cases o with
  | tail m =>
    by_cases hlt : G.lo k < G.hi k
    · exact .inl ⟨_, by simp [Owns, ho, hlt], rfl⟩
    · exact .inr ⟨fun b h => by simp [Owns, ho] at h; exact hlt h.1, fun w' h => absurd h hlt⟩
  | cells l => exact .inl ⟨_, by simp [Owns, ho], rfl⟩
  | map es c => exact .inl ⟨_, by simp [Owns, ho], rfl⟩
  | iter m mv since seen stepped => exact .inl ⟨_, by simp [Owns, ho], rfl⟩

/-- A new object, in a new block. -/
theorem conc_newObj (hC : ConcS G w st) (k : Key) (o : Obj) (ao : AObj) (lo hi : Nat)
    (hok : ObjOK (G.setLoc k w.heap.size lo hi) (st.set k ⟨(st k).ver + 1, some ao⟩) (w.alloc o) k ao) :
    ConcS (G.setLoc k w.heap.size lo hi) (w.alloc o) (st.set k ⟨(st k).ver + 1, some ao⟩) ∧ Ext G w st (G.setLoc k w.heap.size lo hi) (w.alloc o) (st.set k ⟨(st k).ver + 1, some ao⟩) := by
  have hl := later_setLoc G st k w.heap.size lo hi (some ao)
  generalize hG : G.setLoc k w.heap.size lo hi = G' at *
  generalize hS : st.set k ⟨(st k).ver + 1, some ao⟩ = st' at *
  have hk : st' k = ⟨(st k).ver + 1, some ao⟩ := by rw [← hS]; simp
  have hne : ∀ k', k' ≠ k → st' k' = st k' := fun k' h => by rw [← hS]; exact Store.set_other _ _ h
  have hbk : G'.blk k = w.heap.size := by rw [← hG]; simp [Ghost.setLoc]
  have hb : ∀ k', k' ≠ k → G'.blk k' = G.blk k' ∧ G'.lo k' = G.lo k' ∧ G'.hi k' = G.hi k' := fun k' h => by rw [← hG]; simp [Ghost.setLoc, h]
  have hown : ∀ k' b, k' ≠ k → (Owns G' st' k' b ↔ Owns G st k' b) := fun k' b h => by
    obtain ⟨h1, h2, h3⟩ := hb k' h
    unfold Owns
    rw [hne k' h, h1, h2, h3]
  have hownk : ∀ b, Owns G' st' k b → b = w.heap.size := fun b h => by
    unfold Owns at h
    rw [hk] at h
    simp only at h
    split at h
    · rw [← h.2, hbk]
    · rw [← h, hbk]
    · exact h.elim
  have himm : ∀ b o, G'.imm b o = G.imm b o := fun b o => by rw [← hG]; rfl
  refine ⟨⟨fun b o v h => hC.one b o v (by rw [← himm]; exact h), ?_, ?_, ?_, ?_, ?_⟩, ⟨hl, by rw [heap_alloc_size]; omega, fun b hb _ => heap_alloc_lt w _ hb, ?_, ?_, rfl, rfl, rfl⟩⟩
  · intro b o v h
    rw [himm] at h
    have := hC.imm b o v h
    simp only [World.cell?] at this ⊢
    rw [heap_alloc_lt w _ (hC.imm_lt h)]
    exact this
  · intro k' o' ho'
    by_cases h : k' = k
    · subst h
      rw [hk] at ho'
      simp only [Option.some.injEq] at ho'
      subst ho'
      exact hok
    · rw [hne k' h] at ho'
      have hver : (st' k').ver = (st k').ver := by rw [hne k' h]
      rcases blk_of_obj hC ho' with ⟨b, ho, hbb⟩ | ⟨_, h2⟩
      · exact (hC.obj k' o' ho').later hl hver (heap_alloc_lt w _ (by rw [hbb]; exact hC.size k' b ho))
      · exact (h2 (w.alloc o)).later hl hver rfl
  · intro k1 k2 b h1 h2
    by_cases e1 : k1 = k
    · subst e1
      by_cases e2 : k2 = k1
      · exact e2.symm
      · have := hownk b h1
        have := hC.size k2 b ((hown k2 b e2).1 h2)
        omega
    · by_cases e2 : k2 = k
      · subst e2
        have := hownk b h2
        have := hC.size k1 b ((hown k1 b e1).1 h1)
        omega
      · exact hC.inj k1 k2 b ((hown k1 b e1).1 h1) ((hown k2 b e2).1 h2)
  · intro k' b o' h
    rw [himm]
    by_cases e : k' = k
    · subst e
      have := hownk b h
      left
      cases hi : G.imm b o' with
      | none => rfl
      | some v => have := hC.imm_lt hi; omega
    · rw [hne k' e, (hb k' e).2.1]
      exact hC.own k' b o' ((hown k' b e).1 h)
  · intro k' b h
    rw [heap_alloc_size]
    by_cases e : k' = k
    · subst e; have := hownk b h; omega
    · have := hC.size k' b ((hown k' b e).1 h); omega
  · intro k' b hb' h
    by_cases e : k' = k
    · subst e; have := hownk b h; omega
    · exact ⟨k', (hown k' b e).1 h⟩
  · intro b o' v h _
    rw [himm] at h
    exact .inl h


/-! ## Writing into an object's block -/

theorem heap_setRow_other (w : World) (g : Nat) (cs : Array Value) {b : Nat} (h : b ≠ g) : (w.setRow g cs).heap[b]? = w.heap[b]? := by
  unfold World.setRow
  simp only [Array.getElem?_modify]
  rw [if_neg (fun e => h e.symm)]

theorem run_storeCells_thaw (g o : Nat) (t : TypeId) (fz : Nat × Nat) : ∀ (vs : List Value) (i : Nat) (cur : Array Value) (w : World), w.heap[g]? = some (.cells cur t fz) → thawed fz cur.size → o + i + vs.length ≤ cur.size → (∀ v ∈ vs, v.oneCell' = true) →
    (storeCells ⟨g, o, none⟩ vs i).run P w = .ok () (w.setRow g (cur.toList.take (o + i) ++ vs ++ cur.toList.drop (o + i + vs.length)).toArray)
  | [], i, cur, w, hg, _, _, _ => by
    simp only [storeCells, List.append_nil, List.length_nil, Nat.add_zero, List.take_append_drop, Array.toArray_toList]
    rw [setRow_self w g cur t fz hg]
    rfl
  | v :: rest, i, cur, w, hg, hfz, hl, h1 => by
    have hi : o + i < cur.size := by simp at hl; omega
    have hadd : (⟨g, o, none⟩ : Addr).add i = ⟨g, o + i, none⟩ := add_mk g o i
    have hcell : w.cell? ⟨g, o + i, none⟩ = some cur[o + i] := by simp [World.cell?, hg, hi]
    have hfro : w.frozen? ⟨g, o + i, none⟩ = false := by
      have := hfz (o + i) hi
      obtain ⟨lo, hi'⟩ := fz
      simp only [World.frozen?, hg, Bool.and_eq_false_iff, decide_eq_false_iff_not]
      simp only [not_and, Nat.not_lt] at this
      by_cases hh : lo ≤ o + i
      · right; have := this hh; omega
      · left; exact hh
    have hst : (store ((⟨g, o, none⟩ : Addr).add i) v).run P w = .ok () (w.setRow g (cur.setIfInBounds (o + i) v)) := by
      rw [hadd, run_store P w _ v _ (h1 v (by simp)), hcell]
      simp [hfro, setCell_eq_setRow w g (o + i) cur t fz v hg]
    have ih := run_storeCells_thaw g o t fz rest (i + 1) (cur.setIfInBounds (o + i) v) (w.setRow g (cur.setIfInBounds (o + i) v)) (setRow_heap w g cur _ t _ hg) (by simpa using hfz) (by simp at hl ⊢; omega) (fun x hx => h1 x (by simp [hx]))
    simp only [storeCells, Sem.run_bind, hst, Result.andThen_ok, ih, setRow_setRow]
    congr 3
    have e := list_seg_step cur.toList (o + i) v rest (by simp at hl ⊢; omega)
    simpa [Array.toList_setIfInBounds, Nat.add_assoc] using e

/-- The same version of an object holds something else now; its block is written, where no memory that stays was. -/
theorem conc_setObj (hC : ConcS G w st) {k : Key} {b : Nat} (hown : Owns G st k b) {w' : World} (ao : AObj) (hao : ∀ n, ao ≠ .tail n) (hwo : ∀ b', b' ≠ b → w'.heap[b']? = w.heap[b']?) (hsz : w'.heap.size = w.heap.size)
    (himm : ∀ o, G.imm b o = none) (hown' : ∀ b', Owns G (st.set k ⟨(st k).ver, some ao⟩) k b' → b' = b)
    (hok : ObjOK G (st.set k ⟨(st k).ver, some ao⟩) w' k ao) (ht : w'.tape = w.tape) (hos : w'.os = w.os) (hou : w'.output = w.output) :
    ConcS G w' (st.set k ⟨(st k).ver, some ao⟩) ∧ Ext G w st G w' (st.set k ⟨(st k).ver, some ao⟩) := by
  have hl : Later G st G (st.set k ⟨(st k).ver, some ao⟩) := {
    imm := fun _ _ _ h => h
    ver := fun k' => by
      by_cases h : k' = k
      · subst h; simp
      · rw [Store.set_other _ _ h]; exact Nat.le_refl _
    blk := fun _ _ => ⟨rfl, rfl, rfl⟩
    tail := fun k' m _ h => by
      by_cases e : k' = k
      · subst e; simp at h; exact absurd h (hao m)
      · rw [Store.set_other _ _ e] at h; exact h }
  generalize hS : st.set k ⟨(st k).ver, some ao⟩ = st' at *
  have hk : st' k = ⟨(st k).ver, some ao⟩ := by rw [← hS]; simp
  have hne : ∀ k', k' ≠ k → st' k' = st k' := fun k' h => by rw [← hS]; exact Store.set_other _ _ h
  have hownne : ∀ k' b, k' ≠ k → (Owns G st' k' b ↔ Owns G st k' b) := fun k' b h => by unfold Owns; rw [hne k' h]
  refine ⟨⟨hC.one, ?_, ?_, ?_, ?_, ?_⟩, ⟨hl, by omega, ?_, ?_, fun b o v h _ => .inl h, ht, hos, hou⟩⟩
  · intro b' o v h
    have h1 := hC.imm b' o v h
    have hb' : b' ≠ b := by rintro rfl; rw [himm o] at h; cases h
    simp only [World.cell?] at h1 ⊢
    rw [hwo b' hb']
    exact h1
  · intro k' o' ho'
    by_cases h : k' = k
    · subst h
      rw [hk] at ho'
      simp only [Option.some.injEq] at ho'
      subst ho'
      exact hok
    · rw [hne k' h] at ho'
      have hver : (st' k').ver = (st k').ver := by rw [hne k' h]
      rcases blk_of_obj hC ho' with ⟨b', ho, hbb⟩ | ⟨_, h2⟩
      · have hb' : b' ≠ b := by rintro rfl; exact h (hC.inj k' k b' ho hown)
        exact (hC.obj k' o' ho').later hl hver (by rw [hbb]; exact hwo b' hb')
      · exact (h2 w').later hl hver rfl
  · intro k1 k2 b' h1 h2
    by_cases e1 : k1 = k
    · subst e1
      by_cases e2 : k2 = k1
      · exact e2.symm
      · have := hown' b' h1
        subst this
        exact absurd (hC.inj k2 k1 b' ((hownne k2 b' e2).1 h2) hown) e2
    · by_cases e2 : k2 = k
      · subst e2
        have := hown' b' h2
        subst this
        exact hC.inj k1 k2 b' ((hownne k1 b' e1).1 h1) hown
      · exact hC.inj k1 k2 b' ((hownne k1 b' e1).1 h1) ((hownne k2 b' e2).1 h2)
  · intro k' b' o' h
    by_cases e : k' = k
    · subst e
      have := hown' b' h
      subst this
      exact .inl (himm o')
    · rw [hne k' e]
      exact hC.own k' b' o' ((hownne k' b' e).1 h)
  · intro k' b' h
    rw [hsz]
    by_cases e : k' = k
    · subst e; have := hown' b' h; subst this; exact hC.size k' b' hown
    · exact hC.size k' b' ((hownne k' b' e).1 h)
  · intro b' hb' hno
    exact hwo b' (fun e => hno k (e ▸ hown))
  · intro k' b' _ h
    by_cases e : k' = k
    · subst e; have := hown' b' h; subst this; exact ⟨k', hown⟩
    · exact ⟨k', (hownne k' b' e).1 h⟩

end
end Go.Am
