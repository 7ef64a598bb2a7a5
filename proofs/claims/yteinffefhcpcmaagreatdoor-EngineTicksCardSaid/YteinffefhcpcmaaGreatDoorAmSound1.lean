/- The abstract machine is sound: operands, places, cells. -/
import Derived.Test.YteinffefhcpcmaaGreatDoorAmWp
import Derived.Tactics
import Derived.Laws.Sem
import Derived.Laws.Cells
import Derived.Laws.IdiomCopy
import Derived.Laws.Entries
import Derived.Laws.Strings
namespace Go.Am

theorem mapM_get {α β : Type} {f : α → Option β} : ∀ {l : List α} {m : List β}, l.mapM f = some m → m.length = l.length ∧ ∀ (i : Nat) (a : α), l[i]? = some a → ∃ b, m[i]? = some b ∧ f a = some b := by
  intro l
  induction l with
  | nil => intro m h; simp at h; subst h; simp
  | cons a l ih =>
    intro m h
    rw [List.mapM_cons] at h
    cases ha : f a with
    | none => simp [ha] at h
    | some b =>
      cases hl : l.mapM f with
      | none => simp [ha, hl] at h
      | some bs =>
        simp [ha, hl] at h
        subst h
        obtain ⟨h1, h2⟩ := ih hl
        refine ⟨by simp [h1], fun i x hx => ?_⟩
        cases i with
        | zero => simp at hx; subst hx; exact ⟨b, rfl, ha⟩
        | succ i => simpa using h2 i x (by simpa using hx)

section
variable {P : Program} {G : Ghost} {st : Store}

theorem scalarA_sound {t : TypeId} {v : Value} {a : AVal} (h : scalarA P t v = some a) : Rep G st a v := by
  unfold scalarA at h
  split at h
  · cases h; exact .bool _
  · cases h; exact .int _ _
  · cases h; exact .float _ _
  · split at h
    · rename_i hl; cases h; exact .str _ _ rfl hl
    · cases h
  · cases h; exact .nilp
  · split at h
    · rename_i e _
      cases he : eszOf P e with
      | none => simp [he] at h
      | some n =>
        simp [he] at h
        subst h
        exact .list .full n [] none 0 [] (Nat.le_refl 0) (by omega) (by simp) .nil (by simp) (fun _ => rfl) rfl
    · cases h
  · cases h; exact .nilm
  · cases h; exact .nilf
  · cases h; exact .nili
  · cases h

theorem scalarL_sound {ts : List TypeId} {vs : List Value} {l : List AVal} (hn : ts.length = vs.length)
    (h : (ts.zip vs).mapM (fun (x : TypeId × Value) => scalarA P x.1 x.2) = some l) : RepL G st l vs := by
  obtain ⟨h1, h2⟩ := mapM_get h
  refine RepL.ofGet (by simp at h1; omega) fun i a v ha hv => ?_
  have hi : i < vs.length := (List.getElem?_eq_some_iff.1 hv).1
  obtain ⟨b, hb, he⟩ := h2 i (ts[i]'(by omega), vs[i]) (by simp [List.getElem?_zip_eq_some, hi, hn])
  rw [ha] at hb
  cases hb
  have : v = vs[i] := by simpa [hi] using hv.symm
  subst this
  exact scalarA_sound he

theorem constA_sound {t : TypeId} {v : Value} {a : AVal} (h : constA P t v = some a) : Rep G st a v := by
  unfold constA at h
  split at h
  · rename_i cs
    cases hc : cellTys P 8 t with
    | none => simp [hc] at h
    | some ts =>
      simp only [hc, Option.bind_eq_bind, Option.bind_some] at h
      split at h
      · rename_i hn
        cases hm : (ts.zip cs.toList).mapM (fun (x : TypeId × Value) => scalarA P x.1 x.2) with
        | none => simp [hm] at h
        | some l =>
          simp [hm] at h
          subst h
          exact .agg _ _ (scalarL_sound (by simpa using hn) hm)
      · cases h
  · exact scalarA_sound h

theorem opd_sound {n : Nat} {w : World} {fr : Fr} {a : Act} (hC : Conc n G w ⟨fr, st⟩ a) {t : TypeId} {x : Operand} {d : Opd} (h : opd P t x = some d) : Rep G st (fr.ev d) (a.eval x) := by
  cases x with
  | tmp m => simp [opd] at h; subst h; exact hC.fr m
  | const v =>
    simp only [opd] at h
    cases hc : constA P t v with
    | none => simp [hc] at h
    | some y => simp [hc] at h; subst h; exact constA_sound hc
  | global g => simp [opd] at h
  | func f => simp [opd] at h; subst h; exact .fn _ [] [] #[] #[] .nil .nil

theorem Rep.oneCell {a : AVal} {v : Value} (h : Rep G st a v) (hc : isCell a = true) : v.oneCell' = true := by
  cases h <;> first | rfl | (simp [isCell] at hc)


theorem one_eq (v : Value) : one v = v.oneCell' := by cases v <;> rfl

theorem RepL.ones {l : List AVal} {vs : List Value} (h : RepL G st l vs) (hc : l.all isCell = true) : ∀ v ∈ vs, one v = true := by
  intro v hv
  obtain ⟨i, hi⟩ := List.mem_iff_getElem?.1 hv
  have hlt : i < l.length := by rw [← h.length]; exact (List.getElem?_eq_some_iff.1 hi).1
  obtain ⟨y, hy, hr⟩ := h.get (List.getElem?_eq_getElem hlt)
  rw [hi] at hy
  cases hy
  rw [one_eq]
  exact hr.oneCell (List.all_eq_true.1 hc _ (List.getElem_mem hlt))

end
end Go.Am
