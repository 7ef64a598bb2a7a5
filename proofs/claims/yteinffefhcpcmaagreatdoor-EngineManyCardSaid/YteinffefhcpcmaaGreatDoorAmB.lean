/- The abstract machine is sound: operands, places, cells. -/
import Derived.Test.YteinffefhcpcmaaGreatDoorAmA
import Derived.Tactics
import Derived.Laws.Sem
import Derived.Laws.Cells
import Derived.Laws.IdiomCopy
import Derived.Laws.Entries
import Derived.Laws.Strings
import Derived.Laws.StructEq
import Derived.Laws.BytesString
import Derived.Great.BuildSlice
import Derived.Laws.Tables
import Derived.Lib.FrozenHead
set_option linter.unusedVariables false
set_option linter.unusedSimpArgs false
set_option linter.unusedSectionVars false
namespace Go.Am

theorem mapM_get {α β : Type} {f : α → Option β} : ∀ {l : List α} {m : List β}, l.mapM f = some m → m.length = l.length ∧ ∀ (i : Nat) (a : α), l[i]? = some a → ∃ b, m[i]? = some b ∧ f a = some b := by
  intro l
  induction l with
  | nil => intro m h; simp at h; subst h; simp
  | cons a l ih =>
    intro m h
    rw [List.mapM_cons] at h
    cases ha : f a with
    | none => simp [ha] at h
    | some b =>
      cases hl : l.mapM f with
      | none => simp [ha, hl] at h
      | some bs =>
        simp [ha, hl] at h
        subst h
        obtain ⟨h1, h2⟩ := ih hl
        refine ⟨by simp [h1], fun i x hx => ?_⟩
        cases i with
        | zero => simp at hx; subst hx; exact ⟨b, rfl, ha⟩
        | succ i => simpa using h2 i x (by simpa using hx)

section
variable {P : Program} {G : Ghost} {st : Store}

theorem scalarA_sound {t : TypeId} {v : Value} {a : AVal} (h : scalarA P t v = some a) : Rep G st a v := by
  unfold scalarA at h
  split at h
  · cases h; exact .bool _
  · cases h; exact .int _ _
  · cases h; exact .float _ _
  · split at h
    · rename_i hl; cases h; exact .str _ _ rfl hl
    · cases h
  · cases h; exact .nilp
  · split at h
    · rename_i e _
      cases he : eszOf P e with
      | none => simp [he] at h
      | some n =>
        simp [he] at h
        subst h
        exact .list .full n [] none 0 [] (Nat.le_refl 0) (by omega) (by simp) .nil (by simp) (fun _ => rfl) rfl
    · cases h
  · cases h; exact .nilm
  · cases h; exact .nilf
  · cases h; exact .nili
  · cases h

theorem scalarL_sound {ts : List TypeId} {vs : List Value} {l : List AVal} (hn : ts.length = vs.length)
    (h : (ts.zip vs).mapM (fun (x : TypeId × Value) => scalarA P x.1 x.2) = some l) : RepL G st l vs := by
  obtain ⟨h1, h2⟩ := mapM_get h
  refine RepL.ofGet (by simp at h1; omega) fun i a v ha hv => ?_
  have hi : i < vs.length := (List.getElem?_eq_some_iff.1 hv).1
  obtain ⟨b, hb, he⟩ := h2 i (ts[i]'(by omega), vs[i]) (by simp [List.getElem?_zip_eq_some, hi, hn])
  rw [ha] at hb
  cases hb
  have : v = vs[i] := by simpa [hi] using hv.symm
  subst this
  exact scalarA_sound he

theorem constA_sound {t : TypeId} {v : Value} {a : AVal} (h : constA P t v = some a) : Rep G st a v := by
  unfold constA at h
  split at h
  · rename_i cs
    cases hc : cellTys P 8 t with
    | none => simp [hc] at h
    | some ts =>
      simp only [hc, Option.bind_eq_bind, Option.bind_some] at h
      split at h
      · rename_i hn
        cases hm : (ts.zip cs.toList).mapM (fun (x : TypeId × Value) => scalarA P x.1 x.2) with
        | none => simp [hm] at h
        | some l =>
          simp [hm] at h
          subst h
          exact .agg _ _ (scalarL_sound (by simpa using hn) hm)
      · cases h
  · exact scalarA_sound h

theorem opd_sound {n : Nat} {w : World} {fr : Fr} {a : Act} (hC : Conc n G w ⟨fr, st⟩ a) {t : TypeId} {x : Operand} {d : Opd} (h : opd P t x = some d) : Rep G st (fr.ev d) (a.eval x) := by
  cases x with
  | tmp m => simp [opd] at h; subst h; exact hC.fr m
  | const v =>
    simp only [opd] at h
    cases hc : constA P t v with
    | none => simp [hc] at h
    | some y => simp [hc] at h; subst h; exact constA_sound hc
  | global g => simp [opd] at h
  | func f => simp [opd] at h; subst h; exact .fn _ [] [] #[] #[] .nil .nil

theorem Rep.oneCell {a : AVal} {v : Value} (h : Rep G st a v) (hc : isCell a = true) : v.oneCell' = true := by
  cases h <;> first | rfl | (simp [isCell] at hc)


theorem one_eq (v : Value) : one v = v.oneCell' := by cases v <;> rfl

theorem RepL.ones {l : List AVal} {vs : List Value} (h : RepL G st l vs) (hc : l.all isCell = true) : ∀ v ∈ vs, one v = true := by
  intro v hv
  obtain ⟨i, hi⟩ := List.mem_iff_getElem?.1 hv
  have hlt : i < l.length := by rw [← h.length]; exact (List.getElem?_eq_some_iff.1 hi).1
  obtain ⟨y, hy, hr⟩ := h.get (List.getElem?_eq_getElem hlt)
  rw [hi] at hy
  cases hy
  rw [one_eq]
  exact hr.oneCell (List.all_eq_true.1 hc _ (List.getElem_mem hlt))

end
end Go.Am
/- The abstract machine is sound: pure operations. -/
namespace Go.Am

/-- What a pure operation's soundness says. -/
def PureOK (P : Program) (n : Nat) (o : Oper) (p : POp) (args : List Opd) : Prop :=
  ∀ (G : Ghost) (w : World) (fr : Fr) (st : Store) (a : Act) (v : AVal), Conc n G w ⟨fr, st⟩ a → pev p (args.map fr.ev) = some v →
    ∃ x w' G', (execOp a.eval o).run P w = .ok (.value x) w' ∧ Rep G' st v x ∧ ConcS G' w' st ∧ Ext G w st G' w' st

section
variable {P : Program} {n : Nat} {G : Ghost} {w : World} {fr : Fr} {st : Store} {a : Act}

theorem stay {o : Oper} {v : AVal} (hC : Conc n G w ⟨fr, st⟩ a) (x : Value) (h : (execOp a.eval o).run P w = .ok (.value x) w) (hr : Rep G st v x) :
    ∃ x w' G', (execOp a.eval o).run P w = .ok (.value x) w' ∧ Rep G' st v x ∧ ConcS G' w' st ∧ Ext G w st G' w' st :=
  ⟨x, w, G, h, hr, hC.st, Ext.refl _ _ _⟩

theorem run_und {t : TypeId} {d : TypeDesc} (h : P.underlying t = some d) (w : World) : (underlying t).run P w = .ok d w := by
  simp [underlying, h]

theorem mv_ok {o : Oper} {x : Operand} (ho : o.op = .move x ∨ o.op = .assign x) {d : Opd} (hd : opd P o.type x = some d) : PureOK P n o .mv [d] := by
  intro G w fr st a v hC hv
  simp [pev] at hv
  subst hv
  refine stay hC (a.eval x) ?_ (opd_sound hC hd)
  rcases ho with ho | ho <;> simp [execOp, ho]

theorem rep_bool {b : Bool} {x : Value} (h : Rep G st (.bool b) x) : x = .bool b := by cases h; rfl
theorem rep_int {k : IntKind} {m : Int} {x : Value} (h : Rep G st (.int k m) x) : x = .int k m := by cases h; rfl

theorem pick_ok {o : Oper} {c x y : Operand} (ho : o.op = .pick c x y) {dc dx dy : Opd} (hc : opd P o.type c = some dc) (hx : opd P o.type x = some dx)
    (hy : opd P o.type y = some dy) : PureOK P n o .pick [dc, dx, dy] := by
  intro G w fr st a v hC hv
  have h1 := opd_sound hC hc
  have h2 := opd_sound hC hx
  have h3 := opd_sound hC hy
  simp only [List.map_cons, List.map_nil] at hv
  generalize fr.ev dc = C at *
  generalize fr.ev dx = X at *
  generalize fr.ev dy = Y at *
  cases C <;> simp [pev] at hv
  rename_i b
  have e := rep_bool h1
  cases b
  · simp at hv; subst hv; exact stay hC (a.eval y) (by simp [execOp, ho, e, asBool]) h3
  · simp at hv; subst hv; exact stay hC (a.eval x) (by simp [execOp, ho, e, asBool]) h2

theorem aint_sound {op : BinOp} {k : IntKind} {x y : Int} {v : AVal} (t : TypeId) (hs : op ≠ .shl) (hr : op ≠ .shr) (h : aint op k x y = some v) :
    ∃ V, (binOp op t (.int k x) (.int k y)).run P w = .ok V w ∧ Rep G st v V := by
  cases op
  case shl => exact absurd rfl hs
  case shr => exact absurd rfl hr
  case quo =>
    simp [aint] at h
    obtain ⟨h0, h⟩ := h
    subst h
    simp [binOp, Op.intDiv, h0]
    exact .int _ _
  case rem =>
    simp [aint] at h
    obtain ⟨h0, h⟩ := h
    subst h
    simp [binOp, Op.intDiv, h0]
    exact .int _ _
  all_goals
    simp only [aint, Option.some.injEq] at h
    subst h
    simp [binOp, Op.intArith, Op.intBits, Op.intCmp]
    first | exact .int _ _ | exact .bool _

theorem beq_bytes (a b : ByteArray) : (a.toList == b.toList) = (a.data.toList == b.data.toList) := by
  rw [ByteArray.toList_eq, ByteArray.toList_eq]

theorem astr_sound {op : BinOp} {x y : ByteArray} {v : AVal} (t : TypeId) (hs : op ≠ .shl) (hr : op ≠ .shr) (h : astr op x.data.toList y.data.toList = some v) :
    ∃ V, (binOp op t (.string x) (.string y)).run P w = .ok V w ∧ Rep G st v V := by
  cases op
  case shl => exact absurd rfl hs
  case shr => exact absurd rfl hr
  case add =>
    simp only [astr] at h
    split at h
    · rename_i h0
      cases h
      have e1 : x.size = x.data.toList.length := by simp
      have e2 : y.size = y.data.toList.length := by simp
      have hz : ¬ (((x.size + y.size : Nat) : Int) > IntKind.i64.max) := by
        simp only [IntKind.max, IntKind.signed, IntKind.bits, if_true]
        omega
      refine ⟨.string (x ++ y), ?_, .str _ _ (by simp) (by simpa using h0)⟩
      simp only [binOp, Op.stringOp, hz, if_false]
      rfl
    · cases h
  all_goals
    first
      | (simp [astr] at h; done)
      | (simp only [astr, Option.some.injEq] at h
         subst h
         simp [binOp, Op.stringOp, ByteArray.toList_eq, bytesLess]
         exact .bool _)


theorem ashl_sound {k k' : IntKind} {x y : Int} {v : AVal} (t : TypeId) (h : ashl k x y = some v) :
    ∃ V, (binOp .shl t (.int k x) (.int k' y)).run P w = .ok V w ∧ Rep G st v V := by
  unfold ashl at h
  split at h
  · cases h
  · rename_i h0
    cases h
    exact ⟨_, by simp [binOp, Op.shift, h0], .int _ _⟩

theorem ashr_sound {k k' : IntKind} {x y : Int} {v : AVal} (t : TypeId) (h : ashr k x y = some v) :
    ∃ V, (binOp .shr t (.int k x) (.int k' y)).run P w = .ok V w ∧ Rep G st v V := by
  unfold ashr at h
  split at h
  · cases h
  · rename_i h0
    cases h
    exact ⟨_, by simp [binOp, Op.shift, h0], .int _ _⟩

theorem abin_sound {op : BinOp} {A B v : AVal} {x y : Value} (t : TypeId) (h : abin op A B = some v) (ha : Rep G st A x) (hb : Rep G st B y) :
    ∃ V, (binOp op t x y).run P w = .ok V w ∧ Rep G st v V ∧ (∀ X Y, (eqGuard op t X Y x y).run P w = .ok () w) := by
  unfold abin at h
  split at h
  · cases ha; cases hb
    have hg : ∀ X Y (k k' : IntKind) (m m' : Int), (eqGuard op t X Y (.int k m) (.int k' m')).run P w = .ok () w := by intros; simp [eqGuard]
    split at h
    · obtain ⟨V, h1, h2⟩ := ashl_sound (P := P) (G := G) (w := w) (st := st) t h; exact ⟨V, h1, h2, fun X Y => hg X Y _ _ _ _⟩
    · obtain ⟨V, h1, h2⟩ := ashr_sound (P := P) (G := G) (w := w) (st := st) t h; exact ⟨V, h1, h2, fun X Y => hg X Y _ _ _ _⟩
    · split at h
      · rename_i hs hr hk
        subst hk
        obtain ⟨V, h1, h2⟩ := aint_sound (P := P) (G := G) (w := w) (st := st) t hs hr h
        exact ⟨V, h1, h2, fun X Y => hg X Y _ _ _ _⟩
      · cases h
  · cases ha; cases hb
    rename_i e1 b1 y e2 b2
    subst e1; subst e2
    have hs : op ≠ .shl := by rintro rfl; simp [astr] at h
    have hr : op ≠ .shr := by rintro rfl; simp [astr] at h
    obtain ⟨V, h1, h2⟩ := astr_sound (P := P) (G := G) (w := w) (st := st) t hs hr h
    exact ⟨V, h1, h2, fun X Y => by simp [eqGuard]⟩
  · cases ha; cases hb
    split at h
    · rename_i hk
      subst hk
      split at h
      · cases h; exact ⟨_, by simp [binOp, Op.floatCmp], .bool _, fun X Y => by simp [eqGuard]⟩
      · cases h; exact ⟨_, by simp [binOp, Op.floatCmp], .bool _, fun X Y => by simp [eqGuard]⟩
      · cases h
    · cases h
  · cases h

theorem bin_ok {o : Oper} {op : BinOp} {t u : TypeId} {x y : Operand} (ho : o.op = .binOp op t x y u) {dx dy : Opd} (hx : opd P t x = some dx)
    (hy : opd P u y = some dy) : PureOK P n o (.bin op) [dx, dy] := by
  intro G w fr st a v hC hv
  obtain ⟨V, h1, h2, h3⟩ := abin_sound (P := P) (w := w) t hv (opd_sound hC hx) (opd_sound hC hy)
  exact stay hC V (by simp [execOp, ho, h1, h3]) h2

theorem beq_ok {o : Oper} {neg : Bool} {t u : TypeId} {x y : Operand} (ho : o.op = .binOp (if neg then .neq else .eql) t x y u) (hu : P.underlying t = some .bool) {dx dy : Opd} (hx : opd P t x = some dx)
    (hy : opd P t y = some dy) : PureOK P n o (.beq neg) [dx, dy] := by
  intro G w fr st a v hC hv
  have h1 := opd_sound hC hx
  have h2 := opd_sound hC hy
  simp only [List.map_cons, List.map_nil] at hv
  generalize fr.ev dx = X at *
  generalize fr.ev dy = Y at *
  cases X <;> cases Y <;> simp [pev] at hv
  subst hv
  have e1 := rep_bool h1
  have e2 := rep_bool h2
  have hg : ∀ (op : BinOp) (b b' : Bool), (eqGuard op t x y (.bool b) (.bool b')).run P w = .ok () w := by intros; simp [eqGuard]
  have heq : ∀ (b b' : Bool), (Op.equal t (.bool b) (.bool b')).run P w = .ok (b == b') w := by
    intro b b'
    exact run_equalIn_bool' w 9999 t b b' hu
  refine stay hC _ ?_ (.bool _)
  cases neg <;> simp [execOp, ho, e1, e2, hg, binOp, heq]

theorem run_equal_nil {d : TypeDesc} {kd : NilKind} {z : NilLit} (hn : nilOf d = some (kd, z)) {y : Operand} (hz : isNilC z y = true) {t : TypeId} (hu : P.underlying t = some d) {X : AVal} {x : Value} {b : Bool}
    (h : isNil kd X = some b) (hr : Rep G st X x) (m : Nat) : (Op.equalIn (m + 1) t x (a.eval y)).run P w = .ok b w := by
  cases d <;> simp [nilOf] at hn <;> obtain ⟨rfl, rfl⟩ := hn
  all_goals
    unfold isNilC at hz
    split at hz <;> first | (rename_i h1; cases h1; done) | (cases hz; done) | skip
  all_goals
    cases hr <;> simp [isNil] at h <;> subst h <;> simp [Op.equalIn, underlying, hu, Act.eval]

theorem isnil_ok {o : Oper} {kd : NilKind} {neg : Bool} {d : TypeDesc} {t u : TypeId} {x y : Operand} {z : NilLit} (ho : o.op = .binOp (if neg then .neq else .eql) t x y u) (hu : P.underlying t = some d)
    (hn : nilOf d = some (kd, z)) (hz : isNilC z y = true) {dx : Opd} (hx : opd P t x = some dx) : PureOK P n o (.isnil kd neg) [dx] := by
  intro G w fr st a v hC hv
  have h1 := opd_sound hC hx
  simp only [List.map_cons, List.map_nil, pev, Option.map_eq_some_iff] at hv
  obtain ⟨b, hb, rfl⟩ := hv
  have heq : (Op.equal t (a.eval x) (a.eval y)).run P w = .ok b w := run_equal_nil hn hz hu hb h1 9999
  obtain ⟨c, rfl, hc⟩ : ∃ c, y = .const c ∧ (c = .pointer none ∨ c = .map none ∨ c = .nilFunc ∨ c = .nilIface) := by
    unfold isNilC at hz
    split at hz <;> first | exact ⟨_, rfl, by simp⟩ | cases hz
  have hec : a.eval (.const c) = c := rfl
  rw [hec] at heq
  generalize hX : a.eval x = X at *
  generalize fr.ev dx = A at *
  have hg : ∀ op, (eqGuard op t x (.const c) X c).run P w = .ok () w := by
    intro op
    rcases hc with rfl | rfl | rfl | rfl <;> cases h1 <;> first | (simp [isNil] at hb; done) | (simp [eqGuard]; done)
  have hbin : (binOp .eql t X c).run P w = .ok (.bool b) w ∧ (binOp .neq t X c).run P w = .ok (.bool (!b)) w := by
    rcases hc with rfl | rfl | rfl | rfl <;> cases h1 <;> simp [isNil] at hb <;> simp [binOp, heq]
  refine stay hC (.bool (b != neg)) ?_ (.bool _)
  cases neg <;> simp [execOp, ho, hX, hec, hg, hbin]

theorem un_ok {o : Oper} {op : UnOp} {t : TypeId} {x : Operand} (ho : o.op = .unOp op t x) {d : Opd} (hd : opd P t x = some d) : PureOK P n o (.un op) [d] := by
  intro G w fr st a v hC hv
  have h1 := opd_sound hC hd
  simp only [List.map_cons, List.map_nil, pev] at hv
  generalize fr.ev d = X at *
  unfold aun at hv
  split at hv
  · have e := rep_int h1
    split at hv
    · cases hv; exact stay hC _ (by simp [execOp, ho, e, Op.unary, Op.intArith]) (.int _ _)
    · cases hv; exact stay hC _ (by simp [execOp, ho, e, Op.unary, Op.intBits]) (.int _ _)
    · cases hv
  · have e := rep_bool h1
    split at hv
    · cases hv; exact stay hC _ (by simp [execOp, ho, e, Op.unary]) (.bool _)
    · cases hv
  · cases hv

theorem convI_ok {o : Oper} {s d : TypeId} {x : Operand} {k k' : IntKind} (ho : o.op = .convert s d x) (hs : P.underlying s = some (.int k')) (hd : P.underlying d = some (.int k)) {dx : Opd} (hx : opd P s x = some dx) :
    PureOK P n o (.convI k) [dx] := by
  intro G w fr st a v hC hv
  have h1 := opd_sound hC hx
  simp only [List.map_cons, List.map_nil] at hv
  generalize fr.ev dx = X at *
  cases X <;> simp [pev] at hv
  subst hv
  have e := rep_int h1
  exact stay hC _ (by simp [execOp, ho, e, convert, underlying, hs, hd, Conv.intToInt]) (.int _ _)

theorem convF_ok {o : Oper} {s d : TypeId} {x : Operand} {k' : IntKind} (ho : o.op = .convert s d x) (hs : P.underlying s = some (.int k')) (hd : P.underlying d = some (.float .f64)) {dx : Opd} (hx : opd P s x = some dx) :
    PureOK P n o .convF [dx] := by
  intro G w fr st a v hC hv
  have h1 := opd_sound hC hx
  simp only [List.map_cons, List.map_nil] at hv
  generalize fr.ev dx = X at *
  cases X <;> simp [pev] at hv
  subst hv
  have e := rep_int h1
  exact stay hC _ (by simp [execOp, ho, e, convert, underlying, hs, hd, Conv.intToFloat]) (.float _ _)

theorem convId_ok {o : Oper} {s d : TypeId} {x : Operand} (ho : o.op = .convert s d x) (hs : P.underlying s = some .string) (hd : P.underlying d = some .string) {dx : Opd} (hx : opd P s x = some dx) :
    PureOK P n o .convId [dx] := by
  intro G w fr st a v hC hv
  have h1 := opd_sound hC hx
  simp only [List.map_cons, List.map_nil] at hv
  generalize fr.ev dx = X at *
  cases X <;> simp [pev] at hv
  subst hv
  generalize hX : a.eval x = X at *
  cases h1 with
  | str l s h hb => exact stay hC _ (by simp [execOp, ho, hX, convert, underlying, hs, hd]) (.str _ _ h hb)


/-! ## Places -/

theorem add_mk (b o m : Nat) : (⟨b, o, none⟩ : Addr).add m = ⟨b, o + m, none⟩ := by
  unfold Addr.add
  split
  · rename_i h; subst h; rfl
  · rfl

theorem faddr_ok {o : Oper} {t : TypeId} {x : Operand} {i : Nat} {f : Field} (ho : o.op = .fieldAddr t x i) (hf : fieldOf P t i = some f)
    (h0 : szOf P f.type ≠ some 0) (hz : (szOf P f.type).isSome = true) {d : Opd} (hd : opd P o.type x = some d) : PureOK P n o (.faddr f.offset) [d] := by
  intro G w fr st a v hC hv
  have h1 := opd_sound hC hd
  simp only [List.map_cons, List.map_nil] at hv
  generalize fr.ev d = X at *
  obtain ⟨fs, hfs, hfi⟩ : ∃ fs, P.underlying t = some (.struct fs) ∧ fs[i]? = some f := by
    unfold fieldOf at hf
    split at hf
    · rename_i fs h; exact ⟨fs, h, hf⟩
    · cases hf
  obtain ⟨inf, hinf⟩ : ∃ inf, P.info? f.type = some inf := by
    unfold szOf at hz
    cases h : P.info? f.type with
    | none => simp [h] at hz
    | some inf => exact ⟨inf, rfl⟩
  have hsz : inf.size ≠ 0 := by intro h; apply h0; simp [szOf, hinf, h]
  have hrun : ∀ ad, (Instr.fieldAt t (.pointer (some ad)) i).run P w = .ok (.pointer (some (ad.add f.offset))) w := by
    intro ad
    simp [Instr.fieldAt, underlying, hfs, hfi, Instr.sureAddr, fieldPlace, sizeOf, typeInfo, hinf, hsz]
  generalize hX : a.eval x = V at *
  cases X <;> simp [pev] at hv
  · subst hv
    cases h1 with
    | ref k v off ad h hx => 
      refine stay hC (.pointer (some (ad.add f.offset))) (by simp [execOp, ho, hX, hrun]) (.ref _ _ _ _ h fun e => ?_)
      rw [hx e, add_mk]
  · subst hv
    cases h1 with
    | iptr cs b off vs hi h =>
      refine stay hC _ (by simp only [execOp, ho, hX, Sem.run_bind, hrun, Result.andThen_ok, Sem.run_pure]; rw [add_mk]) (.iptr _ _ _ (vs.drop f.offset) (fun j y hy => ?_) (h.drop _))
      have := hi (f.offset + j) y (by simpa [List.getElem?_drop] using hy)
      rwa [← Nat.add_assoc] at this


theorem flat_length {e : Nat} : ∀ {l : List AVal}, (∀ y ∈ l, y.cells.length = e) → (flat l).length = l.length * e
  | [], _ => by simp [flat]
  | y :: l, h => by
    have := flat_length (l := l) fun z hz => h z (by simp [hz])
    simp only [flat, List.flatMap_cons, List.length_append, List.length_cons] at *
    rw [this, h y (by simp), Nat.succ_mul]; omega

theorem flat_append (l m : List AVal) : flat (l ++ m) = flat l ++ flat m := by simp [flat]

theorem flat_get {e : Nat} : ∀ {l : List AVal} {i : Nat} {y : AVal}, (∀ y ∈ l, y.cells.length = e) → l[i]? = some y → ((flat l).drop (i * e)).take e = y.cells
  | [], i, y, _, h => by simp at h
  | z :: l, 0, y, he, h => by
    simp at h; subst h
    simp [flat, ← he z (by simp)]
  | z :: l, i + 1, y, he, h => by
    have := flat_get (l := l) (i := i) (y := y) (fun x hx => he x (by simp [hx])) (by simpa using h)
    have hz := he z (by simp)
    simp only [flat, List.flatMap_cons] at *
    rw [Nat.succ_mul, Nat.add_comm, ← hz, List.drop_append]
    simp only [Nat.le_add_right, List.drop_eq_nil_of_le, List.nil_append, Nat.add_sub_cancel_left]
    rw [hz]; exact this

theorem immCells.drop {b off : Nat} {vs : List Value} (h : immCells G b off vs) (m : Nat) : immCells G b (off + m) (vs.drop m) := fun j y hy => by
  have := h (m + j) y (by simpa [List.getElem?_drop] using hy)
  rwa [← Nat.add_assoc] at this

theorem immCells.take {b off : Nat} {vs : List Value} (h : immCells G b off vs) (m : Nat) : immCells G b off (vs.take m) := fun j y hy => by
  rw [List.getElem?_take] at hy
  split at hy
  · exact h j y hy
  · cases hy

theorem eszOf_info {t : TypeId} {e : Nat} (h : eszOf P t = some e) : ∃ inf, P.info? t = some inf ∧ inf.size = e := by
  unfold eszOf at h
  cases hi : P.info? t with
  | none => simp [hi] at h
  | some inf => simp [hi] at h; exact ⟨inf, rfl, h⟩

theorem szOf_info {t : TypeId} {e : Nat} (h : szOf P t = some e) : ∃ inf, P.info? t = some inf ∧ inf.size = e := eszOf_info h

theorem iaddr_ok {o : Oper} {t el : TypeId} {x i : Operand} {e : Nat} (ho : o.op = .indexAddr t x i) (hu : P.underlying t = some (.slice el)) (he : eszOf P el = some e)
    {dx di : Opd} (hx : opd P t x = some dx) (hi : opd P o.type i = some di) : PureOK P n o (.iaddr e) [dx, di] := by
  intro G w fr st a v hC hv
  have h1 := opd_sound hC hx
  have h2 := opd_sound hC hi
  obtain ⟨inf, hinf, hsz⟩ := eszOf_info he
  simp only [List.map_cons, List.map_nil] at hv
  generalize fr.ev dx = X at *
  generalize fr.ev di = I at *
  have hrun : ∀ (ad : Addr) (len cap : Nat) (k : IntKind) (m : Int), 0 ≤ m → m < len → (Instr.indexAt t (.slice (some ad) len cap) (.int k m)).run P w = .ok (.pointer (some (ad.add (m.toNat * e)))) w := by
    intro ad len cap k m h0 hm
    simp [Instr.indexAt, asIntOf, underlying, hu, sizeOf, typeInfo, hinf, hsz, h0, hm]
  generalize hVX : a.eval x = VX at *
  generalize hVI : a.eval i = VI at *
  cases X <;> cases I <;> simp [pev] at hv
  · rename_i tag e' l k m
    obtain ⟨⟨rfl, h0, hm⟩, hv⟩ := hv
    have hli : l[m.toNat]? = some l[m.toNat] := by simp [hm]
    rw [hli] at hv
    simp at hv
    subst hv
    cases h2
    cases h1 with
    | list tag e l ad cap vs hc hb hee hr hi hn ht =>
      cases ad with
      | none => have := hn rfl; omega
      | some ad =>
        obtain ⟨hsp, him⟩ := hi ad rfl
        obtain ⟨b, off, sp⟩ := ad
        simp only at hsp; subst hsp
        refine stay hC _ (by simp only [execOp, ho, hVX, hVI, Sem.run_bind, hrun _ _ _ _ _ h0 (by omega : m < (l.length : Int)), Result.andThen_ok, Sem.run_pure]; rw [add_mk]) (.iptr _ _ _ ((vs.drop (m.toNat * e)).take e) ((him.drop _).take _) ?_)
        rw [← flat_get hee hli]
        exact (hr.drop _).take _
  · rename_i k v e' off len k' m
    obtain ⟨⟨rfl, h0, hm⟩, hv⟩ := hv
    subst hv
    cases h2
    cases h1 with
    | msl k v e off len ad cap hc hb hn h hx =>
      cases ad with
      | none => have := hn rfl; omega
      | some ad =>
        refine stay hC (.pointer (some (ad.add (m.toNat * e)))) (by simp [execOp, ho, hVX, hVI, hrun _ _ _ _ _ h0 (by omega : m < (len : Int))]) (.ref _ _ _ _ h fun ev => ?_)
        obtain ⟨rfl, _⟩ := hx ev ad rfl (by omega)
        rw [add_mk]

theorem iaddrA_ok {o : Oper} {t el : TypeId} {x i : Operand} {N e : Nat} (ho : o.op = .indexAddr t x i) (hu : P.underlying t = some (.array N el)) (h1n : 1 < N) (he : szOf P el = some e)
    {dx di : Opd} (hx : opd P o.type x = some dx) (hi : opd P o.type i = some di) : PureOK P n o (.iaddrA N e) [dx, di] := by
  intro G w fr st a v hC hv
  have h1 := opd_sound hC hx
  have h2 := opd_sound hC hi
  obtain ⟨inf, hinf, hsz⟩ := szOf_info he
  simp only [List.map_cons, List.map_nil] at hv
  generalize fr.ev dx = X at *
  generalize fr.ev di = I at *
  have hrun : ∀ (ad : Addr) (k : IntKind) (m : Int), 0 ≤ m → m < N → (Instr.indexAt t (.pointer (some ad)) (.int k m)).run P w = .ok (.pointer (some (ad.add (m.toNat * e)))) w := by
    intro ad k m h0 hm
    simp [Instr.indexAt, asIntOf, underlying, hu, sizeOf, typeInfo, hinf, hsz, h0, hm, Instr.sureAddr]
  generalize hVX : a.eval x = VX at *
  generalize hVI : a.eval i = VI at *
  cases X <;> cases I <;> simp [pev] at hv
  · obtain ⟨⟨h0, hm⟩, hv⟩ := hv
    subst hv
    cases h2
    cases h1 with
    | ref k v off ad h hx =>
      rename_i m
      refine stay hC (.pointer (some (ad.add (m.toNat * e)))) (by simp [execOp, ho, hVX, hVI, hrun _ _ _ h0 (by omega : m < (N : Int))]) (.ref _ _ _ _ h fun ev => ?_)
      rw [hx ev, add_mk]
  · obtain ⟨⟨h0, hm⟩, hv⟩ := hv
    subst hv
    cases h2
    cases h1 with
    | iptr cs b off vs hi h =>
      exact stay hC _ (by simp only [execOp, ho, hVX, hVI, Sem.run_bind, hrun _ _ _ h0 (by omega : (_ : Int) < (N : Int)), Result.andThen_ok, Sem.run_pure]; rw [add_mk]) (.iptr _ _ _ _ (hi.drop _) (h.drop _))

theorem isAgg_of {t : TypeId} {sz : Option Nat} (h : szO P t = some sz) :
    (sz = none ∧ (isAgg t).run P w = .ok false w) ∨ ∃ k inf, sz = some k ∧ P.info? t = some inf ∧ inf.size = k ∧ (isAgg t).run P w = .ok true w := by
  unfold szO at h
  split at h
  · rename_i fs hu
    cases hs : szOf P t with
    | none => simp [hs] at h
    | some k =>
      simp [hs] at h
      obtain ⟨inf, h1, h2⟩ := szOf_info hs
      exact .inr ⟨k, inf, h.symm, h1, h2, by simp [isAgg, underlying, hu]⟩
  · rename_i m e hu
    cases hs : szOf P t with
    | none => simp [hs] at h
    | some k =>
      simp [hs] at h
      obtain ⟨inf, h1, h2⟩ := szOf_info hs
      exact .inr ⟨k, inf, h.symm, h1, h2, by simp [isAgg, underlying, hu]⟩
  · rename_i d h1 h2 hu
    cases h
    refine .inl ⟨rfl, ?_⟩
    cases d <;> simp_all [isAgg, underlying]
  · cases h

theorem RepL.get? {l : List AVal} {vs : List Value} (h : RepL G st l vs) {i : Nat} {v : AVal} (hi : l[i]? = some v) : ∃ x, vs[i]? = some x ∧ Rep G st v x := h.get hi

theorem part_sound {t : TypeId} {sz : Option Nat} {off : Nat} {l : List AVal} {v : AVal} {vs : Array Value} (h : szO P t = some sz) (hp : partA off sz l = some v) (hr : RepL G st l vs.toList) :
    ∃ V, (part t vs off).run P w = .ok V w ∧ Rep G st v V := by
  rcases isAgg_of (w := w) h with ⟨rfl, ha⟩ | ⟨k, inf, rfl, h1, h2, ha⟩
  · obtain ⟨x, hx, hr'⟩ := hr.get hp
    refine ⟨x, ?_, hr'⟩
    have : vs[off]? = some x := by simpa using hx
    simp [part, ha, this]
  · simp only [partA] at hp
    split at hp
    · rename_i hle
      cases hp
      refine ⟨.agg (vs.extract off (off + k)), by simp [part, ha, sizeOf, typeInfo, h1, h2], .agg _ _ ?_⟩
      have := (hr.drop off).take k
      simpa [List.extract_eq_take_drop] using this
    · cases hp

theorem field_ok {o : Oper} {t : TypeId} {x : Operand} {i : Nat} {f : Field} {sz : Option Nat} (ho : o.op = .field t x i) (hf : fieldOf P t i = some f) (hs : szO P f.type = some sz)
    {d : Opd} (hd : opd P t x = some d) : PureOK P n o (.field f.offset sz) [d] := by
  intro G w fr st a v hC hv
  have h1 := opd_sound hC hd
  simp only [List.map_cons, List.map_nil] at hv
  generalize fr.ev d = X at *
  obtain ⟨fs, hfs, hfi⟩ : ∃ fs, P.underlying t = some (.struct fs) ∧ fs[i]? = some f := by
    unfold fieldOf at hf
    split at hf
    · rename_i fs h; exact ⟨fs, h, hf⟩
    · cases hf
  generalize hX : a.eval x = V at *
  cases X <;> simp [pev] at hv
  cases h1 with
  | agg l vs hr =>
    obtain ⟨V, hV, hrv⟩ := part_sound (P := P) (w := w) hs hv hr
    exact stay hC V (by simp [execOp, ho, hX, Instr.field, underlying, hfs, hfi, asAgg, hV]) hrv

theorem idxA_ok {o : Oper} {t el : TypeId} {x i : Operand} {N e : Nat} {sz : Option Nat} (ho : o.op = .index t x i) (hu : P.underlying t = some (.array N el)) (he : szOf P el = some e) (hs : szO P el = some sz)
    {dx di : Opd} (hx : opd P t x = some dx) (hi : opd P o.type i = some di) : PureOK P n o (.idxA N e sz) [dx, di] := by
  intro G w fr st a v hC hv
  have h1 := opd_sound hC hx
  have h2 := opd_sound hC hi
  obtain ⟨inf, hinf, hsz⟩ := szOf_info he
  simp only [List.map_cons, List.map_nil] at hv
  generalize fr.ev dx = X at *
  generalize fr.ev di = I at *
  generalize hVX : a.eval x = VX at *
  generalize hVI : a.eval i = VI at *
  cases X <;> cases I <;> simp [pev] at hv
  rename_i l k m
  obtain ⟨⟨h0, hm⟩, hv⟩ := hv
  cases h2
  cases h1 with
  | agg l vs hr =>
    obtain ⟨V, hV, hrv⟩ := part_sound (P := P) (w := w) hs hv hr
    have hm' : m < (N : Int) := by omega
    exact stay hC V (by simp [execOp, ho, hVX, hVI, Instr.index, asIntOf, underlying, hu, sizeOf, typeInfo, hinf, hsz, h0, hm', hV]) hrv

theorem idxS_ok {o : Oper} {t : TypeId} {x i : Operand} (ho : o.op = .index t x i) (hu : P.underlying t = some .string)
    {dx di : Opd} (hx : opd P t x = some dx) (hi : opd P o.type i = some di) : PureOK P n o .idxS [dx, di] := by
  intro G w fr st a v hC hv
  have h1 := opd_sound hC hx
  have h2 := opd_sound hC hi
  simp only [List.map_cons, List.map_nil] at hv
  generalize fr.ev dx = X at *
  generalize fr.ev di = I at *
  generalize hVX : a.eval x = VX at *
  generalize hVI : a.eval i = VI at *
  cases X <;> cases I <;> simp [pev] at hv
  rename_i s k m
  obtain ⟨⟨h0, hm⟩, b, hb, hv⟩ := hv
  subst hv
  cases h2
  cases h1 with
  | str l s hs hb' =>
    subst hs
    have hb2 : s[m.toNat]? = some b := by
      have : m.toNat < s.size := by simpa using hm
      rw [getElem?_pos s m.toNat this]
      rw [List.getElem?_eq_getElem hm] at hb
      rw [← Option.some.inj hb]
      rfl
    exact stay hC _ (by simp [execOp, ho, hVX, hVI, Instr.index, asIntOf, underlying, hu, h0, hb2]) (.int _ _)

theorem lenS_ok {o : Oper} {c : Call} {t : TypeId} {x : Operand} (ho : o.op = .call c) (hb : c.callee = .builtin .len) (hargs : c.args.toList = [x]) (hts : c.argTypes.toList = [t]) (hu : P.underlying t = some .string)
    {dx : Opd} (hx : opd P t x = some dx) : PureOK P n o .lenS [dx] := by
  intro G w fr st a v hC hv
  have h1 := opd_sound hC hx
  simp only [List.map_cons, List.map_nil] at hv
  generalize fr.ev dx = X at *
  obtain ⟨callee, args, argTypes⟩ := c
  simp only at hb hargs hts
  obtain rfl : args = #[x] := by rw [← Array.toArray_toList (xs := args), hargs]
  obtain rfl : argTypes = #[t] := by rw [← Array.toArray_toList (xs := argTypes), hts]
  subst hb
  generalize hVX : a.eval x = VX at *
  cases X <;> simp [pev] at hv
  subst hv
  cases h1 with
  | str l s hs hb' =>
    subst hs
    exact stay hC (.int .i64 s.size) (by simp [execOp, ho, resolve, invoke, builtin, Builtin.len_, underlying, hu, hVX, goInt]) (.int _ _)


theorem opt_one {t : TypeId} : ∀ {x : Option Operand} {xs : List Opd}, x.toList.mapM (opd P t) = some xs → (x = none ∧ xs = []) ∨ ∃ y d, x = some y ∧ xs = [d] ∧ opd P t y = some d
  | none, xs, h => by simp at h; exact .inl ⟨rfl, h⟩
  | some y, xs, h => by
    simp only [Option.toList_some] at h
    rw [List.mapM_cons] at h
    cases hd : opd P t y with
    | none => simp [hd] at h
    | some d => simp [hd] at h; exact .inr ⟨y, d, rfl, h.symm, hd⟩

/-- What 'optInt' read is what the operand is. -/
theorem optInt_sound (hC : Conc n G w ⟨fr, st⟩ a) {t : TypeId} {x : Option Operand} {xs : List Opd} (hx : x.toList.mapM (opd P t) = some xs) {rest : List AVal} {r : Option Int} {rest' : List AVal}
    (h : optInt x.isSome (xs.map fr.ev ++ rest) = some (r, rest')) : rest' = rest ∧ ((x = none ∧ r = none) ∨ ∃ y k m, x = some y ∧ r = some m ∧ a.eval y = .int k m) := by
  rcases opt_one hx with ⟨rfl, rfl⟩ | ⟨y, d, rfl, rfl, hd⟩
  · simp [optInt] at h; exact ⟨h.2.symm, .inl ⟨rfl, h.1.symm⟩⟩
  · have h1 := opd_sound hC hd
    simp only [Option.isSome_some, List.map_cons, List.map_nil, List.cons_append, List.nil_append] at h
    generalize fr.ev d = X at *
    cases X <;> simp [optInt] at h
    obtain ⟨rfl, rfl⟩ := h
    exact ⟨rfl, .inr ⟨y, _, _, rfl, rfl, rep_int h1⟩⟩

theorem bnds_sound (hC : Conc n G w ⟨fr, st⟩ a) {t : TypeId} {lo hi mx : Option Operand} {xs ys zs : List Opd} (hx : lo.toList.mapM (opd P t) = some xs) (hy : hi.toList.mapM (opd P t) = some ys) (hz : mx.toList.mapM (opd P t) = some zs)
    (hm : mx.isSome = true → hi.isSome = true) {len cap cap' : Nat} (hcap : cap ≤ cap') {l h m : Nat} (hb : bnds len cap lo.isSome hi.isSome mx.isSome ((xs ++ ys ++ zs).map fr.ev) = some (l, h, m)) (isS : Bool) :
    l ≤ h ∧ h ≤ m ∧ m ≤ cap ∧ (mx = none → m = cap) ∧ (Instr.sliceBounds isS len cap' (lo.map a.eval) (hi.map a.eval) (mx.map a.eval)).run P w = .ok (l, h, if mx.isSome then m else cap') w := by
  unfold bnds at hb
  simp only [List.map_append, List.append_assoc] at hb
  simp only [Option.bind_eq_some_iff] at hb
  obtain ⟨⟨l', r1⟩, hl, ⟨h', r2⟩, hh, ⟨m', r3⟩, hm', hb⟩ := hb
  obtain ⟨rfl, hL⟩ := optInt_sound hC hx hl
  obtain ⟨rfl, hH⟩ := optInt_sound hC hy hh
  rw [← List.append_nil (List.map fr.ev zs)] at hm'
  obtain ⟨rfl, hM⟩ := optInt_sound hC hz hm'
  simp only at hb
  split at hb
  · rename_i hc
    obtain ⟨c1, c2, c3, c4⟩ := hc
    simp only [Option.some.injEq, Prod.mk.injEq] at hb
    obtain ⟨rfl, rfl, rfl⟩ := hb
    refine ⟨by omega, by omega, by omega, ?_, ?_⟩
    · rintro rfl
      rcases hM with ⟨_, rfl⟩ | ⟨y, _, _, hy, _⟩
      · simp
      · cases hy
    have key : ∀ (k : IntKind) (v : Int) (y : Nat) (c : BoundsCode), 0 ≤ v → v ≤ y → (Instr.sliceBound (.int k v) y c).run P w = .ok v.toNat w := by
      intro k v y c h1 h2
      simp [Instr.sliceBound, asIntOf, h1, h2]
    rcases hM with ⟨rfl, rfl⟩ | ⟨ym, km, mm, rfl, rfl, em⟩
    · rcases hH with ⟨rfl, rfl⟩ | ⟨yh, kh, mh, rfl, rfl, eh⟩ <;> rcases hL with ⟨rfl, rfl⟩ | ⟨yl, kl, ml, rfl, rfl, el⟩ <;>
        simp only [Option.getD_none, Option.getD_some] at c1 c2 c3 c4 ⊢ <;> simp only [Instr.sliceBounds, Option.map_none, Option.map_some, Sem.run_bind, Sem.run_pure, Result.andThen_ok] <;> (try simp only [eh]) <;> (try simp only [el])
      · simp
      · rw [key _ _ _ _ c1 (by omega)]; simp
      · rw [key _ _ _ _ (by omega) (by omega)]; simp
      · rw [key _ _ _ _ (by omega) (by omega)]; simp only [Result.andThen_ok]; rw [key _ _ _ _ (by omega) (by omega)]; simp
    · rcases hH with ⟨rfl, rfl⟩ | ⟨yh, kh, mh, rfl, rfl, eh⟩
      · simp at hm
      · rcases hL with ⟨rfl, rfl⟩ | ⟨yl, kl, ml, rfl, rfl, el⟩ <;>
          simp only [Option.getD_none, Option.getD_some] at c1 c2 c3 c4 ⊢ <;> simp only [Instr.sliceBounds, Option.map_none, Option.map_some, Sem.run_bind, Sem.run_pure, Result.andThen_ok, em, eh] <;> (try simp only [el])
        · rw [key _ _ _ _ (by omega) (by omega)]; simp only [Result.andThen_ok]; rw [key _ _ _ _ (by omega) (by omega)]; simp
        · rw [key _ _ _ _ (by omega) (by omega)]; simp only [Result.andThen_ok]; rw [key _ _ _ _ (by omega) (by omega)]; simp only [Result.andThen_ok]; rw [key _ _ _ _ (by omega) (by omega)]; simp
  · cases hb


theorem flat_take {e : Nat} : ∀ {l : List AVal} (m : Nat), (∀ y ∈ l, y.cells.length = e) → flat (l.take m) = (flat l).take (m * e)
  | [], m, _ => by simp [flat]
  | y :: l, 0, _ => by simp [flat]
  | y :: l, m + 1, h => by
    have := flat_take (l := l) m fun z hz => h z (by simp [hz])
    have hy := h y (by simp)
    simp only [flat, List.take_succ_cons, List.flatMap_cons] at *
    have e1 : y.cells.take (m * e + e) = y.cells := List.take_of_length_le (by omega)
    have e2 : m * e + e - y.cells.length = m * e := by omega
    rw [this, Nat.succ_mul, List.take_append, e1, e2]

theorem flat_drop {e : Nat} : ∀ {l : List AVal} (m : Nat), (∀ y ∈ l, y.cells.length = e) → flat (l.drop m) = (flat l).drop (m * e)
  | [], m, _ => by simp [flat]
  | y :: l, 0, _ => by simp
  | y :: l, m + 1, h => by
    have := flat_drop (l := l) m fun z hz => h z (by simp [hz])
    have hy := h y (by simp)
    simp only [flat, List.drop_succ_cons, List.flatMap_cons] at *
    have e1 : y.cells.drop (m * e + e) = [] := List.drop_eq_nil_of_le (by omega)
    have e2 : m * e + e - y.cells.length = m * e := by omega
    rw [this, Nat.succ_mul, List.drop_append, e1, e2, List.nil_append]

theorem bytes_extract (s : ByteArray) (l h : Nat) : (s.extract l h).data.toList = (s.data.toList.take h).drop l := by
  have : (s.extract l h).data = s.data.extract l h := by simp
  rw [this, Array.toList_extract, List.extract_eq_take_drop, List.drop_take]

theorem slS_ok {o : Oper} {t : TypeId} {x : Operand} {lo hi : Option Operand} (ho : o.op = .slice t x lo hi none) (hu : P.underlying t = some .string)
    {d : Opd} {xs ys : List Opd} (hd : opd P t x = some d) (hx : lo.toList.mapM (opd P o.type) = some xs) (hy : hi.toList.mapM (opd P o.type) = some ys) :
    PureOK P n o (.slS lo.isSome hi.isSome) (d :: (xs ++ ys)) := by
  intro G w fr st a v hC hv
  have h1 := opd_sound hC hd
  simp only [List.map_cons] at hv
  generalize fr.ev d = X at *
  generalize hVX : a.eval x = VX at *
  cases X <;> simp only [pev, Option.map_eq_some_iff, reduceCtorEq] at hv
  obtain ⟨⟨l, h, m⟩, hb, rfl⟩ := hv
  cases h1 with
  | str s b hs hb' =>
    subst hs
    have hb2 : bnds b.data.toList.length b.data.toList.length lo.isSome hi.isSome (none : Option Operand).isSome ((xs ++ ys ++ []).map fr.ev) = some (l, h, m) := by simpa using hb
    obtain ⟨c1, c2, c3, _, hr⟩ := bnds_sound hC hx hy (mx := none) (zs := []) (by simp) (by simp) (Nat.le_refl _) hb2 false
    have hr' : (Instr.sliceBounds false b.size b.size (lo.map a.eval) (hi.map a.eval) none).run P w = .ok (l, h, b.size) w := by simpa using hr
    refine stay hC (.string (b.extract l h)) (by simp [execOp, ho, hVX, Instr.sliceAt, Instr.slice, underlying, hu, hr']) (.str _ _ (bytes_extract _ _ _) ?_)
    simp at hb' ⊢
    omega

theorem slL_list_ok {o : Oper} {t el : TypeId} {x : Operand} {lo hi mx : Option Operand} {e : Nat} (ho : o.op = .slice t x lo hi mx) (hu : P.underlying t = some (.slice el)) (he : eszOf P el = some e) (hm : mx.isSome = true → hi.isSome = true)
    {d : Opd} {xs ys zs : List Opd} (hd : opd P t x = some d) (hx : lo.toList.mapM (opd P o.type) = some xs) (hy : hi.toList.mapM (opd P o.type) = some ys) (hz : mx.toList.mapM (opd P o.type) = some zs) :
    PureOK P n o (.slL e lo.isSome hi.isSome mx.isSome) (d :: (xs ++ ys ++ zs)) := by
  intro G w fr st a v hC hv
  have h1 := opd_sound hC hd
  obtain ⟨inf, hinf, hsz⟩ := eszOf_info he
  simp only [List.map_cons] at hv
  generalize fr.ev d = X at *
  generalize hVX : a.eval x = VX at *
  cases X <;> simp only [pev, reduceCtorEq] at hv
  · split at hv
    · rename_i tag e' l hee
      subst hee
      simp only [Option.map_eq_some_iff] at hv
      obtain ⟨⟨p, q, m⟩, hb, rfl⟩ := hv
      cases h1 with
      | list tag e l ad cap vs hc hbd hel hr hi' hn ht =>
        obtain ⟨c1, c2, c3, c4, hrun⟩ := bnds_sound hC hx hy hz hm hc hb true
        have hex : (execOp a.eval o).run P w = .ok (.value (.slice (if (if mx.isSome then m else cap) = p then ad else ad.map (·.add (p * e))) (q - p) ((if mx.isSome then m else cap) - p))) w := by
          simp [execOp, ho, hVX, Instr.sliceAt, Instr.slice, underlying, hu, hrun, sizeOf, typeInfo, hinf, hsz]
        have hlen : (q - p) = ((l.take q).drop p).length := by simp; omega
        rw [hlen] at hex
        have hel' : ∀ y ∈ (l.take q).drop p, y.cells.length = e := fun y hy => hel y (List.mem_of_mem_take (List.mem_of_mem_drop hy))
        have hM : (if mx.isSome then m else cap) ≤ cap := by split <;> omega
        have hM' : q ≤ (if mx.isSome then m else cap) := by split <;> omega
        generalize hMM : (if mx.isSome then m else cap) = M at *
        refine stay hC _ hex (.list _ e _ _ (M - p) ((vs.take (q * e)).drop (p * e)) (by simp; omega) (by omega) hel' ?_ ?_ ?_ ?_)
        · rw [flat_drop _ (fun y hy => hel y (List.mem_of_mem_take hy)), flat_take _ hel]
          exact (hr.take _).drop _
        · intro ad' ead
          cases ad with
          | none => split at ead <;> simp at ead
          | some ad =>
            obtain ⟨s1, s2⟩ := hi' ad rfl
            obtain ⟨b, off, sp⟩ := ad
            simp only at s1; subst s1
            split at ead
            · cases ead
              rename_i hp
              refine ⟨rfl, ?_⟩
              have : (vs.take (q * e)).drop (p * e) = [] := by
                apply List.drop_eq_nil_of_le
                have : q ≤ p := by omega
                have := Nat.mul_le_mul_right e this
                simp; omega
              rw [this]
              intro i v hv; simp at hv
            · simp only [Option.map_some, Option.some.injEq] at ead
              subst ead
              rw [add_mk]
              exact ⟨rfl, (s2.take _).drop _⟩
        · intro ead
          cases ad with
          | none => have := hn rfl; omega
          | some ad => split at ead <;> simp at ead
        · by_cases hf : (decide (m = q) && (mx.isSome || tag.isFull)) = true
          · rw [if_pos hf]
            simp only [Bool.and_eq_true, decide_eq_true_eq, Bool.or_eq_true] at hf
            show M - p = ((l.take q).drop p).length
            rw [← hlen]
            rcases hf with ⟨rfl, hf | hf⟩
            · rw [if_pos hf] at hMM; omega
            · cases tag <;> simp [Tag.isFull] at hf
              have hcl : cap = l.length := ht
              cases hmx : mx with
              | none =>
                have := c4 hmx
                rw [hmx] at hMM
                simp at hMM
                omega
              | some y => rw [hmx] at hMM; simp at hMM; omega
          · rw [if_neg hf]; trivial
    · cases hv
  · split at hv
    · rename_i k v e' off len hee
      obtain ⟨rfl, hmx⟩ := hee
      have hmx' : mx = none := by cases mx <;> simp_all
      subst hmx'
      simp only [Option.map_eq_some_iff] at hv
      obtain ⟨⟨p, q, m⟩, hb, rfl⟩ := hv
      cases h1 with
      | msl k v e off len ad cap hc hbd hn h hxx =>
        obtain ⟨c1, c2, c3, c4, hrun⟩ := bnds_sound hC hx hy (mx := none) hz hm hc hb true
        have hex : (execOp a.eval o).run P w = .ok (.value (.slice (if cap = p then ad else ad.map (·.add (p * e))) (q - p) (cap - p))) w := by
          have hrun' : (Instr.sliceBounds true len cap (lo.map a.eval) (hi.map a.eval) none).run P w = .ok (p, q, cap) w := by simpa using hrun
          simp [execOp, ho, hVX, Instr.sliceAt, Instr.slice, underlying, hu, hrun', sizeOf, typeInfo, hinf, hsz]
        refine stay hC _ hex ?_
        show Rep G st (.msl k v e (off + p * e) (q - p)) _
        refine .msl _ _ _ _ _ _ _ (by omega) (by omega) ?_ h fun ev ad' ead hcap => ?_
        · intro ead
          cases ad with
          | none => have := hn rfl; omega
          | some ad => split at ead <;> simp at ead
        · rw [if_neg (by omega)] at ead
          cases ad with
          | none => simp at ead
          | some ad =>
            obtain ⟨rfl, hh⟩ := hxx ev ad rfl (by omega)
            simp only [Option.map_some, Option.some.injEq] at ead
            subst ead
            rw [add_mk]
            refine ⟨rfl, ?_⟩
            have : (cap - p) * e + p * e = cap * e := by rw [← Nat.add_mul]; congr 1; omega
            omega
    · cases hv


theorem lenL_ok {o : Oper} {c : Call} {t el : TypeId} {x : Operand} (ho : o.op = .call c) (hb : c.callee = .builtin .len) (hargs : c.args.toList = [x]) (hts : c.argTypes.toList = [t]) (hu : P.underlying t = some (.slice el))
    {dx : Opd} (hx : opd P t x = some dx) : PureOK P n o .lenL [dx] := by
  intro G w fr st a v hC hv
  have h1 := opd_sound hC hx
  simp only [List.map_cons, List.map_nil] at hv
  generalize fr.ev dx = X at *
  obtain ⟨callee, args, argTypes⟩ := c
  simp only at hb hargs hts
  obtain rfl : args = #[x] := by rw [← Array.toArray_toList (xs := args), hargs]
  obtain rfl : argTypes = #[t] := by rw [← Array.toArray_toList (xs := argTypes), hts]
  subst hb
  generalize hVX : a.eval x = VX at *
  cases X <;> simp [pev] at hv
  · subst hv
    cases h1
    exact stay hC (.int .i64 _) (by simp [execOp, ho, resolve, invoke, builtin, Builtin.len_, underlying, hu, hVX, goInt]) (.int _ _)
  · subst hv
    cases h1
    exact stay hC (.int .i64 _) (by simp [execOp, ho, resolve, invoke, builtin, Builtin.len_, underlying, hu, hVX, goInt]) (.int _ _)

theorem lenC_ok {o : Oper} {c : Call} {t el : TypeId} {N : Nat} {x : Operand} (ho : o.op = .call c) (hb : c.callee = .builtin .len) (hargs : c.args.toList = [x]) (hts : c.argTypes.toList = [t]) (hu : P.underlying t = some (.array N el))
    {dx : Opd} (hx : opd P t x = some dx) : PureOK P n o (.lenC N) [dx] := by
  intro G w fr st a v hC hv
  simp [pev] at hv
  subst hv
  obtain ⟨callee, args, argTypes⟩ := c
  simp only at hb hargs hts
  obtain rfl : args = #[x] := by rw [← Array.toArray_toList (xs := args), hargs]
  obtain rfl : argTypes = #[t] := by rw [← Array.toArray_toList (xs := argTypes), hts]
  subst hb
  exact stay hC (.int .i64 N) (by simp [execOp, ho, resolve, invoke, builtin, Builtin.len_, underlying, hu, goInt]) (.int _ _)

theorem ext_ok {o : Oper} {x : Operand} {i : Nat} (ho : o.op = .extract x i) {d : Opd} (hd : opd P o.type x = some d) : PureOK P n o (.ext i) [d] := by
  intro G w fr st a v hC hv
  have h1 := opd_sound hC hd
  simp only [List.map_cons, List.map_nil] at hv
  generalize fr.ev d = X at *
  generalize hX : a.eval x = V at *
  cases X <;> simp [pev] at hv
  cases h1 with
  | tup l vs hr =>
    obtain ⟨y, hy, hry⟩ := hr.get hv
    have hy' : vs[i]? = some y := by simpa using hy
    exact stay hC y (by simp [execOp, ho, hX, Instr.extract, hy']) hry

theorem nilchk_ok {o : Oper} {x : Operand} (ho : o.op = .nilCheck x) {d : Opd} (hd : opd P o.type x = some d) : PureOK P n o .nilchk [d] := by
  intro G w fr st a v hC hv
  have h1 := opd_sound hC hd
  simp only [List.map_cons, List.map_nil] at hv
  generalize fr.ev d = X at *
  generalize hX : a.eval x = V at *
  cases X <;> simp [pev] at hv
  · subst hv
    have h1' := h1
    cases h1
    exact stay hC _ (by simp [execOp, ho, hX]) h1'
  · subst hv
    have h1' := h1
    cases h1
    exact stay hC _ (by simp [execOp, ho, hX]) h1'
  · rename_i f p q
    cases f <;> simp at hv
    subst hv
    have h1' := h1
    cases h1
    exact stay hC _ (by simp [execOp, ho, hX]) h1'

theorem opds_sound (hC : Conc n G w ⟨fr, st⟩ a) {t : TypeId} {l : List Operand} {ds : List Opd} (h : l.mapM (opd P t) = some ds) : RepL G st (ds.map fr.ev) (l.map a.eval) := by
  obtain ⟨h1, h2⟩ := mapM_get h
  refine RepL.ofGet (by simp [h1]) fun i x v hx hv => ?_
  simp only [List.getElem?_map, Option.map_eq_some_iff] at hx hv
  obtain ⟨d, hd, rfl⟩ := hx
  obtain ⟨y, hy, rfl⟩ := hv
  obtain ⟨d', hd', he⟩ := h2 i y hy
  rw [hd] at hd'
  cases hd'
  exact opd_sound hC he

theorem mkf_ok {o : Oper} {fn : Fn} {p q : Array Operand} (ho : o.op = .makeFunc fn p q) {xs ys : List Opd} (hx : p.toList.mapM (opd P o.type) = some xs) (hy : q.toList.mapM (opd P o.type) = some ys) :
    PureOK P n o (.mkf fn p.size) (xs ++ ys) := by
  intro G w fr st a v hC hv
  simp [pev] at hv
  subst hv
  have hl : xs.length = p.size := by simpa using (mapM_get hx).1
  refine stay hC (.func fn (p.map a.eval) (q.map a.eval)) (by simp [execOp, ho, Instr.makeFunc]) (.fn _ _ _ _ _ ?_ ?_)
  · have := opds_sound hC hx
    simpa [← hl, List.take_append] using this
  · have := opds_sound hC hy
    simpa [← hl, List.drop_append] using this

theorem mki_ok {o : Oper} {t : TypeId} {x : Operand} {ds : TypeDesc} (ho : o.op = .makeInterface t x) (hu : P.underlying t = some ds) (hni : ∀ m, ds ≠ .interface m) {d : Opd} (hd : opd P t x = some d) : PureOK P n o (.mki t) [d] := by
  intro G w fr st a v hC hv
  simp [pev] at hv
  subst hv
  refine stay hC (.iface t (a.eval x)) ?_ (.iface _ _ _ (opd_sound hC hd))
  cases ds <;> simp_all [execOp, Instr.makeInterface, underlying]


theorem two_args {c : Call} {x y : Operand} {t u : TypeId} {b : Builtin} (hb : c.callee = .builtin b) (hargs : c.args.toList = [x, y]) (hts : c.argTypes.toList = [t, u]) : c = ⟨.builtin b, #[x, y], #[t, u]⟩ := by
  obtain ⟨callee, args, argTypes⟩ := c
  simp only at hb hargs hts
  obtain rfl : args = #[x, y] := by rw [← Array.toArray_toList (xs := args), hargs]
  obtain rfl : argTypes = #[t, u] := by rw [← Array.toArray_toList (xs := argTypes), hts]
  subst hb
  rfl

theorem mn_ok {o : Oper} {c : Call} {t u : TypeId} {x y : Operand} (ho : o.op = .call c) (hb : c.callee = .builtin .min) (hargs : c.args.toList = [x, y]) (hts : c.argTypes.toList = [t, u])
    {dx dy : Opd} (hx : opd P t x = some dx) (hy : opd P u y = some dy) : PureOK P n o .mn [dx, dy] := by
  intro G w fr st a v hC hv
  have h1 := opd_sound hC hx
  have h2 := opd_sound hC hy
  rw [two_args hb hargs hts] at ho
  simp only [List.map_cons, List.map_nil] at hv
  generalize fr.ev dx = X at *
  generalize fr.ev dy = Y at *
  generalize hVX : a.eval x = VX at *
  generalize hVY : a.eval y = VY at *
  cases X <;> cases Y <;> simp [pev] at hv
  obtain ⟨rfl, hv⟩ := hv
  subst hv
  cases h1; cases h2
  exact stay hC _ (by simp [execOp, ho, resolve, invoke, builtin, Builtin.min_, Builtin.min2, hVX, hVY]) (.int _ _)

theorem mx_ok {o : Oper} {c : Call} {t u : TypeId} {x y : Operand} (ho : o.op = .call c) (hb : c.callee = .builtin .max) (hargs : c.args.toList = [x, y]) (hts : c.argTypes.toList = [t, u])
    {dx dy : Opd} (hx : opd P t x = some dx) (hy : opd P u y = some dy) : PureOK P n o .mx [dx, dy] := by
  intro G w fr st a v hC hv
  have h1 := opd_sound hC hx
  have h2 := opd_sound hC hy
  rw [two_args hb hargs hts] at ho
  simp only [List.map_cons, List.map_nil] at hv
  generalize fr.ev dx = X at *
  generalize fr.ev dy = Y at *
  generalize hVX : a.eval x = VX at *
  generalize hVY : a.eval y = VY at *
  cases X <;> cases Y <;> simp [pev] at hv
  obtain ⟨rfl, hv⟩ := hv
  subst hv
  cases h1; cases h2
  exact stay hC _ (by simp [execOp, ho, resolve, invoke, builtin, Builtin.max_, Builtin.max2, hVX, hVY]) (.int _ _)

theorem assertOk_ok {o : Oper} {x : Operand} {u t : TypeId} {z : Zero} {ag : Bool} {ds : TypeDesc} (ho : o.op = .typeAssert x u t true) (hu : P.underlying t = some ds) (hni : ∀ m, ds ≠ .interface m)
    {d : Opd} (hd : opd P o.type x = some d) : PureOK P n o (.assertOk t z ag) [d] := by
  intro G w fr st a v hC hv
  have h1 := opd_sound hC hd
  simp only [List.map_cons, List.map_nil] at hv
  generalize fr.ev d = X at *
  generalize hX : a.eval x = V at *
  cases X <;> simp [pev] at hv
  obtain ⟨rfl, hv⟩ := hv
  subst hv
  cases h1 with
  | iface t y x' h =>
    refine stay hC (.tuple #[x', .bool true]) ?_ (.tup _ _ (.cons _ _ _ _ h (.cons _ _ _ _ (.bool true) .nil)))
    cases ds <;> simp_all [execOp, Instr.typeAssert, underlying]

theorem bytesOf_sound : ∀ {l : List AVal} {vs : List Value} {bs : List UInt8}, RepL G st l vs → bytesOf l = some bs →
    ∃ ns : List Int, vs = ns.map (Value.int .u8) ∧ bs = ns.map fun m => UInt8.ofNat m.toNat
  | [], _, bs, .nil, h => by simp [bytesOf] at h; subst h; exact ⟨[], rfl, rfl⟩
  | _ :: l, _, bs, .cons a x _ vs hr t, h => by
    unfold bytesOf at h
    split at h
    · cases ‹_ :: _ = []›
    · rename_i m l' e
      cases e
      simp only [Option.map_eq_some_iff] at h
      obtain ⟨bs', hb, rfl⟩ := h
      obtain ⟨ns, e1, e2⟩ := bytesOf_sound t hb
      exact ⟨m :: ns, by simp [e1, rep_int hr], by simp [e2]⟩
    · cases h

theorem foldl_push_toList : ∀ (ns : List Int) (s : ByteArray), (ns.foldl (fun r m => r.push (UInt8.ofNat m.toNat)) s).data.toList = s.data.toList ++ ns.map fun m => UInt8.ofNat m.toNat
  | [], s => by simp
  | m :: ns, s => by
    simp only [List.foldl_cons, List.map_cons]
    rw [foldl_push_toList ns]
    simp

theorem immCells.cell (hC : ConcS G w st) {b off : Nat} {vs : List Value} (h : immCells G b off vs) (j : Nat) (v : Value) (hv : vs[j]? = some v) : w.cell? ((⟨b, off, none⟩ : Addr).add j) = some v := by
  rw [add_mk]; exact hC.imm _ _ _ (h j v hv)

theorem bytesOf_flat : ∀ {l : List AVal} {bs : List UInt8}, bytesOf l = some bs → flat l = l
  | [], _, _ => rfl
  | y :: l, bs, h => by
    unfold bytesOf at h
    split at h
    · cases ‹_ :: _ = []›
    · rename_i m l' e
      cases e
      simp only [Option.map_eq_some_iff] at h
      obtain ⟨bs', hb, rfl⟩ := h
      have := bytesOf_flat hb
      simp only [flat, List.flatMap_cons, AVal.cells] at *
      rw [this]; rfl
    · cases h

theorem bytesOf_length : ∀ {l : List AVal} {bs : List UInt8}, bytesOf l = some bs → bs.length = l.length
  | [], _, h => by simp [bytesOf] at h; subst h; rfl
  | y :: l, bs, h => by
    unfold bytesOf at h
    split at h
    · cases ‹_ :: _ = []›
    · rename_i m l' e
      cases e
      simp only [Option.map_eq_some_iff] at h
      obtain ⟨bs', hb, rfl⟩ := h
      simp [bytesOf_length hb]
    · cases h

theorem rep_cells {a : AVal} {x : Value} (h : Rep G st a x) (hv : isV a = true) : RepL G st a.cells x.cells.toList := by
  cases h <;> first
    | (simp [isV] at hv; done)
    | assumption
    | (exact .cons _ _ _ _ (by constructor <;> assumption) .nil)

theorem foldl_fill (off : Nat) : ∀ (vs : List Value) (k : Nat) (cs : Array Value), off + k + vs.length ≤ cs.size →
    ((vs.zipIdx k).foldl (fun cs (p : Value × Nat) => cs.setIfInBounds (off + p.2) p.1) cs).toList = cs.toList.take (off + k) ++ vs ++ cs.toList.drop (off + k + vs.length)
  | [], k, cs, h => by simp
  | v :: vs, k, cs, h => by
    simp only [List.length_cons] at h
    simp only [List.zipIdx_cons, List.foldl_cons]
    rw [foldl_fill off vs (k + 1) _ (by simp; omega)]
    have hk : off + k < cs.size := by omega
    rw [Array.toList_setIfInBounds]
    have e1 : (cs.toList.set (off + k) v).take (off + (k + 1)) = cs.toList.take (off + k) ++ [v] := by
      rw [← Nat.add_assoc, List.take_add_one, List.take_set_of_le (Nat.le_refl _)]
      simp [hk]
    have e2 : (cs.toList.set (off + k) v).drop (off + (k + 1) + vs.length) = cs.toList.drop (off + k + (vs.length + 1)) := by
      rw [List.drop_set_of_lt (by omega)]
      congr 1
      omega
    rw [e1, e2]
    simp

theorem fill_sound {place : Nat → Option (Nat × Nat)} : ∀ (ps : List (Nat × Nat)) (is : List Nat) (vs : List AVal) (xs : List Value) (l cs : List AVal) (zs : Array Value), RepL G st l zs.toList → RepL G st vs xs →
    is.length = ps.length → (∀ (j : Nat) (i : Nat), is[j]? = some i → place i = ps[j]?) → fillA l ps vs = some cs → ∃ ys, Instr.fill place zs (is.zip xs) = some ys ∧ RepL G st cs ys.toList
  | [], is, [], _, l, cs, zs, hl, .nil, hn, hp, h => by
    simp [fillA] at h; subst h
    have : is = [] := by simpa using hn
    subst this
    exact ⟨zs, rfl, hl⟩
  | [], is, v :: vs, _, l, cs, zs, hl, hr, hn, hp, h => by simp [fillA] at h
  | (off, sz) :: ps, is, [], _, l, cs, zs, hl, hr, hn, hp, h => by simp [fillA] at h
  | (off, sz) :: ps, [], v :: vs, _, l, cs, zs, hl, hr, hn, hp, h => by simp at hn
  | (off, sz) :: ps, i :: is, v :: vs, _, l, cs, zs, hl, .cons _ x _ xs hx hxs, hn, hp, h => by
    simp only [fillA] at h
    split at h
    · rename_i hc
      obtain ⟨c1, c2, c3⟩ := hc
      have hcl := rep_cells hx c1
      have hcn := hcl.length
      have hzn := hl.length
      simp only [Array.length_toList] at hcn hzn
      have hpl : place i = some (off, sz) := by simpa using hp 0 i rfl
      have hfl := foldl_fill off x.cells.toList 0 zs (by simp; omega)
      simp only [Nat.add_zero, Array.length_toList] at hfl
      obtain ⟨ys, h1, h2⟩ := fill_sound ps is vs xs (l.take off ++ v.cells ++ l.drop (off + sz)) cs ((x.cells.toList.zipIdx 0).foldl (fun cs (p : Value × Nat) => cs.setIfInBounds (off + p.2) p.1) zs)
        (by rw [hfl]; have e : x.cells.size = sz := by omega
            rw [e]
            exact ((hl.take _).append hcl).append (hl.drop _)) hxs (by simpa using hn) (fun j k hj => by simpa using hp (j + 1) k (by simpa using hj)) h
      refine ⟨ys, ?_, h2⟩
      simp only [List.zip_cons_cons, Instr.fill, hpl]
      rw [if_neg (by simp; omega)]
      rw [← h1]
      congr 1
      rw [← Array.foldl_toList]
      simp
    · cases h


theorem zeroA_sound {t : TypeId} {z : Zero} (h : zeroA P t = some z) : ∃ inf Z, P.info? t = some inf ∧ inf.zero = some Z ∧ Z.cells.size = inf.size ∧ RepL G st z.cells Z.cells.toList := by
  unfold zeroA at h
  cases hi : P.info? t with
  | none => simp [hi] at h
  | some inf =>
    simp only [hi, Option.bind_eq_bind, Option.bind_some] at h
    cases hz : inf.zero with
    | none => simp [hz] at h
    | some Z =>
      simp only [hz, Option.bind_some] at h
      split at h
      · rename_i hsz
        refine ⟨inf, Z, rfl, hz, hsz, ?_⟩
        split at h
        · cases hts : cellTys P 8 t with
          | none => simp [hts] at h
          | some ts =>
            simp only [hts, Option.bind_some] at h
            split at h
            · rename_i hl
              obtain ⟨h1, h2⟩ := mapM_get h
              have hzc : z.cells = z.map (·.2) := by
                have hall : ∀ p ∈ z, p.1 = 1 := by
                  intro p hp
                  obtain ⟨i, hi⟩ := List.mem_iff_getElem?.1 hp
                  have hlt : i < (ts.zip Z.cells.toList).length := by rw [← h1]; exact (List.getElem?_eq_some_iff.1 hi).1
                  obtain ⟨b, hb, he⟩ := h2 i _ (List.getElem?_eq_getElem hlt)
                  rw [hi] at hb
                  cases hb
                  simp only [Option.map_eq_some_iff] at he
                  obtain ⟨x, _, rfl⟩ := he
                  rfl
                clear h h1 h2
                induction z with
                | nil => rfl
                | cons p z ih =>
                  have hp := hall p (by simp)
                  have := ih (fun q hq => hall q (by simp [hq]))
                  simp only [Zero.cells, List.flatMap_cons, List.map_cons, hp] at *
                  rw [this]; rfl
              rw [hzc]
              refine RepL.ofGet (by simp [h1, hl, hsz]) fun i a v ha hv => ?_
              simp only [List.getElem?_map, Option.map_eq_some_iff] at ha
              obtain ⟨p, hp, rfl⟩ := ha
              have hlt : i < (ts.zip Z.cells.toList).length := by rw [← h1]; exact (List.getElem?_eq_some_iff.1 hp).1
              obtain ⟨b, hb, he⟩ := h2 i _ (List.getElem?_eq_getElem hlt)
              rw [hp] at hb
              cases hb
              simp only [Option.map_eq_some_iff] at he
              obtain ⟨x, hx, rfl⟩ := he
              simp only [List.getElem_zip] at hx
              have hv' : v = Z.cells.toList[i]'(by simp at hlt; simp; omega) := by
                rw [List.getElem?_eq_getElem (by simp at hlt; simp; omega)] at hv
                exact (Option.some.inj hv).symm
              rw [hv']
              exact scalarA_sound hx
            · cases h
        · cases hs : sameInts Z.cells.toList with
          | none => simp [hs] at h
          | some kn =>
            obtain ⟨k, m⟩ := kn
            simp [hs] at h
            subst h
            have hz' : (Zero.cells [(inf.size, AVal.int k m)]) = List.replicate inf.size (.int k m) := by simp [Zero.cells]
            rw [hz']
            have hall : ∀ v ∈ Z.cells.toList, v = .int k m := by
              unfold sameInts at hs
              split at hs
              · rename_i k' m' l hl
                split at hs
                · rename_i hall
                  simp only [Option.some.injEq, Prod.mk.injEq] at hs
                  obtain ⟨rfl, rfl⟩ := hs
                  intro v hv
                  rw [hl] at hv
                  rcases List.mem_cons.1 hv with rfl | hv
                  · rfl
                  · have := List.all_eq_true.1 hall v hv
                    split at this
                    · simp at this; rw [this.1, this.2]
                    · cases this
                · cases hs
              · cases hs
            refine RepL.ofGet (by simp [hsz]) fun i a v ha hv => ?_
            have hv' := hall v (List.mem_of_getElem? hv)
            have ha' : a = .int k m := by
              have := List.mem_of_getElem? ha
              exact List.eq_of_mem_replicate this
            rw [hv', ha']
            exact .int _ _
      · cases h

/-! ## New memory that never changes -/

def Ghost.addImm (G : Ghost) (b : Nat) (cs : Array Value) : Ghost := { G with imm := fun b' o => if b' = b then cs[o]? else G.imm b' o }

theorem ConcS.imm_lt (hC : ConcS G w st) {b o : Nat} {v : Value} (h : G.imm b o = some v) : b < w.heap.size := by
  have := hC.imm b o v h
  unfold World.cell? at this
  split at this
  · rename_i hb; exact (Array.getElem?_eq_some_iff.1 hb).1
  · cases this

theorem RepEntry.later {G' : Ghost} {st' : Store} (h : Later G st G' st') {e : AEntry} {x : MapEntry} (hr : RepEntry G st e x) : RepEntry G' st' e x :=
  ⟨hr.1, hr.2.1.later h, hr.2.2.later h⟩

/-- An object stays what it is where its block stays as it is. -/
theorem ObjOK.later {G' : Ghost} {st' : Store} {w' : World} (h : Later G st G' st') {k : Key} (hv : (st' k).ver = (st k).ver) {o : AObj} (hb : w'.heap[G.blk k]? = w.heap[G.blk k]?)
    (ho : ObjOK G st w k o) : ObjOK G' st' w' k o := by
  obtain ⟨b1, b2, b3⟩ := h.blk k hv
  cases o with
  | cells l =>
    obtain ⟨vs, el, fz, us, rest, h1, h2, h3, h4, h5⟩ := ho
    exact ⟨vs, el, fz, us, rest, by rw [b1, hb, h1], h2, h3.later h, h4, by rw [b3, h5]⟩
  | map es c =>
    obtain ⟨ents, h1, h2, h3⟩ := ho
    exact ⟨ents, by rw [b1, hb, h1], h2, fun i p q => (h3 i p q).later h⟩
  | iter m mv since seen stepped =>
    obtain ⟨h0, h1⟩ := ho
    refine ⟨Nat.le_trans h0 (h.ver m), fun e => ?_⟩
    have := h.ver m
    rw [b1, hb, (h.blk m (by omega)).1]
    exact h1 (by omega)
  | tail m =>
    intro hlt
    rw [b2, b3] at hlt
    obtain ⟨vs, el, fz, h1, h2, h3⟩ := ho hlt
    exact ⟨vs, el, fz, by rw [b1, hb, h1], h2, by rw [b3, h3]⟩

theorem Owns.congr {G' : Ghost} {k : Key} {b : Nat} (hb : G'.blk k = G.blk k ∧ G'.lo k = G.lo k ∧ G'.hi k = G.hi k) : Owns G' st k b ↔ Owns G st k b := by
  obtain ⟨h1, h2, h3⟩ := hb
  unfold Owns
  rw [h1, h2, h3]

theorem heap_alloc_size (w : World) (o : Obj) : (w.alloc o).heap.size = w.heap.size + 1 := by
  show (w.heap.push o).size = _
  simp

theorem heap_alloc_at (w : World) (o : Obj) : (w.alloc o).heap[w.heap.size]? = some o := by
  show (w.heap.push o)[w.heap.size]? = _
  simp

/-- The world with a new block. -/
theorem heap_alloc_lt (w : World) (o : Obj) {b : Nat} (h : b < w.heap.size) : (w.alloc o).heap[b]? = w.heap[b]? := by
  show (w.heap.push o)[b]? = _
  rw [Array.getElem?_push]
  rw [if_neg (by omega)]

theorem conc_newImm (hC : ConcS G w st) (cs : Array Value) (el : TypeId) (hone : ∀ v ∈ cs.toList, one v = true) :
    ConcS (G.addImm w.heap.size cs) (w.alloc (.cells cs el)) st ∧ Ext G w st (G.addImm w.heap.size cs) (w.alloc (.cells cs el)) st ∧ immCells (G.addImm w.heap.size cs) w.heap.size 0 cs.toList := by
  have hl : Later G st (G.addImm w.heap.size cs) st := {
    imm := fun b o v h => by
      have := hC.imm_lt h
      simp only [Ghost.addImm]
      rw [if_neg (by omega)]
      exact h
    ver := fun _ => Nat.le_refl _
    blk := fun _ _ => ⟨rfl, rfl, rfl⟩
    tail := fun _ _ _ h => h }
  refine ⟨⟨?_, ?_, ?_, ?_, ?_, ?_⟩, ⟨hl, by rw [heap_alloc_size]; omega, ?_, ?_, ?_, rfl, rfl, rfl⟩, ?_⟩
  · intro b o v h
    simp only [Ghost.addImm] at h
    split at h
    · exact hone v (by simpa using Array.mem_of_getElem? h)
    · exact hC.one b o v h
  · intro b o v h
    simp only [Ghost.addImm] at h
    split at h
    · rename_i hb
      subst hb
      simp only [World.cell?, heap_alloc_at]
      simpa using h
    · have := hC.imm b o v h
      have hlt := hC.imm_lt h
      simp only [World.cell?] at this ⊢
      rw [heap_alloc_lt w _ hlt]
      exact this
  · intro k o ho
    by_cases hlt : G.blk k < w.heap.size
    · exact (hC.obj k o ho).later hl rfl (heap_alloc_lt w _ hlt)
    · have := hC.obj k o ho
      cases o with
      | cells l => obtain ⟨vs, _, _, _, _, h1, _⟩ := this; exact absurd (Array.getElem?_eq_some_iff.1 h1).1 hlt
      | map es c => obtain ⟨_, h1, _⟩ := this; exact absurd (Array.getElem?_eq_some_iff.1 h1).1 hlt
      | iter m mv since seen stepped =>
        obtain ⟨h0, h1⟩ := this
        refine ⟨h0, fun e => absurd (Array.getElem?_eq_some_iff.1 (h1 e)).1 hlt⟩
      | tail m => exact fun h => by obtain ⟨_, _, _, h1, _⟩ := this h; exact absurd (Array.getElem?_eq_some_iff.1 h1).1 hlt
  · exact fun k k' b h h' => hC.inj k k' b h h'
  · intro k b o h
    have hb := hC.size k b h
    simp only [Ghost.addImm]
    rw [if_neg (by omega)]
    exact hC.own k b o h
  · intro k b h
    have := hC.size k b h
    rw [heap_alloc_size]; omega
  · exact fun b hb _ => heap_alloc_lt w _ hb
  · exact fun k b _ h => ⟨k, h⟩
  · intro b o v h hb
    simp only [Ghost.addImm] at h
    rw [if_neg (by omega)] at h
    exact .inl h
  · intro i v h
    simp [Ghost.addImm]
    simpa using h

end
end Go.Am
/- The abstract machine is sound: structs and slices that are written out. -/
namespace Go.Am

section
variable {P : Program} {n : Nat} {G : Ghost} {w : World} {fr : Fr} {st : Store} {a : Act}

theorem fill_map {place : Nat → Option (Nat × Nat)} {parts : List (Nat × Operand)} {f : Operand → Value} : (parts.map fun p => (p.1, f p.2)) = (parts.map (·.1)).zip (parts.map fun p => f p.2) := by
  induction parts with
  | nil => rfl
  | cons p ps ih => simp [ih]

theorem parts_sound (hC : Conc n G w ⟨fr, st⟩ a) {ty : Nat → Option TypeId} {l : List (Nat × Operand)} {xs : List Opd} (h : l.mapM (fun (p : Nat × Operand) => (ty p.1).bind fun t => opd P t p.2) = some xs) :
    RepL G st (xs.map fr.ev) (l.map fun p => a.eval p.2) := by
  obtain ⟨h1, h2⟩ := mapM_get h
  refine RepL.ofGet (by simp [h1]) fun i x v hx hv => ?_
  simp only [List.getElem?_map, Option.map_eq_some_iff] at hx hv
  obtain ⟨d, hd, rfl⟩ := hx
  obtain ⟨y, hy, rfl⟩ := hv
  obtain ⟨d', hd', he⟩ := h2 i y hy
  rw [hd] at hd'
  cases hd'
  simp only [Option.bind_eq_some_iff] at he
  obtain ⟨t, _, he⟩ := he
  exact opd_sound hC he

theorem build_struct_ok {o : Oper} {t : TypeId} {parts : Array (Nat × Operand)} {fs : Array Field} {z : Zero} {fl pl : List (Nat × Nat)} {xs : List Opd} (ho : o.op = .build t parts) (hu : P.underlying t = some (.struct fs)) (hz : zeroA P t = some z)
    (hfl : fs.toList.mapM (fun f : Field => (szOf P f.type).map fun m => (f.offset, m)) = some fl) (hpl : places fl parts.toList = some pl)
    (hxs : parts.toList.mapM (fun (p : Nat × Operand) => ((fs[p.1]?).map (·.type)).bind fun t => opd P t p.2) = some xs) : PureOK P n o (.build z pl) xs := by
  intro G w fr st a v hC hv
  obtain ⟨inf, Z, hi, hZ, hsz, hr⟩ := zeroA_sound (G := G) (st := st) hz
  simp only [pev, Option.map_eq_some_iff] at hv
  obtain ⟨cs, hf, rfl⟩ := hv
  have hxr := parts_sound (ty := fun i => (fs[i]?).map (·.type)) hC hxs
  obtain ⟨p1, p2⟩ := mapM_get hpl
  obtain ⟨ys, hy, hyr⟩ := fill_sound (place := (fl.toArray[·]?)) pl (parts.toList.map (·.1)) _ _ _ _ _ hr hxr (by simp [p1]) (fun j i hj => by
    simp only [List.getElem?_map, Option.map_eq_some_iff] at hj
    obtain ⟨p, hp, rfl⟩ := hj
    obtain ⟨b, hb, he⟩ := p2 j p hp
    rw [hb]
    simpa using he) hf
  have hfl' : fs.toList.mapM (fun f => (P.info? f.type).map fun i => (f.offset, i.size)) = some fl := by
    rw [← hfl]
    congr 1
    funext f
    simp only [szOf, Option.map_map]
    rfl
  have hb : P.built t (parts.map fun (i, x) => (i, a.eval x)).toList = some ys := by
    simp only [Program.built, hi, hu, hZ, hfl']
    rw [← hy]
    congr 1
    rw [Array.toList_map]
    exact fill_map (place := fun _ => none)
  refine stay hC (.agg ys) ?_ (.agg _ _ hyr)
  simp only [execOp, ho, Sem.run_bind, run_build w t _ ys hb, Result.andThen_ok, Sem.run_pure]

theorem build_array_ok {o : Oper} {t el : TypeId} {parts : Array (Nat × Operand)} {N s : Nat} {z : Zero} {xs : List Opd} (ho : o.op = .build t parts) (hu : P.underlying t = some (.array N el)) (hz : zeroA P t = some z)
    (hs : szOf P el = some s) (hxs : parts.toList.mapM (fun (p : Nat × Operand) => (some el).bind fun t => opd P t p.2) = some xs) : PureOK P n o (.build z (parts.toList.map fun p => (p.1 * s, s))) xs := by
  intro G w fr st a v hC hv
  obtain ⟨inf, Z, hi, hZ, hsz, hr⟩ := zeroA_sound (G := G) (st := st) hz
  obtain ⟨ie, hie, hes⟩ := szOf_info hs
  simp only [pev, Option.map_eq_some_iff] at hv
  obtain ⟨cs, hf, rfl⟩ := hv
  have hxr := parts_sound (ty := fun _ => some el) hC hxs
  obtain ⟨ys, hy, hyr⟩ := fill_sound (place := fun i => some (i * s, s)) (parts.toList.map fun p => (p.1 * s, s)) (parts.toList.map (·.1)) _ _ _ _ _ hr hxr (by simp) (fun j i hj => by
    simp only [List.getElem?_map, Option.map_eq_some_iff] at hj ⊢
    obtain ⟨p, hp, rfl⟩ := hj
    rw [hp]; rfl) hf
  have hb : P.built t (parts.map fun (i, x) => (i, a.eval x)).toList = some ys := by
    simp only [Program.built, hi, hu, hZ, hie, hes]
    rw [← hy]
    congr 1
    rw [Array.toList_map]
    exact fill_map (place := fun _ => none)
  refine stay hC (.agg ys) ?_ (.agg _ _ hyr)
  simp only [execOp, ho, Sem.run_bind, run_build w t _ ys hb, Result.andThen_ok, Sem.run_pure]

theorem fillA_length : ∀ {ps : List (Nat × Nat)} {vs l cs : List AVal}, fillA l ps vs = some cs → cs.length = l.length
  | [], [], l, cs, h => by simp [fillA] at h; rw [h]
  | [], v :: vs, l, cs, h => by simp [fillA] at h
  | p :: ps, [], l, cs, h => by obtain ⟨o, s⟩ := p; simp [fillA] at h
  | (off, sz) :: ps, v :: vs, l, cs, h => by
    simp only [fillA] at h
    split at h
    · rename_i hc
      have := fillA_length h
      simp at this
      omega
    · cases h

theorem chunks_flat {e : Nat} {ag : Bool} (hag : ag = false → e = 1)  : ∀ {m : Nat} {l : List AVal}, l.length = m * e → (ag = false → ∀ x ∈ l, x.cells = [x]) → flat (chunks e ag m l) = l ∧ (chunks e ag m l).length = m ∧ ∀ y ∈ chunks e ag m l, y.cells.length = e
  | 0, l, hl, _ => by
    have : l = [] := List.length_eq_zero_iff.1 (by omega)
    subst this
    simp [chunks, flat]
  | m + 1, l, hl, hc => by
    have hle : e ≤ l.length := by rw [hl, Nat.succ_mul]; omega
    obtain ⟨h1, h2, h3⟩ := chunks_flat hag (m := m) (l := l.drop e) (by rw [List.length_drop, hl, Nat.succ_mul]; omega) (fun h x hx => hc h x (List.mem_of_mem_drop hx))
    simp only [chunks, flat, List.flatMap_cons] at *
    cases ag with
    | true =>
      simp only [AVal.cells]
      rw [h1]
      refine ⟨List.take_append_drop e l, by simp [h2], ?_⟩
      intro y hy
      rcases List.mem_cons.1 hy with rfl | hy
      · simp [AVal.cells]; omega
      · exact h3 y hy
    | false =>
      have he := hag rfl
      subst he
      cases l with
      | nil => simp at hle
      | cons x l =>
        simp only [List.drop_succ_cons, List.drop_zero] at *
        have hx := hc trivial x (by simp)
        rw [hx, h1]
        refine ⟨rfl, by simp [h2], ?_⟩
        intro y hy
        rcases List.mem_cons.1 hy with rfl | hy
        · rw [hx]; rfl
        · exact h3 y hy


theorem isCell_cells {x : AVal} (h : isCell x = true) : x.cells = [x] := by cases x <;> first | rfl | (simp [isCell] at h)

theorem range_cells {l : List AVal} {zs : Array Value} (h : RepL G st l zs.toList) (m s : Nat) (hs : zs.size = s) (h0 : 0 < s) :
    RepL G st ((List.replicate m l).flatten) ((Array.range (m * s)).map (zs[· % zs.size]!)).toList := by
  have hl : l.length = s := by have := h.length; simp at this; omega
  refine RepL.ofGet (by simp [hl]) fun i x v hx hv => ?_
  have hi : i < m * s := by
    have := (List.getElem?_eq_some_iff.1 hv).1
    simpa using this
  have hmod : i % s < zs.size := by rw [hs]; exact Nat.mod_lt _ h0
  have hv' : v = zs[i % s] := by
    simp only [Array.toList_map, Array.toList_range, List.getElem?_map] at hv
    rw [List.getElem?_range hi] at hv
    simp only [Option.map_some, Option.some.injEq] at hv
    rw [hs] at hv
    rw [← hv]
    exact getElem!_pos zs (i % s) hmod
  have hx' : l[i % s]? = some x := by
    rw [← hx]
    clear hx hv hv'
    clear hmod
    induction m generalizing i with
    | zero => omega
    | succ m ih =>
      simp only [List.replicate_succ, List.flatten_cons]
      by_cases hlt : i < s
      · rw [List.getElem?_append_left (by omega), Nat.mod_eq_of_lt hlt]
      · rw [List.getElem?_append_right (by omega), hl]
        have e1 : i % s = (i - s) % s := by rw [← Nat.mod_eq_sub_mod (by omega)]
        have hi' : i - s < m * s := by rw [Nat.succ_mul] at hi; omega
        rw [e1]
        exact ih (i - s) hi'
  obtain ⟨y, hy, hr⟩ := h.get hx'
  have : y = v := by
    rw [hv']
    rw [Array.getElem?_toList, Array.getElem?_eq_getElem hmod] at hy
    exact (Option.some.inj hy).symm
  rw [← this]; exact hr

theorem bsl_ok {o : Oper} {t el : TypeId} {parts : Array (Nat × Operand)} {N s : Nat} {ag : Bool} {z : Zero} {xs : List Opd} (ho : o.op = .buildSlice t N parts) (hu : P.underlying t = some (.slice el)) (hz : zeroA P el = some z)
    (hs : eszOf P el = some s) (h0 : 0 < s) (h24 : N * s ≤ 2 ^ 24) (hall : ∀ p ∈ parts.toList, p.1 < N) (hxs : parts.toList.mapM (fun (p : Nat × Operand) => (some el).bind fun t => opd P t p.2) = some xs) :
    PureOK P n o (.bsl s N ag z (parts.toList.map fun p => (p.1 * s, s))) xs := by
  intro G w fr st a v hC hv
  obtain ⟨inf, Z, hi, hZ, hsz, hr⟩ := zeroA_sound (G := G) (st := st) hz
  obtain ⟨ie, hie, hes⟩ := eszOf_info hs
  rw [hi] at hie
  cases hie
  simp only [pev, Option.bind_eq_some_iff] at hv
  obtain ⟨cs, hf, hv⟩ := hv
  split at hv
  · rename_i hcond
    cases hv
    have hzs : Z.cells.size = s := by omega
    have hxr := parts_sound (ty := fun _ => some el) hC hxs
    have hrr := range_cells hr N s hzs h0
    obtain ⟨ys, hy, hyr⟩ := fill_sound (place := fun i => some (i * s, s)) (parts.toList.map fun p => (p.1 * s, s)) (parts.toList.map (·.1)) _ _ _ _ _ hrr hxr (by simp) (fun j i hj => by
      simp only [List.getElem?_map, Option.map_eq_some_iff] at hj ⊢
      obtain ⟨p, hp, rfl⟩ := hj
      rw [hp]; rfl) hf
    have hzl : z.cells.length = s := by have := hr.length; simp at this; omega
    have hcl : cs.length = N * s := by
      rw [fillA_length hf]
      simp [hzl]
    obtain ⟨c1, c2, c3⟩ := chunks_flat (e := s) (ag := ag) (fun h => by
        rcases hcond.1 with h' | h'
        · rw [h] at h'; cases h'
        · exact h') hcl
      (fun _ x hx => isCell_cells (List.all_eq_true.1 hcond.2 x hx))
    have hfill : Instr.fill (fun i => some (i * inf.size, inf.size)) ((Array.range (N * inf.size)).map (Z.cells[· % Z.cells.size]!)) (parts.map fun (i, x) => (i, a.eval x)).toList = some ys := by
      rw [hes, ← hy]
      congr 1
      rw [Array.toList_map]
      exact fill_map (place := fun _ => none)
    by_cases hN : N * s = 0
    · have hN0 : N = 0 := by
        rcases Nat.mul_eq_zero.1 hN with h | h
        · exact h
        · omega
      subst hN0
      have hp : parts = #[] := by
        cases hp : parts.toList with
        | nil => simpa using hp
        | cons p ps => have := hall p (by rw [hp]; simp); omega
      subst hp
      have hcs : cs = [] := List.length_eq_zero_iff.1 (by omega)
      subst hcs
      obtain ⟨k1, k2, k3⟩ := conc_newImm hC.st #[] el (by simp)
      refine ⟨.slice (some ⟨w.heap.size, 0, none⟩) 0 0, _, _, ?_, ?_, k1, k2⟩
      · simp only [execOp, ho, Sem.run_bind]
        simp [Instr.buildSlice, underlying, hu, sizeOf, typeInfo, hi, Instr.fill, newRow, show Array.range 0 = #[] from rfl]
      · exact Rep.list (G := G.addImm w.heap.size #[]) (st := st) .full s [] (some ⟨w.heap.size, 0, none⟩) 0 [] (Nat.le_refl 0) (by omega) (by simp) .nil
          (fun ad e => by cases e; exact ⟨rfl, k3⟩) (fun e => by cases e) rfl
    · have hrun := run_buildSlice w t el N (parts.map fun (i, x) => (i, a.eval x)) ys inf Z hu hi hZ (by rw [hes]; omega) (by rw [hes]; exact hN) hfill
      obtain ⟨k1, k2, k3⟩ := conc_newImm hC.st ys el (hyr.ones hcond.2)
      refine ⟨.slice (some ⟨w.heap.size, 0, none⟩) N N, _, _, ?_, ?_, k1, k2⟩
      · simp only [execOp, ho, Sem.run_bind, hrun, Result.andThen_ok, Sem.run_pure]
      · have hyr' := hyr.later k2.later
        rw [← c1] at hyr'
        have hlen : N = (chunks s ag N cs).length := c2.symm
        have h30 : N < 2 ^ 63 := by
          have : N * 1 ≤ N * s := Nat.mul_le_mul_left N h0
          omega
        have := Rep.list (G := G.addImm w.heap.size ys) (st := st) .full s (chunks s ag N cs) (some ⟨w.heap.size, 0, none⟩) N ys.toList (by omega) h30 c3 hyr'
          (fun ad e => by cases e; exact ⟨rfl, k3⟩) (fun e => by cases e) hlen
        rw [c2] at this
        exact this
  · cases hv


/-! ## Loads -/

/-- What a load's soundness says: nothing is changed. -/
def LoadOK (P : Program) (n : Nat) (o : Oper) (l : LOp) (args : List Opd) : Prop :=
  ∀ (G : Ghost) (w : World) (fr : Fr) (st : Store) (a : Act) (v : AVal), Conc n G w ⟨fr, st⟩ a → lev st l (args.map fr.ev) = some v →
    ∃ x, (execOp a.eval o).run P w = .ok (.value x) w ∧ Rep G st v x

theorem loadVar_of {t : TypeId} {sz : Option Nat} (hs : szO P t = some sz) {l : List AVal} {off : Nat} {v : AVal} (hp : partA off sz l = some v) {b o : Nat} {vs : List Value} (hr : RepL G st l vs)
    (hc : ∀ (j : Nat) (x : Value), vs[j]? = some x → w.cell? ⟨b, o + j, none⟩ = some x) : ∃ V, (loadVar t ⟨b, o + off, none⟩).run P w = .ok V w ∧ Rep G st v V := by
  rcases isAgg_of (w := w) hs with ⟨rfl, ha⟩ | ⟨k, inf, rfl, h1, h2, ha⟩
  · obtain ⟨x, hx, hr'⟩ := hr.get hp
    refine ⟨x, ?_, hr'⟩
    simp [loadVar, ha, hc off x hx]
  · simp only [partA] at hp
    split at hp
    · rename_i hle
      cases hp
      have hlen := hr.length
      have hcs : ((vs.drop off).take k).length = k := by simp; omega
      have hld : (loadCells ⟨b, o + off, none⟩ k).run P w = .ok ((vs.drop off).take k).toArray w := by
        have := run_loadCells_list (P := P) w ⟨b, o + off, none⟩ ((vs.drop off).take k) (fun j x hx => by
          rw [add_mk]
          rw [List.getElem?_take] at hx
          split at hx
          · rw [List.getElem?_drop] at hx
            have := hc (off + j) x hx
            rwa [← Nat.add_assoc] at this
          · cases hx)
        rwa [hcs] at this
      refine ⟨.agg ((vs.drop off).take k).toArray, by simp [loadVar, ha, sizeOf, typeInfo, h1, h2, hld], .agg _ _ ?_⟩
      simpa using (hr.drop off).take k
    · cases hp

theorem cellsAt_sound (hC : ConcS G w st) {k : Key} {v : Nat} {l : List AVal} (h : cellsAt st k v = some l) :
    (st k).ver = v ∧ ∃ vs, RepL G st l vs ∧ ∀ (j : Nat) (x : Value), vs[j]? = some x → w.cell? ⟨G.blk k, j, none⟩ = some x := by
  unfold cellsAt at h
  split at h
  · rename_i hv
    refine ⟨hv, ?_⟩
    split at h
    · rename_i l' ho
      cases h
      obtain ⟨vs, el, fz, us, rest, h1, h2, h3, h4, h5⟩ := hC.obj k _ ho
      refine ⟨us, h3, fun j x hx => ?_⟩
      simp only [World.cell?, h1]
      have hj : j < us.length := (List.getElem?_eq_some_iff.1 hx).1
      have : vs.toList[j]? = some x := by rw [h2, List.getElem?_append_left hj, hx]
      simpa using this
    · cases h
  · cases h

theorem load_ok {o : Oper} {t : TypeId} {x : Operand} {sz : Option Nat} (ho : o.op = .load t x) (hs : szO P t = some sz) {d : Opd} (hd : opd P o.type x = some d) : LoadOK P n o (.load sz) [d] := by
  intro G w fr st a v hC hv
  have h1 := opd_sound hC hd
  simp only [List.map_cons, List.map_nil, lev] at hv
  generalize fr.ev d = X at *
  generalize hX : a.eval x = V at *
  cases X <;> simp [load] at hv
  · rename_i k ver off
    rw [Option.bind_eq_some_iff] at hv
    obtain ⟨l, hl, hp⟩ := hv
    obtain ⟨hver, vs, hr, hc⟩ := cellsAt_sound hC.st hl
    cases h1 with
    | ref k v off ad h hx =>
      have := hx hver.symm
      subst this
      obtain ⟨V, hV, hrv⟩ := loadVar_of (P := P) (w := w) (b := G.blk k) (o := 0) hs hp hr (fun j x hx => by rw [Nat.zero_add]; exact hc j x hx)
      rw [Nat.zero_add] at hV
      exact ⟨V, by simp [execOp, ho, hX, Instr.loadAt, Instr.sureAddr, hV], hrv⟩
  · cases h1 with
    | iptr cs b off vs hi h =>
      obtain ⟨V, hV, hrv⟩ := loadVar_of (P := P) (w := w) (b := b) (o := off) hs hv h (fun j x hx => hC.st.imm _ _ _ (hi j x hx))
      exact ⟨V, by simp only [execOp, ho, hX, Instr.loadAt, Instr.sureAddr]; rw [Nat.add_zero] at hV; simp [hV], hrv⟩


/-- The elements behind a slice, as the world has them. -/
theorem elems_sound (hC : ConcS G w st) {X : AVal} {x : Value} (hx : Rep G st X x) {e : Nat} {m : List AVal} (h : elems st X = some (e, m)) :
    ∃ ad cap vs, x = .slice ad m.length cap ∧ RepL G st (flat m) vs ∧ (∀ y ∈ m, y.cells.length = e) ∧ (ad = none → m.length = 0) ∧ m.length < 2 ^ 63 ∧ (∀ v ∈ vs, one v = true) ∧
      ∀ a, ad = some a → ∀ (j : Nat) (v : Value), vs[j]? = some v → w.cell? (a.add j) = some v := by
  cases X <;> simp only [elems, reduceCtorEq] at h
  · rename_i tag e' l
    simp only [Option.some.injEq, Prod.mk.injEq] at h
    obtain ⟨rfl, rfl⟩ := h
    cases hx with
    | list tag e l ad cap vs hc hbd hel hr hi hn ht =>
      have hnone : ad = none → l.length = 0 := fun h0 => by have := hn h0; omega
      refine ⟨ad, cap, vs, rfl, hr, hel, hnone, by omega, fun v hv => ?_, fun a ha j v hv => ?_⟩
      · cases ad with
        | none =>
          have : vs = [] := List.length_eq_zero_iff.1 (by rw [hr.length, flat_length hel, hnone rfl]; simp)
          subst this; cases hv
        | some a =>
          obtain ⟨i, h⟩ := List.mem_iff_getElem?.1 hv
          exact hC.one _ _ _ ((hi a rfl).2 i v h)
      · obtain ⟨b, off, sp⟩ := a
        obtain ⟨h1, h2⟩ := hi _ ha
        simp only at h1; subst h1
        exact immCells.cell hC h2 j v hv
  · rename_i k ver e' off len
    split at h
    · rename_i hver
      split at h
      · rename_i l ho
        split at h
        · rename_i hle
          simp only [Option.some.injEq, Prod.mk.injEq] at h
          obtain ⟨rfl, rfl⟩ := h
          have hl1 : ((l.drop off).take (len * e')).length = len * e' := by simp; omega
          have hcells : ∀ x ∈ (l.drop off).take (len * e'), x.cells = [x] := fun x hx => isCell_cells (List.all_eq_true.1 hle.2 x hx)
          obtain ⟨c1, c2, c3⟩ := chunks_flat (e := e') (ag := e' != 1) (fun h => by simpa using h) hl1 (fun _ => hcells)
          obtain ⟨vs, elem, fz, us, rest, b1, be, b2, b3, b4⟩ := hC.obj k _ ho
          have hun : us.length = l.length := b2.length
          have hr : RepL G st ((l.drop off).take (len * e')) ((us.drop off).take (len * e')) := (b2.drop off).take _
          cases hx with
          | msl k v e off len a cap hc hbd hn h hx =>
            refine ⟨a, cap, _, by rw [c2], by rw [c1]; exact hr, c3, fun h0 => by have := hn h0; rw [c2]; omega, by rw [c2]; omega, hr.ones hle.2, fun ad ha j v hv => ?_⟩
            have hj : j < len * e' := by have := (List.getElem?_eq_some_iff.1 hv).1; simp at this; omega
            have hlen : 0 < len := by rcases Nat.eq_zero_or_pos len with h | h; (subst h; simp at hj); exact h
            obtain ⟨h1, h2⟩ := hx hver.symm ad ha (by omega)
            subst h1
            rw [add_mk]
            simp only [World.cell?, b1]
            rw [List.getElem?_take_of_lt hj, List.getElem?_drop] at hv
            have hv2 : vs.toList[off + j]? = some v := by rw [be, List.getElem?_append_left (by omega), hv]
            simpa using hv2
        · cases h
      · cases h
    · cases h

theorem convS_ok {o : Oper} {s d el : TypeId} {x : Operand} (ho : o.op = .convert s d x) (hs : P.underlying s = some (.slice el)) (he : P.underlying el = some (.int .u8)) (hd : P.underlying d = some .string) {dx : Opd} (hx : opd P s x = some dx) :
    LoadOK P n o .convS [dx] := by
  intro G w fr st a v hC hv
  have h1 := opd_sound hC hx
  simp only [List.map_cons, List.map_nil, lev] at hv
  generalize fr.ev dx = X at *
  generalize hX : a.eval x = V at *
  rw [Option.bind_eq_some_iff] at hv
  obtain ⟨⟨e, l⟩, hE, hv⟩ := hv
  simp only at hv
  split at hv
  · rename_i he1
    subst he1
    simp only [Option.map_eq_some_iff] at hv
    obtain ⟨bs, hb, rfl⟩ := hv
    obtain ⟨ad, cap, vs, rfl, hr, hel, hn, hbd, _, hcell⟩ := elems_sound hC.st h1 hE
    rw [bytesOf_flat hb] at hr
    obtain ⟨ns, e1, e2⟩ := bytesOf_sound hr hb
    have hlen : bs.length = l.length := bytesOf_length hb
    cases ad with
    | none =>
      have hl0 : l.length = 0 := hn rfl
      have hbs : bs = [] := List.length_eq_zero_iff.1 (by omega)
      subst hbs
      refine ⟨.string ByteArray.empty, ?_, .str _ _ rfl (by simp)⟩
      simp only [execOp, ho, hX, Sem.run_bind, run_convert_bytes_string w s d el none l.length cap hs he hd]
      simp [Conv.bytesToString]
    | some ad =>
      have hvl : vs.length = l.length := hr.length
      have hld : (loadCells ad l.length).run P w = .ok (ns.map (Value.int .u8)).toArray w := by
        rw [← hvl, run_loadCells_list w _ vs (hcell ad rfl), e1]
      refine ⟨.string (ns.foldl (fun r n => r.push (UInt8.ofNat n.toNat)) ByteArray.empty), ?_, .str _ _ ?_ (by omega)⟩
      · simp only [execOp, ho, hX, Sem.run_bind, run_convert_bytes_string w s d el _ l.length cap hs he hd, run_bytesToString w _ l.length cap ns hld]
        rfl
      · rw [foldl_push_toList, e2]; rfl
  · cases hv


/-! ## Maps -/

theorem run_getObj (w : World) (r : Nat) (o : Obj) (h : w.heap[r]? = some o) (hc : ∀ c e f, o ≠ .cells c e f) : (getObj r).run P w = .ok o w := by
  cases o <;> first | (exact absurd rfl (hc _ _ _)) | simp only [getObj, Sem.run, h]

theorem mapAt_sound (hC : ConcS G w st) {k : Key} {v : Nat} {es : List AEntry} {c : Nat} (h : mapAt st k v = some (es, c)) :
    (st k).ver = v ∧ ∃ ents, w.heap[G.blk k]? = some (.map ents c) ∧ ents.size = es.length ∧ (∀ i (h : i < es.length) (h' : i < ents.size), RepEntry G st es[i] ents[i]) := by
  unfold mapAt at h
  split at h
  · rename_i hv
    split at h
    · rename_i es' c' ho
      simp only [Option.some.injEq, Prod.mk.injEq] at h
      obtain ⟨rfl, rfl⟩ := h
      exact ⟨hv, hC.obj k _ ho⟩
    · cases h
  · cases h

theorem lenM_ok {o : Oper} {c : Call} {t kt el : TypeId} {x : Operand} (ho : o.op = .call c) (hb : c.callee = .builtin .len) (hargs : c.args.toList = [x]) (hts : c.argTypes.toList = [t]) (hu : P.underlying t = some (.map kt el))
    {dx : Opd} (hx : opd P t x = some dx) : LoadOK P n o .lenM [dx] := by
  intro G w fr st a v hC hv
  have h1 := opd_sound hC hx
  simp only [List.map_cons, List.map_nil] at hv
  generalize fr.ev dx = X at *
  obtain ⟨callee, args, argTypes⟩ := c
  simp only at hb hargs hts
  obtain rfl : args = #[x] := by rw [← Array.toArray_toList (xs := args), hargs]
  obtain rfl : argTypes = #[t] := by rw [← Array.toArray_toList (xs := argTypes), hts]
  subst hb
  generalize hVX : a.eval x = VX at *
  cases X <;> simp [lev] at hv
  · rename_i k ver
    obtain ⟨es, hm, rfl⟩ := hv
    obtain ⟨c, hm⟩ := hm
    obtain ⟨hver, ents, he, hn, hr⟩ := mapAt_sound hC.st hm
    cases h1 with
    | mapr k v r h hx =>
      have := hx hver.symm
      subst this
      have hg := run_getObj (P := P) w _ _ he (by simp)
      exact ⟨.int .i64 ents.size, by simp [execOp, ho, resolve, invoke, builtin, Builtin.len_, underlying, hu, hVX, goInt, hg], by rw [hn]; exact .int _ _⟩
  · subst hv
    cases h1
    exact ⟨.int .i64 0, by simp [execOp, ho, resolve, invoke, builtin, Builtin.len_, underlying, hu, hVX, goInt], .int _ _⟩

/-- Keys are held against each other at once. -/
theorem sameNow_sound {d : TypeDesc} (hd : (∃ k, d = .int k) ∨ d = .string) {a b : AVal} {x y : Value} {r : Bool} (h : cellEq a b = some r) (ha : Rep G st a x) (hb : Rep G st b y)
    (ht : (∃ k, d = .int k) → ∃ k m, a = .int k m) (hs : d = .string → ∃ s, a = .str s) : Instr.sameNow d x y = some r := by
  rcases hd with ⟨k, rfl⟩ | rfl
  · obtain ⟨k', m, rfl⟩ := ht ⟨k, rfl⟩
    cases b <;> simp [cellEq] at h
    obtain ⟨rfl, h⟩ := h
    cases ha; cases hb
    simp [Instr.sameNow, h]
  · obtain ⟨s, rfl⟩ := hs rfl
    cases b <;> simp [cellEq] at h
    cases ha with
    | str l s1 h1 _ =>
      cases hb with
      | str l' s2 h2 _ =>
        subst h1; subst h2
        simp only [Instr.sameNow]
        rw [← h]
        congr 1
        rw [beq_toListBytes, ByteArray.toList_eq, ByteArray.toList_eq]

/-- The key of a lookup fits the map's key type. -/
def KeyFits (d : TypeDesc) : AVal → Prop
  | .int _ _ => ∃ k, d = .int k
  | .str _ => d = .string
  | _ => False

theorem sameNow_fits {d : TypeDesc} {a b : AVal} {x y : Value} {r : Bool} (hk : KeyFits d a) (h : cellEq a b = some r) (ha : Rep G st a x) (hb : Rep G st b y) : Instr.sameNow d x y = some r := by
  cases a <;> simp [KeyFits] at hk
  · obtain ⟨k, rfl⟩ := hk
    exact sameNow_sound (.inl ⟨k, rfl⟩) h ha hb (fun _ => ⟨_, _, rfl⟩) (fun e => by cases e)
  · subst hk
    exact sameNow_sound (.inr rfl) h ha hb (fun ⟨_, e⟩ => by cases e) (fun _ => ⟨_, rfl⟩)


theorem findE_sound {d : TypeDesc} {key : AVal} {x : Value} (hk : KeyFits d key) (hx : Rep G st key x) : ∀ {es : List AEntry} {ents : List MapEntry} {r : Option AEntry} (i : Nat), ents.length = es.length →
    (∀ i (h : i < es.length) (h' : i < ents.length), RepEntry G st es[i] ents[i]) → findE es key = some r →
    ∃ q, Instr.findNow d x ents i = some q ∧ match r, q with
      | none, none => True
      | some e, some (j, v) => i ≤ j ∧ es[j - i]? = some e ∧ Rep G st e.val v ∧ (∀ m < j - i, ∀ e', es[m]? = some e' → cellEq key e'.key = some false)
      | _, _ => False
  | [], [], r, i, _, _, h => by
    simp [findE] at h; subst h
    exact ⟨none, rfl, trivial⟩
  | e :: es, [], r, i, hn, _, _ => by simp at hn
  | [], e :: es, r, i, hn, _, _ => by simp at hn
  | e :: es, en :: ents, r, i, hn, hr, h => by
    have h0 := hr 0 (by simp) (by simp)
    simp only [List.getElem_cons_zero] at h0
    unfold findE at h
    cases hc : cellEq key e.key with
    | none => simp [hc] at h
    | some b =>
      have hs := sameNow_fits hk hc hx h0.2.1
      cases b with
      | true =>
        simp [hc] at h; subst h
        refine ⟨some (i, en.val), by simp [Instr.findNow, hs], ?_⟩
        simp [h0.2.2]
      | false =>
        simp only [hc] at h
        obtain ⟨q, hq, hm⟩ := findE_sound hk hx (es := es) (ents := ents) (i + 1) (by simpa using hn) (fun j p p' => by
          have := hr (j + 1) (by simpa using p) (by simpa using p')
          simpa using this) h
        refine ⟨q, by simp [Instr.findNow, hs, hq], ?_⟩
        cases r <;> cases q <;> simp only at hm ⊢
        · rename_i e' jv
          obtain ⟨j, v⟩ := jv
          simp only at hm ⊢
          obtain ⟨m1, m2, m3, m4⟩ := hm
          refine ⟨by omega, ?_, m3, ?_⟩
          · have : j - i = (j - (i + 1)) + 1 := by omega
            rw [this]; simpa using m2
          · intro m hlt e'' he
            cases m with
            | zero => simp at he; subst he; exact hc
            | succ m => exact m4 m (by omega) e'' (by simpa using he)

theorem run_checkKey {kt : TypeId} {d : TypeDesc} (hu : P.underlying kt = some d) {key : AVal} {x : Value} (hk : KeyFits d key) (hx : Rep G st key x) (b : Bool) (m : Nat) (w : World) : (Instr.checkKey b (m + 1) kt x).run P w = .ok () w := by
  cases key <;> simp [KeyFits] at hk
  · obtain ⟨k, rfl⟩ := hk
    cases hx
    simp [Instr.checkKey, underlying, hu]
  · subst hk
    cases hx
    simp [Instr.checkKey, underlying, hu]

theorem run_findKey {kt : TypeId} {d : TypeDesc} (hu : P.underlying kt = some d) {x : Value} {ents : List MapEntry} {q : Option (Nat × Value)} (h : Instr.findNow d x ents 0 = some q) (w : World) : (Instr.findKey kt x ents).run P w = .ok q w := by
  simp [Instr.findKey, underlying, hu, h]

theorem keyKind_fits {kt : TypeId} {ks : Bool} (h : keyKind P kt = some ks) : ∃ d, P.underlying kt = some d ∧ ∀ key, keyIs ks key = true → KeyFits d key := by
  unfold keyKind at h
  split at h
  · rename_i k hu
    cases h
    exact ⟨_, hu, fun key hk => by cases key <;> simp [keyIs] at hk; exact ⟨k, rfl⟩⟩
  · rename_i hu
    cases h
    exact ⟨_, hu, fun key hk => by cases key <;> simp [keyIs] at hk; rfl⟩
  · cases h

theorem zeroVal_sound {t : TypeId} {z : Zero} {ag : Bool} (h : zeroA P t = some z) (hag : zAgg P t = some ag) (w : World) :
    ∃ V, (zeroValue t).run P w = .ok V w ∧ Rep G st (z.val ag) V := by
  obtain ⟨inf, Z, hi, hZ, hsz, hz⟩ := zeroA_sound (G := G) (st := st) h
  refine ⟨Z, by simp [zeroValue, typeInfo, hi, hZ], ?_⟩
  simp only [zAgg, hi, Option.bind_some, hZ] at hag
  have hval : ∀ x, x = Z → Z.cells = #[x] → ag = false → Rep G st (z.val ag) Z := by
    rintro x rfl hc rfl
    rw [hc] at hz
    generalize hl : z.cells = l at hz
    cases hz with
    | cons a x l vs hr ht =>
      cases ht
      simp only [Zero.val, Bool.false_eq_true, if_false, hl, List.headD_cons]
      exact hr
  cases Z with
  | agg cs =>
    simp at hag
    subst hag
    simp only [Zero.val, if_true]
    exact .agg _ _ hz
  | _ =>
    simp at hag
    exact hval _ rfl rfl hag

theorem lookup_ok {o : Oper} {t kt el : TypeId} {m k : Operand} {okk ks ag : Bool} {z : Zero} (ho : o.op = .lookup t m k okk) (hu : P.underlying t = some (.map kt el)) (hks : keyKind P kt = some ks) (hz : zeroA P el = some z)
    (hag : zAgg P el = some ag) {dm dk : Opd} (hm : opd P t m = some dm) (hk : opd P kt k = some dk) : LoadOK P n o (.lookup ks z ag okk) [dm, dk] := by
  intro G w fr st a v hC hv
  have h1 := opd_sound hC hm
  have h2 := opd_sound hC hk
  obtain ⟨d, hud, hfit⟩ := keyKind_fits hks
  obtain ⟨V, hV, hVr⟩ := zeroVal_sound (G := G) (st := st) hz hag w
  simp only [List.map_cons, List.map_nil] at hv
  generalize fr.ev dm = M at *
  generalize fr.ev dk = K at *
  generalize hVM : a.eval m = VM at *
  generalize hVK : a.eval k = VK at *
  have fin : ∀ (X : Value) (A : AVal) (b : Bool), Rep G st A X → Rep G st (if okk = true then .tup [A, .bool b] else A) (if okk = true then .tuple #[X, .bool b] else X) := by
    intro X A b hr
    cases okk
    · exact hr
    · exact .tup _ _ (.cons _ _ _ _ hr (.cons _ _ _ _ (.bool b) .nil))
  cases M <;> simp only [lev, reduceCtorEq] at hv
  · rename_i kk ver
    split at hv
    · rename_i hki
      simp only [Option.bind_eq_some_iff, Option.map_eq_some_iff] at hv
      obtain ⟨⟨es, c⟩, hmap, r, hf, rfl⟩ := hv
      obtain ⟨hver, ents, he, hn, hr⟩ := mapAt_sound hC.st hmap
      cases h1 with
      | mapr k' v' r' h hx =>
        have := hx hver.symm
        subst this
        have hg := run_getObj (P := P) w _ _ he (by simp)
        obtain ⟨q, hq, hqr⟩ := findE_sound (hfit _ hki) h2 (es := es) (ents := ents.toList) 0 (by simp [hn]) (fun i p p' => by simpa using hr i p (by simpa using p')) hf
        have hck := run_checkKey (P := P) hud (hfit _ hki) h2 ents.isEmpty 9999 w
        have hfk := run_findKey (P := P) hud hq w
        cases r with
        | none =>
          cases q with
          | some q => exact hqr.elim
          | none =>
            exact ⟨_, by simp [execOp, ho, hVM, hVK, Instr.lookup, underlying, hu, hg, hck, hfk, hV], fin V _ false hVr⟩
        | some e =>
          cases q with
          | none => exact hqr.elim
          | some q =>
            obtain ⟨j, x⟩ := q
            exact ⟨_, by simp [execOp, ho, hVM, hVK, Instr.lookup, underlying, hu, hg, hck, hfk], fin x _ true hqr.2.2.1⟩
    · cases hv
  · split at hv
    · rename_i hki
      cases hv
      cases h1
      have hck := run_checkKey (P := P) hud (hfit _ hki) h2 true 9999 w
      have hfk := run_findKey (P := P) hud (x := VK) (ents := []) (q := none) rfl w
      exact ⟨_, by simp [execOp, ho, hVM, hVK, Instr.lookup, underlying, hu, hck, hfk, hV], fin V _ false hVr⟩
    · cases hv

end
end Go.Am
/- The abstract machine is sound: objects that are made, and written. -/
namespace Go.Am

section
variable {P : Program} {n : Nat} {G : Ghost} {w : World} {fr : Fr} {st : Store} {a : Act}

@[simp] theorem Store.set_same (st : Store) (k : Key) (s : Slot) : (st.set k s) k = s := by simp [Store.set]
theorem Store.set_other (st : Store) {k k' : Key} (s : Slot) (h : k' ≠ k) : (st.set k s) k' = st k' := by simp [Store.set, h]

def Ghost.setLoc (G : Ghost) (k : Key) (b lo hi : Nat) : Ghost :=
  { G with blk := fun k' => if k' = k then b else G.blk k', lo := fun k' => if k' = k then lo else G.lo k', hi := fun k' => if k' = k then hi else G.hi k' }

theorem later_setLoc (G : Ghost) (st : Store) (k : Key) (b lo hi : Nat) (o : Option AObj) : Later G st (G.setLoc k b lo hi) (st.set k ⟨(st k).ver + 1, o⟩) where
  imm := fun _ _ _ h => h
  ver := fun k' => by
    by_cases h : k' = k
    · subst h; simp
    · rw [Store.set_other _ _ h]; exact Nat.le_refl _
  blk := fun k' e => by
    by_cases h : k' = k
    · subst h; simp at e
    · simp [Ghost.setLoc, h]
  tail := fun k' m e ht => by
    by_cases h : k' = k
    · subst h; simp at e
    · rw [Store.set_other _ _ h] at ht; exact ht

theorem blk_of_obj (hC : ConcS G w st) {k : Key} {o : AObj} (ho : (st k).obj = some o) : (∃ b, Owns G st k b ∧ G.blk k = b) ∨ (∀ b, ¬ Owns G st k b) ∧ ∀ (w' : World), ObjOK G st w' k o := by
  have hok := hC.obj k o ho
  cases o with
  | tail m =>
    by_cases hlt : G.lo k < G.hi k
    · exact .inl ⟨_, by simp [Owns, ho, hlt], rfl⟩
    · exact .inr ⟨fun b h => by simp [Owns, ho] at h; exact hlt h.1, fun w' h => absurd h hlt⟩
  | cells l => exact .inl ⟨_, by simp [Owns, ho], rfl⟩
  | map es c => exact .inl ⟨_, by simp [Owns, ho], rfl⟩
  | iter m mv since seen stepped => exact .inl ⟨_, by simp [Owns, ho], rfl⟩

/-- A new object, in a new block. -/
theorem conc_newObj (hC : ConcS G w st) (k : Key) (o : Obj) (ao : AObj) (lo hi : Nat)
    (hok : ObjOK (G.setLoc k w.heap.size lo hi) (st.set k ⟨(st k).ver + 1, some ao⟩) (w.alloc o) k ao) :
    ConcS (G.setLoc k w.heap.size lo hi) (w.alloc o) (st.set k ⟨(st k).ver + 1, some ao⟩) ∧ Ext G w st (G.setLoc k w.heap.size lo hi) (w.alloc o) (st.set k ⟨(st k).ver + 1, some ao⟩) := by
  have hl := later_setLoc G st k w.heap.size lo hi (some ao)
  generalize hG : G.setLoc k w.heap.size lo hi = G' at *
  generalize hS : st.set k ⟨(st k).ver + 1, some ao⟩ = st' at *
  have hk : st' k = ⟨(st k).ver + 1, some ao⟩ := by rw [← hS]; simp
  have hne : ∀ k', k' ≠ k → st' k' = st k' := fun k' h => by rw [← hS]; exact Store.set_other _ _ h
  have hbk : G'.blk k = w.heap.size := by rw [← hG]; simp [Ghost.setLoc]
  have hb : ∀ k', k' ≠ k → G'.blk k' = G.blk k' ∧ G'.lo k' = G.lo k' ∧ G'.hi k' = G.hi k' := fun k' h => by rw [← hG]; simp [Ghost.setLoc, h]
  have hown : ∀ k' b, k' ≠ k → (Owns G' st' k' b ↔ Owns G st k' b) := fun k' b h => by
    obtain ⟨h1, h2, h3⟩ := hb k' h
    unfold Owns
    rw [hne k' h, h1, h2, h3]
  have hownk : ∀ b, Owns G' st' k b → b = w.heap.size := fun b h => by
    unfold Owns at h
    rw [hk] at h
    simp only at h
    split at h
    · rw [← h.2, hbk]
    · rw [← h, hbk]
    · exact h.elim
  have himm : ∀ b o, G'.imm b o = G.imm b o := fun b o => by rw [← hG]; rfl
  refine ⟨⟨fun b o v h => hC.one b o v (by rw [← himm]; exact h), ?_, ?_, ?_, ?_, ?_⟩, ⟨hl, by rw [heap_alloc_size]; omega, fun b hb _ => heap_alloc_lt w _ hb, ?_, ?_, rfl, rfl, rfl⟩⟩
  · intro b o v h
    rw [himm] at h
    have := hC.imm b o v h
    simp only [World.cell?] at this ⊢
    rw [heap_alloc_lt w _ (hC.imm_lt h)]
    exact this
  · intro k' o' ho'
    by_cases h : k' = k
    · subst h
      rw [hk] at ho'
      simp only [Option.some.injEq] at ho'
      subst ho'
      exact hok
    · rw [hne k' h] at ho'
      have hver : (st' k').ver = (st k').ver := by rw [hne k' h]
      rcases blk_of_obj hC ho' with ⟨b, ho, hbb⟩ | ⟨_, h2⟩
      · exact (hC.obj k' o' ho').later hl hver (heap_alloc_lt w _ (by rw [hbb]; exact hC.size k' b ho))
      · exact (h2 (w.alloc o)).later hl hver rfl
  · intro k1 k2 b h1 h2
    by_cases e1 : k1 = k
    · subst e1
      by_cases e2 : k2 = k1
      · exact e2.symm
      · have := hownk b h1
        have := hC.size k2 b ((hown k2 b e2).1 h2)
        omega
    · by_cases e2 : k2 = k
      · subst e2
        have := hownk b h2
        have := hC.size k1 b ((hown k1 b e1).1 h1)
        omega
      · exact hC.inj k1 k2 b ((hown k1 b e1).1 h1) ((hown k2 b e2).1 h2)
  · intro k' b o' h
    rw [himm]
    by_cases e : k' = k
    · subst e
      have := hownk b h
      left
      cases hi : G.imm b o' with
      | none => rfl
      | some v => have := hC.imm_lt hi; omega
    · rw [hne k' e, (hb k' e).2.1]
      exact hC.own k' b o' ((hown k' b e).1 h)
  · intro k' b h
    rw [heap_alloc_size]
    by_cases e : k' = k
    · subst e; have := hownk b h; omega
    · have := hC.size k' b ((hown k' b e).1 h); omega
  · intro k' b hb' h
    by_cases e : k' = k
    · subst e; have := hownk b h; omega
    · exact ⟨k', (hown k' b e).1 h⟩
  · intro b o' v h _
    rw [himm] at h
    exact .inl h


/-! ## Writing into an object's block -/

theorem heap_setRow_other (w : World) (g : Nat) (cs : Array Value) {b : Nat} (h : b ≠ g) : (w.setRow g cs).heap[b]? = w.heap[b]? := by
  unfold World.setRow
  simp only [Array.getElem?_modify]
  rw [if_neg (fun e => h e.symm)]

theorem run_storeCells_thaw (g o : Nat) (t : TypeId) (fz : Nat × Nat) : ∀ (vs : List Value) (i : Nat) (cur : Array Value) (w : World), w.heap[g]? = some (.cells cur t fz) → thawed fz cur.size → o + i + vs.length ≤ cur.size → (∀ v ∈ vs, v.oneCell' = true) →
    (storeCells ⟨g, o, none⟩ vs i).run P w = .ok () (w.setRow g (cur.toList.take (o + i) ++ vs ++ cur.toList.drop (o + i + vs.length)).toArray)
  | [], i, cur, w, hg, _, _, _ => by
    simp only [storeCells, List.append_nil, List.length_nil, Nat.add_zero, List.take_append_drop, Array.toArray_toList]
    rw [setRow_self w g cur t fz hg]
    rfl
  | v :: rest, i, cur, w, hg, hfz, hl, h1 => by
    have hi : o + i < cur.size := by simp at hl; omega
    have hadd : (⟨g, o, none⟩ : Addr).add i = ⟨g, o + i, none⟩ := add_mk g o i
    have hcell : w.cell? ⟨g, o + i, none⟩ = some cur[o + i] := by simp [World.cell?, hg, hi]
    have hfro : w.frozen? ⟨g, o + i, none⟩ = false := by
      have := hfz (o + i) hi
      obtain ⟨lo, hi'⟩ := fz
      simp only [World.frozen?, hg, Bool.and_eq_false_iff, decide_eq_false_iff_not]
      simp only [not_and, Nat.not_lt] at this
      by_cases hh : lo ≤ o + i
      · right; have := this hh; omega
      · left; exact hh
    have hst : (store ((⟨g, o, none⟩ : Addr).add i) v).run P w = .ok () (w.setRow g (cur.setIfInBounds (o + i) v)) := by
      rw [hadd, run_store P w _ v _ (h1 v (by simp)), hcell]
      simp [hfro, setCell_eq_setRow w g (o + i) cur t fz v hg]
    have ih := run_storeCells_thaw g o t fz rest (i + 1) (cur.setIfInBounds (o + i) v) (w.setRow g (cur.setIfInBounds (o + i) v)) (setRow_heap w g cur _ t _ hg) (by simpa using hfz) (by simp at hl ⊢; omega) (fun x hx => h1 x (by simp [hx]))
    simp only [storeCells, Sem.run_bind, hst, Result.andThen_ok, ih, setRow_setRow]
    congr 3
    have e := list_seg_step cur.toList (o + i) v rest (by simp at hl ⊢; omega)
    simpa [Array.toList_setIfInBounds, Nat.add_assoc] using e

/-- The same version of an object holds something else now; its block is written, where no memory that stays was. -/
theorem conc_setObj (hC : ConcS G w st) {k : Key} {b : Nat} (hown : Owns G st k b) {w' : World} (ao : AObj) (hao : ∀ n, ao ≠ .tail n) (hwo : ∀ b', b' ≠ b → w'.heap[b']? = w.heap[b']?) (hsz : w'.heap.size = w.heap.size)
    (himm : ∀ o, G.imm b o = none) (hown' : ∀ b', Owns G (st.set k ⟨(st k).ver, some ao⟩) k b' → b' = b)
    (hok : ObjOK G (st.set k ⟨(st k).ver, some ao⟩) w' k ao) (ht : w'.tape = w.tape) (hos : w'.os = w.os) (hou : w'.output = w.output) :
    ConcS G w' (st.set k ⟨(st k).ver, some ao⟩) ∧ Ext G w st G w' (st.set k ⟨(st k).ver, some ao⟩) := by
  have hl : Later G st G (st.set k ⟨(st k).ver, some ao⟩) := {
    imm := fun _ _ _ h => h
    ver := fun k' => by
      by_cases h : k' = k
      · subst h; simp
      · rw [Store.set_other _ _ h]; exact Nat.le_refl _
    blk := fun _ _ => ⟨rfl, rfl, rfl⟩
    tail := fun k' m _ h => by
      by_cases e : k' = k
      · subst e; simp at h; exact absurd h (hao m)
      · rw [Store.set_other _ _ e] at h; exact h }
  generalize hS : st.set k ⟨(st k).ver, some ao⟩ = st' at *
  have hk : st' k = ⟨(st k).ver, some ao⟩ := by rw [← hS]; simp
  have hne : ∀ k', k' ≠ k → st' k' = st k' := fun k' h => by rw [← hS]; exact Store.set_other _ _ h
  have hownne : ∀ k' b, k' ≠ k → (Owns G st' k' b ↔ Owns G st k' b) := fun k' b h => by unfold Owns; rw [hne k' h]
  refine ⟨⟨hC.one, ?_, ?_, ?_, ?_, ?_⟩, ⟨hl, by omega, ?_, ?_, fun b o v h _ => .inl h, ht, hos, hou⟩⟩
  · intro b' o v h
    have h1 := hC.imm b' o v h
    have hb' : b' ≠ b := by rintro rfl; rw [himm o] at h; cases h
    simp only [World.cell?] at h1 ⊢
    rw [hwo b' hb']
    exact h1
  · intro k' o' ho'
    by_cases h : k' = k
    · subst h
      rw [hk] at ho'
      simp only [Option.some.injEq] at ho'
      subst ho'
      exact hok
    · rw [hne k' h] at ho'
      have hver : (st' k').ver = (st k').ver := by rw [hne k' h]
      rcases blk_of_obj hC ho' with ⟨b', ho, hbb⟩ | ⟨_, h2⟩
      · have hb' : b' ≠ b := by rintro rfl; exact h (hC.inj k' k b' ho hown)
        exact (hC.obj k' o' ho').later hl hver (by rw [hbb]; exact hwo b' hb')
      · exact (h2 w').later hl hver rfl
  · intro k1 k2 b' h1 h2
    by_cases e1 : k1 = k
    · subst e1
      by_cases e2 : k2 = k1
      · exact e2.symm
      · have := hown' b' h1
        subst this
        exact absurd (hC.inj k2 k1 b' ((hownne k2 b' e2).1 h2) hown) e2
    · by_cases e2 : k2 = k
      · subst e2
        have := hown' b' h2
        subst this
        exact hC.inj k1 k2 b' ((hownne k1 b' e1).1 h1) hown
      · exact hC.inj k1 k2 b' ((hownne k1 b' e1).1 h1) ((hownne k2 b' e2).1 h2)
  · intro k' b' o' h
    by_cases e : k' = k
    · subst e
      have := hown' b' h
      subst this
      exact .inl (himm o')
    · rw [hne k' e]
      exact hC.own k' b' o' ((hownne k' b' e).1 h)
  · intro k' b' h
    rw [hsz]
    by_cases e : k' = k
    · subst e; have := hown' b' h; subst this; exact hC.size k' b' hown
    · exact hC.size k' b' ((hownne k' b' e).1 h)
  · intro b' hb' hno
    exact hwo b' (fun e => hno k (e ▸ hown))
  · intro k' b' _ h
    by_cases e : k' = k
    · subst e; have := hown' b' h; subst this; exact ⟨k', hown⟩
    · exact ⟨k', (hownne k' b' e).1 h⟩

end
end Go.Am
