/- The abstract machine is sound: operations that change the store; calls. -/
import Derived.Test.YteinffefhcpcmaaGreatDoorAmB
import Derived.Laws.AppendOwn
import Derived.Laws.IdiomStrings
import Derived.Laws.MakeOwn
import Derived.Laws.Externs
import Derived.Laws.StructEq
import Derived.Maps.RangeRun
import Derived.ChangeKeysEq
set_option linter.unusedVariables false
set_option linter.unusedSimpArgs false
set_option linter.unusedSectionVars false
namespace Go.Am

/-- What the soundness of an operation that changes the store says. -/
def ImpOK (P : Program) (n : Nat) (o : Oper) (i : IOp) (args : List Opd) : Prop :=
  ∀ (G : Ghost) (w : World) (fr : Fr) (st : Store) (a : Act) (key : Key) (mu : Bool) (K KP : AVal → Store → Prop), Conc n G w ⟨fr, st⟩ a → iwp P key mu i (args.map fr.ev) st K KP →
    ∀ (Kw : Act → World → Prop) (Q : Exit → Act → World → Prop),
      (∀ v x st' G' w', K v st' → Rep G' st' v x → ConcS G' w' st' → Ext G w st G' w' st' → Kw (a.put o.dst x) w') →
      (∀ v x st' G' w', KP v st' → Rep G' st' v x → ConcS G' w' st' → Ext G w st G' w' st' → Q (.panic [{ v := x, recovered := false }]) a w') → o.wp P a w Kw Q

section
variable {P : Program} {n : Nat} {G : Ghost} {w : World} {fr : Fr} {st : Store} {a : Act}

theorem wp_value {o : Oper} {x : Value} {w' : World} {Kw : Act → World → Prop} {Q : Exit → Act → World → Prop} (h : (execOp a.eval o).run P w = .ok (.value x) w') (hk : Kw (a.put o.dst x) w') : o.wp P a w Kw Q := by
  unfold Oper.wp
  rw [h]
  exact hk

theorem wp_skipped {o : Oper} {w' : World} {Kw : Act → World → Prop} {Q : Exit → Act → World → Prop} (h : (execOp a.eval o).run P w = .ok .skip w') (hk : Kw (a.put o.dst undef) w') : o.wp P a w Kw Q := by
  unfold Oper.wp
  rw [h]
  exact hk

theorem thawed_zero (m : Nat) : thawed (0, 0) m := fun o _ h => by omega

/-- A new object of cells. -/
theorem conc_newCells (hC : ConcS G w st) (key : Key) (l : List AVal) (cs : Array Value) (el : TypeId) {us rest : List Value} (hcs : cs.toList = us ++ rest) (hr : RepL G st l us) :
    ∃ G', ConcS G' (w.alloc (.cells cs el)) (st.set key ⟨(st key).ver + 1, some (.cells l)⟩) ∧ Ext G w st G' (w.alloc (.cells cs el)) (st.set key ⟨(st key).ver + 1, some (.cells l)⟩) ∧
      Rep G' (st.set key ⟨(st key).ver + 1, some (.cells l)⟩) (.ref key ((st key).ver + 1) 0) (.pointer (some ⟨w.heap.size, 0, none⟩)) ∧ G'.blk key = w.heap.size ∧ G'.hi key = cs.size := by
  have hl := later_setLoc G st key w.heap.size 0 cs.size (some (.cells l))
  obtain ⟨h1, h2⟩ := conc_newObj hC key (.cells cs el) (.cells l) 0 cs.size ⟨cs, el, (0, 0), us, rest, by
    have : (G.setLoc key w.heap.size 0 cs.size).blk key = w.heap.size := by simp [Ghost.setLoc]
    rw [this]; exact heap_alloc_at _ _, hcs, hr.later hl, thawed_zero _, by simp [Ghost.setLoc]⟩
  refine ⟨_, h1, h2, .ref _ _ _ _ (by simp) fun _ => by simp [Ghost.setLoc], by simp [Ghost.setLoc], by simp [Ghost.setLoc]⟩

theorem alloc_ok {o : Oper} {t : TypeId} {z : Zero} (ho : o.op = .alloc t) (hz : zeroA P t = some z) : ImpOK P n o (.alloc z) [] := by
  intro G w fr st a key mu K KP hC hi Kw Q hK hP
  obtain ⟨inf, Z, hinf, hZ, hsz, hr⟩ := zeroA_sound (G := G) (st := st) hz
  simp only [List.map_nil, iwp] at hi
  obtain ⟨G', h1, h2, h3, _⟩ := conc_newCells hC.st key z.cells Z.cells t (List.append_nil _).symm hr
  refine wp_value (x := .pointer (some ⟨w.heap.size, 0, none⟩)) (w' := w.alloc (.cells Z.cells t)) ?_ (hK _ _ _ _ _ hi h3 h1 h2)
  simp [execOp, ho, Instr.alloc, zeroValue, typeInfo, hinf, hZ, newVar, newRow]

theorem box_ok {o : Oper} {t : TypeId} {x : Operand} {sz : Nat} (ho : o.op = .box t x) {d : Opd} (hd : opd P t x = some d) : ImpOK P n o (.box sz) [d] := by
  intro G w fr st a key mu K KP hC hi Kw Q hK hP
  have hx := opd_sound hC hd
  simp only [List.map_cons, List.map_nil, iwp] at hi
  obtain ⟨hv, _, hi⟩ := hi
  obtain ⟨G', h1, h2, h3, _⟩ := conc_newCells hC.st key _ _ t (List.append_nil _).symm (rep_cells hx hv)
  refine wp_value (x := .pointer (some ⟨w.heap.size, 0, none⟩)) (w' := w.alloc (.cells (a.eval x).cells t)) ?_ (hK _ _ _ _ _ hi h3 h1 h2)
  simp [execOp, ho, Instr.box, newVar, newRow]

theorem mkmap_ok {o : Oper} {t kt el : TypeId} (ho : o.op = .makeMap t none) (hu : P.underlying t = some (.map kt el)) : ImpOK P n o .mkmap [] := by
  intro G w fr st a key mu K KP hC hi Kw Q hK hP
  simp only [List.map_nil, iwp] at hi
  have hl := later_setLoc G st key w.heap.size 0 0 (some (.map [] 0))
  obtain ⟨h1, h2⟩ := conc_newObj hC.st key (.map #[] 0) (.map [] 0) 0 0 ⟨#[], by
    have : (G.setLoc key w.heap.size 0 0).blk key = w.heap.size := by simp [Ghost.setLoc]
    rw [this]; exact heap_alloc_at _ _, rfl, by simp⟩
  refine wp_value (x := .map (some w.heap.size)) (w' := w.alloc (.map #[] 0)) ?_ (hK _ _ _ _ _ hi (.mapr _ _ _ (by simp) fun _ => by simp [Ghost.setLoc]) h1 h2)
  simp [execOp, ho, Instr.makeMap]

theorem splice_rep {l cs : List AVal} {vs xs : List Value} (off : Nat) (hl : RepL G st l vs) (hc : RepL G st cs xs) : RepL G st (splice l off cs) (vs.take off ++ xs ++ vs.drop (off + xs.length)) := by
  unfold splice
  rw [hc.length]
  exact ((hl.take _).append hc).append (hl.drop _)

theorem store_ok {o : Oper} {t : TypeId} {p x : Operand} {sz : Nat} (ho : o.op = .store t p x) (hsz : szOf P t = some sz) {dp dx : Opd} (hp : opd P o.type p = some dp) (hx : opd P t x = some dx) : ImpOK P n o (.store sz) [dp, dx] := by
  intro G w fr st a key mu K KP hC hi Kw Q hK hP
  have h1 := opd_sound hC hp
  have h2 := opd_sound hC hx
  obtain ⟨inf, hinf, hsize⟩ := szOf_info hsz
  simp only [List.map_cons, List.map_nil] at hi
  generalize fr.ev dp = D at *
  generalize fr.ev dx = X at *
  generalize hVP : a.eval p = VP at *
  generalize hVX : a.eval x = VX at *
  cases D <;> simp only [iwp] at hi
  rename_i k v off
  obtain ⟨hver, hisv, hcell, hlen, hi⟩ := hi
  have hxc := rep_cells h2 hisv
  have hxn : VX.cells.size = sz := by have := hxc.length; simp at this; omega
  have h1c : ∀ u ∈ VX.cells.toList, u.oneCell' = true := by
    intro u hu
    obtain ⟨i, hi⟩ := List.mem_iff_getElem?.1 hu
    have hlt : i < X.cells.length := by rw [← hxc.length]; exact (List.getElem?_eq_some_iff.1 hi).1
    obtain ⟨y, hy, hr⟩ := hxc.get (List.getElem?_eq_getElem hlt)
    rw [hi] at hy
    cases hy
    exact hr.oneCell (List.all_eq_true.1 hcell _ (List.getElem_mem hlt))
  cases h1 with
  | ref k' v' off' ad h hxx =>
    have hade := hxx hver.symm
    subst hade
    split at hi
    · rename_i l hobj
      obtain ⟨hle, hk⟩ := hi
      obtain ⟨vs, el, fz, us, rest, g1, ge, g2, g3, g4⟩ := hC.st.obj k _ hobj
      have hun : us.length = l.length := g2.length
      have hvn : vs.size = l.length + rest.length := by have := congrArg List.length ge; simp at this; omega
      have hown : Owns G st k (G.blk k) := by simp [Owns, hobj]
      have hrun : (storeCells ⟨G.blk k, off, none⟩ VX.cells.toList).run P w = .ok () (w.setRow (G.blk k) (vs.toList.take off ++ VX.cells.toList ++ vs.toList.drop (off + VX.cells.toList.length)).toArray) := by
        have := run_storeCells_thaw (P := P) (G.blk k) off el fz VX.cells.toList 0 vs w g1 g3 (by simp; omega) h1c
        simpa using this
      have himm : ∀ o, G.imm (G.blk k) o = none := fun o' => by
        rcases hC.st.own k _ o' hown with h | ⟨m, hm, _⟩
        · exact h
        · rw [hobj] at hm; cases hm
      obtain ⟨c1, c2⟩ := conc_setObj hC.st hown (w' := w.setRow (G.blk k) (vs.toList.take off ++ VX.cells.toList ++ vs.toList.drop (off + VX.cells.toList.length)).toArray) (.cells (splice l off X.cells)) (by simp) (fun b' hb' => heap_setRow_other _ _ _ hb') (by simp) himm
        (fun b' hb' => by simp [Owns] at hb'; exact hb'.symm)
        ⟨_, el, fz, us.take off ++ VX.cells.toList ++ us.drop (off + VX.cells.toList.length), rest, setRow_heap w (G.blk k) vs _ el fz g1, by
          simp only [ge]
          rw [List.take_append_of_le_length (by omega), List.drop_append_of_le_length (by simp; omega)]
          simp, by
          have hl : Later G st G (st.set k ⟨(st k).ver, some (.cells (splice l off X.cells))⟩) := {
            imm := fun _ _ _ h => h
            ver := fun k' => by by_cases e : k' = k <;> simp [Store.set, e]
            blk := fun _ _ => ⟨rfl, rfl, rfl⟩
            tail := fun k' m _ hm => by
              by_cases e : k' = k
              · subst e; simp at hm
              · rw [Store.set_other _ _ e] at hm; exact hm }
          exact (splice_rep off g2 hxc).later hl, by simp; intro o ho; exact g3 o (by omega), by simp; omega⟩ rfl rfl rfl
      refine wp_skipped (w' := _) ?_ (hK _ undef _ _ _ hk (.junk _) (by rw [← hver]; exact c1) (by rw [← hver]; exact c2))
      simp [execOp, ho, hVP, hVX, Instr.storeAt, Instr.sureAddr, storeVar, sizeOf, typeInfo, hinf, hsize, hxn, hrun]
    · exact hi.elim

end
end Go.Am
/- The abstract machine is sound: append. -/
namespace Go.Am

/-- What an append reads of its second operand. -/
structure SrcOK (P : Program) (w : World) (size : Nat) (x : Value) (n : Nat) (news : List Value) : Prop where
  len : ∀ w' : World, (Builtin.lenOf x).run P w' = .ok n w'
  cells : ∀ w' : World, w'.heap = w.heap → (Builtin.firstCells size n x).run P w' = .ok news.toArray w'
  length : news.length = n * size

/-- A type of which no append reads a number of zeros. -/
def notInt (P : Program) (u : TypeId) : Prop := (∃ e, P.underlying u = some (.slice e)) ∨ P.underlying u = some .string

section
variable {P : Program} {n : Nat} {G : Ghost} {w : World} {fr : Fr} {st : Store} {a : Act}

/-- What is appended: the elements of a slice or a text, or a number of zeros. -/
inductive Src (P : Program) (w : World) (u : TypeId) (i : TypeInfo) (x : Value) (m : Nat) (news : List Value) : Prop
  | plain (hu : notInt P u) (hs : SrcOK P w i.size x m news)
  | zeros (k : IntKind) (hu : P.underlying u = some (.int k)) (hx : x = .int .i64 m) (h63 : m < 2 ^ 63) (hb : m * i.bytes ≤ 2 ^ 47) (z : Value) (hz : i.zero = some z) (hn : news = (Builtin.zeroCells z.cells m).toList) (hlen : news.length = m * i.size)

theorem Src.length {u : TypeId} {i : TypeInfo} {x : Value} {m : Nat} {news : List Value} (h : Src P w u i x m news) : news.length = m * i.size := by
  cases h with
  | plain _ hs => exact hs.length
  | zeros _ _ _ _ _ _ _ _ hl => exact hl

theorem wrap_len {m : Nat} (h : m < 2 ^ 63) : IntKind.i64.wrap (m : Int) = m := by rw [IntKind.wrap_i64]; omega

theorem run_append_inplace {t u ty e : TypeId} {i : TypeInfo} (ht : P.underlying t = some (.slice e)) (hi : P.info? e = some i) {x : Value} {m : Nat} {news : List Value} (hs : Src P w u i x m news)
    {b off el : Nat} {fz : Nat × Nat} {cur : Array Value} (hb : w.heap[b]? = some (.cells cur el fz)) (hfz : thawed fz cur.size) {sLen sCap : Nat} (hroom : sLen + m ≤ sCap) (hfit : off + sLen * i.size + news.length ≤ cur.size) (h1 : ∀ v ∈ news, v.oneCell' = true) :
    (Builtin.append_ #[t, u] ty #[.slice (some ⟨b, off, none⟩) sLen sCap, x]).run P w =
      .ok (.slice (some ⟨b, off, none⟩) (sLen + m) sCap) (w.setRow b (cur.toList.take (off + sLen * i.size) ++ news ++ cur.toList.drop (off + sLen * i.size + news.length)).toArray) := by
  have hst := run_storeCells_thaw (P := P) b (off + sLen * i.size) el fz news 0 cur w hb hfz (by omega) h1
  simp only [Nat.add_zero] at hst
  cases hs with
  | plain hu hs =>
    have hc := hs.cells w rfl
    have hl := hs.len w
    rcases hu with ⟨e', hu⟩ | hu
    · simp [Builtin.append_, run_und ht, run_und hu, sizeOf, typeInfo, hi, hl, hroom, hc, add_mk, hst]
    · simp [Builtin.append_, run_und ht, run_und hu, sizeOf, typeInfo, hi, hl, hroom, hc, add_mk, hst]
  | zeros k hu hx h63 hbb z hz hn hlen =>
    subst hx
    have n1 : ¬ ((m : Int) < 0) := by omega
    have n2 : ¬ ((281474976710656 : Int) < (m : Int) * (i.bytes : Int)) := by
      have : ((m * i.bytes : Nat) : Int) ≤ 2 ^ 47 := by exact_mod_cast hbb
      rw [Int.natCast_mul] at this
      omega
    by_cases h0 : m * i.size = 0
    · have : news = [] := List.length_eq_zero_iff.1 (by omega)
      rw [this] at hst ⊢
      simp [Builtin.append_, run_und ht, run_und hu, sizeOf, typeInfo, hi, hroom, asInt, asIntOf, wrap_len h63, n1, n2, h0, add_mk] at hst ⊢
      simp [hst]
    · simp [Builtin.append_, run_und ht, run_und hu, sizeOf, typeInfo, hi, hroom, asInt, asIntOf, wrap_len h63, n1, n2, h0, zeroValue, hz, ← hn, add_mk, hst]

theorem run_append_empty {t u ty e : TypeId} {i : TypeInfo} (ht : P.underlying t = some (.slice e)) (hi : P.info? e = some i) {x : Value} {news : List Value} (hs : Src P w u i x 0 news)
    (ad : Option Addr) {sLen sCap : Nat} (hroom : sLen ≤ sCap) :
    (Builtin.append_ #[t, u] ty #[.slice ad sLen sCap, x]).run P w = .ok (.slice ad sLen sCap) w := by
  have hnil : news = [] := by have := hs.length; simpa using this
  subst hnil
  cases hs with
  | plain hu hs =>
    have hc := hs.cells w rfl
    have hl := hs.len w
    rcases hu with ⟨e', hu⟩ | hu <;> cases ad <;> simp [Builtin.append_, run_und ht, run_und hu, sizeOf, typeInfo, hi, hl, hroom, hc, storeCells]
  | zeros k hu hx h63 hbb z hz hn hlen =>
    subst hx
    have hw := wrap_len h63
    simp only [Int.natCast_zero] at hw
    cases ad <;> simp [Builtin.append_, run_und ht, run_und hu, sizeOf, typeInfo, hi, hroom, asInt, asIntOf, hw, storeCells]

theorem run_append_new {t u ty e : TypeId} {i : TypeInfo} {z : Value} (ht : P.underlying t = some (.slice e)) (hi : P.info? e = some i) (hz : i.zero = some z) {x : Value} {m : Nat} {news : List Value} (hs : Src P w u i x m news)
    {ad : Option Addr} {sLen sCap : Nat} {olds : List Value} (hold : SrcOK P w i.size (.slice ad sLen sCap) sLen olds) (hg : sCap < sLen + m) (h63 : sLen + m < 2 ^ 63) (hfit : (sLen + m) * i.bytes ≤ 2 ^ 47) :
    (Builtin.append_ #[t, u] ty #[.slice ad sLen sCap, x]).run P w =
      .ok (.slice (some ⟨w.heap.size, 0, none⟩) (sLen + m) (grownCap w (sLen + m) sCap e))
        (w.drew.alloc (.cells (olds.toArray ++ news.toArray ++ Builtin.zeroCells z.cells (grownCap w (sLen + m) sCap e - (sLen + m))) e)) := by
  have hn' : ¬ (sLen + m ≤ sCap) := by omega
  have h63' : ¬ (9223372036854775807 < ((sLen : Int) + (m : Int))) := by omega
  have h48' : ¬ (281474976710656 < Builtin.nextslicecap (sLen + m) sCap * i.bytes) := by
    have := growslice_fits hg hfit
    omega
  have ho := hold.cells w.drew rfl
  cases hs with
  | plain hu hs =>
    have hc := hs.cells w.drew rfl
    have hl := hs.len w
    rcases hu with ⟨e', hu⟩ | hu
    · simp [Builtin.append_, run_und ht, run_und hu, sizeOf, typeInfo, zeroValue, hi, hz, hl, hn', h63', h48', Question.forced, hc, ho, newRow, grownCap]
      congr 2
      apply Array.ext'
      simp [List.append_assoc]
    · simp [Builtin.append_, run_und ht, run_und hu, sizeOf, typeInfo, zeroValue, hi, hz, hl, hn', h63', h48', Question.forced, hc, ho, newRow, grownCap]
      congr 2
      apply Array.ext'
      simp [List.append_assoc]
  | zeros k hu hx h63m hbb z' hz' hn hlen =>
    subst hx
    rw [hz] at hz'
    cases hz'
    have n1 : ¬ ((m : Int) < 0) := by omega
    have n2 : ¬ ((281474976710656 : Int) < (m : Int) * (i.bytes : Int)) := by
      have : ((m * i.bytes : Nat) : Int) ≤ 2 ^ 47 := by exact_mod_cast hbb
      rw [Int.natCast_mul] at this
      omega
    have hna : news.toArray = Builtin.zeroCells z.cells m := by rw [hn]
    by_cases h0 : m * i.size = 0
    · have : news = [] := List.length_eq_zero_iff.1 (by omega)
      simp [Builtin.append_, run_und ht, run_und hu, sizeOf, typeInfo, hi, asInt, asIntOf, wrap_len h63m, n1, n2, h0, zeroValue, hz, hn', h63', h48', Question.forced, ho, newRow, grownCap, this]
    · simp [Builtin.append_, run_und ht, run_und hu, sizeOf, typeInfo, hi, asInt, asIntOf, wrap_len h63m, n1, n2, h0, zeroValue, hz, hn', h63', h48', Question.forced, ho, newRow, grownCap, hna]

def stTail (st : Store) (tag : Tag) (key : Key) (N : Nat) : Store := (st.kill tag).set key ⟨((st.kill tag) key).ver + 1, some (.tail N)⟩

theorem kill_ver (st : Store) (tag : Tag) (k : Key) : ((st.kill tag) k).ver = (st k).ver := by
  cases tag <;> simp [Store.kill]
  rename_i k' v
  by_cases h : k = k'
  · subst h; simp
  · rw [Store.set_other _ _ h]

theorem kill_obj (st : Store) (tag : Tag) (k : Key) : ((st.kill tag) k).obj = (st k).obj ∨ ((st.kill tag) k).obj = none := by
  cases tag <;> simp [Store.kill]
  rename_i k' v
  by_cases h : k = k'
  · subst h; simp
  · rw [Store.set_other _ _ h]; simp

def Ghost.tail (G : Ghost) (imm' : Nat → Nat → Option Value) (key : Key) (b lo hi : Nat) : Ghost := { G.setLoc key b lo hi with imm := imm' }

theorem conc_tail (hC : ConcS G w st) (tag : Tag) (key : Key) (N b lo hi : Nat) (imm' : Nat → Nat → Option Value) (w' : World)
    (c1 : ∀ b', b' < w.heap.size → b' ≠ b → w'.heap[b']? = w.heap[b']?) (csz : w.heap.size ≤ w'.heap.size)
    (c2 : lo < hi → b < w'.heap.size ∧ ∃ vs el fz, w'.heap[b]? = some (.cells vs el fz) ∧ thawed fz vs.size ∧ hi = vs.size)
    (c3 : ∀ b' o v, G.imm b' o = some v → imm' b' o = some v) (c3' : ∀ b' o v, imm' b' o = some v → G.imm b' o = some v ∨ b' = b)
    (c4 : ∀ b' o v, imm' b' o = some v → w'.cell? ⟨b', o, none⟩ = some v)
    (c5 : w.heap.size ≤ b ∨ ∃ k0 v, tag = .tk k0 v ∧ Owns G st k0 b) (c6 : ∀ o, lo ≤ o → imm' b o = none) (c7 : ∀ b' o v, imm' b' o = some v → one v = true)
    (ht : w'.tape = w.tape) (hos : w'.os = w.os) (hou : w'.output = w.output) :
    ConcS (G.tail imm' key b lo hi) w' (stTail st tag key N) ∧ Ext G w st (G.tail imm' key b lo hi) w' (stTail st tag key N) := by
  have hlat : Later G st (G.tail imm' key b lo hi) (stTail st tag key N) := {
    imm := c3
    ver := fun k' => by
      by_cases h : k' = key
      · subst h; simp [stTail, kill_ver]
      · rw [stTail, Store.set_other _ _ h, kill_ver]; exact Nat.le_refl _
    blk := fun k' e => by
      by_cases h : k' = key
      · subst h; simp [stTail, kill_ver] at e
      · simp [Ghost.tail, Ghost.setLoc, h]
    tail := fun k' m e h => by
      by_cases hk : k' = key
      · subst hk; simp [stTail, kill_ver] at e
      · rw [stTail, Store.set_other _ _ hk] at h
        rcases kill_obj st tag k' with h' | h'
        · rw [← h']; exact h
        · rw [h'] at h; cases h }
  have hkey : stTail st tag key N key = ⟨(st key).ver + 1, some (.tail N)⟩ := by simp [stTail, kill_ver]
  have hne : ∀ k', k' ≠ key → stTail st tag key N k' = (st.kill tag) k' := fun k' h => Store.set_other _ _ h
  generalize hS : stTail st tag key N = st' at *
  generalize hG : G.tail imm' key b lo hi = G' at *
  have himm : G'.imm = imm' := by rw [← hG]; rfl
  have hlock : G'.blk key = b ∧ G'.lo key = lo ∧ G'.hi key = hi := by rw [← hG]; simp [Ghost.tail, Ghost.setLoc]
  have hloc : ∀ k', k' ≠ key → G'.blk k' = G.blk k' ∧ G'.lo k' = G.lo k' ∧ G'.hi k' = G.hi k' := fun k' h => by rw [← hG]; simp [Ghost.tail, Ghost.setLoc, h]
  have hownkey : ∀ b', Owns G' st' key b' → lo < hi ∧ b' = b := fun b' h => by
    unfold Owns at h
    rw [hkey] at h
    simp only [hlock.1, hlock.2.1, hlock.2.2] at h
    exact ⟨h.1, h.2.symm⟩
  have hownne : ∀ k' b', k' ≠ key → Owns G' st' k' b' → Owns G st k' b' ∧ ∀ v, tag ≠ .tk k' v := fun k' b' h ho => by
    obtain ⟨h1, h2, h3⟩ := hloc k' h
    unfold Owns at ho
    rw [hne k' h, h1, h2, h3] at ho
    constructor
    · rcases kill_obj st tag k' with h' | h'
      · unfold Owns; rw [← h']; exact ho
      · rw [h'] at ho; exact ho.elim
    · rintro v rfl
      simp [Store.kill] at ho
  have hnb : ∀ k' b', k' ≠ key → Owns G' st' k' b' → b' ≠ b := fun k' b' h ho e => by
    subst e
    obtain ⟨h1, h2⟩ := hownne k' b' h ho
    rcases c5 with c | ⟨k0, v, rfl, hk0⟩
    · have := hC.size k' b' h1; omega
    · have := hC.inj k' k0 b' h1 hk0
      subst this
      exact h2 v rfl
  refine ⟨⟨by rw [himm]; exact c7, ?_, ?_, ?_, ?_, ?_⟩, ⟨hlat, csz, ?_, ?_, ?_, ht, hos, hou⟩⟩
  · rw [himm]; exact c4
  · intro k' o' ho'
    by_cases h : k' = key
    · subst h
      rw [hkey] at ho'
      simp only [Option.some.injEq] at ho'
      subst ho'
      intro hlt
      rw [hlock.2.1, hlock.2.2] at hlt
      obtain ⟨_, vs, el, fz, h1, h2, h3⟩ := c2 hlt
      exact ⟨vs, el, fz, by rw [hlock.1]; exact h1, h2, by rw [hlock.2.2]; exact h3⟩
    · have ho2 : (st k').obj = some o' := by
        rw [hne k' h] at ho'
        rcases kill_obj st tag k' with h' | h'
        · rw [← h']; exact ho'
        · rw [h'] at ho'; cases ho'
      have hver : (st' k').ver = (st k').ver := by rw [hne k' h, kill_ver]
      rcases blk_of_obj hC ho2 with ⟨b', ho, hbb⟩ | ⟨_, h2⟩
      · have hown' : Owns G' st' k' b' := by
          obtain ⟨h1, h2, h3⟩ := hloc k' h
          unfold Owns at ho ⊢
          rw [ho', h1, h2, h3]
          rw [ho2] at ho
          exact ho
        refine (hC.obj k' o' ho2).later hlat hver (by rw [hbb]; exact c1 b' (hC.size k' b' ho) (hnb k' b' h hown'))
      · exact (h2 w').later hlat hver rfl
  · intro k1 k2 b' h1 h2
    by_cases e1 : k1 = key
    · subst e1
      by_cases e2 : k2 = k1
      · exact e2.symm
      · exact absurd (hownkey b' h1).2 (hnb k2 b' e2 h2)
    · by_cases e2 : k2 = key
      · subst e2
        exact absurd (hownkey b' h2).2 (hnb k1 b' e1 h1)
      · exact hC.inj k1 k2 b' (hownne k1 b' e1 h1).1 (hownne k2 b' e2 h2).1
  · intro k' b' o h
    rw [himm]
    by_cases e : k' = key
    · subst e
      obtain ⟨_, rfl⟩ := hownkey b' h
      by_cases hlo : o < lo
      · exact .inr ⟨N, by rw [hkey], by rw [hlock.2.1]; exact hlo⟩
      · exact .inl (c6 o (by omega))
    · have hb' := hnb k' b' e h
      obtain ⟨h1, h2⟩ := hownne k' b' e h
      rcases hC.own k' b' o h1 with h' | ⟨m, hm, hlo⟩
      · left
        cases hi : imm' b' o with
        | none => rfl
        | some v =>
          rcases c3' b' o v hi with h'' | h''
          · rw [h'] at h''; cases h''
          · exact absurd h'' hb'
      · right
        refine ⟨m, ?_, by rw [(hloc k' e).2.1]; exact hlo⟩
        rw [hne k' e]
        rcases kill_obj st tag k' with h'' | h''
        · rw [h'']; exact hm
        · unfold Owns at h; rw [hne k' e, h''] at h; exact h.elim
  · intro k' b' h
    by_cases e : k' = key
    · subst e
      obtain ⟨hlt, rfl⟩ := hownkey b' h
      exact (c2 hlt).1
    · have := hC.size k' b' (hownne k' b' e h).1; omega
  · intro b' hb' hno
    by_cases e : b' = b
    · subst e
      rcases c5 with c | ⟨k0, v, _, hk0⟩
      · omega
      · exact absurd hk0 (hno k0)
    · exact c1 b' hb' e
  · intro k' b' hb' h
    by_cases e : k' = key
    · subst e
      obtain ⟨_, rfl⟩ := hownkey b' h
      rcases c5 with c | ⟨k0, v, _, hk0⟩
      · omega
      · exact ⟨k0, hk0⟩
    · exact ⟨k', (hownne k' b' e h).1⟩
  · intro b' o v h hb'
    rw [himm] at h
    rcases c3' b' o v h with h' | rfl
    · exact .inl h'
    · rcases c5 with c | ⟨k0, v', _, hk0⟩
      · omega
      · exact .inr ⟨k0, hk0⟩

end
end Go.Am
/- The abstract machine is sound: append, the operation. -/
namespace Go.Am

section
variable {P : Program} {n : Nat} {G : Ghost} {w : World} {fr : Fr} {st : Store} {a : Act}

theorem rep_list' {tag : Tag} {e : Nat} {l : List AVal} {ad : Option Addr} {cap N : Nat} {vs : List Value} (hN : N = l.length) (hc : l.length ≤ cap) (hb : cap < 2 ^ 63) (he : ∀ y ∈ l, y.cells.length = e) (h : RepL G st (flat l) vs)
    (hi : ∀ x, ad = some x → x.spot = none ∧ immCells G x.block x.off vs) (hn : ad = none → cap = 0) (ht : TagOK G st tag e l.length cap ad) : Rep G st (.list tag e l) (.slice ad N cap) := by
  subst hN
  exact .list tag e l ad cap vs hc hb he h hi hn ht

theorem bytesA_cells (s : List UInt8) : ∀ y ∈ bytesA s, y.cells.length = 1 := by
  intro y hy
  simp only [bytesA, List.mem_map] at hy
  obtain ⟨b, _, rfl⟩ := hy
  rfl

theorem bytesA_flat (s : List UInt8) : flat (bytesA s) = bytesA s := by
  induction s with
  | nil => rfl
  | cons b s ih => simp only [bytesA, flat, List.map_cons, List.flatMap_cons, AVal.cells] at *; rw [ih]; rfl

theorem bytesA_rep (s : List UInt8) : RepL G st (bytesA s) (s.map fun b => Value.int .u8 b.toNat) := by
  induction s with
  | nil => exact .nil
  | cons b s ih => exact .cons _ _ _ _ (.int _ _) ih

theorem slice_src (hC : ConcS G w st) {e : Nat} {l : List AVal} {ad : Option Addr} {cap : Nat} {vs : List Value} (hr : RepL G st (flat l) vs) (he : ∀ y ∈ l, y.cells.length = e)
    (hi : ∀ x, ad = some x → x.spot = none ∧ immCells G x.block x.off vs) (hn : ad = none → cap = 0) (hc : l.length ≤ cap) : SrcOK P w e (.slice ad l.length cap) l.length vs := by
  have hlen : vs.length = l.length * e := by rw [hr.length, flat_length he]
  refine ⟨fun w' => by simp [Builtin.lenOf], fun w' hw => ?_, hlen⟩
  cases ad with
  | none =>
    have h0 : l.length = 0 := by have := hn rfl; omega
    have : vs = [] := List.length_eq_zero_iff.1 (by rw [hlen, h0]; simp)
    subst this
    simp [Builtin.firstCells]
  | some x =>
    obtain ⟨b, off, sp⟩ := x
    obtain ⟨h1, h2⟩ := hi _ rfl
    simp only at h1; subst h1
    refine run_firstCells_some w' e l.length _ _ _ vs hlen fun j v hv => ?_
    have := immCells.cell hC h2 j v hv
    simp only [World.cell?, hw] at this ⊢
    exact this

theorem immOne (hC : ConcS G w st) {e : Nat} {l : List AVal} {ad : Option Addr} {cap : Nat} {vs : List Value} (hr : RepL G st (flat l) vs) (he : ∀ y ∈ l, y.cells.length = e)
    (hi : ∀ x, ad = some x → x.spot = none ∧ immCells G x.block x.off vs) (hn : ad = none → cap = 0) (hc : l.length ≤ cap) : ∀ v ∈ vs, one v = true := by
  intro v hv
  cases ad with
  | none =>
    have h0 : l.length = 0 := by have := hn rfl; omega
    have : vs = [] := List.length_eq_zero_iff.1 (by rw [hr.length, flat_length he, h0]; simp)
    subst this
    cases hv
  | some x =>
    obtain ⟨i, h⟩ := List.mem_iff_getElem?.1 hv
    exact hC.one _ _ _ ((hi x rfl).2 i v h)

theorem src_sound (hC : ConcS G w st) {X : AVal} {x : Value} (hx : Rep G st X x) {e : Nat} {m : List AVal} (hE : srcE X = some e) (hA : srcA st X = some m) :
    ∃ news, SrcOK P w e x m.length news ∧ RepL G st (flat m) news ∧ (∀ y ∈ m, y.cells.length = e) ∧ ∀ v ∈ news, one v = true := by
  have key : ∀ {X : AVal}, Rep G st X x → elems st X = some (e, m) → ∃ news, SrcOK P w e x m.length news ∧ RepL G st (flat m) news ∧ (∀ y ∈ m, y.cells.length = e) ∧ ∀ v ∈ news, one v = true := by
    intro X hx h
    obtain ⟨ad, cap, vs, rfl, hr, hel, hn, hbd, hone, hcell⟩ := elems_sound hC hx h
    have hlen : vs.length = m.length * e := by rw [hr.length, flat_length hel]
    refine ⟨vs, ⟨fun w' => by simp [Builtin.lenOf], fun w' hw => ?_, hlen⟩, hr, hel, hone⟩
    cases ad with
    | none =>
      have h0 := hn rfl
      have : vs = [] := List.length_eq_zero_iff.1 (by rw [hlen, h0]; simp)
      subst this
      simp [Builtin.firstCells]
    | some a =>
      refine run_firstCells_some w' e m.length _ _ _ vs hlen fun j v hv => ?_
      have := hcell a rfl j v hv
      simp only [World.cell?, hw] at this ⊢
      exact this
  cases X <;> simp only [srcE, reduceCtorEq, Option.some.injEq] at hE
  · rename_i s
    simp only [srcA, Option.some.injEq] at hA
    subst hE; subst hA
    cases hx with
    | str l s' hs hb =>
      subst hs
      refine ⟨s'.data.toList.map fun b => Value.int .u8 b.toNat, ⟨fun w' => by simp [Builtin.lenOf, bytesA], fun w' _ => ?_, by simp [bytesA]⟩, by rw [bytesA_flat]; exact bytesA_rep _, bytesA_cells _, by simp [one]⟩
      have hlen : (bytesA s'.data.toList).length = s'.size := by simp [bytesA]
      rw [hlen]
      simp only [Builtin.firstCells, Sem.run_pure]
      congr 1
      apply Array.ext'
      simp
  · subst hE
    simp only [srcA, Option.some.injEq] at hA
    subst hA
    exact key hx (by simp [elems])
  · rename_i k0 v0 e0 off0 len0
    subst hE
    simp only [srcA, Option.map_eq_some_iff] at hA
    obtain ⟨⟨e', m'⟩, h1, rfl⟩ := hA
    have : e' = e0 := by
      simp only [elems] at h1
      split at h1
      · split at h1
        · split at h1
          · simp only [Option.some.injEq, Prod.mk.injEq] at h1; exact h1.1.symm
          · cases h1
        · cases h1
      · cases h1
    subst this
    exact key hx h1

/-- Whatever is appended. -/
theorem append_core {o : Oper} {t u el : TypeId} {e by_ : Nat} (ht : P.underlying t = some (.slice el)) {inf : TypeInfo} (hinf : P.info? el = some inf) (hsz : inf.size = e) (hbys : inf.bytes = by_) {Z : Value} (hZ : inf.zero = some Z) (hZsz : Z.cells.size = inf.size)
    (hC : Conc n G w ⟨fr, st⟩ a) {key : Key} {K : AVal → Store → Prop} {tag : Tag} {l m : List AVal} {VX VY : Value} {news : List Value} {Kw : Act → World → Prop} {Q : Exit → Act → World → Prop}
    (hK : ∀ v x st' G' w', K v st' → Rep G' st' v x → ConcS G' w' st' → Ext G w st G' w' st' → Kw (a.put o.dst x) w') (he0 : 0 < e) (hb0 : 0 < by_)
    (hex : ∀ {V w'}, (Builtin.append_ #[t, u] o.type #[VX, VY]).run P w = .ok V w' → (execOp a.eval o).run P w = .ok (.value V) w') (h1 : Rep G st (.list tag e l) VX) (hApp : App st tag l.length) (hbd : (l.length + m.length) * by_ ≤ 2 ^ 47)
    (hkk : K (.list (.tk key ((st key).ver + 1)) e (l ++ m)) (stTail st tag key (l ++ m).length)) (hs : Src P w u inf VY m.length news) (hnr : RepL G st (flat m) news) (hme : ∀ y ∈ m, y.cells.length = e) (hnone : ∀ v ∈ news, one v = true) : o.wp P a w Kw Q := by
  have hver' : (stTail st tag key (l ++ m).length key) = ⟨(st key).ver + 1, some (.tail (l ++ m).length)⟩ := by simp [stTail, kill_ver]
  cases h1 with
  | list _ _ _ ad cap vs hc hbc hel hr hi' hn htag =>
  have hold := slice_src (P := P) hC.st hr hel hi' hn hc
  have hvl : vs.length = l.length * e := hold.length
  have hnl : news.length = m.length * e := by rw [hs.length, hsz]
  have hlm : (l ++ m).length = l.length + m.length := by simp
  have hflat : flat (l ++ m) = flat l ++ flat m := flat_append l m
  have hle : ∀ y ∈ l ++ m, y.cells.length = e := fun y hy => by
    rcases List.mem_append.1 hy with h | h
    · exact hel y h
    · exact hme y h
  have hreg : cap = l.length ∨ ∃ k0 v0 adr, tag = .tk k0 v0 ∧ Owns G st k0 adr.block ∧ ad = some adr ∧ adr.off + l.length * e = G.lo k0 ∧ adr.off + cap * e ≤ G.hi k0 ∧ G.lo k0 < G.hi k0 ∧ adr.block = G.blk k0 ∧
      (st k0).obj = some (.tail l.length) := by
    cases tag with
    | none => exact hApp.elim
    | full => exact .inl htag
    | tk k0 v0 =>
      obtain ⟨a1, a2⟩ := hApp
      rcases htag.2 a1.symm a2 with h | ⟨adr, h1, h2, h3, h4, h5⟩
      · exact .inl h
      · exact .inr ⟨k0, v0, adr, rfl, by simp [Owns, a2, h5, h2], h1, h3, h4, h5, h2, a2⟩
  by_cases hroom : l.length + m.length ≤ cap
  · by_cases hm0 : m.length = 0
    · -- nothing is appended
      have hml : m = [] := List.length_eq_zero_iff.1 hm0
      subst hml
      have hrun := run_append_empty (P := P) (w := w) (ty := o.type) ht hinf hs ad hc
      rw [List.append_nil] at hkk hver'
      rcases hreg with hcap | ⟨k0, v0, adr, rfl, hown, rfl, r1, r2, r3, r4, r5⟩
      · obtain ⟨d1, d2⟩ := conc_tail hC.st tag key l.length w.heap.size 0 0 G.imm w (fun _ _ _ => rfl) (Nat.le_refl _) (fun h => by omega) (fun _ _ _ h => h) (fun _ _ _ h => .inl h) hC.st.imm
          (.inl (Nat.le_refl _)) (fun o' _ => by cases hh : G.imm w.heap.size o' with
            | none => rfl
            | some v => have := hC.st.imm_lt hh; omega) hC.st.one rfl rfl rfl
        refine wp_value (hex hrun) (hK _ _ _ _ _ hkk ?_ d1 d2)
        have hr2 := hr.later d2.later
        exact .list _ e l ad cap vs hc hbc hel hr2 (fun x hx => ⟨(hi' x hx).1, (hi' x hx).2.later d2.later⟩) hn ⟨by rw [hver']; exact Nat.le_refl _, fun _ _ => .inl hcap⟩
      · have hobj := hC.st.obj k0 _ r5 r3
        obtain ⟨vs0, el0, fz, g1, g2, g3⟩ := hobj
        have hblt : adr.block < w.heap.size := hC.st.size k0 _ hown
        obtain ⟨d1, d2⟩ := conc_tail hC.st (.tk k0 v0) key l.length adr.block (G.lo k0) (G.hi k0) G.imm w (fun _ _ _ => rfl) (Nat.le_refl _) (fun h => ⟨hblt, vs0, el0, fz, by rw [r4]; exact g1, g2, g3⟩) (fun _ _ _ h => h) (fun _ _ _ h => .inl h) hC.st.imm
          (.inr ⟨k0, v0, rfl, hown⟩) (fun o' ho' => by
            rcases hC.st.own k0 _ o' hown with h | ⟨_, _, h⟩
            · exact h
            · omega) hC.st.one rfl rfl rfl
        refine wp_value (hex hrun) (hK _ _ _ _ _ hkk ?_ d1 d2)
        have hr2 := hr.later d2.later
        refine .list _ e l _ cap vs hc hbc hel hr2 (fun x hx => ⟨(hi' x hx).1, (hi' x hx).2.later d2.later⟩) hn ⟨by rw [hver']; exact Nat.le_refl _, fun _ _ => .inr ⟨adr, rfl, ?_, ?_, ?_, ?_⟩⟩
        · simp [Ghost.tail, Ghost.setLoc]
        · simp [Ghost.tail, Ghost.setLoc, r1]
        · simpa [Ghost.tail, Ghost.setLoc] using r2
        · simpa [Ghost.tail, Ghost.setLoc] using r3
    · -- in place
      rcases hreg with hcap | ⟨k0, v0, adr, rfl, hown, rfl, r1, r2, r3, r4, r5⟩
      · omega
      · obtain ⟨vs0, el0, fz, g1, g2, g3⟩ := hC.st.obj k0 _ r5 r3
        have hblt : adr.block < w.heap.size := hC.st.size k0 _ hown
        obtain ⟨b, off, sp⟩ := adr
        obtain ⟨rfl, himm⟩ := hi' _ rfl
        simp only at r1 r2 r4 hown hblt himm
        subst r4
        have hmul : (l.length + m.length) * e ≤ cap * e := Nat.mul_le_mul_right e hroom
        rw [Nat.add_mul] at hmul
        have hrun := run_append_inplace (P := P) (w := w) (ty := o.type) (off := off) ht hinf hs g1 g2 hroom (by rw [hsz, hnl]; omega) (fun v hv => by rw [← one_eq]; exact hnone v hv)
        rw [hsz, r1] at hrun
        have hfr := setRow_heap w (G.blk k0) vs0 (vs0.toList.take (G.lo k0) ++ news ++ vs0.toList.drop (G.lo k0 + news.length)).toArray el0 fz g1
        generalize hcs : (vs0.toList.take (G.lo k0) ++ news ++ vs0.toList.drop (G.lo k0 + news.length)) = cs at *
        have hcsl : cs.length = vs0.size := by rw [← hcs]; simp; omega
        have hget : ∀ o', cs[o']? = if o' < G.lo k0 then vs0[o']? else if o' < G.lo k0 + news.length then news[o' - G.lo k0]? else vs0[o']? := by
          intro o'
          rw [← hcs]
          have hlt : (vs0.toList.take (G.lo k0)).length = G.lo k0 := by simp; omega
          by_cases p1 : o' < G.lo k0
          · rw [if_pos p1, List.append_assoc, List.getElem?_append_left (by omega), List.getElem?_take, if_pos p1]; simp
          · rw [if_neg p1]
            by_cases p2 : o' < G.lo k0 + news.length
            · rw [if_pos p2, List.append_assoc, List.getElem?_append_right (by omega), hlt, List.getElem?_append_left (by omega)]
            · rw [if_neg p2, List.getElem?_append_right (by simp; omega), List.getElem?_drop]
              simp only [List.length_append, hlt]
              rw [show G.lo k0 + news.length + (o' - (G.lo k0 + news.length)) = o' by omega]
              simp
        obtain ⟨imm', himm'⟩ : ∃ imm' : Nat → Nat → Option Value, imm' = fun b' o' => if b' = G.blk k0 ∧ G.lo k0 ≤ o' ∧ o' < G.lo k0 + news.length then news[o' - G.lo k0]? else G.imm b' o' := ⟨_, rfl⟩
        have hold0 : ∀ o', G.lo k0 ≤ o' → G.imm (G.blk k0) o' = none := fun o' ho' => by
          rcases hC.st.own k0 _ o' hown with h | ⟨_, _, h⟩
          · exact h
          · omega
        obtain ⟨d1, d2⟩ := conc_tail hC.st (.tk k0 v0) key (l ++ m).length (G.blk k0) (G.lo k0 + news.length) (G.hi k0) imm' (w.setRow (G.blk k0) cs.toArray) (fun b' _ hb' => heap_setRow_other _ _ _ hb') (by simp)
          (fun _ => ⟨by simpa using hblt, cs.toArray, el0, fz, hfr, by simpa [hcsl] using g2, by simp [hcsl, g3]⟩)
          (fun b' o' v h => by
            rw [himm']
            simp only
            rw [if_neg]
            · exact h
            · rintro ⟨rfl, p1, p2⟩
              rw [hold0 o' p1] at h
              cases h)
          (fun b' o' v h => by
            rw [himm'] at h
            simp only at h
            split at h
            · rename_i hh; exact .inr hh.1
            · exact .inl h)
          (fun b' o' v h => by
            rw [himm'] at h
            simp only at h
            split at h
            · rename_i hh
              obtain ⟨rfl, p1, p2⟩ := hh
              simp only [World.cell?, hfr]
              have := hget o'
              rw [if_neg (by omega), if_pos p2, h] at this
              simpa using this
            · rename_i hh
              have hc0 := hC.st.imm b' o' v h
              by_cases hbb : b' = G.blk k0
              · subst hbb
                have hlo : o' < G.lo k0 := by
                  by_cases p : G.lo k0 ≤ o'
                  · rw [hold0 o' p] at h; cases h
                  · omega
                simp only [World.cell?, hfr]
                have := hget o'
                rw [if_pos hlo] at this
                simp only [World.cell?, g1] at hc0
                have hv : vs0[o']? = some v := by simpa using hc0
                rw [hv] at this
                simpa using this
              · simp only [World.cell?] at hc0 ⊢
                rw [heap_setRow_other _ _ _ hbb]
                exact hc0)
          (.inr ⟨k0, v0, rfl, hown⟩)
          (fun o' ho' => by
            rw [himm']
            simp only
            rw [if_neg (by omega)]
            exact hold0 o' (by omega))
          (fun b' o' v h => by
            rw [himm'] at h
            simp only at h
            split at h
            · exact hnone v (List.mem_of_getElem? h)
            · exact hC.st.one b' o' v h) rfl rfl rfl
        refine wp_value (hex hrun) (hK _ _ _ _ _ hkk ?_ d1 d2)
        have hrr : RepL (G.tail imm' key (G.blk k0) (G.lo k0 + news.length) (G.hi k0)) (stTail st (.tk k0 v0) key (l ++ m).length) (flat (l ++ m)) (vs ++ news) := by
          rw [hflat]
          exact (hr.later d2.later).append (hnr.later d2.later)
        rw [← hlm]
        refine .list _ e (l ++ m) _ cap (vs ++ news) (by omega) hbc hle hrr (fun x hx => ?_) hn ⟨by rw [hver']; exact Nat.le_refl _, fun _ _ => ?_⟩
        · cases hx
          refine ⟨rfl, fun j v hv => ?_⟩
          show imm' _ _ = _
          rw [himm']
          simp only
          rw [List.getElem?_append] at hv
          split at hv
          · rename_i hj
            rw [if_neg (by omega)]
            exact himm j v hv
          · rename_i hj
            rw [if_pos ⟨trivial, by omega, by have := (List.getElem?_eq_some_iff.1 hv).1; omega⟩]
            rw [show off + j - G.lo k0 = j - vs.length by omega]
            exact hv
        · by_cases hfull : G.lo k0 + news.length < G.hi k0
          · right
            refine ⟨_, rfl, ?_, ?_, ?_, ?_⟩
            · simp [Ghost.tail, Ghost.setLoc]
            · simp only [Ghost.tail, Ghost.setLoc, if_true, hlm, Nat.add_mul]; omega
            · simpa [Ghost.tail, Ghost.setLoc] using r2
            · simpa [Ghost.tail, Ghost.setLoc] using hfull
          · left
            have : cap * e ≤ (l.length + m.length) * e := by rw [Nat.add_mul]; omega
            have := Nat.le_of_mul_le_mul_right this he0
            omega
  · -- a new block
    have hneed : l.length + m.length ≤ 2 ^ 47 := by
      have : (l.length + m.length) * 1 ≤ (l.length + m.length) * by_ := Nat.mul_le_mul_left _ hb0
      omega
    have hrun := run_append_new (P := P) (w := w) (ty := o.type) ht hinf hZ hs (by rw [hsz]; exact hold) (by omega) (by omega) (by rw [hbys]; exact hbd)
    have hge := grownCap_ge w (l.length + m.length) cap el
    have hlt := grownCap_le_maxLen w (l.length + m.length) cap el (by simp only [maxLen]; omega)
    simp only [maxLen] at hlt
    generalize grownCap w (l.length + m.length) cap el = cap' at *
    generalize hblk : (vs.toArray ++ news.toArray ++ Builtin.zeroCells Z.cells (cap' - (l.length + m.length))) = cells at *
    have hzs : (Builtin.zeroCells Z.cells (cap' - (l.length + m.length))).size = (cap' - (l.length + m.length)) * e := by rw [size_zeroCells, hZsz, hsz]
    have hcs : cells.size = cap' * e := by
      rw [← hblk]
      simp only [Array.size_append, List.size_toArray, hzs, hvl, hnl]
      rw [← Nat.add_mul, ← Nat.add_mul]
      congr 1
      omega
    have hget : ∀ (o' : Nat) (v : Value), (vs ++ news)[o']? = some v → cells[o']? = some v := by
      intro o' v hv
      have hlt' := (List.getElem?_eq_some_iff.1 hv).1
      rw [← hblk, Array.getElem?_append_left (by simp at hlt' ⊢; omega)]
      rw [← hv]
      simp
    obtain ⟨imm', himm'⟩ : ∃ imm' : Nat → Nat → Option Value, imm' = fun b' o' => if b' = w.heap.size then (vs ++ news)[o']? else G.imm b' o' := ⟨_, rfl⟩
    have hfresh : ∀ o', G.imm w.heap.size o' = none := fun o' => by
      cases hh : G.imm w.heap.size o' with
      | none => rfl
      | some v => have := hC.st.imm_lt hh; omega
    have hvone := immOne hC.st hr hel hi' hn hc
    obtain ⟨d1, d2⟩ := conc_tail hC.st tag key (l ++ m).length w.heap.size ((l.length + m.length) * e) (cap' * e) imm' (w.drew.alloc (.cells cells el))
      (fun b' hb' _ => by have := heap_alloc_lt w.drew (.cells cells el) (b := b') hb'; exact this) (by rw [heap_alloc_size]; exact Nat.le_succ _)
      (fun _ => ⟨by rw [heap_alloc_size]; exact Nat.lt_succ_self _, cells, el, (0, 0), heap_alloc_at w.drew _, thawed_zero _, hcs.symm⟩)
      (fun b' o' v h => by
        rw [himm']
        simp only
        rw [if_neg]
        · exact h
        · rintro rfl; rw [hfresh] at h; cases h)
      (fun b' o' v h => by
        rw [himm'] at h
        simp only at h
        split at h
        · rename_i hh; exact .inr hh
        · exact .inl h)
      (fun b' o' v h => by
        rw [himm'] at h
        simp only at h
        split at h
        · rename_i hh
          subst hh
          have h1 : (w.drew.alloc (.cells cells el)).heap[w.heap.size]? = some (.cells cells el) := heap_alloc_at w.drew _
          simp only [World.cell?, h1]
          simpa using hget o' v h
        · have hc0 := hC.st.imm b' o' v h
          have h1 : (w.drew.alloc (.cells cells el)).heap[b']? = w.heap[b']? := heap_alloc_lt w.drew (.cells cells el) (b := b') (hC.st.imm_lt h)
          simp only [World.cell?, h1] at hc0 ⊢
          exact hc0)
      (.inl (Nat.le_refl _))
      (fun o' ho' => by
        rw [himm']
        simp only [if_true]
        apply List.getElem?_eq_none
        rw [List.length_append, hvl, hnl, ← Nat.add_mul]
        exact ho')
      (fun b' o' v h => by
        rw [himm'] at h
        simp only at h
        split at h
        · rcases List.mem_append.1 (List.mem_of_getElem? h) with h | h
          · exact hvone v h
          · exact hnone v h
        · exact hC.st.one b' o' v h) rfl rfl rfl
    refine wp_value (hex hrun) (hK _ _ _ _ _ hkk ?_ d1 d2)
    have hrr : RepL (G.tail imm' key w.heap.size ((l.length + m.length) * e) (cap' * e)) (stTail st tag key (l ++ m).length) (flat (l ++ m)) (vs ++ news) := by
      rw [hflat]
      exact (hr.later d2.later).append (hnr.later d2.later)
    refine rep_list' (vs := vs ++ news) hlm.symm (by omega) (by omega) hle hrr (fun x hx => ?_) (fun h => by cases h) ⟨by rw [hver']; exact Nat.le_refl _, fun _ _ => ?_⟩
    · cases hx
      refine ⟨rfl, fun j v hv => ?_⟩
      show imm' _ _ = _
      rw [himm']
      simpa using hv
    · by_cases hfull : (l.length + m.length) * e < cap' * e
      · right
        refine ⟨_, rfl, ?_, ?_, ?_, ?_⟩
        · simp [Ghost.tail, Ghost.setLoc]
        · simp [Ghost.tail, Ghost.setLoc]
        · simp [Ghost.tail, Ghost.setLoc]
        · simpa [Ghost.tail, Ghost.setLoc] using hfull
      · left
        have : cap' * e ≤ (l.length + m.length) * e := by omega
        have := Nat.le_of_mul_le_mul_right this he0
        omega


theorem append_ok {o : Oper} {c : Call} {t u el : TypeId} {x y : Operand} {e by_ : Nat} (ho : o.op = .call c) (hb : c.callee = .builtin .append) (hargs : c.args.toList = [x, y]) (hts : c.argTypes.toList = [t, u])
    (ht : P.underlying t = some (.slice el)) (hu : notInt P u) (he : eszOf P el = some e) (hby : bytesE P el = some by_) (hb0 : 0 < by_) (he0 : 0 < e) {z : Zero} (hz : zeroA P el = some z) {dx dy : Opd} (hx : opd P t x = some dx) (hy : opd P u y = some dy) :
    ImpOK P n o (.append e by_) [dx, dy] := by
  intro G w fr st a key mu K KP hC hi Kw Q hK hP
  have h1 := opd_sound hC hx
  have h2 := opd_sound hC hy
  rw [two_args hb hargs hts] at ho
  obtain ⟨inf, hinf, hsz⟩ := eszOf_info he
  obtain ⟨inf', Z, hinf', hZ, hZsz, hZr⟩ := zeroA_sound (G := G) (st := st) hz
  rw [hinf] at hinf'
  cases hinf'
  have hbys : inf.bytes = by_ := by simpa [bytesE, hinf] using hby
  simp only [List.map_cons, List.map_nil] at hi
  generalize fr.ev dx = X at *
  generalize fr.ev dy = Y at *
  generalize hVX : a.eval x = VX at *
  generalize hVY : a.eval y = VY at *
  have hex : ∀ {V w'}, (Builtin.append_ #[t, u] o.type #[VX, VY]).run P w = .ok V w' → (execOp a.eval o).run P w = .ok (.value V) w' := by
    intro V w' h
    simp [execOp, ho, resolve, invoke, builtin, hVX, hVY, h]
  cases X <;> simp only [iwp] at hi
  rename_i tag e' l
  cases mu with
  | true => simp at hi
  | false =>
    simp only [Bool.false_eq_true, if_false] at hi
    obtain ⟨rfl, hApp, hE, m, hA, hbd, hk⟩ := hi
    have hkk : K (.list (.tk key ((st key).ver + 1)) e (l ++ m)) (stTail st tag key (l ++ m).length) := by
      have e1 : ((st.kill tag) key).ver = (st key).ver := kill_ver _ _ _
      rw [e1] at hk
      unfold stTail
      rw [e1]
      exact hk
    clear hk
    obtain ⟨news, hs, hnr, hme, hnone⟩ := src_sound (P := P) hC.st h2 hE hA
    exact append_core ht hinf hsz hbys hZ hZsz hC hK he0 hb0 hex h1 hApp hbd hkk (.plain hu (by rw [hsz]; exact hs)) hnr hme hnone

theorem appendZ_ok {o : Oper} {c : Call} {t u el : TypeId} {x y : Operand} {e by_ : Nat} {ag : Bool} {kd : IntKind} (ho : o.op = .call c) (hb : c.callee = .builtin .append) (hargs : c.args.toList = [x, y]) (hts : c.argTypes.toList = [t, u])
    (ht : P.underlying t = some (.slice el)) (hu : P.underlying u = some (.int kd)) (he : eszOf P el = some e) (hby : bytesE P el = some by_) (hb0 : 0 < by_) (he0 : 0 < e) {z : Zero} (hz : zeroA P el = some z) {dx dy : Opd} (hx : opd P t x = some dx) (hy : opd P u y = some dy) :
    ImpOK P n o (.appendZ e by_ ag z) [dx, dy] := by
  intro G w fr st a key mu K KP hC hi Kw Q hK hP
  have h1 := opd_sound hC hx
  have h2 := opd_sound hC hy
  rw [two_args hb hargs hts] at ho
  obtain ⟨inf, hinf, hsz⟩ := eszOf_info he
  obtain ⟨inf', Z, hinf', hZ, hZsz, hZr⟩ := zeroA_sound (G := G) (st := st) hz
  rw [hinf] at hinf'
  cases hinf'
  have hbys : inf.bytes = by_ := by simpa [bytesE, hinf] using hby
  simp only [List.map_cons, List.map_nil] at hi
  generalize fr.ev dx = X at *
  generalize fr.ev dy = Y at *
  generalize hVX : a.eval x = VX at *
  generalize hVY : a.eval y = VY at *
  have hex : ∀ {V w'}, (Builtin.append_ #[t, u] o.type #[VX, VY]).run P w = .ok V w' → (execOp a.eval o).run P w = .ok (.value V) w' := by
    intro V w' h
    simp [execOp, ho, resolve, invoke, builtin, hVX, hVY, h]
  cases X <;> simp only [iwp] at hi
  rename_i tag e' l
  cases Y <;> simp only [iwp] at hi
  rename_i k N
  obtain ⟨rfl, rfl, hApp, hN0, hze, hzc, hag, hbd, hk⟩ := hi
  have hVYe := rep_int h2
  subst hVYe
  have hZe : Z.cells.size = e := by rw [hZsz, hsz]
  have hrc := range_cells hZr N.toNat e hZe he0
  have hallc : ((List.replicate N.toNat z.cells).flatten).all isCell = true := by
    rw [List.all_eq_true] at hzc ⊢
    intro y hy
    obtain ⟨l', h1, h2⟩ := List.mem_flatten.1 hy
    rw [List.eq_of_mem_replicate h1] at h2
    exact hzc y h2
  have hfl : ((List.replicate N.toNat z.cells).flatten).length = N.toNat * e := by simp [hze]
  obtain ⟨c1, c2, c3⟩ := chunks_flat (e := e) (ag := ag) (fun h => by rcases hag with h' | h'; (rw [h] at h'; cases h'); exact h') hfl (fun _ y hy => isCell_cells (List.all_eq_true.1 hallc y hy))
  have hNb : N.toNat * by_ ≤ 2 ^ 47 := Nat.le_trans (Nat.mul_le_mul_right _ (by omega)) hbd
  have hN63 : N.toNat < 2 ^ 63 := by
    have : N.toNat * 1 ≤ N.toNat * by_ := Nat.mul_le_mul_left _ hb0
    omega
  refine append_core (key := key) (m := chunks e ag N.toNat (List.replicate N.toNat z.cells).flatten) ht hinf hsz hbys hZ hZsz hC hK he0 hb0 hex h1 hApp (by rw [c2]; exact hbd) ?_
    (.zeros kd hu (by rw [c2]; congr 1; omega) (by rw [c2]; exact hN63) (by rw [c2, hbys]; exact hNb) Z hZ rfl (by rw [c2]; simp [Builtin.zeroCells, hZsz])) (by rw [c1, c2]; simpa [Builtin.zeroCells, hZe] using hrc) c3 ?_
  · have e1 : ((st.kill tag) key).ver = (st key).ver := kill_ver _ _ _
    rw [e1] at hk
    unfold stTail
    rw [e1, List.length_append, c2]
    exact hk
  · rw [c2]
    have : (Builtin.zeroCells Z.cells N.toNat).toList = ((Array.range (N.toNat * e)).map (Z.cells[· % Z.cells.size]!)).toList := by simp [Builtin.zeroCells, hZe]
    rw [this]
    exact hrc.ones hallc

end
end Go.Am
/- The abstract machine is sound: calls; every operation. -/
namespace Go.Am

section
variable {P : Program} {n : Nat} {G : Ghost} {w : World} {fr : Fr} {st : Store} {a : Act}

theorem args_sound (hC : Conc n G w ⟨fr, st⟩ a) {xs : List Operand} {ts : List TypeId} (hn : xs.length = ts.length) {ds : List Opd} (h : (xs.zip ts).mapM (fun (p : Operand × TypeId) => opd P p.2 p.1) = some ds) :
    RepL G st (ds.map fr.ev) (xs.map a.eval) := by
  obtain ⟨h1, h2⟩ := mapM_get h
  refine RepL.ofGet (by simp at h1; simp; omega) fun i x v hx hv => ?_
  simp only [List.getElem?_map, Option.map_eq_some_iff] at hx hv
  obtain ⟨d, hd, rfl⟩ := hx
  obtain ⟨y, hy, rfl⟩ := hv
  have hi : i < xs.length := (List.getElem?_eq_some_iff.1 hy).1
  obtain ⟨d', hd', he⟩ := h2 i (y, ts[i]'(by omega)) (by simp [List.getElem?_zip_eq_some, hy])
  rw [hd] at hd'
  cases hd'
  exact opd_sound hC he

theorem upon_call {o : Oper} {f : FuncId} {args : Array Value} {Kw : Act → World → Prop} {Q : Exit → Act → World → Prop} (h : (execOp a.eval o).run P w = .ok (.enter f args) w)
    {as : List AVal} {K KP : AVal → Store → Prop} (hC : ConcS G w st) (ha : RepL G st as args.toList) (hcall : ACalls P f as st (endK K KP))
    (hK : ∀ v x st' G' w', K v st' → Rep G' st' v x → ConcS G' w' st' → Ext G w st G' w' st' → Kw (a.put o.dst x) w')
    (hP : ∀ v x st' G' w', KP v st' → Rep G' st' v x → ConcS G' w' st' → Ext G w st G' w' st' → Q (.panic [{ v := x, recovered := false }]) a w') : o.wp P a w Kw Q := by
  unfold Oper.wp
  rw [h]
  have := hcall G w args.toList hC ha
  rw [Array.toArray_toList] at this
  refine this.mono fun e w' ⟨ae, st', G', h1, h2, h3, h4⟩ => ?_
  cases h2 with
  | ret v x hr => exact hK v x st' G' w' h1 hr h3 h4
  | panic v x hr => exact hP v x st' G' w' h1 hr h3 h4

theorem call_ok {o : Oper} {c : Call} {f : FuncId} {fn : Func} {ds : List Opd} (ho : o.op = .call c) (hcal : c.callee = .value (.func f)) (hn : c.args.size = c.argTypes.size) (hf : P.funcs[f]? = some fn) (hb : fn.body.isSome = true)
    (hname : fn.name ≠ "runtime.NumGoroutine") (hd : (c.args.toList.zip c.argTypes.toList).mapM (fun (p : Operand × TypeId) => opd P p.2 p.1) = some ds) : ImpOK P n o (.call f) ds := by
  intro G w fr st a key mu K KP hC hi Kw Q hK hP
  have ha := args_sound hC (by simpa using hn) hd
  have hi' : ACalls P f (ds.map fr.ev) st (endK K KP) := by
    unfold iwp at hi
    exact hi
  refine upon_call (f := f) (args := c.args.map a.eval) ?_ hC.st (by simpa using ha) hi' hK hP
  obtain ⟨callee, args, argTypes⟩ := c
  simp only at hcal
  subst hcal
  have hbn : fn.body.isNone = false := by cases hfb : fn.body <;> simp_all
  simp [execOp, ho, resolve, Act.eval, Deferred.ofValue, invoke, callFunc, hf, hname, hbn]
  intro hnone
  rw [hnone] at hb
  cases hb

theorem panic_ok {o : Oper} {x : Operand} (ho : o.op = .panic x) {d : Opd} (hd : opd P o.type x = some d) : ImpOK P n o .panic [d] := by
  intro G w fr st a key mu K KP hC hi Kw Q hK hP
  have h1 := opd_sound hC hd
  simp only [List.map_cons, List.map_nil, iwp] at hi
  obtain ⟨⟨t, y, hy⟩, hi⟩ := hi
  unfold Oper.wp
  generalize hX : a.eval x = X at *
  rw [hy] at h1
  have h1' := h1
  cases h1 with
  | iface t' y' v hv =>
    have : (execOp a.eval o).run P w = .halt (.panic (.iface t v)) w := by simp [execOp, ho, hX, Instr.panic]
    rw [this]
    exact hP _ _ _ _ _ hi (by rw [hy]; exact h1') hC.st (Ext.refl _ _ _)

theorem callv_ok {o : Oper} {c : Call} {f : Operand} {d : Opd} {ds : List Opd} (ho : o.op = .call c) (hcal : c.callee = .value f) (hn : c.args.size = c.argTypes.size)
    (hfd : opd P o.type f = some d) (hd : (c.args.toList.zip c.argTypes.toList).mapM (fun (p : Operand × TypeId) => opd P p.2 p.1) = some ds)
    : ImpOK P n o .callv (d :: ds) := by
  intro G w fr st a key mu K KP hC hi Kw Q hK hP
  have ha := args_sound hC (by simpa using hn) hd
  have h1 := opd_sound hC hfd
  simp only [List.map_cons] at hi
  generalize fr.ev d = D at *
  generalize hF : a.eval f = F at *
  cases D <;> simp only [iwp] at hi
  rename_i g first cap
  cases g <;> simp only [iwp] at hi
  rename_i g
  obtain ⟨⟨fn, hf, hb, hname⟩, hi⟩ := hi
  cases h1 with
  | fn _ _ _ fs cs hfs hcs =>
  have hall := (hfs.append ha).append hcs
  refine upon_call (f := g) (args := fs ++ c.args.map a.eval ++ cs) ?_ hC.st (by simpa using hall) hi hK hP
  obtain ⟨callee, args, argTypes⟩ := c
  simp only at hcal
  subst hcal
  have hbn : fn.body.isNone = false := by cases hfb : fn.body <;> simp_all
  simp [execOp, ho, resolve, hF, Deferred.ofValue, invoke, callFunc, hf, hname, hbn]
  intro hnone
  rw [hnone] at hb
  cases hb

end
end Go.Am
/- The abstract machine is sound: maps, walks over maps, slices of arrays. -/
namespace Go.Am
open Go.ChangeMaps (setBlock)

section
variable {P : Program} {n : Nat} {G : Ghost} {w : World} {fr : Fr} {st : Store} {a : Act}

theorem ConcS.heap {G : Ghost} {w w' : World} {st : Store} (h : ConcS G w st) (he : w'.heap = w.heap) : ConcS G w' st where
  one := h.one
  imm := fun b o v e => by have := h.imm b o v e; simp only [World.cell?, he] at this ⊢; exact this
  obj := fun k o e => by have := h.obj k o e; cases o <;> simp only [ObjOK, he] at this ⊢ <;> exact this
  inj := h.inj
  own := h.own
  size := fun k b e => by rw [he]; exact h.size k b e

theorem heap_setBlock (w : World) {r : Nat} (o : Obj) (h : r < w.heap.size) : (setBlock w r o).heap[r]? = some o := by
  simp [setBlock, h]

theorem heap_setBlock_ne (w : World) {r b : Nat} (o : Obj) (h : b ≠ r) : (setBlock w r o).heap[b]? = w.heap[b]? := by
  simp [setBlock, Array.getElem?_setIfInBounds_ne (Ne.symm h)]

theorem size_setBlock (w : World) (r : Nat) (o : Obj) : (setBlock w r o).heap.size = w.heap.size := by simp [setBlock]

theorem run_setMap {r : Nat} {es : Array MapEntry} {c : Nat} (h : w.heap[r]? = some (.map es c)) (o : Obj) : (setObj r o).run P w = .ok () (setBlock w r o) := by
  simp [setObj, Sem.run, h, setBlock]

theorem later_setObj (G : Ghost) (st : Store) (k : Key) (ao : AObj) (hao : ∀ n, ao ≠ .tail n) : Later G st G (st.set k ⟨(st k).ver, some ao⟩) where
  imm := fun _ _ _ h => h
  ver := fun k' => by
    by_cases h : k' = k
    · subst h; simp
    · rw [Store.set_other _ _ h]; exact Nat.le_refl _
  blk := fun _ _ => ⟨rfl, rfl, rfl⟩
  tail := fun k' m _ h => by
    by_cases e : k' = k
    · subst e; simp at h; exact absurd h (hao m)
    · rw [Store.set_other _ _ e] at h; exact h

theorem mapAt_obj {k : Key} {v : Nat} {es : List AEntry} {c : Nat} (h : mapAt st k v = some (es, c)) : (st k).ver = v ∧ (st k).obj = some (.map es c) := by
  unfold mapAt at h
  split at h
  · rename_i hv
    split at h
    · rename_i es' c' ho
      simp only [Option.some.injEq, Prod.mk.injEq] at h
      obtain ⟨rfl, rfl⟩ := h
      exact ⟨hv, ho⟩
    · cases h
  · cases h

/-- A map's entries are others now. -/
theorem conc_setMap (hC : ConcS G w st) {k : Key} {v : Nat} {es : List AEntry} {c : Nat} (hm : mapAt st k v = some (es, c)) {es' : List AEntry} {c' : Nat} {ents' : Array MapEntry} (hn : ents'.size = es'.length)
    (hr : ∀ i (h : i < es'.length) (h' : i < ents'.size), RepEntry G st es'[i] ents'[i]) :
    ConcS G (setBlock w (G.blk k) (.map ents' c')) (st.set k ⟨v, some (.map es' c')⟩) ∧ Ext G w st G (setBlock w (G.blk k) (.map ents' c')) (st.set k ⟨v, some (.map es' c')⟩) := by
  obtain ⟨hv, ho⟩ := mapAt_obj hm
  subst hv
  have hown : Owns G st k (G.blk k) := by simp [Owns, ho]
  have hlt := hC.size k _ hown
  have himm : ∀ o, G.imm (G.blk k) o = none := fun o' => by
    rcases hC.own k _ o' hown with h | ⟨m, hm, _⟩
    · exact h
    · rw [ho] at hm; cases hm
  have hl := later_setObj G st k (.map es' c') (by simp)
  exact conc_setObj hC hown (.map es' c') (by simp) (fun b' hb' => heap_setBlock_ne w _ hb') (size_setBlock _ _ _) himm (fun b' hb' => by simp [Owns] at hb'; exact hb'.symm)
    ⟨ents', heap_setBlock w _ hlt, hn, fun i h h' => (hr i h h').later hl⟩ rfl rfl rfl

theorem setE_none {key x : AVal} : ∀ {es : List AEntry}, setE es key x = some none → findE es key = some none
  | [], _ => rfl
  | e :: es, h => by
    unfold setE at h
    unfold findE
    cases hc : cellEq key e.key with
    | none => simp [hc] at h
    | some b =>
      cases b with
      | true => simp [hc] at h
      | false =>
        simp only [hc, Option.map_eq_some_iff] at h
        obtain ⟨r, h1, h2⟩ := h
        cases r with
        | none => simpa using setE_none h1
        | some _ => simp at h2

theorem setE_some {key x : AVal} : ∀ {es es' : List AEntry}, setE es key x = some (some es') → ∃ i e, es[i]? = some e ∧ cellEq key e.key = some true ∧ findE es key = some (some e) ∧ es' = es.set i ⟨e.born, key, x⟩ ∧ (∀ m < i, ∀ e', es[m]? = some e' → cellEq key e'.key = some false)
  | [], _, h => by simp [setE] at h
  | e :: es, es', h => by
    unfold setE at h
    cases hc : cellEq key e.key with
    | none => simp [hc] at h
    | some b =>
      cases b with
      | true =>
        simp only [hc, Option.some.injEq] at h
        subst h
        exact ⟨0, e, rfl, hc, by simp [findE, hc], rfl, fun m hm => by omega⟩
      | false =>
        simp only [hc, Option.map_eq_some_iff] at h
        obtain ⟨r, h1, h2⟩ := h
        cases r with
        | none => simp at h2
        | some l =>
          simp at h2; subst h2
          obtain ⟨i, e', a1, a2, a3, a4, a5⟩ := setE_some h1
          refine ⟨i + 1, e', by simpa using a1, a2, by simp [findE, hc, a3], by simp [a4], fun m hm e'' he => ?_⟩
          cases m with
          | zero => simp at he; subst he; exact hc
          | succ m => exact a5 m (by omega) e'' (by simpa using he)

theorem delE_spec {key : AVal} : ∀ {es es' : List AEntry}, delE es key = some es' → (findE es key = some none ∧ es' = es) ∨ ∃ i e, es[i]? = some e ∧ cellEq key e.key = some true ∧ findE es key = some (some e) ∧ es' = es.eraseIdx i ∧ (∀ m < i, ∀ e', es[m]? = some e' → cellEq key e'.key = some false)
  | [], _, h => by simp [delE] at h; subst h; exact .inl ⟨rfl, rfl⟩
  | e :: es, es', h => by
    unfold delE at h
    cases hc : cellEq key e.key with
    | none => simp [hc] at h
    | some b =>
      cases b with
      | true =>
        simp only [hc, Option.some.injEq] at h
        subst h
        exact .inr ⟨0, e, rfl, hc, by simp [findE, hc], rfl, fun m hm => by omega⟩
      | false =>
        simp only [hc, Option.map_eq_some_iff] at h
        obtain ⟨l, h1, rfl⟩ := h
        rcases delE_spec h1 with ⟨h2, rfl⟩ | ⟨i, e', a1, a2, a3, a4, a5⟩
        · exact .inl ⟨by simp [findE, hc, h2], rfl⟩
        · refine .inr ⟨i + 1, e', by simpa using a1, a2, by simp [findE, hc, a3], by simp [a4], fun m hm e'' he => ?_⟩
          cases m with
          | zero => simp at he; subst he; exact hc
          | succ m => exact a5 m (by omega) e'' (by simpa using he)

/-- Where a key lies, it lies first. -/
theorem first_eq {es : List AEntry} {key : AVal} {i j : Nat} {e e' : AEntry} (h1 : es[i]? = some e) (h2 : cellEq key e.key = some true) (h3 : ∀ m < i, ∀ e', es[m]? = some e' → cellEq key e'.key = some false)
    (h4 : es[j]? = some e') (h5 : cellEq key e'.key = some true) (h6 : ∀ m < j, ∀ e', es[m]? = some e' → cellEq key e'.key = some false) : i = j := by
  rcases Nat.lt_trichotomy i j with h | h | h
  · have := h6 i h e h1; rw [h2] at this; cases this
  · exact h
  · have := h3 j h e' h4; rw [h5] at this; cases this

theorem findE_mem {key : AVal} : ∀ {es : List AEntry} {e : AEntry}, findE es key = some (some e) → cellEq key e.key = some true
  | [], _, h => by simp [findE] at h
  | e :: es, e', h => by
    unfold findE at h
    cases hc : cellEq key e.key with
    | none => simp [hc] at h
    | some b =>
      cases b with
      | true => simp [hc] at h; subst h; exact hc
      | false => simp [hc] at h; exact findE_mem h

theorem sameBits_key {key k' : AVal} {x y : Value} (hx : Rep G st key x) (hy : Rep G st k' y) (h : cellEq key k' = some true) (hk : (∃ b, keyIs b key = true)) : Instr.sameBits 10000 y x = true := by
  obtain ⟨b, hk⟩ := hk
  cases key <;> cases b <;> simp [keyIs] at hk
  · cases k' <;> simp [cellEq] at h
    obtain ⟨rfl, rfl⟩ := h
    cases hx; cases hy
    simp [Instr.sameBits]
  · cases k' <;> simp [cellEq] at h
    subst h
    cases hx with
    | str l s hs hb =>
      cases hy with
      | str l' s' hs' hb' =>
        have : s' = s := by
          cases s; cases s'; simp at hs hs'
          congr 1
          apply Array.ext'; rw [hs, hs']
        subst this
        simp [Instr.sameBits, beq_toListBytes]

theorem mapset_ok {o : Oper} {t kt el : TypeId} {m k x : Operand} {ks : Bool} (ho : o.op = .mapUpdate t m k x) (hu : P.underlying t = some (.map kt el)) (hks : keyKind P kt = some ks)
    {dm dk dx : Opd} (hm : opd P t m = some dm) (hk : opd P kt k = some dk) (hx : opd P el x = some dx) : ImpOK P n o (.mapset ks) [dm, dk, dx] := by
  intro G w fr st a key mu K KP hC hi Kw Q hK hP
  have h1 := opd_sound hC hm
  have h2 := opd_sound hC hk
  have h3 := opd_sound hC hx
  obtain ⟨d, hud, hfit⟩ := keyKind_fits hks
  simp only [List.map_cons, List.map_nil] at hi
  generalize fr.ev dm = M at *
  generalize fr.ev dk = KK at *
  generalize fr.ev dx = X at *
  generalize hVM : a.eval m = VM at *
  generalize hVK : a.eval k = VK at *
  generalize hVX : a.eval x = VX at *
  cases M <;> simp only [iwp] at hi
  rename_i kk ver
  obtain ⟨hki, es, c, hmap, hi⟩ := hi
  obtain ⟨hver, ents, he, hn, hr⟩ := mapAt_sound hC.st hmap
  cases h1 with
  | mapr k' v' r' h hxx =>
    have := hxx hver.symm
    subst this
    have hg := run_getObj (P := P) w _ _ he (by simp)
    have hck := run_checkKey (P := P) hud (hfit _ hki) h2 false 9999 w
    rcases hi with ⟨es', hset, hk'⟩ | ⟨hset, hk'⟩
    · obtain ⟨i, e, a1, a2, a3, rfl, a5⟩ := setE_some hset
      obtain ⟨q, hq, hqr⟩ := findE_sound (hfit _ hki) h2 (es := es) (ents := ents.toList) 0 (by simp [hn]) (fun i p p' => by simpa using hr i p (by simpa using p')) a3
      have hfk := run_findKey (P := P) hud hq w
      cases q with
      | none => exact hqr.elim
      | some q =>
        obtain ⟨j, u⟩ := q
        obtain ⟨_, b2, b3, b4⟩ := hqr
        simp only [Nat.sub_zero] at b2 b4
        have hij : i = j := first_eq a1 a2 a5 b2 a2 b4
        subst hij
        have hil : i < es.length := (List.getElem?_eq_some_iff.1 a1).1
        have hie : i < ents.size := by omega
        have hrep := hr i hil hie
        have hei : es[i] = e := (List.getElem?_eq_some_iff.1 a1).2
        rw [hei] at hrep
        have hsb := sameBits_key h2 hrep.2.1 a2 ⟨_, hki⟩
        obtain ⟨c1, c2⟩ := conc_setMap hC.st hmap (es' := es.set i ⟨e.born, KK, X⟩) (c' := c) (ents' := ents.modify i fun e => { e with key := VK, val := VX }) (by simp [hn]) (fun j p p' => by
          by_cases hij : i = j
          · subst hij
            simp only [List.getElem_set_self, Array.getElem_modify_self]
            exact ⟨hrep.1, h2, h3⟩
          · simp only [List.getElem_set_ne hij, Array.getElem_modify_of_ne hij]
            exact hr j (by simpa using p) (by simpa using p'))
        refine wp_skipped (w' := _) ?_ (hK _ undef _ _ _ hk' (.junk _) c1 c2)
        simp [execOp, ho, hVM, hVK, hVX, Instr.mapUpdate, underlying, hu, hg, hck, hfk, Instr.keyThatStays, hie, hsb, run_setMap he]
    · have a3 := setE_none hset
      obtain ⟨q, hq, hqr⟩ := findE_sound (hfit _ hki) h2 (es := es) (ents := ents.toList) 0 (by simp [hn]) (fun i p p' => by simpa using hr i p (by simpa using p')) a3
      have hfk := run_findKey (P := P) hud hq w
      cases q with
      | some q => exact hqr.elim
      | none =>
        obtain ⟨c1, c2⟩ := conc_setMap hC.st hmap (es' := es ++ [⟨c, KK, X⟩]) (c' := c + 1) (ents' := ents.push { key := VK, val := VX, born := c }) (by simp [hn]) (fun j p p' => by
          by_cases hj : j < es.length
          · rw [List.getElem_append_left hj, Array.getElem_push_lt (by omega)]
            exact hr j hj (by omega)
          · have hje : j = es.length := by simp at p; omega
            subst hje
            rw [List.getElem_append_right (by omega)]
            simp only [Nat.sub_self, List.getElem_cons_zero]
            have : (ents.push { key := VK, val := VX, born := c })[es.length]'p' = { key := VK, val := VX, born := c } := by
              have := Array.getElem_push_eq (xs := ents) (x := ({ key := VK, val := VX, born := c } : MapEntry))
              simp only [hn] at this
              exact this
            rw [this]
            exact ⟨rfl, h2, h3⟩)
        refine wp_skipped (w' := _) ?_ (hK _ undef _ _ _ hk' (.junk _) c1 c2)
        simp [execOp, ho, hVM, hVK, hVX, Instr.mapUpdate, underlying, hu, hg, hck, hfk, run_setMap he]

theorem two_args' {c : Call} {x y : Operand} {t u : TypeId} {b : Builtin} (hb : c.callee = .builtin b) (hargs : c.args.toList = [x, y]) (hts : c.argTypes.toList = [t, u]) : c = ⟨.builtin b, #[x, y], #[t, u]⟩ := two_args hb hargs hts

theorem one_args {c : Call} {x : Operand} {t : TypeId} {b : Builtin} (hb : c.callee = .builtin b) (hargs : c.args.toList = [x]) (hts : c.argTypes.toList = [t]) : c = ⟨.builtin b, #[x], #[t]⟩ := by
  obtain ⟨callee, args, argTypes⟩ := c
  simp only at hb hargs hts
  subst hb
  have e1 : args = #[x] := by rw [← Array.toArray_toList (xs := args), hargs]
  have e2 : argTypes = #[t] := by rw [← Array.toArray_toList (xs := argTypes), hts]
  subst e1; subst e2; rfl

theorem delete_ok {o : Oper} {c : Call} {t u kt el : TypeId} {m k : Operand} {ks : Bool} (ho : o.op = .call c) (hb : c.callee = .builtin .delete) (hargs : c.args.toList = [m, k]) (hts : c.argTypes.toList = [t, u])
    (hu : P.underlying t = some (.map kt el)) (hks : keyKind P kt = some ks) {dm dk : Opd} (hm : opd P t m = some dm) (hk : opd P u k = some dk) : ImpOK P n o (.delete ks) [dm, dk] := by
  intro G w fr st a key mu K KP hC hi Kw Q hK hP
  have h1 := opd_sound hC hm
  have h2 := opd_sound hC hk
  rw [two_args hb hargs hts] at ho
  obtain ⟨d, hud, hfit⟩ := keyKind_fits hks
  simp only [List.map_cons, List.map_nil] at hi
  generalize fr.ev dm = M at *
  generalize fr.ev dk = KK at *
  generalize hVM : a.eval m = VM at *
  generalize hVK : a.eval k = VK at *
  have hex : ∀ {V w'}, (Builtin.delete_ #[t, u] o.type #[VM, VK]).run P w = .ok V w' → (execOp a.eval o).run P w = .ok (.value V) w' := by
    intro V w' h
    simp [execOp, ho, resolve, invoke, builtin, hVM, hVK, h]
  cases M <;> simp only [iwp] at hi
  · rename_i kk ver
    obtain ⟨hki, es, c, hmap, es', hdel, hk'⟩ := hi
    obtain ⟨hver, ents, he, hn, hr⟩ := mapAt_sound hC.st hmap
    cases h1 with
    | mapr k' v' r' h hxx =>
      have := hxx hver.symm
      subst this
      have hg := run_getObj (P := P) w _ _ he (by simp)
      have hck := run_checkKey (P := P) hud (hfit _ hki) h2 ents.isEmpty 9999 w
      rcases delE_spec hdel with ⟨a3, rfl⟩ | ⟨i, e, a1, a2, a3, rfl, a5⟩
      · obtain ⟨q, hq, hqr⟩ := findE_sound (hfit _ hki) h2 (es := es') (ents := ents.toList) 0 (by simp [hn]) (fun i p p' => by simpa using hr i p (by simpa using p')) a3
        have hfk := run_findKey (P := P) hud hq w
        cases q with
        | some q => exact hqr.elim
        | none =>
          obtain ⟨c1, c2⟩ := conc_setMap hC.st hmap (es' := es') (c' := c) (ents' := ents) hn hr
          refine wp_value (hex (V := .tuple #[]) (w' := setBlock w (G.blk kk) (.map ents c)) ?_) (hK _ _ _ _ _ hk' (.junk _) c1 c2)
          simp [Builtin.delete_, underlying, hu, hg, hck, hfk, run_setMap he]
      · obtain ⟨q, hq, hqr⟩ := findE_sound (hfit _ hki) h2 (es := es) (ents := ents.toList) 0 (by simp [hn]) (fun i p p' => by simpa using hr i p (by simpa using p')) a3
        have hfk := run_findKey (P := P) hud hq w
        cases q with
        | none => exact hqr.elim
        | some q =>
          obtain ⟨j, u⟩ := q
          obtain ⟨_, b2, b3, b4⟩ := hqr
          simp only [Nat.sub_zero] at b2 b4
          have hij : i = j := first_eq a1 a2 a5 b2 a2 b4
          subst hij
          have hil : i < es.length := (List.getElem?_eq_some_iff.1 a1).1
          have hie : i < ents.size := by omega
          obtain ⟨c1, c2⟩ := conc_setMap hC.st hmap (es' := es.eraseIdx i) (c' := c) (ents' := ents.eraseIdxIfInBounds i) (by simp [Array.eraseIdxIfInBounds, hie, hn, List.length_eraseIdx, hil]) (fun j p p' => by
            simp only [Array.eraseIdxIfInBounds, hie, dif_pos] at p' ⊢
            rw [Array.getElem_eraseIdx, List.getElem_eraseIdx]
            split
            · exact hr j _ _
            · exact hr (j + 1) _ _)
          refine wp_value (hex (V := .tuple #[]) (w' := setBlock w (G.blk kk) (.map (ents.eraseIdxIfInBounds i) c)) ?_) (hK _ _ _ _ _ hk' (.junk _) c1 c2)
          simp [Builtin.delete_, underlying, hu, hg, hck, hfk, run_setMap he]
  · obtain ⟨hki, hi⟩ := hi
    cases h1
    have hck := run_checkKey (P := P) hud (hfit _ hki) h2 true 9999 w
    refine wp_value (hex (V := .tuple #[]) (w' := w) ?_) (hK _ _ _ _ _ hi (.junk _) hC.st (Ext.refl _ _ _))
    simp [Builtin.delete_, underlying, hu, hck]

theorem clearM_ok {o : Oper} {c : Call} {t kt el : TypeId} {m : Operand} (ho : o.op = .call c) (hb : c.callee = .builtin .clear) (hargs : c.args.toList = [m]) (hts : c.argTypes.toList = [t])
    (hu : P.underlying t = some (.map kt el)) {dm : Opd} (hm : opd P t m = some dm) : ImpOK P n o .clearM [dm] := by
  intro G w fr st a key mu K KP hC hi Kw Q hK hP
  have h1 := opd_sound hC hm
  rw [one_args hb hargs hts] at ho
  simp only [List.map_cons, List.map_nil] at hi
  generalize fr.ev dm = M at *
  generalize hVM : a.eval m = VM at *
  have hex : ∀ {V w'}, (Builtin.clear_ #[t] o.type #[VM]).run P w = .ok V w' → (execOp a.eval o).run P w = .ok (.value V) w' := by
    intro V w' h
    simp [execOp, ho, resolve, invoke, builtin, hVM, h]
  cases M <;> simp only [iwp] at hi
  · rename_i kk ver
    obtain ⟨es, c, hmap, hk'⟩ := hi
    obtain ⟨hver, ents, he, hn, hr⟩ := mapAt_sound hC.st hmap
    cases h1 with
    | mapr k' v' r' h hxx =>
      have := hxx hver.symm
      subst this
      have hg := run_getObj (P := P) w _ _ he (by simp)
      obtain ⟨c1, c2⟩ := conc_setMap hC.st hmap (es' := []) (c' := c) (ents' := #[]) rfl (fun i h => by simp at h)
      refine wp_value (hex (V := .tuple #[]) (w' := setBlock w (G.blk kk) (.map #[] c)) ?_) (hK _ _ _ _ _ hk' (.junk _) c1 c2)
      simp [Builtin.clear_, underlying, hu, hg, run_setMap he]
  · cases h1
    refine wp_value (hex (V := .tuple #[]) (w' := w) ?_) (hK _ _ _ _ _ hi (.junk _) hC.st (Ext.refl _ _ _))
    simp [Builtin.clear_, underlying, hu]

theorem range_ok {o : Oper} {t kt el : TypeId} {m : Operand} (ho : o.op = .range t m) (hu : P.underlying t = some (.map kt el)) {dm : Opd} (hm : opd P t m = some dm) : ImpOK P n o .range [dm] := by
  intro G w fr st a key mu K KP hC hi Kw Q hK hP
  have h1 := opd_sound hC hm
  simp only [List.map_cons, List.map_nil] at hi
  generalize fr.ev dm = M at *
  generalize hVM : a.eval m = VM at *
  cases M <;> simp only [iwp] at hi
  rename_i kk ver
  obtain ⟨es, c, hmap, hk'⟩ := hi
  obtain ⟨hver, ents, he, hn, hr⟩ := mapAt_sound hC.st hmap
  have hobj := mapAt_obj hmap
  cases h1 with
  | mapr k' v' r' h hxx =>
    have := hxx hver.symm
    subst this
    have hg := run_getObj (P := P) w _ _ he (by simp)
    have hlt : G.blk kk < w.heap.size := hC.st.size kk _ (by simp [Owns, hobj.2])
    obtain ⟨c1, c2⟩ := conc_newObj hC.st key (.mapIter (some (G.blk kk)) c #[] c) (.iter kk ver c [] c) 0 0 (by
      refine ⟨by by_cases e : kk = key <;> simp [Store.set, e] <;> (try subst e) <;> omega, fun e => ?_⟩
      have hne : kk ≠ key := by rintro rfl; simp at e; omega
      simp only [Ghost.setLoc, if_pos]
      rw [if_neg hne, heap_alloc_at])
    refine wp_value (x := .pointer (some ⟨w.heap.size, 0, none⟩)) (w' := w.alloc (.mapIter (some (G.blk kk)) c #[] c)) ?_ (hK _ _ _ _ _ hk' (.ref _ _ _ _ (by simp) fun _ => by simp [Ghost.setLoc]) c1 c2)
    simp [execOp, ho, hVM, Instr.range, underlying, hu, hg]

theorem entry_ok {o : Oper} {x : Operand} (ho : o.op = .entry x) {d : Opd} (hd : opd P o.type x = some d) : LoadOK P n o .entry [d] := by
  intro G w fr st a v hC hv
  have h1 := opd_sound hC hd
  simp only [List.map_cons, List.map_nil] at hv
  generalize fr.ev d = X at *
  generalize hX : a.eval x = V at *
  cases X <;> simp only [lev, reduceCtorEq] at hv
  rename_i k ver off
  cases off with
  | succ off => simp at hv
  | zero =>
    simp only at hv
    split at hv
    · rename_i hver
      split at hv
      · rename_i m mv since seen last hobj
        rw [Option.bind_eq_some_iff] at hv
        obtain ⟨⟨es, c⟩, hmap, hv⟩ := hv
        simp only at hv
        split at hv
        · rename_i hlast
          rw [Option.bind_eq_some_iff] at hv
          obtain ⟨b, hb, hv⟩ := hv
          simp only [Option.map_eq_some_iff] at hv
          obtain ⟨e, hf, rfl⟩ := hv
          obtain ⟨hmv, ents, he, hn, hr⟩ := mapAt_sound hC.st hmap
          obtain ⟨_, hit⟩ := hC.st.obj k _ hobj
          have hit := hit hmv.symm
          cases h1 with
          | ref k v off ad h hx =>
            have := hx hver.symm
            subst this
            have hg := run_getObj (P := P) w _ _ he (by simp)
            have hgi := run_getObj (P := P) w _ _ hit (by simp)
            have hback : seen.toArray.back? = some b := by simpa using hb
            obtain ⟨en, hen, hre⟩ : ∃ en, ents.find? (fun x => x.born == b) = some en ∧ RepEntry G st e en := by
              rw [← Array.find?_toList]
              have key : ∀ (es : List AEntry) (ents : List MapEntry), ents.length = es.length → (∀ i (h : i < es.length) (h' : i < ents.length), RepEntry G st es[i] ents[i]) → es.find? (fun e => e.born == b) = some e → ∃ en, ents.find? (fun x => x.born == b) = some en ∧ RepEntry G st e en := by
                intro es
                induction es with
                | nil => intro ents _ _ h; simp at h
                | cons e0 es ih =>
                  intro ents hn hr hf
                  cases ents with
                  | nil => simp at hn
                  | cons en ents =>
                    have h0 := hr 0 (by simp) (by simp)
                    simp only [List.getElem_cons_zero] at h0
                    rw [List.find?_cons] at hf ⊢
                    rw [← h0.1]
                    split at hf
                    · cases hf; exact ⟨en, rfl, h0⟩
                    · exact ih ents (by simpa using hn) (fun i p p' => by
                        have := hr (i + 1) (by simpa using p) (by simpa using p')
                        simpa using this) hf
              exact key es ents.toList (by simpa using hn) (fun i p p' => by simpa using hr i p (by simpa using p')) hf
            refine ⟨.tuple #[en.key, en.val], ?_, .tup _ _ (.cons _ _ _ _ hre.2.1 (.cons _ _ _ _ hre.2.2 .nil))⟩
            simp [execOp, ho, hX, Instr.entry, hgi, hg, hback, hlast, hen]
        · cases hv
      · cases hv
    · cases hv

theorem next_ok {o : Oper} {x : Operand} (ho : o.op = .next x false) {d : Opd} (hd : opd P o.type x = some d) : ImpOK P n o .next [d] := by
  intro G w fr st a key mu K KP hC hi Kw Q hK hP
  have h1 := opd_sound hC hd
  simp only [List.map_cons, List.map_nil] at hi
  generalize fr.ev d = X at *
  generalize hX : a.eval x = V at *
  cases X <;> simp only [iwp] at hi
  rename_i k ver off
  cases off with
  | succ off => exact hi.elim
  | zero =>
    simp only at hi
    obtain ⟨hver, hi⟩ := hi
    subst hver
    split at hi
    · rename_i m mv since seen last hobj
      obtain ⟨es, c, hmap, hn1, hn2, hn3⟩ := hi
      obtain ⟨hmv, ents, he, hn, hr⟩ := mapAt_sound hC.st hmap
      obtain ⟨_, hit⟩ := hC.st.obj k _ hobj
      have hit := hit hmv.symm
      have hown : Owns G st k (G.blk k) := by simp [Owns, hobj]
      have hlt := hC.st.size k _ hown
      cases h1 with
      | ref k v off ad h hx =>
        have := hx rfl
        subst this
        have hg := run_getObj (P := P) w _ _ he (by simp)
        have hgi := run_getObj (P := P) w _ _ hit (by simp)
        -- the entries of both kinds, side by side
        have hpair : ∀ en ∈ ents, ∃ e ∈ es, RepEntry G st e en := by
          intro en hen
          obtain ⟨i, hi, rfl⟩ := Array.mem_iff_getElem.1 hen
          exact ⟨es[i]'(by omega), List.getElem_mem _, hr i (by omega) hi⟩
        have hpair' : ∀ e ∈ es, ∃ en ∈ ents, RepEntry G st e en := by
          intro e hee
          obtain ⟨i, hi, rfl⟩ := List.mem_iff_getElem.1 hee
          exact ⟨ents[i]'(by omega), Array.getElem_mem _, hr i hi (by omega)⟩
        have htest : (!(seen.toArray).isEmpty && !ents.isEmpty && ents.all (fun x => decide (x.born ≥ last))) = false := by
          rw [← hn1]
          have e1 : ents.isEmpty = es.isEmpty := by
            cases es with
            | nil => simp at hn; simp [hn]
            | cons e es => simp [Array.isEmpty, hn]
          have e2 : ents.all (fun x => decide (x.born ≥ last)) = es.all (fun e => decide (e.born ≥ last)) := by
            rw [Bool.eq_iff_iff]
            simp only [Array.all_eq_true_iff_forall_mem, List.all_eq_true, decide_eq_true_eq]
            constructor
            · intro h e hee
              obtain ⟨en, h1, h2⟩ := hpair' e hee
              rw [h2.1]; exact h en h1
            · intro h en hen
              obtain ⟨e, h1, h2⟩ := hpair en hen
              rw [← h2.1]; exact h e h1
          rw [e1, e2]
          simp
        have hleft : ∀ en, en ∈ ents.filter (fun e => !(seen.toArray).contains e.born) ↔ en ∈ ents ∧ seen.contains en.born = false := by
          intro en; simp
        generalize hL : ents.filter (fun e => !(seen.toArray).contains e.born) = L at hleft
        generalize hcand : ((if (L.filter (fun x => decide (x.born < since))).isEmpty then #[none] else #[]) ++ (L.filter (fun x => decide (x.born < since)) ++ L.filter (fun x => decide (x.born ≥ since))).map some : Array (Option MapEntry)) = cand
        have hmem : ∀ y ∈ cand, (y = none ∧ (L.filter (fun x => decide (x.born < since))).isEmpty = true) ∨ ∃ en ∈ L, y = some en := by
          intro y hy
          rw [← hcand] at hy
          rcases Array.mem_append.1 hy with h | h
          · split at h
            · rename_i h0; simp at h; exact .inl ⟨h, h0⟩
            · simp at h
          · obtain ⟨en, h1, rfl⟩ := Array.mem_map.1 h
            refine .inr ⟨en, ?_, rfl⟩
            rcases Array.mem_append.1 h1 with h2 | h2 <;> exact (Array.mem_filter.1 h2).1
        have hpos : 0 < cand.size := by
          rw [← hcand]
          by_cases h0 : (L.filter (fun x => decide (x.born < since))).isEmpty = true
          · rw [if_pos h0]; simp; omega
          · have : 0 < (L.filter (fun x => decide (x.born < since))).size := by
              rw [Array.isEmpty] at h0
              simp only [decide_eq_true_eq] at h0
              omega
            simp only [Array.size_append, Array.size_map]
            omega
        obtain ⟨j, w1, hj, hw1, hch⟩ : ∃ (j : Nat) (w1 : World), j < cand.size ∧ (w1 = w ∨ w1 = w.drew) ∧ (choose (Question.mapNext cand.size)).run P w = .ok j w1 := by
          by_cases hf : cand.size ≤ 1
          · exact ⟨0, w, by omega, Or.inl rfl, by simp [choose, Sem.run, Question.forced, hf]⟩
          · exact ⟨_, w.drew, Nat.mod_lt _ hpos, Or.inr rfl, by
              simp only [choose, Sem.run, Question.forced, decide_eq_true_eq, hf, if_false, Question.cut]
              rfl⟩
        have hheap : w1.heap = w.heap := by rcases hw1 with rfl | rfl <;> rfl
        have hExt : Ext G w st G w1 st := by
          rcases hw1 with rfl | rfl
          · exact Ext.refl _ _ _
          · exact ⟨.refl _ _, Nat.le_refl _, fun _ _ _ => rfl, fun k _ _ h => ⟨k, h⟩, fun _ _ _ h _ => .inl h, rfl, rfl, rfl⟩
        have hS1 : ConcS G w1 st := by
          rcases hw1 with rfl | rfl
          · exact hC.st
          · exact {
              one := hC.st.one
              imm := fun b o v e => hC.st.imm b o v e
              obj := fun k o e => by have := hC.st.obj k o e; cases o <;> exact this
              inj := hC.st.inj
              own := hC.st.own
              size := hC.st.size }
        have hmm := hmem cand[j] (Array.getElem_mem hj)
        have hcj : cand[j]? = some cand[j] := by simp [hj]
        rcases hmm with ⟨hnone, hempty⟩ | ⟨en, henL, hsome⟩
        · have hover := hn2 (by
            rw [List.filter_eq_nil_iff]
            intro e hee
            have hee' := List.mem_filter.1 hee
            obtain ⟨en, h1, h2⟩ := hpair' e hee'.1
            intro hlt
            have : en ∈ L.filter (fun x => decide (x.born < since)) := Array.mem_filter.2 ⟨(hleft en).2 ⟨h1, by rw [← h2.1]; simpa using hee'.2⟩, by rw [← h2.1]; exact hlt⟩
            rw [Array.isEmpty_iff.1 hempty] at this
            simp at this)
          refine wp_value (x := .tuple #[.bool false]) (w' := w1) ?_ (hK _ _ _ _ _ hover (.tup _ _ (.cons _ _ _ _ (.bool false) .nil)) hS1 hExt)
          have hnext : (Instr.next (.pointer (some ⟨G.blk k, 0, none⟩)) false o.type).run P w = .ok (.tuple #[.bool false]) w1 := by
            simp only [Instr.next, Sem.run_bind, hgi, hg, Result.andThen, htest, Bool.false_eq_true, if_false, hL, hcand, hch, hcj, hnone]
            rfl
          simp [execOp, ho, hX, hnext]
        · obtain ⟨h1, h2⟩ := (hleft en).1 henL
          obtain ⟨e, hee, hre⟩ := hpair en h1
          have hk := hn3 e (List.mem_filter.2 ⟨hee, by rw [hre.1, h2]; rfl⟩)
          have himm : ∀ o, G.imm (G.blk k) o = none := fun o' => by
            rcases hC.st.own k _ o' hown with h | ⟨m, hm, _⟩
            · exact h
            · rw [hobj] at hm; cases hm
          have hit1 : w1.heap[G.blk k]? = some (.mapIter (some (G.blk m)) since seen.toArray last) := by rw [hheap]; exact hit
          have hl := later_setObj G st k (.iter m mv since (seen ++ [e.born]) c) (by simp)
          obtain ⟨c1, c2⟩ := conc_setObj hS1 hown (w' := setBlock w1 (G.blk k) (.mapIter (some (G.blk m)) since (seen.toArray.push en.born) c)) (.iter m mv since (seen ++ [e.born]) c) (by simp) (fun b' hb' => heap_setBlock_ne w1 _ hb') (size_setBlock _ _ _) himm (fun b' hb' => by simp [Owns] at hb'; exact hb'.symm)
            (by
              refine ⟨?_, fun _ => ?_⟩
              · by_cases e' : m = k
                · subst e'; simp; omega
                · rw [Store.set_other _ _ e']; omega
              · rw [heap_setBlock w1 _ (by rw [hheap]; exact hlt), hre.1]
                simp) rfl rfl rfl
          refine wp_value (x := .tuple #[.bool true, en.key, en.val]) (w' := setBlock w1 (G.blk k) (.mapIter (some (G.blk m)) since (seen.toArray.push en.born) c)) ?_
            (hK _ _ _ _ _ hk (.tup _ _ (.cons _ _ _ _ (.bool true) (.cons _ _ _ _ (hre.2.1.later hl) (.cons _ _ _ _ (hre.2.2.later hl) .nil)))) c1 (hExt.trans c2))
          have hnext : (Instr.next (.pointer (some ⟨G.blk k, 0, none⟩)) false o.type).run P w = .ok (.tuple #[.bool true, en.key, en.val]) (setBlock w1 (G.blk k) (.mapIter (some (G.blk m)) since (seen.toArray.push en.born) c)) := by
            simp only [Instr.next, Sem.run_bind, hgi, hg, Result.andThen, htest, Bool.false_eq_true, if_false, hL, hcand, hch, hcj, hsome, run_setObj_at hit1]
            rfl
          simp [execOp, ho, hX, hnext]
    · exact hi.elim

end
end Go.Am
/- The abstract machine is sound: slices of arrays, new slices that are written. -/
namespace Go.Am

section
variable {P : Program} {n : Nat} {G : Ghost} {w : World} {fr : Fr} {st : Store} {a : Act}

theorem cellsAt_hi (hC : ConcS G w st) {k : Key} {v : Nat} {l : List AVal} (h : cellsAt st k v = some l) : (st k).ver = v ∧ l.length ≤ G.hi k := by
  unfold cellsAt at h
  split at h
  · rename_i hv
    split at h
    · rename_i l' ho
      cases h
      obtain ⟨vs, el, fz, us, rest, h1, h2, h3, h4, h5⟩ := hC.obj k _ ho
      refine ⟨hv, ?_⟩
      have e1 := h3.length
      have e2 := congrArg List.length h2
      simp at e2
      omega
    · cases h
  · cases h

theorem slA_ok {o : Oper} {t el : TypeId} {x : Operand} {lo hi mx : Option Operand} {N e : Nat} (ho : o.op = .slice t x lo hi mx) (hu : P.underlying t = some (.array N el)) (he : eszOf P el = some e) (hm : mx.isSome = true → hi.isSome = true)
    {d : Opd} {xs ys zs : List Opd} (hd : opd P o.type x = some d) (hx : lo.toList.mapM (opd P o.type) = some xs) (hy : hi.toList.mapM (opd P o.type) = some ys) (hz : mx.toList.mapM (opd P o.type) = some zs) :
    LoadOK P n o (.slA N e lo.isSome hi.isSome mx.isSome) (d :: (xs ++ ys ++ zs)) := by
  intro G w fr st a v hC hv
  have h1 := opd_sound hC hd
  obtain ⟨inf, hinf, hsz⟩ := eszOf_info he
  simp only [List.map_cons] at hv
  cases mx with
  | some m => simp [lev] at hv
  | none =>
  simp only [Option.toList_none, List.mapM_nil, Option.pure_def, Option.some.injEq] at hz
  subst hz
  generalize fr.ev d = X at *
  generalize hVX : a.eval x = VX at *
  cases X <;> simp only [Option.isSome_none, lev, reduceCtorEq] at hv
  rename_i k ver off
  rw [Option.bind_eq_some_iff] at hv
  obtain ⟨l, hl, hv⟩ := hv
  split at hv
  · rename_i hle
    simp only [Option.map_eq_some_iff] at hv
    obtain ⟨⟨p, q, m⟩, hb, rfl⟩ := hv
    obtain ⟨hver, hhi⟩ := cellsAt_hi hC.st hl
    cases h1 with
    | ref k v off ad h hxx =>
      have := hxx hver.symm
      subst this
      obtain ⟨c1, c2, c3, c4, hrun⟩ := bnds_sound hC (mx := none) (zs := []) hx hy rfl (by simp) (Nat.le_refl N) hb false
      have hmN := c4 rfl
      subst hmN
      simp only [Option.isSome_none, Bool.false_eq_true, if_false] at hrun
      refine ⟨.slice (some (if m = p then ⟨G.blk k, off, none⟩ else (⟨G.blk k, off, none⟩ : Addr).add (p * e))) (q - p) (m - p), ?_, ?_⟩
      · have hrun' : (Instr.sliceBounds false m m (lo.map a.eval) (hi.map a.eval) none).run P w = .ok (p, q, m) w := hrun
        simp [execOp, ho, hVX, Instr.sliceAt, Instr.sureAddr, underlying, hu, sizeOf, typeInfo, hinf, hsz, hrun']
      · show Rep G st (.msl k ver e (off + p * e) (q - p)) _
        have hle1 := hle.1
        refine .msl _ _ _ _ _ _ _ (by omega) (by omega) (fun h0 => by cases h0) h fun _ ad ha hpos => ?_
        cases ha
        rw [if_neg (by omega), add_mk]
        refine ⟨rfl, ?_⟩
        have : p * e + (m - p) * e = m * e := by rw [← Nat.add_mul]; congr 1; omega
        omega
  · cases hv

theorem makeSlice_ok {o : Oper} {t el : TypeId} {l c : Operand} {e by_ : Nat} {ag : Bool} {z : Zero} (ho : o.op = .makeSlice t l c) (hu : P.underlying t = some (.slice el)) (he : eszOf P el = some e) (hby : bytesE P el = some by_) (hz : zeroA P el = some z)
    {dl dc : Opd} (hl : opd P o.type l = some dl) (hc : opd P o.type c = some dc) : ImpOK P n o (.makeSlice e by_ ag z) [dl, dc] := by
  intro G w fr st a key mu K KP hC hi Kw Q hK hP
  have h1 := opd_sound hC hl
  have h2 := opd_sound hC hc
  obtain ⟨inf, hinf, hsz⟩ := eszOf_info he
  obtain ⟨inf', Z, hinf', hZ, hZsz, hZr⟩ := zeroA_sound (G := G) (st := st) hz
  rw [hinf] at hinf'
  cases hinf'
  have hbys : inf.bytes = by_ := by simpa [bytesE, hinf] using hby
  simp only [List.map_cons, List.map_nil] at hi
  generalize fr.ev dl = X at *
  generalize fr.ev dc = Y at *
  generalize hVX : a.eval l = VX at *
  generalize hVY : a.eval c = VY at *
  cases X <;> simp only [iwp] at hi
  cases Y <;> simp only [iwp] at hi
  rename_i k1 L k2 N
  obtain ⟨b1, b2, b3, b4, b5, hk⟩ := hi
  rw [rep_int h1] at hVX
  rw [rep_int h2] at hVY
  have hZe : Z.cells.size = e := by rw [hZsz, hsz]
  have hrun := run_make (P := P) w t el inf Z hu hinf hZ k1 k2 L N b1 b2 (by
    rw [hbys]; rw [Int.mul_comm]; have : (2:Int) ^ 47 ≤ 281474976710656 := by decide
    omega) (by have : (2:Int) ^ 62 ≤ 9223372036854775807 := by decide
               omega)
  rw [hsz] at hrun
  have hrc : RepL G st ((List.replicate N.toNat z.cells).flatten) (madeCells Z.cells (N.toNat * e)).toList := by
    rcases Nat.eq_zero_or_pos e with h0 | h0
    · have hz0 : z.cells = [] := List.length_eq_zero_iff.1 (by omega)
      have : madeCells Z.cells (N.toNat * e) = #[] := by apply Array.eq_empty_of_size_eq_zero; rw [size_madeCells, h0]; simp
      rw [this, hz0]
      simpa using RepL.nil
    · exact range_cells hZr N.toNat e hZe h0
  obtain ⟨G', g1, g2, g3, g4, g5⟩ := conc_newCells hC.st key _ (madeCells Z.cells (N.toNat * e)) el (List.append_nil _).symm hrc
  refine wp_value (x := .slice (some ⟨w.heap.size, 0, none⟩) L.toNat N.toNat) (w' := w.alloc (.cells (madeCells Z.cells (N.toNat * e)) el)) ?_ (hK _ _ _ _ _ hk ?_ g1 g2)
  · simp [execOp, ho, hVX, hVY, hrun]
  · refine .msl key _ e 0 _ _ _ (by omega) (by have : (2:Int) ^ 62 < 2 ^ 63 := by decide
                                               omega) (by simp) (by simp) fun _ ad ha _ => ?_
    cases ha
    rw [g4, g5, size_madeCells]
    exact ⟨rfl, by omega⟩

theorem convB_ok {o : Oper} {s d el : TypeId} {x : Operand} (ho : o.op = .convert s d x) (hs : P.underlying s = some .string) (hd : P.underlying d = some (.slice el)) (he : P.underlying el = some (.int .u8)) {dx : Opd} (hx : opd P s x = some dx) :
    ImpOK P n o .convB [dx] := by
  intro G w fr st a key mu K KP hC hi Kw Q hK hP
  have h1 := opd_sound hC hx
  simp only [List.map_cons, List.map_nil] at hi
  generalize fr.ev dx = X at *
  generalize hVX : a.eval x = VX at *
  cases X <;> simp only [iwp] at hi
  rename_i bs
  cases h1 with
  | str l s' hs' hb =>
    subst hs'
    have hrun := run_bytes_of_string (P := P) w s d el s' hs hd he
    have hcap := grownCap_ge w s'.size 0 el
    have hsz : s'.size = s'.data.toList.length := by simp
    have hcapm := grownCap_le_maxLen w s'.size 0 el (by rw [hsz]; simp only [maxLen]; omega)
    simp only [maxLen] at hcapm
    generalize hcp : grownCap w s'.size 0 el = cap at *
    have hl := later_setLoc G st key w.drew.heap.size 0 (bytesRow s' cap).size (some (.cells (bytesA s'.data.toList)))
    have hrow : (bytesRow s' cap).size = cap := by simp [bytesRow]; omega
    have hS1 : ConcS G w.drew st := hC.st.heap rfl
    have hExt : Ext G w st G w.drew st := ⟨.refl _ _, Nat.le_refl _, fun _ _ _ => rfl, fun k _ _ h => ⟨k, h⟩, fun _ _ _ h _ => .inl h, rfl, rfl, rfl⟩
    obtain ⟨c1, c2⟩ := conc_newObj hS1 key (.cells (bytesRow s' cap) el ((bytesRow s' cap).size, (bytesRow s' cap).size + 1)) (.cells (bytesA s'.data.toList)) 0 (bytesRow s' cap).size
      ⟨bytesRow s' cap, el, _, s'.data.toList.map (fun b => Value.int .u8 b.toNat), List.replicate (cap - s'.size) (.int .u8 0), by
        have : (G.setLoc key w.drew.heap.size 0 (bytesRow s' cap).size).blk key = w.drew.heap.size := by simp [Ghost.setLoc]
        rw [this]; exact heap_alloc_at _ _, by simp [bytesRow], (bytesA_rep _).later hl, fun o' h1 h2 => by simp only at h2; omega, by simp [Ghost.setLoc]⟩
    refine wp_value (x := .slice (some ⟨w.heap.size, 0, none⟩) s'.size cap) ?_ (hK _ _ _ _ _ hi ?_ c1 (hExt.trans c2))
    · simp [execOp, ho, hVX, hrun]
    · rw [hsz]
      refine .msl key _ 1 0 _ _ _ (by omega) (by omega) (by simp) (by simp) fun _ ad ha _ => ?_
      cases ha
      refine ⟨by simp [Ghost.setLoc], by simp only [Ghost.setLoc, if_pos]; omega⟩

theorem ones_of {l : List AVal} {vs : List Value} (h : RepL G st l vs) (hc : l.all isCell = true) : ∀ u ∈ vs, u.oneCell' = true := fun u hu => by
  rw [← one_eq]; exact h.ones hc u hu

theorem clearL_ok {o : Oper} {c : Call} {t el : TypeId} {m : Operand} {z : Zero} (ho : o.op = .call c) (hb : c.callee = .builtin .clear) (hargs : c.args.toList = [m]) (hts : c.argTypes.toList = [t])
    (hu : P.underlying t = some (.slice el)) (hz : zeroA P el = some z) {dm : Opd} (hm : opd P t m = some dm) : ImpOK P n o (.clearL z) [dm] := by
  intro G w fr st a key mu K KP hC hi Kw Q hK hP
  have h1 := opd_sound hC hm
  rw [one_args hb hargs hts] at ho
  obtain ⟨inf, Z, hinf, hZ, hZsz, hZr⟩ := zeroA_sound (G := G) (st := st) hz
  simp only [List.map_cons, List.map_nil] at hi
  generalize fr.ev dm = M at *
  generalize hVM : a.eval m = VM at *
  have hex : ∀ {V w'}, (Builtin.clear_ #[t] o.type #[VM]).run P w = .ok V w' → (execOp a.eval o).run P w = .ok (.value V) w' := by
    intro V w' h
    simp [execOp, ho, resolve, invoke, builtin, hVM, h]
  cases M <;> simp only [iwp] at hi
  · rename_i tag e l
    cases l with
    | cons y l => exact hi.elim
    | nil =>
      simp only at hi
      cases h1 with
      | list tag e l ad cap vs hc hbd hel hr hi' hn ht =>
        refine wp_value (hex (V := .tuple #[]) (w' := w) ?_) (hK _ _ _ _ _ hi (.junk _) hC.st (Ext.refl _ _ _))
        cases ad <;> simp [Builtin.clear_, underlying, hu]
  · rename_i k ver e off len
    obtain ⟨hver, hze, he0, hl0, hcell, hi⟩ := hi
    subst hver
    split at hi
    · rename_i l hobj
      obtain ⟨hle, hk⟩ := hi
      obtain ⟨vs, el', fz, us, rest, g1, ge, g2, g3, g4⟩ := hC.st.obj k _ hobj
      have hun : us.length = l.length := g2.length
      have hvn : vs.size = l.length + rest.length := by have := congrArg List.length ge; simp at this; omega
      have hown : Owns G st k (G.blk k) := by simp [Owns, hobj]
      have himm : ∀ o, G.imm (G.blk k) o = none := fun o' => by
        rcases hC.st.own k _ o' hown with h | ⟨m, hm, _⟩
        · exact h
        · rw [hobj] at hm; cases hm
      have hZe : Z.cells.size = e := by have := hZr.length; simp at this; omega
      have hrc := range_cells hZr len e hZe he0
      generalize hnews : ((Array.range (len * e)).map (Z.cells[· % Z.cells.size]!)).toList = news at *
      have hnl : news.length = len * e := by rw [← hnews]; simp
      have hallc : ((List.replicate len z.cells).flatten).all isCell = true := by
        rw [List.all_eq_true] at hcell ⊢
        intro y hy
        obtain ⟨l', h1, h2⟩ := List.mem_flatten.1 hy
        rw [List.eq_of_mem_replicate h1] at h2
        exact hcell y h2
      have hfl : ((List.replicate len z.cells).flatten).length = len * e := by simp [hze]
      cases h1 with
      | msl _ _ _ _ _ ad cap hc hbd hn h hx =>
        cases ad with
        | none => have := hn rfl; omega
        | some ad =>
          obtain ⟨hade, _⟩ := hx rfl ad rfl (by omega)
          subst hade
          have hrun := run_storeCells_thaw (P := P) (G.blk k) off el' fz news 0 vs w g1 g3 (by simp; omega) (ones_of hrc hallc)
          have hl := later_setObj G st k (.cells (splice l off (List.replicate len z.cells).flatten)) (by simp)
          obtain ⟨c1, c2⟩ := conc_setObj hC.st hown (w' := w.setRow (G.blk k) (vs.toList.take off ++ news ++ vs.toList.drop (off + news.length)).toArray) (.cells (splice l off (List.replicate len z.cells).flatten)) (by simp) (fun b' hb' => heap_setRow_other _ _ _ hb') (by simp) himm
            (fun b' hb' => by simp [Owns] at hb'; exact hb'.symm)
            ⟨_, el', fz, us.take off ++ news ++ us.drop (off + news.length), rest, setRow_heap w (G.blk k) vs _ el' fz g1, by
              simp only [ge]
              rw [List.take_append_of_le_length (by omega), List.drop_append_of_le_length (by omega)]
              simp, (splice_rep off g2 hrc).later hl, by
                have : (vs.toList.take off ++ news ++ vs.toList.drop (off + news.length)).toArray.size = vs.size := by simp; omega
                rw [this]; exact g3, by simp; omega⟩ rfl rfl rfl
          refine wp_value (hex (V := .tuple #[]) (w' := w.setRow (G.blk k) (vs.toList.take off ++ news ++ vs.toList.drop (off + news.length)).toArray) ?_) (hK _ _ _ _ _ hk (.junk _) c1 c2)
          have hzc : (Builtin.zeroCells Z.cells len).toList = news := by
            rw [← hnews, Builtin.zeroCells, hZe]
          have hl0' : len ≠ 0 := by omega
          simp only [Nat.add_zero] at hrun
          cases len with
          | zero => omega
          | succ len => simp [Builtin.clear_, underlying, hu, zeroValue, typeInfo, hinf, hZ, hzc, hrun]
    · exact hi.elim

end
end Go.Am
/- The abstract machine is sound: functions without a body. -/
namespace Go.Am

section
variable {P : Program} {n : Nat} {G : Ghost} {w : World} {fr : Fr} {st : Store} {a : Act}

theorem find_f64bits {fn : Func} (h : fn.name = "math.Float64bits") : Extern.find fn = some Extern.MathFloatBits.float64bits := by
  have e1 : Extern.allGenericRows.lookup "math.Float64bits" = none := by kernel_rfl
  have e2 : Extern.allTypedRows.lookup "math.Float64bits" = none := by kernel_rfl
  have e3 : Extern.allRows.lookup "math.Float64bits" = some Extern.MathFloatBits.float64bits := by kernel_rfl
  simp [Extern.find, h, e1, e2, e3]

theorem next_none {fn : Func} {s t : String} (h : fn.name = s) (ho : fn.origin = t) (h1 : Extern.allNextRows.lookup s = none) (h2 : Extern.allNextRows.lookup t = none) : Extern.findNext fn = none := by
  simp [Extern.findNext, h, ho, h1, h2]

theorem find_f64from {fn : Func} (h : fn.name = "math.Float64frombits") : Extern.find fn = some Extern.MathFloatBits.float64frombits := by
  have e1 : Extern.allGenericRows.lookup "math.Float64frombits" = none := by kernel_rfl
  have e2 : Extern.allTypedRows.lookup "math.Float64frombits" = none := by kernel_rfl
  have e3 : Extern.allRows.lookup "math.Float64frombits" = some Extern.MathFloatBits.float64frombits := by kernel_rfl
  simp [Extern.find, h, e1, e2, e3]

theorem find_add64 {fn : Func} (h : fn.name = "math/bits.Add64") : Extern.find fn = some add64Entry := by
  have e1 : Extern.allGenericRows.lookup "math/bits.Add64" = none := by kernel_rfl
  have e2 : Extern.allTypedRows.lookup "math/bits.Add64" = none := by kernel_rfl
  have e3 : Extern.allRows.lookup "math/bits.Add64" = some add64Entry := by kernel_rfl
  simp [Extern.find, h, e1, e2, e3]

theorem find_cmp {fn : Func} (h : fn.name = "internal/bytealg.abigen_runtime_cmpstring") : Extern.find fn = some Extern.BytealgCompare.compare := by
  have e1 : Extern.allGenericRows.lookup "internal/bytealg.abigen_runtime_cmpstring" = none := by kernel_rfl
  have e2 : Extern.allTypedRows.lookup "internal/bytealg.abigen_runtime_cmpstring" = none := by kernel_rfl
  have e3 : Extern.allRows.lookup "internal/bytealg.abigen_runtime_cmpstring" = some Extern.BytealgCompare.compare := by kernel_rfl
  simp [Extern.find, h, e1, e2, e3]

theorem prim_call {o : Oper} {c : Call} {f : FuncId} {fn : Func} {ds : List Opd} {e : Array Value → Sem Value} (ho : o.op = .call c) (hcal : c.callee = .value (.func f)) (hn : c.args.size = c.argTypes.size) (hf : P.funcs[f]? = some fn) (hb : fn.body.isNone = true)
    (hname : fn.name ≠ "runtime.NumGoroutine") (hnx : Extern.findNext fn = none) (he : Extern.find fn = some e) (hd : (c.args.toList.zip c.argTypes.toList).mapM (fun (p : Operand × TypeId) => opd P p.2 p.1) = some ds) (hC : Conc n G w ⟨fr, st⟩ a) :
    ∃ vs, RepL G st (ds.map fr.ev) vs ∧ ∀ v w', (e vs.toArray).run P w = .ok v w' → (execOp a.eval o).run P w = .ok (.value v) w' := by
  have ha := args_sound hC (by simpa using hn) hd
  refine ⟨_, ha, fun v w' hv => ?_⟩
  have hrun := run_callFunc_extern hf (by simpa using hname) hb hnx he (c.args.toList.map a.eval).toArray w
  rw [hv] at hrun
  obtain ⟨callee, args, argTypes⟩ := c
  simp only at hcal
  subst hcal
  simp only [Result.andThen] at hrun
  have e1 : (args.toList.map a.eval).toArray = args.map a.eval := by apply Array.ext'; simp
  rw [e1] at hrun
  simp [execOp, ho, resolve, Act.eval, Deferred.ofValue, invoke]
  simpa using hrun

theorem prim_ok {o : Oper} {c : Call} {f : FuncId} {p : POp} {ds : List Opd} (ho : o.op = .call c) (hcal : c.callee = .value (.func f)) (hn : c.args.size = c.argTypes.size) (hp : primOf P f = some p)
    (hd : (c.args.toList.zip c.argTypes.toList).mapM (fun (p : Operand × TypeId) => opd P p.2 p.1) = some ds) : PureOK P n o p ds := by
  intro G w fr st a v hC hv
  unfold primOf at hp
  rw [Option.bind_eq_some_iff] at hp
  obtain ⟨fn, hf, hp⟩ := hp
  split at hp
  · cases hp
  rename_i hbo
  have hb : fn.body.isNone = true := by cases h : fn.body <;> simp_all
  have hor : fn.origin = "" := by simp at hbo; exact hbo.2
  have h0 : Extern.allNextRows.lookup "" = none := by kernel_rfl
  split at hp
  · rename_i hnm
    cases hp
    obtain ⟨vs, hr, hrun⟩ := prim_call ho hcal hn hf hb (by rw [hnm]; decide) (next_none hnm hor (by kernel_rfl) h0) (find_f64bits hnm) hd hC
    generalize ds.map fr.ev = A at *
    match A, hv, hr with
    | [.float .f64 b], hv, hr =>
      simp only [pev, Option.some.injEq] at hv
      subst hv
      cases hr with
      | cons _ x _ _ h t =>
        cases t; cases h
        exact stay hC _ (hrun _ _ (by rfl)) (.int _ _)
  split at hp
  · rename_i hnm
    cases hp
    obtain ⟨vs, hr, hrun⟩ := prim_call ho hcal hn hf hb (by rw [hnm]; decide) (next_none hnm hor (by kernel_rfl) h0) (find_f64from hnm) hd hC
    generalize ds.map fr.ev = A at *
    match A, hv, hr with
    | [.int .u64 b], hv, hr =>
      simp only [pev, Option.some.injEq] at hv
      subst hv
      cases hr with
      | cons _ x _ _ h t =>
        cases t; cases h
        exact stay hC _ (hrun _ _ (by rfl)) (.float _ _)
  split at hp
  · rename_i hnm
    cases hp
    obtain ⟨vs, hr, hrun⟩ := prim_call ho hcal hn hf hb (by rw [hnm]; decide) (next_none hnm hor (by kernel_rfl) h0) (find_add64 hnm) hd hC
    generalize ds.map fr.ev = A at *
    match A, hv, hr with
    | [.int .u64 x, .int .u64 y, .int .u64 z], hv, hr =>
      simp only [pev] at hv
      split at hv
      · rename_i hz
        cases hv
        cases hr with
        | cons _ _ _ _ h t =>
          cases t with
          | cons _ _ _ _ h2 t =>
            cases t with
            | cons _ _ _ _ h3 t =>
              cases t; cases h; cases h2; cases h3
              exact stay hC _ (hrun _ _ (run_add64 x y z hz.1 hz.2.1 hz.2.2.1 hz.2.2.2 w)) (.tup _ _ (.cons _ _ _ _ (.int _ _) (.cons _ _ _ _ (.int _ _) .nil)))
      · cases hv
  split at hp
  · rename_i hnm
    cases hp
    obtain ⟨vs, hr, hrun⟩ := prim_call ho hcal hn hf hb (by rw [hnm]; decide) (next_none hnm hor (by kernel_rfl) h0) (find_cmp hnm) hd hC
    generalize ds.map fr.ev = A at *
    match A, hv, hr with
    | [.str x, .str y], hv, hr =>
      simp only [pev, Option.some.injEq] at hv
      subst hv
      cases hr with
      | cons _ _ _ _ h t =>
        cases t with
        | cons _ _ _ _ h2 t =>
          cases t
          cases h with
          | str _ s hs _ =>
            cases h2 with
            | str _ s' hs' _ =>
              subst hs; subst hs'
              exact stay hC _ (hrun _ _ (Lib.run_compareString s s' w)) (.int _ _)
  · cases hp

end
end Go.Am
/- The abstract machine is sound: structs held against each other. -/
namespace Go.Am

section
variable {P : Program} {n : Nat} {G : Ghost} {st : Store}

theorem run_part_one (w : World) {e : TypeId} (h : isAggB P e = false) (hs : (P.underlying e).isSome = true) {xs : Array Value} {off : Nat} {v : Value} (hx : xs[off]? = some v) : (part e xs off).run P w = .ok v w := by
  obtain ⟨d, hd⟩ := Option.isSome_iff_exists.1 hs
  unfold isAggB at h
  rw [hd] at h
  cases d <;> simp at h <;> simp [part, isAgg, underlying, hd, hx]

theorem eqCell_sound (w : World) {c : CK} {t : TypeId} (hc : ckOf P t = some c) {a b : AVal} {r : Bool} (hf : c.fits a = true) (h : cellEq a b = some r) {x y : Value} (ha : Rep G st a x) (hb : Rep G st b y) (d : Nat) :
    (Op.equalIn (d + 1) t x y).run P w = .ok r w := by
  unfold ckOf at hc
  split at hc
  · rename_i hu
    cases hc
    cases a <;> simp [CK.fits] at hf
    cases b <;> simp [cellEq] at h
    cases ha; cases hb
    subst h
    exact run_equalIn_bool' w d t _ _ hu
  · rename_i k hu
    cases hc
    cases a <;> simp [CK.fits] at hf
    cases b <;> simp [cellEq] at h
    obtain ⟨rfl, rfl⟩ := h
    cases ha; cases hb
    exact run_equalIn_int w d t _ _ _ _ hu
  · rename_i hu
    cases hc
    cases a <;> simp [CK.fits] at hf
    cases b <;> simp [cellEq] at h
    subst h
    cases ha with
    | str l s h1 _ =>
      cases hb with
      | str l' s' h2 _ =>
        rw [run_equalIn_string w d t _ _ hu]
        rw [ByteArray.toList_eq, ByteArray.toList_eq, h1, h2]
  · cases hc

theorem eqFields_sound (w : World) (d : Nat) {xs ys : Array Value} : ∀ {fs : List Field} {i : Nat} {cs : List CK} {a b : List AVal} {r : Bool}, ckFields P i fs = some cs → cellsEq cs a b = some r →
    RepL G st a (xs.toList.drop i) → RepL G st b (ys.toList.drop i) → (Op.eqFields (d + 1) xs ys fs).run P w = .ok r w
  | [], i, cs, a, b, r, hc, h, ha, hb => by
    simp only [ckFields, Option.some.injEq] at hc
    subst hc
    cases a <;> cases b <;> simp [cellsEq] at h
    subst h; simp [Op.eqFields]
  | f :: fs, i, cs, a, b, r, hc, h, ha, hb => by
    simp only [ckFields] at hc
    split at hc
    · rename_i hn
      simp only [Option.bind_eq_some_iff, Option.map_eq_some_iff] at hc
      obtain ⟨c, hc1, cs', hc2, rfl⟩ := hc
      cases a with
      | nil => simp [cellsEq] at h
      | cons a l =>
        cases b with
        | nil => simp [cellsEq] at h
        | cons b m =>
          simp only [cellsEq] at h
          split at h
          · rename_i hf
            split at h
            · rename_i x y h1 h2
              cases h
              have split1 : ∀ {zs : Array Value} {z : AVal} {l : List AVal}, RepL G st (z :: l) (zs.toList.drop i) → ∃ v, zs[i]? = some v ∧ Rep G st z v ∧ RepL G st l (zs.toList.drop (i + 1)) := by
                intro zs z l hz
                cases hd : zs.toList.drop i with
                | nil => rw [hd] at hz; cases hz
                | cons v vs =>
                  rw [hd] at hz
                  cases hz with
                  | cons _ _ _ _ hr ht =>
                    refine ⟨v, ?_, hr, ?_⟩
                    · have : (zs.toList.drop i)[0]? = some v := by rw [hd]; rfl
                      rw [List.getElem?_drop] at this
                      simpa using this
                    · have : zs.toList.drop (i + 1) = (zs.toList.drop i).drop 1 := by rw [List.drop_drop]
                      rw [this, hd]
                      exact ht
              obtain ⟨v, hv, hrv, hla⟩ := split1 ha
              obtain ⟨u, hu, hru, hlb⟩ := split1 hb
              have hagg : isAggB P f.type = false ∧ (P.underlying f.type).isSome = true := by
                unfold ckOf at hc1
                unfold isAggB
                split at hc1 <;> first | (rename_i e; rw [e]; exact ⟨rfl, rfl⟩) | (rename_i k e; rw [e]; exact ⟨rfl, rfl⟩) | cases hc1
              have p1 := run_part_one w hagg.1 hagg.2 hv
              have p2 := run_part_one w hagg.1 hagg.2 hu
              have p3 := eqCell_sound w hc1 hf h1 hrv hru d
              simp only [Op.eqFields]
              rw [if_pos hn.1]
              rw [hn.2]
              simp only [Sem.run_bind, p1, p2, p3, Result.andThen_ok]
              cases x
              · simp
              · simp [eqFields_sound w d hc2 h2 hla hlb]
            · cases h
          · cases h
    · cases hc

theorem eqs_ok {o : Oper} {neg : Bool} {t u : TypeId} {x y : Operand} {cs : List CK} (ho : o.op = .binOp (if neg then .neq else .eql) t x y u) (hu : eqCells P t = some cs) {dx dy : Opd} (hx : opd P t x = some dx)
    (hy : opd P t y = some dy) : PureOK P n o (.eqs cs neg) [dx, dy] := by
  intro G w fr st a v hC hv
  have h1 := opd_sound hC hx
  have h2 := opd_sound hC hy
  simp only [List.map_cons, List.map_nil] at hv
  generalize fr.ev dx = X at *
  generalize fr.ev dy = Y at *
  have hv' : ∃ l m r, X = .agg l ∧ Y = .agg m ∧ cellsEq cs l m = some r ∧ v = .bool (r != neg) := by
    cases X <;> cases Y <;> simp only [pev, reduceCtorEq, Option.map_eq_some_iff] at hv
    obtain ⟨r, h1, h2⟩ := hv
    exact ⟨_, _, r, rfl, rfl, h1, h2.symm⟩
  obtain ⟨l, m, r, rfl, rfl, hr, rfl⟩ := hv'
  generalize hVX : a.eval x = VX at *
  generalize hVY : a.eval y = VY at *
  unfold eqCells at hu
  split at hu
  · rename_i fs hfs
    split at hu
    · rename_i hg
      cases h1 with
      | agg l xs hxs =>
        cases h2 with
        | agg l' ys hys =>
          have hff : P.fieldsOf t = fs := by unfold Program.fieldsOf; rw [hfs]
          have heq : (Op.equalIn 10000 t (.agg xs) (.agg ys)).run P w = .ok r w := by
            rw [run_equalIn_struct w 9999 t xs ys (by rw [hff]; exact hfs) hg.1, hff]
            exact eqFields_sound w 9998 hu hr (by simpa using hxs) (by simpa using hys)
          have hgd : ∀ op, (eqGuard op t x y (.agg xs) (.agg ys)).run P w = .ok () w := fun op => run_eqGuard_agg w op t x y xs ys hg.2
          refine stay hC _ ?_ (.bool _)
          cases neg
          · simp [execOp, ho, hVX, hVY, hgd, run_eql_struct, heq]
          · simp [execOp, ho, hVX, hVY, hgd, run_neq_struct, heq]
    · cases hu
  · cases hu

end
end Go.Am
