/- The abstract machine is sound: append. -/
import Derived.Test.YteinffefhcpcmaaGreatDoorAmSound5
import Derived.Laws.AppendOwn
namespace Go.Am

/-- What an append reads of its second operand. -/
structure SrcOK (P : Program) (w : World) (size : Nat) (x : Value) (n : Nat) (news : List Value) : Prop where
  len : ∀ w' : World, (Builtin.lenOf x).run P w' = .ok n w'
  cells : ∀ w' : World, w'.heap = w.heap → (Builtin.firstCells size n x).run P w' = .ok news.toArray w'
  length : news.length = n * size

/-- A type of which no append reads a number of zeros. -/
def notInt (P : Program) (u : TypeId) : Prop := (∃ e, P.underlying u = some (.slice e)) ∨ P.underlying u = some .string

section
variable {P : Program} {n : Nat} {G : Ghost} {w : World} {fr : Fr} {st : Store} {a : Act}

/-- What is appended: the elements of a slice or a text, or a number of zeros. -/
inductive Src (P : Program) (w : World) (u : TypeId) (i : TypeInfo) (x : Value) (m : Nat) (news : List Value) : Prop
  | plain (hu : notInt P u) (hs : SrcOK P w i.size x m news)
  | zeros (k : IntKind) (hu : P.underlying u = some (.int k)) (hx : x = .int .i64 m) (h63 : m < 2 ^ 63) (hb : m * i.bytes ≤ 2 ^ 47) (z : Value) (hz : i.zero = some z) (hn : news = (Builtin.zeroCells z.cells m).toList) (hlen : news.length = m * i.size)

theorem Src.length {u : TypeId} {i : TypeInfo} {x : Value} {m : Nat} {news : List Value} (h : Src P w u i x m news) : news.length = m * i.size := by
  cases h with
  | plain _ hs => exact hs.length
  | zeros _ _ _ _ _ _ _ _ hl => exact hl

theorem wrap_len {m : Nat} (h : m < 2 ^ 63) : IntKind.i64.wrap (m : Int) = m := by rw [IntKind.wrap_i64]; omega

theorem run_append_inplace {t u ty e : TypeId} {i : TypeInfo} (ht : P.underlying t = some (.slice e)) (hi : P.info? e = some i) {x : Value} {m : Nat} {news : List Value} (hs : Src P w u i x m news)
    {b off el : Nat} {fz : Nat × Nat} {cur : Array Value} (hb : w.heap[b]? = some (.cells cur el fz)) (hfz : thawed fz cur.size) {sLen sCap : Nat} (hroom : sLen + m ≤ sCap) (hfit : off + sLen * i.size + news.length ≤ cur.size) (h1 : ∀ v ∈ news, v.oneCell' = true) :
    (Builtin.append_ #[t, u] ty #[.slice (some ⟨b, off, none⟩) sLen sCap, x]).run P w =
      .ok (.slice (some ⟨b, off, none⟩) (sLen + m) sCap) (w.setRow b (cur.toList.take (off + sLen * i.size) ++ news ++ cur.toList.drop (off + sLen * i.size + news.length)).toArray) := by
  have hst := run_storeCells_thaw (P := P) b (off + sLen * i.size) el fz news 0 cur w hb hfz (by omega) h1
  simp only [Nat.add_zero] at hst
  cases hs with
  | plain hu hs =>
    have hc := hs.cells w rfl
    have hl := hs.len w
    rcases hu with ⟨e', hu⟩ | hu
    · simp [Builtin.append_, run_und ht, run_und hu, sizeOf, typeInfo, hi, hl, hroom, hc, add_mk, hst]
    · simp [Builtin.append_, run_und ht, run_und hu, sizeOf, typeInfo, hi, hl, hroom, hc, add_mk, hst]
  | zeros k hu hx h63 hbb z hz hn hlen =>
    subst hx
    have n1 : ¬ ((m : Int) < 0) := by omega
    have n2 : ¬ ((281474976710656 : Int) < (m : Int) * (i.bytes : Int)) := by
      have : ((m * i.bytes : Nat) : Int) ≤ 2 ^ 47 := by exact_mod_cast hbb
      rw [Int.natCast_mul] at this
      omega
    by_cases h0 : m * i.size = 0
    · have : news = [] := List.length_eq_zero_iff.1 (by omega)
      rw [this] at hst ⊢
      simp [Builtin.append_, run_und ht, run_und hu, sizeOf, typeInfo, hi, hroom, asInt, asIntOf, wrap_len h63, n1, n2, h0, add_mk] at hst ⊢
      simp [hst]
    · simp [Builtin.append_, run_und ht, run_und hu, sizeOf, typeInfo, hi, hroom, asInt, asIntOf, wrap_len h63, n1, n2, h0, zeroValue, hz, ← hn, add_mk, hst]

theorem run_append_empty {t u ty e : TypeId} {i : TypeInfo} (ht : P.underlying t = some (.slice e)) (hi : P.info? e = some i) {x : Value} {news : List Value} (hs : Src P w u i x 0 news)
    (ad : Option Addr) {sLen sCap : Nat} (hroom : sLen ≤ sCap) :
    (Builtin.append_ #[t, u] ty #[.slice ad sLen sCap, x]).run P w = .ok (.slice ad sLen sCap) w := by
  have hnil : news = [] := by have := hs.length; simpa using this
  subst hnil
  cases hs with
  | plain hu hs =>
    have hc := hs.cells w rfl
    have hl := hs.len w
    rcases hu with ⟨e', hu⟩ | hu <;> cases ad <;> simp [Builtin.append_, run_und ht, run_und hu, sizeOf, typeInfo, hi, hl, hroom, hc, storeCells]
  | zeros k hu hx h63 hbb z hz hn hlen =>
    subst hx
    have hw := wrap_len h63
    simp only [Int.natCast_zero] at hw
    cases ad <;> simp [Builtin.append_, run_und ht, run_und hu, sizeOf, typeInfo, hi, hroom, asInt, asIntOf, hw, storeCells]

theorem run_append_new {t u ty e : TypeId} {i : TypeInfo} {z : Value} (ht : P.underlying t = some (.slice e)) (hi : P.info? e = some i) (hz : i.zero = some z) {x : Value} {m : Nat} {news : List Value} (hs : Src P w u i x m news)
    {ad : Option Addr} {sLen sCap : Nat} {olds : List Value} (hold : SrcOK P w i.size (.slice ad sLen sCap) sLen olds) (hg : sCap < sLen + m) (h63 : sLen + m < 2 ^ 63) (hfit : (sLen + m) * i.bytes ≤ 2 ^ 47) :
    (Builtin.append_ #[t, u] ty #[.slice ad sLen sCap, x]).run P w =
      .ok (.slice (some ⟨w.heap.size, 0, none⟩) (sLen + m) (grownCap w (sLen + m) sCap e))
        (w.drew.alloc (.cells (olds.toArray ++ news.toArray ++ Builtin.zeroCells z.cells (grownCap w (sLen + m) sCap e - (sLen + m))) e)) := by
  have hn' : ¬ (sLen + m ≤ sCap) := by omega
  have h63' : ¬ (9223372036854775807 < ((sLen : Int) + (m : Int))) := by omega
  have h48' : ¬ (281474976710656 < Builtin.nextslicecap (sLen + m) sCap * i.bytes) := by
    have := growslice_fits hg hfit
    omega
  have ho := hold.cells w.drew rfl
  cases hs with
  | plain hu hs =>
    have hc := hs.cells w.drew rfl
    have hl := hs.len w
    rcases hu with ⟨e', hu⟩ | hu
    · simp [Builtin.append_, run_und ht, run_und hu, sizeOf, typeInfo, zeroValue, hi, hz, hl, hn', h63', h48', Question.forced, hc, ho, newRow, grownCap]
      congr 2
      apply Array.ext'
      simp [List.append_assoc]
    · simp [Builtin.append_, run_und ht, run_und hu, sizeOf, typeInfo, zeroValue, hi, hz, hl, hn', h63', h48', Question.forced, hc, ho, newRow, grownCap]
      congr 2
      apply Array.ext'
      simp [List.append_assoc]
  | zeros k hu hx h63m hbb z' hz' hn hlen =>
    subst hx
    rw [hz] at hz'
    cases hz'
    have n1 : ¬ ((m : Int) < 0) := by omega
    have n2 : ¬ ((281474976710656 : Int) < (m : Int) * (i.bytes : Int)) := by
      have : ((m * i.bytes : Nat) : Int) ≤ 2 ^ 47 := by exact_mod_cast hbb
      rw [Int.natCast_mul] at this
      omega
    have hna : news.toArray = Builtin.zeroCells z.cells m := by rw [hn]
    by_cases h0 : m * i.size = 0
    · have : news = [] := List.length_eq_zero_iff.1 (by omega)
      simp [Builtin.append_, run_und ht, run_und hu, sizeOf, typeInfo, hi, asInt, asIntOf, wrap_len h63m, n1, n2, h0, zeroValue, hz, hn', h63', h48', Question.forced, ho, newRow, grownCap, this]
    · simp [Builtin.append_, run_und ht, run_und hu, sizeOf, typeInfo, hi, asInt, asIntOf, wrap_len h63m, n1, n2, h0, zeroValue, hz, hn', h63', h48', Question.forced, ho, newRow, grownCap, hna]

def stTail (st : Store) (tag : Tag) (key : Key) (N : Nat) : Store := (st.kill tag).set key ⟨((st.kill tag) key).ver + 1, some (.tail N)⟩

theorem kill_ver (st : Store) (tag : Tag) (k : Key) : ((st.kill tag) k).ver = (st k).ver := by
  cases tag <;> simp [Store.kill]
  rename_i k' v
  by_cases h : k = k'
  · subst h; simp
  · rw [Store.set_other _ _ h]

theorem kill_obj (st : Store) (tag : Tag) (k : Key) : ((st.kill tag) k).obj = (st k).obj ∨ ((st.kill tag) k).obj = none := by
  cases tag <;> simp [Store.kill]
  rename_i k' v
  by_cases h : k = k'
  · subst h; simp
  · rw [Store.set_other _ _ h]; simp

def Ghost.tail (G : Ghost) (imm' : Nat → Nat → Option Value) (key : Key) (b lo hi : Nat) : Ghost := { G.setLoc key b lo hi with imm := imm' }

theorem conc_tail (hC : ConcS G w st) (tag : Tag) (key : Key) (N b lo hi : Nat) (imm' : Nat → Nat → Option Value) (w' : World)
    (c1 : ∀ b', b' < w.heap.size → b' ≠ b → w'.heap[b']? = w.heap[b']?) (csz : w.heap.size ≤ w'.heap.size)
    (c2 : lo < hi → b < w'.heap.size ∧ ∃ vs el fz, w'.heap[b]? = some (.cells vs el fz) ∧ thawed fz vs.size ∧ hi = vs.size)
    (c3 : ∀ b' o v, G.imm b' o = some v → imm' b' o = some v) (c3' : ∀ b' o v, imm' b' o = some v → G.imm b' o = some v ∨ b' = b)
    (c4 : ∀ b' o v, imm' b' o = some v → w'.cell? ⟨b', o, none⟩ = some v)
    (c5 : w.heap.size ≤ b ∨ ∃ k0 v, tag = .tk k0 v ∧ Owns G st k0 b) (c6 : ∀ o, lo ≤ o → imm' b o = none) (c7 : ∀ b' o v, imm' b' o = some v → one v = true)
    (ht : w'.tape = w.tape) (hos : w'.os = w.os) (hou : w'.output = w.output) :
    ConcS (G.tail imm' key b lo hi) w' (stTail st tag key N) ∧ Ext G w st (G.tail imm' key b lo hi) w' (stTail st tag key N) := by
  have hlat : Later G st (G.tail imm' key b lo hi) (stTail st tag key N) := {
    imm := c3
    ver := fun k' => by
      by_cases h : k' = key
      · subst h; simp [stTail, kill_ver]
      · rw [stTail, Store.set_other _ _ h, kill_ver]; exact Nat.le_refl _
    blk := fun k' e => by
      by_cases h : k' = key
      · subst h; simp [stTail, kill_ver] at e
      · simp [Ghost.tail, Ghost.setLoc, h]
    tail := fun k' m e h => by
      by_cases hk : k' = key
      · subst hk; simp [stTail, kill_ver] at e
      · rw [stTail, Store.set_other _ _ hk] at h
        rcases kill_obj st tag k' with h' | h'
        · rw [← h']; exact h
        · rw [h'] at h; cases h }
  have hkey : stTail st tag key N key = ⟨(st key).ver + 1, some (.tail N)⟩ := by simp [stTail, kill_ver]
  have hne : ∀ k', k' ≠ key → stTail st tag key N k' = (st.kill tag) k' := fun k' h => Store.set_other _ _ h
  generalize hS : stTail st tag key N = st' at *
  generalize hG : G.tail imm' key b lo hi = G' at *
  have himm : G'.imm = imm' := by rw [← hG]; rfl
  have hlock : G'.blk key = b ∧ G'.lo key = lo ∧ G'.hi key = hi := by rw [← hG]; simp [Ghost.tail, Ghost.setLoc]
  have hloc : ∀ k', k' ≠ key → G'.blk k' = G.blk k' ∧ G'.lo k' = G.lo k' ∧ G'.hi k' = G.hi k' := fun k' h => by rw [← hG]; simp [Ghost.tail, Ghost.setLoc, h]
  have hownkey : ∀ b', Owns G' st' key b' → lo < hi ∧ b' = b := fun b' h => by
    unfold Owns at h
    rw [hkey] at h
    simp only [hlock.1, hlock.2.1, hlock.2.2] at h
    exact ⟨h.1, h.2.symm⟩
  have hownne : ∀ k' b', k' ≠ key → Owns G' st' k' b' → Owns G st k' b' ∧ ∀ v, tag ≠ .tk k' v := fun k' b' h ho => by
    obtain ⟨h1, h2, h3⟩ := hloc k' h
    unfold Owns at ho
    rw [hne k' h, h1, h2, h3] at ho
    constructor
    · rcases kill_obj st tag k' with h' | h'
      · unfold Owns; rw [← h']; exact ho
      · rw [h'] at ho; exact ho.elim
    · rintro v rfl
      simp [Store.kill] at ho
  have hnb : ∀ k' b', k' ≠ key → Owns G' st' k' b' → b' ≠ b := fun k' b' h ho e => by
    subst e
    obtain ⟨h1, h2⟩ := hownne k' b' h ho
    rcases c5 with c | ⟨k0, v, rfl, hk0⟩
    · have := hC.size k' b' h1; omega
    · have := hC.inj k' k0 b' h1 hk0
      subst this
      exact h2 v rfl
  refine ⟨⟨by rw [himm]; exact c7, ?_, ?_, ?_, ?_, ?_⟩, ⟨hlat, csz, ?_, ?_, ?_, ht, hos, hou⟩⟩
  · rw [himm]; exact c4
  · intro k' o' ho'
    by_cases h : k' = key
    · subst h
      rw [hkey] at ho'
      simp only [Option.some.injEq] at ho'
      subst ho'
      intro hlt
      rw [hlock.2.1, hlock.2.2] at hlt
      obtain ⟨_, vs, el, fz, h1, h2, h3⟩ := c2 hlt
      exact ⟨vs, el, fz, by rw [hlock.1]; exact h1, h2, by rw [hlock.2.2]; exact h3⟩
    · have ho2 : (st k').obj = some o' := by
        rw [hne k' h] at ho'
        rcases kill_obj st tag k' with h' | h'
        · rw [← h']; exact ho'
        · rw [h'] at ho'; cases ho'
      have hver : (st' k').ver = (st k').ver := by rw [hne k' h, kill_ver]
      rcases blk_of_obj hC ho2 with ⟨b', ho, hbb⟩ | ⟨_, h2⟩
      · have hown' : Owns G' st' k' b' := by
          obtain ⟨h1, h2, h3⟩ := hloc k' h
          unfold Owns at ho ⊢
          rw [ho', h1, h2, h3]
          rw [ho2] at ho
          exact ho
        refine (hC.obj k' o' ho2).later hlat hver (by rw [hbb]; exact c1 b' (hC.size k' b' ho) (hnb k' b' h hown'))
      · exact (h2 w').later hlat hver rfl
  · intro k1 k2 b' h1 h2
    by_cases e1 : k1 = key
    · subst e1
      by_cases e2 : k2 = k1
      · exact e2.symm
      · exact absurd (hownkey b' h1).2 (hnb k2 b' e2 h2)
    · by_cases e2 : k2 = key
      · subst e2
        exact absurd (hownkey b' h2).2 (hnb k1 b' e1 h1)
      · exact hC.inj k1 k2 b' (hownne k1 b' e1 h1).1 (hownne k2 b' e2 h2).1
  · intro k' b' o h
    rw [himm]
    by_cases e : k' = key
    · subst e
      obtain ⟨_, rfl⟩ := hownkey b' h
      by_cases hlo : o < lo
      · exact .inr ⟨N, by rw [hkey], by rw [hlock.2.1]; exact hlo⟩
      · exact .inl (c6 o (by omega))
    · have hb' := hnb k' b' e h
      obtain ⟨h1, h2⟩ := hownne k' b' e h
      rcases hC.own k' b' o h1 with h' | ⟨m, hm, hlo⟩
      · left
        cases hi : imm' b' o with
        | none => rfl
        | some v =>
          rcases c3' b' o v hi with h'' | h''
          · rw [h'] at h''; cases h''
          · exact absurd h'' hb'
      · right
        refine ⟨m, ?_, by rw [(hloc k' e).2.1]; exact hlo⟩
        rw [hne k' e]
        rcases kill_obj st tag k' with h'' | h''
        · rw [h'']; exact hm
        · unfold Owns at h; rw [hne k' e, h''] at h; exact h.elim
  · intro k' b' h
    by_cases e : k' = key
    · subst e
      obtain ⟨hlt, rfl⟩ := hownkey b' h
      exact (c2 hlt).1
    · have := hC.size k' b' (hownne k' b' e h).1; omega
  · intro b' hb' hno
    by_cases e : b' = b
    · subst e
      rcases c5 with c | ⟨k0, v, _, hk0⟩
      · omega
      · exact absurd hk0 (hno k0)
    · exact c1 b' hb' e
  · intro k' b' hb' h
    by_cases e : k' = key
    · subst e
      obtain ⟨_, rfl⟩ := hownkey b' h
      rcases c5 with c | ⟨k0, v, _, hk0⟩
      · omega
      · exact ⟨k0, hk0⟩
    · exact ⟨k', (hownne k' b' e h).1⟩
  · intro b' o v h hb'
    rw [himm] at h
    rcases c3' b' o v h with h' | rfl
    · exact .inl h'
    · rcases c5 with c | ⟨k0, v', _, hk0⟩
      · omega
      · exact .inr ⟨k0, hk0⟩

end
end Go.Am
