/- Maps whose keys are ints: what a look-up answers, what a store leaves; the walk's laws on them. -/
import Derived.Test.YtdmpocojbheoiaaB0
namespace Go.Proofs.Ytdmpocojbheoiaa
open Go.RowKit

/-- The first value of a key. -/
def getK {α : Type} : List (Int × α) → Int → Option α
  | [], _ => none
  | (k, c) :: r, i => if k = i then some c else getK r i
/-- A key's value put: in its place, or behind. -/
def putK {α : Type} : List (Int × α) → Int → α → List (Int × α)
  | [], i, b => [(i, b)]
  | (k, c) :: r, i, b => if k = i then (i, b) :: r else (k, c) :: putK r i b
theorem getK_putK {α : Type} (ks : List (Int × α)) (i j : Int) (b : α) : getK (putK ks i b) j = if i = j then some b else getK ks j := by
  induction ks with
  | nil => simp [putK, getK]
  | cons x r ih =>
    obtain ⟨k, c⟩ := x
    by_cases h : k = i
    · subst h
      simp only [putK, if_true, getK]
      split <;> simp_all
    · simp only [putK, if_neg h, getK, ih]
      by_cases hk : k = j
      · subst hk; simp [Ne.symm h]
      · simp [hk]
theorem mem_putK {α : Type} {ks : List (Int × α)} {i : Int} {b : α} {x : Int × α} (h : x ∈ putK ks i b) : x = (i, b) ∨ x ∈ ks := by
  induction ks with
  | nil => left; simpa [putK] using h
  | cons y r ih =>
    obtain ⟨k, c⟩ := y
    unfold putK at h
    split at h
    · rcases List.mem_cons.1 h with h | h
      · exact .inl h
      · exact .inr (List.mem_cons_of_mem _ h)
    · rcases List.mem_cons.1 h with h | h
      · exact .inr (by rw [h]; exact List.mem_cons_self)
      · rcases ih h with h | h
        · exact .inl h
        · exact .inr (List.mem_cons_of_mem _ h)
theorem getK_mem {α : Type} {ks : List (Int × α)} {i : Int} {b : α} (h : getK ks i = some b) : (i, b) ∈ ks := by
  induction ks with
  | nil => cases h
  | cons y r ih =>
    obtain ⟨k, c⟩ := y
    unfold getK at h
    split at h
    · rename_i hk; subst hk; cases h; exact List.mem_cons_self
    · exact List.mem_cons_of_mem _ (ih h)
theorem length_putK {α : Type} (ks : List (Int × α)) (i : Int) (b : α) : (putK ks i b).length ≤ ks.length + 1 := by
  induction ks with
  | nil => simp [putK]
  | cons x r ih => obtain ⟨k, c⟩ := x; unfold putK; split <;> simp <;> omega

/-- Block M is a map of these entries, in the order in which they came. -/
def MapAt (w : World) (M : Nat) (ks : List (Int × Value)) : Prop :=
  ∃ es clock, w.heap[M]? = some (.map es clock) ∧ es.toList.map (fun e => (e.key, e.val)) = ks.map (fun x => (Value.int .i64 x.1, x.2))

theorem MapAt.lt {w : World} {M : Nat} {ks : List (Int × Value)} (h : MapAt w M ks) : M < w.heap.size := by
  obtain ⟨es, clock, h, _⟩ := h
  exact (Array.getElem?_eq_some_iff.1 h).1
theorem MapAt.move {w w' : World} {M : Nat} {ks : List (Int × Value)} (h : MapAt w M ks) (hm : w'.heap[M]? = w.heap[M]?) : MapAt w' M ks := by
  obtain ⟨es, clock, h, r⟩ := h
  exact ⟨es, clock, hm.trans h, r⟩

theorem findNow_none (ks : List (Int × Value)) (i : Int) : ∀ (es : List MapEntry) (n : Nat), es.map (fun e => (e.key, e.val)) = ks.map (fun x => (Value.int .i64 x.1, x.2)) → getK ks i = none →
    Instr.findNow (.int .i64) (.int .i64 i) es n = some none := by
  induction ks with
  | nil => intro es n h _; have : es = [] := by simpa using h
           subst this; rfl
  | cons x r ih =>
    obtain ⟨k, c⟩ := x
    intro es n h hg
    cases es with
    | nil => simp at h
    | cons e es =>
      simp only [List.map_cons, List.cons.injEq, Prod.mk.injEq] at h
      obtain ⟨⟨h1, h2⟩, h3⟩ := h
      unfold getK at hg
      split at hg
      · cases hg
      · rename_i hk
        simp only [Instr.findNow, h1, Instr.sameNow, if_true]
        have : (i == k) = false := by simpa using fun e => hk e.symm
        rw [this]
        exact ih es (n + 1) h3 hg
theorem findNow_some (ks : List (Int × Value)) (i : Int) (v : Value) : ∀ (es : List MapEntry) (n : Nat), es.map (fun e => (e.key, e.val)) = ks.map (fun x => (Value.int .i64 x.1, x.2)) → getK ks i = some v →
    ∃ m, Instr.findNow (.int .i64) (.int .i64 i) es n = some (some (n + m, v)) ∧ (∃ e, es[m]? = some e ∧ e.key = .int .i64 i) ∧
      ∀ v', (es.modify m (fun e => { e with key := .int .i64 i, val := v' })).map (fun e => (e.key, e.val)) = (putK ks i v').map (fun x => (Value.int .i64 x.1, x.2)) := by
  induction ks with
  | nil => intro es n _ hg; cases hg
  | cons x r ih =>
    obtain ⟨k, c⟩ := x
    intro es n h hg
    cases es with
    | nil => simp at h
    | cons e es =>
      simp only [List.map_cons, List.cons.injEq, Prod.mk.injEq] at h
      obtain ⟨⟨h1, h2⟩, h3⟩ := h
      unfold getK at hg
      split at hg
      · rename_i hk
        subst hk
        cases hg
        refine ⟨0, ?_, ⟨e, rfl, h1⟩, fun v' => ?_⟩
        · simp only [Instr.findNow, h1, Instr.sameNow, if_true, beq_self_eq_true, h2, Nat.add_zero]
        · simp [putK, List.modify, h3]
      · rename_i hk
        obtain ⟨m, hm, ⟨e', he, hke⟩, hp⟩ := ih es (n + 1) h3 hg
        refine ⟨m + 1, ?_, ⟨e', by simpa using he, hke⟩, fun v' => ?_⟩
        · simp only [Instr.findNow, h1, Instr.sameNow, if_true]
          have : (i == k) = false := by simpa using fun e => hk e.symm
          rw [this]
          rw [hm]; simp; omega
        · simp only [List.modify_succ_cons, List.map_cons, putK, if_neg hk, h1, h2, hp v']

section
variable {P : Program} {t kt et : TypeId}
theorem run_checkI (w : World) (hk : P.underlying kt = some (.int .i64)) (em : Bool) (i : Int) : ∀ n, (Instr.checkKey em (n + 1) kt (.int .i64 i)).run P w = .ok () w := by
  intro n
  simp [Instr.checkKey, run_underlying hk]
theorem run_lookupK (w : World) (M : Nat) (ks : List (Int × Value)) (hm : MapAt w M ks) (ht : P.underlying t = some (.map kt et)) (hk : P.underlying kt = some (.int .i64))
    (z : Value) (hz : ∀ w, (zeroValue et).run P w = .ok z w) (i : Int) :
    (Instr.lookup t (.map (some M)) (.int .i64 i) true).run P w = .ok (.tuple #[(getK ks i).getD z, .bool (getK ks i).isSome]) w := by
  obtain ⟨es, clock, hb, he⟩ := hm
  have hck := run_checkI (P := P) w hk es.isEmpty i 9999
  have hgo : (getObj M).run P w = .ok (.map es clock) w := by simp [getObj, Sem.run, hb]
  cases hg : getK ks i with
  | none =>
    have hf := findNow_none ks i es.toList 0 he hg
    simp [Instr.lookup, run_underlying ht, run_underlying hk, hck, hgo, Instr.findKey, hf, hz, -Array.isEmpty_iff]
  | some v =>
    obtain ⟨m, hf, _⟩ := findNow_some ks i v es.toList 0 he hg
    simp [Instr.lookup, run_underlying ht, run_underlying hk, hck, hgo, Instr.findKey, hf, -Array.isEmpty_iff]
theorem run_mapPutK (w : World) (M : Nat) (ks : List (Int × Value)) (hm : MapAt w M ks) (ht : P.underlying t = some (.map kt et)) (hk : P.underlying kt = some (.int .i64)) (i : Int) (v : Value) :
    ∃ w', (Instr.mapUpdate t (.map (some M)) (.int .i64 i) v).run P w = .ok () w' ∧ MapAt w' M (putK ks i v) ∧ w'.os = w.os ∧ w'.tape = w.tape ∧ w'.output = w.output ∧ w'.heap.size = w.heap.size ∧ ∀ k, k ≠ M → w'.heap[k]? = w.heap[k]? := by
  obtain ⟨es, clock, hb, he⟩ := hm
  have hlt : M < w.heap.size := (Array.getElem?_eq_some_iff.1 hb).1
  have hck := run_checkI (P := P) w hk false i 9999
  have hgo : (getObj M).run P w = .ok (.map es clock) w := by simp [getObj, Sem.run, hb]
  have hso : ∀ o, (setObj M o).run P w = .ok () { w with heap := w.heap.setIfInBounds M o } := fun o => by simp [setObj, Sem.run, hb]
  cases hg : getK ks i with
  | none =>
    have hf := findNow_none ks i es.toList 0 he hg
    refine ⟨{ w with heap := w.heap.setIfInBounds M (.map (es.push { key := .int .i64 i, val := v, born := clock }) (clock + 1)) }, ?_, ⟨es.push { key := .int .i64 i, val := v, born := clock }, clock + 1, ?_, ?_⟩, rfl, rfl, rfl, by simp, fun k hk => ?_⟩
    · simp [Instr.mapUpdate, run_underlying ht, run_underlying hk, hck, hgo, hso, Instr.findKey, hf]
    · simp [hlt]
    · have : putK ks i v = ks ++ [(i, v)] := by
        clear he hf hb
        induction ks with
        | nil => rfl
        | cons x r ih =>
          obtain ⟨k, c⟩ := x
          unfold getK at hg
          split at hg
          · cases hg
          · rename_i h; simp [putK, h, ih hg]
      simp [this, he]
    · simp [Array.getElem?_setIfInBounds_ne (Ne.symm hk)]
  | some u =>
    obtain ⟨m, hf, ⟨e, hge, hke⟩, hp⟩ := findNow_some ks i u es.toList 0 he hg
    have hge' : es[m]? = some e := by simpa using hge
    refine ⟨{ w with heap := w.heap.setIfInBounds M (.map (es.modify m fun e => { e with key := .int .i64 i, val := v }) clock) }, ?_, ⟨es.modify m fun e => { e with key := .int .i64 i, val := v }, clock, ?_, ?_⟩, rfl, rfl, rfl, by simp, fun k hk => ?_⟩
    · simp only [Nat.zero_add] at hf
      simp [Instr.mapUpdate, run_underlying ht, run_underlying hk, hck, hgo, hso, Instr.findKey, hf, Instr.keyThatStays, hge', hke, Instr.sameBits]
    · simp [hlt]
    · have := hp v
      simpa using this
    · simp [Array.getElem?_setIfInBounds_ne (Ne.symm hk)]
end
section
variable {P : Program} {t kt et : TypeId} {ops : Array Oper} {rest : List Oper} {o : Oper} {a : Act} {Q : Exit → Act → World → Prop} {K : Act → World → Prop} {E : Prop}
theorem wpList_mapPut (w : World) (hgd : o.guard = none) (hdst : o.dst = none) (m k v : Operand) (ho : o.op = .mapUpdate t m k v) (M : Nat) (ks : List (Int × Value)) (hm : MapAt w M ks)
    (ht : P.underlying t = some (.map kt et)) (hk : P.underlying kt = some (.int .i64)) (i : Int) (x : Value) (em : a.eval m = .map (some M)) (ek : a.eval k = .int .i64 i) (ev : a.eval v = x)
    (h : ∀ w', MapAt w' M (putK ks i x) → w'.os = w.os → w'.tape = w.tape → w'.output = w.output → w'.heap.size = w.heap.size → (∀ k, k ≠ M → w'.heap[k]? = w.heap[k]?) → wpList P ops Q rest a w') :
    wpList P ops Q (o :: rest) a w := by
  obtain ⟨w', hr, h1, h2, h3, h4, h5, h6⟩ := run_mapPutK (P := P) w M ks hm ht hk i x
  refine wpList_plain hgd fun K hK => ?_
  unfold Oper.wp execOp
  simp only [ho, em, ek, ev, Sem.run_bind, hr, Result.andThen_ok, Sem.run_pure, Oper.upon_skip, hdst, Act.put]
  exact hK _ _ (h w' h1 h2 h3 h4 h5 h6)
theorem step_mapPut (w : World) (hw : Region.wanted o (yielded ops a.tmps) = true) (hdst : o.dst = none) (m k v : Operand) (ho : o.op = .mapUpdate t m k v) (M : Nat) (ks : List (Int × Value)) (hm : MapAt w M ks)
    (ht : P.underlying t = some (.map kt et)) (hk : P.underlying kt = some (.int .i64)) (i : Int) (x : Value) (em : a.eval m = .map (some M)) (ek : a.eval k = .int .i64 i) (ev : a.eval v = x)
    (h : ∀ w', MapAt w' M (putK ks i x) → w'.os = w.os → w'.tape = w.tape → w'.output = w.output → w'.heap.size = w.heap.size → (∀ k, k ≠ M → w'.heap[k]? = w.heap[k]?) → K a w') :
    if Region.wanted o (yielded ops a.tmps) = true then Oper.wp P o a w K Q else E := by
  obtain ⟨w', hr, h1, h2, h3, h4, h5, h6⟩ := run_mapPutK (P := P) w M ks hm ht hk i x
  rw [if_pos hw]
  unfold Oper.wp execOp
  simp only [ho, em, ek, ev, Sem.run_bind, hr, Result.andThen_ok, Sem.run_pure, Oper.upon_skip, hdst, Act.put]
  exact h w' h1 h2 h3 h4 h5 h6
end
theorem mapAt_new (w : World) : MapAt (w.alloc (.map #[] 0)) w.heap.size [] := ⟨#[], 0, heap_alloc_new w _, rfl⟩
end Go.Proofs.Ytdmpocojbheoiaa
