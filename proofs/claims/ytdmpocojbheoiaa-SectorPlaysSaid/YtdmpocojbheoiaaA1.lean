/- The abstract machine: states; regions in the order of their text, and in any order. -/
import Derived.Test.YtdmpocojbheoiaaA0
namespace Go.Proofs.Ytdmpocojbheoiaa.AM
open Go.RowKit

structure St where
  T : List (Nat × AV)
  H : List (Nat × Option R)
  N : Nat
  sz : Nat

def hget (H : List (Nat × Option R)) (id : Nat) : Option R := match get H id with | some r => r | none => none
def updH (c : Cert) (H : List (Nat × Option R)) : List (Nat × Option R) := c.post.map (fun p => (p.1, some p.2)) ++ (c.pre.map (fun p => (p.1, none)) ++ H)
def St.upd (S : St) (dst : Option Nat) (c : Cert) : St := { S with T := match dst with | some d => (d, c.out) :: S.T | none => S.T, H := updH c S.H }

def setT (d : Option Nat) (v : AV) (T : Nat → Option AV) : Nat → Option AV := fun t => if d = some t then some v else T t
def setH (c : Cert) (H : Nat → Option R) : Nat → Option R := fun id => match get c.post id with | some r => some r | none => if (get c.pre id).isSome then none else H id

theorem get_append {α : Type _} : ∀ (l m : List (Nat × α)) (i : Nat), get (l ++ m) i = match get l i with | some v => some v | none => get m i
  | [], m, i => rfl
  | (k, v) :: l, m, i => by
    rw [List.cons_append, get_cons, get_cons, get_append l m i]
    by_cases h : k = i
    · simp [h]
    · simp [h]
theorem get_map {α β : Type _} (f : α → β) : ∀ (l : List (Nat × α)) (i : Nat), get (l.map fun p => (p.1, f p.2)) i = (get l i).map f
  | [], i => rfl
  | (k, v) :: l, i => by
    rw [List.map_cons, get_cons, get_cons, get_map f l i]
    by_cases h : k = i <;> simp [h]
theorem get_upd (S : St) (dst : Option Nat) (c : Cert) : get (S.upd dst c).T = setT dst c.out (get S.T) := by
  funext t
  cases dst with
  | none => simp [St.upd, setT]
  | some d => simp only [St.upd, setT, get_cons, Option.some.injEq]
theorem hget_upd (c : Cert) (H : List (Nat × Option R)) : hget (updH c H) = setH c (hget H) := by
  funext id
  unfold hget updH setH
  rw [get_append, get_map (fun r => some r), get_append]
  have e : (c.pre.map fun p => (p.1, (none : Option R))) = c.pre.map fun p => (p.1, (fun _ => none) p.2) := rfl
  rw [e, get_map (fun _ => (none : Option R))]
  cases h1 : get c.post id with
  | some r => simp
  | none =>
    cases h2 : get c.pre id with
    | some r => simp
    | none => simp

structure Entry where
  w0 : World
  F0 : Nat → Prop
  g0 : Gh

structure AtG (E : Entry) (g : Gh) (T : Nat → Option AV) (H : Nat → Option R) (al : Nat → Prop) (sz : Nat) (a : Act) (w : World) : Prop where
  good : Good g w
  tmp : ∀ t av, T t = some av → RepAV g (a.tmps.getD t undef) av
  heap : HeapH g H w
  size : a.tmps.size = sz
  defers : a.defers = []
  al : ∀ id, g.alive id → al id
  ext : Ext E.F0 (fun _ => True) E.g0 g E.w0 w
  own : ∀ id r k, H id = some r → g.F id k → E.F0 k ∨ E.w0.heap.size ≤ k

theorem AtG.imp {E : Entry} {g : Gh} {T T' : Nat → Option AV} {H H' : Nat → Option R} {al al' : Nat → Prop} {sz : Nat} {a : Act} {w : World} (h : AtG E g T H al sz a w)
    (hT : ∀ t av, T' t = some av → T t = some av) (hH : ∀ id r, H' id = some r → H id = some r) (hal : ∀ id, al id → al' id) : AtG E g T' H' al' sz a w :=
  ⟨h.good, fun t av ht => h.tmp t av (hT t av ht), h.heap.sub hH, h.size, h.defers, fun id hi => hal id (h.al id hi), h.ext, fun id r k hr hk => h.own id r k (hH id r hr) hk⟩
theorem AtG.drew {E : Entry} {g : Gh} {T : Nat → Option AV} {H : Nat → Option R} {al : Nat → Prop} {sz : Nat} {a : Act} {w : World} (h : AtG E g T H al sz a w) : AtG E g T H al sz a { w with drawn := w.drawn + 1 } := by
  have hE : Ext (fun _ => False) (fun _ => False) g g w { w with drawn := w.drawn + 1 } := ⟨rfl, rfl, rfl, Nat.le_refl _, fun _ _ _ => rfl, fun _ _ _ h => h, fun _ _ _ h => .inl h, fun _ h => h, fun _ _ => rfl, fun _ _ => rfl, fun _ _ _ => rfl⟩
  exact ⟨h.good, h.tmp, ⟨h.heap.alive, fun id r hr => holds_keep (h.heap.holds id r hr) hE (h.heap.alive id r hr) (fun h => h) (fun _ _ h => h), h.heap.dj⟩, h.size, h.defers, h.al, h.ext.trans hE (fun _ h => h.elim) (fun _ h => h.elim), h.own⟩

theorem put_getD (a : Act) (d : Option Nat) (v : Value) (t : Nat) (hd : ∀ x, d = some x → x < a.tmps.size) : (a.put d v).tmps.getD t undef = if d = some t then v else a.tmps.getD t undef := by
  cases d with
  | none => simp [Act.put]
  | some x =>
    have := hd x rfl
    simp only [Act.put, Option.some.injEq]
    rw [Array.getD_eq_getD_getElem?, Array.getD_eq_getD_getElem?, Array.getElem?_setIfInBounds]
    by_cases h : x = t
    · subst h; simp [this]
    · simp [h]
theorem put_size (a : Act) (d : Option Nat) (v : Value) : (a.put d v).tmps.size = a.tmps.size := by cases d <;> simp [Act.put]
theorem put_defs (a : Act) (d : Option Nat) (v : Value) : (a.put d v).defers = a.defers := by cases d <;> rfl

theorem AtG.step {P : Program} {ops : Array Oper} {Q : Exit → Act → World → Prop} {o : Oper} {n : Nat} {c : Cert} {K : Act → World → Prop} {E : Entry} {g : Gh} {T : Nat → Option AV} {H : Nat → Option R} {al : Nat → Prop} {sz : Nat} {a : Act} {w : World}
    (h : AtG E g T H al sz a w) (hs : Sound P ops o n c) (hrd : ∀ p ∈ c.rd, p.2 = .any ∨ T p.1 = some p.2) (hpre : ∀ id r, get c.pre id = some r → H id = some r) (hd : ∀ d, o.dst = some d → d < sz)
    (hn : ∀ id, n ≤ id → id < n + 8 → ¬ al id)
    (hK : ∀ g' w' v, AtG E g' (setT o.dst c.out T) (setH c H) (fun id => al id ∨ (n ≤ id ∧ id < n + 8)) sz (a.put o.dst v) w' → K (a.put o.dst v) w') : stepWp P ops Q o K a w := by
  have hd' : ∀ x, o.dst = some x → x < a.tmps.size := fun x hx => by rw [h.size]; exact hd x hx
  refine hs Q K g a w h.good (fun p hp => (hrd p hp).elim (fun e => by rw [e]; simp only [RepAV]) (fun e => h.tmp _ _ e)) (h.heap.sub hpre) (fun id h1 h2 h3 => hn id h1 h2 (h.al id h3)) (fun g' w' v b => hK g' w' v ?_)
  have hown : ∀ k, Owned g c.pre k → E.F0 k ∨ E.w0.heap.size ≤ k := fun k ⟨id, r, h1, h2⟩ => h.own id r k (hpre id r h1) h2
  have hnp : ∀ id, ¬ (get c.pre id).isSome = true → get c.pre id = none := fun id hi => by cases hx : get c.pre id with | none => rfl | some r => rw [hx] at hi; simp at hi
  -- a resource that stays
  have hrest : ∀ id r, get c.post id = none → get c.pre id = none → H id = some r → g.alive id ∧ g'.F id = g.F id ∧ ∀ k, g.F id k → ¬ Owned g c.pre k := fun id r h1 h2 h3 => by
    refine ⟨h.heap.alive id r h3, b.ext.F id (h.heap.alive id r h3) (by rw [h2]; simp), fun k hk ⟨id', r', h4, h5⟩ => ?_⟩
    exact h.heap.dj id' id r' r (hpre _ _ h4) h3 (by rintro rfl; rw [h2] at h4; cases h4) k h5 hk
  have hsplit : ∀ id r, setH c H id = some r → get c.post id = some r ∨ (get c.post id = none ∧ get c.pre id = none ∧ H id = some r) := fun id r hr => by
    unfold setH at hr
    cases h1 : get c.post id with
    | some r' => rw [h1] at hr; exact .inl hr
    | none =>
      rw [h1] at hr
      by_cases h2 : (get c.pre id).isSome = true
      · simp [h2] at hr
      · simp only [h2] at hr; exact .inr ⟨rfl, hnp id h2, hr⟩
  refine ⟨b.good, fun t av ht => ?_, ⟨fun id r hr => ?_, fun id r hr => ?_, fun id id' r r' hr hr' hne k hk => ?_⟩, by rw [put_size]; exact h.size, by rw [put_defs]; exact h.defers, fun id hi => ?_, ?_, fun id r k hr hk => ?_⟩
  · rw [put_getD a o.dst v t hd']
    unfold setT at ht
    by_cases hdt : o.dst = some t
    · rw [if_pos hdt] at ht ⊢; injection ht with ht; subst ht; exact b.rep
    · rw [if_neg hdt] at ht ⊢; exact RepAV.mono b.ext.le _ (h.tmp t av ht)
  · rcases hsplit id r hr with h1 | ⟨h1, h2, h3⟩
    · exact b.heap.alive id r h1
    · exact b.ext.al id (hrest id r h1 h2 h3).1
  · rcases hsplit id r hr with h1 | ⟨h1, h2, h3⟩
    · exact b.heap.holds id r h1
    · obtain ⟨g1, g2, g3⟩ := hrest id r h1 h2 h3
      exact holds_keep (h.heap.holds id r h3) b.ext g1 (by rw [h2]; simp) g3
  · rcases hsplit id r hr with h1 | ⟨h1, h2, h3⟩ <;> rcases hsplit id' r' hr' with h4 | ⟨h4, h5, h6⟩
    · exact b.heap.dj id id' r r' h1 h4 hne k hk
    · obtain ⟨g1, g2, g3⟩ := hrest id' r' h4 h5 h6
      rw [g2]
      intro hk'
      rcases b.own k ⟨id, r, h1, hk⟩ with h7 | h7
      · exact g3 k hk' h7
      · have := holds_lt (h.heap.holds id' r' h6) k hk'; omega
    · obtain ⟨g1, g2, g3⟩ := hrest id r h1 h2 h3
      rw [g2] at hk
      intro hk'
      rcases b.own k ⟨id', r', h4, hk'⟩ with h7 | h7
      · exact g3 k hk h7
      · have := holds_lt (h.heap.holds id r h3) k hk; omega
    · rw [(hrest id r h1 h2 h3).2.1] at hk
      rw [(hrest id' r' h4 h5 h6).2.1]
      exact h.heap.dj id id' r r' h3 h6 hne k hk
  · rcases b.new id hi with h1 | h1
    · exact .inl (h.al id h1)
    · exact .inr h1
  · exact h.ext.trans b.ext hown (fun _ _ => .inl trivial)
  · rcases hsplit id r hr with h1 | ⟨h1, h2, h3⟩
    · rcases b.own k ⟨id, r, h1, hk⟩ with h4 | h4
      · exact hown k h4
      · exact .inr (Nat.le_trans h.ext.size h4)
    · rw [(hrest id r h1 h2 h3).2.1] at hk
      exact h.own id r k h3 hk

/-- One operation of a region, of a state. -/
/- Operations that read alone. -/
def roOp (o : Oper) : Bool := match o.op with
  | .load _ _ => true
  | .indexAddr _ _ _ => true
  | .call c => match c.callee with | .builtin .len => true | _ => false
  | _ => false
structure Step (P : Program) (ops : Array Oper) (o : Oper) (n : Nat) (S : St) (c : Cert) : Prop where
  snd : Sound P ops o n c
  rd : ∀ p ∈ c.rd, p.2 = .any ∨ get S.T p.1 = some p.2
  pre : ∀ id r, get c.pre id = some r → hget S.H id = some r
  dst : ∀ d, o.dst = some d → d < S.sz
  ro : roOp o = true → c.post = c.pre

inductive Exec (P : Program) (ops : Array Oper) (N : Nat) : Nat → List Oper → St → List Cert → St → Prop
  | nil (k : Nat) (S : St) : Exec P ops N k [] S [] S
  | cons {k : Nat} {o : Oper} {rest : List Oper} {S S' : St} {c : Cert} {cs : List Cert} (h : Step P ops o (N + 8 * k) S c) (r : Exec P ops N (k + 1) rest (S.upd o.dst c) cs S') : Exec P ops N k (o :: rest) S (c :: cs) S'

theorem Exec.sz {P : Program} {ops : Array Oper} {N k : Nat} {l : List Oper} {S S' : St} {cs : List Cert} (h : Exec P ops N k l S cs S') : S'.sz = S.sz := by
  induction h with
  | nil => rfl
  | cons _ _ ih => exact ih

theorem drop_head {α : Type _} {l r : List α} {k : Nat} {x : α} (h : l.drop k = x :: r) : l[k]? = some x ∧ l.drop (k + 1) = r := by
  have h1 : (l.drop k)[0]? = some x := by rw [h]; rfl
  refine ⟨by simpa using h1, ?_⟩
  have h2 : (l.drop k).drop 1 = r := by rw [h]; rfl
  simpa [List.drop_drop] using h2

theorem exec_sound {P : Program} {ops : Array Oper} {Q : Exit → Act → World → Prop} {N k : Nat} {l : List Oper} {S S' : St} {cs : List Cert} {E : Entry} (h : Exec P ops N k l S cs S') :
    ops.toList.drop k = l → ∀ (g : Gh) (a : Act) (w : World), AtG E g (get S.T) (hget S.H) (fun id => id < N + 8 * k) S.sz a w →
      (∀ g' a' w', AtG E g' (get S'.T) (hget S'.H) (fun id => id < N + 8 * (k + l.length)) S'.sz a' w' → Q .normal a' w') → wpOps P ops Q (List.range' k l.length) a w := by
  induction h with
  | nil k S => intro _ g a w hA hQ; simpa [wpOps] using hQ g a w (by simpa using hA)
  | @cons k o rest S S' c cs hst hr ih =>
    intro hl g a w hA hQ
    obtain ⟨ho, hrest⟩ := drop_head hl
    have ho' : ops[k]? = some o := by simpa using ho
    rw [List.length_cons, List.range'_succ, wpOps_cons]
    have : wpOp P ops Q k (wpOps P ops Q (List.range' (k + 1) rest.length)) a w = stepWp P ops Q o (wpOps P ops Q (List.range' (k + 1) rest.length)) a w := by
      unfold wpOp stepWp; rw [ho']
    rw [this]
    refine hA.step hst.snd hst.rd hst.pre hst.dst (fun id h1 h2 h3 => by omega) (fun g' w' v hA' => ?_)
    refine ih hrest g' _ w' ?_ ?_
    · rw [get_upd, show (S.upd o.dst c).H = updH c S.H from rfl, hget_upd]
      exact hA'.imp (fun _ _ h => h) (fun _ _ h => h) (fun id hi => by omega)
    · intro g'' a'' w'' hA''
      exact hQ g'' a'' w'' (by rw [show k + (o :: rest).length = k + 1 + rest.length by simp; omega]; exact hA'')

/-! Any order. -/
def tL (L : Nat → Bool) : Nat → List (Option Nat × Cert) → (Nat → Option AV) → Nat → Option AV
  | _, [], T => T
  | k, (d, c) :: r, T => tL L (k + 1) r (if L k then setT d c.out T else T)
def hL (L : Nat → Bool) : Nat → List (Option Nat × Cert) → (Nat → Option R) → Nat → Option R
  | _, [], H => H
  | k, (_, c) :: r, H => hL L (k + 1) r (if L k then setH c H else H)

theorem tL_congr (L L' : Nat → Bool) (t : Nat) : ∀ (ds : List (Option Nat × Cert)) (k : Nat) (T T' : Nat → Option AV), T t = T' t → (∀ i d c, ds[i]? = some (d, c) → d = some t → L (k + i) = L' (k + i)) → tL L k ds T t = tL L' k ds T' t
  | [], k, T, T', h, _ => h
  | (d, c) :: r, k, T, T', h, hl => by
    refine tL_congr L L' t r (k + 1) _ _ ?_ (fun i d' c' hi hd => by have := hl (i + 1) d' c' (by simpa using hi) hd; rwa [show k + (i + 1) = k + 1 + i by omega] at this)
    by_cases hd : d = some t
    · have := hl 0 d c rfl hd
      simp only [Nat.add_zero] at this
      rw [this]
      by_cases hb : L' k = true
      · rw [if_pos hb, if_pos hb]; simp [setT, hd]
      · rw [if_neg hb, if_neg hb]; exact h
    · have h1 : ∀ (b : Bool) (X : Nat → Option AV), (if b = true then setT d c.out X else X) t = X t := fun b X => by
        cases b
        · rfl
        · simp [setT, hd]
      rw [h1, h1]; exact h
theorem tL_last (L : Nat → Bool) (t : Nat) : ∀ (ds : List (Option Nat × Cert)) (k : Nat) (T : Nat → Option AV) (j : Nat) (c : Cert), ds[j]? = some (some t, c) → L (k + j) = true →
    (∀ i d' c', j < i → ds[i]? = some (d', c') → d' = some t → L (k + i) = false) → tL L k ds T t = some c.out
  | [], _, _, j, _, h, _, _ => by simp at h
  | (d, c0) :: r, k, T, 0, c, h, hL', hn => by
    simp only [List.getElem?_cons_zero, Option.some.injEq, Prod.mk.injEq] at h
    obtain ⟨rfl, rfl⟩ := h
    simp only [tL]
    rw [Nat.add_zero] at hL'
    rw [tL_congr L (fun _ => false) t r (k + 1) _ (fun _ => some c0.out) (by simp [hL', setT]) (fun i d' c' hi hd => by have := hn (i + 1) d' c' (by omega) (by simpa using hi) hd; rwa [show k + (i + 1) = k + 1 + i by omega] at this)]
    have : ∀ (r : List (Option Nat × Cert)) (k : Nat) (T : Nat → Option AV), tL (fun _ => false) k r T = T := by
      intro r; induction r with
      | nil => intros; rfl
      | cons x r ih => intro k T; obtain ⟨d, c⟩ := x; simp [tL, ih]
    rw [this]
  | (d, c0) :: r, k, T, j + 1, c, h, hL', hn => by
    simp only [tL]
    exact tL_last L t r (k + 1) _ j c (by simpa using h) (by rwa [show k + 1 + j = k + (j + 1) by omega]) (fun i d' c' hi h1 hd => by have := hn (i + 1) d' c' (by omega) (by simpa using h1) hd; rwa [show k + (i + 1) = k + 1 + i by omega] at this)

def idsOf (c : Cert) : List Nat := c.pre.map (·.1) ++ c.post.map (·.1)
theorem setH_out {c : Cert} {id : Nat} (h : id ∉ idsOf c) (H : Nat → Option R) : setH c H id = H id := by
  have h1 : get c.post id = none := by
    cases hx : get c.post id with
    | none => rfl
    | some r => exact absurd (List.mem_append_right _ (List.mem_map.2 ⟨_, get_mem _ _ _ hx, rfl⟩)) h
  have h2 : get c.pre id = none := by
    cases hx : get c.pre id with
    | none => rfl
    | some r => exact absurd (List.mem_append_left _ (List.mem_map.2 ⟨_, get_mem _ _ _ hx, rfl⟩)) h
  simp [setH, h1, h2]
theorem setH_congr (c : Cert) {H H' : Nat → Option R} {id : Nat} (h : H id = H' id) : setH c H id = setH c H' id := by
  unfold setH; rw [h]
theorem get_isSome {α : Type _} : ∀ (l : List (Nat × α)) (i : Nat), i ∈ l.map (·.1) → (get l i).isSome = true
  | (k, v) :: l, i, h => by
    rw [get_cons]
    by_cases hk : k = i
    · simp [hk]
    · rw [if_neg hk]
      refine get_isSome l i ?_
      simp only [List.map_cons, List.mem_cons] at h
      rcases h with h | h
      · exact absurd h.symm hk
      · exact h
theorem setH_in {c : Cert} {id : Nat} (h : id ∈ idsOf c) (H H' : Nat → Option R) : setH c H id = setH c H' id := by
  unfold setH
  cases h1 : get c.post id with
  | some r => rfl
  | none =>
    rcases List.mem_append.1 h with h2 | h2
    · simp [get_isSome _ _ h2]
    · have := get_isSome _ _ h2; rw [h1] at this; simp at this
theorem hL_congr (L L' : Nat → Bool) (t : Nat) : ∀ (ds : List (Option Nat × Cert)) (k : Nat) (H H' : Nat → Option R), H t = H' t → (∀ i d c, ds[i]? = some (d, c) → t ∈ idsOf c → L (k + i) = L' (k + i)) → hL L k ds H t = hL L' k ds H' t
  | [], k, T, T', h, _ => h
  | (d, c) :: r, k, T, T', h, hl => by
    refine hL_congr L L' t r (k + 1) _ _ ?_ (fun i d' c' hi hd => by have := hl (i + 1) d' c' (by simpa using hi) hd; rwa [show k + (i + 1) = k + 1 + i by omega] at this)
    by_cases hd : t ∈ idsOf c
    · have := hl 0 d c rfl hd
      simp only [Nat.add_zero] at this
      rw [this]
      by_cases hb : L' k = true
      · rw [if_pos hb, if_pos hb]; exact setH_congr c h
      · rw [if_neg hb, if_neg hb]; exact h
    · have h1 : ∀ (b : Bool) (X : Nat → Option R), (if b = true then setH c X else X) t = X t := fun b X => by
        cases b
        · rfl
        · exact setH_out hd X
      rw [h1, h1]; exact h
/-- The last one that touches it. -/
theorem hL_last (L : Nat → Bool) (t : Nat) : ∀ (ds : List (Option Nat × Cert)) (k : Nat) (H H' : Nat → Option R) (j : Nat) (d : Option Nat) (c : Cert), ds[j]? = some (d, c) → t ∈ idsOf c → L (k + j) = true →
    (∀ i d' c', j < i → ds[i]? = some (d', c') → t ∈ idsOf c' → L (k + i) = false) → hL L k ds H t = setH c H' t
  | [], _, _, _, j, _, _, h, _, _, _ => by simp at h
  | (d0, c0) :: r, k, H, H', 0, d, c, h, ht, hL', hn => by
    simp only [List.getElem?_cons_zero, Option.some.injEq, Prod.mk.injEq] at h
    obtain ⟨rfl, rfl⟩ := h
    simp only [hL]
    rw [Nat.add_zero] at hL'
    rw [hL_congr L (fun _ => false) t r (k + 1) _ (setH c0 H') (by rw [if_pos hL']; exact setH_in ht _ _) (fun i d' c' hi hd => by have := hn (i + 1) d' c' (by omega) (by simpa using hi) hd; rwa [show k + (i + 1) = k + 1 + i by omega] at this)]
    have : ∀ (r : List (Option Nat × Cert)) (k : Nat) (T : Nat → Option R), hL (fun _ => false) k r T = T := by
      intro r; induction r with
      | nil => intros; rfl
      | cons x r ih => intro k T; obtain ⟨d, c⟩ := x; simp [hL, ih]
    rw [this]
  | (d0, c0) :: r, k, H, H', j + 1, d, c, h, ht, hL', hn => by
    simp only [hL]
    exact hL_last L t r (k + 1) _ H' j d c (by simpa using h) ht (by rwa [show k + 1 + j = k + (j + 1) by omega]) (fun i d' c' hi h1 hd => by have := hn (i + 1) d' c' (by omega) (by simpa using h1) hd; rwa [show k + (i + 1) = k + 1 + i by omega] at this)

theorem tL_none (L : Nat → Bool) : ∀ (r : List (Option Nat × Cert)) (k : Nat) (T : Nat → Option AV), (∀ i, k ≤ i → L i = false) → tL L k r T = T
  | [], _, _, _ => rfl
  | (d, c) :: r, k, T, h => by simp only [tL, h k (Nat.le_refl _)]; exact tL_none L r (k + 1) T (fun i hi => h i (by omega))
theorem hL_none (L : Nat → Bool) : ∀ (r : List (Option Nat × Cert)) (k : Nat) (T : Nat → Option R), (∀ i, k ≤ i → L i = false) → hL L k r T = T
  | [], _, _, _ => rfl
  | (d, c) :: r, k, T, h => by simp only [hL, h k (Nat.le_refl _)]; exact hL_none L r (k + 1) T (fun i hi => h i (by omega))

def dsOf : List Oper → List Cert → List (Option Nat × Cert)
  | o :: l, c :: cs => (o.dst, c) :: dsOf l cs
  | _, _ => []

def neut (c : Cert) : Cert := { c with pre := [], post := [] }
def dsH : List Oper → List Cert → List (Option Nat × Cert)
  | o :: l, c :: cs => (o.dst, if roOp o = true then neut c else c) :: dsH l cs
  | _, _ => []
theorem setH_neut (c : Cert) (H : Nat → Option R) : setH (neut c) H = H := by funext id; simp [setH, neut, get]
theorem setH_same {c : Cert} {H : Nat → Option R} (hpp : c.post = c.pre) (hpre : ∀ id r, get c.pre id = some r → H id = some r) : setH c H = H := by
  funext id
  unfold setH
  rw [hpp]
  cases h : get c.pre id with
  | none => simp
  | some r => simp [hpre id r h]
theorem dsH_at : ∀ (l : List Oper) (cs : List Cert) (j : Nat) (d : Option Nat) (c : Cert), (dsOf l cs)[j]? = some (d, c) → ∃ o, l[j]? = some o ∧ (dsH l cs)[j]? = some (d, if roOp o = true then neut c else c)
  | [], _, j, d, c, h => by simp [dsOf] at h
  | _ :: _, [], j, d, c, h => by simp [dsOf] at h
  | o :: l, c0 :: cs, 0, d, c, h => by
    simp only [dsOf, List.getElem?_cons_zero, Option.some.injEq, Prod.mk.injEq] at h
    obtain ⟨rfl, rfl⟩ := h
    exact ⟨o, rfl, rfl⟩
  | o :: l, c0 :: cs, j + 1, d, c, h => by
    obtain ⟨o', h1, h2⟩ := dsH_at l cs j d c (by simpa [dsOf] using h)
    exact ⟨o', by simpa using h1, by simpa [dsH] using h2⟩
theorem dsH_of : ∀ (l : List Oper) (cs : List Cert) (j : Nat) (d : Option Nat) (c : Cert), (dsH l cs)[j]? = some (d, c) → ∃ o c0, l[j]? = some o ∧ (dsOf l cs)[j]? = some (d, c0) ∧ c = if roOp o = true then neut c0 else c0
  | [], _, j, d, c, h => by simp [dsH] at h
  | _ :: _, [], j, d, c, h => by simp [dsH] at h
  | o :: l, c0 :: cs, 0, d, c, h => by
    simp only [dsH, List.getElem?_cons_zero, Option.some.injEq, Prod.mk.injEq] at h
    obtain ⟨rfl, rfl⟩ := h
    exact ⟨o, c0, rfl, rfl, rfl⟩
  | o :: l, c0 :: cs, j + 1, d, c, h => by
    obtain ⟨o', c1, h1, h2, h3⟩ := dsH_of l cs j d c (by simpa [dsH] using h)
    exact ⟨o', c1, by simpa using h1, by simpa [dsOf] using h2, h3⟩

/-- The state at each operation, and the last one. -/
theorem exec_at {P : Program} {ops : Array Oper} {N k : Nat} {l : List Oper} {S S' : St} {cs : List Cert} (h : Exec P ops N k l S cs S') :
    (get S'.T = tL (fun _ => true) k (dsOf l cs) (get S.T) ∧ hget S'.H = hL (fun _ => true) k (dsH l cs) (hget S.H)) ∧
    ∀ j o, l[j]? = some o → ∃ Sj c, (dsOf l cs)[j]? = some (o.dst, c) ∧ Step P ops o (N + 8 * (k + j)) Sj c ∧ Sj.sz = S.sz ∧ get Sj.T = tL (fun i => decide (i < k + j)) k (dsOf l cs) (get S.T) ∧ hget Sj.H = hL (fun i => decide (i < k + j)) k (dsH l cs) (hget S.H) := by
  induction h with
  | nil k S => exact ⟨⟨rfl, rfl⟩, fun j o hj => by simp at hj⟩
  | @cons k o rest S S' c cs hst hr ih =>
    obtain ⟨⟨h1, h2⟩, h3⟩ := ih
    have e : (S.upd o.dst c).H = updH c S.H := rfl
    have eH : setH c (hget S.H) = setH (if roOp o = true then neut c else c) (hget S.H) := by
      by_cases hro : roOp o = true
      · rw [if_pos hro, setH_neut]; exact setH_same (hst.ro hro) hst.pre
      · rw [if_neg hro]
    rw [get_upd] at h1
    rw [e, hget_upd, eH] at h2
    refine ⟨⟨by rw [h1]; simp [dsOf, tL], by rw [h2]; simp [dsH, hL]⟩, fun j o' hj => ?_⟩
    cases j with
    | zero =>
      simp only [List.getElem?_cons_zero, Option.some.injEq] at hj
      subst hj
      refine ⟨S, c, rfl, hst, rfl, ?_, ?_⟩
      · rw [tL_none _ _ _ _ (fun i hi => by simp; omega)]
      · rw [hL_none _ _ _ _ (fun i hi => by simp; omega)]
    | succ j =>
      obtain ⟨Sj, c', g1, g2, g3, g4, g5⟩ := h3 j o' (by simpa using hj)
      refine ⟨Sj, c', by simpa [dsOf] using g1, by rw [show k + (j + 1) = k + 1 + j by omega]; exact g2, g3, ?_, ?_⟩
      · have hk : decide (k < k + 1 + j) = true := by simp; omega
        rw [g4, get_upd]
        simp only [dsOf, tL, show k + (j + 1) = k + 1 + j by omega, hk, if_true]
      · have hk : decide (k < k + 1 + j) = true := by simp; omega
        rw [g5, e, hget_upd, eH]
        simp only [dsH, hL, show k + (j + 1) = k + 1 + j by omega, hk, if_true]

/-- Which operations come surely ahead, as bits. -/
def maskGo (acc : List Nat) : List Edge → Nat → Nat
  | [], s => s
  | e :: l, s => maskGo acc l (if Region.binds .any e = true then s ||| (2 ^ e.on ||| acc.getD e.on 0) else s)
def masks : List Oper → List Nat → List Nat
  | [], acc => acc
  | o :: r, acc => masks r (acc ++ [maskGo acc o.after.toList 0])

/-- Down: what comes ahead of what is listed is listed. -/
def Down (ops : List Oper) (L : Nat → Bool) : Prop := ∀ j o, ops[j]? = some o → L j = true → ∀ e ∈ o.after, Region.binds .any e = true → L e.on = true

theorem maskGo_bit (acc : List Nat) (i : Nat) : ∀ (l : List Edge) (s : Nat), (maskGo acc l s).testBit i = true → s.testBit i = true ∨ ∃ e ∈ l, Region.binds .any e = true ∧ (e.on = i ∨ (acc.getD e.on 0).testBit i = true)
  | [], s, h => .inl h
  | e :: l, s, h => by
    rcases maskGo_bit acc i l _ h with h1 | ⟨e', h1, h2, h3⟩
    · by_cases hb : Region.binds .any e = true
      · rw [if_pos hb] at h1
        simp only [Nat.testBit_or, Nat.testBit_two_pow, Bool.or_eq_true, decide_eq_true_eq] at h1
        rcases h1 with h1 | h1 | h1
        · exact .inl h1
        · exact .inr ⟨e, by simp, hb, .inl h1⟩
        · exact .inr ⟨e, by simp, hb, .inr h1⟩
      · rw [if_neg hb] at h1; exact .inl h1
    · exact .inr ⟨e', by simp [h1], h2, h3⟩
def MaskOk (ops : List Oper) (acc : List Nat) : Prop := ∀ j i, (acc.getD j 0).testBit i = true → ∃ o, ops[j]? = some o ∧ ∀ L, Down ops L → (∀ e ∈ o.after, Region.binds .any e = true → L e.on = true) → L i = true
theorem masks_ok (ops : List Oper) : ∀ (r : List Oper) (acc : List Nat), ops.drop acc.length = r → MaskOk ops acc → MaskOk ops (masks r acc)
  | [], acc, _, h => h
  | o :: r, acc, hr, h => by
    obtain ⟨ho, hr'⟩ := drop_head hr
    refine masks_ok ops r _ (by simpa using hr') (fun j i hb => ?_)
    by_cases hj : j < acc.length
    · refine h j i ?_
      rw [List.getD_eq_getElem?_getD, List.getElem?_append_left hj, ← List.getD_eq_getElem?_getD] at hb
      exact hb
    · by_cases hj2 : j = acc.length
      · subst hj2
        rw [List.getD_eq_getElem?_getD, List.getElem?_append_right (Nat.le_refl _)] at hb
        simp only [Nat.sub_self, List.getElem?_cons_zero, Option.getD_some] at hb
        refine ⟨o, ho, fun L hD hL => ?_⟩
        rcases maskGo_bit acc i _ _ hb with h1 | ⟨e, h1, h2, h3⟩
        · simp at h1
        · have hon := hL e (Array.mem_toList_iff.1 h1) h2
          rcases h3 with rfl | h3
          · exact hon
          · obtain ⟨o', ho', h4⟩ := h e.on i h3
            exact h4 L hD (hD e.on o' ho' hon)
      · rw [List.getD_eq_getElem?_getD, List.getElem?_eq_none (by simp; omega)] at hb
        simp at hb

def hitsT (d : Option Nat) (l : List Nat) : Bool := match d with | some x => l.any (fun y => Nat.beq x y) | none => false
def confl (b : Bool) (x y : Option Nat × Cert) : Bool :=
  hitsT x.1 (y.2.rd.map (·.1)) || hitsT y.1 (x.2.rd.map (·.1)) || hitsT x.1 y.1.toList || (!b && (idsOf x.2).any (fun a => (idsOf y.2).any fun b => Nat.beq a b))
def roAt (ops : List Oper) (i : Nat) : Bool := match ops[i]? with | some o => roOp o | none => false
def okPairs (ops : List Oper) (ds : List (Option Nat × Cert)) (ms : List Nat) : Bool :=
  (List.range ds.length).all fun j => (List.range j).all fun i => !(match ds[i]?, ds[j]? with | some x, some y => confl (roAt ops i && roAt ops j) x y | _, _ => false) || (ms.getD j 0).testBit i
def okEdges (ops : List Oper) : Bool := (List.range ops.length).all fun j => match ops[j]? with | some o => o.after.toList.all (fun e => !Region.binds .any e || Nat.ble (e.on + 1) j) | none => true
/-- Conflicts are in order. -/
def okDraw (ops : List Oper) (cs : List Cert) : Bool := okPairs ops (dsOf ops cs) (masks ops []) && okEdges ops

theorem okPairs_spec {ops : List Oper} {ds : List (Option Nat × Cert)} {ms : List Nat} (h : okPairs ops ds ms = true) {i j : Nat} {x y : Option Nat × Cert} (hij : i < j) (hx : ds[i]? = some x) (hy : ds[j]? = some y) (hc : confl (roAt ops i && roAt ops j) x y = true) : (ms.getD j 0).testBit i = true := by
  unfold okPairs at h
  rw [List.all_eq_true] at h
  have h1 := h j (List.mem_range.2 (List.getElem?_eq_some_iff.1 hy).1)
  rw [List.all_eq_true] at h1
  have h2 := h1 i (List.mem_range.2 hij)
  simp only [hx, hy, hc, Bool.not_true, Bool.false_or] at h2
  exact h2
theorem hits_dst_rd (b : Bool) {x y : Option Nat × Cert} {t : Nat} (hx : x.1 = some t) (hy : t ∈ y.2.rd.map (·.1)) : confl b x y = true := by
  unfold confl hitsT
  rw [hx]
  simp only [Bool.or_eq_true]
  exact .inl (.inl (.inl (List.any_eq_true.2 ⟨t, hy, by simp⟩)))
theorem hits_rd_dst (b : Bool) {x y : Option Nat × Cert} {t : Nat} (hx : x.1 = some t) (hy : t ∈ y.2.rd.map (·.1)) : confl b y x = true := by
  unfold confl
  simp only [Bool.or_eq_true]
  refine .inl (.inl (.inr ?_))
  unfold hitsT
  rw [hx]
  exact List.any_eq_true.2 ⟨t, hy, by simp⟩
theorem hits_dst_dst (b : Bool) {x y : Option Nat × Cert} {t : Nat} (hx : x.1 = some t) (hy : y.1 = some t) : confl b x y = true := by
  unfold confl hitsT
  rw [hx, hy]
  simp
theorem hits_ids {b : Bool} (hb : b = false) {x y : Option Nat × Cert} {t : Nat} (hx : t ∈ idsOf x.2) (hy : t ∈ idsOf y.2) : confl b x y = true := by
  unfold confl
  simp only [Bool.or_eq_true]
  subst hb
  exact .inr (by simp only [Bool.not_false, Bool.true_and]; exact List.any_eq_true.2 ⟨t, hx, List.any_eq_true.2 ⟨t, hy, by simp⟩⟩)

theorem dsOf_length {P : Program} {ops : Array Oper} {N k : Nat} {l : List Oper} {S S' : St} {cs : List Cert} (h : Exec P ops N k l S cs S') : (dsOf l cs).length = l.length := by
  induction h with
  | nil => rfl
  | cons _ _ ih => simp [dsOf, ih]

theorem mem_ready' {ops : Array Oper} {listed : Array Bool} {j : Nat} (h : j ∈ Region.ready .any ops listed) :
    listed.getD j true = false ∧ ∃ o, ops[j]? = some o ∧ ∀ e ∈ o.after, Region.binds .any e = true → listed.getD e.on false = true := mem_ready.1 h

theorem any_sound {P : Program} {ops : Array Oper} {Q : Exit → Act → World → Prop} {N : Nat} {S S' : St} {cs : List Cert} {E : Entry} (h : Exec P ops N 0 ops.toList S cs S') (hok : okDraw ops.toList cs = true)
    (hQ : ∀ g' a' w', AtG E g' (get S'.T) (hget S'.H) (fun id => id < N + 8 * ops.size) S'.sz a' w' → Q .normal a' w') :
    ∀ (fuel : Nat) (listed : Array Bool) (g : Gh) (a : Act) (w : World), listed.size = ops.size → (listed.toList.filter (fun b => !b)).length = fuel → Down ops.toList (fun i => listed.getD i false) →
      AtG E g (tL (fun i => listed.getD i false) 0 (dsOf ops.toList cs) (get S.T)) (hL (fun i => listed.getD i false) 0 (dsH ops.toList cs) (hget S.H)) (fun id => id < N ∨ ∃ j, listed.getD j false = true ∧ N + 8 * j ≤ id ∧ id < N + 8 * j + 8) S.sz a w →
      wpAny P .any ops Q fuel listed a w := by
  obtain ⟨⟨hfT, hfH⟩, hat⟩ := exec_at h
  have hlen := dsOf_length h
  simp only [okDraw, Bool.and_eq_true] at hok
  obtain ⟨hp, he⟩ := hok
  have hmask := masks_ok ops.toList ops.toList [] rfl (fun j i hb => by simp at hb)
  -- what is listed comes with what is surely ahead
  have hahead : ∀ (L : Nat → Bool), Down ops.toList L → ∀ i j x y, i < j → (dsOf ops.toList cs)[i]? = some x → (dsOf ops.toList cs)[j]? = some y → confl (roAt ops.toList i && roAt ops.toList j) x y = true →
      (∀ o, ops.toList[j]? = some o → ∀ e ∈ o.after, Region.binds .any e = true → L e.on = true) → L i = true := by
    intro L hD i j x y hij hx hy hc hL
    obtain ⟨o, ho, h1⟩ := hmask j i (okPairs_spec hp hij hx hy hc)
    exact h1 L hD (hL o ho)
  -- all are listed
  have hall : ∀ (listed : Array Bool) (g : Gh) (a : Act) (w : World), listed.size = ops.size → (∀ j, j < ops.size → listed.getD j false = true) →
      AtG E g (tL (fun i => listed.getD i false) 0 (dsOf ops.toList cs) (get S.T)) (hL (fun i => listed.getD i false) 0 (dsH ops.toList cs) (hget S.H)) (fun id => id < N ∨ ∃ j, listed.getD j false = true ∧ N + 8 * j ≤ id ∧ id < N + 8 * j + 8) S.sz a w → Q .normal a w := by
    intro listed g a w hls hl hA
    refine hQ g a w ?_
    rw [hfT, hfH, h.sz]
    refine hA.imp (fun t av ht => ?_) (fun id r hr => ?_) (fun id hi => ?_)
    · rw [← ht]
      refine tL_congr _ _ t _ 0 _ _ rfl (fun i d c hi _ => ?_)
      rw [Nat.zero_add]
      exact hl i (by have := (List.getElem?_eq_some_iff.1 hi).1; rw [hlen] at this; simpa using this)
    · rw [← hr]
      refine hL_congr _ _ id _ 0 _ _ rfl (fun i d c hi _ => ?_)
      rw [Nat.zero_add]
      obtain ⟨o', _, ho', _⟩ := dsH_of _ _ _ _ _ hi
      exact hl i (by have := (List.getElem?_eq_some_iff.1 ho').1; simpa using this)
    · rcases hi with hi | ⟨j, h1, h2, h3⟩
      · omega
      · have hj : j < ops.size := by
          rcases Nat.lt_or_ge j listed.size with h4 | h4
          · omega
          · simp [Array.getD, Nat.not_lt.2 h4] at h1
        omega
  intro fuel
  induction fuel with
  | zero =>
    intro listed g a w hls hf hD hA
    have hl : ∀ j, j < ops.size → listed.getD j false = true := fun j hj => by
      have h1 : listed.toList.filter (fun b => !b) = [] := List.eq_nil_of_length_eq_zero hf
      rw [List.filter_eq_nil_iff] at h1
      have hj' : j < listed.size := by omega
      have := h1 listed[j] (by simp)
      simp only [Array.getD, hj', dif_pos]
      simpa using this
    refine ⟨?_, hall listed g a w hls hl hA⟩
    refine List.eq_nil_iff_forall_not_mem.2 (fun j hj => ?_)
    obtain ⟨h1, o, ho, _⟩ := mem_ready' hj
    have hj' : j < ops.size := (Array.getElem?_eq_some_iff.1 ho).1
    have h2 := hl j hj'
    have hj2 : j < listed.size := by omega
    simp only [Array.getD, hj2, dif_pos] at h1 h2
    rw [h1] at h2; cases h2
  | succ fuel ih =>
    intro listed g a w hls hf hD hA
    refine ⟨fun hr => ?_, fun i hi => ?_⟩
    · -- one is ready
      exfalso
      have hex : ∃ j, j < ops.size ∧ listed.getD j false = false := by
        cases hfl : listed.toList.filter (fun b => !b) with
        | nil => rw [hfl] at hf; cases hf
        | cons b r =>
          have hb : b ∈ listed.toList.filter (fun b => !b) := by rw [hfl]; simp
          obtain ⟨h1, h2⟩ := List.mem_filter.1 hb
          obtain ⟨j, hj, hjb⟩ := List.mem_iff_getElem.1 h1
          have hj' : j < listed.size := by simpa using hj
          refine ⟨j, by omega, ?_⟩
          simp only [Array.getD, hj', dif_pos]
          simp only [Array.getElem_toList] at hjb
          show listed[j] = false
          rw [hjb]; simpa using h2
      have hmin : ∃ j, j < ops.size ∧ listed.getD j false = false ∧ ∀ i, i < j → listed.getD i false = true := by
        obtain ⟨j, hj, hjl⟩ := hex
        induction j using Nat.strongRecOn with
        | _ j ihj =>
          by_cases hall' : ∀ i, i < j → listed.getD i false = true
          · exact ⟨j, hj, hjl, hall'⟩
          · have ⟨i, hi⟩ := Classical.not_forall.1 hall'
            have ⟨hi1, hi2⟩ := Classical.not_imp.1 hi
            exact ihj i hi1 (by omega) (by simpa using hi2)
      obtain ⟨j, hj, hjl, hjm⟩ := hmin
      have hjr : j ∈ Region.ready .any ops listed := by
        rw [mem_ready]
        have hjs : j < listed.size := by omega
        refine ⟨by simp only [Array.getD, hjs, dif_pos] at hjl ⊢; exact hjl, ops[j], by simp [hj], fun e hee hb => hjm e.on ?_⟩
        unfold okEdges at he
        rw [List.all_eq_true] at he
        have h1 := he j (List.mem_range.2 (by simpa using hj))
        have h2 : ops.toList[j]? = some ops[j] := by simp [hj]
        rw [h2] at h1
        simp only [List.all_eq_true] at h1
        have h3 := h1 e (by simpa using hee)
        simp only [hb, Bool.not_true, Bool.false_or] at h3
        exact Nat.le_of_ble_eq_true h3
      rw [hr] at hjr; cases hjr
    · obtain ⟨hil, o, ho, hedge⟩ := mem_ready' hi
      have hio : ops.toList[i]? = some o := by simpa using ho
      have hisz : i < ops.size := (Array.getElem?_eq_some_iff.1 ho).1
      have hil' : listed.getD i false = false := by
        have h1 : i < listed.size := by omega
        simp only [Array.getD, h1, dif_pos] at hil ⊢; exact hil
      obtain ⟨Si, c, g1, g2, g3, g4, g5⟩ := hat i o hio
      have hset : ∀ j, (listed.setIfInBounds i true).getD j false = if j = i then true else listed.getD j false := fun j => by
        rw [Array.getD_eq_getD_getElem?, Array.getD_eq_getD_getElem?, Array.getElem?_setIfInBounds]
        by_cases hji : i = j
        · subst hji; simp [show i < listed.size by omega]
        · rw [if_neg hji, if_neg (Ne.symm hji)]
      have hstep : wpOp P ops Q i (wpAny P .any ops Q fuel (listed.setIfInBounds i true)) a w = stepWp P ops Q o (wpAny P .any ops Q fuel (listed.setIfInBounds i true)) a w := by
        unfold wpOp stepWp; rw [ho]
      rw [hstep]
      -- who writes, or touches, what it reads
      have hsame : ∀ (k : Nat) (d' : Option Nat) (c' : Cert), (dsOf ops.toList cs)[k]? = some (d', c') → (∀ b x y, (b = (roAt ops.toList k && roAt ops.toList i) ∨ b = (roAt ops.toList i && roAt ops.toList k)) → (x = (d', c') ∧ y = (o.dst, c)) ∨ (x = (o.dst, c) ∧ y = (d', c')) → confl b x y = true) → k ≠ i → listed.getD k false = decide (k < 0 + i) := by
        intro k d' c' hk hc hki
        rw [Nat.zero_add]
        rcases Nat.lt_or_ge k i with hlt | hge
        · have h1 := hahead (fun i => listed.getD i false) hD k i (d', c') (o.dst, c) hlt hk g1 (hc _ _ _ (.inl rfl) (.inl ⟨rfl, rfl⟩)) (fun o' ho' e he hb => by rw [hio] at ho'; injection ho' with ho'; subst ho'; exact hedge e he hb)
          rw [h1]; simp [hlt]
        · have hlt : i < k := by omega
          cases hb : listed.getD k false with
          | false => simp; omega
          | true =>
            exfalso
            have h1 := hahead (fun i => listed.getD i false) hD i k (o.dst, c) (d', c') hlt g1 hk (hc _ _ _ (.inr rfl) (.inr ⟨rfl, rfl⟩)) (fun o' ho' e he hb' => hD k o' ho' hb e he hb')
            rw [hil'] at h1; cases h1
      have hselfT : ∀ k, k = i → listed.getD k false = decide (k < 0 + i) := fun k hk => by subst hk; rw [hil']; simp
      have hrd : ∀ p ∈ c.rd, p.2 = .any ∨ tL (fun i => listed.getD i false) 0 (dsOf ops.toList cs) (get S.T) p.1 = some p.2 := by
        intro p hp
        rcases g2.rd p hp with h1 | h1
        · exact .inl h1
        refine .inr ?_
        rw [g4] at h1
        rw [← h1]
        refine tL_congr _ _ p.1 _ 0 _ _ rfl (fun k d' c' hk hd => ?_)
        rw [Nat.zero_add]
        by_cases hki : k = i
        · exact hselfT k hki
        · exact hsame k d' c' hk (fun b x y _ hxy => by
            rcases hxy with ⟨rfl, rfl⟩ | ⟨rfl, rfl⟩
            · exact hits_dst_rd b (x := (d', c')) (y := (o.dst, c)) hd (List.mem_map.2 ⟨p, hp, rfl⟩)
            · exact hits_rd_dst b (x := (d', c')) (y := (o.dst, c)) hd (List.mem_map.2 ⟨p, hp, rfl⟩)) hki
      have hroI : roAt ops.toList i = roOp o := by unfold roAt; rw [hio]
      have hids : ∀ id, id ∈ idsOf c → hL (fun i => listed.getD i false) 0 (dsH ops.toList cs) (hget S.H) id = hget Si.H id := by
        intro id hid
        rw [g5]
        refine hL_congr _ _ id _ 0 _ _ rfl (fun k d' c' hk hd => ?_)
        rw [Nat.zero_add]
        by_cases hki : k = i
        · exact hselfT k hki
        · obtain ⟨ok, c0, hok1, hok2, rfl⟩ := dsH_of _ _ _ _ _ hk
          have hro : ¬ roOp ok = true := fun hro => by rw [if_pos hro] at hd; simp [idsOf, neut] at hd
          rw [if_neg hro] at hd
          have hroK : roAt ops.toList k = false := by unfold roAt; rw [hok1]; simpa using hro
          exact hsame k d' c0 hok2 (fun b x y hb hxy => by
            have hb : b = false := by rcases hb with rfl | rfl <;> simp [hroK]
            rcases hxy with ⟨rfl, rfl⟩ | ⟨rfl, rfl⟩
            · exact hits_ids hb (x := (d', c0)) (y := (o.dst, c)) hd hid
            · exact hits_ids hb (x := (o.dst, c)) (y := (d', c0)) hid hd) hki
      have hpreH : ∀ id r, get c.pre id = some r → hL (fun i => listed.getD i false) 0 (dsH ops.toList cs) (hget S.H) id = some r := fun id r hr => by
        rw [hids id (List.mem_append_left _ (List.mem_map.2 ⟨_, get_mem _ _ _ hr, rfl⟩))]; exact g2.pre id r hr
      refine hA.step (n := N + 8 * (0 + i)) g2.snd hrd hpreH (fun d hd => by rw [← g3]; exact g2.dst d hd) (fun id h1 h2 h3 => ?_) (fun g' w' v hA' => ?_)
      · rcases h3 with h3 | ⟨j, h3, h4, h5⟩
        · omega
        · have : j = i := by omega
          subst this; rw [hil'] at h3; cases h3
      · refine ih (listed.setIfInBounds i true) g' _ w' (by simpa using hls) ?_ ?_ ?_
        · -- one fewer
          have hi' : i < listed.toList.length := by simp; omega
          have e1 : (listed.setIfInBounds i true).toList = listed.toList.set i true := by simp
          rw [e1]
          have key : ∀ (l : List Bool) (i : Nat), l[i]? = some false → (l.filter (fun b => !b)).length = ((l.set i true).filter (fun b => !b)).length + 1 := by
            intro l
            induction l with
            | nil => intro i h; simp at h
            | cons b l ihl =>
              intro i hib
              cases i with
              | zero => simp at hib; subst hib; simp
              | succ i =>
                have := ihl i (by simpa using hib)
                cases b <;> simp [this]
          have hb : listed.toList[i]? = some false := by
            have h1 : i < listed.size := by omega
            simp only [Array.getD, h1, dif_pos] at hil'
            simp only [Array.getElem?_toList, Array.getElem?_eq_getElem h1]
            exact congrArg some hil'
          have := key _ _ hb
          omega
        · intro j o' ho' hj e hee hb
          simp only [hset] at hj ⊢
          by_cases heo : e.on = i
          · simp [heo]
          · rw [if_neg heo]
            by_cases hji : j = i
            · subst hji
              rw [hio] at ho'; injection ho' with ho'; subst ho'
              exact hedge e hee hb
            · rw [if_neg hji] at hj; exact hD j o' ho' hj e hee hb
        · refine hA'.imp (fun t av ht => ?_) (fun id r hr => ?_) (fun id hi => ?_)
          · unfold setT
            by_cases hdt : o.dst = some t
            · rw [if_pos hdt]
              rw [hdt] at g1
              have := tL_last (fun j => (listed.setIfInBounds i true).getD j false) t _ 0 (get S.T) i c g1 (by simp [hset]) (fun k d' c' hik hk hd => by
                simp only [Nat.zero_add, hset, show k ≠ i by omega, if_false]
                have := hsame k d' c' hk (fun b x y _ hxy => by
                  rw [hdt] at hxy
                  rcases hxy with ⟨rfl, rfl⟩ | ⟨rfl, rfl⟩
                  · exact hits_dst_dst b (x := (d', c')) (y := (some t, c)) hd rfl
                  · exact hits_dst_dst b (x := (some t, c)) (y := (d', c')) rfl hd) (by omega)
                rw [this]; simp; omega)
              rw [← ht, this]
            · rw [if_neg hdt, ← ht]
              refine tL_congr _ _ t _ 0 _ _ rfl (fun k d' c' hk hd => ?_)
              simp only [Nat.zero_add, hset]
              by_cases hki : k = i
              · subst hki; rw [g1] at hk; injection hk with hk; injection hk with hk1 hk2; rw [hk1] at hdt; exact absurd hd hdt
              · rw [if_neg hki]
          · obtain ⟨o', ho', hdsi⟩ := dsH_at _ _ _ _ _ g1
            rw [hio] at ho'; injection ho' with ho'; subst ho'
            by_cases hro : roOp o = true
            · rw [if_pos hro] at hdsi
              rw [setH_same (g2.ro hro) hpreH, ← hr]
              refine hL_congr _ _ id _ 0 _ _ rfl (fun k d' c' hk hd => ?_)
              simp only [Nat.zero_add, hset]
              by_cases hki : k = i
              · subst hki; rw [hdsi] at hk; injection hk with hk; injection hk with hk1 hk2; subst hk2; simp [idsOf, neut] at hd
              · rw [if_neg hki]
            · rw [if_neg hro] at hdsi
              by_cases hid : id ∈ idsOf c
              · have := hL_last (fun j => (listed.setIfInBounds i true).getD j false) id _ 0 (hget S.H) (hL (fun i => listed.getD i false) 0 (dsH ops.toList cs) (hget S.H)) i o.dst c hdsi hid (by simp [hset]) (fun k d' c' hik hk hd => by
                  simp only [Nat.zero_add, hset, show k ≠ i by omega, if_false]
                  obtain ⟨ok, c0, hok1, hok2, rfl⟩ := dsH_of _ _ _ _ _ hk
                  have hro2 : ¬ roOp ok = true := fun hro => by rw [if_pos hro] at hd; simp [idsOf, neut] at hd
                  rw [if_neg hro2] at hd
                  have hroK : roAt ops.toList k = false := by unfold roAt; rw [hok1]; simpa using hro2
                  have := hsame k d' c0 hok2 (fun b x y hb hxy => by
                    have hb : b = false := by rcases hb with rfl | rfl <;> simp [hroK]
                    rcases hxy with ⟨rfl, rfl⟩ | ⟨rfl, rfl⟩
                    · exact hits_ids hb (x := (d', c0)) (y := (o.dst, c)) hd hid
                    · exact hits_ids hb (x := (o.dst, c)) (y := (d', c0)) hid hd) (by omega)
                  rw [this]; simp; omega)
                rw [← this]; exact hr
              · rw [setH_out hid, ← hr]
                refine hL_congr _ _ id _ 0 _ _ rfl (fun k d' c' hk hd => ?_)
                simp only [Nat.zero_add, hset]
                by_cases hki : k = i
                · subst hki; rw [hdsi] at hk; injection hk with hk; injection hk with hk1 hk2; subst hk2; exact absurd hd hid
                · rw [if_neg hki]
          · rcases hi with hi | hi
            · rcases hi with hi | ⟨j, h1, h2, h3⟩
              · exact .inl hi
              · exact .inr ⟨j, by rw [hset]; split; rfl; exact h1, h2, h3⟩
            · exact .inr ⟨i, by simp [hset], by omega, by omega⟩
end Go.Proofs.Ytdmpocojbheoiaa.AM
