/- The abstract machine: data without addresses, resources, ghosts; what it is that a world has them. No program is entered here. -/
import Derived.WalkKit
import Derived.Maps.AppendAt
import Derived.Lib.Hide
import Derived.KernelRfl
import Derived.Orders
namespace Go.Proofs.Ytdmpocojbheoiaa.AM
open Go.RowKit

/-- One-cell data that stay: trees, as they stand behind slices. -/
inductive I where
  | v (x : Value)
  | sl (esz : Nat) (rows : List (List I))
instance : Inhabited I := ⟨.v .nilFunc⟩

abbrev GH := Nat → Nat → Option Value

/-- The value x is the datum, by the cells of G. -/
inductive RepI (G : GH) : Value → I → Prop
  | v (x : Value) (h1 : x.oneCell' = true) : RepI G x (.v x)
  | sl (A : Option Addr) (cap esz : Nat) (rows : List (List I)) (u : Nat → Nat → Value)
      (hcap : rows.length ≤ cap) (hl : ∀ r ∈ rows, r.length = esz)
      (hA : 0 < rows.length → ∃ b o, A = some ⟨b, o, none⟩ ∧ ∀ i j, i < rows.length → j < esz → G b (o + (i * esz + j)) = some (u i j))
      (hu : ∀ i j c, (rows.getD i [])[j]? = some c → RepI G (u i j) c) : RepI G (.slice A rows.length cap) (.sl esz rows)

/-- One-cell data: what stays; a pointer into a resource; into an element of what stays; a slice at whose end one may append; a row of one's own. -/
inductive C where
  | i (x : I)
  | ptr (id off : Nat)
  | el (esz : Nat) (rows : List (List I)) (k off : Nat)
  | tok (id esz : Nat) (rows : List (List I))
  | own (id : Nat)
  | nn (esz : Nat) (rows : List (List I))
instance : Inhabited C := ⟨.i default⟩

inductive AV where
  | c (x : C)
  | agg (cs : List C)
  | fn (f : FuncId) (caps : List C)
  | tup (l : List AV)
  | any
instance : Inhabited AV := ⟨.any⟩

/-- A thing in memory of which its own laws alone speak: it has blocks. -/
structure ObjP where
  holds : Nat → (Nat → Prop) → World → Prop
  stable : ∀ {b F w w'}, holds b F w → (∀ k, F k → w'.heap[k]? = w.heap[k]?) → holds b F w'
  lt : ∀ {b F w}, holds b F w → ∀ k, F k → k < w.heap.size

inductive R where
  | box (cs : List C)
  | row (e esz : Nat) (cs : List C)
  | tok (e esz : Nat)
  | obj (p : ObjP)

/-- Ghosts: the cells that stay; blocks and slices of resources; what they own; which there are. -/
structure Gh where
  G : GH
  blk : Nat → Nat
  slv : Nat → Value
  F : Nat → Nat → Prop
  alive : Nat → Prop

def RepC (g : Gh) : Value → C → Prop
  | x, .i y => RepI g.G x y
  | x, .ptr id off => g.alive id ∧ x = .pointer (some ⟨g.blk id, off, none⟩)
  | x, .el esz rows k off => ∃ b o, ∃ u : Nat → Value, x = .pointer (some ⟨b, o + off, none⟩) ∧ k < rows.length ∧ (rows.getD k []).length = esz ∧
      (∀ j, j < esz → g.G b (o + j) = some (u j)) ∧ ∀ j c, (rows.getD k [])[j]? = some c → RepI g.G (u j) c
  | x, .tok id esz rows => g.alive id ∧ x = g.slv id ∧ RepI g.G x (.sl esz rows)
  | x, .own id => g.alive id ∧ x = g.slv id ∧ ∃ A n c, x = .slice A n c
  | x, .nn esz rows => RepI g.G x (.sl esz rows) ∧ ∃ a n c, x = .slice (some a) n c

def RepCs (g : Gh) : List Value → List C → Prop
  | [], [] => True
  | x :: xs, c :: cs => RepC g x c ∧ RepCs g xs cs
  | _, _ => False

mutual
def RepAV (g : Gh) : Value → AV → Prop
  | x, .c y => RepC g x y
  | x, .agg cs => ∃ vs : Array Value, x = .agg vs ∧ RepCs g vs.toList cs
  | x, .fn f caps => ∃ vs : Array Value, x = .func (.func f) #[] vs ∧ RepCs g vs.toList caps
  | x, .tup l => ∃ vs : Array Value, x = .tuple vs ∧ RepAVs g vs.toList l
  | _, .any => True
def RepAVs (g : Gh) : List Value → List AV → Prop
  | [], [] => True
  | x :: xs, c :: cs => RepAV g x c ∧ RepAVs g xs cs
  | _, _ => False
end

/-- A slice of whole elements at its block's begin; none of its cells is frozen. -/
def rowIn (w : World) (e esz : Nat) (v : Value) (n : Nat) (vs : List Value) : Prop := vs.length = n * esz ∧
  ((∃ c, v = .slice none 0 c ∧ n = 0) ∨ ∃ b cap cur fz, v = .slice (some ⟨b, 0, none⟩) n cap ∧ n ≤ cap ∧ w.heap[b]? = some (.cells cur e fz) ∧ cur.toList.take (n * esz) = vs ∧ ∀ j, j < n * esz → ¬ (fz.1 ≤ j ∧ j < fz.2))
theorem rowIn.lt {w : World} {e esz n : Nat} {v : Value} {vs : List Value} (h : rowIn w e esz v n vs) (k : Nat) (hk : v.ownBlock = some k) : k < w.heap.size := by
  rcases h.2 with ⟨c, rfl, _⟩ | ⟨b, cap, cur, fz, rfl, _, hh, _⟩
  · simp [Value.ownBlock] at hk
  · have : b = k := by simpa [Value.ownBlock] using hk
    subst this
    exact (Array.getElem?_eq_some_iff.1 hh).1
theorem rowIn.keep {w w' : World} {e esz n : Nat} {v : Value} {vs : List Value} (h : rowIn w e esz v n vs) (hm : ∀ k, v.ownBlock = some k → w'.heap[k]? = w.heap[k]?) : rowIn w' e esz v n vs := by
  obtain ⟨h1, h2⟩ := h
  refine ⟨h1, ?_⟩
  rcases h2 with h2 | ⟨b, cap, cur, fz, rfl, hc, hh, r⟩
  · exact .inl h2
  · exact .inr ⟨b, cap, cur, fz, rfl, hc, (hm b (by simp [Value.ownBlock])).trans hh, r⟩
theorem rowIn.of {w : World} {base e esz n : Nat} {v : Value} {vs : List Value} (h : w.ownsRow base e esz v n vs) : rowIn w e esz v n vs := by
  obtain ⟨h1, h2⟩ := h
  refine ⟨h1, ?_⟩
  rcases h2 with ⟨rfl, h2⟩ | ⟨b, cap, cur, rfl, _, hh, hc, _, _, ht⟩
  · exact .inl ⟨0, rfl, h2⟩
  · exact .inr ⟨b, cap, cur, (0, 0), rfl, hc, hh, ht, fun j _ => by simp⟩

def holds (g : Gh) (w : World) (id : Nat) : R → Prop
  | .box cs => ∃ vs ty, w.heap[g.blk id]? = some (.cells vs ty (0, 0)) ∧ RepCs g vs.toList cs ∧ (∀ k, g.F id k ↔ k = g.blk id) ∧ ∀ j, g.G (g.blk id) j = none
  | .row e esz cs => ∃ n vs, rowIn w e esz (g.slv id) n vs ∧ RepCs g vs cs ∧ (∀ k, g.F id k ↔ (g.slv id).ownBlock = some k) ∧
      ∀ k, (g.slv id).ownBlock = some k → g.blk id = k ∧ ∀ j, g.G k j = none
  | .tok e esz => ∃ n vs, w.ownsRow 0 e esz (g.slv id) n vs ∧ (∀ k, g.F id k ↔ (g.slv id).ownBlock = some k) ∧
      ∀ k, (g.slv id).ownBlock = some k → ∀ j, n * esz ≤ j → g.G k j = none
  | .obj p => p.holds (g.blk id) (g.F id) w ∧ ∀ k, g.F id k → ∀ j, g.G k j = none

def Good (g : Gh) (w : World) : Prop := ∀ b j v, g.G b j = some v → w.cell? ⟨b, j, none⟩ = some v

/-- What may have turned: blocks of W, ghosts of T; cells that stay are added in new blocks, or in W. -/
structure Ext (W T : Nat → Prop) (g g' : Gh) (w w' : World) : Prop where
  os : w'.os = w.os
  tape : w'.tape = w.tape
  output : w'.output = w.output
  size : w.heap.size ≤ w'.heap.size
  block : ∀ k, k < w.heap.size → ¬ W k → w'.heap[k]? = w.heap[k]?
  G : ∀ b j v, g.G b j = some v → g'.G b j = some v
  Gn : ∀ b j v, g'.G b j = some v → g.G b j = some v ∨ w.heap.size ≤ b ∨ W b
  al : ∀ id, g.alive id → g'.alive id
  blk : ∀ id, g.alive id → g'.blk id = g.blk id
  slv : ∀ id, g.alive id → g'.slv id = g.slv id
  F : ∀ id, g.alive id → ¬ T id → g'.F id = g.F id

theorem Ext.refl (W T : Nat → Prop) (g : Gh) (w : World) : Ext W T g g w w :=
  ⟨rfl, rfl, rfl, Nat.le_refl _, fun _ _ _ => rfl, fun _ _ _ h => h, fun _ _ _ h => .inl h, fun _ h => h, fun _ _ => rfl, fun _ _ => rfl, fun _ _ _ => rfl⟩
theorem Ext.trans {W T W1 T1 : Nat → Prop} {g g1 g2 : Gh} {w w1 w2 : World} (h : Ext W T g g1 w w1) (k : Ext W1 T1 g1 g2 w1 w2)
    (hW : ∀ b, W1 b → W b ∨ w.heap.size ≤ b) (hT : ∀ id, T1 id → T id ∨ ¬ g.alive id) : Ext W T g g2 w w2 := by
  refine ⟨k.os.trans h.os, k.tape.trans h.tape, k.output.trans h.output, Nat.le_trans h.size k.size, fun b hb hn => ?_, fun b j v hv => k.G b j v (h.G b j v hv), fun b j v hv => ?_,
    fun id hi => k.al id (h.al id hi), fun id hi => (k.blk id (h.al id hi)).trans (h.blk id hi), fun id hi => (k.slv id (h.al id hi)).trans (h.slv id hi), fun id hi hn => ?_⟩
  · refine (k.block b (Nat.lt_of_lt_of_le hb h.size) (fun h1 => ?_)).trans (h.block b hb hn)
    rcases hW b h1 with h2 | h2
    · exact hn h2
    · omega
  · rcases k.Gn b j v hv with h1 | h1 | h1
    · exact h.Gn b j v h1
    · exact .inr (.inl (Nat.le_trans h.size h1))
    · exact .inr ((hW b h1).symm)
  · refine (k.F id (h.al id hi) (fun h1 => ?_)).trans (h.F id hi hn)
    rcases hT id h1 with h2 | h2
    · exact hn h2
    · exact h2 hi
theorem Ext.weaken {W T W' T' : Nat → Prop} {g g' : Gh} {w w' : World} (h : Ext W T g g' w w') (hW : ∀ b, W b → W' b) (hT : ∀ id, T id → T' id) : Ext W' T' g g' w w' :=
  ⟨h.os, h.tape, h.output, h.size, fun k hk hn => h.block k hk (fun h1 => hn (hW k h1)), h.G, fun b j v hv => (h.Gn b j v hv).imp id (fun h1 => h1.imp id (hW b)), h.al, h.blk, h.slv, fun id hi hn => h.F id hi (fun h1 => hn (hT id h1))⟩

/-! What stays known. -/
theorem RepI.mono {G G' : GH} (h : ∀ b j v, G b j = some v → G' b j = some v) {x : Value} {y : I} (hr : RepI G x y) : RepI G' x y := by
  induction hr with
  | v x h1 => exact .v x h1
  | sl A cap esz rows u hcap hl hA hu ih =>
    refine .sl A cap esz rows u hcap hl (fun h0 => ?_) ih
    obtain ⟨b, o, hA1, hA2⟩ := hA h0
    exact ⟨b, o, hA1, fun i j hi hj => h _ _ _ (hA2 i j hi hj)⟩
theorem RepI.one {G : GH} {x : Value} {y : I} (hr : RepI G x y) : x.oneCell' = true := by
  cases hr with
  | v x h1 => exact h1
  | sl => rfl
theorem RepC.one {g : Gh} {x : Value} {y : C} (hr : RepC g x y) : x.oneCell' = true := by
  cases y with
  | i y => exact RepI.one hr
  | ptr id off => obtain ⟨_, rfl⟩ := hr; rfl
  | el esz rows k off => obtain ⟨b, o, u, rfl, _⟩ := hr; rfl
  | tok id esz rows => obtain ⟨_, _, h⟩ := hr; exact h.one
  | own id => obtain ⟨_, _, A, n, c, rfl⟩ := hr; rfl
  | nn esz rows => exact hr.1.one

section
variable {g g' : Gh}
/-- The ghosts have grown. -/
structure Le (g g' : Gh) : Prop where
  G : ∀ b j v, g.G b j = some v → g'.G b j = some v
  al : ∀ id, g.alive id → g'.alive id
  blk : ∀ id, g.alive id → g'.blk id = g.blk id
  slv : ∀ id, g.alive id → g'.slv id = g.slv id
theorem Ext.le {W T : Nat → Prop} {w w' : World} (h : Ext W T g g' w w') : Le g g' := ⟨h.G, h.al, h.blk, h.slv⟩
theorem RepC.mono (h : Le g g') {x : Value} {y : C} (hr : RepC g x y) : RepC g' x y := by
  cases y with
  | i y => exact RepI.mono h.G hr
  | ptr id off => exact ⟨h.al _ hr.1, by rw [h.blk _ hr.1]; exact hr.2⟩
  | el esz rows k off =>
    obtain ⟨b, o, u, h1, h2, h3, h4, h5⟩ := hr
    exact ⟨b, o, u, h1, h2, h3, fun j hj => h.G _ _ _ (h4 j hj), fun j c hc => (h5 j c hc).mono h.G⟩
  | tok id esz rows => exact ⟨h.al _ hr.1, by rw [h.slv _ hr.1]; exact hr.2.1, hr.2.2.mono h.G⟩
  | own id => exact ⟨h.al _ hr.1, by rw [h.slv _ hr.1]; exact hr.2.1, hr.2.2⟩
  | nn esz rows => exact ⟨hr.1.mono h.G, hr.2⟩
theorem RepCs.mono (h : Le g g') : ∀ {xs : List Value} {cs : List C}, RepCs g xs cs → RepCs g' xs cs
  | [], [], _ => trivial
  | _ :: _, _ :: _, hr => ⟨RepC.mono h hr.1, RepCs.mono h hr.2⟩
mutual
theorem RepAV.mono (h : Le g g') {x : Value} : (y : AV) → RepAV g x y → RepAV g' x y
  | .c y, hr => by simp only [RepAV] at hr ⊢; exact RepC.mono h hr
  | .agg cs, hr => by simp only [RepAV] at hr ⊢; obtain ⟨vs, h1, h2⟩ := hr; exact ⟨vs, h1, RepCs.mono h h2⟩
  | .fn f caps, hr => by simp only [RepAV] at hr ⊢; obtain ⟨vs, h1, h2⟩ := hr; exact ⟨vs, h1, RepCs.mono h h2⟩
  | .tup l, hr => by simp only [RepAV] at hr ⊢; obtain ⟨vs, h1, h2⟩ := hr; exact ⟨vs, h1, RepAVs.mono h l h2⟩
  | .any, _ => by simp only [RepAV]
theorem RepAVs.mono (h : Le g g') : {xs : List Value} → (l : List AV) → RepAVs g xs l → RepAVs g' xs l
  | [], [], _ => by simp only [RepAVs]
  | _ :: _, y :: l, hr => by simp only [RepAVs] at hr ⊢; exact ⟨RepAV.mono h y hr.1, RepAVs.mono h l hr.2⟩
  | [], _ :: _, hr => by simp only [RepAVs] at hr
  | _ :: _, [], hr => by simp only [RepAVs] at hr
end
end

theorem repCs_length {g : Gh} : ∀ {xs : List Value} {cs : List C}, RepCs g xs cs → xs.length = cs.length
  | [], [], _ => rfl
  | _ :: _, _ :: _, h => by simp [repCs_length h.2]
theorem repCs_get {g : Gh} : ∀ {xs : List Value} {cs : List C}, RepCs g xs cs → ∀ (j : Nat) (c : C), cs[j]? = some c → ∃ x, xs[j]? = some x ∧ RepC g x c
  | x :: _, c :: _, h, 0, c', hc => ⟨x, rfl, by simp at hc; subst hc; exact h.1⟩
  | _ :: _, _ :: _, h, j + 1, c', hc => by
    obtain ⟨x, h1, h2⟩ := repCs_get h.2 j c' (by simpa using hc)
    exact ⟨x, by simpa using h1, h2⟩
  | [], [], _, _, _, hc => by simp at hc
  | [], _ :: _, h, _, _, _ => h.elim
  | _ :: _, [], h, _, _, _ => h.elim
theorem repCs_of {g : Gh} : ∀ {xs : List Value} {cs : List C}, xs.length = cs.length → (∀ (j : Nat) x c, xs[j]? = some x → cs[j]? = some c → RepC g x c) → RepCs g xs cs
  | [], [], _, _ => trivial
  | x :: xs, c :: cs, hl, h => ⟨h 0 x c rfl rfl, repCs_of (by simpa using hl) (fun j x c hx hc => h (j + 1) x c (by simpa using hx) (by simpa using hc))⟩
  | [], _ :: _, hl, _ => by simp at hl
  | _ :: _, [], hl, _ => by simp at hl
theorem repCs_one {g : Gh} : ∀ {xs : List Value} {cs : List C}, RepCs g xs cs → ∀ x ∈ xs, x.oneCell' = true
  | _ :: _, _ :: _, h, x, hx => by
    rcases List.mem_cons.1 hx with rfl | hx
    · exact h.1.one
    · exact repCs_one h.2 x hx
theorem repCs_drop {g : Gh} : ∀ (n : Nat) {xs : List Value} {cs : List C}, RepCs g xs cs → RepCs g (xs.drop n) (cs.drop n)
  | 0, _, _, h => by simpa using h
  | _ + 1, [], [], _ => by simp [RepCs]
  | n + 1, _ :: _, _ :: _, h => by simpa using repCs_drop n h.2
  | _ + 1, [], _ :: _, h => h.elim
  | _ + 1, _ :: _, [], h => h.elim
theorem repCs_take {g : Gh} : ∀ (n : Nat) {xs : List Value} {cs : List C}, RepCs g xs cs → RepCs g (xs.take n) (cs.take n)
  | 0, _, _, _ => by simp [RepCs]
  | _ + 1, [], [], _ => by simp [RepCs]
  | n + 1, _ :: _, _ :: _, h => by simpa [RepCs] using ⟨h.1, repCs_take n h.2⟩
  | _ + 1, [], _ :: _, h => h.elim
  | _ + 1, _ :: _, [], h => h.elim
theorem repCs_append {g : Gh} : ∀ {xs ys : List Value} {cs ds : List C}, RepCs g xs cs → RepCs g ys ds → RepCs g (xs ++ ys) (cs ++ ds)
  | [], _, [], _, _, h => by simpa using h
  | _ :: _, _, _ :: _, _, h, k => ⟨h.1, repCs_append h.2 k⟩
  | [], _, _ :: _, _, h, _ => h.elim
  | _ :: _, _, [], _, h, _ => h.elim

/-! Resources that nobody touched. -/
theorem own_lt {w : World} {e sz n : Nat} {v : Value} {xs : List Value} (h : w.ownsRow 0 e sz v n xs) (k : Nat) (hk : v.ownBlock = some k) : k < w.heap.size := by
  rcases h.2 with ⟨rfl, _⟩ | ⟨g, cap, cur, rfl, _, hh, _⟩
  · simp [Value.ownBlock] at hk
  · have : g = k := by simpa [Value.ownBlock] using hk
    subst this
    exact (Array.getElem?_eq_some_iff.1 hh).1
theorem own_keep {w w' : World} {base e sz n : Nat} {v : Value} {xs : List Value} (h : w.ownsRow base e sz v n xs) (hm : ∀ k, v.ownBlock = some k → w'.heap[k]? = w.heap[k]?) : w'.ownsRow base e sz v n xs := by
  obtain ⟨h1, h2⟩ := h
  refine ⟨h1, ?_⟩
  rcases h2 with h2 | ⟨g, cap, cur, rfl, hg, hh, r⟩
  · exact .inl h2
  · exact .inr ⟨g, cap, cur, rfl, hg, (hm g (by simp [Value.ownBlock])).trans hh, r⟩
theorem holds_lt {g : Gh} {w : World} {id : Nat} {r : R} (h : holds g w id r) (k : Nat) (hk : g.F id k) : k < w.heap.size := by
  cases r with
  | box cs => obtain ⟨vs, ty, h1, _, h3, _⟩ := h; rw [(h3 k).1 hk]; exact (Array.getElem?_eq_some_iff.1 h1).1
  | row e esz cs => obtain ⟨n, vs, h1, _, h3, _⟩ := h; exact h1.lt k ((h3 k).1 hk)
  | tok e esz => obtain ⟨n, vs, h1, h3, _⟩ := h; exact own_lt h1 k ((h3 k).1 hk)
  | obj p => exact p.lt h.1 k hk
theorem holds_keep {W T : Nat → Prop} {g g' : Gh} {w w' : World} {id : Nat} {r : R} (h : holds g w id r) (hE : Ext W T g g' w w') (ha : g.alive id) (hT : ¬ T id) (hW : ∀ k, g.F id k → ¬ W k) : holds g' w' id r := by
  have hlt := fun k hk => holds_lt h k hk
  have hblk : ∀ k, g.F id k → w'.heap[k]? = w.heap[k]? := fun k hk => hE.block k (hlt k hk) (hW k hk)
  have hG : ∀ k, g.F id k → ∀ j, g.G k j = none → g'.G k j = none := fun k hk j h0 => by
    cases hv : g'.G k j with
    | none => rfl
    | some v =>
      rcases hE.Gn k j v hv with h1 | h1 | h1
      · rw [h0] at h1; cases h1
      · have := hlt k hk; omega
      · exact absurd h1 (hW k hk)
  have hF := hE.F id ha hT
  have eb := hE.blk id ha
  have es := hE.slv id ha
  cases r with
  | box cs =>
    obtain ⟨vs, ty, h1, h2, h3, h4⟩ := h
    have hk := (h3 (g.blk id)).2 rfl
    exact ⟨vs, ty, by rw [eb, hblk _ hk]; exact h1, h2.mono hE.le, fun k => by rw [hF, eb]; exact h3 k, fun j => by rw [eb]; exact hG _ hk j (h4 j)⟩
  | row e esz cs =>
    obtain ⟨n, vs, h1, h2, h3, h4⟩ := h
    refine ⟨n, vs, by rw [es]; exact h1.keep (fun k hk => hblk k ((h3 k).2 hk)), h2.mono hE.le, fun k => by rw [hF, es]; exact h3 k, fun k hk => ?_⟩
    rw [es] at hk
    exact ⟨by rw [eb]; exact (h4 k hk).1, fun j => hG k ((h3 k).2 hk) j ((h4 k hk).2 j)⟩
  | tok e esz =>
    obtain ⟨n, vs, h1, h3, h4⟩ := h
    refine ⟨n, vs, by rw [es]; exact own_keep h1 (fun k hk => hblk k ((h3 k).2 hk)), fun k => by rw [hF, es]; exact h3 k, fun k hk j hj => ?_⟩
    rw [es] at hk
    exact hG k ((h3 k).2 hk) j (h4 k hk j hj)
  | obj p =>
    refine ⟨?_, fun k hk j => ?_⟩
    · rw [eb, hF]; exact p.stable h.1 hblk
    · rw [hF] at hk; exact hG k hk j (h.2 k hk j)

/-- The resources H are there, apart from each other. -/
structure HeapH (g : Gh) (H : Nat → Option R) (w : World) : Prop where
  alive : ∀ id r, H id = some r → g.alive id
  holds : ∀ id r, H id = some r → holds g w id r
  dj : ∀ id id' r r', H id = some r → H id' = some r' → id ≠ id' → ∀ k, g.F id k → ¬ g.F id' k
theorem HeapH.sub {g : Gh} {H H' : Nat → Option R} {w : World} (h : HeapH g H w) (hs : ∀ id r, H' id = some r → H id = some r) : HeapH g H' w :=
  ⟨fun id r hr => h.alive id r (hs id r hr), fun id r hr => h.holds id r (hs id r hr), fun id id' r r' hr hr' => h.dj id id' r r' (hs id r hr) (hs id' r' hr')⟩

/-- Lists of pairs; the first one counts. -/
def get {α : Type _} : List (Nat × α) → Nat → Option α
  | [], _ => none
  | (k, v) :: l, i => bif Nat.beq k i then some v else get l i
theorem get_cons {α : Type _} (k : Nat) (v : α) (l : List (Nat × α)) (i : Nat) : get ((k, v) :: l) i = if k = i then some v else get l i := by
  simp only [get]
  by_cases h : k = i
  · subst h; simp
  · have : Nat.beq k i = false := by cases hb : Nat.beq k i; rfl; exact absurd (Nat.eq_of_beq_eq_true hb) h
    rw [this, if_neg h]; rfl
theorem get_mem {α : Type _} : ∀ (l : List (Nat × α)) (i : Nat) (v : α), get l i = some v → (i, v) ∈ l
  | (k, x) :: l, i, v, h => by
    rw [get_cons] at h
    by_cases hk : k = i
    · rw [if_pos hk] at h; injection h with h; subst h; subst hk; simp
    · rw [if_neg hk] at h; exact List.mem_cons_of_mem _ (get_mem l i v h)

/-- What an operation reads and touches, and what comes of it. -/
structure Cert where
  rd : List (Nat × AV)
  pre : List (Nat × R)
  out : AV
  post : List (Nat × R)

def RepT (g : Gh) (a : Act) (rd : List (Nat × AV)) : Prop := ∀ p ∈ rd, RepAV g (a.tmps.getD p.1 undef) p.2
theorem RepT.mono {g g' : Gh} (h : Le g g') {a : Act} {rd : List (Nat × AV)} (hr : RepT g a rd) : RepT g' a rd := fun p hp => RepAV.mono h _ (hr p hp)

/-- What is owned by some resources. -/
def Owned (g : Gh) (l : List (Nat × R)) (k : Nat) : Prop := ∃ id r, get l id = some r ∧ g.F id k

def stepWp (P : Program) (ops : Array Oper) (Q : Exit → Act → World → Prop) (o : Oper) (K : Act → World → Prop) (a : Act) (w : World) : Prop :=
  if Region.wanted o (yielded ops a.tmps) then o.wp P a w K Q ∨ (o.asks P a w ∧ LetsOut Q) else K (a.put o.dst undef) w

/-- What is known behind an operation. -/
structure Behind (n : Nat) (c : Cert) (g g' : Gh) (w w' : World) (v : Value) : Prop where
  good : Good g' w'
  ext : Ext (Owned g c.pre) (fun id => (get c.pre id).isSome) g g' w w'
  new : ∀ id, g'.alive id → g.alive id ∨ (n ≤ id ∧ id < n + 8)
  rep : RepAV g' v c.out
  heap : HeapH g' (get c.post) w'
  own : ∀ k, Owned g' c.post k → Owned g c.pre k ∨ w.heap.size ≤ k
  ids : ∀ id r, get c.post id = some r → (get c.pre id).isSome ∨ ¬ g.alive id

def Sound (P : Program) (ops : Array Oper) (o : Oper) (n : Nat) (c : Cert) : Prop :=
  ∀ (Q : Exit → Act → World → Prop) (K : Act → World → Prop) (g : Gh) (a : Act) (w : World), Good g w → RepT g a c.rd → HeapH g (get c.pre) w →
    (∀ id, n ≤ id → id < n + 8 → ¬ g.alive id) → (∀ g' w' v, Behind n c g g' w w' v → K (a.put o.dst v) w') → stepWp P ops Q o K a w

end Go.Proofs.Ytdmpocojbheoiaa.AM
