/- The abstract machine: control; functions. -/
import Derived.Test.YtdmpocojbheoiaaA1
namespace Go.Proofs.Ytdmpocojbheoiaa.AM
open Go.RowKit

/-! Names of resources: below a number; renamed. -/
def C.bel (n : Nat) : C → Prop
  | .ptr id _ => id < n
  | .tok id _ _ => id < n
  | .own id => id < n
  | _ => True
def belowL (n : Nat) : List C → Prop
  | [] => True
  | c :: l => c.bel n ∧ belowL n l
mutual
def AV.bel (n : Nat) : AV → Prop
  | .c c => c.bel n
  | .agg cs => belowL n cs
  | .fn _ cs => belowL n cs
  | .tup l => belowA n l
  | .any => True
def belowA (n : Nat) : List AV → Prop
  | [] => True
  | a :: l => a.bel n ∧ belowA n l
end
def R.bel (n : Nat) : R → Prop
  | .box cs => belowL n cs
  | .row _ _ cs => belowL n cs
  | _ => True
def C.ren (ρ : List Nat) : C → C
  | .ptr id off => .ptr (ρ.getD id 0) off
  | .tok id e r => .tok (ρ.getD id 0) e r
  | .own id => .own (ρ.getD id 0)
  | c => c
mutual
def AV.ren (ρ : List Nat) : AV → AV
  | .c c => .c (c.ren ρ)
  | .agg cs => .agg (cs.map (C.ren ρ))
  | .fn f cs => .fn f (cs.map (C.ren ρ))
  | .tup l => .tup (renA ρ l)
  | .any => .any
def renA (ρ : List Nat) : List AV → List AV
  | [] => []
  | a :: l => a.ren ρ :: renA ρ l
end
def R.ren (ρ : List Nat) : R → R
  | .box cs => .box (cs.map (C.ren ρ))
  | .row e s cs => .row e s (cs.map (C.ren ρ))
  | r => r

theorem belowL_i (n : Nat) : ∀ (l : List I), belowL n (l.map C.i)
  | [] => trivial
  | _ :: l => ⟨trivial, belowL_i n l⟩
theorem belowL_append {n : Nat} : ∀ {l m : List C}, belowL n l → belowL n m → belowL n (l ++ m)
  | [], _, _, h => h
  | _ :: _, _, h, k => ⟨h.1, belowL_append h.2 k⟩
theorem belowL_mem {n : Nat} : ∀ {l : List C}, belowL n l → ∀ c ∈ l, c.bel n
  | _ :: _, h, c, hc => by
    rcases List.mem_cons.1 hc with rfl | hc
    · exact h.1
    · exact belowL_mem h.2 c hc
theorem C.ren0 {ρ : List Nat} {c : C} (h : c.bel 0) : c.ren ρ = c := by cases c <;> first | rfl | exact absurd h (Nat.not_lt_zero _)
theorem renL0 {ρ : List Nat} : ∀ {l : List C}, belowL 0 l → l.map (C.ren ρ) = l
  | [], _ => rfl
  | c :: l, h => by rw [List.map_cons, C.ren0 h.1, renL0 h.2]
mutual
theorem AV.ren0 {ρ : List Nat} : {a : AV} → a.bel 0 → a.ren ρ = a
  | .c c, h => by simp only [AV.bel] at h; simp only [AV.ren, C.ren0 h]
  | .agg cs, h => by simp only [AV.bel] at h; simp only [AV.ren, renL0 h]
  | .fn f cs, h => by simp only [AV.bel] at h; simp only [AV.ren, renL0 h]
  | .tup l, h => by simp only [AV.bel] at h; simp only [AV.ren, renA0 h]
  | .any, _ => by simp only [AV.ren]
theorem renA0 {ρ : List Nat} : {l : List AV} → belowA 0 l → renA ρ l = l
  | [], _ => by simp only [renA]
  | a :: l, h => by simp only [belowA] at h; simp only [renA, AV.ren0 h.1, renA0 h.2]
end
theorem renL_i (ρ : List Nat) (l : List I) : (l.map C.i).map (C.ren ρ) = l.map C.i := by simp [C.ren]

/-- The ghosts by other names. -/
def Gh.pull (g : Gh) (ρ : List Nat) (dom : Nat → Prop) : Gh :=
  { G := g.G, blk := fun k => g.blk (ρ.getD k 0), slv := fun k => g.slv (ρ.getD k 0), F := fun k => g.F (ρ.getD k 0), alive := fun k => dom k ∧ g.alive (ρ.getD k 0) }
theorem repC_pull {g : Gh} {ρ : List Nat} {dom : Nat → Prop} {n : Nat} (hd : ∀ k, k < n → dom k) {x : Value} {c : C} (hb : c.bel n) (h : RepC g x (c.ren ρ)) : RepC (g.pull ρ dom) x c := by
  cases c with
  | i y => exact h
  | ptr id off => exact ⟨⟨hd _ hb, h.1⟩, h.2⟩
  | el esz rows k off => exact h
  | tok id esz rows => exact ⟨⟨hd _ hb, h.1⟩, h.2⟩
  | own id => exact ⟨⟨hd _ hb, h.1⟩, h.2⟩
  | nn esz rows => exact h
theorem repCs_pull {g : Gh} {ρ : List Nat} {dom : Nat → Prop} {n : Nat} (hd : ∀ k, k < n → dom k) : ∀ {xs : List Value} {cs : List C}, belowL n cs → RepCs g xs (cs.map (C.ren ρ)) → RepCs (g.pull ρ dom) xs cs
  | [], [], _, _ => trivial
  | _ :: _, _ :: _, hb, h => ⟨repC_pull hd hb.1 h.1, repCs_pull hd hb.2 h.2⟩
  | [], _ :: _, _, h => h.elim
  | _ :: _, [], _, h => h.elim
mutual
theorem repAV_pull {g : Gh} {ρ : List Nat} {dom : Nat → Prop} {n : Nat} (hd : ∀ k, k < n → dom k) {x : Value} : {a : AV} → a.bel n → RepAV g x (a.ren ρ) → RepAV (g.pull ρ dom) x a
  | .c c, hb, h => by simp only [AV.bel] at hb; simp only [AV.ren, RepAV] at h ⊢; exact repC_pull hd hb h
  | .agg cs, hb, h => by simp only [AV.bel] at hb; simp only [AV.ren, RepAV] at h ⊢; obtain ⟨vs, h1, h2⟩ := h; exact ⟨vs, h1, repCs_pull hd hb h2⟩
  | .fn f cs, hb, h => by simp only [AV.bel] at hb; simp only [AV.ren, RepAV] at h ⊢; obtain ⟨vs, h1, h2⟩ := h; exact ⟨vs, h1, repCs_pull hd hb h2⟩
  | .tup l, hb, h => by simp only [AV.bel] at hb; simp only [AV.ren, RepAV] at h ⊢; obtain ⟨vs, h1, h2⟩ := h; exact ⟨vs, h1, repAVs_pull hd hb h2⟩
  | .any, _, _ => by simp only [RepAV]
theorem repAVs_pull {g : Gh} {ρ : List Nat} {dom : Nat → Prop} {n : Nat} (hd : ∀ k, k < n → dom k) : {xs : List Value} → {l : List AV} → belowA n l → RepAVs g xs (renA ρ l) → RepAVs (g.pull ρ dom) xs l
  | [], [], _, _ => by simp only [RepAVs]
  | _ :: _, a :: l, hb, h => by simp only [belowA] at hb; simp only [renA, RepAVs] at h ⊢; exact ⟨repAV_pull hd hb.1 h.1, repAVs_pull hd hb.2 h.2⟩
  | [], _ :: _, _, h => by simp only [renA, RepAVs] at h
  | _ :: _, [], _, h => by simp only [renA, RepAVs] at h
end
theorem holds_pull {g : Gh} {ρ : List Nat} {dom : Nat → Prop} {n : Nat} (hd : ∀ k, k < n → dom k) {w : World} {k : Nat} {r : R} (hb : r.bel n) (h : holds g w (ρ.getD k 0) (r.ren ρ)) : holds (g.pull ρ dom) w k r := by
  cases r with
  | box cs => obtain ⟨vs, ty, h1, h2, h3, h4⟩ := h; exact ⟨vs, ty, h1, repCs_pull hd hb h2, h3, h4⟩
  | row e esz cs => obtain ⟨n', vs, h1, h2, h3, h4⟩ := h; exact ⟨n', vs, h1, repCs_pull hd hb h2, h3, h4⟩
  | tok e esz => exact h
  | obj p => exact h

/-! The other way: what holds by the callee's names holds by the caller's. -/
def Gh.push (g gc : Gh) (ρ : List Nat) : Gh :=
  { G := gc.G, blk := fun i => if i ∈ ρ then gc.blk (ρ.idxOf i) else g.blk i, slv := fun i => if i ∈ ρ then gc.slv (ρ.idxOf i) else g.slv i,
    F := fun i => if i ∈ ρ then gc.F (ρ.idxOf i) else g.F i, alive := fun i => g.alive i ∨ (i ∈ ρ ∧ gc.alive (ρ.idxOf i)) }
theorem idxOf_getD {ρ : List Nat} (hn : ρ.Nodup) {k : Nat} (hk : k < ρ.length) : ρ.getD k 0 ∈ ρ ∧ ρ.idxOf (ρ.getD k 0) = k := by
  have e : ρ.getD k 0 = ρ[k] := by simp [List.getD_eq_getElem?_getD, hk]
  rw [e]
  exact ⟨List.getElem_mem hk, hn.idxOf_getElem k hk⟩
theorem repC_push {g gc : Gh} {ρ : List Nat} (hn : ρ.Nodup) {x : Value} {c : C} (hb : c.bel ρ.length) (h : RepC gc x c) : RepC (g.push gc ρ) x (c.ren ρ) := by
  cases c with
  | i y => exact h
  | ptr id off => obtain ⟨h1, h2⟩ := idxOf_getD hn hb; exact ⟨.inr ⟨h1, by rw [h2]; exact h.1⟩, by simp only [Gh.push, if_pos h1, h2]; exact h.2⟩
  | el esz rows k off => exact h
  | tok id esz rows => obtain ⟨h1, h2⟩ := idxOf_getD hn hb; exact ⟨.inr ⟨h1, by rw [h2]; exact h.1⟩, by simp only [Gh.push, if_pos h1, h2]; exact h.2⟩
  | own id => obtain ⟨h1, h2⟩ := idxOf_getD hn hb; exact ⟨.inr ⟨h1, by rw [h2]; exact h.1⟩, by simp only [Gh.push, if_pos h1, h2]; exact h.2⟩
  | nn esz rows => exact h
theorem repCs_push {g gc : Gh} {ρ : List Nat} (hn : ρ.Nodup) : ∀ {xs : List Value} {cs : List C}, belowL ρ.length cs → RepCs gc xs cs → RepCs (g.push gc ρ) xs (cs.map (C.ren ρ))
  | [], [], _, _ => trivial
  | _ :: _, _ :: _, hb, h => ⟨repC_push hn hb.1 h.1, repCs_push hn hb.2 h.2⟩
  | [], _ :: _, _, h => h.elim
  | _ :: _, [], _, h => h.elim
mutual
theorem repAV_push {g gc : Gh} {ρ : List Nat} (hn : ρ.Nodup) {x : Value} : {a : AV} → a.bel ρ.length → RepAV gc x a → RepAV (g.push gc ρ) x (a.ren ρ)
  | .c c, hb, h => by simp only [AV.bel] at hb; simp only [AV.ren, RepAV] at h ⊢; exact repC_push hn hb h
  | .agg cs, hb, h => by simp only [AV.bel] at hb; simp only [AV.ren, RepAV] at h ⊢; obtain ⟨vs, h1, h2⟩ := h; exact ⟨vs, h1, repCs_push hn hb h2⟩
  | .fn f cs, hb, h => by simp only [AV.bel] at hb; simp only [AV.ren, RepAV] at h ⊢; obtain ⟨vs, h1, h2⟩ := h; exact ⟨vs, h1, repCs_push hn hb h2⟩
  | .tup l, hb, h => by simp only [AV.bel] at hb; simp only [AV.ren, RepAV] at h ⊢; obtain ⟨vs, h1, h2⟩ := h; exact ⟨vs, h1, repAVs_push hn hb h2⟩
  | .any, _, _ => by simp only [AV.ren, RepAV]
theorem repAVs_push {g gc : Gh} {ρ : List Nat} (hn : ρ.Nodup) : {xs : List Value} → {l : List AV} → belowA ρ.length l → RepAVs gc xs l → RepAVs (g.push gc ρ) xs (renA ρ l)
  | [], [], _, _ => by simp only [renA, RepAVs]
  | _ :: _, a :: l, hb, h => by simp only [belowA] at hb; simp only [renA, RepAVs] at h ⊢; exact ⟨repAV_push hn hb.1 h.1, repAVs_push hn hb.2 h.2⟩
  | [], _ :: _, _, h => by simp only [RepAVs] at h
  | _ :: _, [], _, h => by simp only [RepAVs] at h
end
theorem holds_push {g gc : Gh} {ρ : List Nat} (hn : ρ.Nodup) {w : World} {k : Nat} (hk : k < ρ.length) {r : R} (hb : r.bel ρ.length) (h : holds gc w k r) : holds (g.push gc ρ) w (ρ.getD k 0) (r.ren ρ) := by
  obtain ⟨h1, h2⟩ := idxOf_getD hn hk
  cases r with
  | box cs =>
    obtain ⟨vs, ty, g1, g2, g3, g4⟩ := h
    refine ⟨vs, ty, ?_, repCs_push hn hb g2, ?_, ?_⟩ <;> simp only [Gh.push, if_pos h1, h2]
    · exact g1
    · exact g3
    · exact g4
  | row e esz cs =>
    obtain ⟨n', vs, g1, g2, g3, g4⟩ := h
    refine ⟨n', vs, ?_, repCs_push hn hb g2, ?_, ?_⟩ <;> simp only [Gh.push, if_pos h1, h2]
    · exact g1
    · exact g3
    · exact g4
  | tok e esz =>
    obtain ⟨n', vs, g1, g3, g4⟩ := h
    refine ⟨n', vs, ?_, ?_, ?_⟩ <;> simp only [Gh.push, if_pos h1, h2]
    · exact g1
    · exact g3
    · exact g4
  | obj p =>
    simp only [R.ren, holds, Gh.push, if_pos h1, h2]
    exact h

/-! What implies what. -/
def Imp (a b : AV) : Prop := ∀ g x, RepAV g x a → RepAV g x b
def ImpC (a b : C) : Prop := ∀ g x, RepC g x a → RepC g x b
theorem Imp.refl (a : AV) : Imp a a := fun _ _ h => h
theorem ImpC.refl (a : C) : ImpC a a := fun _ _ h => h
theorem Imp.c {a b : C} (h : ImpC a b) : Imp (.c a) (.c b) := fun g x hr => by simp only [RepAV] at hr ⊢; exact h g x hr
theorem Imp.any (a : AV) : Imp a .any := fun g x _ => by simp only [RepAV]
theorem impC_tok (id esz : Nat) (rows : List (List I)) : ImpC (.tok id esz rows) (.i (.sl esz rows)) := fun _ _ h => h.2.2
theorem impC_nil (esz : Nat) : ImpC (.i (.v (.slice none 0 0))) (.i (.sl esz [])) := fun g x h => by
  simp only [RepC] at h ⊢
  cases h
  exact .sl none 0 esz [] (fun _ _ => undef) (Nat.le_refl _) (by simp) (by simp) (by simp)
inductive ImpCs : List C → List C → Prop
  | nil : ImpCs [] []
  | cons {a b : C} {as bs : List C} (h : ImpC a b) (k : ImpCs as bs) : ImpCs (a :: as) (b :: bs)
theorem ImpCs.refl : ∀ (l : List C), ImpCs l l
  | [] => .nil
  | c :: l => .cons (.refl c) (ImpCs.refl l)
theorem ImpCs.rep {g : Gh} : ∀ {as bs : List C}, ImpCs as bs → ∀ {xs : List Value}, RepCs g xs as → RepCs g xs bs := by
  intro as bs h
  induction h with
  | nil => intro xs h; exact h
  | cons h _ ih =>
    intro xs hr
    match xs, hr with
    | x :: xs, hr => exact ⟨h g x hr.1, ih hr.2⟩
theorem Imp.agg {as bs : List C} (h : ImpCs as bs) : Imp (.agg as) (.agg bs) := fun g x hr => by
  simp only [RepAV] at hr ⊢
  obtain ⟨vs, h1, h2⟩ := hr
  exact ⟨vs, h1, h.rep h2⟩
inductive Imps : List AV → List AV → Prop
  | nil : Imps [] []
  | cons {a b : AV} {as bs : List AV} (h : Imp a b) (k : Imps as bs) : Imps (a :: as) (b :: bs)
theorem Imps.refl : ∀ (l : List AV), Imps l l
  | [] => .nil
  | c :: l => .cons (.refl c) (Imps.refl l)
theorem Imps.rep {g : Gh} {as bs : List AV} (h : Imps as bs) : ∀ {xs : List Value}, RepAVs g xs as → RepAVs g xs bs := by
  induction h with
  | nil => intro xs h; exact h
  | cons h _ ih =>
    intro xs hr
    match xs, hr with
    | [], hr => simp only [RepAVs] at hr
    | x :: xs, hr => simp only [RepAVs] at hr ⊢; exact ⟨h g x hr.1, ih hr.2⟩

/-! What a function comes to: its resources are 0, 1, ..; new ones come next. -/
structure FnPost (g : Gh) (w : World) (Hin : List (Nat × R)) (res : AV) (Hout : List (Nat × R)) (e : Ending) (w' : World) : Prop where
  out : ∃ v g', e = .returned v ∧ Good g' w' ∧ Ext (Owned g Hin) (fun _ => True) g g' w w' ∧ RepAV g' v res ∧ HeapH g' (get Hout) w' ∧ ∀ k, Owned g' Hout k → Owned g Hin k ∨ w.heap.size ≤ k
def heapBelow (n : Nat) (H : List (Nat × R)) : Prop := ∀ p ∈ H, p.1 < n ∧ p.2.bel n
structure FnSpec (P : Program) (f : FuncId) (n m : Nat) (args : List AV) (Hin : List (Nat × R)) (res : AV) (Hout : List (Nat × R)) : Prop where
  ba : belowA n args
  bi : heapBelow n Hin
  br : res.bel m
  bo : heapBelow m Hout
  nm : n ≤ m ∧ m ≤ n + 8
  calls : ∀ (g : Gh) (w : World) (xs : List Value), Good g w → RepAVs g xs args → HeapH g (get Hin) w → (∀ id, g.alive id → id < n) → Calls P f xs.toArray w (FnPost g w Hin res Hout)

structure At (E : Entry) (S : St) (a : Act) (w : World) : Prop where
  out : ∃ g, AtG E g (get S.T) (hget S.H) (fun id => id < S.N) S.sz a w

@[irreducible] def wpS (P : Program) (E : Entry) (c : Code) (S : St) (Q : Exit → St → Prop) : Prop :=
  ∀ a w, At E S a w → c.wp P (fun e a' w' => ∃ S', Q e S' ∧ At E S' a' w') a w

def Then (K : St → Prop) (Q : Exit → St → Prop) : Exit → St → Prop
  | .normal, S => K S
  | e, S => Q e S
def inBlk (id : Nat) (Q : Exit → St → Prop) : Exit → St → Prop
  | .exit i, S => if i = id then Q .normal S else Q (.exit i) S
  | e, S => Q e S

section
variable {P : Program} {E : Entry} {S : St} {Q : Exit → St → Prop}
theorem wpS_seq {x y : Code} (h : wpS P E x S (Then (fun S' => wpS P E y S' Q) Q)) : wpS P E (.seq x y) S Q := by
  unfold wpS at h ⊢
  intro a w hA
  refine wp_seq (wp_mono (h a w hA) (fun e a' w' hq => ?_))
  obtain ⟨S', h1, h2⟩ := hq
  cases e with
  | normal => simp only [Then] at h1; exact h1 a' w' h2
  | _ => exact ⟨S', h1, h2⟩
theorem wpS_skip (h : Q .normal S) : wpS P E .skip S Q := by
  unfold wpS
  exact fun a w hA => wp_skip ⟨S, h, hA⟩
theorem wpS_exit {id : Nat} (h : Q (.exit id) S) : wpS P E (.exit id) S Q := by
  unfold wpS
  exact fun a w hA => wp_exit ⟨S, h, hA⟩
theorem wpS_ret (h : Q .ret S) : wpS P E .ret S Q := by
  unfold wpS
  exact fun a w hA => wp_ret ⟨S, h, hA⟩
theorem wpS_block {id : Nat} {c : Code} (h : wpS P E c S (inBlk id Q)) : wpS P E (.block id c) S Q := by
  unfold wpS at h ⊢
  intro a w hA
  refine wp_block (wp_mono (h a w hA) (fun e a' w' hq => ?_))
  obtain ⟨S', h1, h2⟩ := hq
  cases e with
  | exit i =>
    simp only [inBlk] at h1
    simp only [Exit.inBlock]
    split
    · rename_i hi; rw [if_pos hi] at h1; exact ⟨S', h1, h2⟩
    · rename_i hi; rw [if_neg hi] at h1; exact ⟨S', h1, h2⟩
  | _ => exact ⟨S', h1, h2⟩

def constAV : Value → AV
  | .agg cs => .agg (cs.toList.map fun v => .i (.v v))
  | .tuple _ => .any
  | v => .c (.i (.v v))
def ev (S : St) : Operand → Option AV
  | .tmp t => get S.T t
  | .const v => some (constAV v)
  | .func f => some (.fn f [])
  | .global _ => none
/-- What a constant is; of a temporary nothing is said. -/
def Opd : Operand → AV → Prop
  | .tmp _, _ => True
  | .const v, av => constAV v = av
  | .func f, av => AV.fn f [] = av
  | .global _, _ => False
def rdOf : Operand → AV → List (Nat × AV)
  | .tmp t, av => [(t, av)]
  | _, _ => []
theorem ev_opd {x : Operand} {av : AV} (h : ev S x = some av) : Opd x av := by
  cases x with
  | tmp t => trivial
  | const v => simpa [ev, Opd] using h
  | func f => simpa [ev, Opd] using h
  | global g => simp [ev] at h
theorem ev_rd {x : Operand} {av : AV} (h : ev S x = some av) : ∀ p ∈ rdOf x av, get S.T p.1 = some p.2 := by
  cases x with
  | tmp t => intro p hp; simp only [rdOf, List.mem_singleton] at hp; subst hp; exact h
  | _ => intro p hp; simp [rdOf] at hp
theorem const_rep (g : Gh) (v : Value) (h : ∀ cs, v = .agg cs → ∀ x ∈ cs, x.oneCell' = true) : RepAV g v (constAV v) := by
  cases v with
  | agg cs =>
    simp only [constAV, RepAV]
    refine ⟨cs, rfl, repCs_of (by simp) (fun j x c hx hc => ?_)⟩
    simp only [List.getElem?_map, hx, Option.map_some, Option.some.injEq] at hc
    subst hc
    exact .v x (h cs rfl x (by have := List.mem_of_getElem? hx; simpa using this))
  | tuple vs => simp only [constAV, RepAV]
  | _ => simp only [constAV, RepAV]; exact .v _ rfl
def flatC : Operand → Bool
  | .const (.agg cs) => cs.toList.all Value.oneCell'
  | _ => true
theorem opd_rep {g : Gh} {a : Act} {x : Operand} {av : AV} (h : Opd x av) (hf : flatC x = true) (hr : RepT g a (rdOf x av)) : RepAV g (a.eval x) av := by
  cases x with
  | tmp t => exact hr (t, av) (by simp [rdOf])
  | const v =>
    simp only [Opd] at h; subst h
    refine const_rep g v (fun cs hv x hx => ?_)
    subst hv
    simp only [flatC, List.all_eq_true] at hf
    exact hf x (by simpa using hx)
  | func f =>
    simp only [Opd] at h; subst h
    simp only [RepAV]
    exact ⟨#[], rfl, trivial⟩
  | global g => exact h.elim

theorem repBool {g : Gh} {x : Value} {b : Bool} (h : RepAV g x (.c (.i (.v (.bool b))))) : x = .bool b := by
  simp only [RepAV, RepC] at h; cases h; rfl
theorem wpS_cond {c : Operand} {x y : Code} {b : Bool} (hc : ev S c = some (.c (.i (.v (.bool b))))) (ht : b = true → wpS P E x S Q) (hf : b = false → wpS P E y S Q) : wpS P E (.cond c x y) S Q := by
  unfold wpS at ht hf ⊢
  intro a w hA
  obtain ⟨g, hg⟩ := hA.out
  have hv : a.eval c = .bool b := repBool (opd_rep (ev_opd hc) (by cases c <;> first | rfl | (rename_i v; cases v <;> first | rfl | (simp [ev, constAV] at hc))) (fun p hp => hg.tmp _ _ (ev_rd hc p hp)))
  exact wp_cond_split hv (fun h => ht h a w hA) (fun h => hf h a w hA)
theorem wpS_mono {c : Code} {Q' : Exit → St → Prop} (h : wpS P E c S Q) (hq : ∀ e S, Q e S → Q' e S) : wpS P E c S Q' := by
  unfold wpS at h ⊢
  exact fun a w hA => wp_mono (h a w hA) (fun e a' w' ⟨S', h1, h2⟩ => ⟨S', hq _ _ h1, h2⟩)

/-- S knows what S' knows. -/
def Weak (E : Entry) (S S' : St) : Prop := ∀ a w, At E S a w → At E S' a w
theorem wpS_weak {c : Code} {S' : St} (hw : Weak E S S') (h : wpS P E c S' Q) : wpS P E c S Q := by
  unfold wpS at h ⊢
  exact fun a w hA => h a w (hw a w hA)

theorem wpS_loop {c : Code} {X : Type} (F : X → St) (I : X → Prop) (μ : X → Nat) (x0 : X) (h0 : I x0) (hw : Weak E S (F x0))
    (round : ∀ x, I x → wpS P E c (F x) (Then (fun S' => ∃ x', I x' ∧ μ x' < μ x ∧ Weak E S' (F x')) Q)) : wpS P E (.loop c) S Q := by
  unfold wpS at round ⊢
  intro a w hA
  refine wp_mono (P := P) (Q := fun e a' w' => ∃ S', Q e S' ∧ At E S' a' w') ?_ (fun _ _ _ h => h)
  -- by the measure of some x that fits
  have hex : ∀ n, ∀ a w x, I x → μ x = n → At E (F x) a w → Code.wp P (.loop c) (fun e a' w' => ∃ S', Q e S' ∧ At E S' a' w') a w := by
    intro n a w x hx hn hat
    refine wp_loop (fun a' w' => ∃ x', I x' ∧ At E (F x') a' w') (fun a' w' => Classical.epsilon fun m => ∃ x', I x' ∧ At E (F x') a' w' ∧ μ x' = m ∧ ∀ y, I y → At E (F y) a' w' → m ≤ μ y) ⟨x, hx, hat⟩ ?_
    intro a1 w1 ⟨x1, hx1, hat1⟩
    -- the least measure that fits
    have least : ∀ a w, (∃ x, I x ∧ At E (F x) a w) → ∃ m, ∃ x', I x' ∧ At E (F x') a w ∧ μ x' = m ∧ ∀ y, I y → At E (F y) a w → m ≤ μ y := by
      intro a w ⟨x, hx, hax⟩
      have : ∀ n, ∀ x, I x → At E (F x) a w → μ x = n → ∃ m, ∃ x', I x' ∧ At E (F x') a w ∧ μ x' = m ∧ ∀ y, I y → At E (F y) a w → m ≤ μ y := by
        intro n
        induction n using Nat.strongRecOn with
        | _ n ih =>
          intro x hx hax hn
          by_cases hall : ∀ y, I y → At E (F y) a w → n ≤ μ y
          · exact ⟨n, x, hx, hax, hn, hall⟩
          · have ⟨y, hy⟩ := Classical.not_forall.1 hall
            have ⟨hy1, hy2⟩ := Classical.not_imp.1 hy
            have ⟨hy3, hy4⟩ := Classical.not_imp.1 hy2
            exact ih (μ y) (by omega) y hy1 hy3 rfl
      exact this _ x hx hax rfl
    obtain ⟨x2, hx2, hat2, hm2, hle2⟩ := Classical.epsilon_spec (least a1 w1 ⟨x1, hx1, hat1⟩)
    refine wp_mono (round x2 hx2 a1 w1 hat2) (fun e a' w' hq => ?_)
    obtain ⟨S', h1, h2⟩ := hq
    cases e with
    | normal =>
      simp only [Then] at h1
      obtain ⟨x3, hx3, hlt, hwk⟩ := h1
      have hat3 := hwk a' w' h2
      refine ⟨⟨x3, hx3, hat3⟩, ?_⟩
      obtain ⟨x4, hx4, hat4, hm4, hle4⟩ := Classical.epsilon_spec (least a' w' ⟨x3, hx3, hat3⟩)
      have := hle4 x3 hx3 hat3
      omega
    | _ => exact ⟨S', h1, h2⟩
  exact hex _ a w x0 h0 rfl (hw a w hA)

theorem wpS_region {id : Nat} {ops : Array Oper} {S' : St} {cs : List Cert} (h : Exec P ops S.N 0 ops.toList S cs S') (hq : Q .normal { S' with N := S.N + 8 * ops.size }) : wpS P E (.region id ops false) S Q := by
  unfold wpS
  intro a w hA
  obtain ⟨g, hg⟩ := hA.out
  refine wp_region ?_
  rw [List.range_eq_range']
  have e : ops.size = ops.toList.length := by simp
  rw [e]
  refine exec_sound h rfl g a w (by simpa using hg) (fun g' a' w' hA' => ⟨_, hq, ⟨g', ?_⟩⟩)
  simpa using hA'
theorem wpS_draw {id : Nat} {ops : Array Oper} {S' : St} {cs : List Cert} (hm : P.follows .mixedOrders = true) (h : Exec P ops S.N 0 ops.toList S cs S') (hok : okDraw ops.toList cs = true) (hq : Q .normal { S' with N := S.N + 8 * ops.size }) : wpS P E (.region id ops true) S Q := by
  unfold wpS
  intro a w hA
  obtain ⟨g, hg⟩ := hA.out
  refine wp_region_any hm ?_
  refine any_sound (Q := fun e a' w' => ∃ S', Q e S' ∧ At E S' a' w') h hok (fun g' a' w' hA' => ⟨_, hq, ⟨g', hA'⟩⟩) ops.size _ g a _ (by simp) (by simp) ?_ ?_
  · intro j o ho hj
    simp [Array.getD] at hj
  · have hL : ∀ (i : Nat), (Array.replicate ops.size false).getD i false = false := fun i => by simp [Array.getD]
    rw [tL_none _ _ _ _ (fun i _ => hL i), hL_none _ _ _ _ (fun i _ => hL i)]
    exact hg.drew.imp (fun _ _ h => h) (fun _ _ h => h) (fun id hi => .inl hi)
end
end Go.Proofs.Ytdmpocojbheoiaa.AM
