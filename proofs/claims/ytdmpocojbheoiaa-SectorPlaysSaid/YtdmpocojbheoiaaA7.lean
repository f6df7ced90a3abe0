/- The abstract machine: what is forgotten, or told in other words, between operations; a function's end. -/
import Derived.Test.YtdmpocojbheoiaaA6
namespace Go.Proofs.Ytdmpocojbheoiaa.AM
open Go.RowKit

section
variable {P : Program} {E : Entry} {S : St} {Q : Exit → St → Prop} {c : Code}

def dropK {α : Type _} (ks : List Nat) : List (Nat × α) → List (Nat × α)
  | [] => []
  | (k, v) :: l => bif ks.any (fun x => Nat.beq x k) then dropK ks l else (k, v) :: dropK ks l
theorem dropK_cons {α : Type _} (ks : List Nat) (k : Nat) (v : α) (l : List (Nat × α)) : dropK ks ((k, v) :: l) = if k ∈ ks then dropK ks l else (k, v) :: dropK ks l := by
  simp only [dropK]
  by_cases h : k ∈ ks
  · have : ks.any (fun x => Nat.beq x k) = true := List.any_eq_true.2 ⟨k, h, by simp⟩
    rw [this, if_pos h]; rfl
  · have : ks.any (fun x => Nat.beq x k) = false := by
      rw [← Bool.not_eq_true, List.any_eq_true]
      rintro ⟨x, hx, he⟩
      have : x = k := by simpa using he
      subst this; exact h hx
    rw [this, if_neg h]; rfl
theorem get_dropK {α : Type _} (k : Nat) : ∀ (l : List (Nat × α)) (i : Nat), get (dropK [k] l) i = if i = k then none else get l i
  | [], i => by simp [dropK, get]
  | (a, v) :: l, i => by
    rw [dropK_cons]
    by_cases h : a ∈ [k]
    · rw [if_pos h, get_dropK k l i, get_cons]
      have : a = k := by simpa using h
      by_cases hi : i = k
      · rw [if_pos hi, if_pos hi]
      · rw [if_neg hi, if_neg hi, if_neg (by omega)]
    · rw [if_neg h, get_cons, get_cons, get_dropK k l i]
      have : a ≠ k := by simpa using h
      by_cases ha : a = i
      · rw [if_pos ha, if_pos ha, if_neg (by omega)]
      · rw [if_neg ha, if_neg ha]
/-- What was told anew is told once. -/
def dedupH : List (Nat × Option R) → List (Nat × Option R)
  | [] => []
  | (k, some v) :: l => (k, some v) :: dropK [k] (dedupH l)
  | (k, none) :: l => dropK [k] (dedupH l)
theorem hget_dedup : ∀ (H : List (Nat × Option R)) (i : Nat), hget (dedupH H) i = hget H i
  | [], i => rfl
  | (k, some v) :: l, i => by
    have ih := hget_dedup l i
    unfold hget at ih ⊢
    rw [dedupH, get_cons, get_cons, get_dropK]
    by_cases h : k = i
    · rw [if_pos h, if_pos h]
    · rw [if_neg h, if_neg h, if_neg (Ne.symm h)]; exact ih
  | (k, none) :: l, i => by
    have ih := hget_dedup l i
    unfold hget at ih ⊢
    rw [dedupH, get_cons, get_dropK]
    by_cases h : k = i
    · rw [if_pos h, if_pos h.symm]
    · rw [if_neg h, if_neg (Ne.symm h)]; exact ih
def St.keep (S : St) (ks : List Nat) : St := { S with T := ks.filterMap fun t => (get S.T t).map fun v => (t, v), H := dedupH S.H }
theorem get_filterMap (T : List (Nat × AV)) : ∀ (ks : List Nat) (t : Nat) (v : AV), get (ks.filterMap fun t => (get T t).map fun v => (t, v)) t = some v → get T t = some v
  | [], t, v, h => by simp [get] at h
  | k :: ks, t, v, h => by
    rw [List.filterMap_cons] at h
    cases hk : get T k with
    | none => rw [hk] at h; exact get_filterMap T ks t v h
    | some x =>
      rw [hk] at h
      simp only [Option.map_some, get_cons] at h
      by_cases e : k = t
      · subst e; rw [if_pos rfl] at h; rw [hk]; exact h
      · rw [if_neg e] at h; exact get_filterMap T ks t v h
theorem At.imp {a : Act} {w : World} {S S' : St} (h : At E S a w) (hT : ∀ t v, get S'.T t = some v → ∃ v', get S.T t = some v' ∧ Imp v' v) (hH : ∀ id r, hget S'.H id = some r → hget S.H id = some r) (hN : S.N ≤ S'.N) (hz : S'.sz = S.sz) : At E S' a w := by
  obtain ⟨g, hg⟩ := h.out
  refine ⟨g, hg.good, fun t av ht => ?_, hg.heap.sub hH, by rw [hz]; exact hg.size, hg.defers, fun id hi => Nat.lt_of_lt_of_le (hg.al id hi) hN, hg.ext, fun id r k hr hk => hg.own id r k (hH id r hr) hk⟩
  obtain ⟨v', h1, h2⟩ := hT t av ht
  exact h2 g _ (hg.tmp t v' h1)
theorem wpS_imp {S' : St} (h : wpS P E c S' Q) (hT : ∀ t v, get S'.T t = some v → ∃ v', get S.T t = some v' ∧ Imp v' v) (hH : ∀ id r, hget S'.H id = some r → hget S.H id = some r) (hN : S.N ≤ S'.N) (hz : S'.sz = S.sz) : wpS P E c S Q :=
  wpS_weak (fun _ _ hA => hA.imp hT hH hN hz) h
theorem wpS_keep (ks : List Nat) (h : wpS P E c (S.keep ks) Q) : wpS P E c S Q :=
  wpS_imp h (fun t v ht => ⟨v, get_filterMap S.T ks t v ht, .refl _⟩) (fun id r hr => by simp only [St.keep] at hr; rwa [hget_dedup] at hr) (Nat.le_refl _) rfl

/-- A region, and what goes on behind it. -/
theorem wpS_reg {id : Nat} {ops : Array Oper} {y : Code} {S' : St} {cs : List Cert} (ks : List Nat) (h : Exec P ops S.N 0 ops.toList S cs S') (k : wpS P E y (St.keep { S' with N := S.N + 8 * ops.size } ks) Q) : wpS P E (.seq (.region id ops false) y) S Q :=
  wpS_seq (wpS_region h (wpS_keep ks k))
theorem wpS_dreg {id : Nat} {ops : Array Oper} {y : Code} {S' : St} {cs : List Cert} (ks : List Nat) (hm : P.follows .mixedOrders = true) (h : Exec P ops S.N 0 ops.toList S cs S') (hok : okDraw ops.toList cs = true) (k : wpS P E y (St.keep { S' with N := S.N + 8 * ops.size } ks) Q) : wpS P E (.seq (.region id ops true) y) S Q :=
  wpS_seq (wpS_draw hm h hok (wpS_keep ks k))

/-- A variable told in other words. -/
theorem wpS_retype {t : Nat} {av av' : AV} (ht : get S.T t = some av) (hi : Imp av av') (h : wpS P E c { S with T := (t, av') :: S.T } Q) : wpS P E c S Q :=
  wpS_imp h (fun i v hv => by
    rw [get_cons] at hv
    by_cases e : t = i
    · subst e; rw [if_pos rfl] at hv; injection hv with hv; subst hv; exact ⟨av, ht, hi⟩
    · rw [if_neg e] at hv; exact ⟨v, hv, .refl _⟩) (fun _ _ h => h) (Nat.le_refl _) rfl
/-- Equal is equal. -/
theorem imp_eq {a b : AV} (h : a = b) : Imp a b := by subst h; exact .refl _

/-- No slice yet: one may append to it. -/
theorem wpS_niltok {t : Nat} (e esz : Nat) (ht : get S.T t = some (vv (.slice none 0 0))) (h : wpS P E c { S with T := (t, .c (.tok S.N esz [])) :: S.T, H := (S.N, some (.tok e esz)) :: S.H, N := S.N + 1 } Q) : wpS P E c S Q := by
  refine wpS_weak (fun a w hA => ?_) h
  obtain ⟨g, hg⟩ := hA.out
  have hn0 : ¬ g.alive S.N := fun hi => Nat.lt_irrefl _ (hg.al _ hi)
  have hle : Le g (g.addTok S.N (.slice none 0 0) []) := ⟨fun b j v hv => by simp [Gh.addTok, Value.ownBlock]; exact hv, fun _ h => .inl h, fun _ _ => rfl, fun id hi => by simp only [Gh.addTok]; rw [if_neg (by rintro rfl; exact hn0 hi)]⟩
  have hE : Ext (fun _ => False) (fun _ => False) g (g.addTok S.N (.slice none 0 0) []) w w :=
    ⟨rfl, rfl, rfl, Nat.le_refl _, fun _ _ _ => rfl, hle.G, fun b j v hv => .inl (by simpa [Gh.addTok, Value.ownBlock] using hv), hle.al, hle.blk, hle.slv, fun id hi _ => by simp only [Gh.addTok]; rw [if_neg (by rintro rfl; exact hn0 hi)]⟩
  have hsp : ∀ id r, hget ((S.N, some (R.tok e esz)) :: S.H) id = some r → (id = S.N ∧ r = .tok e esz) ∨ (id ≠ S.N ∧ hget S.H id = some r) := fun id r hr => by
    unfold hget at hr ⊢
    rw [get_cons] at hr
    by_cases h : S.N = id
    · rw [if_pos h] at hr; simp only [Option.some.injEq] at hr; exact .inl ⟨h.symm, hr.symm⟩
    · rw [if_neg h] at hr; exact .inr ⟨Ne.symm h, hr⟩
  refine ⟨g.addTok S.N (.slice none 0 0) [], fun b j v hv => hg.good b j v (by simpa [Gh.addTok, Value.ownBlock] using hv), fun i v hv => ?_, ⟨fun id r hr => ?_, fun id r hr => ?_, fun id id' r r' hr hr' hne k hk => ?_⟩, hg.size, hg.defers, fun id hi => ?_, hg.ext.trans hE (fun _ h => h.elim) (fun _ h => h.elim), fun id r k hr hk => ?_⟩
  · rw [get_cons] at hv
    by_cases e' : t = i
    · subst e'; rw [if_pos rfl] at hv; injection hv with hv; subst hv
      have := repV (hg.tmp t _ ht)
      simp only [RepAV, RepC]
      refine ⟨.inr rfl, by rw [this]; simp [Gh.addTok], ?_⟩
      rw [this]
      exact .sl none 0 esz [] (fun _ _ => undef) (Nat.le_refl _) (by simp) (by simp) (by simp)
    · rw [if_neg e'] at hv; exact RepAV.mono hle _ (hg.tmp i v hv)
  · rcases hsp id r hr with ⟨h1, _⟩ | ⟨h1, h2⟩
    · exact .inr h1
    · exact .inl (hg.heap.alive id r h2)
  · rcases hsp id r hr with ⟨rfl, rfl⟩ | ⟨h1, h2⟩
    · exact ⟨0, [], by simp only [Gh.addTok, if_true]; exact World.ownsRow_nil w 0 e esz, fun k => by simp [Gh.addTok], fun k hk => by simp [Gh.addTok, Value.ownBlock] at hk⟩
    · exact holds_keep (hg.heap.holds id r h2) hE (hg.heap.alive id r h2) (fun h => h) (fun _ _ h => h)
  · rcases hsp id r hr with ⟨rfl, rfl⟩ | ⟨h1, h2⟩
    · simp [Gh.addTok, Value.ownBlock] at hk
    · rcases hsp id' r' hr' with ⟨rfl, rfl⟩ | ⟨h3, h4⟩
      · simp [Gh.addTok, Value.ownBlock]
      · simp only [Gh.addTok, if_neg h1, if_neg h3] at hk ⊢
        exact hg.heap.dj id id' r r' h2 h4 hne k hk
  · rcases hi with hi | rfl
    · have := hg.al id hi; simp only at this ⊢; omega
    · simp only; omega
  · rcases hsp id r hr with ⟨rfl, rfl⟩ | ⟨h1, h2⟩
    · simp [Gh.addTok, Value.ownBlock] at hk
    · simp only [Gh.addTok, if_neg h1] at hk; exact hg.own id r k h2 hk

/-- Nil, or not. -/
theorem wpS_nn {t esz : Nat} {rows : List (List I)} (ht : get S.T t = some (.c (.i (.sl esz rows)))) (h1 : ∀ k, rows = [] → wpS P E c { S with T := (t, vv (.slice none 0 k)) :: S.T } Q) (h2 : wpS P E c { S with T := (t, .c (.nn esz rows)) :: S.T } Q) : wpS P E c S Q := by
  unfold wpS at h1 h2 ⊢
  intro a w hA
  obtain ⟨g, hg⟩ := hA.out
  have hr := hg.tmp t _ ht
  simp only [RepAV, RepC] at hr
  have hcase : (∃ k, rows = [] ∧ a.tmps.getD t undef = .slice none 0 k) ∨ ∃ A n k, a.tmps.getD t undef = .slice (some A) n k := by
    generalize a.tmps.getD t undef = x at hr
    cases hr with
    | sl A cap _ _ u hcap hl hA hu =>
      cases A with
      | some A => exact .inr ⟨A, _, _, rfl⟩
      | none =>
        have : rows = [] := by
          cases rows with
          | nil => rfl
          | cons r rs => obtain ⟨b, o, h, _⟩ := hA (by simp); cases h
        subst this
        exact .inl ⟨cap, rfl, rfl⟩
  rcases hcase with ⟨k, hr0, hx⟩ | ⟨A, m, k, hx⟩
  · refine h1 k hr0 a w ⟨g, { hg with tmp := fun i v hv => ?_ }⟩
    rw [get_cons] at hv
    by_cases e : t = i
    · subst e; rw [if_pos rfl] at hv; injection hv with hv; subst hv; rw [hx]; exact rep_vv rfl
    · rw [if_neg e] at hv; exact hg.tmp i v hv
  · refine h2 a w ⟨g, { hg with tmp := fun i v hv => ?_ }⟩
    rw [get_cons] at hv
    by_cases e : t = i
    · subst e; rw [if_pos rfl] at hv; injection hv with hv; subst hv; simp only [RepAV, RepC]; exact ⟨hr, A, m, k, hx⟩
    · rw [if_neg e] at hv; exact hg.tmp i v hv

/-! To a loop's head: what is kept, by fewer names. -/
def TLe (S : St) (N : Nat) : List (Nat × AV) → Prop
  | [] => True
  | (t, av) :: l => (∃ av', get S.T t = some av' ∧ Imp av' av) ∧ av.bel N ∧ TLe S N l
def HLe (S : St) (N : Nat) : List (Nat × Option R) → Prop
  | [] => True
  | (id, some r) :: l => hget S.H id = some r ∧ id < N ∧ r.bel N ∧ HLe S N l
  | (_, none) :: l => HLe S N l
theorem TLe.get {N : Nat} : ∀ {T : List (Nat × AV)}, TLe S N T → ∀ t v, get T t = some v → (∃ v', AM.get S.T t = some v' ∧ Imp v' v) ∧ v.bel N
  | (k, av) :: l, h, t, v, hv => by
    rw [get_cons] at hv
    by_cases e : k = t
    · subst e; rw [if_pos rfl] at hv; injection hv with hv; subst hv; exact ⟨h.1, h.2.1⟩
    · rw [if_neg e] at hv; exact TLe.get h.2.2 t v hv
  | [], _, t, v, hv => by simp [AM.get] at hv
theorem HLe.get {N : Nat} : ∀ {H : List (Nat × Option R)}, HLe S N H → ∀ id r, hget H id = some r → hget S.H id = some r ∧ id < N ∧ r.bel N
  | (k, some r0) :: l, h, id, r, hr => by
    unfold hget at hr
    rw [get_cons] at hr
    by_cases e : k = id
    · subst e; rw [if_pos rfl] at hr; simp only [Option.some.injEq] at hr; subst hr; exact ⟨h.1, h.2.1, h.2.2.1⟩
    · rw [if_neg e] at hr; exact HLe.get h.2.2.2 id r hr
  | (k, none) :: l, h, id, r, hr => by
    unfold hget at hr
    rw [get_cons] at hr
    by_cases e : k = id
    · rw [if_pos e] at hr; simp at hr
    · rw [if_neg e] at hr; exact HLe.get (H := l) h id r hr
  | [], _, id, r, hr => by simp [hget, AM.get] at hr

def Gh.cut (g : Gh) (N : Nat) : Gh := { g with alive := fun id => g.alive id ∧ id < N }
theorem repC_cut {g : Gh} {N : Nat} {x : Value} {c : C} (hb : c.bel N) (h : RepC g x c) : RepC (g.cut N) x c := by
  cases c with
  | i y => exact h
  | ptr id off => exact ⟨⟨h.1, hb⟩, h.2⟩
  | el esz rows k off => exact h
  | tok id esz rows => exact ⟨⟨h.1, hb⟩, h.2⟩
  | own id => exact ⟨⟨h.1, hb⟩, h.2⟩
  | nn esz rows => exact h
theorem repCs_cut {g : Gh} {N : Nat} : ∀ {xs : List Value} {cs : List C}, belowL N cs → RepCs g xs cs → RepCs (g.cut N) xs cs
  | [], [], _, _ => trivial
  | _ :: _, _ :: _, hb, h => ⟨repC_cut hb.1 h.1, repCs_cut hb.2 h.2⟩
  | [], _ :: _, _, h => h.elim
  | _ :: _, [], _, h => h.elim
mutual
theorem repAV_cut {g : Gh} {N : Nat} {x : Value} : {a : AV} → a.bel N → RepAV g x a → RepAV (g.cut N) x a
  | .c c, hb, h => by simp only [AV.bel] at hb; simp only [RepAV] at h ⊢; exact repC_cut hb h
  | .agg cs, hb, h => by simp only [AV.bel] at hb; simp only [RepAV] at h ⊢; obtain ⟨vs, h1, h2⟩ := h; exact ⟨vs, h1, repCs_cut hb h2⟩
  | .fn f cs, hb, h => by simp only [AV.bel] at hb; simp only [RepAV] at h ⊢; obtain ⟨vs, h1, h2⟩ := h; exact ⟨vs, h1, repCs_cut hb h2⟩
  | .tup l, hb, h => by simp only [AV.bel] at hb; simp only [RepAV] at h ⊢; obtain ⟨vs, h1, h2⟩ := h; exact ⟨vs, h1, repAVs_cut hb h2⟩
  | .any, _, _ => by simp only [RepAV]
theorem repAVs_cut {g : Gh} {N : Nat} : {xs : List Value} → {l : List AV} → belowA N l → RepAVs g xs l → RepAVs (g.cut N) xs l
  | [], [], _, _ => by simp only [RepAVs]
  | _ :: _, a :: l, hb, h => by simp only [belowA] at hb; simp only [RepAVs] at h ⊢; exact ⟨repAV_cut hb.1 h.1, repAVs_cut hb.2 h.2⟩
  | [], _ :: _, _, h => by simp only [RepAVs] at h
  | _ :: _, [], _, h => by simp only [RepAVs] at h
end
theorem holds_cut {g : Gh} {N : Nat} {w : World} {id : Nat} {r : R} (hb : r.bel N) (h : holds g w id r) : holds (g.cut N) w id r := by
  cases r with
  | box cs => obtain ⟨vs, ty, h1, h2, h3, h4⟩ := h; exact ⟨vs, ty, h1, repCs_cut hb h2, h3, h4⟩
  | row e esz cs => obtain ⟨n', vs, h1, h2, h3, h4⟩ := h; exact ⟨n', vs, h1, repCs_cut hb h2, h3, h4⟩
  | tok e esz => exact h
  | obj p => exact h
/-- n0: how many names the function began with. -/
theorem weak_to {n0 : Nat} {S' : St} (h0 : ∀ id, E.g0.alive id → id < n0) (hn : n0 ≤ S'.N) (hT : TLe S S'.N S'.T) (hH : HLe S S'.N S'.H) (hz : S'.sz = S.sz) : Weak E S S' := by
  intro a w hA
  obtain ⟨g, hg⟩ := hA.out
  refine ⟨g.cut S'.N, hg.good, fun t av ht => ?_, ⟨fun id r hr => ?_, fun id r hr => ?_, fun id id' r r' hr hr' => ?_⟩, by rw [hz]; exact hg.size, hg.defers, fun id hi => hi.2, ?_, fun id r k hr hk => ?_⟩
  · obtain ⟨⟨v', h1, h2⟩, h3⟩ := hT.get t av ht
    exact repAV_cut h3 (h2 g _ (hg.tmp t v' h1))
  · obtain ⟨h1, h2, _⟩ := hH.get id r hr
    exact ⟨hg.heap.alive id r h1, h2⟩
  · obtain ⟨h1, h2, h3⟩ := hH.get id r hr
    exact holds_cut h3 (hg.heap.holds id r h1)
  · exact hg.heap.dj id id' r r' (hH.get id r hr).1 (hH.get id' r' hr').1
  · have x := hg.ext
    exact ⟨x.os, x.tape, x.output, x.size, x.block, x.G, x.Gn, fun id hi => ⟨x.al id hi, Nat.lt_of_lt_of_le (h0 id hi) hn⟩, x.blk, x.slv, fun _ _ h => (h trivial).elim⟩
  · exact hg.own id r k (hH.get id r hr).1 hk

/-! A function's end. -/
theorem fin_val {fn : Func} {res : AV} {avs : List AV} (h : ResAll P S fn.results.toList avs) (hi : Imp (resAV avs) res) (hb : res.bel 0) : Fin P fn 0 0 res [] S :=
  ⟨[], avs, rfl, List.nodup_nil, fun _ h => absurd h (Nat.not_lt_zero _), h, by rw [AV.ren0 hb]; exact hi, fun p hp => by simp at hp⟩
theorem fin_tok {fn : Func} {e esz id : Nat} {rows : List (List I)} {t : Nat} (hr : fn.results.toList = [.tmp t]) (ht : get S.T t = some (.c (.tok id esz rows))) (hh : hget S.H id = some (.tok e esz)) : Fin P fn 0 1 (.c (.tok 0 esz rows)) [(0, .tok e esz)] S :=
  ⟨[id], [.c (.tok id esz rows)], rfl, by simp, fun _ h => absurd h (Nat.not_lt_zero _), by rw [hr]; exact .cons (.tmp ht) .nil, .refl _, fun p hp => by simp only [List.mem_singleton] at hp; subst hp; exact hh⟩
end
end Go.Proofs.Ytdmpocojbheoiaa.AM
