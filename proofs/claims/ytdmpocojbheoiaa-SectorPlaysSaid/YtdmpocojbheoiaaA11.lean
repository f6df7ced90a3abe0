/- The abstract machine: names are changed at a loop's end; a row stays at last; more operations. -/
import Derived.Test.YtdmpocojbheoiaaA10
namespace Go.Proofs.Ytdmpocojbheoiaa.AM
open Go.RowKit

section
variable {P : Program} {E : Entry} {S : St} {Q : Exit → St → Prop} {c : Code}

/-! Names are changed. -/
def swF (σ : List (Nat × Nat)) (k : Nat) : Nat := match get σ k with | some x => x | none => k
def swL (N : Nat) (σ : List (Nat × Nat)) : List Nat := (List.range N).map (swF σ)
theorem swL_get {N : Nat} {σ : List (Nat × Nat)} {k : Nat} (h : k < N) : (swL N σ).getD k 0 = swF σ k := by simp [swL, List.getD_eq_getElem?_getD, h]
def TLeR (S : St) (ρ : List Nat) (N : Nat) : List (Nat × AV) → Prop
  | [] => True
  | (t, av) :: l => (∃ av', get S.T t = some av' ∧ Imp av' (av.ren ρ)) ∧ av.bel N ∧ TLeR S ρ N l
def HLeR (S : St) (ρ : List Nat) (N : Nat) : List (Nat × Option R) → Prop
  | [] => True
  | (id, some r) :: l => hget S.H (ρ.getD id 0) = some (r.ren ρ) ∧ id < N ∧ r.bel N ∧ HLeR S ρ N l
  | (_, none) :: l => HLeR S ρ N l
theorem TLeR.get {ρ : List Nat} {N : Nat} : ∀ {T : List (Nat × AV)}, TLeR S ρ N T → ∀ t v, get T t = some v → (∃ v', AM.get S.T t = some v' ∧ Imp v' (v.ren ρ)) ∧ v.bel N
  | (k, av) :: l, h, t, v, hv => by
    rw [get_cons] at hv
    by_cases e : k = t
    · subst e; rw [if_pos rfl] at hv; injection hv with hv; subst hv; exact ⟨h.1, h.2.1⟩
    · rw [if_neg e] at hv; exact TLeR.get h.2.2 t v hv
  | [], _, t, v, hv => by simp [AM.get] at hv
theorem HLeR.get {ρ : List Nat} {N : Nat} : ∀ {H : List (Nat × Option R)}, HLeR S ρ N H → ∀ id r, hget H id = some r → hget S.H (ρ.getD id 0) = some (r.ren ρ) ∧ id < N ∧ r.bel N
  | (k, some r0) :: l, h, id, r, hr => by
    unfold hget at hr
    rw [get_cons] at hr
    by_cases e : k = id
    · subst e; rw [if_pos rfl] at hr; simp only [Option.some.injEq] at hr; subst hr; exact ⟨h.1, h.2.1, h.2.2.1⟩
    · rw [if_neg e] at hr; exact HLeR.get h.2.2.2 id r hr
  | (k, none) :: l, h, id, r, hr => by
    unfold hget at hr
    rw [get_cons] at hr
    by_cases e : k = id
    · rw [if_pos e] at hr; simp at hr
    · rw [if_neg e] at hr; exact HLeR.get (H := l) h id r hr
  | [], _, id, r, hr => by simp [hget, AM.get] at hr
theorem weak_ren {n0 : Nat} {S' : St} (σ : List (Nat × Nat)) (h0 : ∀ id, E.g0.alive id → id < n0) (hn : n0 ≤ S'.N) (hσ : (σ.all fun p => Nat.ble n0 p.1 && (match get σ p.2 with | some x => Nat.beq x p.1 | none => false)) = true)
    (hT : TLeR S (swL S'.N σ) S'.N S'.T) (hH : HLeR S (swL S'.N σ) S'.N S'.H) (hz : S'.sz = S.sz) : Weak E S S' := by
  intro a w hA
  obtain ⟨g, hg⟩ := hA.out
  rw [List.all_eq_true] at hσ
  have hσ : ∀ p ∈ σ, n0 ≤ p.1 ∧ get σ p.2 = some p.1 := fun p hp => by
    have h := hσ p hp
    rw [Bool.and_eq_true] at h
    refine ⟨Nat.le_of_ble_eq_true h.1, ?_⟩
    have h2 := h.2
    cases hx : get σ p.2 with
    | none => rw [hx] at h2; simp at h2
    | some x => rw [hx] at h2; simp only at h2; rw [Nat.eq_of_beq_eq_true h2]
  have hinv : ∀ k, swF σ (swF σ k) = k := fun k => by
    unfold swF
    cases hk : get σ k with
    | none => simp only; rw [hk]
    | some x => simp only; rw [(hσ (k, x) (get_mem _ _ _ hk)).2]
  have hid : ∀ k, k < n0 → (swL S'.N σ).getD k 0 = k := fun k hk => by
    rw [swL_get (by omega)]
    unfold swF
    cases hx : get σ k with
    | none => rfl
    | some x => have := (hσ (k, x) (get_mem _ _ _ hx)).1; simp only at this; omega
  have hinj : ∀ i j, i < S'.N → j < S'.N → (swL S'.N σ).getD i 0 = (swL S'.N σ).getD j 0 → i = j := fun i j hi hj h => by
    rw [swL_get hi, swL_get hj] at h
    have := congrArg (swF σ) h
    rwa [hinv, hinv] at this
  refine ⟨g.pull (swL S'.N σ) (fun k => k < S'.N), hg.good, fun t av ht => ?_, ⟨fun id r hr => ?_, fun id r hr => ?_, fun id id' r r' hr hr' hne => ?_⟩, by rw [hz]; exact hg.size, hg.defers, fun id hi => hi.1, ?_, fun id r k hr hk => ?_⟩
  · obtain ⟨⟨v', h1, h2⟩, h3⟩ := hT.get t av ht
    exact repAV_pull (n := S'.N) (fun _ h => h) h3 (h2 g _ (hg.tmp t v' h1))
  · obtain ⟨h1, h2, _⟩ := hH.get id r hr
    exact ⟨h2, hg.heap.alive _ _ h1⟩
  · obtain ⟨h1, h2, h3⟩ := hH.get id r hr
    exact holds_pull (n := S'.N) (fun _ h => h) h3 (hg.heap.holds _ _ h1)
  · obtain ⟨h1, h2, _⟩ := hH.get id r hr
    obtain ⟨h4, h5, _⟩ := hH.get id' r' hr'
    exact hg.heap.dj _ _ _ _ h1 h4 (fun e => hne (hinj id id' h2 h5 e))
  · have x := hg.ext
    exact ⟨x.os, x.tape, x.output, x.size, x.block, x.G, x.Gn, fun id hi => ⟨Nat.lt_of_lt_of_le (h0 id hi) hn, by rw [hid id (h0 id hi)]; exact x.al id hi⟩, fun id hi => by simp only [Gh.pull]; rw [hid id (h0 id hi)]; exact x.blk id hi, fun id hi => by simp only [Gh.pull]; rw [hid id (h0 id hi)]; exact x.slv id hi, fun _ _ h => (h trivial).elim⟩
  · exact hg.own _ _ k (hH.get id r hr).1 hk

/-! A row of one's own stays as it is from now on. -/
def C.sub (c : C) (id : Nat) (d : C) : C := match c with
  | .own j => bif Nat.beq j id then d else .own j
  | c => c
mutual
def AV.sub (id : Nat) (d : C) : AV → AV
  | .c c => .c (c.sub id d)
  | .agg cs => .agg (cs.map (fun c => C.sub c id d))
  | .fn f cs => .fn f (cs.map (fun c => C.sub c id d))
  | .tup l => .tup (subA id d l)
  | .any => .any
def subA (id : Nat) (d : C) : List AV → List AV
  | [] => []
  | a :: l => AV.sub id d a :: subA id d l
end
def R.sub (id : Nat) (d : C) : R → R
  | .box cs => .box (cs.map (fun c => C.sub c id d))
  | .row e s cs => .row e s (cs.map (fun c => C.sub c id d))
  | r => r
theorem repC_sub {g g' : Gh} {id : Nat} {d : C} (hle : Le g g') (hd : ∀ x, RepC g x (.own id) → RepC g' x d) {x : Value} {c : C} (h : RepC g x c) : RepC g' x (c.sub id d) := by
  cases c with
  | own i =>
    simp only [C.sub]
    cases hb : Nat.beq i id with
    | true => have := Nat.eq_of_beq_eq_true hb; subst this; exact hd x h
    | false => exact RepC.mono hle h
  | _ => exact RepC.mono hle h
theorem repCs_sub {g g' : Gh} {id : Nat} {d : C} (hle : Le g g') (hd : ∀ x, RepC g x (.own id) → RepC g' x d) : ∀ {xs : List Value} {cs : List C}, RepCs g xs cs → RepCs g' xs (cs.map (fun c => C.sub c id d))
  | [], [], _ => trivial
  | _ :: _, _ :: _, h => ⟨repC_sub hle hd h.1, repCs_sub hle hd h.2⟩
  | [], _ :: _, h => h.elim
  | _ :: _, [], h => h.elim
mutual
theorem repAV_sub {g g' : Gh} {id : Nat} {d : C} (hle : Le g g') (hd : ∀ x, RepC g x (.own id) → RepC g' x d) {x : Value} : (a : AV) → RepAV g x a → RepAV g' x (AV.sub id d a)
  | .c c, h => by simp only [RepAV, AV.sub] at h ⊢; exact repC_sub hle hd h
  | .agg cs, h => by simp only [RepAV, AV.sub] at h ⊢; obtain ⟨vs, h1, h2⟩ := h; exact ⟨vs, h1, repCs_sub hle hd h2⟩
  | .fn f cs, h => by simp only [RepAV, AV.sub] at h ⊢; obtain ⟨vs, h1, h2⟩ := h; exact ⟨vs, h1, repCs_sub hle hd h2⟩
  | .tup l, h => by simp only [RepAV, AV.sub] at h ⊢; obtain ⟨vs, h1, h2⟩ := h; exact ⟨vs, h1, repAVs_sub hle hd l h2⟩
  | .any, _ => by simp only [RepAV, AV.sub]
theorem repAVs_sub {g g' : Gh} {id : Nat} {d : C} (hle : Le g g') (hd : ∀ x, RepC g x (.own id) → RepC g' x d) : {xs : List Value} → (l : List AV) → RepAVs g xs l → RepAVs g' xs (subA id d l)
  | [], [], _ => by simp only [RepAVs, subA]
  | _ :: _, a :: l, h => by simp only [RepAVs, subA] at h ⊢; exact ⟨repAV_sub hle hd a h.1, repAVs_sub hle hd l h.2⟩
  | [], _ :: _, h => by simp only [RepAVs] at h
  | _ :: _, [], h => by simp only [RepAVs] at h
end
def St.sub (S : St) (id : Nat) (d : C) : St := { S with T := S.T.map fun p => (p.1, AV.sub id d p.2), H := (id, none) :: S.H.map fun p => (p.1, p.2.map (R.sub id d)) }
theorem wpS_freeze {id e esz : Nat} {cs : List C} {rows : List (List I)} (hh : hget S.H id = some (.row e esz cs)) (hcs : cs = rows.flatten.map C.i) (hrl : ∀ r ∈ rows, r.length = esz) (he : 0 < esz)
    (h : wpS P E c (S.sub id (.i (.sl esz rows))) Q) : wpS P E c S Q := by
  refine wpS_weak (fun a w hA => ?_) h
  obtain ⟨g, hg⟩ := hA.out
  have hr0 := hg.heap.holds id _ hh
  obtain ⟨A, cp, hs⟩ := row_len hr0 he (k := rows.length) (by rw [hcs, List.length_map, flat_len rows hrl])
  obtain ⟨m, vs, h1, h2, h3, h4⟩ := hr0
  have hm : m = rows.length := by
    have := h1.1; rw [repCs_length h2, hcs, List.length_map, flat_len rows hrl] at this
    exact (Nat.eq_of_mul_eq_mul_right he this).symm
  subst hm
  obtain ⟨g', hg'⟩ : ∃ g' : Gh, g' = { g with G := fun b j => if (g.slv id).ownBlock = some b then vs[j]? else g.G b j } := ⟨_, rfl⟩
  have hle : Le g g' := by
    subst hg'
    exact ⟨fun b j v hv => by
      simp only
      by_cases hb : (g.slv id).ownBlock = some b
      · rw [(h4 b hb).2 j] at hv; cases hv
      · rw [if_neg hb]; exact hv, fun _ h => h, fun _ _ => rfl, fun _ _ => rfl⟩
  have hal' : g'.alive = g.alive := by rw [hg']
  have hF' : g'.F = g.F := by rw [hg']
  have hcell : ∀ b j v, g'.G b j = some v → ((g.slv id).ownBlock = some b ∧ vs[j]? = some v) ∨ ((g.slv id).ownBlock ≠ some b ∧ g.G b j = some v) := fun b j v hv => by
    rw [hg'] at hv
    simp only at hv
    by_cases hb : (g.slv id).ownBlock = some b
    · rw [if_pos hb] at hv; exact .inl ⟨hb, hv⟩
    · rw [if_neg hb] at hv; exact .inr ⟨hb, hv⟩
  have hat : ∀ b j v, (g.slv id).ownBlock = some b → vs[j]? = some v → w.cell? ⟨b, j, none⟩ = some v := fun b j v hb hv => by
    rcases h1.2 with ⟨c0, hv0, _⟩ | ⟨b', cap, cur, fz, hv0, hc, hhb, ht, _⟩
    · rw [hv0] at hb; simp [Value.ownBlock] at hb
    · rw [hv0] at hb
      have : b' = b := by simpa [Value.ownBlock] using hb
      subst this
      rw [cell_of_row' w _ _ _ _ _ hhb]
      rw [← ht, List.getElem?_take] at hv
      split at hv
      · simpa using hv
      · cases hv
  have hrepI : RepI g'.G (g.slv id) (.sl esz rows) := by
    rw [hs]
    refine sl_of (us := vs) ⟨hrl, h1.1, fun h0 => ?_, fun t u d hu hd => ?_⟩ ?_
    · rcases h1.2 with ⟨c0, hv0, hm0⟩ | ⟨b', cap, cur, fz, hv0, hc, hhb, ht, _⟩
      · omega
      · rw [hs] at hv0
        simp only [Value.slice.injEq] at hv0
        refine ⟨b', 0, hv0.1, fun t u hu => ?_⟩
        rw [hg']
        simp only
        rw [if_pos (by rw [hs, hv0.1]; simp [Value.ownBlock]), Nat.zero_add]; exact hu
    · obtain ⟨x, hx, hrx⟩ := repCs_get h2 t (.i d) (by rw [hcs, List.getElem?_map, hd]; rfl)
      rw [hu] at hx; injection hx with hx; subst hx
      exact (RepC.mono hle hrx)
    · rcases h1.2 with ⟨c0, hv0, hm0⟩ | ⟨b', cap, cur, fz, hv0, hc, _⟩
      · omega
      · rw [hs] at hv0; simp only [Value.slice.injEq] at hv0; omega
  have hd : ∀ x, RepC g x (.own id) → RepC g' x (.i (.sl esz rows)) := fun x hx => by
    have : x = g.slv id := hx.2.1
    subst this; exact hrepI
  have hgH : ∀ i r', hget (S.sub id (.i (.sl esz rows))).H i = some r' → i ≠ id ∧ ∃ r, hget S.H i = some r ∧ r' = R.sub id (.i (.sl esz rows)) r := fun i r' hr' => by
    unfold hget at hr'
    simp only [St.sub] at hr'
    rw [get_cons] at hr'
    by_cases e0 : id = i
    · rw [if_pos e0] at hr'; simp at hr'
    · rw [if_neg e0, get_map (fun o : Option R => o.map (R.sub id (.i (.sl esz rows))))] at hr'
      refine ⟨Ne.symm e0, ?_⟩
      unfold hget
      cases hx : get S.H i with
      | none => rw [hx] at hr'; simp at hr'
      | some o =>
        rw [hx] at hr'
        cases o with
        | none => simp at hr'
        | some r => simp at hr'; exact ⟨r, rfl, hr'.symm⟩
  have hbne : ∀ i r, i ≠ id → hget S.H i = some r → ∀ k, g.F i k → (g.slv id).ownBlock ≠ some k := fun i r hi hr k hk hb => hg.heap.dj i id r _ hr hh hi k hk ((h3 k).2 hb)
  have hGn : ∀ i r, i ≠ id → hget S.H i = some r → ∀ k, g.F i k → ∀ j, g.G k j = none → g'.G k j = none := fun i r hi hr k hk j h0 => by
    rw [hg']; simp only; rw [if_neg (hbne i r hi hr k hk)]; exact h0
  refine ⟨g', fun b j v hv => ?_, fun t v hv => ?_, ⟨fun i r hr => ?_, fun i r hr => ?_, fun i i' r r' hr hr' hne => ?_⟩, hg.size, hg.defers, fun i hi => hg.al i (by rw [hal'] at hi; exact hi), ?_, fun i r k hr hk => ?_⟩
  · rcases hcell b j v hv with ⟨hb, hv⟩ | ⟨_, hv⟩
    · exact hat b j v hb hv
    · exact hg.good b j v hv
  · simp only [St.sub] at hv
    rw [get_map (fun x : AV => AV.sub id (.i (.sl esz rows)) x)] at hv
    cases hx : get S.T t with
    | none => rw [hx] at hv; simp at hv
    | some v0 => rw [hx] at hv; simp only [Option.map_some, Option.some.injEq] at hv; subst hv; exact repAV_sub hle hd v0 (hg.tmp t v0 hx)
  · obtain ⟨_, r0, hr0, _⟩ := hgH i r hr
    rw [hal']; exact hg.heap.alive i r0 hr0
  · obtain ⟨hi, r0, hr0, rfl⟩ := hgH i r hr
    have hh0 := hg.heap.holds i r0 hr0
    have G := hGn i r0 hi hr0
    cases r0 with
    | box cs0 =>
      obtain ⟨vs0, t0, b1, b2, b3, b4⟩ := hh0
      refine ⟨vs0, t0, by rw [hg']; exact b1, repCs_sub hle hd b2, fun k => by rw [hg']; exact b3 k, fun j => ?_⟩
      have := G (g.blk i) ((b3 _).2 rfl) j (b4 j)
      rw [hg'] at this ⊢; exact this
    | row e0 z0 cs0 =>
      obtain ⟨n0, vs0, b1, b2, b3, b4⟩ := hh0
      refine ⟨n0, vs0, by rw [hg']; exact b1, repCs_sub hle hd b2, fun k => by rw [hg']; exact b3 k, fun k hk => ?_⟩
      have hk' : (g.slv i).ownBlock = some k := by rw [hg'] at hk; exact hk
      refine ⟨by rw [hg']; exact (b4 k hk').1, fun j => G k ((b3 k).2 hk') j ((b4 k hk').2 j)⟩
    | tok e0 z0 =>
      obtain ⟨n0, vs0, b1, b3, b4⟩ := hh0
      refine ⟨n0, vs0, by rw [hg']; exact b1, fun k => by rw [hg']; exact b3 k, fun k hk j hj => ?_⟩
      have hk' : (g.slv i).ownBlock = some k := by rw [hg'] at hk; exact hk
      exact G k ((b3 k).2 hk') j (b4 k hk' j hj)
    | obj p => exact ⟨by rw [hg']; exact hh0.1, fun k hk j => by rw [hF'] at hk; exact G k hk j (hh0.2 k hk j)⟩
  · obtain ⟨_, r0, hr0, _⟩ := hgH i r hr
    obtain ⟨_, r1, hr1, _⟩ := hgH i' r' hr'
    rw [hF']; exact hg.heap.dj i i' r0 r1 hr0 hr1 hne
  · have x := hg.ext
    refine ⟨x.os, x.tape, x.output, x.size, x.block, fun b j v hv => hle.G b j v (x.G b j v hv), fun b j v hv => ?_, fun i hi => by rw [hal']; exact x.al i hi, fun i hi => by rw [hg']; exact x.blk i hi, fun i hi => by rw [hg']; exact x.slv i hi, fun _ _ h => (h trivial).elim⟩
    rcases hcell b j v hv with ⟨hb, _⟩ | ⟨_, hv⟩
    · exact .inr (hg.own id _ b hh ((h3 b).2 hb)).symm
    · exact x.Gn b j v hv
  · obtain ⟨_, r0, hr0, _⟩ := hgH i r hr
    rw [hF'] at hk; exact hg.own i r0 k hr0 hk

/-- No slice in a cell of a box: one may append to it. -/
theorem wpS_niltokB {id j : Nat} {cs : List C} (e esz : Nat) (hh : hget S.H id = some (.box cs)) (hc : cs[j]? = some (.i (.v (.slice none 0 0)))) (h : wpS P E c { S with H := (id, some (.box (cs.set j (.tok S.N esz [])))) :: (S.N, some (.tok e esz)) :: S.H, N := S.N + 1 } Q) : wpS P E c S Q := by
  refine wpS_weak (fun a w hA => ?_) h
  obtain ⟨g, hg⟩ := hA.out
  have hn0 : ¬ g.alive S.N := fun hi => Nat.lt_irrefl _ (hg.al _ hi)
  have hidN : id ≠ S.N := fun e0 => hn0 (by rw [← e0]; exact hg.heap.alive id _ hh)
  have hle : Le g (g.addTok S.N (.slice none 0 0) []) := ⟨fun b j v hv => by simp [Gh.addTok, Value.ownBlock]; exact hv, fun _ h => .inl h, fun _ _ => rfl, fun id hi => by simp only [Gh.addTok]; rw [if_neg (by rintro rfl; exact hn0 hi)]⟩
  have hE : Ext (fun _ => False) (fun _ => False) g (g.addTok S.N (.slice none 0 0) []) w w :=
    ⟨rfl, rfl, rfl, Nat.le_refl _, fun _ _ _ => rfl, hle.G, fun b j v hv => .inl (by simpa [Gh.addTok, Value.ownBlock] using hv), hle.al, hle.blk, hle.slv, fun id hi _ => by simp only [Gh.addTok]; rw [if_neg (by rintro rfl; exact hn0 hi)]⟩
  have hsp : ∀ i r, hget ((id, some (R.box (cs.set j (.tok S.N esz [])))) :: (S.N, some (R.tok e esz)) :: S.H) i = some r → (i = id ∧ r = .box (cs.set j (.tok S.N esz []))) ∨ (i = S.N ∧ r = .tok e esz) ∨ (i ≠ S.N ∧ i ≠ id ∧ hget S.H i = some r) := fun i r hr => by
    unfold hget at hr ⊢
    rw [get_cons] at hr
    by_cases h1 : id = i
    · rw [if_pos h1] at hr; simp only [Option.some.injEq] at hr; exact .inl ⟨h1.symm, hr.symm⟩
    · rw [if_neg h1, get_cons] at hr
      by_cases h2 : S.N = i
      · rw [if_pos h2] at hr; simp only [Option.some.injEq] at hr; exact .inr (.inl ⟨h2.symm, hr.symm⟩)
      · rw [if_neg h2] at hr; exact .inr (.inr ⟨Ne.symm h2, Ne.symm h1, hr⟩)
  have hFo : ∀ i, i ≠ S.N → (g.addTok S.N (.slice none 0 0) []).F i = g.F i := fun i hi => by simp only [Gh.addTok]; rw [if_neg hi]
  have hFn : ∀ k, ¬ (g.addTok S.N (.slice none 0 0) []).F S.N k := fun k hk => by simp [Gh.addTok, Value.ownBlock] at hk
  refine ⟨g.addTok S.N (.slice none 0 0) [], fun b j v hv => hg.good b j v (by simpa [Gh.addTok, Value.ownBlock] using hv), fun i v hv => RepAV.mono hle _ (hg.tmp i v hv), ⟨fun i r hr => ?_, fun i r hr => ?_, fun i i' r r' hr hr' hne k hk => ?_⟩, hg.size, hg.defers, fun i hi => ?_, hg.ext.trans hE (fun _ h => h.elim) (fun _ h => h.elim), fun i r k hr hk => ?_⟩
  · rcases hsp i r hr with ⟨rfl, _⟩ | ⟨rfl, _⟩ | ⟨_, _, h2⟩
    · exact .inl (hg.heap.alive _ _ hh)
    · exact .inr rfl
    · exact .inl (hg.heap.alive i r h2)
  · rcases hsp i r hr with ⟨rfl, rfl⟩ | ⟨rfl, rfl⟩ | ⟨_, _, h2⟩
    · obtain ⟨vs, t0, b1, b2, b3, b4⟩ := holds_keep (hg.heap.holds i _ hh) hE (hg.heap.alive i _ hh) (fun h => h) (fun _ _ h => h)
      obtain ⟨x, hx, hrx⟩ := repCs_get b2 j _ hc
      have hxe : x = .slice none 0 0 := by simp only [RepC] at hrx; cases hrx; rfl
      subst hxe
      have hvs : vs.toList = vs.toList.set j (.slice none 0 0) := by
        apply List.ext_getElem?
        intro q
        rw [List.getElem?_set]
        by_cases hq : j = q
        · subst hq; rw [if_pos rfl, if_pos (List.getElem?_eq_some_iff.1 hx).1]; exact hx
        · rw [if_neg hq]
      refine ⟨vs, t0, b1, ?_, b3, b4⟩
      rw [hvs]
      refine repCs_set ?_ j b2
      simp only [RepC]
      exact ⟨.inr rfl, by simp [Gh.addTok], .sl none 0 esz [] (fun _ _ => undef) (Nat.le_refl _) (by simp) (by simp) (by simp)⟩
    · exact ⟨0, [], by simp only [Gh.addTok, if_true]; exact World.ownsRow_nil w 0 e esz, fun k => by simp [Gh.addTok], fun k hk => by simp [Gh.addTok, Value.ownBlock] at hk⟩
    · exact holds_keep (hg.heap.holds i r h2) hE (hg.heap.alive i r h2) (fun h => h) (fun _ _ h => h)
  · have old : ∀ i r, hget ((id, some (R.box (cs.set j (.tok S.N esz [])))) :: (S.N, some (R.tok e esz)) :: S.H) i = some r → i ≠ S.N → ∃ r0, hget S.H i = some r0 := fun i r hr hi => by
      rcases hsp i r hr with ⟨rfl, _⟩ | ⟨rfl, _⟩ | ⟨_, _, h2⟩
      · exact ⟨_, hh⟩
      · exact absurd rfl hi
      · exact ⟨r, h2⟩
    by_cases e1 : i = S.N
    · subst e1; exact absurd hk (hFn k)
    · by_cases e2 : i' = S.N
      · subst e2; exact hFn k
      · obtain ⟨r0, h1⟩ := old i r hr e1
        obtain ⟨r1, h2⟩ := old i' r' hr' e2
        rw [hFo i e1] at hk
        rw [hFo i' e2]
        exact hg.heap.dj i i' r0 r1 h1 h2 hne k hk
  · rcases hi with hi | rfl
    · have := hg.al i hi; simp only at this ⊢; omega
    · simp only; omega
  · by_cases e1 : i = S.N
    · subst e1; exact absurd hk (hFn k)
    · rw [hFo i e1] at hk
      rcases hsp i r hr with ⟨rfl, _⟩ | ⟨rfl, _⟩ | ⟨_, _, h2⟩
      · exact hg.own i _ k hh hk
      · exact absurd rfl e1
      · exact hg.own i r k h2 hk
end
section
variable {P : Program} {E : Entry} {S : St} {cs : List Code} {nrm ret : St → Prop} {ex : List (Nat × (St → Prop))}
theorem k_freeze {c : Code} (id : Nat) {e esz : Nat} {ds : List C} (rows : List (List I)) (hh : hget S.H id = some (.row e esz ds)) (hcs : ds = rows.flatten.map C.i) (hrl : ∀ r ∈ rows, r.length = esz) (he : 0 < esz) (h : wpK P E (c :: cs) (S.sub id (.i (.sl esz rows))) nrm ret ex) : wpK P E (c :: cs) S nrm ret ex := by
  rw [wpK_cons] at h ⊢; exact wpS_freeze hh hcs hrl he h
theorem k_niltokB {c : Code} (id j e esz : Nat) {ds : List C} (hh : hget S.H id = some (.box ds)) (hc : ds[j]? = some (.i (.v (.slice none 0 0)))) (h : wpK P E (c :: cs) { S with H := (id, some (.box (ds.set j (.tok S.N esz [])))) :: (S.N, some (.tok e esz)) :: S.H, N := S.N + 1 } nrm ret ex) : wpK P E (c :: cs) S nrm ret ex := by
  rw [wpK_cons] at h ⊢; exact wpS_niltokB e esz hh hc h
theorem fin_own {fn : Func} {e esz id : Nat} {ds : List C} {t : Nat} (hr : fn.results.toList = [.tmp t]) (ht : get S.T t = some (.c (.own id))) (hh : hget S.H id = some (.row e esz ds)) (hb : belowL 0 ds) : Fin P fn 0 1 (.c (.own 0)) [(0, .row e esz ds)] S :=
  ⟨[id], [.c (.own id)], rfl, by simp, fun _ h => absurd h (Nat.not_lt_zero _), by rw [hr]; exact .cons (.tmp ht) .nil, .refl _, fun p hp => by simp only [List.mem_singleton] at hp; subst hp; simp only [R.ren, renL0 hb]; exact hh⟩
/-- A function that has one thing, and keeps it. -/
theorem fin_obj {fn : Func} {res : AV} {avs : List AV} {p : ObjP} (h : ResAll P S fn.results.toList avs) (hi : Imp (resAV avs) res) (hb : res.bel 0) (hh : hget S.H 0 = some (.obj p)) : Fin P fn 1 1 res [(0, .obj p)] S :=
  ⟨[0], avs, rfl, by simp, fun k hk => (by obtain rfl : k = 0 := (by omega); rfl), h, by rw [AV.ren0 hb]; exact hi, fun q hq => by simp only [List.mem_singleton] at hq; subst hq; exact hh⟩
end
section
variable {P : Program} {ops : Array Oper} {n : Nat} {S : St} {dst : Option Nat} {ty : TypeId} {pos : String} {after : Array Edge}
/-- make([]T, n), of one-cell elements. -/
theorem make_cells (z : Value) (k : Nat) : (madeCells #[z] k).toList = List.replicate k z := toList_madeCells_one z k
theorem s_make {t e : TypeId} {x y : Operand} {z : Value} {bytes k : Nat} {kl kc : IntKind} (ht : P.underlying t = some (.slice e)) (hinfo : (P.info? e).map (fun i => (i.zero, i.size, i.bytes)) = some (some z, 1, bytes)) (hz : z.cells = #[z]) (hz1 : z.oneCell' = true)
    (hx : ev S x = some (vv (.int kl (k : Int)))) (hy : ev S y = some (vv (.int kc (k : Int)))) (hb : bytes * k ≤ 140737488355328) (hk : k ≤ 140737488355328) (hd : dstOk dst S.sz = true) :
    Step P ops ⟨dst, .makeSlice t x y, ty, pos, after, none⟩ n S ⟨rdOf x (vv (.int kl (k : Int))) ++ rdOf y (vv (.int kc (k : Int))), [], .c (.own n), [(n, .row e 1 (List.replicate k (C.i (.v z))))]⟩ := by
  refine ⟨fun Q K g a w hgood hT hH hn hK => ?_, rd2 hx hy, fun _ _ h => by simp [get] at h, dstOk_spec hd, (by intro h; first | rfl | assumption | exact absurd h (by simp [roOp]; done))⟩
  unfold stepWp
  rw [if_pos (by simp [Region.wanted])]
  refine .inl ?_
  obtain ⟨e1, e2⟩ := rep2 hx hy (flat_of_c hx) (flat_of_c hy) hT
  have hrun := run_make_row' (P := P) t e z bytes ht hinfo hz kl kc k (by omega) (by omega) w
  have hexec : (execOp a.eval (⟨dst, .makeSlice t x y, ty, pos, after, none⟩ : Oper)).run P w = .ok (.value (.slice (some ⟨w.heap.size, 0, none⟩) k k)) (w.alloc (.cells (madeCells #[z] k) e)) := by
    simp only [execOp, repV e1, repV e2, Sem.run_bind, hrun, Result.andThen_ok, Sem.run_pure]
  unfold Oper.wp
  rw [hexec]
  refine hK _ _ _ (behind_row (k := k) (all := List.replicate k z) rfl rfl hgood hn ⟨by simp, .inr ⟨w.heap.size, k, madeCells #[z] k, (0, 0), rfl, Nat.le_refl _, heap_alloc_new w _, ?_, fun j _ => by simp⟩⟩ rfl rfl rfl (by simp) (fun k hk _ => heap_alloc_old w _ hk) (fun b hb => ?_) (fun b ⟨i, r, h1, _⟩ => by simp [get] at h1) (fun i h1 => by simp [get] at h1) ?_)
  · rw [make_cells]; simp
  · have : w.heap.size = b := by simpa [Value.ownBlock] using hb
    subst this
    exact ⟨.inl (Nat.le_refl _), fun j => good_none hgood (Nat.le_refl _)⟩
  · refine repCs_of (by simp) (fun j u c hu hc => ?_)
    rw [List.getElem?_replicate] at hu hc
    split at hu
    · rename_i hj
      rw [if_pos hj] at hc
      injection hu with hu; injection hc with hc; subst hu hc
      exact .v _ hz1
    · cases hu
/-- string(b), b a row of one's own. -/
theorem s_bts_own {s d e e' : TypeId} {x : Operand} {id : Nat} {bs : List UInt8} {ds : List C} (hs : P.underlying s = some (.slice e)) (he : P.underlying e = some (.int .u8)) (hdt : P.underlying d = some .string) (hx : ev S x = some (.c (.own id))) (hh : hget S.H id = some (.row e' 1 ds)) (hds : ds = bs.map fun b => C.i (.v (.int .u8 (b.toNat : Int)))) (hd : dstOk dst S.sz = true) :
    Step P ops ⟨dst, .convert s d x, ty, pos, after, none⟩ n S ⟨rdOf x (.c (.own id)), [(id, .row e' 1 ds)], vv (str bs), [(id, .row e' 1 ds)]⟩ :=
  ⟨sound_run rfl rfl (fun g a w hgood hT hH => by
    obtain ⟨_, e1⟩ := own_rep (rep1' hx (flat_of_c hx) hT)
    have hrow := hH.holds id _ get1
    subst hds
    obtain ⟨A, cp, hsl⟩ := row_len hrow Nat.one_pos (k := bs.length) (by simp)
    refine ⟨str bs, ?_, rep_vv rfl⟩
    suffices hsu : (convert s d (.slice A bs.length cp)).run P w = .ok (str bs) w by
      simp only [execOp, e1, hsl, Sem.run_bind, hsu, Result.andThen_ok, Sem.run_pure]
    cases bs with
    | nil =>
      cases A with
      | none => exact run_convert_bytes_nil w s e hs he _ _ d hdt
      | some ad => exact run_convert_bytes_back w s d e ad cp [] hs he hdt (fun j hj => absurd hj (by simp))
    | cons b0 bs0 =>
      obtain ⟨m, cap, cur, fz, hs2, hb2, hc2, hl2, hr2, hf2⟩ := row_open hrow (by simp)
      rw [hsl] at hs2
      simp only [Value.slice.injEq] at hs2
      rw [hs2.1]
      refine run_convert_bytes_back w s d e _ cp (b0 :: bs0) hs he hdt (fun j hj => ?_)
      obtain ⟨u, hu, hru⟩ := repCs_get hr2 j (.i (.v (.int .u8 ((b0 :: bs0)[j].toNat : Int)))) (by rw [List.getElem?_map, List.getElem?_eq_getElem hj]; rfl)
      have hue : u = .int .u8 ((b0 :: bs0)[j].toNat : Int) := by simp only [RepC] at hru; exact repI_v hru
      subst hue
      rw [add_off, Nat.zero_add, cell_of_row' w _ _ _ _ _ hb2]
      rw [List.getElem?_take] at hu
      split at hu
      · simpa using hu
      · cases hu), rd1 hx, hpre1 hh, dstOk_spec hd, (by intro h; first | rfl | assumption | exact absurd h (by simp [roOp]; done))⟩

/-! Strings. -/
theorem str_size (bs : List UInt8) : (⟨bs.toArray⟩ : ByteArray).size = bs.length := by simp [ByteArray.size]
theorem s_lenstr' {t : TypeId} {x : Operand} {bs : List UInt8} (ht : P.underlying t = some .string) (hx : ev S x = some (vv (str bs))) (hd : dstOk dst S.sz = true) :
    Step P ops ⟨dst, .call { callee := .builtin .len, args := #[x], argTypes := #[t] }, ty, pos, after, none⟩ n S ⟨rdOf x (vv (str bs)), [], vv (.int .i64 bs.length), []⟩ := by
  have := s_lenstr (P := P) (ops := ops) (n := n) (dst := dst) (ty := ty) (pos := pos) (after := after) ht (s := ⟨bs.toArray⟩) hx hd
  rw [str_size] at this
  exact this
theorem s_slices_h {t : TypeId} {x y : Operand} {bs : List UInt8} {k : IntKind} {i : Int} (ht : P.underlying t = some .string) (hx : ev S x = some (vv (str bs))) (hy : ev S y = some (vv (.int k i))) (h0 : 0 ≤ i) (h1 : i ≤ bs.length) (hd : dstOk dst S.sz = true) :
    Step P ops ⟨dst, .slice t x none (some y) none, ty, pos, after, none⟩ n S ⟨rdOf x (vv (str bs)) ++ rdOf y (vv (.int k i)), [], vv (str (bs.take i.toNat)), []⟩ :=
  ⟨sound_run rfl rfl (fun g a w _ hT _ => by
    obtain ⟨e1, e2⟩ := rep2 hx hy (flat_of_c hx) (flat_of_c hy) hT
    refine ⟨str (bs.take i.toNat), ?_, rep_vv rfl⟩
    have := run_slice_string_h (P := P) w t ⟨bs.toArray⟩ ht k i h0 (by rw [str_size]; exact h1)
    rw [ByteArray.extract_mk] at this
    simp [execOp, repV e1, repV e2, str, run_sliceAt_string w t _ _ _ _ ht, this]), rd2 hx hy, fun _ _ h => by simp [get] at h, dstOk_spec hd, (by intro h; first | rfl | assumption | exact absurd h (by simp [roOp]; done))⟩
theorem s_slices_l {t : TypeId} {x y : Operand} {bs : List UInt8} {k : IntKind} {i : Int} (ht : P.underlying t = some .string) (hx : ev S x = some (vv (str bs))) (hy : ev S y = some (vv (.int k i))) (h0 : 0 ≤ i) (h1 : i ≤ bs.length) (hd : dstOk dst S.sz = true) :
    Step P ops ⟨dst, .slice t x (some y) none none, ty, pos, after, none⟩ n S ⟨rdOf x (vv (str bs)) ++ rdOf y (vv (.int k i)), [], vv (str (bs.drop i.toNat)), []⟩ :=
  ⟨sound_run rfl rfl (fun g a w _ hT _ => by
    obtain ⟨e1, e2⟩ := rep2 hx hy (flat_of_c hx) (flat_of_c hy) hT
    refine ⟨str (bs.drop i.toNat), ?_, rep_vv rfl⟩
    have := run_slice_string_l (P := P) w t ⟨bs.toArray⟩ ht k i h0 (by rw [str_size]; exact h1)
    rw [ByteArray.extract_mk, str_size, List.take_of_length_le (by simp)] at this
    simp [execOp, repV e1, repV e2, str, run_sliceAt_string w t _ _ _ _ ht, this]), rd2 hx hy, fun _ _ h => by simp [get] at h, dstOk_spec hd, (by intro h; first | rfl | assumption | exact absurd h (by simp [roOp]; done))⟩
theorem s_stradd {t t' : TypeId} {x y : Operand} {a b : List UInt8} (hx : ev S x = some (vv (str a))) (hy : ev S y = some (vv (str b))) (hl : a.length + b.length ≤ 9223372036854775807) (hd : dstOk dst S.sz = true) :
    Step P ops ⟨dst, .binOp .add t x y t', ty, pos, after, none⟩ n S ⟨rdOf x (vv (str a)) ++ rdOf y (vv (str b)), [], vv (str (a ++ b)), []⟩ :=
  ⟨sound_run rfl rfl (fun g ac w _ hT _ => by
    obtain ⟨e1, e2⟩ := rep2 hx hy (flat_of_c hx) (flat_of_c hy) hT
    refine ⟨str (a ++ b), ?_, rep_vv rfl⟩
    have hb : (⟨a.toArray⟩ : ByteArray) ++ ⟨b.toArray⟩ = ⟨(a ++ b).toArray⟩ := by
      apply ByteArray.ext; simp
    have h1 : ((⟨a.toArray⟩ : ByteArray).size : Int) + ((⟨b.toArray⟩ : ByteArray).size : Int) ≤ 9223372036854775807 := by rw [str_size, str_size]; omega
    simp [execOp, repV e1, repV e2, str, eqGuard, binOp, Op.stringOp, hb, h1]), rd2 hx hy, fun _ _ h => by simp [get] at h, dstOk_spec hd, (by intro h; first | rfl | assumption | exact absurd h (by simp [roOp]; done))⟩
end
end Go.Proofs.Ytdmpocojbheoiaa.AM
