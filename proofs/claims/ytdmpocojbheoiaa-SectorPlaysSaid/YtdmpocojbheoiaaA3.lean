/- The abstract machine: a function's own walk gives its contract; a call takes it. -/
import Derived.Test.YtdmpocojbheoiaaA2
import Derived.Laws.Cells
import Derived.Laws.Rows
import Derived.Laws.Entries
namespace Go.Proofs.Ytdmpocojbheoiaa.AM
open Go.RowKit

/-! Types, as far as loads and stores ask. -/
def isAggD : TypeDesc → Bool | .struct _ | .array _ _ => true | _ => false
/-- A struct or an array of so many cells. -/
def tyAgg (P : Program) (t : TypeId) (n : Nat) : Prop := ∃ d, P.underlying t = some d ∧ isAggD d = true ∧ (P.info? t).map (·.size) = some n
/-- A type of one cell. -/
def tyOne (P : Program) (t : TypeId) : Prop := ∃ d, P.underlying t = some d ∧ isAggD d = false ∧ (P.info? t).map (·.size) = some 1

theorem run_isAgg {P : Program} {t : TypeId} {d : TypeDesc} (hu : P.underlying t = some d) (w : World) : (isAgg t).run P w = .ok (isAggD d) w := by
  unfold isAgg
  rw [Sem.run_bind, run_underlying hu w]
  cases d <;> rfl
theorem run_sizeOf {P : Program} {t : TypeId} {n : Nat} (h : (P.info? t).map (·.size) = some n) (w : World) : (sizeOf t).run P w = .ok n w := by
  obtain ⟨i, hi, rfl⟩ := Option.map_eq_some_iff.1 h
  simp [sizeOf, typeInfo, hi]
theorem run_load_agg {P : Program} {t : TypeId} {vs : List Value} (ht : tyAgg P t vs.length) (w : World) (a : Addr) (h : ∀ j v, vs[j]? = some v → w.cell? (a.add j) = some v) : (loadVar t a).run P w = .ok (.agg vs.toArray) w := by
  obtain ⟨d, h1, h2, h3⟩ := ht
  unfold loadVar
  rw [Sem.run_bind, run_isAgg h1 w, Result.andThen_ok, h2]
  simp [run_sizeOf h3, run_loadCells_list (P := P) w a vs h]
theorem run_load_one {P : Program} {t : TypeId} (ht : tyOne P t) (w : World) (a : Addr) {v : Value} (h : w.cell? a = some v) : (loadVar t a).run P w = .ok v w := by
  obtain ⟨d, h1, h2, h3⟩ := ht
  unfold loadVar
  rw [Sem.run_bind, run_isAgg h1 w, Result.andThen_ok, h2]
  simp [h]

theorem add_off (b o j : Nat) : (⟨b, o, none⟩ : Addr).add j = ⟨b, o + j, none⟩ := by unfold Addr.add; split <;> simp_all

/-- Cells of a box. -/
theorem box_cells {g : Gh} {w : World} {id : Nat} {cs : List C} (h : holds g w id (.box cs)) : ∃ vs ty, w.heap[g.blk id]? = some (.cells vs ty (0, 0)) ∧ RepCs g vs.toList cs := by
  obtain ⟨vs, ty, h1, h2, _⟩ := h
  exact ⟨vs, ty, h1, h2⟩
theorem load_box {P : Program} {g : Gh} {w : World} {id off n : Nat} {t : TypeId} {cs : List C} (h : holds g w id (.box cs)) (ht : tyAgg P t n) (hn : ((cs.drop off).take n).length = n) :
    ∃ v, (loadVar t ⟨g.blk id, off, none⟩).run P w = .ok v w ∧ RepAV g v (.agg ((cs.drop off).take n)) := by
  obtain ⟨vs, ty, h1, h2⟩ := box_cells h
  have hr := repCs_take n (repCs_drop off h2)
  have hl : ((vs.toList.drop off).take n).length = n := by rw [repCs_length hr]; exact hn
  refine ⟨.agg ((vs.toList.drop off).take n).toArray, run_load_agg (by rw [hl]; exact ht) w _ (fun j v hv => ?_), ?_⟩
  · rw [add_off, cell_of_row w _ _ _ _ _ h1]
    rw [List.getElem?_take] at hv
    split at hv
    · rw [List.getElem?_drop] at hv; simpa using hv
    · cases hv
  · simp only [RepAV]; exact ⟨_, rfl, by simpa using hr⟩
theorem load_box1 {P : Program} {g : Gh} {w : World} {id off : Nat} {t : TypeId} {cs : List C} {c : C} (h : holds g w id (.box cs)) (ht : tyOne P t) (hc : cs[off]? = some c) :
    ∃ v, (loadVar t ⟨g.blk id, off, none⟩).run P w = .ok v w ∧ RepAV g v (.c c) := by
  obtain ⟨vs, ty, h1, h2⟩ := box_cells h
  obtain ⟨x, hx, hr⟩ := repCs_get h2 off c hc
  exact ⟨x, run_load_one ht w _ (by rw [cell_of_row w _ _ _ _ _ h1]; simpa using hx), by simp only [RepAV]; exact hr⟩

/-- What a result's variable has. -/
inductive ResOk (P : Program) (S : St) : ResultVar → AV → Prop
  | tmp {t : Nat} {av : AV} (h : get S.T t = some av) : ResOk P S (.tmp t) av
  | agg {t ty id off n : Nat} {cs : List C} (h : get S.T t = some (.c (.ptr id off))) (hh : hget S.H id = some (.box cs)) (ht : tyAgg P ty n) (hn : ((cs.drop off).take n).length = n) : ResOk P S (.cell t ty) (.agg ((cs.drop off).take n))
  | one {t ty id off : Nat} {cs : List C} {c : C} (h : get S.T t = some (.c (.ptr id off))) (hh : hget S.H id = some (.box cs)) (ht : tyOne P ty) (hc : cs[off]? = some c) : ResOk P S (.cell t ty) (.c c)
inductive ResAll (P : Program) (S : St) : List ResultVar → List AV → Prop
  | nil : ResAll P S [] []
  | cons {r : ResultVar} {av : AV} {rs : List ResultVar} {avs : List AV} (h : ResOk P S r av) (k : ResAll P S rs avs) : ResAll P S (r :: rs) (av :: avs)
def resAV : List AV → AV
  | [a] => a
  | l => .tup l

def resM (tmps : Array Value) : ResultVar → Sem Value
  | .tmp t => pure (tmps.getD t undef)
  | .cell x t => do loadVar t (← asAddr (tmps.getD x undef))
theorem results_eq (fn : Func) (tmps : Array Value) : results fn tmps = (do let vs ← fn.results.mapM (resM tmps); pure (if h : vs.size = 1 then vs[0] else .tuple vs)) := rfl
theorem res_run {P : Program} {S : St} {g : Gh} {a : Act} {w : World} (hT : ∀ t av, get S.T t = some av → RepAV g (a.tmps.getD t undef) av) (hH : HeapH g (hget S.H) w) :
    ∀ {rs : List ResultVar} {avs : List AV}, ResAll P S rs avs → ∃ vs : List Value, (rs.mapM (resM a.tmps)).run P w = .ok vs w ∧ RepAVs g vs avs := by
  intro rs avs h
  induction h with
  | nil => exact ⟨[], by simp, by simp only [RepAVs]⟩
  | @cons r av rs avs h _ ih =>
    obtain ⟨vs, h1, h2⟩ := ih
    have hx : ∃ v, (resM a.tmps r).run P w = .ok v w ∧ RepAV g v av := by
      cases h with
      | tmp h => exact ⟨_, rfl, hT _ _ h⟩
      | agg h hh ht hn =>
        have hp := hT _ _ h
        simp only [RepAV, RepC] at hp
        obtain ⟨v, h3, h4⟩ := load_box (P := P) (hH.holds _ _ hh) ht hn
        exact ⟨v, by simp only [resM, hp.2, asAddr, Sem.run_bind, Sem.run_pure, Result.andThen_ok]; exact h3, h4⟩
      | one h hh ht hc =>
        have hp := hT _ _ h
        simp only [RepAV, RepC] at hp
        obtain ⟨v, h3, h4⟩ := load_box1 (P := P) (hH.holds _ _ hh) ht hc
        exact ⟨v, by simp only [resM, hp.2, asAddr, Sem.run_bind, Sem.run_pure, Result.andThen_ok]; exact h3, h4⟩
    obtain ⟨v, h3, h4⟩ := hx
    refine ⟨v :: vs, ?_, by simp only [RepAVs]; exact ⟨h4, h2⟩⟩
    simp only [List.mapM_cons, Sem.run_bind, h3, h1, Result.andThen_ok, Sem.run_pure]

theorem results_run {P : Program} {fn : Func} {S : St} {g : Gh} {a : Act} {w : World} (hT : ∀ t av, get S.T t = some av → RepAV g (a.tmps.getD t undef) av) (hH : HeapH g (hget S.H) w) {avs : List AV} (h : ResAll P S fn.results.toList avs) :
    ∃ v, (results fn a.tmps).run P w = .ok v w ∧ RepAV g v (resAV avs) := by
  obtain ⟨vs, h1, h2⟩ := res_run (P := P) hT hH h
  have hm : (fn.results.mapM (resM a.tmps)).run P w = .ok vs.toArray w := by
    rw [Array.mapM_eq_mapM_toList]
    simp [h1]
  have hl : ∀ {vs : List Value} {avs : List AV}, RepAVs g vs avs → vs.length = avs.length := by
    intro vs
    induction vs with
    | nil => intro avs h; cases avs with
      | nil => rfl
      | cons => simp only [RepAVs] at h
    | cons v vs ih => intro avs h; cases avs with
      | nil => simp only [RepAVs] at h
      | cons => simp only [RepAVs] at h; simp [ih h.2]
  refine ⟨if h : vs.toArray.size = 1 then vs.toArray[0] else .tuple vs.toArray, ?_, ?_⟩
  · rw [results_eq, Sem.run_bind, hm]
    rfl
  · have := hl h2
    match vs, avs, h2, this with
    | [v], [av], h2, _ => simp only [RepAVs] at h2; exact h2.1
    | [], [], _, _ => simp only [resAV, RepAV]; exact ⟨#[], rfl, by simp only [RepAVs]⟩
    | v :: v2 :: vs, a1 :: a2 :: avs, h2, _ =>
      have : ¬ (v :: v2 :: vs).toArray.size = 1 := by simp
      rw [dif_neg this]
      simp only [resAV, RepAV]
      exact ⟨_, rfl, h2⟩

def initT : Nat → List AV → List (Nat × AV)
  | _, [] => []
  | k, a :: l => (k, a) :: initT (k + 1) l
def initS (n sz : Nat) (args : List AV) (Hin : List (Nat × R)) : St := { T := initT 0 args, H := Hin.map fun p => (p.1, some p.2), N := n, sz := sz }
theorem get_initT {g : Gh} : ∀ (args : List AV) (xs : List Value) (k : Nat), RepAVs g xs args → ∀ (t : Nat) (av : AV), get (initT k args) t = some av → k ≤ t ∧ ∃ x, xs[t - k]? = some x ∧ RepAV g x av
  | [], _, _, _, t, av, h => by simp [initT, get] at h
  | a :: l, [], _, h, _, _, _ => by simp only [RepAVs] at h
  | a :: l, x :: xs, k, h, t, av, hg => by
    simp only [RepAVs] at h
    simp only [initT, get_cons] at hg
    by_cases hk : k = t
    · subst hk; rw [if_pos rfl] at hg; injection hg with hg; subst hg; exact ⟨Nat.le_refl _, x, by simp, h.1⟩
    · rw [if_neg hk] at hg
      obtain ⟨h1, y, h2, h3⟩ := get_initT l xs (k + 1) h.2 t av hg
      exact ⟨by omega, y, by rw [show t - k = (t - (k + 1)) + 1 by omega]; simpa using h2, h3⟩

/-- What stands at a function's end: results, resources, by names σ of its own. -/
structure Fin (P : Program) (fn : Func) (n m : Nat) (res : AV) (Hout : List (Nat × R)) (S : St) : Prop where
  out : ∃ (σ : List Nat) (avs : List AV), σ.length = m ∧ σ.Nodup ∧ (∀ k, k < n → σ.getD k 0 = k) ∧ ResAll P S fn.results.toList avs ∧ Imp (resAV avs) (res.ren σ) ∧ ∀ p ∈ Hout, hget S.H (σ.getD p.1 0) = some (p.2.ren σ)
def FinQ (P : Program) (fn : Func) (n m : Nat) (res : AV) (Hout : List (Nat × R)) : Exit → St → Prop
  | .normal, S | .ret, S => Fin P fn n m res Hout S
  | _, _ => False

theorem repAVs_length {g : Gh} : ∀ {vs : List Value} {avs : List AV}, RepAVs g vs avs → vs.length = avs.length
  | [], [], _ => rfl
  | _ :: _, _ :: _, h => by simp only [RepAVs] at h; simp [repAVs_length h.2]
  | [], _ :: _, h => by simp only [RepAVs] at h
  | _ :: _, [], h => by simp only [RepAVs] at h
theorem hget_map (Hin : List (Nat × R)) : hget (Hin.map fun p => (p.1, some p.2)) = get Hin := by
  funext id
  unfold hget
  rw [get_map some]
  cases get Hin id <;> rfl
theorem nodup_inj {σ : List Nat} (h : σ.Nodup) {i j : Nat} (hi : i < σ.length) (hj : j < σ.length) (he : σ.getD i 0 = σ.getD j 0) : i = j := by
  have h1 := (idxOf_getD h hi).2
  have h2 := (idxOf_getD h hj).2
  rw [he] at h1
  omega

theorem fn_spec {P : Program} {f : FuncId} {fn : Func} {c : Code} {n m : Nat} {args : List AV} {Hin : List (Nat × R)} {res : AV} {Hout : List (Nat × R)} (hf : P.funcs[f]? = some fn) (hb : fn.body = some c) (hsz : args.length ≤ fn.ntmps)
    (ba : belowA n args) (bi : heapBelow n Hin) (br : res.bel m) (bo : heapBelow m Hout) (nm : n ≤ m ∧ m ≤ n + 8)
    (h : ∀ E : Entry, (∀ id, E.g0.alive id → id < n) → wpS P E c (initS n fn.ntmps args Hin) (FinQ P fn n m res Hout)) : FnSpec P f n m args Hin res Hout := by
  refine ⟨ba, bi, br, bo, nm, fun g w xs hg hx hH hal => calls_of_wp hf hb ?_⟩
  have hlen := repAVs_length hx
  have h0 := h ⟨w, Owned g Hin, g⟩ hal
  unfold wpS at h0
  refine wp_mono (h0 _ w ⟨g, ⟨hg, fun t av ht => ?_, ?_, ?_, rfl, fun id hi => hal id hi, Ext.refl _ _ _ _, fun id r k hr hk => ?_⟩⟩) (fun e a' w' hq => ?_)
  · obtain ⟨_, x, h1, h2⟩ := get_initT args xs 0 hx t av ht
    have hlt := (List.getElem?_eq_some_iff.1 h1).1
    rw [Nat.sub_zero] at h1 hlt
    have : (xs.toArray ++ Array.replicate (fn.ntmps - xs.toArray.size) undef).getD t undef = x := by
      rw [Array.getD_eq_getD_getElem?, Array.getElem?_append_left (by simpa using hlt)]
      simp [h1]
    rw [this]; exact h2
  · simp only [initS, hget_map]; exact hH
  · simp [initS, hlen]; omega
  · simp only [initS, hget_map] at hr; exact .inl ⟨id, r, hr, hk⟩
  · obtain ⟨S', h1, h2⟩ := hq
    obtain ⟨g', hA⟩ := h2.out
    have hfin : (e = .normal ∨ e = .ret) ∧ Fin P fn n m res Hout S' := by
      cases e <;> first | exact ⟨.inl rfl, h1⟩ | exact ⟨.inr rfl, h1⟩ | exact h1.elim
    obtain ⟨he, σ, avs, s1, s2, s3, s4, s5, s6⟩ := hfin.1, hfin.2.out
    obtain ⟨v, hv, hrep⟩ := results_run (P := P) hA.tmp hA.heap s4
    have hpost : FnPost g w Hin res Hout (.returned v) w' := by
      have hd : ∀ k, k < m → k < m := fun _ h => h
      refine ⟨v, g'.pull σ (fun k => k < m), rfl, hA.good, ?_, ?_, ⟨fun id r hr => ?_, fun id r hr => ?_, fun id id' r r' hr hr' hne k hk => ?_⟩, fun k ⟨id, r, hr, hk⟩ => ?_⟩
      · have x := hA.ext
        have hid : ∀ id, g.alive id → id < n ∧ σ.getD id 0 = id := fun id hi => ⟨hal id hi, s3 id (hal id hi)⟩
        refine ⟨x.os, x.tape, x.output, x.size, x.block, x.G, x.Gn, fun id hi => ?_, fun id hi => ?_, fun id hi => ?_, fun id _ hn => (hn trivial).elim⟩
        · obtain ⟨h3, h4⟩ := hid id hi
          exact ⟨by omega, by rw [h4]; exact x.al id hi⟩
        · show g'.blk (σ.getD id 0) = _
          rw [(hid id hi).2]; exact x.blk id hi
        · show g'.slv (σ.getD id 0) = _
          rw [(hid id hi).2]; exact x.slv id hi
      · exact repAV_pull hd br (s5 _ _ hrep)
      · have hb' := bo _ (get_mem _ _ _ hr)
        exact ⟨hb'.1, hA.heap.alive _ _ (s6 _ (get_mem _ _ _ hr))⟩
      · exact holds_pull hd (bo _ (get_mem _ _ _ hr)).2 (hA.heap.holds _ _ (s6 _ (get_mem _ _ _ hr)))
      · refine hA.heap.dj _ _ _ _ (s6 _ (get_mem _ _ _ hr)) (s6 _ (get_mem _ _ _ hr')) (fun heq => hne ?_) k hk
        exact nodup_inj s2 (by rw [s1]; exact (bo _ (get_mem _ _ _ hr)).1) (by rw [s1]; exact (bo _ (get_mem _ _ _ hr')).1) heq
      · exact hA.own _ _ k (s6 _ (get_mem _ _ _ hr)) hk
    rcases he with rfl | rfl
    · exact ⟨hA.defers, v, hv, hpost⟩
    · exact ⟨hA.defers, v, hv, hpost⟩

/-! The call. -/
def Callable (P : Program) (f : FuncId) : Prop := ∃ fn c, P.funcs[f]? = some fn ∧ (fn.name == "runtime.NumGoroutine") = false ∧ fn.body = some c
theorem run_call {P : Program} {f : FuncId} (h : Callable P f) (args : Array Value) (w : World) : (callFunc f args).run P w = .ok (.enter f args) w := by
  obtain ⟨fn, c, h1, h2, h3⟩ := h
  have h2' : fn.name ≠ "runtime.NumGoroutine" := by simpa using h2
  simp [callFunc, h1, h2', h3]

def rdsOf : List Operand → List AV → List (Nat × AV)
  | x :: xs, av :: avs => rdOf x av ++ rdsOf xs avs
  | _, _ => []
inductive Opds : List Operand → List AV → Prop
  | nil : Opds [] []
  | cons {x : Operand} {av : AV} {xs : List Operand} {avs : List AV} (h : Opd x av) (hf : flatC x = true) (k : Opds xs avs) : Opds (x :: xs) (av :: avs)
theorem opds_rep {g : Gh} {a : Act} : ∀ {xs : List Operand} {avs : List AV}, Opds xs avs → RepT g a (rdsOf xs avs) → RepAVs g (xs.map a.eval) avs := by
  intro xs avs h
  induction h with
  | nil => intro _; simp only [List.map_nil, RepAVs]
  | cons h hf _ ih =>
    intro hr
    simp only [List.map_cons, RepAVs]
    exact ⟨opd_rep h hf (fun p hp => hr p (List.mem_append_left _ hp)), ih (fun p hp => hr p (List.mem_append_right _ hp))⟩

theorem repAVs_append {g : Gh} : ∀ {xs ys : List Value} {as bs : List AV}, RepAVs g xs as → RepAVs g ys bs → RepAVs g (xs ++ ys) (as ++ bs)
  | [], _, [], _, _, h => by simpa using h
  | _ :: _, _, _ :: _, _, h, k => by simp only [RepAVs, List.cons_append] at h ⊢; exact ⟨h.1, repAVs_append h.2 k⟩
  | [], _, _ :: _, _, h, _ => by simp only [RepAVs] at h
  | _ :: _, _, [], _, h, _ => by simp only [RepAVs] at h
theorem repAVs_caps {g : Gh} : ∀ {xs : List Value} {cs : List C}, RepCs g xs cs → RepAVs g xs (cs.map AV.c)
  | [], [], _ => by simp only [List.map_nil, RepAVs]
  | _ :: _, _ :: _, h => by simp only [List.map_cons, RepAVs, RepAV]; exact ⟨h.1, repAVs_caps h.2⟩
  | [], _ :: _, h => h.elim
  | _ :: _, [], h => h.elim

def newIds (n k : Nat) : List Nat := List.range' n k
theorem get_keyed {ρ : List Nat} (hn : ρ.Nodup) (f : R → R) : ∀ (H : List (Nat × R)), (∀ p ∈ H, p.1 < ρ.length) → ∀ id r', get (H.map fun p => (ρ.getD p.1 0, f p.2)) id = some r' → ∃ k r, get H k = some r ∧ k < ρ.length ∧ ρ.getD k 0 = id ∧ f r = r'
  | [], _, id, r', h => by simp [get] at h
  | (k, r) :: l, hb, id, r', h => by
    rw [List.map_cons, get_cons] at h
    by_cases hk : ρ.getD k 0 = id
    · rw [if_pos hk] at h; injection h with h
      exact ⟨k, r, by rw [get_cons, if_pos rfl], hb (k, r) (by simp), hk, h⟩
    · rw [if_neg hk] at h
      obtain ⟨k', r2, h1, h2, h3, h4⟩ := get_keyed hn f l (fun p hp => hb p (by simp [hp])) id r' h
      refine ⟨k', r2, ?_, h2, h3, h4⟩
      rw [get_cons, if_neg (fun e => hk (by rw [e]; exact h3))]; exact h1
theorem get_keyed' {ρ : List Nat} (hn : ρ.Nodup) (f : R → R) : ∀ (H : List (Nat × R)), (∀ p ∈ H, p.1 < ρ.length) → ∀ k r, k < ρ.length → get H k = some r → get (H.map fun p => (ρ.getD p.1 0, f p.2)) (ρ.getD k 0) = some (f r)
  | [], _, _, _, _, h => by simp [get] at h
  | (k', r') :: l, hb, k, r, hk, h => by
    rw [List.map_cons, get_cons]
    rw [get_cons] at h
    by_cases he : k' = k
    · subst he; rw [if_pos rfl] at h; injection h with h; subst h; rw [if_pos rfl]
    · rw [if_neg he] at h
      rw [if_neg (fun e => he (nodup_inj hn (hb (k', r') (by simp)) hk e))]
      exact get_keyed' hn f l (fun p hp => hb p (by simp [hp])) k r hk h

theorem nodup_new {ρ : List Nat} (hn : ρ.Nodup) {a k : Nat} (hd : ∀ x ∈ ρ, ¬ (a ≤ x ∧ x < a + k)) : (ρ ++ newIds a k).Nodup := by
  refine List.nodup_append.2 ⟨hn, List.nodup_range', fun x hx y hy he => ?_⟩
  subst he
  obtain ⟨i, hi, rfl⟩ := List.mem_range'.1 hy
  exact hd _ hx (by omega)

theorem sound_call {P : Program} {ops : Array Oper} {o : Oper} {N : Nat} {f : FuncId} {fo : Operand} {caps : List C} {xs : List Operand} {tys : Array TypeId} {n m : Nat} {args args' : List AV} {Hin : List (Nat × R)} {res : AV} {Hout : List (Nat × R)} (ρ : List Nat)
    (hg : o.guard = none) (hop : o.op = .call { callee := .value fo, args := xs.toArray, argTypes := tys }) (hc : Callable P f) (hs : FnSpec P f n m args Hin res Hout) (hfull : ∀ k, k < n → (get Hin k).isSome = true)
    (hfo : Opd fo (.fn f caps)) (hxs : Opds xs args') (hρ : ρ.length = n) (hnd : ρ.Nodup) (hren : Imps (args' ++ caps.map AV.c) (renA ρ args)) :
    Sound P ops o N { rd := rdOf fo (.fn f caps) ++ rdsOf xs args', pre := Hin.map (fun p => (ρ.getD p.1 0, p.2.ren ρ)), out := res.ren (ρ ++ newIds N (m - n)), post := Hout.map (fun p => ((ρ ++ newIds N (m - n)).getD p.1 0, p.2.ren (ρ ++ newIds N (m - n)))) } := by
  intro Q K g a w hgood hT hH hnew hK
  unfold stepWp
  have hw : Region.wanted o (yielded ops a.tmps) = true := by simp [Region.wanted, hg]
  rw [if_pos hw]
  refine .inl ?_
  have hb1 : ∀ p ∈ Hin, p.1 < ρ.length := fun p hp => by rw [hρ]; exact (hs.bi p hp).1
  have hfv := opd_rep hfo (by cases fo <;> first | rfl | (rename_i v; cases v <;> first | rfl | (simp [Opd, constAV] at hfo))) (fun p hp => hT p (List.mem_append_left _ hp))
  simp only [RepAV] at hfv
  obtain ⟨vs, hfv, hcaps⟩ := hfv
  have hav := opds_rep (a := a) hxs (fun p hp => hT p (List.mem_append_right _ hp))
  have hrun : (execOp a.eval o).run P w = .ok (.enter f ((xs.map a.eval).toArray ++ vs)) w := by
    unfold execOp
    simp only [hop, resolve, Deferred.ofValue, hfv, Sem.run_bind, Sem.run_pure, Result.andThen_ok, invoke, List.map_toArray]
    simpa using run_call hc ((xs.map a.eval).toArray ++ vs) w
  unfold Oper.wp
  rw [hrun, Oper.upon_enter]
  -- the callee's ghosts
  obtain ⟨gc, hgc⟩ : ∃ gc, gc = g.pull ρ (fun k => k < n) := ⟨_, rfl⟩
  have halive : ∀ k, k < n → g.alive (ρ.getD k 0) := fun k hk => by
    have := hfull k hk
    obtain ⟨r, hr⟩ := Option.isSome_iff_exists.1 this
    exact hH.alive _ _ (get_keyed' hnd (R.ren ρ) Hin hb1 k r (by omega) hr)
  have hargs : RepAVs gc ((xs.map a.eval) ++ vs.toList) args := by
    rw [hgc]
    refine repAVs_pull (n := n) (fun _ h => h) hs.ba ?_
    exact hren.rep (repAVs_append hav (repAVs_caps hcaps))
  have hHc : HeapH gc (get Hin) w := by
    rw [hgc]
    refine ⟨fun id r hr => ?_, fun id r hr => ?_, fun id id' r r' hr hr' hne k hk => ?_⟩
    · have := hs.bi _ (get_mem _ _ _ hr); exact ⟨this.1, halive id this.1⟩
    · have hb := hs.bi _ (get_mem _ _ _ hr)
      have hb1' : id < ρ.length := by rw [hρ]; exact hb.1
      exact holds_pull (n := n) (fun _ h => h) hb.2 (hH.holds _ _ (get_keyed' hnd (R.ren ρ) Hin hb1 id r hb1' hr))
    · have hb := (hs.bi _ (get_mem _ _ _ hr)).1
      have hb' := (hs.bi _ (get_mem _ _ _ hr')).1
      have k1 : id < ρ.length := by rw [hρ]; exact hb
      have k2 : id' < ρ.length := by rw [hρ]; exact hb'
      exact hH.dj _ _ _ _ (get_keyed' hnd (R.ren ρ) Hin hb1 id r k1 hr) (get_keyed' hnd (R.ren ρ) Hin hb1 id' r' k2 hr') (fun e => hne (nodup_inj hnd k1 k2 e)) k hk
  have hcalls := hs.calls gc w _ (by rw [hgc]; exact hgood) hargs hHc (fun id hi => by rw [hgc] at hi; exact hi.1)
  have hargs' : ((xs.map a.eval) ++ vs.toList).toArray = (xs.map a.eval).toArray ++ vs := by simp
  rw [hargs'] at hcalls
  refine hcalls.mono (fun e w' hp => ?_)
  obtain ⟨v, g1, rfl, hgood1, hext, hrep, hheap, hown⟩ := hp.out
  obtain ⟨ρ', hρ'⟩ : ∃ ρ', ρ' = ρ ++ newIds N (m - n) := ⟨_, rfl⟩
  rw [← hρ'] at hK
  have hlen' : ρ'.length = m := by rw [hρ']; simp [newIds, hρ]; have := hs.nm; omega
  have hmem : ∀ x ∈ ρ, g.alive x := fun x hx => by
    obtain ⟨i, hi, rfl⟩ := List.mem_iff_getElem.1 hx
    have := halive i (by omega)
    simpa [List.getD_eq_getElem?_getD, hi] using this
  have hnd' : ρ'.Nodup := by
    rw [hρ']
    refine nodup_new hnd (fun x hx hh => hnew x hh.1 (by have := hs.nm; omega) (hmem x hx))
  -- old names
  have hold : ∀ id, g.alive id → id ∈ ρ' → ∃ k, k < n ∧ ρ.getD k 0 = id ∧ ρ'.idxOf id = k := fun id hi hm => by
    rw [hρ'] at hm
    rcases List.mem_append.1 hm with h1 | h1
    · obtain ⟨k, hk, rfl⟩ := List.mem_iff_getElem.1 h1
      refine ⟨k, by omega, by simp [List.getD_eq_getElem?_getD, hk], ?_⟩
      have hk' : k < ρ'.length := by rw [hlen']; have := hs.nm; omega
      have e : ρ[k] = ρ'.getD k 0 := by rw [hρ', List.getD_eq_getElem?_getD, List.getElem?_append_left hk]; simp [hk]
      rw [e]; exact (idxOf_getD hnd' hk').2
    · obtain ⟨i, hi', rfl⟩ := List.mem_range'.1 h1
      exact absurd hi (hnew _ (by omega) (by have := hs.nm; omega))
  have hpreO : ∀ k, Owned gc Hin k → Owned g (Hin.map fun p => (ρ.getD p.1 0, p.2.ren ρ)) k := fun k ⟨id, r, hr, hk⟩ => by
    have hb := (hs.bi _ (get_mem _ _ _ hr)).1
    refine ⟨ρ.getD id 0, r.ren ρ, get_keyed' hnd (R.ren ρ) Hin hb1 id r (by omega) hr, ?_⟩
    rw [hgc] at hk; exact hk
  have hb2 : ∀ p ∈ Hout, p.1 < ρ'.length := fun p hp => by rw [hlen']; exact (hs.bo p hp).1
  have hgcG : gc.G = g.G := by rw [hgc]; rfl
  have hgca : ∀ k, k < n → gc.alive k := fun k hk => by rw [hgc]; exact ⟨hk, halive k hk⟩
  refine hK (g.push g1 ρ') w' v ⟨hgood1, ?_, fun id hi => ?_, ?_, ⟨fun id r hr => ?_, fun id r hr => ?_, fun id id' r r' hr hr' hne k hk => ?_⟩, fun k ⟨id, r, hr, hk⟩ => ?_, fun id r hr => ?_⟩
  · refine ⟨hext.os, hext.tape, hext.output, hext.size, fun k hk hn => hext.block k hk (fun h1 => hn (hpreO k h1)), fun b j v hv => hext.G b j v (by rw [hgcG]; exact hv), fun b j v hv => ?_, fun id hi => .inl hi, fun id hi => ?_, fun id hi => ?_, fun id hi hn => ?_⟩
    · rcases hext.Gn b j v hv with h1 | h1 | h1
      · rw [hgcG] at h1; exact .inl h1
      · exact .inr (.inl h1)
      · exact .inr (.inr (hpreO _ h1))
    · simp only [Gh.push]
      by_cases hm : id ∈ ρ'
      · obtain ⟨k, h1, h2, h3⟩ := hold id hi hm
        rw [if_pos hm, h3, hext.blk k (hgca k h1), ← h2, hgc]; rfl
      · rw [if_neg hm]
    · simp only [Gh.push]
      by_cases hm : id ∈ ρ'
      · obtain ⟨k, h1, h2, h3⟩ := hold id hi hm
        rw [if_pos hm, h3, hext.slv k (hgca k h1), ← h2, hgc]; rfl
      · rw [if_neg hm]
    · simp only [Gh.push]
      by_cases hm : id ∈ ρ'
      · obtain ⟨k, h1, h2, h3⟩ := hold id hi hm
        obtain ⟨r, hr⟩ := Option.isSome_iff_exists.1 (hfull k h1)
        have := get_keyed' hnd (R.ren ρ) Hin hb1 k r (by omega) hr
        rw [h2] at this
        exact absurd (by rw [this]; rfl) hn
      · rw [if_neg hm]
  · rcases hi with hi | ⟨hi, _⟩
    · exact .inl hi
    · rw [hρ'] at hi
      rcases List.mem_append.1 hi with h1 | h1
      · exact .inl (hmem id h1)
      · obtain ⟨i, hi', rfl⟩ := List.mem_range'.1 h1
        exact .inr ⟨by omega, by have := hs.nm; omega⟩
  · exact repAV_push hnd' (by rw [hlen']; exact hs.br) hrep
  · have hr := hr
    obtain ⟨k, r0, h1, h2, h3, h4⟩ := get_keyed hnd' (R.ren ρ') Hout hb2 id r hr
    obtain ⟨h5, h6⟩ := idxOf_getD hnd' h2
    rw [h3] at h5 h6
    exact .inr ⟨h5, by rw [h6]; exact hheap.alive k r0 h1⟩
  · have hr := hr
    obtain ⟨k, r0, h1, h2, h3, h4⟩ := get_keyed hnd' (R.ren ρ') Hout hb2 id r hr
    have := holds_push (g := g) hnd' h2 (by rw [hlen']; exact (hs.bo _ (get_mem _ _ _ h1)).2) (hheap.holds k r0 h1)
    rw [h3, h4] at this
    exact this
  · have hr := hr
    obtain ⟨k1, r1, h1, h2, h3, h4⟩ := get_keyed hnd' (R.ren ρ') Hout hb2 id r hr
    obtain ⟨k2, r2, h5, h6, h7, h8⟩ := get_keyed hnd' (R.ren ρ') Hout hb2 id' r' hr'
    obtain ⟨i1, i2⟩ := idxOf_getD hnd' h2
    obtain ⟨i3, i4⟩ := idxOf_getD hnd' h6
    rw [h3] at i1 i2; rw [h7] at i3 i4
    simp only [Gh.push, if_pos i1, i2] at hk
    simp only [Gh.push, if_pos i3, i4]
    exact hheap.dj k1 k2 r1 r2 h1 h5 (fun e => hne (by rw [← h3, ← h7, e])) k hk
  · have hr := hr
    obtain ⟨k1, r1, h1, h2, h3, h4⟩ := get_keyed hnd' (R.ren ρ') Hout hb2 id r hr
    obtain ⟨i1, i2⟩ := idxOf_getD hnd' h2
    rw [h3] at i1 i2
    simp only [Gh.push, if_pos i1, i2] at hk
    rcases hown k ⟨k1, r1, h1, hk⟩ with h5 | h5
    · exact .inl (hpreO k h5)
    · exact .inr h5
  · have hr := hr
    obtain ⟨k1, r1, h1, h2, h3, h4⟩ := get_keyed hnd' (R.ren ρ') Hout hb2 id r hr
    by_cases hk : k1 < n
    · obtain ⟨r2, hr2⟩ := Option.isSome_iff_exists.1 (hfull k1 hk)
      have h5 := get_keyed' hnd (R.ren ρ) Hin hb1 k1 r2 (by omega) hr2
      have e : ρ.getD k1 0 = id := by rw [← h3, hρ', List.getD_eq_getElem?_getD, List.getD_eq_getElem?_getD, List.getElem?_append_left (by omega)]
      rw [e] at h5
      exact .inl (by rw [h5]; rfl)
    · refine .inr (fun hal => ?_)
      obtain ⟨i1, i2⟩ := idxOf_getD hnd' h2
      rw [h3] at i1 i2
      obtain ⟨k, h6, h7, h8⟩ := hold id hal i1
      omega
end Go.Proofs.Ytdmpocojbheoiaa.AM
