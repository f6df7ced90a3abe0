/- The abstract machine: variables in memory: boxes are made, read, written; fields; values are built. -/
import Derived.Test.YtdmpocojbheoiaaA4
import Derived.Laws.Tables
import Derived.Laws.CopyRow
import Derived.Laws.IdiomRangeMap
namespace Go.Proofs.Ytdmpocojbheoiaa.AM
open Go.RowKit

def splice (cs : List C) (off : Nat) (ds : List C) : List C := cs.take off ++ (ds ++ cs.drop (off + ds.length))
theorem repCs_splice {g : Gh} {vs xs : List Value} {cs ds : List C} (h : RepCs g vs cs) (k : RepCs g xs ds) (off : Nat) : RepCs g (vs.take off ++ (xs ++ vs.drop (off + xs.length))) (splice cs off ds) := by
  unfold splice
  rw [repCs_length k]
  exact repCs_append (repCs_take off h) (repCs_append k (repCs_drop _ h))

/-- The cells of a value. -/
def partCs : AV → Option (List C)
  | .c c => some [c]
  | .agg cs => some cs
  | _ => none
theorem part_rep {g : Gh} {v : Value} {a : AV} {ds : List C} (h : RepAV g v a) (hp : partCs a = some ds) : RepCs g v.cells.toList ds := by
  cases a with
  | c c =>
    simp only [partCs, Option.some.injEq] at hp; subst hp
    simp only [RepAV] at h
    have h1 := h.one
    have : v.cells = #[v] := by cases v <;> first | rfl | (simp [Value.oneCell'] at h1)
    rw [this]
    exact ⟨h, trivial⟩
  | agg cs =>
    simp only [partCs, Option.some.injEq] at hp; subst hp
    simp only [RepAV] at h
    obtain ⟨vs, rfl, h2⟩ := h
    exact h2
  | _ => simp [partCs] at hp

section
variable {P : Program} {ops : Array Oper} {n : Nat} {S : St} {dst : Option Nat} {ty : TypeId} {pos : String} {after : Array Edge}

def Gh.addBox (g : Gh) (n b : Nat) : Gh :=
  { G := g.G, blk := fun i => if i = n then b else g.blk i, slv := g.slv, F := fun i => if i = n then (fun k => k = b) else g.F i, alive := fun i => g.alive i ∨ i = n }
theorem addBox_le {g : Gh} {n b : Nat} (hn : ¬ g.alive n) : Le g (g.addBox n b) :=
  ⟨fun _ _ _ h => h, fun _ h => .inl h, fun id hi => by simp only [Gh.addBox]; rw [if_neg (by rintro rfl; exact hn hi)], fun _ _ => rfl⟩
theorem good_lt {g : Gh} {w : World} (h : Good g w) {b j : Nat} {v : Value} (hv : g.G b j = some v) : b < w.heap.size := World.block_lt_of_cell? w ⟨b, j, none⟩ (h b j v hv)
theorem good_none {g : Gh} {w : World} (h : Good g w) {b j : Nat} (hb : w.heap.size ≤ b) : g.G b j = none := by
  cases hv : g.G b j with
  | none => rfl
  | some v => have := good_lt h hv; omega

/-- A new box. -/
theorem behind_new {c : Cert} {g : Gh} {w : World} {cs : List C} {vs : Array Value} {t : TypeId} (hpre : c.pre = []) (hpost : c.post = [(n, .box cs)]) (hout : c.out = .c (.ptr n 0)) (hg : Good g w) (hn : ∀ id, n ≤ id → id < n + 8 → ¬ g.alive id)
    (hr : RepCs g vs.toList cs) : Behind n c g (g.addBox n w.heap.size) w (w.alloc (.cells vs t)) (.pointer (some ⟨w.heap.size, 0, none⟩)) := by
  have hn0 : ¬ g.alive n := hn n (Nat.le_refl _) (by omega)
  have hle := addBox_le (b := w.heap.size) hn0
  refine ⟨fun b j v hv => ?_, ⟨rfl, rfl, rfl, by simp, fun k hk _ => heap_alloc_old w _ hk, fun _ _ _ h => h, fun _ _ _ h => .inl h, hle.al, hle.blk, hle.slv, fun id hi _ => ?_⟩, fun id hi => ?_, ?_, ?_, fun k ⟨id, r, hr', hk⟩ => ?_, fun id r hr' => ?_⟩
  · have hv' : g.G b j = some v := hv
    rw [World.cell?_of_block (w := w) (heap_alloc_old w _ (good_lt hg hv'))]; exact hg b j v hv'
  · simp only [Gh.addBox]; rw [if_neg (by rintro rfl; exact hn0 hi)]
  · rcases hi with hi | rfl
    · exact .inl hi
    · exact .inr ⟨Nat.le_refl _, by omega⟩
  · rw [hout]; simp [RepAV, RepC, Gh.addBox]
  · rw [hpost]
    refine ⟨fun id r hr' => ?_, fun id r hr' => ?_, fun id id' r r' hr' hr'' hne => ?_⟩
    · rw [get_cons] at hr'; by_cases h : n = id
      · exact .inr h.symm
      · rw [if_neg h] at hr'; simp [get] at hr'
    · rw [get_cons] at hr'; by_cases h : n = id
      · rw [if_pos h] at hr'; injection hr' with hr'; subst hr'; subst h
        refine ⟨vs, t, by simp only [Gh.addBox, if_true]; exact heap_alloc_new w _, hr.mono hle, fun k => by simp [Gh.addBox], fun j => ?_⟩
        simp only [Gh.addBox, if_true]
        exact good_none hg (Nat.le_refl _)
      · rw [if_neg h] at hr'; simp [get] at hr'
    · rw [get_cons] at hr' hr''
      by_cases h : n = id
      · by_cases h' : n = id'
        · exact absurd (h.symm.trans h') hne
        · rw [if_neg h'] at hr''; simp [get] at hr''
      · rw [if_neg h] at hr'; simp [get] at hr'
  · rw [hpost, get_cons] at hr'
    by_cases h : n = id
    · subst h; simp only [Gh.addBox, if_true] at hk; exact .inr (by omega)
    · rw [if_neg h] at hr'; simp [get] at hr'
  · rw [hpost, get_cons] at hr'
    by_cases h : n = id
    · subst h; exact .inr hn0
    · rw [if_neg h] at hr'; simp [get] at hr'

/-- A zero value, as data. -/
inductive ZeroOk : List Value → List C → Prop
  | nil : ZeroOk [] []
  | v {x : Value} {xs : List Value} {cs : List C} (h : x.oneCell' = true) (k : ZeroOk xs cs) : ZeroOk (x :: xs) (.i (.v x) :: cs)
  | sl {esz : Nat} {xs : List Value} {cs : List C} (k : ZeroOk xs cs) : ZeroOk (.slice none 0 0 :: xs) (.i (.sl esz []) :: cs)
theorem ZeroOk.rep {g : Gh} {xs : List Value} {cs : List C} (h : ZeroOk xs cs) : RepCs g xs cs := by
  induction h with
  | nil => trivial
  | v h _ ih => exact ⟨.v _ h, ih⟩
  | sl _ ih => exact ⟨impC_nil _ g _ (.v _ rfl), ih⟩
def tyZero (P : Program) (t : TypeId) (zs : List Value) : Prop := ∃ i z, P.info? t = some i ∧ i.zero = some z ∧ z.cells.toList = zs

theorem sound_alloc {o : Oper} {t : TypeId} {zs : List Value} {cs : List C} (hg : o.guard = none) (ho : o.op = .alloc t) (hz : tyZero P t zs) (hc : ZeroOk zs cs) : Sound P ops o n ⟨[], [], .c (.ptr n 0), [(n, .box cs)]⟩ := by
  intro Q K g a w hgood hT hH hn hK
  unfold stepWp
  rw [if_pos (by simp [Region.wanted, hg])]
  refine .inl ?_
  obtain ⟨i, z, h1, h2, h3⟩ := hz
  have hrun : (execOp a.eval o).run P w = .ok (.value (.pointer (some ⟨w.heap.size, 0, none⟩))) (w.alloc (.cells z.cells t)) := by
    simp [execOp, ho, Instr.alloc, zeroValue, typeInfo, h1, h2, newVar, newRow]
  unfold Oper.wp
  rw [hrun]
  exact hK _ _ _ (behind_new rfl rfl rfl hgood hn (by rw [h3]; exact hc.rep))
theorem s_alloc {t : TypeId} {zs : List Value} {cs : List C} (hz : tyZero P t zs) (hc : ZeroOk zs cs) (hd : dstOk dst S.sz = true) : Step P ops ⟨dst, .alloc t, ty, pos, after, none⟩ n S ⟨[], [], .c (.ptr n 0), [(n, .box cs)]⟩ :=
  ⟨sound_alloc rfl rfl hz hc, fun _ h => by simp at h, fun _ _ h => by simp [get] at h, dstOk_spec hd, (by intro h; first | rfl | assumption | exact absurd h (by simp [roOp]; done))⟩
theorem s_box {t : TypeId} {x : Operand} {av : AV} {cs : List C} (hx : ev S x = some av) (hf : flatC x = true) (hp : partCs av = some cs) (hd : dstOk dst S.sz = true) : Step P ops ⟨dst, .box t x, ty, pos, after, none⟩ n S ⟨rdOf x av, [], .c (.ptr n 0), [(n, .box cs)]⟩ :=
  ⟨fun Q K g a w hgood hT hH hn hK => by
    unfold stepWp
    rw [if_pos (by simp [Region.wanted])]
    refine .inl ?_
    have hrun : (execOp a.eval (⟨dst, .box t x, ty, pos, after, none⟩ : Oper)).run P w = .ok (.value (.pointer (some ⟨w.heap.size, 0, none⟩))) (w.alloc (.cells (a.eval x).cells t)) := by
      simp [execOp, Instr.box, newVar, newRow]
    unfold Oper.wp
    rw [hrun]
    exact hK _ _ _ (behind_new rfl rfl rfl hgood hn (part_rep (rep1' hx hf hT) hp)), rd1 hx, fun _ _ h => by simp [get] at h, dstOk_spec hd, (by intro h; first | rfl | assumption | exact absurd h (by simp [roOp]; done))⟩

/-! Reading. -/
theorem ptr_rep {g : Gh} {x : Value} {id off : Nat} (h : RepAV g x (.c (.ptr id off))) : g.alive id ∧ x = .pointer (some ⟨g.blk id, off, none⟩) := by simpa only [RepAV, RepC] using h
theorem hpre1 {id : Nat} {r : R} (hh : hget S.H id = some r) : ∀ i r', get [(id, r)] i = some r' → hget S.H i = some r' := fun i r' h => by
  rw [get_cons] at h
  by_cases e : id = i
  · rw [if_pos e] at h; injection h with h; subst h; subst e; exact hh
  · rw [if_neg e] at h; simp [get] at h
theorem get1 {id : Nat} {r : R} : get [(id, r)] id = some r := by simp [get_cons]
theorem s_load_agg {t : TypeId} {x : Operand} {id off k : Nat} {cs ds : List C} (hx : ev S x = some (.c (.ptr id off))) (hh : hget S.H id = some (.box cs)) (ht : tyAgg P t k) (hds : (cs.drop off).take k = ds) (hn : ds.length = k) (hd : dstOk dst S.sz = true) :
    Step P ops ⟨dst, .load t x, ty, pos, after, none⟩ n S ⟨rdOf x (.c (.ptr id off)), [(id, .box cs)], .agg ds, [(id, .box cs)]⟩ :=
  ⟨sound_run rfl rfl (fun g a w _ hT hH => by
    have e1 := ptr_rep (rep1' hx (flat_of_c hx) hT)
    obtain ⟨v, h1, h2⟩ := load_box (P := P) (off := off) (hH.holds id _ get1) ht (by rw [hds]; exact hn)
    refine ⟨v, ?_, by rw [hds] at h2; exact h2⟩
    simp [execOp, e1.2, Instr.loadAt, Instr.sureAddr, h1]), rd1 hx, hpre1 hh, dstOk_spec hd, (by intro h; first | rfl | assumption | exact absurd h (by simp [roOp]; done))⟩
theorem s_load {t : TypeId} {x : Operand} {id off : Nat} {cs : List C} {c : C} (hx : ev S x = some (.c (.ptr id off))) (hh : hget S.H id = some (.box cs)) (ht : tyOne P t) (hc : cs[off]? = some c) (hd : dstOk dst S.sz = true) :
    Step P ops ⟨dst, .load t x, ty, pos, after, none⟩ n S ⟨rdOf x (.c (.ptr id off)), [(id, .box cs)], .c c, [(id, .box cs)]⟩ :=
  ⟨sound_run rfl rfl (fun g a w _ hT hH => by
    have e1 := ptr_rep (rep1' hx (flat_of_c hx) hT)
    obtain ⟨v, h1, h2⟩ := load_box1 (P := P) (off := off) (hH.holds id _ get1) ht hc
    exact ⟨v, by simp [execOp, e1.2, Instr.loadAt, Instr.sureAddr, h1], h2⟩), rd1 hx, hpre1 hh, dstOk_spec hd, (by intro h; first | rfl | assumption | exact absurd h (by simp [roOp]; done))⟩
/-- Out of an element of what stays. -/
theorem s_loade_agg {t : TypeId} {x : Operand} {esz k off m : Nat} {rows : List (List I)} {ds : List I} (hx : ev S x = some (.c (.el esz rows k off))) (ht : tyAgg P t m) (hds : ((rows.getD k []).drop off).take m = ds) (hn : ds.length = m) (hd : dstOk dst S.sz = true) :
    Step P ops ⟨dst, .load t x, ty, pos, after, none⟩ n S ⟨rdOf x (.c (.el esz rows k off)), [], .agg (ds.map C.i), []⟩ :=
  ⟨sound_run rfl rfl (fun g a w hgood hT hH => by
    have e1 := rep1' hx (flat_of_c hx) hT
    simp only [RepAV, RepC] at e1
    obtain ⟨b, o, u, h1, h2, h3, h4, h5⟩ := e1
    have hj : ∀ j c, ds[j]? = some c → off + j < esz ∧ (rows.getD k [])[off + j]? = some c := fun j c hc => by
      rw [← hds, List.getElem?_take] at hc
      split at hc
      · rw [List.getElem?_drop] at hc
        have hlt := (List.getElem?_eq_some_iff.1 hc).1
        exact ⟨by omega, hc⟩
      · cases hc
    have hlen : ((List.range m).map fun j => u (off + j)).length = m := by simp
    refine ⟨.agg ((List.range m).map fun j => u (off + j)).toArray, ?_, ?_⟩
    · have := run_load_agg (P := P) (t := t) (vs := (List.range m).map fun j => u (off + j)) (by rw [hlen]; exact ht) w ⟨b, o + off, none⟩ (fun j v hv => by
        have hjm : j < m := by have := (List.getElem?_eq_some_iff.1 hv).1; simpa using this
        have hv' : v = u (off + j) := by simp [hjm] at hv; exact hv.symm
        subst hv'
        rw [add_off, show o + off + j = o + (off + j) by omega]
        refine hgood _ _ _ (h4 _ ?_)
        exact (hj j (ds[j]'(by omega)) (by simp [hn, hjm])).1)
      simp [execOp, h1, Instr.loadAt, Instr.sureAddr, this]
    · simp only [RepAV]
      refine ⟨_, rfl, repCs_of (by simp [hn]) (fun j x c hx hc => ?_)⟩
      simp only [List.getElem?_map] at hc
      cases hcd : ds[j]? with
      | none => rw [hcd] at hc; simp at hc
      | some i =>
        rw [hcd] at hc; simp only [Option.map_some, Option.some.injEq] at hc; subst hc
        have hjm : j < m := by have := (List.getElem?_eq_some_iff.1 hcd).1; omega
        simp [hjm] at hx
        subst hx
        exact h5 _ _ (hj j i hcd).2), rd1 hx, fun _ _ h => by simp [get] at h, dstOk_spec hd, (by intro h; first | rfl | assumption | exact absurd h (by simp [roOp]; done))⟩
theorem s_loade {t : TypeId} {x : Operand} {esz k off : Nat} {rows : List (List I)} {c : I} (hx : ev S x = some (.c (.el esz rows k off))) (ht : tyOne P t) (hc : (rows.getD k [])[off]? = some c) (hd : dstOk dst S.sz = true) :
    Step P ops ⟨dst, .load t x, ty, pos, after, none⟩ n S ⟨rdOf x (.c (.el esz rows k off)), [], .c (.i c), []⟩ :=
  ⟨sound_run rfl rfl (fun g a w hgood hT hH => by
    have e1 := rep1' hx (flat_of_c hx) hT
    simp only [RepAV, RepC] at e1
    obtain ⟨b, o, u, h1, h2, h3, h4, h5⟩ := e1
    have hlt := (List.getElem?_eq_some_iff.1 hc).1
    have hcell := hgood _ _ _ (h4 off (by omega))
    exact ⟨u off, by simp [execOp, h1, Instr.loadAt, Instr.sureAddr, run_load_one ht w _ hcell], by simp only [RepAV, RepC]; exact h5 _ _ hc⟩), rd1 hx, fun _ _ h => by simp [get] at h, dstOk_spec hd, (by intro h; first | rfl | assumption | exact absurd h (by simp [roOp]; done))⟩

theorem s_loade_agg' {t : TypeId} {x : Operand} {esz k off m : Nat} {rows : List (List I)} {row ds : List I} (hx : ev S x = some (.c (.el esz rows k off))) (hrow : rows.getD k [] = row) (ht : tyAgg P t m) (hds : (row.drop off).take m = ds) (hn : ds.length = m) (hd : dstOk dst S.sz = true) :
    Step P ops ⟨dst, .load t x, ty, pos, after, none⟩ n S ⟨rdOf x (.c (.el esz rows k off)), [], .agg (ds.map C.i), []⟩ := s_loade_agg hx ht (by rw [hrow]; exact hds) hn hd
theorem s_loade_all {t : TypeId} {x : Operand} {esz k : Nat} {rows : List (List I)} {row : List I} (hx : ev S x = some (.c (.el esz rows k 0))) (hrow : rows.getD k [] = row) (ht : tyAgg P t row.length) (hd : dstOk dst S.sz = true) :
    Step P ops ⟨dst, .load t x, ty, pos, after, none⟩ n S ⟨rdOf x (.c (.el esz rows k 0)), [], .agg (row.map C.i), []⟩ := s_loade_agg hx ht (by rw [hrow]; simp) rfl hd
theorem s_loade' {t : TypeId} {x : Operand} {esz k off : Nat} {rows : List (List I)} {row : List I} {c : I} (hx : ev S x = some (.c (.el esz rows k off))) (hrow : rows.getD k [] = row) (ht : tyOne P t) (hc : row[off]? = some c) (hd : dstOk dst S.sz = true) :
    Step P ops ⟨dst, .load t x, ty, pos, after, none⟩ n S ⟨rdOf x (.c (.el esz rows k off)), [], .c (.i c), []⟩ := s_loade hx ht (by rw [hrow]; exact hc) hd
theorem s_load_all {t : TypeId} {x : Operand} {id : Nat} {cs : List C} (hx : ev S x = some (.c (.ptr id 0))) (hh : hget S.H id = some (.box cs)) (ht : tyAgg P t cs.length) (hd : dstOk dst S.sz = true) :
    Step P ops ⟨dst, .load t x, ty, pos, after, none⟩ n S ⟨rdOf x (.c (.ptr id 0)), [(id, .box cs)], .agg cs, [(id, .box cs)]⟩ := s_load_agg hx hh ht (by simp) rfl hd

/-! Writing. -/
theorem behind_set {c : Cert} {g : Gh} {w : World} {id : Nat} {cs cs' : List C} {vs vs' : Array Value} {t : TypeId} {v : Value} (hpre : c.pre = [(id, .box cs)]) (hpost : c.post = [(id, .box cs')]) (hg : Good g w) (hH : HeapH g (get c.pre) w) (hv : RepAV g v c.out)
    (h1 : w.heap[g.blk id]? = some (.cells vs t (0, 0))) (hr : RepCs g vs'.toList cs') : Behind n c g g w (w.setRow (g.blk id) vs') v := by
  rw [hpre] at hH
  obtain ⟨vs0, t0, b1, b2, b3, b4⟩ := hH.holds id _ get1
  have hW : ∀ k, ¬ Owned g c.pre k → k ≠ g.blk id := fun k hk e => hk ⟨id, _, by rw [hpre]; exact get1, (b3 k).2 e⟩
  refine ⟨fun b j x hx => ?_, ⟨rfl, rfl, rfl, by simp, fun k hk hn => setRow_other w _ _ _ (hW k hn), fun _ _ _ h => h, fun _ _ _ h => .inl h, fun _ h => h, fun _ _ => rfl, fun _ _ => rfl, fun _ _ _ => rfl⟩, fun _ h => .inl h, hv, ?_, fun k hk => .inl ?_, fun i r hr' => .inl ?_⟩
  · have hne : b ≠ g.blk id := by rintro rfl; rw [b4] at hx; cases hx
    rw [cell_setRow_other w _ _ ⟨b, j, none⟩ hne]; exact hg b j x hx
  · rw [hpost]
    refine ⟨fun i r hr' => ?_, fun i r hr' => ?_, fun i i' r r' hr' hr'' hne => ?_⟩
    · rw [get_cons] at hr'; by_cases e : id = i
      · subst e; exact hH.alive id _ get1
      · rw [if_neg e] at hr'; simp [get] at hr'
    · rw [get_cons] at hr'; by_cases e : id = i
      · rw [if_pos e] at hr'; injection hr' with hr'; subst hr'; subst e
        exact ⟨vs', t, setRow_heap w _ _ _ _ _ h1, hr, b3, b4⟩
      · rw [if_neg e] at hr'; simp [get] at hr'
    · rw [get_cons] at hr' hr''
      by_cases e : id = i
      · by_cases e' : id = i'
        · exact absurd (e.symm.trans e') hne
        · rw [if_neg e'] at hr''; simp [get] at hr''
      · rw [if_neg e] at hr'; simp [get] at hr'
  · rw [hpost] at hk
    obtain ⟨i, r, hr', hk⟩ := hk
    rw [get_cons] at hr'; by_cases e : id = i
    · subst e; exact ⟨id, _, by rw [hpre]; exact get1, hk⟩
    · rw [if_neg e] at hr'; simp [get] at hr'
  · rw [hpost, get_cons] at hr'
    by_cases e : id = i
    · subst e; rw [hpre, get1]; rfl
    · rw [if_neg e] at hr'; simp [get] at hr'

theorem run_storeVar_box {g : Gh} {w : World} {t : TypeId} {k off b : Nat} {vs : Array Value} {t0 : TypeId} {v : Value} {ds : List C} (hs : (P.info? t).map (·.size) = some k) (h1 : w.heap[b]? = some (.cells vs t0 (0, 0))) (hr : RepCs g v.cells.toList ds) (hk : ds.length = k) (hle : off + k ≤ vs.size) :
    (storeVar t ⟨b, off, none⟩ v).run P w = .ok () (w.setRow b (vs.toList.take off ++ (v.cells.toList ++ vs.toList.drop (off + v.cells.toList.length))).toArray) := by
  have hl := repCs_length hr
  have := run_storeCells_at (P := P) b off t0 v.cells.toList 0 vs w h1 (by omega) (repCs_one hr)
  unfold storeVar
  have hsz : v.cells.size = k := by have : v.cells.toList.length = v.cells.size := by simp
                                    omega
  simp only [Sem.run_bind, run_sizeOf hs, Result.andThen_ok, hsz, ne_eq, not_true_eq_false, if_false, Sem.run_pure]
  rw [this]
  simp [List.append_assoc]

theorem s_store {t : TypeId} {x y : Operand} {id off k : Nat} {cs ds cs' : List C} {av : AV} (hx : ev S x = some (.c (.ptr id off))) (hy : ev S y = some av) (hh : hget S.H id = some (.box cs)) (hs : (P.info? t).map (·.size) = some k) (hp : partCs av = some ds) (hk : ds.length = k) (hle : off + k ≤ cs.length)
    (hcs : splice cs off ds = cs') (hf : flatC y = true) (hd : dstOk dst S.sz = true) :
    Step P ops ⟨dst, .store t x y, ty, pos, after, none⟩ n S ⟨rdOf x (.c (.ptr id off)) ++ rdOf y av, [(id, .box cs)], .any, [(id, .box cs')]⟩ :=
  ⟨fun Q K g a w hgood hT hH hn hK => by
    unfold stepWp
    rw [if_pos (by simp [Region.wanted])]
    refine .inl ?_
    obtain ⟨e1, e2⟩ := rep2 hx hy (flat_of_c hx) hf hT
    have e1 := ptr_rep e1
    obtain ⟨vs, t0, b1, b2, b3, b4⟩ := hH.holds id _ get1
    have hr := part_rep e2 hp
    have hlen := repCs_length b2
    have hst := run_storeVar_box (P := P) (off := off) hs b1 hr hk (by have : vs.toList.length = vs.size := by simp
                                                                       omega)
    have hrun : (execOp a.eval (⟨dst, .store t x y, ty, pos, after, none⟩ : Oper)).run P w = .ok .skip (w.setRow (g.blk id) (vs.toList.take off ++ ((a.eval y).cells.toList ++ vs.toList.drop (off + (a.eval y).cells.toList.length))).toArray) := by
      simp only [execOp, e1.2, Instr.storeAt, Instr.sureAddr, Sem.run_bind, Sem.run_pure, Result.andThen_ok, hst]
    unfold Oper.wp
    rw [hrun, Oper.upon_skip]
    exact hK _ _ _ (behind_set rfl rfl hgood hH (by simp only [RepAV]) b1 (by rw [← hcs]; exact repCs_splice b2 hr off)), rd2 hx hy, hpre1 hh, dstOk_spec hd, (by intro h; first | rfl | assumption | exact absurd h (by simp [roOp]; done))⟩

theorem s_store_all {t : TypeId} {x y : Operand} {id : Nat} {cs ds : List C} {av : AV} (hx : ev S x = some (.c (.ptr id 0))) (hy : ev S y = some av) (hh : hget S.H id = some (.box cs)) (hs : (P.info? t).map (·.size) = some ds.length) (hp : partCs av = some ds) (hk : cs.length = ds.length) (hf : flatC y = true) (hd : dstOk dst S.sz = true) :
    Step P ops ⟨dst, .store t x y, ty, pos, after, none⟩ n S ⟨rdOf x (.c (.ptr id 0)) ++ rdOf y av, [(id, .box cs)], .any, [(id, .box ds)]⟩ :=
  s_store hx hy hh hs hp rfl (by omega) (by simp [splice, hk]) hf hd
/-! Places. -/
def tyFld (P : Program) (s : TypeId) (k off : Nat) : Prop := ∃ fields f m, P.underlying s = some (.struct fields) ∧ fields[k]? = some f ∧ f.offset = off ∧ (P.info? f.type).map (·.size) = some (m + 1)
theorem run_fieldAt {s : TypeId} {k fo : Nat} (h : tyFld P s k fo) (b o : Nat) (w : World) : (Instr.fieldAt s (.pointer (some ⟨b, o, none⟩)) k).run P w = .ok (.pointer (some ⟨b, o + fo, none⟩)) w := by
  obtain ⟨fields, f, m, h1, h2, h3, h4⟩ := h
  simp [Instr.fieldAt, run_underlying h1, h2, Instr.sureAddr, fieldPlace, run_sizeOf h4, h3, add_off]
theorem s_fieldAddr {s : TypeId} {x : Operand} {k fo id off : Nat} (hx : ev S x = some (.c (.ptr id off))) (h : tyFld P s k fo) (hd : dstOk dst S.sz = true) :
    Step P ops ⟨dst, .fieldAddr s x k, ty, pos, after, none⟩ n S ⟨rdOf x (.c (.ptr id off)), [], .c (.ptr id (off + fo)), []⟩ :=
  ⟨sound_run rfl rfl (fun g a w _ hT _ => by
    have e1 := ptr_rep (rep1' hx (flat_of_c hx) hT)
    refine ⟨.pointer (some ⟨g.blk id, off + fo, none⟩), ?_, by simp only [RepAV, RepC]; exact ⟨e1.1, trivial⟩⟩
    simp only [execOp, e1.2, Sem.run_bind, run_fieldAt h, Result.andThen_ok, Sem.run_pure]), rd1 hx, fun _ _ h => by simp [get] at h, dstOk_spec hd, (by intro h; first | rfl | assumption | exact absurd h (by simp [roOp]; done))⟩
theorem s_fieldAddre {s : TypeId} {x : Operand} {k fo esz i off : Nat} {rows : List (List I)} (hx : ev S x = some (.c (.el esz rows i off))) (h : tyFld P s k fo) (hd : dstOk dst S.sz = true) :
    Step P ops ⟨dst, .fieldAddr s x k, ty, pos, after, none⟩ n S ⟨rdOf x (.c (.el esz rows i off)), [], .c (.el esz rows i (off + fo)), []⟩ :=
  ⟨sound_run rfl rfl (fun g a w _ hT _ => by
    have e1 := rep1' hx (flat_of_c hx) hT
    simp only [RepAV, RepC] at e1
    obtain ⟨b, o, u, h1, h2⟩ := e1
    refine ⟨.pointer (some ⟨b, o + off + fo, none⟩), ?_, by simp only [RepAV, RepC]; exact ⟨b, o, u, by rw [Nat.add_assoc], h2⟩⟩
    simp only [execOp, h1, Sem.run_bind, run_fieldAt h, Result.andThen_ok, Sem.run_pure]), rd1 hx, fun _ _ h => by simp [get] at h, dstOk_spec hd, (by intro h; first | rfl | assumption | exact absurd h (by simp [roOp]; done))⟩
/-- An array's element, by its address. -/
theorem s_indexArr {t e : TypeId} {x y : Operand} {len esz id off : Nat} {k : IntKind} {i : Int} (hx : ev S x = some (.c (.ptr id off))) (hy : ev S y = some (vv (.int k i))) (ht : P.underlying t = some (.array len e)) (he : (P.info? e).map (·.size) = some esz) (h0 : 0 ≤ i) (h1 : i < len) (hd : dstOk dst S.sz = true) :
    Step P ops ⟨dst, .indexAddr t x y, ty, pos, after, none⟩ n S ⟨rdOf x (.c (.ptr id off)) ++ rdOf y (vv (.int k i)), [], .c (.ptr id (off + i.toNat * esz)), []⟩ :=
  ⟨sound_run rfl rfl (fun g a w _ hT _ => by
    obtain ⟨e1, e2⟩ := rep2 hx hy (flat_of_c hx) (flat_of_c hy) hT
    have e1 := ptr_rep e1
    refine ⟨.pointer (some ⟨g.blk id, off + i.toNat * esz, none⟩), ?_, by simp only [RepAV, RepC]; exact ⟨e1.1, trivial⟩⟩
    simp [execOp, e1.2, repV e2, Instr.indexAt, asIntOf, run_underlying ht, Instr.sureAddr, run_sizeOf he, h0, h1, add_off]), rd2 hx hy, fun _ _ h => by simp [get] at h, dstOk_spec hd, (by intro h; first | rfl | assumption | exact absurd h (by simp [roOp]; done))⟩

/-! Values are built. -/
def pairAt (l : List (Nat × Nat)) (i : Nat) : Option (Nat × Nat) := l[i]?
def fillC (pl : List (Nat × Nat)) (cs : List C) : List (Nat × AV) → Option (List C)
  | [] => some cs
  | (i, a) :: rest =>
    match pl[i]?, partCs a with
    | some (off, size), some ds => bif Nat.beq ds.length size && Nat.ble (off + size) cs.length then fillC pl (splice cs off ds) rest else none
    | _, _ => none
theorem foldl_zip (off : Nat) : ∀ (xs : List Value) (k : Nat) (acc : Array Value), off + k + xs.length ≤ acc.size →
    ((xs.zipIdx k).foldl (fun cs (p : Value × Nat) => cs.setIfInBounds (off + p.2) p.1) acc).toList = acc.toList.take (off + k) ++ (xs ++ acc.toList.drop (off + k + xs.length))
  | [], k, acc, _ => by simp
  | x :: xs, k, acc, h => by
    simp only [List.length_cons] at h
    rw [List.zipIdx_cons, List.foldl_cons, foldl_zip off xs (k + 1) _ (by simp; omega)]
    simp only [Array.toList_setIfInBounds]
    have hlt : off + k < acc.toList.length := by simp; omega
    rw [show off + (k + 1) = off + k + 1 by omega, List.take_succ_eq_append_getElem (by simpa using hlt)]
    rw [List.take_set_of_le (Nat.le_refl _)]
    simp only [List.getElem_set_self, List.append_assoc, List.cons_append, List.nil_append]
    rw [List.drop_set_of_lt (by omega)]
    simp only [List.length_cons]
    rw [show off + k + 1 + xs.length = off + k + (xs.length + 1) by omega]
theorem fill_rep {g : Gh} (pl : Nat → Option (Nat × Nat)) (pls : List (Nat × Nat)) (hpl : ∀ i p, pls[i]? = some p → pl i = some p) : ∀ (parts : List (Nat × Value)) (avs : List (Nat × AV)) (cells : Array Value) (cs cs' : List C),
    parts.map (·.1) = avs.map (·.1) → RepAVs g (parts.map (·.2)) (avs.map (·.2)) → RepCs g cells.toList cs → fillC pls cs avs = some cs' → ∃ cells', Instr.fill pl cells parts = some cells' ∧ RepCs g cells'.toList cs'
  | [], [], cells, cs, cs', _, _, h, hf => by simp only [fillC, Option.some.injEq] at hf; subst hf; exact ⟨cells, rfl, h⟩
  | (i, v) :: parts, (j, a) :: avs, cells, cs, cs', hk, hr, h, hf => by
    simp only [List.map_cons, List.cons.injEq] at hk
    obtain ⟨rfl, hk⟩ := hk
    simp only [List.map_cons, RepAVs] at hr
    simp only [fillC] at hf
    cases hp : pls[i]? with
    | none => rw [hp] at hf; simp at hf
    | some p =>
      obtain ⟨off, size⟩ := p
      cases hpc : partCs a with
      | none => rw [hp, hpc] at hf; simp at hf
      | some ds =>
        rw [hp, hpc] at hf
        simp only [Bool.cond_eq_ite, Bool.and_eq_true, Nat.beq_eq_true_eq, Nat.ble_eq] at hf
        split at hf
        · rename_i hc
          obtain ⟨hc1, hc2⟩ := hc
          have hc1 : ds.length = size := by simpa using hc1
          have hc2 : off + size ≤ cs.length := by simpa using hc2
          have hvr := part_rep hr.1 hpc
          have hl := repCs_length hvr
          have hl2 := repCs_length h
          have hsz : v.cells.size = size := by have : v.cells.toList.length = v.cells.size := by simp
                                               omega
          have hcs : cells.size = cs.length := by have : cells.toList.length = cells.size := by simp
                                                  omega
          have hfold : (v.cells.zipIdx.foldl (fun cs (p : Value × Nat) => cs.setIfInBounds (off + p.2) p.1) cells).toList = cells.toList.take off ++ (v.cells.toList ++ cells.toList.drop (off + v.cells.toList.length)) := by
            have := foldl_zip off v.cells.toList 0 cells (by simp; omega)
            rw [← Array.foldl_toList, Array.toList_zipIdx]
            simpa using this
          obtain ⟨cells', h1, h2⟩ := fill_rep pl pls hpl parts avs (v.cells.zipIdx.foldl (fun cs (p : Value × Nat) => cs.setIfInBounds (off + p.2) p.1) cells) (splice cs off ds) cs' hk hr.2 (by rw [hfold]; exact repCs_splice h hvr off) hf
          refine ⟨cells', ?_, h2⟩
          simp only [Instr.fill, hpl i _ hp]
          have h3 : ¬ (v.cells.size ≠ size ∨ off + v.cells.size > cells.size) := by omega
          simp only [ne_eq, Bool.or_eq_true, decide_eq_true_eq, h3, if_false]
          exact h1
        · simp at hf
  | [], _ :: _, _, _, _, hk, _, _, _ => by simp at hk
  | _ :: _, [], _, _, _, hk, _, _, _ => by simp at hk
/-- A struct: its zero, and where its fields lie. -/
def fldOk (P : Program) : List Field → List (Nat × Nat) → Prop
  | [], [] => True
  | f :: fs, (off, sz) :: l => f.offset = off ∧ (P.info? f.type).map (·.size) = some sz ∧ fldOk P fs l
  | _, _ => False
def tyStruct (P : Program) (t : TypeId) (zs : List Value) (pls : List (Nat × Nat)) : Prop := tyZero P t zs ∧ ∃ fields : Array Field, P.underlying t = some (.struct fields) ∧ fldOk P fields.toList pls
theorem run_places : ∀ (fs : List Field) (l : List (Nat × Nat)) (w : World), fldOk P fs l → ((fs.mapM fun f => do pure (f.offset, ← sizeOf f.type) : Sem (List (Nat × Nat)))).run P w = .ok l w
  | [], [], w, _ => by simp
  | f :: fs, (off, sz) :: l, w, h => by
    simp only [List.mapM_cons, Sem.run_bind, run_sizeOf h.2.1, Result.andThen_ok, Sem.run_pure, run_places fs l w h.2.2, h.1]
  | [], _ :: _, _, h => h.elim
  | _ :: _, [], _, h => h.elim

def evs (S : St) : List Operand → Option (List AV)
  | [] => some []
  | x :: l => match ev S x, evs S l with | some a, some r => some (a :: r) | _, _ => none
theorem evs_opds : ∀ {xs : List Operand} {avs : List AV}, evs S xs = some avs → (xs.all flatC) = true → Opds xs avs ∧ ∀ p ∈ rdsOf xs avs, get S.T p.1 = some p.2
  | [], avs, h, _ => by simp only [evs, Option.some.injEq] at h; subst h; exact ⟨.nil, by simp [rdsOf]⟩
  | x :: l, avs, h, hf => by
    simp only [evs] at h
    cases h1 : ev S x with
    | none => rw [h1] at h; simp at h
    | some a =>
      cases h2 : evs S l with
      | none => rw [h1, h2] at h; simp at h
      | some r =>
        rw [h1, h2] at h; simp only [Option.some.injEq] at h; subst h
        simp only [List.all_cons, Bool.and_eq_true] at hf
        obtain ⟨h3, h4⟩ := evs_opds h2 hf.2
        refine ⟨.cons (ev_opd h1) hf.1 h3, fun p hp => ?_⟩
        simp only [rdsOf] at hp
        rcases List.mem_append.1 hp with hp | hp
        · exact ev_rd h1 p hp
        · exact h4 p hp
theorem s_build {t : TypeId} {parts : Array (Nat × Operand)} {zs : List Value} {pls : List (Nat × Nat)} {cs cs' : List C} {avs : List AV} (ht : tyStruct P t zs pls) (hc : ZeroOk zs cs) (hev : evs S (parts.toList.map (·.2)) = some avs) (hf : (parts.toList.map (·.2)).all flatC = true)
    (hfill : fillC pls cs ((parts.toList.map (·.1)).zip avs) = some cs') (hd : dstOk dst S.sz = true) : Step P ops ⟨dst, .build t parts, ty, pos, after, none⟩ n S ⟨rdsOf (parts.toList.map (·.2)) avs, [], .agg cs', []⟩ :=
  ⟨sound_run rfl rfl (fun g a w _ hT _ => by
    obtain ⟨h1, h2⟩ := evs_opds hev hf
    have hr := opds_rep (a := a) h1 hT
    obtain ⟨⟨i, z, z1, z2, z3⟩, fields, f1, f2⟩ := ht
    have hlen : (parts.toList.map (·.1)).length = avs.length := by have := repAVs_length hr; simpa using this
    obtain ⟨cells', e1, e2⟩ := fill_rep (g := g) (fun i => (fields.toList.map fun f => (f.offset, ((P.info? f.type).map (·.size)).getD 0))[i]?) pls (fun i p hi => by
        have key : ∀ (fs : List Field) (l : List (Nat × Nat)), fldOk P fs l → (fs.map fun f => (f.offset, ((P.info? f.type).map (·.size)).getD 0)) = l := by
          intro fs
          induction fs with
          | nil => intro l h; cases l with
            | nil => rfl
            | cons => exact h.elim
          | cons f fs ih => intro l h; cases l with
            | nil => exact h.elim
            | cons q l => obtain ⟨off, sz⟩ := q; simp only [fldOk] at h; simp [h.1, h.2.1, ih l h.2.2]
        rw [key _ _ f2]; exact hi) (parts.toList.map fun p => (p.1, a.eval p.2)) ((parts.toList.map (·.1)).zip avs) z.cells cs cs' (by
          rw [List.map_map, List.map_fst_zip (by omega)]; rfl) (by
          rw [List.map_map, List.map_snd_zip (by omega)]
          have e : (parts.toList.map ((fun x => x.2) ∘ fun p => (p.1, a.eval p.2))) = (parts.toList.map (·.2)).map a.eval := by simp
          rw [e]; exact hr) (by rw [z3]; exact hc.rep) hfill
    refine ⟨.agg cells', ?_, by simp only [RepAV]; exact ⟨_, rfl, e2⟩⟩
    have hpl := run_places (P := P) fields.toList pls w f2
    have hm : (fields.mapM fun f => do pure (f.offset, ← sizeOf f.type) : Sem (Array (Nat × Nat))).run P w = .ok pls.toArray w := by
      rw [Array.mapM_eq_mapM_toList]
      simp only [Sem.run_map, hpl, Result.andThen_ok]
    have hfl : Instr.fill (fun i : Nat => pls.toArray[i]?) z.cells (parts.map fun x => (x.1, a.eval x.2)).toList = some cells' := by
      have e : (fun i : Nat => pls.toArray[i]?) = (fun i : Nat => (fields.toList.map fun f => (f.offset, ((P.info? f.type).map (·.size)).getD 0))[i]?) := by
        funext i
        have key : ∀ (fs : List Field) (l : List (Nat × Nat)), fldOk P fs l → (fs.map fun f => (f.offset, ((P.info? f.type).map (·.size)).getD 0)) = l := by
          intro fs
          induction fs with
          | nil => intro l h; cases l with
            | nil => rfl
            | cons => exact h.elim
          | cons f fs ih => intro l h; cases l with
            | nil => exact h.elim
            | cons q l => obtain ⟨off, sz⟩ := q; simp only [fldOk] at h; simp [h.1, h.2.1, ih l h.2.2]
        rw [key _ _ f2]; simp
      rw [e]
      simpa using e1
    simp only [execOp, Instr.build, zeroValue, typeInfo, Sem.run_bind, run_program, Result.andThen_ok, z1, z2, Sem.run_pure, run_underlying f1, hm, hfl]), fun p hp => .inr ((evs_opds hev hf).2 p hp), fun _ _ h => by simp [get] at h, dstOk_spec hd, (by intro h; first | rfl | assumption | exact absurd h (by simp [roOp]; done))⟩

/-! Parts of struct values, of array values. -/
theorem s_field {t e : TypeId} {x : Operand} {k : Nat} {cs : List C} {c : C} {fields : Array Field} {f : Field} (hx : ev S x = some (.agg cs)) (hf : flatC x = true) (ht : P.underlying t = some (.struct fields)) (hk : fields[k]? = some f) (he : tyOne P f.type) (hc : cs[f.offset]? = some c) (hd : dstOk dst S.sz = true) :
    Step P ops ⟨dst, .field t x k, ty, pos, after, none⟩ n S ⟨rdOf x (.agg cs), [], .c c, []⟩ :=
  ⟨sound_run rfl rfl (fun g a w _ hT _ => by
    have e1 := rep1' hx hf hT
    simp only [RepAV] at e1
    obtain ⟨vs, h1, h2⟩ := e1
    obtain ⟨v, h3, h4⟩ := repCs_get h2 _ c hc
    obtain ⟨d, t1, t2, t3⟩ := he
    refine ⟨v, ?_, by simp only [RepAV]; exact h4⟩
    have h3' : vs[f.offset]? = some v := by simpa using h3
    simp [execOp, h1, Instr.field, run_underlying ht, hk, part, asAgg, run_isAgg t1, t2, h3']), rd1 hx, fun _ _ h => by simp [get] at h, dstOk_spec hd, (by intro h; first | rfl | assumption | exact absurd h (by simp [roOp]; done))⟩
theorem s_index {t e : TypeId} {x y : Operand} {len esz : Nat} {k : IntKind} {i : Int} {cs : List C} {c : C} (hx : ev S x = some (.agg cs)) (hf : flatC x = true) (hy : ev S y = some (vv (.int k i))) (ht : P.underlying t = some (.array len e)) (he : tyOne P e) (h0 : 0 ≤ i) (h1 : i < len) (hc : cs[i.toNat]? = some c) (hd : dstOk dst S.sz = true) :
    Step P ops ⟨dst, .index t x y, ty, pos, after, none⟩ n S ⟨rdOf x (.agg cs) ++ rdOf y (vv (.int k i)), [], .c c, []⟩ :=
  ⟨sound_run rfl rfl (fun g a w _ hT _ => by
    obtain ⟨e1, e2⟩ := rep2 hx hy hf (flat_of_c hy) hT
    simp only [RepAV] at e1
    obtain ⟨vs, h2, h3⟩ := e1
    obtain ⟨v, h4, h5⟩ := repCs_get h3 _ c hc
    obtain ⟨d, t1, t2, t3⟩ := he
    refine ⟨v, ?_, by simp only [RepAV]; exact h5⟩
    have h4' : vs[i.toNat]? = some v := by simpa using h4
    simp [execOp, h2, repV e2, Instr.index, asIntOf, run_underlying ht, h0, h1, part, run_isAgg t1, t2, run_sizeOf t3, h4']), rd2 hx hy, fun _ _ h => by simp [get] at h, dstOk_spec hd, (by intro h; first | rfl | assumption | exact absurd h (by simp [roOp]; done))⟩

/-! Equality of structs, by a run of one's own; of pointers with nil. -/
theorem s_eqrun {op : BinOp} {t t' : TypeId} {x y : Operand} {av bv : AV} {r : Bool} (hx : ev S x = some av) (hy : ev S y = some bv) (fx : flatC x = true) (fy : flatC y = true)
    (hrun : ∀ g u v w, RepAV g u av → RepAV g v bv → (do eqGuard op t x y u v; binOp op t u v : Sem Value).run P w = .ok (.bool r) w) (hd : dstOk dst S.sz = true) :
    Step P ops ⟨dst, .binOp op t x y t', ty, pos, after, none⟩ n S ⟨rdOf x av ++ rdOf y bv, [], vv (.bool r), []⟩ :=
  ⟨sound_run rfl rfl (fun g a w _ hT _ => by
    obtain ⟨e1, e2⟩ := rep2 hx hy fx fy hT
    have := hrun g _ _ w e1 e2
    refine ⟨.bool r, ?_, rep_vv rfl⟩
    simp only [execOp, Sem.run_bind] at this ⊢
    rw [this]; rfl), rd2 hx hy, fun _ _ h => by simp [get] at h, dstOk_spec hd, (by intro h; first | rfl | assumption | exact absurd h (by simp [roOp]; done))⟩
theorem run_ptr_nil (d : Nat) {t e : TypeId} {a : Addr} (ht : P.underlying t = some (.pointer e)) (w : World) : (Op.equalIn (d + 1) t (.pointer (some a)) (.pointer none)).run P w = .ok false w := by
  simp [Op.equalIn, run_underlying ht]
theorem run_nil_nil (d : Nat) {t e : TypeId} (ht : P.underlying t = some (.pointer e)) (w : World) : (Op.equalIn (d + 1) t (.pointer none) (.pointer none)).run P w = .ok true w := by
  simp [Op.equalIn, run_underlying ht]
theorem s_ptrnil {t t' e : TypeId} {x : Operand} {id off : Nat} {op : BinOp} {r : Bool} (hx : ev S x = some (.c (.ptr id off))) (ht : P.underlying t = some (.pointer e)) (hr : (match op with | .eql => some false | .neq => some true | _ => none) = some r) (hd : dstOk dst S.sz = true) :
    Step P ops ⟨dst, .binOp op t x (.const (.pointer none)) t', ty, pos, after, none⟩ n S ⟨rdOf x (.c (.ptr id off)) ++ [], [], vv (.bool r), []⟩ :=
  s_eqrun (bv := vv (.pointer none)) hx rfl (flat_of_c hx) rfl (fun g u v w hu hv => by
    have e1 := (ptr_rep hu).2
    have e2 := repV hv
    subst e1 e2
    have h1 : (Op.equal t (.pointer (some ⟨g.blk id, off, none⟩)) (.pointer none)).run P w = .ok false w := run_ptr_nil 9999 ht w
    cases op <;> simp only [Option.some.injEq, reduceCtorEq] at hr <;> subst hr <;> simp [eqGuard, binOp, h1]) hd
theorem s_nilnil {t t' e : TypeId} {x : Operand} {op : BinOp} {r : Bool} (hx : ev S x = some (vv (.pointer none))) (ht : P.underlying t = some (.pointer e)) (hr : (match op with | .eql => some true | .neq => some false | _ => none) = some r) (hd : dstOk dst S.sz = true) :
    Step P ops ⟨dst, .binOp op t x (.const (.pointer none)) t', ty, pos, after, none⟩ n S ⟨rdOf x (vv (.pointer none)) ++ [], [], vv (.bool r), []⟩ :=
  s_eqrun (bv := vv (.pointer none)) hx rfl (flat_of_c hx) rfl (fun g u v w hu hv => by
    have e1 := repV hu
    have e2 := repV hv
    subst e1 e2
    have h1 : (Op.equal t (.pointer none) (.pointer none)).run P w = .ok true w := run_nil_nil 9999 ht w
    cases op <;> simp only [Option.some.injEq, reduceCtorEq] at hr <;> subst hr <;> simp [eqGuard, binOp, h1]) hd

/-- A call, of a state. -/
theorem s_call {f : FuncId} {fo : Operand} {caps : List C} {xs : Array Operand} {tys : Array TypeId} {m k : Nat} {args args' : List AV} {Hin : List (Nat × R)} {res : AV} {Hout : List (Nat × R)} (ρ : List Nat) (hc : Callable P f) (hs : FnSpec P f m k args Hin res Hout) (hfull : ∀ i, i < m → (get Hin i).isSome = true)
    (hfo : ev S fo = some (.fn f caps)) (hev : evs S xs.toList = some args') (hf : xs.toList.all flatC = true) (hρ : ρ.length = m) (hnd : ρ.Nodup) (hren : Imps (args' ++ caps.map AV.c) (renA ρ args)) (hpre : ∀ i r, get (Hin.map fun p => (ρ.getD p.1 0, p.2.ren ρ)) i = some r → hget S.H i = some r) (hd : dstOk dst S.sz = true) :
    Step P ops ⟨dst, .call { callee := .value fo, args := xs, argTypes := tys }, ty, pos, after, none⟩ n S ⟨rdOf fo (.fn f caps) ++ rdsOf xs.toList args', Hin.map (fun p => (ρ.getD p.1 0, p.2.ren ρ)), res.ren (ρ ++ newIds n (k - m)), Hout.map (fun p => ((ρ ++ newIds n (k - m)).getD p.1 0, p.2.ren (ρ ++ newIds n (k - m))))⟩ := by
  obtain ⟨h1, h2⟩ := evs_opds hev hf
  exact ⟨sound_call (tys := tys) ρ rfl (by simp) hc hs hfull (ev_opd hfo) h1 hρ hnd hren, fun p hp => by
    rcases List.mem_append.1 hp with hp | hp
    · exact rd1 hfo p hp
    · exact .inr (h2 p hp), hpre, dstOk_spec hd, (by intro h; first | rfl | assumption | exact absurd h (by simp [roOp]; done))⟩
/-- A call without resources. -/
theorem s_callv {f : FuncId} {fo : Operand} {caps : List C} {xs : Array Operand} {tys : Array TypeId} {k : Nat} {args args' : List AV} {res : AV} (hc : Callable P f) (hs : FnSpec P f 0 k args [] res [])
    (hfo : ev S fo = some (.fn f caps)) (hev : evs S xs.toList = some args') (hf : xs.toList.all flatC = true) (hren : Imps (args' ++ caps.map AV.c) args) (hb : res.bel 0) (hd : dstOk dst S.sz = true) :
    Step P ops ⟨dst, .call { callee := .value fo, args := xs, argTypes := tys }, ty, pos, after, none⟩ n S ⟨rdOf fo (.fn f caps) ++ rdsOf xs.toList args', [], res, []⟩ := by
  have := s_call (P := P) (ops := ops) (n := n) (S := S) (dst := dst) (ty := ty) (pos := pos) (after := after) (fo := fo) (caps := caps) (xs := xs) (tys := tys) (args' := args') [] hc hs (fun i hi => absurd hi (Nat.not_lt_zero _)) hfo hev hf rfl List.nodup_nil (by rw [renA0 hs.ba]; exact hren) (fun i r h => by simp [get] at h) hd
  rwa [AV.ren0 hb] at this
end
end Go.Proofs.Ytdmpocojbheoiaa.AM
