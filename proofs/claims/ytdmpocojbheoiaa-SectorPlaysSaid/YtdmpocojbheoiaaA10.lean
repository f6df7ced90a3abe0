/- The abstract machine: rows of one's own, written in place; what stays is told at last. -/
import Derived.Test.YtdmpocojbheoiaaA9
import Derived.Deep.OwnRows
namespace Go.Proofs.Ytdmpocojbheoiaa.AM
open Go.RowKit

def Gh.addRow (g : Gh) (n : Nat) (v : Value) : Gh :=
  { G := g.G, blk := fun i => if i = n then (match v with | .slice (some a) _ _ => a.block | _ => 0) else g.blk i, slv := fun i => if i = n then v else g.slv i, F := fun i => if i = n then (fun k => v.ownBlock = some k) else g.F i, alive := fun i => g.alive i ∨ i = n }
theorem rowIn.slice {w : World} {e esz n : Nat} {v : Value} {vs : List Value} (h : rowIn w e esz v n vs) : ∃ A c, v = .slice A n c := by
  rcases h.2 with ⟨c, rfl, rfl⟩ | ⟨b, cap, cur, fz, rfl, _⟩
  · exact ⟨none, c, rfl⟩
  · exact ⟨_, _, rfl⟩
section
variable {P : Program} {ops : Array Oper} {n : Nat} {S : St} {dst : Option Nat} {ty : TypeId} {pos : String} {after : Array Edge}

theorem behind_row {c : Cert} {g : Gh} {w w' : World} {v' : Value} {e esz k : Nat} {cs : List C} {all : List Value} (hpost : c.post = [(n, .row e esz cs)]) (hout : c.out = .c (.own n)) (hg : Good g w) (hn : ∀ id, n ≤ id → id < n + 8 → ¬ g.alive id)
    (hown : rowIn w' e esz v' k all) (hos : w'.os = w.os) (htp : w'.tape = w.tape) (hou : w'.output = w.output) (hsz : w.heap.size ≤ w'.heap.size) (hblk : ∀ k, k < w.heap.size → ¬ Owned g c.pre k → w'.heap[k]? = w.heap[k]?)
    (hv : ∀ b, v'.ownBlock = some b → (w.heap.size ≤ b ∨ Owned g c.pre b) ∧ ∀ j, g.G b j = none) (hab : ∀ b, Owned g c.pre b → ∀ j u, g.G b j = some u → w'.cell? ⟨b, j, none⟩ = some u)
    (hpre : ∀ id, (get c.pre id).isSome = true → g.alive id) (hr : RepCs g all cs) : Behind n c g (g.addRow n v') w w' v' := by
  have hn0 : ¬ g.alive n := hn n (Nat.le_refl _) (by omega)
  have hle : Le g (g.addRow n v') := ⟨fun _ _ _ h => h, fun _ h => .inl h, fun id hi => by simp only [Gh.addRow]; rw [if_neg (by rintro rfl; exact hn0 hi)], fun id hi => by simp only [Gh.addRow]; rw [if_neg (by rintro rfl; exact hn0 hi)]⟩
  refine ⟨fun b j u hu => ?_, ⟨hos, htp, hou, hsz, hblk, hle.G, fun _ _ _ h => .inl h, hle.al, hle.blk, hle.slv, fun id hi _ => by simp only [Gh.addRow]; rw [if_neg (by rintro rfl; exact hn0 hi)]⟩, fun id hi => ?_, ?_, ?_, fun b hb => ?_, fun id r hr' => ?_⟩
  · by_cases ho : Owned g c.pre b
    · exact hab b ho j u hu
    · rw [World.cell?_of_block (w := w) (hblk b (good_lt hg hu) ho)]; exact hg b j u hu
  · rcases hi with hi | rfl
    · exact .inl hi
    · exact .inr ⟨Nat.le_refl _, by omega⟩
  · rw [hout]
    simp only [RepAV, RepC]
    obtain ⟨A, cc, he⟩ := hown.slice
    exact ⟨.inr rfl, by simp [Gh.addRow], A, k, cc, he⟩
  · rw [hpost]
    refine ⟨fun id r hr' => ?_, fun id r hr' => ?_, fun id id' r r' hr' hr'' hne => ?_⟩
    · rw [get_cons] at hr'; by_cases h : n = id
      · exact .inr h.symm
      · rw [if_neg h] at hr'; simp [get] at hr'
    · rw [get_cons] at hr'; by_cases h : n = id
      · rw [if_pos h] at hr'; injection hr' with hr'; subst hr'; subst h
        refine ⟨k, all, by simp only [Gh.addRow, if_true]; exact hown, hr.mono hle, fun k => by simp [Gh.addRow], fun b hb => ?_⟩
        simp only [Gh.addRow, if_true] at hb ⊢
        refine ⟨?_, (hv b hb).2⟩
        cases v' with
        | slice A q c' =>
          cases A with
          | none => simp [Value.ownBlock] at hb
          | some a => simpa [Value.ownBlock] using hb
        | _ => simp [Value.ownBlock] at hb
      · rw [if_neg h] at hr'; simp [get] at hr'
    · rw [get_cons] at hr' hr''
      by_cases h : n = id
      · by_cases h' : n = id'
        · exact absurd (h.symm.trans h') hne
        · rw [if_neg h'] at hr''; simp [get] at hr''
      · rw [if_neg h] at hr'; simp [get] at hr'
  · rw [hpost] at hb
    obtain ⟨id, r, hr', hk⟩ := hb
    rw [get_cons] at hr'
    by_cases h : n = id
    · subst h; simp only [Gh.addRow, if_true] at hk; exact (hv _ hk).1.symm
    · rw [if_neg h] at hr'; simp [get] at hr'
  · rw [hpost, get_cons] at hr'
    by_cases h : n = id
    · subst h; exact .inr hn0
    · rw [if_neg h] at hr'; simp [get] at hr'

/-- append to an empty slice of one's own, or to nil: a row of one's own. -/
theorem s_append_own {t e : TypeId} {x y : Operand} {id esz bytes : Nat} {rows' : List (List I)} {cy : C} (ht : tyElem P t e esz bytes) (hx : ev S x = some (.c (.tok id esz []))) (hh : hget S.H id = some (.tok e esz)) (hy : ev S y = some (.c cy)) (hi : ImpC cy (.i (.sl esz rows')))
    (hb : rows'.length * bytes ≤ 140737488355328) (hd : dstOk dst S.sz = true) :
    Step P ops ⟨dst, .call { callee := .builtin .append, args := #[x, y], argTypes := #[t, t] }, ty, pos, after, none⟩ n S ⟨rdOf x (.c (.tok id esz [])) ++ rdOf y (.c cy), [(id, .tok e esz)], .c (.own n), [(n, .row e esz (rows'.flatten.map C.i))]⟩ := by
  refine ⟨fun Q K g a w hgood hT hH hn hK => ?_, rd2 hx hy, hpre1 hh, dstOk_spec hd, (by intro h; first | rfl | assumption | exact absurd h (by simp [roOp]; done))⟩
  unfold stepWp
  rw [if_pos (by simp [Region.wanted])]
  refine .inl ?_
  obtain ⟨e1, e2⟩ := rep2 hx hy (flat_of_c hx) (flat_of_c hy) hT
  simp only [RepAV, RepC] at e1
  obtain ⟨ha, hxe, hxr⟩ := e1
  obtain ⟨A, cap, us0, hx1, hx2, hx3⟩ := sl_cells hxr
  obtain ⟨A2, c2, us, hy1, hy2, hy3⟩ := app_src hgood (c_sl e2 hi)
  obtain ⟨k, vs, hown, hF, hGn⟩ := hH.holds id _ get1
  have hal := hH.alive id _ get1
  have hk : k = 0 := by
    rw [← hxe, hx1] at hown
    rcases hown.2 with ⟨h1, h2⟩ | ⟨b, cp, cur, h1, _⟩
    · simp only [Value.slice.injEq] at h1; omega
    · simp only [Value.slice.injEq, List.length_nil] at h1; omega
  subst hk
  have hvs : vs = [] := List.eq_nil_of_length_eq_zero (by simpa using hown.1)
  subst hvs
  rw [← hxe] at hown hF hGn
  obtain ⟨v', w', hrun, hown', hcase⟩ := run_app (P := P) w ht ty _ 0 [] hown A2 rows'.length c2 us hy2.len hy3 hy2.one (by simpa using hb)
  have hexec : (execOp a.eval (⟨dst, .call { callee := .builtin .append, args := #[x, y], argTypes := #[t, t] }, ty, pos, after, none⟩ : Oper)).run P w = .ok (.value v') w' := by
    simp only [execOp, resolve, invoke, builtin, Sem.run_bind, Sem.run_pure, Result.andThen_ok, List.map_toArray, List.map_cons, List.map_nil, hy1, hrun]
  unfold Oper.wp
  rw [hexec]
  simp only [List.nil_append, Nat.zero_add] at hown'
  have hgrown : w'.os = w.os ∧ w'.tape = w.tape ∧ w'.output = w.output ∧ w.heap.size ≤ w'.heap.size := by rcases hcase with ⟨_, h⟩ | ⟨_, h⟩ <;> exact ⟨h.os, h.tape, h.output, h.size⟩
  have hown1 : ∀ b, (a.eval x).ownBlock = some b → Owned g [(id, R.tok e esz)] b := fun b hb => ⟨id, _, get1, (hF b).2 hb⟩
  have hown2 : ∀ b, Owned g [(id, R.tok e esz)] b → (a.eval x).ownBlock = some b := fun b ⟨i, r, h1, h2⟩ => by
    rw [get_cons] at h1
    by_cases he : id = i
    · subst he; exact (hF b).1 h2
    · rw [if_neg he] at h1; simp [get] at h1
  refine hK _ w' v' (behind_row rfl rfl hgood hn (rowIn.of hown') hgrown.1 hgrown.2.1 hgrown.2.2.1 hgrown.2.2.2 (fun k hk hno => ?_) (fun b hb => ?_) (fun b ho j u hu => ?_) (fun i hi => ?_) ?_)
  · rcases hcase with ⟨_, h⟩ | ⟨_, h⟩
    · exact h.block k hk (fun he => hno (hown1 k he.symm))
    · exact h.block k hk (by simp)
  · rcases hcase with ⟨h1, _⟩ | ⟨h1, _⟩
    · rw [h1] at hb
      exact ⟨.inr (hown1 b hb), fun j => hGn b hb j (by omega)⟩
    · rw [h1] at hb; injection hb with hb; subst hb; exact ⟨.inl (Nat.le_refl _), fun j => good_none hgood (Nat.le_refl _)⟩
  · rw [hGn b (hown2 b ho) j (by omega)] at hu; cases hu
  · rw [get_cons] at hi
    by_cases he : id = i
    · subst he; exact hal
    · rw [if_neg he] at hi; simp [get] at hi
  · refine repCs_of (by rw [hy2.len, List.length_map, flat_len rows' hy2.hl]) (fun j u c hu hc => ?_)
    rw [List.getElem?_map] at hc
    cases hcd : rows'.flatten[j]? with
    | none => rw [hcd] at hc; simp at hc
    | some d =>
      rw [hcd] at hc; simp only [Option.map_some, Option.some.injEq] at hc; subst hc
      exact hy2.rep j u d hu hcd

/-! A row of one's own: its length, its places, its cells. -/
theorem row_open {g : Gh} {w : World} {id e esz : Nat} {cs : List C} (h : holds g w id (.row e esz cs)) (hne : 0 < cs.length) :
    ∃ m cap cur fz, g.slv id = .slice (some ⟨g.blk id, 0, none⟩) m cap ∧ w.heap[g.blk id]? = some (.cells cur e fz) ∧ m ≤ cap ∧ cs.length = m * esz ∧ RepCs g (cur.toList.take (m * esz)) cs ∧ (∀ j, j < m * esz → ¬ (fz.1 ≤ j ∧ j < fz.2)) := by
  obtain ⟨m, vs, h1, h2, h3, h4⟩ := h
  have hl := repCs_length h2
  rcases h1.2 with ⟨c, hv, h0⟩ | ⟨b, cap, cur, fz, hv, hc, hh, ht, hf⟩
  · have := h1.1; rw [h0, Nat.zero_mul] at this; omega
  · have hb : g.blk id = b := (h4 b (by rw [hv]; simp [Value.ownBlock])).1
    subst hb
    exact ⟨m, cap, cur, fz, hv, hh, hc, by rw [← hl, h1.1], by rw [ht]; exact h2, hf⟩
theorem row_len {g : Gh} {w : World} {id e esz k : Nat} {cs : List C} (h : holds g w id (.row e esz cs)) (he : 0 < esz) (hk : cs.length = k * esz) : ∃ A c, g.slv id = .slice A k c := by
  obtain ⟨m, vs, h1, h2, h3, h4⟩ := h
  have hl := repCs_length h2
  obtain ⟨A, c, hs⟩ := h1.slice
  have : m = k := Nat.eq_of_mul_eq_mul_right he (by rw [← h1.1, hl, hk])
  subst this
  exact ⟨A, c, hs⟩
theorem own_rep {g : Gh} {x : Value} {id : Nat} (h : RepAV g x (.c (.own id))) : g.alive id ∧ x = g.slv id := by
  simp only [RepAV, RepC] at h; exact ⟨h.1, h.2.1⟩
theorem s_len_own {t e e' : TypeId} {x : Operand} {id esz k : Nat} {cs : List C} (ht : P.underlying t = some (.slice e')) (hx : ev S x = some (.c (.own id))) (hh : hget S.H id = some (.row e esz cs)) (he : 0 < esz) (hk : cs.length = k * esz) (hd : dstOk dst S.sz = true) :
    Step P ops ⟨dst, .call { callee := .builtin .len, args := #[x], argTypes := #[t] }, ty, pos, after, none⟩ n S ⟨rdOf x (.c (.own id)), [(id, .row e esz cs)], vv (.int .i64 k), [(id, .row e esz cs)]⟩ :=
  ⟨sound_run rfl rfl (fun g a w _ hT hH => by
    obtain ⟨_, e1⟩ := own_rep (rep1' hx (flat_of_c hx) hT)
    obtain ⟨A, c, hs⟩ := row_len (hH.holds id _ get1) he hk
    refine ⟨.int .i64 k, ?_, rep_vv rfl⟩
    simp [execOp, resolve, invoke, builtin, Builtin.len_, e1, hs, run_underlying ht, goInt]), rd1 hx, hpre1 hh, dstOk_spec hd, (by intro h; first | rfl | assumption | exact absurd h (by simp [roOp]; done))⟩
theorem s_indexAddr_own {t e e' : TypeId} {x y : Operand} {id esz m : Nat} {k : IntKind} {i : Int} {cs : List C} (ht : P.underlying t = some (.slice e')) (he : (P.info? e').map (·.size) = some esz) (hx : ev S x = some (.c (.own id))) (hh : hget S.H id = some (.row e esz cs)) (hy : ev S y = some (vv (.int k i)))
    (h0 : 0 < esz) (hk : cs.length = m * esz) (h1 : 0 ≤ i) (h2 : i < m) (hd : dstOk dst S.sz = true) : Step P ops ⟨dst, .indexAddr t x y, ty, pos, after, none⟩ n S ⟨rdOf x (.c (.own id)) ++ rdOf y (vv (.int k i)), [(id, .row e esz cs)], .c (.ptr id (i.toNat * esz)), [(id, .row e esz cs)]⟩ :=
  ⟨sound_run rfl rfl (fun g a w _ hT hH => by
    obtain ⟨e1, e2⟩ := rep2 hx hy (flat_of_c hx) (flat_of_c hy) hT
    obtain ⟨ha, e1⟩ := own_rep e1
    have hpos : 0 < cs.length := by rw [hk]; exact Nat.mul_pos (by omega) h0
    obtain ⟨m', cap, cur, fz, hs, hh', hc, hl, hr, hf⟩ := row_open (hH.holds id _ get1) hpos
    have hm : m' = m := Nat.eq_of_mul_eq_mul_right h0 (by rw [← hl, hk])
    subst hm
    refine ⟨.pointer (some ⟨g.blk id, i.toNat * esz, none⟩), ?_, by simp only [RepAV, RepC]; exact ⟨ha, trivial⟩⟩
    simp [execOp, e1, hs, repV e2, Instr.indexAt, asIntOf, run_underlying ht, run_sizeOf he, h1, h2, add_off]), rd2 hx hy, hpre1 hh, dstOk_spec hd, (by intro h; first | rfl | assumption | exact absurd h (by simp [roOp]; done))⟩
theorem cell_of_row' (w : World) (g i : Nat) (cs : Array Value) (t : TypeId) (fz : Nat × Nat) (h : w.heap[g]? = some (.cells cs t fz)) : w.cell? ⟨g, i, none⟩ = cs[i]? := cell_of_row w g i cs t fz h
theorem s_load_row {t e : TypeId} {x : Operand} {id off esz : Nat} {cs : List C} {c : C} (hx : ev S x = some (.c (.ptr id off))) (hh : hget S.H id = some (.row e esz cs)) (ht : tyOne P t) (hc : cs[off]? = some c) (hd : dstOk dst S.sz = true) :
    Step P ops ⟨dst, .load t x, ty, pos, after, none⟩ n S ⟨rdOf x (.c (.ptr id off)), [(id, .row e esz cs)], .c c, [(id, .row e esz cs)]⟩ :=
  ⟨sound_run rfl rfl (fun g a w _ hT hH => by
    have e1 := ptr_rep (rep1' hx (flat_of_c hx) hT)
    have hlt := (List.getElem?_eq_some_iff.1 hc).1
    obtain ⟨m, cap, cur, fz, hs, hh', hcc, hl, hr, hf⟩ := row_open (hH.holds id _ get1) (by omega)
    obtain ⟨u, hu, hru⟩ := repCs_get hr off c hc
    rw [List.getElem?_take] at hu
    split at hu
    · have := run_load_one (P := P) ht w ⟨g.blk id, off, none⟩ (v := u) (by rw [cell_of_row' w _ _ _ _ _ hh']; simpa using hu)
      exact ⟨u, by simp [execOp, e1.2, Instr.loadAt, Instr.sureAddr, this], by simp only [RepAV]; exact hru⟩
    · cases hu), rd1 hx, hpre1 hh, dstOk_spec hd, (by intro h; first | rfl | assumption | exact absurd h (by simp [roOp]; done))⟩
theorem s_load_row_agg {t e : TypeId} {x : Operand} {id off esz k : Nat} {cs ds : List C} (hx : ev S x = some (.c (.ptr id off))) (hh : hget S.H id = some (.row e esz cs)) (ht : tyAgg P t k) (hds : (cs.drop off).take k = ds) (hn : ds.length = k) (hk : 0 < k) (hd : dstOk dst S.sz = true) :
    Step P ops ⟨dst, .load t x, ty, pos, after, none⟩ n S ⟨rdOf x (.c (.ptr id off)), [(id, .row e esz cs)], .agg ds, [(id, .row e esz cs)]⟩ :=
  ⟨sound_run rfl rfl (fun g a w _ hT hH => by
    have e1 := ptr_rep (rep1' hx (flat_of_c hx) hT)
    have hpos : 0 < cs.length := by
      rcases Nat.eq_zero_or_pos cs.length with h | h
      · have : cs = [] := List.eq_nil_of_length_eq_zero h
        subst this; simp at hds; subst hds; simp at hn; omega
      · exact h
    obtain ⟨m, cap, cur, fz, hs, hh', hcc, hl, hr, hf⟩ := row_open (hH.holds id _ get1) hpos
    have hr2 := repCs_take k (repCs_drop off hr)
    rw [hds] at hr2
    have hl2 : (((cur.toList.take (m * esz)).drop off).take k).length = k := by rw [repCs_length hr2]; exact hn
    refine ⟨.agg (((cur.toList.take (m * esz)).drop off).take k).toArray, ?_, ?_⟩
    · have := run_load_agg (P := P) (t := t) (vs := ((cur.toList.take (m * esz)).drop off).take k) (by rw [hl2]; exact ht) w ⟨g.blk id, off, none⟩ (fun j v hv => by
        rw [add_off, cell_of_row' w _ _ _ _ _ hh']
        rw [List.getElem?_take] at hv
        split at hv
        · rw [List.getElem?_drop, List.getElem?_take] at hv
          split at hv
          · simpa using hv
          · cases hv
        · cases hv)
      simp [execOp, e1.2, Instr.loadAt, Instr.sureAddr, this]
    · simp only [RepAV]; exact ⟨_, rfl, by simpa using hr2⟩), rd1 hx, hpre1 hh, dstOk_spec hd, (by intro h; first | rfl | assumption | exact absurd h (by simp [roOp]; done))⟩

theorem take_set {α : Type _} (l : List α) (k j : Nat) (x : α) : (l.set j x).take k = (l.take k).set j x := List.take_set
theorem repCs_set {g : Gh} {x : Value} {c : C} (hx : RepC g x c) : ∀ {vs : List Value} {cs : List C} (j : Nat), RepCs g vs cs → RepCs g (vs.set j x) (cs.set j c)
  | [], [], j, _ => by simp [RepCs]
  | v :: vs, d :: cs, 0, h => ⟨hx, h.2⟩
  | v :: vs, d :: cs, j + 1, h => ⟨h.1, repCs_set hx j h.2⟩
  | [], _ :: _, _, h => h.elim
  | _ :: _, [], _, h => h.elim
/-- One cell is written. -/
theorem s_store_row {t e : TypeId} {x y : Operand} {id off esz : Nat} {cs : List C} {cy : C} (hx : ev S x = some (.c (.ptr id off))) (hy : ev S y = some (.c cy)) (hh : hget S.H id = some (.row e esz cs)) (hs : (P.info? t).map (·.size) = some 1) (hle : off < cs.length) (hd : dstOk dst S.sz = true) :
    Step P ops ⟨dst, .store t x y, ty, pos, after, none⟩ n S ⟨rdOf x (.c (.ptr id off)) ++ rdOf y (.c cy), [(id, .row e esz cs)], .any, [(id, .row e esz (cs.set off cy))]⟩ :=
  ⟨fun Q K g a w hgood hT hH hn hK => by
    unfold stepWp
    rw [if_pos (by simp [Region.wanted])]
    refine .inl ?_
    obtain ⟨e1, e2⟩ := rep2 hx hy (flat_of_c hx) (flat_of_c hy) hT
    have e1 := ptr_rep e1
    have hrow := hH.holds id _ get1
    obtain ⟨m, cap, cur, fz, hsl, hh', hcc, hl, hr, hf⟩ := row_open hrow (by omega)
    obtain ⟨m0, vs0, r1, r2, r3, r4⟩ := hrow
    simp only [RepAV] at e2
    have h1 := e2.one
    have hcells : (a.eval y).cells = #[a.eval y] := by
      have h1 := h1
      revert h1
      cases a.eval y <;> intro h1 <;> first | rfl | (simp [Value.oneCell'] at h1)
    have hoffl : off < (cur.toList.take (m * esz)).length := by rw [repCs_length hr]; exact hle
    have hoff : off < cur.size := by simp at hoffl; omega
    have hcell : w.cell? ⟨g.blk id, off, none⟩ = some cur[off] := by rw [cell_of_row' w _ _ _ _ _ hh']; simp [hoff]
    have hfr : w.frozen? ⟨g.blk id, off, none⟩ = false := by
      have := hf off (by rw [← hl]; exact hle)
      simp only [World.frozen?, hh']
      simpa using this
    have hst : (storeVar t ⟨g.blk id, off, none⟩ (a.eval y)).run P w = .ok () (w.setCell ⟨g.blk id, off, none⟩ (a.eval y)) := by
      unfold storeVar
      simp [hcells, run_sizeOf hs, storeCells, run_store _ _ _ _ _ h1, add_off, hcell, hfr]
    have hrun : (execOp a.eval (⟨dst, .store t x y, ty, pos, after, none⟩ : Oper)).run P w = .ok .skip (w.setCell ⟨g.blk id, off, none⟩ (a.eval y)) := by
      simp only [execOp, e1.2, Instr.storeAt, Instr.sureAddr, Sem.run_bind, Sem.run_pure, Result.andThen_ok, hst]
    unfold Oper.wp
    rw [hrun, Oper.upon_skip]
    have hown : (g.slv id).ownBlock = some (g.blk id) := by rw [hsl]; rfl
    have hoth : ∀ k, k ≠ g.blk id → (w.setCell ⟨g.blk id, off, none⟩ (a.eval y)).heap[k]? = w.heap[k]? := fun k hk => heap_setCell_other w _ k _ hk
    have hsame : (w.setCell ⟨g.blk id, off, none⟩ (a.eval y)).heap[g.blk id]? = some (.cells (cur.setIfInBounds off (a.eval y)) e fz) := by
      rw [setCell_eq_setRow w _ _ cur e fz _ hh']; exact setRow_heap w _ cur _ e fz hh'
    refine hK g _ _ ⟨fun b j u hu => ?_, ⟨rfl, rfl, rfl, by simp [World.setCell], fun k hk hno => hoth k (fun e => hno ⟨id, _, get1, (r3 k).2 (by rw [e]; exact hown)⟩), fun _ _ _ h => h, fun _ _ _ h => .inl h, fun _ h => h, fun _ _ => rfl, fun _ _ => rfl, fun _ _ _ => rfl⟩, fun _ h => .inl h, by simp only [RepAV], ⟨fun i r hr' => ?_, fun i r hr' => ?_, fun i i' r r' hr' hr'' hne => ?_⟩, fun k hk => .inl ?_, fun i r hr' => .inl ?_⟩
    · have hne : b ≠ g.blk id := by rintro rfl; rw [(r4 _ hown).2 j] at hu; cases hu
      rw [World.cell?_of_block (w := w) (hoth b hne)]; exact hgood b j u hu
    · rw [get_cons] at hr'; by_cases e' : id = i
      · subst e'; exact e1.1
      · rw [if_neg e'] at hr'; simp [get] at hr'
    · rw [get_cons] at hr'; by_cases e' : id = i
      · rw [if_pos e'] at hr'; injection hr' with hr'; subst hr'; subst e'
        refine ⟨m, (cur.toList.take (m * esz)).set off (a.eval y), ⟨?_, .inr ⟨g.blk id, cap, _, fz, hsl, hcc, hsame, ?_, hf⟩⟩, repCs_set e2 off hr, r3, r4⟩
        · rw [List.length_set, repCs_length hr, hl]
        · rw [Array.toList_setIfInBounds, take_set]
      · rw [if_neg e'] at hr'; simp [get] at hr'
    · rw [get_cons] at hr' hr''
      by_cases e' : id = i
      · by_cases e'' : id = i'
        · exact absurd (e'.symm.trans e'') hne
        · rw [if_neg e''] at hr''; simp [get] at hr''
      · rw [if_neg e'] at hr'; simp [get] at hr'
    · obtain ⟨i, r, hr', hk⟩ := hk
      rw [get_cons] at hr'
      by_cases e' : id = i
      · subst e'; exact ⟨id, _, get1, hk⟩
      · rw [if_neg e'] at hr'; simp [get] at hr'
    · rw [get_cons] at hr'
      by_cases e' : id = i
      · subst e'; rw [get1]; rfl
      · rw [if_neg e'] at hr'; simp [get] at hr', rd2 hx hy, hpre1 hh, dstOk_spec hd, (by intro h; first | rfl | assumption | exact absurd h (by simp [roOp]; done))⟩

/-- []byte(s): a row of one's own. -/
theorem s_stb {s d e : TypeId} {x : Operand} {bs : List UInt8} (hs : P.underlying s = some .string) (hdt : P.underlying d = some (.slice e)) (he : P.underlying e = some (.int .u8)) (hx : ev S x = some (vv (str bs))) (hd : dstOk dst S.sz = true) :
    Step P ops ⟨dst, .convert s d x, ty, pos, after, none⟩ n S ⟨rdOf x (vv (str bs)), [], .c (.own n), [(n, .row e 1 (bs.map fun b => C.i (.v (.int .u8 (b.toNat : Int)))))]⟩ := by
  refine ⟨fun Q K g a w hgood hT hH hn hK => ?_, rd1 hx, fun _ _ h => by simp [get] at h, dstOk_spec hd, (by intro h; first | rfl | assumption | exact absurd h (by simp [roOp]; done))⟩
  unfold stepWp
  rw [if_pos (by simp [Region.wanted])]
  refine .inl ?_
  have e1 := repV (rep1' hx (flat_of_c hx) hT)
  have hrun := run_bytes_of_string (P := P) w s d e ⟨bs.toArray⟩ hs hdt he
  obtain ⟨cap, hcap⟩ : ∃ cap, cap = grownCap w bs.toArray.size 0 e := ⟨_, rfl⟩
  have hge : bs.length ≤ cap := by
    rw [hcap]
    exact grownCap_ge w bs.length 0 e
  have hsz : (⟨bs.toArray⟩ : ByteArray).size = bs.length := by simp [ByteArray.size]
  rw [hsz] at hrun
  have hcap2 : grownCap w bs.length 0 e = cap := by rw [hcap]; simp
  rw [hcap2] at hrun
  obtain ⟨row, hrow⟩ : ∃ row, row = bytesRow ⟨bs.toArray⟩ cap := ⟨_, rfl⟩
  rw [← hrow] at hrun
  have htake : row.toList.take (bs.length * 1) = bs.map fun b => Value.int .u8 (b.toNat : Int) := by
    rw [hrow, bytesRow]
    simp
  have hrs : bs.length ≤ row.size := by rw [hrow, bytesRow]; simp
  have hexec : (execOp a.eval (⟨dst, .convert s d x, ty, pos, after, none⟩ : Oper)).run P w = .ok (.value (.slice (some ⟨w.heap.size, 0, none⟩) bs.length cap)) (w.drew.alloc (.cells row e (row.size, row.size + 1))) := by
    simp only [execOp, e1, str, Sem.run_bind, hrun, Result.andThen_ok, Sem.run_pure]
  unfold Oper.wp
  rw [hexec]
  refine hK _ _ _ (behind_row (k := bs.length) (all := bs.map fun b => Value.int .u8 (b.toNat : Int)) rfl rfl hgood hn ⟨by simp, .inr ⟨w.heap.size, cap, row, (row.size, row.size + 1), rfl, hge, heap_alloc_new w.drew _, htake, fun j hj => ?_⟩⟩ rfl rfl rfl (by simp) (fun k hk _ => heap_alloc_old w.drew _ hk) (fun b hb => ?_) (fun b ⟨i, r, h1, _⟩ => by simp [get] at h1) (fun i h1 => by simp [get] at h1) ?_)
  · simp only; omega
  · have : w.heap.size = b := by simpa [Value.ownBlock] using hb
    subst this
    exact ⟨.inl (Nat.le_refl _), fun j => good_none hgood (Nat.le_refl _)⟩
  · refine repCs_of (by simp) (fun j u c hu hc => ?_)
    rw [List.getElem?_map] at hu hc
    cases hb : bs[j]? with
    | none => rw [hb] at hu; simp at hu
    | some b =>
      rw [hb] at hu hc; simp only [Option.map_some, Option.some.injEq] at hu hc; subst hu hc
      exact .v _ rfl
end
end Go.Proofs.Ytdmpocojbheoiaa.AM
