/- The abstract machine: slices. -/
import Derived.Test.YtdmpocojbheoiaaA5
import Derived.Maps.AppendAt
import Derived.Laws.OwnMore
import Derived.Lib.SliceRun
namespace Go.Proofs.Ytdmpocojbheoiaa.AM
open Go.RowKit

theorem flat_get {α : Type _} {esz : Nat} : ∀ (rows : List (List α)) (i j : Nat), (∀ r ∈ rows, r.length = esz) → j < esz → (rows.flatten)[i * esz + j]? = (rows.getD i [])[j]?
  | [], i, j, _, _ => by simp
  | r :: rows, 0, j, h, hj => by
    have := h r (by simp)
    simp only [List.flatten_cons, Nat.zero_mul, Nat.zero_add, List.getD_cons_zero]
    rw [List.getElem?_append_left (by omega)]
  | r :: rows, i + 1, j, h, hj => by
    have h1 := h r (by simp)
    simp only [List.flatten_cons, List.getD_cons_succ]
    rw [List.getElem?_append_right (by rw [h1, Nat.add_mul]; omega), ← flat_get rows i j (fun r hr => h r (by simp [hr])) hj]
    congr 1
    rw [h1, Nat.add_mul]; omega
theorem flat_len {α : Type _} {esz : Nat} : ∀ (rows : List (List α)), (∀ r ∈ rows, r.length = esz) → rows.flatten.length = rows.length * esz
  | [], _ => by simp
  | r :: rows, h => by
    have h1 := h r (by simp)
    rw [List.flatten_cons, List.length_append, flat_len rows (fun r hr => h r (by simp [hr])), h1, List.length_cons, Nat.add_mul]; omega

/-- The cells of a slice that stays. -/
structure SlOk (G : GH) (A : Option Addr) (us : List Value) (esz : Nat) (rows : List (List I)) : Prop where
  hl : ∀ r ∈ rows, r.length = esz
  len : us.length = rows.length * esz
  at_ : 0 < rows.length → ∃ b o, A = some ⟨b, o, none⟩ ∧ ∀ (t : Nat) u, us[t]? = some u → G b (o + t) = some u
  rep : ∀ (t : Nat) u c, us[t]? = some u → rows.flatten[t]? = some c → RepI G u c
theorem sl_cells {G : GH} {x : Value} {esz : Nat} {rows : List (List I)} (h : RepI G x (.sl esz rows)) : ∃ A cap us, x = .slice A rows.length cap ∧ rows.length ≤ cap ∧ SlOk G A us esz rows := by
  cases h with
  | sl A cap _ _ u hcap hl hA hu =>
    refine ⟨A, cap, (List.range (rows.length * esz)).map fun t => u (t / esz) (t % esz), rfl, hcap, hl, by simp, fun h0 => ?_, fun t v c hv hc => ?_⟩
    · obtain ⟨b, o, h1, h2⟩ := hA h0
      refine ⟨b, o, h1, fun t v hv => ?_⟩
      have ht : t < rows.length * esz := by have := (List.getElem?_eq_some_iff.1 hv).1; simpa using this
      have hv' : v = u (t / esz) (t % esz) := by simp [ht] at hv; exact hv.symm
      subst hv'
      have he : 0 < esz := by rcases Nat.eq_zero_or_pos esz with e | e; · subst e; simp at ht
                              · exact e
      have := h2 (t / esz) (t % esz) (by rw [Nat.div_lt_iff_lt_mul he]; exact ht) (Nat.mod_lt _ he)
      rwa [show t / esz * esz + t % esz = t from Nat.div_add_mod' t esz] at this
    · have ht : t < rows.length * esz := by have := (List.getElem?_eq_some_iff.1 hv).1; simpa using this
      have hv' : v = u (t / esz) (t % esz) := by simp [ht] at hv; exact hv.symm
      subst hv'
      have he : 0 < esz := by rcases Nat.eq_zero_or_pos esz with e | e; · subst e; simp at ht
                              · exact e
      refine hu _ _ c ?_
      rw [← flat_get rows _ _ hl (Nat.mod_lt _ he), show t / esz * esz + t % esz = t from Nat.div_add_mod' t esz]
      exact hc
theorem sl_of {G : GH} {A : Option Addr} {cap esz : Nat} {us : List Value} {rows : List (List I)} (h : SlOk G A us esz rows) (hcap : rows.length ≤ cap) : RepI G (.slice A rows.length cap) (.sl esz rows) := by
  have hlt : ∀ i j, i < rows.length → j < esz → i * esz + j < rows.length * esz := fun i j hi hj => by
    have : (i + 1) * esz ≤ rows.length * esz := Nat.mul_le_mul_right _ hi
    rw [Nat.add_mul] at this; omega
  refine .sl A cap esz rows (fun i j => us.getD (i * esz + j) undef) hcap h.hl (fun h0 => ?_) (fun i j c hc => ?_)
  · obtain ⟨b, o, h1, h2⟩ := h.at_ h0
    refine ⟨b, o, h1, fun i j hi hj => h2 _ _ ?_⟩
    have := hlt i j hi hj
    rw [← h.len] at this
    simp [List.getD_eq_getElem?_getD, this]
  · have hi : i < rows.length := by
      rcases Nat.lt_or_ge i rows.length with h1 | h1
      · exact h1
      · rw [List.getD_eq_getElem?_getD, List.getElem?_eq_none h1] at hc; simp at hc
    have hr : (rows.getD i []) ∈ rows := by rw [List.getD_eq_getElem?_getD, List.getElem?_eq_getElem hi]; simp
    have hj : j < esz := by have := (List.getElem?_eq_some_iff.1 hc).1; rwa [h.hl _ hr] at this
    have hx := hlt i j hi hj
    rw [← h.len] at hx
    refine h.rep (i * esz + j) _ c (by simp [List.getD_eq_getElem?_getD, hx]) ?_
    rw [flat_get rows i j h.hl hj]; exact hc
theorem SlOk.one {G : GH} {A : Option Addr} {us : List Value} {esz : Nat} {rows : List (List I)} (h : SlOk G A us esz rows) : ∀ u ∈ us, u.oneCell' = true := by
  intro u hu
  obtain ⟨t, ht⟩ := List.mem_iff_getElem?.1 hu
  have hlt := (List.getElem?_eq_some_iff.1 ht).1
  have : t < rows.flatten.length := by rw [flat_len rows h.hl, ← h.len]; exact hlt
  exact (h.rep t u rows.flatten[t] ht (by simp [this])).one
theorem SlOk.mono {G G' : GH} (hG : ∀ b j v, G b j = some v → G' b j = some v) {A : Option Addr} {us : List Value} {esz : Nat} {rows : List (List I)} (h : SlOk G A us esz rows) : SlOk G' A us esz rows :=
  ⟨h.hl, h.len, fun h0 => (h.at_ h0).imp fun b hb => hb.imp fun o ho => ⟨ho.1, fun t u hu => hG _ _ _ (ho.2 t u hu)⟩, fun t u c h1 h2 => (h.rep t u c h1 h2).mono hG⟩

/-- A slice type, its elements. -/
def tyElem (P : Program) (t e : TypeId) (esz bytes : Nat) : Prop :=
  P.underlying t = some (.slice e) ∧ ∃ i z, P.info? e = some i ∧ i.zero = some z ∧ i.size = esz ∧ i.bytes = bytes ∧ z.cells.size = esz ∧ 0 < esz ∧ 0 < bytes

section
variable {P : Program} {ops : Array Oper} {n : Nat} {S : St} {dst : Option Nat} {ty : TypeId} {pos : String} {after : Array Edge}

/-- append: in its place, or in a new block. -/
theorem run_app (w : World) {t e : TypeId} {esz bytes : Nat} (ht : tyElem P t e esz bytes) (ty : TypeId) (v : Value) (k : Nat) (xs : List Value) (hown : w.ownsRow 0 e esz v k xs)
    (A : Option Addr) (m c : Nat) (news : List Value) (hl : news.length = m * esz) (hA : 0 < m → ∃ a, A = some a ∧ ∀ (j : Nat) u, news[j]? = some u → w.cell? (a.add j) = some u) (h1 : ∀ u ∈ news, u.oneCell' = true)
    (hbytes : (k + m) * bytes ≤ 140737488355328) :
    ∃ v' w', (Builtin.append_ #[t, t] ty #[v, .slice A m c]).run P w = .ok v' w' ∧ w'.ownsRow 0 e esz v' (k + m) (xs ++ news) ∧
      ((v'.ownBlock = v.ownBlock ∧ w.grownBy w' v.ownBlock) ∨ (v'.ownBlock = some w.heap.size ∧ w.grownBy w' none)) := by
  obtain ⟨ht, i, z, hi, hz, rfl, rfl, hzs, hsz, hb0⟩ := ht
  have h63 : k + m ≤ maxLen := by
    have : k + m ≤ (k + m) * i.bytes := Nat.le_mul_of_pos_right _ hb0
    simp only [maxLen]; omega
  have hsmall : k + m ≤ 9223372036854775807 := by simp only [maxLen] at h63; omega
  have hlen : (xs ++ news).length = (k + m) * i.size := by rw [List.length_append, hown.1, hl, Nat.add_mul]
  by_cases hm : m = 0
  · subst hm
    have hn : news = [] := List.eq_nil_of_length_eq_zero (by simpa using hl)
    subst hn
    refine ⟨v, w, ?_, by simpa using hown, .inl ⟨rfl, ⟨rfl, rfl, rfl, Nat.le_refl _, fun _ _ _ => rfl⟩⟩⟩
    rcases hown.2 with ⟨rfl, hn⟩ | ⟨g, cap, cur, rfl, _, _, hnc, _⟩
    · cases A <;> simp [Builtin.append_, run_underlying ht, sizeOf, typeInfo, hi, Builtin.lenOf, Builtin.firstCells, loadCells, loadCellsFrom]
    · cases A <;> simp [Builtin.append_, run_underlying ht, sizeOf, typeInfo, hi, Builtin.lenOf, Builtin.firstCells, hnc, storeCells, loadCells, loadCellsFrom]
  obtain ⟨a, rfl, hnews⟩ := hA (by omega)
  have grown : ∀ (old : Nat), old < k + m →
      (w.drew.alloc (.cells (xs.toArray ++ news.toArray ++ Builtin.zeroCells z.cells (grownCap w (k + m) old e - (k + m))) e)).ownsRow 0 e i.size
        (.slice (some ⟨w.heap.size, 0, none⟩) (k + m) (grownCap w (k + m) old e)) (k + m) (xs ++ news) ∧
      w.grownBy (w.drew.alloc (.cells (xs.toArray ++ news.toArray ++ Builtin.zeroCells z.cells (grownCap w (k + m) old e - (k + m))) e)) none := by
    intro old ho
    have hge := grownCap_ge w (k + m) old e
    have hcm : grownCap w (k + m) old e ≤ maxLen := grownCap_le_maxLen w (k + m) old e h63
    refine ⟨⟨hlen, .inr ⟨w.heap.size, _, _, rfl, Nat.zero_le _, heap_alloc_new w.drew _, hge, hcm, ?_, ?_⟩⟩, ⟨rfl, rfl, rfl, by simp, fun k hk _ => heap_alloc_old w.drew _ hk⟩⟩
    · simp only [Array.size_append, List.size_toArray, size_zeroCells, hzs, hown.1, hl, ← Nat.add_mul]
      congr 1
      omega
    · simp only [Array.toList_append, List.append_assoc]
      rw [← List.append_assoc, ← hlen]
      exact List.take_left
  rcases hown.2 with ⟨rfl, rfl⟩ | ⟨g, cap, cur, rfl, hbg, hg, hnc, hcm, hcs, htake⟩
  · have hx : xs = [] := List.eq_nil_of_length_eq_zero (by simpa using hown.1)
    subst hx
    have hr := run_append_nil (P := P) w t ty e i z ht hi hz a m c news hl hnews (by omega) (by omega) (by have hb := hbytes; simp only [Nat.zero_add] at hb; omega)
    have hgr := grown 0 (by omega)
    simp only [Nat.zero_add, List.nil_append, Array.empty_append] at hgr ⊢
    exact ⟨_, _, hr, hgr.1, .inr ⟨rfl, hgr.2⟩⟩
  · by_cases hroom : k + m ≤ cap
    · have hfit : k * i.size + news.length ≤ cur.size := by rw [hl, hcs, ← Nat.add_mul]; exact Nat.mul_le_mul_right _ hroom
      have hr := run_append_room (P := P) w t ty e i ht hi g k cap cur hg a m c news hl hnews h1 hroom hfit
      refine ⟨_, _, hr, ⟨hlen, .inr ⟨g, cap, _, rfl, hbg, setRow_heap w g cur _ e _ hg, hroom, hcm, ?_, ?_⟩⟩, .inl ⟨rfl, ⟨rfl, rfl, rfl, by simp, fun k _ hk => setRow_other w g k _ (fun e => hk (by simp [Value.ownBlock, e]))⟩⟩⟩
      · simp only [List.size_toArray, List.length_append, List.length_take, List.length_drop, Array.length_toList]
        omega
      · rw [htake, ← hlen]
        exact List.take_left
    · have holds : ∀ j u, xs[j]? = some u → w.cell? ((⟨g, 0, none⟩ : Addr).add j) = some u := hown.cells (g := g) rfl
      have hr := run_append_grow (P := P) w t ty e i z ht hi hz ⟨g, 0, none⟩ k cap xs hown.1 holds a m c news hl hnews (by omega) (by omega) (growslice_fits (by omega) hbytes)
      have hgr := grown cap (by omega)
      exact ⟨_, _, hr, hgr.1, .inr ⟨rfl, hgr.2⟩⟩

/-! A new name for a slice at whose end one may append. -/
def Gh.addTok (g : Gh) (n : Nat) (v : Value) (all : List Value) : Gh :=
  { G := fun b j => if v.ownBlock = some b then all[j]? else g.G b j, blk := g.blk, slv := fun i => if i = n then v else g.slv i, F := fun i => if i = n then (fun k => v.ownBlock = some k) else g.F i, alive := fun i => g.alive i ∨ i = n }
theorem behind_tok {c : Cert} {g : Gh} {w w' : World} {v' : Value} {e esz : Nat} {rows : List (List I)} {all : List Value} (hpost : c.post = [(n, .tok e esz)]) (hout : c.out = .c (.tok n esz rows)) (hg : Good g w) (hn : ∀ id, n ≤ id → id < n + 8 → ¬ g.alive id)
    (hown : w'.ownsRow 0 e esz v' rows.length all) (hos : w'.os = w.os) (htp : w'.tape = w.tape) (hou : w'.output = w.output) (hsz : w.heap.size ≤ w'.heap.size) (hblk : ∀ k, k < w.heap.size → ¬ Owned g c.pre k → w'.heap[k]? = w.heap[k]?)
    (hv : ∀ b, v'.ownBlock = some b → w.heap.size ≤ b ∨ (Owned g c.pre b ∧ ∀ j u, g.G b j = some u → all[j]? = some u)) (hab : ∀ b, Owned g c.pre b → v'.ownBlock ≠ some b → ∀ j u, g.G b j = some u → w'.cell? ⟨b, j, none⟩ = some u)
    (hpre : ∀ id, (get c.pre id).isSome = true → g.alive id)
    (hrl : ∀ r ∈ rows, r.length = esz) (hrep : ∀ (t : Nat) u d, all[t]? = some u → rows.flatten[t]? = some d → RepI g.G u d) : Behind n c g (g.addTok n v' all) w w' v' := by
  have hn0 : ¬ g.alive n := hn n (Nat.le_refl _) (by omega)
  have hG : ∀ b j u, g.G b j = some u → (g.addTok n v' all).G b j = some u := fun b j u hu => by
    simp only [Gh.addTok]
    by_cases hb : v'.ownBlock = some b
    · rw [if_pos hb]
      rcases hv b hb with h1 | ⟨_, h1⟩
      · rw [good_none hg h1] at hu; cases hu
      · exact h1 j u hu
    · rw [if_neg hb]; exact hu
  have hle : Le g (g.addTok n v' all) := ⟨hG, fun _ h => .inl h, fun _ _ => rfl, fun id hi => by simp only [Gh.addTok]; rw [if_neg (by rintro rfl; exact hn0 hi)]⟩
  have hcellown : ∀ b, v'.ownBlock = some b → ∀ j u, all[j]? = some u → w'.cell? ⟨b, j, none⟩ = some u := fun b hb j u hu => by
    have := World.ownsRow.cells hown hb j u hu
    rwa [add_off, Nat.zero_add] at this
  have hslice : ∃ A cap, v' = .slice A rows.length cap ∧ rows.length ≤ cap ∧ (0 < rows.length → ∃ b, A = some ⟨b, 0, none⟩) := by
    rcases hown.2 with ⟨rfl, h0⟩ | ⟨b, cap, cur, rfl, _, _, h1, _⟩
    · exact ⟨none, 0, by rw [h0], by omega, fun h => by omega⟩
    · exact ⟨_, cap, rfl, h1, fun _ => ⟨b, rfl⟩⟩
  obtain ⟨A, cap, hveq, hcap, hA⟩ := hslice
  have hrepI : RepI (g.addTok n v' all).G v' (.sl esz rows) := by
    subst hveq
    refine sl_of (us := all) ⟨hrl, hown.1, fun h0 => ?_, fun t u d h1 h2 => (hrep t u d h1 h2).mono hG⟩ hcap
    obtain ⟨b, rfl⟩ := hA h0
    refine ⟨b, 0, rfl, fun t u hu => ?_⟩
    simp only [Gh.addTok, Value.ownBlock, if_true, Nat.zero_add]
    exact hu
  refine ⟨fun b j u hu => ?_, ⟨hos, htp, hou, hsz, hblk, hG, fun b j u hu => ?_, hle.al, hle.blk, hle.slv, fun id hi _ => ?_⟩, fun id hi => ?_, ?_, ?_, fun k ⟨id, r, hr', hk⟩ => ?_, fun id r hr' => ?_⟩
  · simp only [Gh.addTok] at hu
    by_cases hb : v'.ownBlock = some b
    · rw [if_pos hb] at hu; exact hcellown b hb j u hu
    · rw [if_neg hb] at hu
      by_cases ho : Owned g c.pre b
      · exact hab b ho hb j u hu
      · rw [World.cell?_of_block (w := w) (hblk b (good_lt hg hu) ho)]; exact hg b j u hu
  · simp only [Gh.addTok] at hu
    by_cases hb : v'.ownBlock = some b
    · rcases hv b hb with h1 | ⟨h1, _⟩
      · exact .inr (.inl h1)
      · exact .inr (.inr h1)
    · rw [if_neg hb] at hu; exact .inl hu
  · simp only [Gh.addTok]; rw [if_neg (by rintro rfl; exact hn0 hi)]
  · rcases hi with hi | rfl
    · exact .inl hi
    · exact .inr ⟨Nat.le_refl _, by omega⟩
  · rw [hout]
    simp only [RepAV, RepC]
    exact ⟨.inr rfl, by simp [Gh.addTok], hrepI⟩
  · rw [hpost]
    refine ⟨fun id r hr' => ?_, fun id r hr' => ?_, fun id id' r r' hr' hr'' hne => ?_⟩
    · rw [get_cons] at hr'; by_cases h : n = id
      · exact .inr h.symm
      · rw [if_neg h] at hr'; simp [get] at hr'
    · rw [get_cons] at hr'; by_cases h : n = id
      · rw [if_pos h] at hr'; injection hr' with hr'; subst hr'; subst h
        refine ⟨rows.length, all, by simp only [Gh.addTok, if_true]; exact hown, fun k => by simp [Gh.addTok], fun k hk j hj => ?_⟩
        simp only [Gh.addTok, if_true] at hk ⊢
        rw [if_pos hk]
        exact List.getElem?_eq_none (by rw [hown.1]; exact hj)
      · rw [if_neg h] at hr'; simp [get] at hr'
    · rw [get_cons] at hr' hr''
      by_cases h : n = id
      · by_cases h' : n = id'
        · exact absurd (h.symm.trans h') hne
        · rw [if_neg h'] at hr''; simp [get] at hr''
      · rw [if_neg h] at hr'; simp [get] at hr'
  · rw [hpost, get_cons] at hr'
    by_cases h : n = id
    · subst h; simp only [Gh.addTok, if_true] at hk
      rcases hv k hk with h1 | ⟨h1, _⟩
      · exact .inr h1
      · exact .inl h1
    · rw [if_neg h] at hr'; simp [get] at hr'
  · rw [hpost, get_cons] at hr'
    by_cases h : n = id
    · subst h; exact .inr hn0
    · rw [if_neg h] at hr'; simp [get] at hr'

/-- What is appended: a slice that stays. -/
theorem app_src {g : Gh} {w : World} (hg : Good g w) {x : Value} {esz : Nat} {rows : List (List I)} (h : RepI g.G x (.sl esz rows)) :
    ∃ A c us, x = .slice A rows.length c ∧ SlOk g.G A us esz rows ∧ (0 < rows.length → ∃ a, A = some a ∧ ∀ (j : Nat) u, us[j]? = some u → w.cell? (a.add j) = some u) := by
  obtain ⟨A, c, us, h1, h2, h3⟩ := sl_cells h
  refine ⟨A, c, us, h1, h3, fun h0 => ?_⟩
  obtain ⟨b, o, h4, h5⟩ := h3.at_ h0
  exact ⟨_, h4, fun j u hu => by rw [add_off]; exact hg _ _ _ (h5 j u hu)⟩
theorem rows_append {G : GH} {A1 A2 : Option Addr} {xs us : List Value} {esz : Nat} {rows rows' : List (List I)} (h : ∀ (t : Nat) u d, xs[t]? = some u → rows.flatten[t]? = some d → RepI G u d) (hx : xs.length = rows.length * esz) (hr : ∀ r ∈ rows, r.length = esz) (k : SlOk G A2 us esz rows') :
    ∀ (t : Nat) u d, (xs ++ us)[t]? = some u → (rows ++ rows').flatten[t]? = some d → RepI G u d := by
  intro t u d hu hd
  have hfl := flat_len rows hr
  rw [List.flatten_append] at hd
  by_cases ht : t < xs.length
  · rw [List.getElem?_append_left ht] at hu
    rw [List.getElem?_append_left (by omega)] at hd
    exact h t u d hu hd
  · rw [List.getElem?_append_right (by omega)] at hu
    rw [List.getElem?_append_right (by omega)] at hd
    exact k.rep (t - xs.length) u d hu (by rw [hx, ← hfl]; exact hd)
theorem c_sl {g : Gh} {x : Value} {cx : C} {esz : Nat} {rows : List (List I)} (h : RepAV g x (.c cx)) (hi : ImpC cx (.i (.sl esz rows))) : RepI g.G x (.sl esz rows) := by
  simp only [RepAV] at h
  exact hi g x h

theorem s_append {t e : TypeId} {x y : Operand} {id esz bytes : Nat} {rows rows' : List (List I)} {cy : C} (ht : tyElem P t e esz bytes) (hx : ev S x = some (.c (.tok id esz rows))) (hh : hget S.H id = some (.tok e esz)) (hy : ev S y = some (.c cy)) (hi : ImpC cy (.i (.sl esz rows')))
    (hb : (rows.length + rows'.length) * bytes ≤ 140737488355328) (hd : dstOk dst S.sz = true) :
    Step P ops ⟨dst, .call { callee := .builtin .append, args := #[x, y], argTypes := #[t, t] }, ty, pos, after, none⟩ n S ⟨rdOf x (.c (.tok id esz rows)) ++ rdOf y (.c cy), [(id, .tok e esz)], .c (.tok n esz (rows ++ rows')), [(n, .tok e esz)]⟩ := by
  refine ⟨fun Q K g a w hgood hT hH hn hK => ?_, rd2 hx hy, hpre1 hh, dstOk_spec hd, (by intro h; first | rfl | assumption | exact absurd h (by simp [roOp]; done))⟩
  unfold stepWp
  rw [if_pos (by simp [Region.wanted])]
  refine .inl ?_
  obtain ⟨e1, e2⟩ := rep2 hx hy (flat_of_c hx) (flat_of_c hy) hT
  simp only [RepAV, RepC] at e1
  obtain ⟨ha, hxe, hxr⟩ := e1
  obtain ⟨A, cap, us0, hx1, hx2, hx3⟩ := sl_cells hxr
  obtain ⟨A2, c2, us, hy1, hy2, hy3⟩ := app_src hgood (c_sl e2 hi)
  obtain ⟨k, vs, hown, hF, hGn⟩ := hH.holds id _ get1
  have hal := hH.alive id _ get1
  have hk : k = rows.length := by
    rw [← hxe, hx1] at hown
    rcases hown.2 with ⟨h1, h2⟩ | ⟨b, cp, cur, h1, _⟩
    · simp only [Value.slice.injEq] at h1; omega
    · simp only [Value.slice.injEq] at h1; omega
  subst hk
  rw [← hxe] at hown hF hGn
  obtain ⟨v', w', hrun, hown', hcase⟩ := run_app (P := P) w ht ty _ _ vs hown A2 rows'.length c2 us hy2.len hy3 hy2.one hb
  have hexec : (execOp a.eval (⟨dst, .call { callee := .builtin .append, args := #[x, y], argTypes := #[t, t] }, ty, pos, after, none⟩ : Oper)).run P w = .ok (.value v') w' := by
    simp only [execOp, resolve, invoke, builtin, Sem.run_bind, Sem.run_pure, Result.andThen_ok, List.map_toArray, List.map_cons, List.map_nil, hy1, hrun]
  unfold Oper.wp
  rw [hexec]
  have hgrown : w'.os = w.os ∧ w'.tape = w.tape ∧ w'.output = w.output ∧ w.heap.size ≤ w'.heap.size := by rcases hcase with ⟨_, h⟩ | ⟨_, h⟩ <;> exact ⟨h.os, h.tape, h.output, h.size⟩
  have hown1 : ∀ b, (a.eval x).ownBlock = some b → Owned g [(id, R.tok e esz)] b := fun b hb => ⟨id, _, get1, (hF b).2 hb⟩
  have hown2 : ∀ b, Owned g [(id, R.tok e esz)] b → (a.eval x).ownBlock = some b := fun b ⟨i, r, h1, h2⟩ => by
    rw [get_cons] at h1
    by_cases he : id = i
    · subst he; exact (hF b).1 h2
    · rw [if_neg he] at h1; simp [get] at h1
  have hGcell : ∀ b, (a.eval x).ownBlock = some b → ∀ j u, g.G b j = some u → vs[j]? = some u := fun b hb j u hu => by
    have hj : j < rows.length * esz := by
      rcases Nat.lt_or_ge j (rows.length * esz) with h | h
      · exact h
      · rw [hGn b hb j h] at hu; cases hu
    have hc := hgood b j u hu
    have hj' : j < vs.length := by rw [hown.1]; exact hj
    have hc2 := World.ownsRow.cells hown hb j vs[j] (by simp [hj'])
    rw [add_off, Nat.zero_add, hc] at hc2
    injection hc2 with hc2
    rw [hc2]; simp [hj']
  refine hK _ w' v' (behind_tok (all := vs ++ us) rfl rfl hgood hn (by simpa using hown') hgrown.1 hgrown.2.1 hgrown.2.2.1 hgrown.2.2.2 (fun k hk hno => ?_) (fun b hb => ?_) (fun b ho hb j u hu => ?_) (fun i hi => ?_) ?_ ?_)
  · rcases hcase with ⟨_, h⟩ | ⟨_, h⟩
    · exact h.block k hk (fun he => hno (hown1 k he.symm))
    · exact h.block k hk (by simp)
  · rcases hcase with ⟨h1, _⟩ | ⟨h1, _⟩
    · rw [h1] at hb
      exact .inr ⟨hown1 b hb, fun j u hu => by
        have := hGcell b hb j u hu
        rw [List.getElem?_append_left (List.getElem?_eq_some_iff.1 this).1]; exact this⟩
    · rw [h1] at hb; injection hb with hb; exact .inl (by omega)
  · rcases hcase with ⟨h1, _⟩ | ⟨h1, h2⟩
    · exact absurd (h1.trans (hown2 b ho)) hb
    · rw [World.cell?_of_block (w := w) (h2.block b (good_lt hgood hu) (by simp))]; exact hgood b j u hu
  · rw [get_cons] at hi
    by_cases he : id = i
    · subst he; exact hal
    · rw [if_neg he] at hi; simp [get] at hi
  · intro r hr
    rcases List.mem_append.1 hr with hr | hr
    · exact hx3.hl r hr
    · exact hy2.hl r hr
  · refine rows_append (A1 := A) (fun t u d hu hd => ?_) hown.1 hx3.hl hy2
    -- the cells of the row are those that stay
    have hlt : t < rows.length * esz := by have := (List.getElem?_eq_some_iff.1 hu).1; rw [hown.1] at this; exact this
    have hpos : 0 < rows.length := by rcases Nat.eq_zero_or_pos rows.length with h | h; · rw [h] at hlt; simp at hlt
                                      · exact h
    obtain ⟨b, o, hA, hat⟩ := hx3.at_ hpos
    have hbo : (a.eval x).ownBlock = some b ∧ o = 0 := by
      rw [hx1, hA]
      rw [hx1, hA] at hown
      rcases hown.2 with ⟨h1, _⟩ | ⟨g', cp, cur, h1, _⟩
      · simp at h1
      · simp only [Value.slice.injEq, Option.some.injEq, Addr.mk.injEq] at h1
        exact ⟨by simp [Value.ownBlock], h1.1.2.1⟩
    have ht0 : t < us0.length := by rw [hx3.len]; exact hlt
    have h2 := hat t us0[t] (by simp [ht0])
    rw [hbo.2, Nat.zero_add] at h2
    have h3 := hGcell b hbo.1 t _ h2
    rw [hu] at h3; injection h3 with h3
    exact hx3.rep t u d (by rw [h3]; simp [ht0]) hd

/-- Cells that stay. -/
def unI : List C → Option (List I)
  | [] => some []
  | c :: cs =>
    match c, unI cs with
    | .i x, some l => some (x :: l)
    | .tok _ esz rows, some l => some (.sl esz rows :: l)
    | .nn esz rows, some l => some (.sl esz rows :: l)
    | _, _ => none
theorem unI_imp : ∀ {cs : List C} {l : List I}, unI cs = some l → ImpCs cs (l.map C.i)
  | [], l, h => by simp only [unI, Option.some.injEq] at h; subst h; exact .nil
  | c :: cs, l, h => by
    simp only [unI] at h
    cases hu : unI cs with
    | none => rw [hu] at h; cases c <;> simp at h
    | some l' =>
      rw [hu] at h
      have ih := unI_imp hu
      cases c <;> simp only [Option.some.injEq, reduceCtorEq] at h
      · subst h; exact .cons (.refl _) ih
      · subst h; exact .cons (impC_tok _ _ _) ih
      · subst h; exact .cons (fun _ _ h => h.1) ih
def chunk : Nat → Nat → List I → List (List I)
  | 0, _, _ => []
  | n + 1, esz, l => l.take esz :: chunk n esz (l.drop esz)
theorem chunk_ok (esz : Nat) : ∀ (n : Nat) (l : List I), l.length = n * esz → (chunk n esz l).flatten = l ∧ (∀ r ∈ chunk n esz l, r.length = esz) ∧ (chunk n esz l).length = n
  | 0, l, h => by
    have : l = [] := List.eq_nil_of_length_eq_zero (by simpa using h)
    subst this; simp [chunk]
  | n + 1, l, h => by
    rw [Nat.add_mul] at h
    obtain ⟨h1, h2, h3⟩ := chunk_ok esz n (l.drop esz) (by simp; omega)
    refine ⟨by simp [chunk, h1], fun r hr => ?_, by simp [chunk, h3]⟩
    simp only [chunk, List.mem_cons] at hr
    rcases hr with rfl | hr
    · simp; omega
    · exact h2 r hr
/-- A slice is built. -/
theorem s_buildSlice {t e : TypeId} {len esz bytes : Nat} {parts : Array (Nat × Operand)} {zs : List Value} {cs cs' : List C} {avs : List AV} {is : List I} {rows : List (List I)} (ht : tyElem P t e esz bytes) (hz : tyZero P e zs) (hc : ZeroOk zs cs) (hev : evs S (parts.toList.map (·.2)) = some avs) (hf : (parts.toList.map (·.2)).all flatC = true)
    (hfill : fillC ((List.range len).map fun i => (i * esz, esz)) ((List.replicate len cs).flatten) ((parts.toList.map (·.1)).zip avs) = some cs') (hun : unI cs' = some is) (hil : is.length = len * esz) (hrows : chunk len esz is = rows) (hsm : len * esz ≤ 16777216) (hd : dstOk dst S.sz = true) :
    Step P ops ⟨dst, .buildSlice t len parts, ty, pos, after, none⟩ n S ⟨rdsOf (parts.toList.map (·.2)) avs, [], .c (.tok n esz rows), [(n, .tok e esz)]⟩ := by
  obtain ⟨h1, h2⟩ := evs_opds hev hf
  obtain ⟨hflat, hrl, hlen⟩ := chunk_ok esz len is hil
  rw [hrows] at hflat hrl hlen
  refine ⟨fun Q K g a w hgood hT hH hn hK => ?_, fun p hp => .inr (h2 p hp), fun _ _ h => by simp [get] at h, dstOk_spec hd, (by intro h; first | rfl | assumption | exact absurd h (by simp [roOp]; done))⟩
  unfold stepWp
  rw [if_pos (by simp [Region.wanted])]
  refine .inl ?_
  have hr := opds_rep (a := a) h1 hT
  obtain ⟨ht, i, z, hi, hz1, rfl, rfl, hzs, hsz, hb0⟩ := ht
  obtain ⟨i', z', z1, z2, z3⟩ := hz
  have : i' = i := by rw [hi] at z1; injection z1 with z1; exact z1.symm
  subst this
  have : z' = z := by rw [hz1] at z2; injection z2 with z2; exact z2.symm
  subst this
  have hcl : cs.length = i'.size := by
    have h3 := repCs_length (hc.rep (g := g))
    have h4 : z'.cells.toList.length = z'.cells.size := by simp
    rw [z3] at h4; omega
  have hstart : RepCs g ((Array.range (len * i'.size)).map (z'.cells[· % z'.cells.size]!)).toList ((List.replicate len cs).flatten) := by
    have hfl := flat_len (List.replicate len cs) (esz := i'.size) (fun r hr => by rw [(List.mem_replicate.1 hr).2]; exact hcl)
    rw [List.length_replicate] at hfl
    refine repCs_of (by simp [hfl]) (fun j x c hx hcx => ?_)
    have hj : j < len * i'.size := by have := (List.getElem?_eq_some_iff.1 hcx).1; omega
    have hm : j % i'.size < i'.size := Nat.mod_lt _ hsz
    have hdj : j / i'.size < len := by rw [Nat.div_lt_iff_lt_mul hsz]; exact hj
    have e1 := flat_get (List.replicate len cs) (j / i'.size) (j % i'.size) (esz := i'.size) (fun r hr => by rw [(List.mem_replicate.1 hr).2]; exact hcl) hm
    rw [Nat.div_add_mod' j i'.size, hcx] at e1
    have e2 : (List.replicate len cs).getD (j / i'.size) [] = cs := by simp [List.getD_eq_getElem?_getD, hdj]
    rw [e2] at e1
    obtain ⟨v, h3, h4⟩ := repCs_get (hc.rep (g := g)) _ c e1.symm
    have hx' : x = z'.cells[j % z'.cells.size]! := by
      simp only [Array.toList_map, List.getElem?_map, Array.toList_range] at hx
      rw [List.getElem?_range hj] at hx
      simpa using hx.symm
    rw [hx', hzs]
    have h5 : z'.cells[j % i'.size]? = some v := by rw [← z3] at h3; simpa using h3
    have h6 : z'.cells[j % i'.size]! = v := by rw [getElem!_def, h5]
    rw [h6]; exact h4
  have hpn : (parts.toList.map (·.1)).length = avs.length := by have := repAVs_length hr; simpa using this
  obtain ⟨cells', e1, e2⟩ := fill_rep (g := g) (fun i => some (i * i'.size, i'.size)) ((List.range len).map fun i => (i * i'.size, i'.size)) (fun i p hp => by
      simp only [List.getElem?_map] at hp
      cases hx : (List.range len)[i]? with
      | none => rw [hx] at hp; simp at hp
      | some k =>
        have hlt := (List.getElem?_eq_some_iff.1 hx).1
        simp only [List.length_range] at hlt
        rw [List.getElem?_range hlt] at hx; injection hx with hx; subst hx
        simp only [List.getElem?_range hlt, Option.map_some] at hp
        exact hp) (parts.toList.map fun p => (p.1, a.eval p.2)) ((parts.toList.map (·.1)).zip avs) _ _ cs' (by
        rw [List.map_map, List.map_fst_zip (by omega)]; rfl) (by
        rw [List.map_map, List.map_snd_zip (by omega)]
        have e : (parts.toList.map ((fun x => x.2) ∘ fun p => (p.1, a.eval p.2))) = (parts.toList.map (·.2)).map a.eval := by simp
        rw [e]; exact hr) hstart hfill
  have hrun : (execOp a.eval (⟨dst, .buildSlice t len parts, ty, pos, after, none⟩ : Oper)).run P w = .ok (.value (.slice (some ⟨w.heap.size, 0, none⟩) len len)) (w.alloc (.cells cells' e)) := by
    have hsm' : ¬ len * i'.size > 2 ^ 24 := by omega
    have hso : (sizeOf e).run P w = .ok i'.size w := by simp [sizeOf, typeInfo, hi]
    have e1' : Instr.fill (fun i => some (i * i'.size, i'.size)) ((Array.range (len * i'.size)).map (z'.cells[· % z'.cells.size]!)) (parts.map fun x => (x.1, a.eval x.2)).toList = some cells' := by simpa using e1
    have hzv : (zeroValue e).run P w = .ok z' w := by simp [zeroValue, typeInfo, hi, hz1]
    by_cases h0 : len * i'.size = 0
    · have e3 : Instr.fill (fun i => some (i * i'.size, i'.size)) ((Array.range (len * i'.size)).map ((#[] : Array Value)[· % (#[] : Array Value).size]!)) (parts.map fun x => (x.1, a.eval x.2)).toList = some cells' := by
        rw [← e1']; congr 1; simp [h0]
      simp only [execOp, Instr.buildSlice, Sem.run_bind, run_underlying ht, Result.andThen_ok, hso, hsm', if_false, Sem.run_pure, if_pos h0, e3, newRow, run_newObj]
      rfl
    · simp only [execOp, Instr.buildSlice, Sem.run_bind, run_underlying ht, Result.andThen_ok, hso, hsm', if_false, Sem.run_pure, if_neg h0, hzv, e1', newRow, run_newObj]
      rfl
  unfold Oper.wp
  rw [hrun]
  have e2' := (unI_imp hun).rep e2
  have hsize : cells'.size = len * i'.size := by
    have h3 := repCs_length e2'
    rw [List.length_map, ← hflat, flat_len rows hrl, hlen] at h3
    simpa using h3
  have hmx : len ≤ maxLen := by
    have : len ≤ len * i'.size := Nat.le_mul_of_pos_right _ hsz
    simp only [maxLen]; omega
  have hown := World.ownsRow_lit (base := 0) (e := e) (size := i'.size) w cells' len (Nat.zero_le _) hmx hsize
  refine hK _ _ _ (behind_tok (all := cells'.toList) (rows := rows) rfl rfl hgood hn (by rw [hlen]; exact hown) rfl rfl rfl (by simp) (fun k hk _ => heap_alloc_old w _ hk) (fun b hb => .inl ?_) (fun b ⟨i, r, h3, _⟩ => by simp [get] at h3) (fun i h3 => by simp [get] at h3) hrl (fun t u d h3 h4 => ?_))
  · simp [Value.ownBlock] at hb; omega
  · obtain ⟨v, h5, h6⟩ := repCs_get e2' t (.i d) (by rw [← hflat, List.getElem?_map, h4]; rfl)
    rw [h3] at h5; injection h5 with h5; subst h5
    exact h6

/-! Lengths, elements, parts. -/
theorem s_len {t e : TypeId} {x : Operand} {esz : Nat} {rows : List (List I)} {cx : C} (ht : P.underlying t = some (.slice e)) (hx : ev S x = some (.c cx)) (hi : ImpC cx (.i (.sl esz rows))) (hd : dstOk dst S.sz = true) :
    Step P ops ⟨dst, .call { callee := .builtin .len, args := #[x], argTypes := #[t] }, ty, pos, after, none⟩ n S ⟨rdOf x (.c cx), [], vv (.int .i64 rows.length), []⟩ :=
  ⟨sound_run rfl rfl (fun g a w _ hT _ => by
    obtain ⟨A, cap, us, h1, _⟩ := sl_cells (c_sl (rep1' hx (flat_of_c hx) hT) hi)
    refine ⟨.int .i64 rows.length, ?_, rep_vv rfl⟩
    simp [execOp, resolve, invoke, builtin, Builtin.len_, h1, run_underlying ht, goInt]), rd1 hx, fun _ _ h => by simp [get] at h, dstOk_spec hd, (by intro h; first | rfl | assumption | exact absurd h (by simp [roOp]; done))⟩
theorem s_lenstr {t : TypeId} {x : Operand} {s : ByteArray} (ht : P.underlying t = some .string) (hx : ev S x = some (vv (.string s))) (hd : dstOk dst S.sz = true) :
    Step P ops ⟨dst, .call { callee := .builtin .len, args := #[x], argTypes := #[t] }, ty, pos, after, none⟩ n S ⟨rdOf x (vv (.string s)), [], vv (.int .i64 s.size), []⟩ :=
  ⟨sound_run rfl rfl (fun g a w _ hT _ => by
    have h1 := repV (rep1' hx (flat_of_c hx) hT)
    refine ⟨.int .i64 s.size, ?_, rep_vv rfl⟩
    simp [execOp, resolve, invoke, builtin, Builtin.len_, h1, run_underlying ht, goInt]), rd1 hx, fun _ _ h => by simp [get] at h, dstOk_spec hd, (by intro h; first | rfl | assumption | exact absurd h (by simp [roOp]; done))⟩
theorem s_indexAddr {t e : TypeId} {x y : Operand} {esz : Nat} {k : IntKind} {i : Int} {rows : List (List I)} {cx : C} (ht : P.underlying t = some (.slice e)) (he : (P.info? e).map (·.size) = some esz) (hx : ev S x = some (.c cx)) (hi : ImpC cx (.i (.sl esz rows))) (hy : ev S y = some (vv (.int k i)))
    (h0 : 0 ≤ i) (h1 : i < rows.length) (hd : dstOk dst S.sz = true) : Step P ops ⟨dst, .indexAddr t x y, ty, pos, after, none⟩ n S ⟨rdOf x (.c cx) ++ rdOf y (vv (.int k i)), [], .c (.el esz rows i.toNat 0), []⟩ :=
  ⟨sound_run rfl rfl (fun g a w _ hT _ => by
    obtain ⟨e1, e2⟩ := rep2 hx hy (flat_of_c hx) (flat_of_c hy) hT
    obtain ⟨A, cap, us, h2, h3, h4⟩ := sl_cells (c_sl e1 hi)
    have hlt : i.toNat < rows.length := by omega
    obtain ⟨b, o, rfl, h5⟩ := h4.at_ (by omega)
    have hrow : (rows.getD i.toNat []) ∈ rows := by rw [List.getD_eq_getElem?_getD, List.getElem?_eq_getElem hlt]; simp
    refine ⟨.pointer (some ⟨b, o + i.toNat * esz, none⟩), ?_, ?_⟩
    · simp [execOp, h2, repV e2, Instr.indexAt, asIntOf, run_underlying ht, run_sizeOf he, h0, h1, add_off]
    · simp only [RepAV, RepC]
      have hx' : ∀ j, j < esz → i.toNat * esz + j < us.length := fun j hj => by
        have : (i.toNat + 1) * esz ≤ rows.length * esz := Nat.mul_le_mul_right _ hlt
        rw [Nat.add_mul] at this; rw [h4.len]; omega
      refine ⟨b, o + i.toNat * esz, fun j => us.getD (i.toNat * esz + j) undef, rfl, hlt, h4.hl _ hrow, fun j hj => ?_, fun j c hc => ?_⟩
      · have := h5 (i.toNat * esz + j) (us.getD (i.toNat * esz + j) undef) (by simp [List.getD_eq_getElem?_getD, hx' j hj])
        rwa [← Nat.add_assoc] at this
      · have hj : j < esz := by have := (List.getElem?_eq_some_iff.1 hc).1; rwa [h4.hl _ hrow] at this
        refine h4.rep (i.toNat * esz + j) _ c (by simp [List.getD_eq_getElem?_getD, hx' j hj]) ?_
        rw [flat_get rows _ _ h4.hl hj]; exact hc), rd2 hx hy, fun _ _ h => by simp [get] at h, dstOk_spec hd, (by intro h; first | rfl | assumption | exact absurd h (by simp [roOp]; done))⟩

theorem sl_part {G : GH} {A : Option Addr} {us : List Value} {esz : Nat} {rows : List (List I)} (h : SlOk G A us esz rows) (lo hi : Nat) (h1 : lo ≤ hi) (h2 : hi ≤ rows.length) (A' : Option Addr) (hA : lo < hi → A' = A.map (·.add (lo * esz))) :
    SlOk G A' ((us.drop (lo * esz)).take ((hi - lo) * esz)) esz ((rows.drop lo).take (hi - lo)) := by
  have hlen : ((rows.drop lo).take (hi - lo)).length = hi - lo := by simp; omega
  have hle : hi * esz ≤ us.length := by rw [h.len]; exact Nat.mul_le_mul_right _ h2
  have hsub : (hi - lo) * esz = hi * esz - lo * esz := Nat.sub_mul _ _ _
  have hlo : lo * esz ≤ hi * esz := Nat.mul_le_mul_right _ h1
  refine ⟨fun r hr => h.hl r (List.mem_of_mem_drop (List.mem_of_mem_take hr)), ?_, fun h0 => ?_, fun t u d hu hd => ?_⟩
  · rw [hlen]; simp; omega
  · rw [hlen] at h0
    obtain ⟨b, o, rfl, h3⟩ := h.at_ (by omega)
    refine ⟨b, o + lo * esz, by rw [hA (by omega), Option.map_some, add_off], fun t u hu => ?_⟩
    rw [List.getElem?_take] at hu
    split at hu
    · rw [List.getElem?_drop] at hu
      rw [Nat.add_assoc]; exact h3 _ _ hu
    · cases hu
  · have hrl : ∀ r ∈ (rows.drop lo).take (hi - lo), r.length = esz := fun r hr => h.hl r (List.mem_of_mem_drop (List.mem_of_mem_take hr))
    have ht := (List.getElem?_eq_some_iff.1 hd).1
    rw [flat_len _ hrl, hlen] at ht
    have he : 0 < esz := by rcases Nat.eq_zero_or_pos esz with e | e; · subst e; simp at ht
                            · exact e
    rw [List.getElem?_take] at hu
    rw [if_pos (by omega), List.getElem?_drop] at hu
    refine h.rep (lo * esz + t) u d hu ?_
    have hm := Nat.mod_lt t he
    have e1 := flat_get ((rows.drop lo).take (hi - lo)) (t / esz) (t % esz) hrl hm
    rw [Nat.div_add_mod' t esz, hd] at e1
    have hq : t / esz < hi - lo := by rw [Nat.div_lt_iff_lt_mul he]; exact ht
    have e2 : ((rows.drop lo).take (hi - lo)).getD (t / esz) [] = rows.getD (lo + t / esz) [] := by
      rw [List.getD_eq_getElem?_getD, List.getD_eq_getElem?_getD, List.getElem?_take, if_pos hq, List.getElem?_drop]
    rw [e2, ← flat_get rows _ _ h.hl hm] at e1
    rw [e1]
    congr 1
    rw [Nat.add_mul, Nat.add_assoc, Nat.div_add_mod' t esz]

def optInt (S : St) : Option Operand → Option Int → Prop
  | some x, some i => ∃ k, ev S x = some (vv (.int k i))
  | none, none => True
  | _, _ => False
def optRd (S : St) : Option Operand → List (Nat × AV)
  | some x => match ev S x with | some av => rdOf x av | none => []
  | none => []
/-- A part of a slice. -/
theorem s_slice {t e : TypeId} {x : Operand} {lo hi : Option Operand} {esz : Nat} {rows : List (List I)} {cx : C} {l h : Option Int} (ht : P.underlying t = some (.slice e)) (he : (P.info? e).map (·.size) = some esz) (hx : ev S x = some (.c cx)) (hi' : ImpC cx (.i (.sl esz rows))) (hl : optInt S lo l) (hh : optInt S hi h)
    (h0 : 0 ≤ l.getD 0) (h1 : l.getD 0 ≤ h.getD rows.length) (h2 : h.getD rows.length ≤ rows.length) (hd : dstOk dst S.sz = true) :
    Step P ops ⟨dst, .slice t x lo hi none, ty, pos, after, none⟩ n S ⟨rdOf x (.c cx) ++ (optRd S lo ++ optRd S hi), [], .c (.i (.sl esz ((rows.drop (l.getD 0).toNat).take ((h.getD rows.length).toNat - (l.getD 0).toNat)))), []⟩ := by
  have hopt : ∀ (y : Option Operand) (i : Option Int), optInt S y i → ∀ (g : Gh) (a : Act), RepT g a (optRd S y) → (∃ z k j, y = some z ∧ i = some j ∧ a.eval z = .int k j) ∨ (y = none ∧ i = none) := fun y i hy g a hr => by
    cases y with
    | none => cases i with
      | none => exact .inr ⟨rfl, rfl⟩
      | some => exact hy.elim
    | some z => cases i with
      | none => exact hy.elim
      | some j =>
        obtain ⟨k, hk⟩ := hy
        refine .inl ⟨z, k, j, rfl, rfl, ?_⟩
        simp only [optRd, hk] at hr
        exact repV (rep1' hk (flat_of_c hk) hr)
  have hoptrd : ∀ (y : Option Operand) (i : Option Int), optInt S y i → ∀ p ∈ optRd S y, p.2 = .any ∨ get S.T p.1 = some p.2 := fun y i hy p hp => by
    cases y with
    | none => simp [optRd] at hp
    | some z => cases i with
      | none => exact hy.elim
      | some j => obtain ⟨k, hk⟩ := hy; simp only [optRd, hk] at hp; exact rd1 hk p hp
  refine ⟨sound_run rfl rfl (fun g a w _ hT _ => ?_), fun p hp => ?_, fun _ _ h => by simp [get] at h, dstOk_spec hd, (by intro h; first | rfl | assumption | exact absurd h (by simp [roOp]; done))⟩
  · have e1 := rep1 hx (flat_of_c hx) hT
    have hT1 : RepT g a (optRd S lo) := fun p hp => hT p (List.mem_append_right _ (List.mem_append_left _ hp))
    have hT2 : RepT g a (optRd S hi) := fun p hp => hT p (List.mem_append_right _ (List.mem_append_right _ hp))
    obtain ⟨A, cap, us, h3, h4, h5⟩ := sl_cells (c_sl e1 hi')
    obtain ⟨L, hL⟩ : ∃ L, L = (l.getD 0).toNat := ⟨_, rfl⟩
    obtain ⟨Hh, hHh⟩ : ∃ Hh, Hh = (h.getD rows.length).toNat := ⟨_, rfl⟩
    rw [← hL, ← hHh]
    have hLH : L ≤ Hh := by omega
    have hHr : Hh ≤ rows.length := by omega
    have hb1 : ((match hi.map a.eval with | some v => Instr.sliceBound v cap .sliceAcap | none => pure rows.length : Sem Nat)).run P w = .ok Hh w := by
      rcases hopt hi h hh g a hT2 with ⟨z, k, j, rfl, rfl, hz⟩ | ⟨rfl, rfl⟩
      · have : 0 ≤ j ∧ j ≤ cap := by simp only [Option.getD_some] at h1 h2; omega
        simp [hz, Instr.sliceBound, asIntOf, this, hHh]
      · simp [hHh]
    have hb2 : ((match lo.map a.eval with | some v => Instr.sliceBound v Hh .sliceB | none => pure 0 : Sem Nat)).run P w = .ok L w := by
      rcases hopt lo l hl g a hT1 with ⟨z, k, j, rfl, rfl, hz⟩ | ⟨rfl, rfl⟩
      · have : 0 ≤ j ∧ j ≤ Hh := by simp only [Option.getD_some] at h0 hL; omega
        simp [hz, Instr.sliceBound, asIntOf, this, hL]
      · simp [hL]
    have hbd : (Instr.sliceBounds true rows.length cap (lo.map a.eval) (hi.map a.eval) none).run P w = .ok (L, Hh, cap) w := by
      unfold Instr.sliceBounds
      cases hi with
      | none =>
        cases lo with
        | none => simp only [Option.map_none] at hb1 hb2 ⊢; simp at hb1 hb2 ⊢; simp [hb1, hb2]
        | some z => simp only [Option.map_none, Option.map_some] at hb1 hb2 ⊢; simp at hb1 hb2 ⊢; rw [hb1, hb2]; simp
      | some y =>
        cases lo with
        | none => simp only [Option.map_none, Option.map_some] at hb1 hb2 ⊢; simp at hb1 hb2 ⊢; rw [hb1]; simp [hb2]
        | some z => simp only [Option.map_some] at hb1 hb2 ⊢; simp at hb1 hb2 ⊢; rw [hb1]; simp; rw [hb2]; simp
    refine ⟨.slice (if cap = L then A else A.map (·.add (L * esz))) (Hh - L) (cap - L), ?_, ?_⟩
    · simp only [execOp, Instr.sliceAt, Sem.run_bind, run_underlying ht, Result.andThen_ok, h3, Instr.slice, Option.map_none, hbd, run_sizeOf he, Sem.run_pure]
    · simp only [RepAV, RepC]
      have hrl : ((rows.drop L).take (Hh - L)).length = Hh - L := by simp; omega
      have := sl_of (cap := cap - L) (sl_part h5 L Hh hLH hHr (if cap = L then A else A.map (·.add (L * esz))) (fun hlt => by rw [if_neg (by omega)])) (by rw [hrl]; omega)
      rwa [hrl] at this
  · rcases List.mem_append.1 hp with hp | hp
    · exact rd1 hx p hp
    · rcases List.mem_append.1 hp with hp | hp
      · exact hoptrd lo l hl p hp
      · exact hoptrd hi h hh p hp

/-- A slice held against nil. -/
theorem run_slnil (d : Nat) {t e : TypeId} (A : Option Addr) (k c : Nat) (ht : P.underlying t = some (.slice e)) (w : World) : (Op.equalIn (d + 1) t (.slice A k c) (.slice none 0 0)).run P w = .ok A.isNone w := by
  cases A <;> simp [Op.equalIn, run_underlying ht]
theorem s_nn {t t' e : TypeId} {x : Operand} {esz : Nat} {rows : List (List I)} {op : BinOp} {r : Bool} (hx : ev S x = some (.c (.nn esz rows))) (ht : P.underlying t = some (.slice e)) (hr : (match op with | .eql => some false | .neq => some true | _ => none) = some r) (hd : dstOk dst S.sz = true) :
    Step P ops ⟨dst, .binOp op t x (.const (.slice none 0 0)) t', ty, pos, after, none⟩ n S ⟨rdOf x (.c (.nn esz rows)) ++ [], [], vv (.bool r), []⟩ :=
  s_eqrun (bv := vv (.slice none 0 0)) hx rfl (flat_of_c hx) rfl (fun g u v w hu hv => by
    simp only [RepAV, RepC] at hu
    obtain ⟨_, A, k, c, rfl⟩ := hu
    have e2 := repV hv
    subst e2
    have h1 : (Op.equal t (.slice (some A) k c) (.slice none 0 0)).run P w = .ok false w := run_slnil 9999 _ _ _ ht w
    cases op <;> simp only [Option.some.injEq, reduceCtorEq] at hr <;> subst hr <;> simp [eqGuard, binOp, h1]) hd
theorem s_nil {t t' e : TypeId} {x : Operand} {k c : Nat} {op : BinOp} {r : Bool} (hx : ev S x = some (vv (.slice none k c))) (ht : P.underlying t = some (.slice e)) (hr : (match op with | .eql => some true | .neq => some false | _ => none) = some r) (hd : dstOk dst S.sz = true) :
    Step P ops ⟨dst, .binOp op t x (.const (.slice none 0 0)) t', ty, pos, after, none⟩ n S ⟨rdOf x (vv (.slice none k c)) ++ [], [], vv (.bool r), []⟩ :=
  s_eqrun (bv := vv (.slice none 0 0)) hx rfl (flat_of_c hx) rfl (fun g u v w hu hv => by
    have e1 := repV hu
    have e2 := repV hv
    subst e1 e2
    have h1 : (Op.equal t (.slice none k c) (.slice none 0 0)).run P w = .ok true w := run_slnil 9999 _ _ _ ht w
    cases op <;> simp only [Option.some.injEq, reduceCtorEq] at hr <;> subst hr <;> simp [eqGuard, binOp, h1]) hd
end
end Go.Proofs.Ytdmpocojbheoiaa.AM
