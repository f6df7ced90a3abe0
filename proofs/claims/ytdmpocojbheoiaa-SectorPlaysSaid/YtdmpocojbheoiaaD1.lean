/- A disk, as the abstract machine has it. -/
import Derived.Test.YtdmpocojbheoiaaA9
import Derived.Test.YtdmpocojbheoiaaS9
namespace Go.Proofs.Ytdmpocojbheoiaa.AM
open Go.RowKit
set_option linter.unusedVariables false
set_option linter.unusedSimpArgs false

theorem drep_zone {F F' : Nat → Prop} (hF : ∀ k, F k → F' k) {w : World} {D : Nat} {p : PD} {M : Nat} {ks ws : List (Int × Buf)} {wv : Value} {fz : Int} (h : DRep ⟨0, F⟩ w D p M ks wv ws fz) : DRep ⟨0, F'⟩ w D p M ks wv ws fz :=
  ⟨h.cells, h.mp, h.row, h.kb, h.wb, h.nd, h.dj, h.keq, h.weq, h.hD, h.hM, h.fzeq, h.fzb, h.sz, h.ct, h.fl, hF _ h.nx.1, hF _ h.nx.2.1, fun k hk => hF _ (h.nx.2.2.1 k hk), fun x hx => hF _ (h.nx.2.2.2.1 x hx), fun x hx => hF _ (h.nx.2.2.2.2 x hx)⟩
theorem drep_move {F : Nat → Prop} {w w' : World} (hs : ∀ k, F k → w'.heap[k]? = w.heap[k]?) {D : Nat} {p : PD} {M : Nat} {ks ws : List (Int × Buf)} {wv : Value} {fz : Int} (h : DRep ⟨0, F⟩ w D p M ks wv ws fz) : DRep ⟨0, F⟩ w' D p M ks wv ws fz :=
  { h with
    cells := (hs _ h.nx.1).trans h.cells, mp := h.mp.move (hs _ h.nx.2.1), row := own_move h.row (fun k hk => hs k (h.nx.2.2.1 k hk)),
    kb := fun x hx => ⟨(h.kb x hx).1.move (hs _ (h.nx.2.2.2.1 x hx)), (h.kb x hx).2⟩, wb := fun x hx => ⟨(h.wb x hx).1.move (hs _ (h.nx.2.2.2.2 x hx)), (h.wb x hx).2⟩ }
theorem disk_zone {F F' : Nat → Prop} (hF : ∀ k, F k → F' k) {w : World} {D : Nat} {p : PD} (h : DiskRep ⟨0, F⟩ w D p) : DiskRep ⟨0, F'⟩ w D p := by
  obtain ⟨M, ks, wv, ws, fz, h⟩ := h; exact ⟨M, ks, wv, ws, fz, drep_zone hF h⟩
/-- What is the disk's and is not there yet cannot be its. -/
theorem disk_cut {F : Nat → Prop} {w : World} {D : Nat} {p : PD} (h : DiskRep ⟨0, F⟩ w D p) : DiskRep ⟨0, fun k => F k ∧ k < w.heap.size⟩ w D p := by
  obtain ⟨M, ks, wv, ws, fz, h⟩ := h
  exact ⟨M, ks, wv, ws, fz, h.cells, h.mp, h.row, h.kb, h.wb, h.nd, h.dj, h.keq, h.weq, h.hD, h.hM, h.fzeq, h.fzb, h.sz, h.ct, h.fl, ⟨h.nx.1, h.lt⟩, ⟨h.nx.2.1, h.mp.lt⟩, fun k hk => ⟨h.nx.2.2.1 k hk, (h.row.lt k hk).2⟩, fun x hx => ⟨h.nx.2.2.2.1 x hx, (h.kb x hx).1.lt⟩, fun x hx => ⟨h.nx.2.2.2.2 x hx, (h.wb x hx).1.lt⟩⟩

def diskP (p : PD) : ObjP where
  holds b F w := DiskRep ⟨0, F⟩ w b p ∧ ∀ k, F k → k < w.heap.size
  stable := fun ⟨⟨M, ks, wv, ws, fz, h⟩, hl⟩ hs => ⟨⟨M, ks, wv, ws, fz, drep_move hs h⟩, fun k hk => by
    have h1 := hl k hk
    have h2 := hs k hk
    rw [Array.getElem?_eq_getElem h1] at h2
    exact (Array.getElem?_eq_some_iff.1 h2).1⟩
  lt := fun h k hk => h.2 k hk

theorem goodb_lt {g : Gh} {w : World} (h : Good g w) {b j : Nat} {v : Value} (hv : g.G b j = some v) : b < w.heap.size := World.block_lt_of_cell? w ⟨b, j, none⟩ (h b j v hv)
theorem get_one {α : Type _} {k id : Nat} {v r : α} (h : get [(k, v)] id = some r) : id = k ∧ r = v := by
  rw [get_cons] at h
  by_cases e : k = id
  · rw [if_pos e] at h; injection h with h; exact ⟨e.symm, h.symm⟩
  · rw [if_neg e] at h; simp [get] at h

/-- A call that turns a disk. -/
theorem disk_spec {P : Program} {f : FuncId} {p p' : PD} {args : List AV} {res : AV} (hb : belowA 1 args) (hbr : res.bel 1)
    (h : ∀ (g : Gh) (w : World) (F : Nat → Prop) (D : Nat) (xs : List Value), Good g w → RepAVs g xs args → (∀ k, w.heap.size ≤ k → F k) → DiskRep ⟨0, F⟩ w D p →
      Calls P f (.pointer (some ⟨D, 0, none⟩) :: xs).toArray w (fun e w' => ∃ v, e = .returned v ∧ DiskRep ⟨0, F⟩ w' D p' ∧ Touch ⟨0, F⟩ w w' ∧ ∀ g', RepAV g' v res)) :
    FnSpec P f 1 1 (.c (.ptr 0 0) :: args) [(0, .obj (diskP p))] res [(0, .obj (diskP p'))] := by
  refine ⟨?_, ?_, hbr, ?_, by omega, fun g w xs hg hr hh ha => ?_⟩
  · simp only [belowA]; exact ⟨by simp [AV.bel, C.bel], hb⟩
  · intro q hq; simp only [List.mem_singleton] at hq; subst hq; exact ⟨Nat.one_pos, by simp [R.bel]⟩
  · intro q hq; simp only [List.mem_singleton] at hq; subst hq; exact ⟨Nat.one_pos, by simp [R.bel]⟩
  match xs, hr with
  | [], hr => simp only [RepAVs] at hr
  | x :: xs, hr =>
    simp only [RepAVs, RepAV, RepC] at hr
    obtain ⟨⟨hal, rfl⟩, hrs⟩ := hr
    obtain ⟨⟨hD, hlt⟩, hF0⟩ := hh.holds 0 _ rfl
    have hgn : ∀ k, w.heap.size ≤ k → ∀ j, g.G k j = none := fun k hk j => by
      cases hv : g.G k j with
      | none => rfl
      | some v => have := goodb_lt hg hv; omega
    refine (h g w (fun k => g.F 0 k ∨ w.heap.size ≤ k) (g.blk 0) xs hg hrs (fun k hk => .inr hk) (disk_zone (fun k hk => .inl hk) hD)).mono ?_
    rintro e w' ⟨v, rfl, hD', ht, hrep⟩
    have hcell : ∀ b j u, g.G b j = some u → w'.cell? ⟨b, j, none⟩ = w.cell? ⟨b, j, none⟩ := fun b j u hu => by
      refine World.cell?_of_block (ht.keep b (goodb_lt hg hu) (.inl ?_))
      rintro (h1 | h1)
      · rw [hF0 b h1 j] at hu; cases hu
      · have := goodb_lt hg hu; omega
    refine ⟨v, { g with F := fun id => if id = 0 then (fun k => (g.F 0 k ∨ w.heap.size ≤ k) ∧ k < w'.heap.size) else g.F id }, rfl, fun b j u hu => (hcell b j u hu).trans (hg b j u hu), ?_, hrep _, ⟨fun id r hi => ?_, fun id r hi => ?_, fun id id' r r' hi hi' hne => ?_⟩, fun k hk => ?_⟩
    · exact ⟨ht.os, ht.tape, ht.output, ht.size, fun k hk hno => ht.keep k hk (.inl (fun h1 => by
        rcases h1 with h1 | h1
        · exact hno ⟨0, _, rfl, h1⟩
        · omega)), fun _ _ _ h => h, fun _ _ _ h => .inl h, fun _ h => h, fun _ _ => rfl, fun _ _ => rfl, fun _ _ h => absurd trivial h⟩
    · obtain ⟨rfl, rfl⟩ := get_one hi; exact hal
    · obtain ⟨rfl, rfl⟩ := get_one hi
      refine ⟨⟨?_, fun k hk => by simp at hk; exact hk.2⟩, fun k hk j => ?_⟩
      · have := disk_cut hD'; simpa using this
      · simp only [if_true] at hk
        rcases hk.1 with h1 | h1
        · exact hF0 k h1 j
        · exact hgn k h1 j
    · obtain ⟨rfl, rfl⟩ := get_one hi; obtain ⟨rfl, rfl⟩ := get_one hi'; exact absurd rfl hne
    · obtain ⟨id, r, hi, hk⟩ := hk
      obtain ⟨rfl, rfl⟩ := get_one hi
      simp only [if_true] at hk
      rcases hk.1 with h1 | h1
      · exact .inl ⟨0, _, rfl, h1⟩
      · exact .inr h1

/-- A call that reads a disk; what it answers is new. -/
theorem disk_read_spec {P : Program} {f : FuncId} {p : PD} {args : List AV} {res : AV} (hb : belowA 1 args) (hbr : res.bel 1)
    (h : ∀ (g : Gh) (w : World) (F : Nat → Prop) (D : Nat) (xs : List Value), Good g w → RepAVs g xs args → DiskRep ⟨0, F⟩ w D p →
      Calls P f (.pointer (some ⟨D, 0, none⟩) :: xs).toArray w (fun e w' => ∃ v, e = .returned v ∧ Below w.heap.size w w' ∧ ∀ g', (∀ b j u, w.heap.size ≤ b → w'.cell? ⟨b, j, none⟩ = some u → g'.G b j = some u) → RepAV g' v res)) :
    FnSpec P f 1 1 (.c (.ptr 0 0) :: args) [(0, .obj (diskP p))] res [(0, .obj (diskP p))] := by
  refine ⟨?_, ?_, hbr, ?_, by omega, fun g w xs hg hr hh ha => ?_⟩
  · simp only [belowA]; exact ⟨by simp [AV.bel, C.bel], hb⟩
  · intro q hq; simp only [List.mem_singleton] at hq; subst hq; exact ⟨Nat.one_pos, by simp [R.bel]⟩
  · intro q hq; simp only [List.mem_singleton] at hq; subst hq; exact ⟨Nat.one_pos, by simp [R.bel]⟩
  match xs, hr with
  | [], hr => simp only [RepAVs] at hr
  | x :: xs, hr =>
    simp only [RepAVs, RepAV, RepC] at hr
    obtain ⟨⟨hal, rfl⟩, hrs⟩ := hr
    obtain ⟨⟨hD, hlt⟩, hF0⟩ := hh.holds 0 _ rfl
    refine (h g w _ _ xs hg hrs hD).mono ?_
    rintro e w' ⟨v, rfl, hbl, hrep⟩
    have hE : Ext (fun _ => False) (fun _ => False) g { g with G := fun b j => if w.heap.size ≤ b then w'.cell? ⟨b, j, none⟩ else g.G b j } w w' :=
      ⟨hbl.os, hbl.tape, hbl.output, hbl.size, fun k hk _ => hbl.block k hk, fun b j u hu => by
        have := goodb_lt hg hu
        simp only; rw [if_neg (by omega)]; exact hu, fun b j u hu => by
        simp only at hu
        by_cases hc : w.heap.size ≤ b
        · exact .inr (.inl hc)
        · rw [if_neg hc] at hu; exact .inl hu, fun _ h => h, fun _ _ => rfl, fun _ _ => rfl, fun _ _ _ => rfl⟩
    refine ⟨v, _, rfl, fun b j u hu => ?_, hE.weaken (fun _ h => h.elim) (fun _ h => h.elim), hrep _ (fun b j u hb hu => by simp only; rw [if_pos hb]; exact hu), ⟨fun id r hi => ?_, fun id r hi => ?_, fun id id' r r' hi hi' hne => ?_⟩, fun k hk => ?_⟩
    · simp only at hu
      by_cases hc : w.heap.size ≤ b
      · rw [if_pos hc] at hu; exact hu
      · rw [if_neg hc] at hu; exact (World.cell?_of_block (hbl.block b (goodb_lt hg hu))).trans (hg b j u hu)
    · obtain ⟨rfl, rfl⟩ := get_one hi; exact hal
    · obtain ⟨rfl, rfl⟩ := get_one hi
      exact holds_keep (hh.holds 0 _ rfl) hE hal (fun h => h) (fun _ _ h => h)
    · obtain ⟨rfl, rfl⟩ := get_one hi; obtain ⟨rfl, rfl⟩ := get_one hi'; exact absurd rfl hne
    · obtain ⟨id, r, hi, hk⟩ := hk
      obtain ⟨rfl, rfl⟩ := get_one hi
      exact .inl ⟨0, _, rfl, hk⟩
end Go.Proofs.Ytdmpocojbheoiaa.AM
