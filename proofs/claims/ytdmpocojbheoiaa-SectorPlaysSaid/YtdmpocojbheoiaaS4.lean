/- A disk: made; its sizes; a fuse set; what stays of a sector; spoilt. -/
import Derived.Test.YtdmpocojbheoiaaS3
import Derived.Deep.OwnRows
namespace Go.Proofs.Ytdmpocojbheoiaa
open Go.RowKit Go.Proofs.YtdmpocojbheoiaaW.PrintLast

def PD.new (size count : Nat) : PD := { size, count, kept := fun _ => List.replicate size 0, waits := [], off := false, falls := 0, fuse := none }
def NewPost (base : Zn) (w : World) (size count : Nat) (e : Ending) (w' : World) : Prop :=
  ∃ D, e = .returned (.tuple #[.pointer (some ⟨D, 0, none⟩), .int .i64 0]) ∧ DiskRep base w' D (PD.new size count) ∧ Below w.heap.size w w' ∧ w.heap.size ≤ D

set_option maxRecDepth 100000 in
set_option maxHeartbeats 400000 in
theorem new_calls (base : Zn) (size count : Nat) (w : World) (h1 : 64 ≤ size) (h2 : size ≤ 512) (h3 : 1 ≤ count) (h4 : count ≤ 4096) (hb : base ≤ w.heap.size) (hX : ∀ k, w.heap.size ≤ k → base.o k) :
    Calls Try.prog 6 #[.int .i64 size, .int .i64 count] w (NewPost base w size count) := by
  have hmm := @run_makeMap Try.prog
  have g1 : ((size : Int) < 64) = False := by simp; omega
  go_enter Try.func6, Try.ntmps6
  go_wp2
  go_ret2
  refine ⟨w.heap.size + 1, rfl, ⟨w.heap.size, [], .slice none 0 0, [], 0, ?_⟩, ?_, Nat.le_succ _⟩
  · refine ⟨?_, ?_, World.ownsRow_nil _ _ _ _, (fun _ h => by cases h), (fun _ h => by cases h), by simp, (fun _ h => by cases h), fun i => rfl, rfl, by omega, hb, (fun n h => by cases h), by omega, ⟨h1, h2⟩, ⟨h3, h4⟩, by simp [PD.new], hX _ (by omega), hX _ (by omega), (fun k hk => by simp [Value.ownBlock] at hk), (fun _ h => by cases h), (fun _ h => by cases h)⟩
    · have := heap_alloc_new (w.alloc (.map #[] 0)) (.cells (dcells (PD.new size count) w.heap.size (.slice none 0 0) 0) 50 (0, 0))
      rw [World.size_alloc] at this; exact this
    · exact (mapAt_new w).move (Below.heap_alloc _ _ _ (by simp))
  · exact ((Below.refl _ w).alloc (Nat.le_refl _) _).alloc (by simp) _

section
variable {base : Zn} {w : World} {D : Nat} {p : PD} {M : Nat} {ks ws : List (Int × Buf)} {wv : Value} {fz : Int}
set_option maxHeartbeats 400000 in
theorem size_calls (h : DRep base w D p M ks wv ws fz) : Calls Try.prog 7 #[.pointer (some ⟨D, 0, none⟩)] w (fun e w' => e = .returned (.int .i64 p.size) ∧ w = w') := by
  have hc := h.cell
  simp only [dcells] at hc
  clear h
  go_enter Try.func7, Try.ntmps7
  go_wp2
  go_ret
  exact ⟨rfl, rfl⟩
set_option maxHeartbeats 400000 in
theorem count_calls (h : DRep base w D p M ks wv ws fz) : Calls Try.prog 8 #[.pointer (some ⟨D, 0, none⟩)] w (fun e w' => e = .returned (.int .i64 p.count) ∧ w = w') := by
  have hc := h.cell
  simp only [dcells] at hc
  clear h
  go_enter Try.func8, Try.ntmps8
  go_wp2
  go_ret
  exact ⟨rfl, rfl⟩
set_option maxHeartbeats 400000 in
theorem falls_calls (h : DRep base w D p M ks wv ws fz) : Calls Try.prog 12 #[.pointer (some ⟨D, 0, none⟩)] w (fun e w' => e = .returned (.int .u64 p.falls) ∧ w = w') := by
  have hc := h.cell
  simp only [dcells] at hc
  clear h
  go_enter Try.func12, Try.ntmps12
  go_wp2
  go_ret
  exact ⟨rfl, rfl⟩
set_option maxHeartbeats 400000 in
theorem isOn_calls (h : DRep base w D p M ks wv ws fz) : Calls Try.prog 11 #[.pointer (some ⟨D, 0, none⟩)] w (fun e w' => e = .returned (.bool (!p.off)) ∧ w = w') := by
  have hc := h.cell
  simp only [dcells] at hc
  clear h
  go_enter Try.func11, Try.ntmps11
  go_wp2
  go_ret
  exact ⟨rfl, rfl⟩
set_option maxHeartbeats 400000 in
theorem waits_calls (h : DRep base w D p M ks wv ws fz) : Calls Try.prog 13 #[.pointer (some ⟨D, 0, none⟩)] w (fun e w' => e = .returned (.int .i64 p.waits.length) ∧ w = w') := by
  have hc := h.cell
  obtain ⟨A, c, hv⟩ := own_slice h.row
  have hl : p.waits.length = ws.length := by rw [h.weq]; simp
  simp only [dcells, hv] at hc
  have Hl := Lib.hid hl
  clear h hl hv
  go_enter Try.func13, Try.ntmps13
  go_wp2
  go_ret
  exact ⟨by rw [Hl.out]; rfl, rfl⟩
def PD.setFuse (p : PD) (n : Int) : PD := { p with fuse := some n.toNat }
set_option maxHeartbeats 400000 in
theorem fuse_calls (h : DRep base w D p M ks wv ws fz) (n : Int) (hn : n ≤ 9223372036854775807) : Calls Try.prog 23 #[.pointer (some ⟨D, 0, none⟩), .int .i64 n] w
    (fun e w' => e = .returned (.tuple #[]) ∧ (∃ fz', DRep base w' D (p.setFuse n) M ks wv ws fz') ∧ Touch base w w') := by
  have hc := h.cell
  have hfr := h.free
  simp only [dcells] at hc
  have H := Lib.hid h; clear h
  go_enter Try.func23, Try.ntmps23
  go_wp2
  all_goals
    go_end0
    have h := H.out
    refine ⟨rfl, ⟨n.toNat, h.upd (by rw [heap_setCell_same _ _ _ _ _ _ (heap_setCell_same _ _ _ _ _ _ h.cells)]; simp [PD.setFuse, dcells]; omega) (fun k hk => by rw [Below.heap_setCell _ _ _ _ hk, Below.heap_setCell _ _ _ _ hk]) rfl rfl rfl rfl (by simp [PD.setFuse]) (by omega) h.fl⟩, ?_⟩
    exact (Touch.setCell h.cells rfl h.nx.1 _).trans (Touch.setCell (heap_setCell_same _ _ _ _ _ _ h.cells) rfl h.nx.1 _)

theorem getK_map {α β : Type} (f : α → β) (ks : List (Int × α)) (i : Int) : getK (ks.map fun x => (x.1, f x.2)) i = (getK ks i).map f := by
  induction ks with
  | nil => rfl
  | cons x r ih =>
    obtain ⟨k, c⟩ := x
    simp only [List.map_cons, getK]
    split
    · rfl
    · exact ih
theorem zeroValue_bytes : ∀ w : World, (zeroValue 38).run Try.prog w = .ok (.slice none 0 0) w := fun _ => by kernel_rfl

set_option maxHeartbeats 400000 in
theorem stays_calls (h : DRep base w D p M ks wv ws fz) (i : Int) : Calls Try.prog 28 #[.pointer (some ⟨D, 0, none⟩), .int .i64 i] w (SomeBuf w (p.kept i)) := by
  have hc := h.cell
  have hsz := h.sz
  have hlk := run_lookupK (P := Try.prog) w M _ h.mp Try.underlying47 Try.underlying3 (.slice none 0 0) zeroValue_bytes i
  have hk := h.keq i
  simp only [getK_map, dcells] at hlk hc
  cases hg : getK ks i with
  | none =>
    have hk2 : p.kept i = List.replicate p.size 0 := by rw [hk]; simp [keptOf, hg]
    simp only [hg] at hlk
    have Hlk := hlk
    have H := Lib.hid h; have Hk := Lib.hid hk2; have Hg := Lib.hid hg; clear h hk hk2 hg
    have hmk := fun W => run_make_row' (P := Try.prog) 38 5 (.int .u8 0) 1 Try.underlying38 info_byte rfl .i64 .i64 p.size (by omega) (by omega) W
    go_enter Try.func28, Try.ntmps28
    go_wp2
    go_ret
    refine ⟨w.heap.size, p.size, by rw [Hk.out, List.length_replicate]; rfl, ?_, (Below.refl _ w).alloc (Nat.le_refl _) _⟩
    rw [Hk.out]
    have := World.ownsRow_lit (base := w.heap.size) (e := 5) (size := 1) w (madeCells #[.int .u8 0] p.size) p.size (Nat.le_refl _) (by simp [maxLen]; omega) (by simp [size_madeCells])
    simpa [BufAt, OwnB, Buf.val, toList_madeCells_one, B8] using this
  | some b =>
    have hk2 : p.kept i = b.bs := by rw [hk]; simp [keptOf, hg]
    have hmem := getK_mem hg
    have hbb := h.kb _ hmem
    simp only [hg, Option.map_some, Option.getD_some, Option.isSome_some] at hlk
    unfold Buf.val at hlk
    have Hb := Lib.hid hbb; have Hk := Lib.hid hk2; clear h hk hk2 hg hmem hbb
    go_enter Try.func28, Try.ntmps28
    go_wp2_with ((with_reducible refine (clone_buf (.slice (some ⟨b.g, 0, none⟩) b.bs.length b.cap) b.bs _ Hb.out.1.bytes (by have := Hb.out.2; unfold mostB; simp only at this; omega) (by have := Hb.out.2; simp only at this; omega)).mono ?_); rintro e w' ⟨g, cap, rfl, h1, h2⟩)
    go_ret
    exact ⟨g, cap, by rw [Hk.out]; rfl, by rw [Hk.out]; exact h1, h2⟩

theorem xor_b8 (a b : UInt8) : bits BinOp.xor IntKind.u8 (a.toNat : Int) (b.toNat : Int) = ((a ^^^ b).toNat : Int) := by
  rw [u8_xor_nat _ _ a.toNat_lt b.toNat_lt]; simp
def xorAt (l : List UInt8) (at_ : Nat) (by_ : UInt8) : List UInt8 := l.set at_ (l[at_]?.getD 0 ^^^ by_)
def PD.spoil (p : PD) (i at_ : Int) (by_ : UInt8) : Int × PD :=
  if (i < 0 ∨ p.count ≤ i) ∨ at_ < 0 ∨ p.size ≤ at_ then (6, p) else (0, { p with kept := fun j => if i = j then xorAt (p.kept i) at_.toNat by_ else p.kept j })

theorem putK_map {α β : Type} (f : α → β) (ks : List (Int × α)) (i : Int) (b : α) : putK (ks.map fun x => (x.1, f x.2)) i (f b) = (putK ks i b).map fun x => (x.1, f x.2) := by
  induction ks with
  | nil => rfl
  | cons x r ih =>
    obtain ⟨k, c⟩ := x
    simp only [List.map_cons, putK]
    split
    · rfl
    · simp [ih]
theorem DRep.put {w3 : World} (h : DRep base w D p M ks wv ws fz) (i : Int) (b : Buf) (hb : BufAt base w b) (hbs : b.bs.length = p.size) (fr : ∀ x ∈ ws, b.g ≠ x.2.g) (hbo : base.o b.g)
    (hm : MapAt w3 M (putK (ks.map fun x => (x.1, x.2.val)) i b.val)) (hs : ∀ k, k ≠ M → w3.heap[k]? = w.heap[k]?) :
    DRep base w3 D { p with kept := fun j => if i = j then b.bs else p.kept j } M (putK ks i b) wv ws fz := by
  have ne : ∀ {k : Nat} {t : Nat} {c : Array Value}, w.heap[k]? = some (.cells c t (0, 0)) → k ≠ M := by
    rintro k t c hk rfl
    obtain ⟨es, cl, hm, _⟩ := h.mp
    rw [hk] at hm; cases hm
  have bufk : ∀ x : Buf, BufAt base w x → BufAt base w3 x := fun x hx => hx.move (hx.typed.elim fun c hc => hs _ (ne hc))
  refine ⟨(hs _ (ne h.cells)).trans h.cells, ?_, own_move h.row (fun k hk => (own_typed h.row k hk).elim fun c hc => hs k (ne hc)), fun x hx => ?_, fun x hx => ⟨bufk _ (h.wb x hx).1, (h.wb x hx).2⟩, h.nd, fun x hx y hy => ?_, fun j => ?_, h.weq, h.hD, h.hM, h.fzeq, h.fzb, h.sz, h.ct, h.fl, h.nx.1, h.nx.2.1, h.nx.2.2.1, fun x hx => ?_, h.nx.2.2.2.2⟩
  · rw [← putK_map (fun b => b.val) ks i b]; exact hm
  · rcases mem_putK hx with rfl | hx
    · exact ⟨bufk _ hb, hbs⟩
    · exact ⟨bufk _ (h.kb x hx).1, (h.kb x hx).2⟩
  · rcases mem_putK hx with rfl | hx
    · exact fr y hy
    · exact h.dj x hx y hy
  · show _ = keptOf p.size (putK ks i b) j
    unfold keptOf
    rw [getK_putK]
    by_cases hij : i = j
    · simp [hij]
    · simpa [hij, keptOf] using h.keq j
  · rcases mem_putK hx with rfl | hx
    · exact hbo
    · exact h.nx.2.2.2.1 x hx

set_option maxRecDepth 100000 in
set_option maxHeartbeats 400000 in
theorem spoil_calls (h : DRep base w D p M ks wv ws fz) (i at_ : Int) (by_ : UInt8) (hbw : base ≤ w.heap.size) (hX : ∀ k, w.heap.size ≤ k → base.o k) : Calls Try.prog 25 #[.pointer (some ⟨D, 0, none⟩), .int .i64 i, .int .i64 at_, .int .u8 by_.toNat] w
    (fun e w' => e = .returned (.int .i64 (p.spoil i at_ by_).1) ∧ DiskRep base w' D (p.spoil i at_ by_).2 ∧ Touch base w w') := by
  have hc := h.cell
  have hfr := h.free
  have hsz := h.sz
  by_cases hi : i < 0 ∨ p.count ≤ i
  · have hd : (decide (0 ≤ i) && decide (i < p.count)) = false := by simp; omega
    have fin : p.spoil i at_ by_ = (6, p) := by simp [PD.spoil, hi]
    simp only [dcells] at hc
    have H := Lib.hid h; have Hd := Lib.hid hd; have Fin := Lib.hid fin; clear h hd fin hi
    go_enter Try.func25, Try.ntmps25
    go_wp2_with ((go_at_call 32; refine (has_calls H.out i false Hd.out).mono ?_; rintro e w' ⟨rfl, rfl⟩))
    go_ret
    exact ⟨by rw [Fin.out]; rfl, ⟨M, ks, wv, ws, fz, by rw [Fin.out]; exact H.out⟩, Touch.refl _ _⟩
  · have hd : (decide (0 ≤ i) && decide (i < p.count)) = true := by simp; omega
    by_cases ha : at_ < 0 ∨ p.size ≤ at_
    · have fin : p.spoil i at_ by_ = (6, p) := by simp [PD.spoil, ha]
      simp only [dcells] at hc
      have H := Lib.hid h; have Hd := Lib.hid hd; have Fin := Lib.hid fin; clear h hd fin hi
      rcases ha with ha | ha
      all_goals
        go_enter Try.func25, Try.ntmps25
        go_wp2_with ((go_at_call 32; refine (has_calls H.out i true Hd.out).mono ?_; rintro e w' ⟨rfl, rfl⟩))
        all_goals
          go_ret
          exact ⟨by rw [Fin.out]; rfl, ⟨M, ks, wv, ws, fz, by rw [Fin.out]; exact H.out⟩, Touch.refl _ _⟩
    · obtain ⟨a0, a1⟩ : 0 ≤ at_ ∧ at_ < p.size := by omega
      have fin : p.spoil i at_ by_ = (0, { p with kept := fun j => if i = j then xorAt (p.kept i) at_.toNat by_ else p.kept j }) := by simp [PD.spoil, hi, ha]
      have hkl : (p.kept i).length = p.size := by
        rw [h.keq i]; unfold keptOf
        cases hg : getK ks i with
        | none => simp
        | some b => simpa using (h.kb _ (getK_mem hg)).2
      simp only [dcells] at hc
      have H := Lib.hid h; have Hd := Lib.hid hd; have Fin := Lib.hid fin; have Hkl := Lib.hid hkl; clear h hd fin hi ha hkl
      go_enter Try.func25, Try.ntmps25
      go_wp2_with (first | (go_at_call 32; refine (has_calls H.out i true Hd.out).mono ?_; rintro e w' ⟨rfl, rfl⟩) | (go_at_call 28; refine (stays_calls H.out i).mono ?_; rintro e w1 ⟨g, cap, rfl, hb1, hbel⟩; rw [Hkl.out]; have hcb := hb1.at_ at_.toNat (by rw [Hkl.out]; omega); have hfb := hb1.free; have hc1 := (H.out.below hbel).cell; have hgD : D ≠ g := (by have := H.out.lt; have := hb1.base; simp only at this; omega); simp only [dcells, B8] at hc1 hcb; have Hb1 := Lib.hid hb1; have Hbel := Lib.hid hbel; clear hb1 hbel) | (at_mapUpdate; refine wpList_mapPut _ rfl rfl _ _ _ rfl M _ ((H.out.below Hbel.out).mp.move (Below.heap_setCell _ _ _ _ (fun e => by have := H.out.mp.lt; have := Hb1.out.base; simp only at this e; omega))) Try.underlying47 Try.underlying3 i _ rfl rfl rfl ?_; intro w3 hm3 ho3 ht3 hou3 hs3 hk3))
      go_ret
      have hst := Hb1.out.store at_.toNat ((p.kept i)[at_.toNat]?.getD 0 ^^^ by_)
      simp only [xor_b8] at hk3 hs3 ho3 ht3 hou3
      rw [Fin.out]
      have h1 := H.out.below Hbel.out
      have hgM : ∀ k, k ≠ g → (w1.setCell ⟨g, at_.toNat, none⟩ (.int .u8 (((p.kept i)[at_.toNat]?.getD 0 ^^^ by_).toNat : Int))).heap[k]? = w1.heap[k]? := fun k hk => Below.heap_setCell _ _ _ _ hk
      have ltg : ∀ {k : Nat}, k < w.heap.size → k ≠ g := fun hk e => by have := Hb1.out.base; simp only at this e; omega
      have h2 : DRep base (w1.setCell ⟨g, at_.toNat, none⟩ (.int .u8 (((p.kept i)[at_.toNat]?.getD 0 ^^^ by_).toNat : Int))) D p M ks wv ws fz := by
        refine ⟨(hgM _ (ltg H.out.lt)).trans h1.cells, h1.mp.move (hgM _ (ltg H.out.mp.lt)), own_move h1.row (fun k hk => hgM _ (ltg ?_)), fun x hx => ⟨(h1.kb x hx).1.move (hgM _ (ltg (H.out.kb x hx).1.lt)), (h1.kb x hx).2⟩,
          fun x hx => ⟨(h1.wb x hx).1.move (hgM _ (ltg (H.out.wb x hx).1.lt)), (h1.wb x hx).2⟩, h1.nd, h1.dj, h1.keq, h1.weq, h1.hD, h1.hM, h1.fzeq, h1.fzb, h1.sz, h1.ct, h1.fl, h1.nx⟩
        exact (H.out.row.lt k hk).2
      have hbs : (xorAt (p.kept i) at_.toNat by_).length = p.size := by rw [xorAt, List.length_set, Hkl.out]
      have hst2 : BufAt base (w1.setCell ⟨g, at_.toNat, none⟩ (.int .u8 (((p.kept i)[at_.toNat]?.getD 0 ^^^ by_).toNat : Int))) ⟨g, cap, xorAt (p.kept i) at_.toNat by_⟩ := own_weaken hst hbw
      have hm4 : MapAt w3 M (putK (ks.map fun x => (x.1, x.2.val)) i (Buf.val ⟨g, cap, xorAt (p.kept i) at_.toNat by_⟩)) := by
        have e : Buf.val ⟨g, cap, xorAt (p.kept i) at_.toNat by_⟩ = .slice (some ⟨g, 0, none⟩) p.size cap := by simp only [Buf.val, hbs]
        rw [e]; exact hm3
      refine ⟨rfl, ⟨M, _, wv, ws, fz, h2.put i _ hst2 hbs (fun x hx => Ne.symm (ltg (H.out.wb x hx).1.lt)) (hX _ Hb1.out.base) hm4 hk3⟩, ?_⟩
      obtain ⟨cg, hcg⟩ := Hb1.out.typed
      obtain ⟨es, cl, hmm, _⟩ := h2.mp
      refine ((Touch.of_below Hbel.out).trans (Touch.setCell hcg rfl ?_ _)).trans (Touch.ofMap hmm h2.nx.2.1 ho3 ht3 hou3 hs3 hk3)
      exact hX _ Hb1.out.base
end
end Go.Proofs.Ytdmpocojbheoiaa
