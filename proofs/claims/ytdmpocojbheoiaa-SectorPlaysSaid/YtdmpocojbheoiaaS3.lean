/- A disk's fuse and fall, what stays, a write. -/
import Derived.Test.YtdmpocojbheoiaaS2
import Derived.Deep.RegionHeld3
import Derived.Deep.RegionLaw
import Derived.Test.YtdmpocojbheoiaaWLast
namespace Go.Proofs.Ytdmpocojbheoiaa
open Go.RowKit Go.Proofs.YtdmpocojbheoiaaW.PrintLast

def PD.fall (p : PD) : PD := { p with falls := if p.off then p.falls else IntKind.u64.wrap (p.falls + 1), off := true }
def PD.burns (p : PD) : Bool × PD := match p.fuse with
  | none => (false, p)
  | some 0 => (true, p.fall)
  | some (n + 1) => (false, { p with fuse := some n })

theorem wrap_u64 (x : Int) : 0 ≤ IntKind.u64.wrap x ∧ IntKind.u64.wrap x < 18446744073709551616 := by
  simp [IntKind.wrap, IntKind.signed, IntKind.bits]; omega

/-- What a call of a disk leaves. -/
def DPost (base : Zn) (w : World) (D : Nat) (v : Value) (p : PD) (e : Ending) (w' : World) : Prop := e = .returned v ∧ DiskRep base w' D p ∧ Touch base w w'

section
variable {base : Zn} {w : World} {D : Nat} {p : PD} {M : Nat} {ks ws : List (Int × Buf)} {wv : Value} {fz : Int}
set_option maxHeartbeats 400000 in
theorem fall_calls (h : DRep base w D p M ks wv ws fz) : Calls Try.prog 24 #[.pointer (some ⟨D, 0, none⟩)] w (fun e w' => e = .returned (.tuple #[]) ∧ DRep base w' D p.fall M ks wv ws fz ∧ Touch base w w') := by
  have hc := h.cell
  have hfr := h.free
  cases ho : p.off with
  | true =>
    simp only [dcells, ho] at hc
    have H := Lib.hid h; clear h
    have Ho := Lib.hid ho; clear ho
    go_enter Try.func24, Try.ntmps24
    go_wp2
    go_end0
    refine ⟨rfl, ?_, Touch.refl _ _⟩
    have h := H.out
    have ho := Ho.out
    have : p.fall = p := by cases p; simp_all [PD.fall]
    rw [this]; exact h
  | false =>
    simp only [dcells, ho] at hc
    have H := Lib.hid h; clear h
    have Ho := Lib.hid ho; clear ho
    go_enter Try.func24, Try.ntmps24
    go_wp2
    go_end0
    refine ⟨rfl, ?_, ?_⟩
    · have h := H.out
      have ho := Ho.out
      refine h.upd (by rw [heap_setCell_same _ _ _ _ _ _ (heap_setCell_same _ _ _ _ _ _ h.cells)]; simp [dcells, PD.fall, ho]) (fun k hk => ?_) rfl rfl rfl rfl h.fzeq h.fzb ?_
      · rw [Below.heap_setCell _ _ _ _ hk, Below.heap_setCell _ _ _ _ hk]
      · simp [PD.fall, ho]; exact wrap_u64 _
    · have h := H.out
      exact (Touch.setCell h.cells rfl h.nx.1 _).trans (Touch.setCell (heap_setCell_same _ _ _ _ _ _ h.cells) rfl h.nx.1 _)

set_option maxHeartbeats 400000 in
theorem burns_calls (h : DRep base w D p M ks wv ws fz) : Calls Try.prog 35 #[.pointer (some ⟨D, 0, none⟩)] w (fun e w' => e = .returned (.bool p.burns.1) ∧ (∃ fz', DRep base w' D p.burns.2 M ks wv ws fz') ∧ Touch base w w') := by
  have hc := h.cell
  have hfr := h.free
  have hz := h.fzb
  rcases hf : p.fuse with _ | _ | n
  · simp only [dcells, hf] at hc
    have H := Lib.hid h; clear h
    have Hf := Lib.hid hf; clear hf
    go_enter Try.func35, Try.ntmps35
    go_wp2
    go_ret
    exact ⟨by simp [PD.burns, Hf.out], ⟨fz, by simpa [PD.burns, Hf.out] using H.out⟩, Touch.refl _ _⟩
  · have hz0 : fz = 0 := by simpa using h.fzeq 0 hf
    subst hz0
    simp only [dcells, hf] at hc
    have H := Lib.hid h; clear h
    have Hf := Lib.hid hf; clear hf
    go_enter Try.func35, Try.ntmps35
    go_wp2_with ((with_reducible refine (fall_calls H.out).mono ?_); rintro e w' ⟨rfl, h1, h2⟩)
    go_ret
    exact ⟨by simp [PD.burns, Hf.out], ⟨0, by simpa [PD.burns, Hf.out] using h1⟩, h2⟩
  · have hz0 : fz = ((n + 1 : Nat) : Int) := h.fzeq (n + 1) hf
    subst hz0
    simp only [dcells, hf] at hc
    have hn : ((n : Int) + 1 == 0) = false := by simp; omega
    have H := Lib.hid h; clear h
    have Hf := Lib.hid hf; clear hf
    go_enter Try.func35, Try.ntmps35
    go_wp2
    go_ret
    have h := H.out
    have hf := Hf.out
    refine ⟨by simp [PD.burns, hf], ⟨n, h.upd (by rw [heap_setCell_same _ _ _ _ _ _ h.cells]; simp [PD.burns, dcells, hf]) (fun k hk => Below.heap_setCell _ _ _ _ hk) (by simp [PD.burns, hf]) (by simp [PD.burns, hf]) (by simp [PD.burns, hf]) (by simp [PD.burns, hf]) (by simp [PD.burns, hf]) (by omega) (by simpa [PD.burns, hf] using h.fl)⟩, Touch.setCell h.cells rfl h.nx.1 _⟩

theorem info_write : (Try.prog.info? 63).map (fun i => (i.zero, i.size, i.bytes)) = some (some (.agg #[.int .i64 0, .slice none 0 0]), 2, 32) := by kernel_rfl

def PD.write (p : PD) (i : Int) (b : List UInt8) : Int × PD :=
  if p.off then (8, p) else if i < 0 ∨ p.count ≤ i then (6, p) else if b.length ≠ p.size then (3, p) else
    let r := PD.burns { p with waits := p.waits ++ [(i, b)] }
    (if r.1 then 8 else 0, r.2)

theorem wcells_snoc (ws : List (Int × Buf)) (i : Int) (b : Buf) : wcells (ws ++ [(i, b)]) = wcells ws ++ [.int .i64 i, b.val] := by simp [wcells]
theorem wcells_one (ws : List (Int × Buf)) : ∀ u ∈ wcells ws, u.oneCell' = true := by
  intro u hu
  simp only [wcells, List.mem_flatMap] at hu
  obtain ⟨x, _, hx⟩ := hu
  rcases List.mem_cons.1 hx with rfl | hx
  · rfl
  · rcases List.mem_cons.1 hx with rfl | hx
    · rfl
    · cases hx

/-- One write more waits: its buffer is new; the row has grown; its value is stored. -/
theorem DRep.append {w2 : World} (h : DRep base w D p M ks wv ws fz) (i : Int) (b : Buf) (hb : BufAt base w b) (hbs : b.bs.length = p.size) (f1 : ∀ x ∈ ks, x.2.g ≠ b.g) (f2 : ∀ x ∈ ws, x.2.g ≠ b.g) (hX : ∀ k, w.heap.size ≤ k → base.o k) (hbo : base.o b.g) {o : Obj} {v : Value}
    (hg : (w.alloc o).grownBy w2 wv.ownBlock) (hr : w2.ownsRow base 63 2 v (ws.length + 1) (wcells ws ++ [.int .i64 i, b.val])) (hnew : v.ownBlock = wv.ownBlock ∨ v.ownBlock = some (w.alloc o).heap.size) :
    DRep base (w2.setCell ⟨D, 3, none⟩ v) D { p with waits := p.waits ++ [(i, b.bs)] } M ks v (ws ++ [(i, b)]) fz ∧ Touch base w (w2.setCell ⟨D, 3, none⟩ v) := by
  have nrow : ∀ {k : Nat} {t : Nat} {c : Array Value}, w.heap[k]? = some (.cells c t (0, 0)) → t ≠ 63 → some k ≠ wv.ownBlock := by
    intro k t c hk ht e
    obtain ⟨c', hc'⟩ := own_typed h.row k e.symm
    rw [hk] at hc'
    injection hc' with hc'
    injection hc' with _ hc'
    exact ht hc'
  have lt : ∀ {k : Nat} {o : Obj}, w.heap[k]? = some o → k < w.heap.size := fun h => (Array.getElem?_eq_some_iff.1 h).1
  have keep : ∀ {k : Nat}, k < w.heap.size → some k ≠ wv.ownBlock → w2.heap[k]? = w.heap[k]? := fun hk hne => (hg.block _ (by simp; omega) hne).trans (Below.heap_alloc _ _ _ hk)
  have hD2 : w2.heap[D]? = some (.cells (dcells p M wv fz) 50 (0, 0)) := (keep h.lt (nrow h.cells (by decide))).trans h.cells
  have hMr : some M ≠ wv.ownBlock := by
    intro e
    obtain ⟨c', hc'⟩ := own_typed h.row M e.symm
    obtain ⟨es, cl, hm, _⟩ := h.mp
    rw [hm] at hc'; cases hc'
  have hMD : M ≠ D := by
    rintro rfl
    obtain ⟨es, cl, hm, _⟩ := h.mp
    rw [h.cells] at hm; cases hm
  have bufkeep : ∀ x : Buf, BufAt base w x → BufAt base (w2.setCell ⟨D, 3, none⟩ v) x := by
    intro x hx
    obtain ⟨c, hc⟩ := hx.typed
    refine hx.move ?_
    rw [Below.heap_setCell _ _ _ _ (by
      rintro rfl
      rw [h.cells] at hc
      injection hc with hc
      injection hc with _ hc
      cases hc)]
    exact keep (lt hc) (nrow hc (by decide))
  have hrow2 : (w2.setCell ⟨D, 3, none⟩ v).ownsRow base 63 2 v (ws ++ [(i, b)]).length (wcells (ws ++ [(i, b)])) := by
    rw [wcells_snoc, List.length_append]
    refine own_move hr (fun k hk => Below.heap_setCell _ _ _ _ ?_)
    rintro rfl
    obtain ⟨c', hc'⟩ := own_typed hr _ hk
    rw [hD2] at hc'
    injection hc' with hc'
    injection hc' with _ hc'
    cases hc'
  constructor
  · refine ⟨?_, h.mp.move ((Below.heap_setCell _ _ _ _ hMD).trans (keep h.mp.lt hMr)), hrow2, fun x hx => ⟨bufkeep _ (h.kb x hx).1, (h.kb x hx).2⟩, fun x hx => ?_, ?_, fun x hx y hy => ?_, h.keq, ?_, h.hD, h.hM, h.fzeq, h.fzb, h.sz, h.ct, h.fl, h.nx.1, h.nx.2.1, fun k hk => ?_, h.nx.2.2.2.1, fun x hx => ?_⟩
    · rw [heap_setCell_same _ _ _ _ _ _ hD2]; simp [dcells]
    · rcases List.mem_append.1 hx with hx | hx
      · exact ⟨bufkeep _ (h.wb x hx).1, (h.wb x hx).2⟩
      · simp at hx; subst hx; exact ⟨bufkeep _ hb, hbs⟩
    · rw [List.map_append]
      refine List.nodup_append.2 ⟨h.nd, by simp, ?_⟩
      intro a ha c hc
      simp at hc
      subst hc
      obtain ⟨x, hx, rfl⟩ := List.mem_map.1 ha
      exact f2 x hx
    · rcases List.mem_append.1 hy with hy | hy
      · exact h.dj x hx y hy
      · simp at hy; subst hy; exact f1 x hx
    · simp [h.weq]
    · rcases hnew with hn | hn
      · exact h.nx.2.2.1 k (by rw [← hn]; exact hk)
      · rw [hn] at hk; injection hk with hk; exact hX k (by rw [← hk]; simp)
    · rcases List.mem_append.1 hx with hx | hx
      · exact h.nx.2.2.2.2 x hx
      · simp at hx; subst hx; exact hbo
  · refine ((Touch.of_below ((Below.refl _ w).alloc (Nat.le_refl _) o)).trans (Touch.grown hg (fun k hk => ?_))).trans (Touch.setCell hD2 rfl h.nx.1 _)
    obtain ⟨c, hc⟩ := own_typed h.row k hk
    exact ⟨h.nx.2.2.1 k hk, c, _, (0, 0), (Below.heap_alloc _ _ _ (lt hc)).trans hc, rfl⟩

set_option maxHeartbeats 400000 in
theorem has_calls (h : DRep base w D p M ks wv ws fz) (i : Int) (r : Bool) (hr : (decide (0 ≤ i) && decide (i < p.count)) = r) : Calls Try.prog 32 #[.pointer (some ⟨D, 0, none⟩), .int .i64 i] w (fun e w' => e = .returned (.bool r) ∧ w = w') := by
  have hc := h.cell
  simp only [dcells] at hc
  clear h
  by_cases h0 : 0 ≤ i
  · have hr2 : decide (i < p.count) = r := by simpa [h0] using hr
    have Hr := Lib.hid hr2; clear hr hr2
    go_enter Try.func32, Try.ntmps32
    go_wp2
    go_ret
    exact ⟨by rw [← Hr.out]; rfl, rfl⟩
  · have hr2 : r = false := by simpa [h0] using hr.symm
    subst hr2
    clear hr
    go_enter Try.func32, Try.ntmps32
    go_wp2
    go_ret
    exact ⟨rfl, rfl⟩

set_option maxRecDepth 100000 in
set_option maxHeartbeats 800000 in
theorem write_calls (h : DRep base w D p M ks wv ws fz) (i : Int) (v : Value) (b : List UInt8) (hb : Bytes w v b) (hbw : base ≤ w.heap.size) (hX : ∀ k, w.heap.size ≤ k → base.o k) (hl : ws.length ≤ 1000000) (hbl : b.length ≤ 100000000) :
    Calls Try.prog 17 #[.pointer (some ⟨D, 0, none⟩), .int .i64 i, v] w (fun e w' => e = .returned (.int .i64 (p.write i b).1) ∧ (∃ wv' ws' fz', DRep base w' D (p.write i b).2 M ks wv' ws' fz' ∧ ∀ x ∈ ws', x ∈ ws ∨ w.heap.size ≤ x.2.g) ∧ Touch base w w') := by
  have hc := h.cell
  have hfr := h.free
  have hz := h.fzb
  cases ho : p.off with
  | true =>
    simp only [dcells, ho] at hc
    have H := Lib.hid h; clear h
    have Ho := Lib.hid ho; clear ho
    have Hb := Lib.hid hb; clear hb
    go_enter Try.func17, Try.ntmps17
    go_wp2
    go_ret
    exact ⟨by simp [PD.write, Ho.out], ⟨wv, ws, fz, by simpa [PD.write, Ho.out] using H.out, fun x hx => .inl hx⟩, Touch.refl _ _⟩
  | false =>
    by_cases hi : i < 0 ∨ p.count ≤ i
    · simp only [dcells, ho] at hc
      have H := Lib.hid h; clear h
      have Ho := Lib.hid ho; clear ho
      have Hb := Lib.hid hb; clear hb
      have fin : Hid (p.write i b = (6, p)) := by simp [PD.write, Ho.out, hi]; exact trivial
      have hd : (decide (0 ≤ i) && decide (i < p.count)) = false := by simp; omega
      have Hd := Lib.hid hd; clear hd hi
      go_enter Try.func17, Try.ntmps17
      go_wp2_with (first | (go_at_call 32; refine (has_calls H.out i false Hd.out).mono ?_; rintro e w' ⟨rfl, rfl⟩) | (go_at_call 31; go_in))
      go_ret
      exact ⟨by rw [fin.out]; rfl, ⟨wv, ws, fz, by rw [fin.out]; exact H.out, fun x hx => .inl hx⟩, Touch.refl _ _⟩
    · obtain ⟨h0, h1⟩ : 0 ≤ i ∧ i < p.count := by omega
      by_cases hs : b.length = p.size
      · obtain ⟨A, c, rfl, _⟩ := id hb
        simp only [dcells, ho] at hc
        have hbl2 : b.length ≤ mostB := by unfold mostB; omega
        have Hbl2 := Lib.hid hbl2; clear hbl2
        have H := Lib.hid h; clear h
        have Ho := Lib.hid ho; clear ho
        have Hb := Lib.hid hb; clear hb
        have hs2 : ((b.length : Int) == p.size) = true := by simp; omega
        have Hs := Lib.hid hs; clear hi hs
        have hd : (decide (0 ≤ i) && decide (i < p.count)) = true := by simp; omega
        have Hd := Lib.hid hd; clear hd
        go_enter Try.func17, Try.ntmps17
        go_wp2_with (first | (go_at_call 32; refine (has_calls H.out i true Hd.out).mono ?_; rintro e w' ⟨rfl, rfl⟩) | (go_at_call 31; go_in))
        have hd3 : w.cell? ⟨D, 3, none⟩ = some wv := hc 3
        have hlt := H.out.lt
        have hne : ∀ k, wv.ownBlock = some k → k ≠ D := by
          rintro k hk rfl
          obtain ⟨c, hcc⟩ := own_typed H.out.row k hk
          rw [H.out.cells] at hcc
          injection hcc with hcc
          injection hcc with _ hcc
          cases hcc
        have Hne := Lib.hid hne; clear hne
        refine start_ (n := 14) (S := fun w' => w'.cell? ⟨D, 3, none⟩ = some wv) (ds := [13]) #[false, false, false, false, false, false, false, false, false, false, false, false, false, false] (by kernel_rfl) rfl rfl (hd3) (fun hHeld => ?_)
        refine pure_ (i := 0) (N := some 27) (v := ?_) (a' := ?_) #[true, false, false, false, false, false, false, false, false, false, false, false, false, false] rfl rfl (by kernel_rfl) (fun _ _ _ h => h) (Or.inl ⟨by rfl, ?_⟩) ?_ ?_
        rotate_left
        · intro w'
          go_simp
          with_reducible rfl
        rotate_left
        · simp only [Act.put, List.setIfInBounds_toArray, List.set_cons_zero, List.set_cons_succ, i64_w, i32_w]
          rfl
        refine pure_ (i := 1) (N := some 28) (v := ?_) (a' := ?_) #[true, true, false, false, false, false, false, false, false, false, false, false, false, false] rfl rfl (by kernel_rfl) (fun _ _ _ h => h) (Or.inl ⟨by rfl, ?_⟩) ?_ ?_
        rotate_left
        · intro w'
          go_simp
          with_reducible rfl
        rotate_left
        · simp only [Act.put, List.setIfInBounds_toArray, List.set_cons_zero, List.set_cons_succ, i64_w, i32_w]
          rfl
        refine pure_ (i := 2) (N := some 29) (v := ?_) (a' := ?_) #[true, true, true, false, false, false, false, false, false, false, false, false, false, false] rfl rfl (by kernel_rfl) (fun _ _ _ h => h) (Or.inl ⟨by rfl, ?_⟩) ?_ ?_
        rotate_left
        · intro w'
          go_simp
          with_reducible rfl
        rotate_left
        · simp only [Act.put, List.setIfInBounds_toArray, List.set_cons_zero, List.set_cons_succ, i64_w, i32_w]
          rfl
        refine pure_ (i := 3) (N := some 30) (v := ?_) (a' := ?_) #[true, true, true, true, false, false, false, false, false, false, false, false, false, false] rfl rfl (by kernel_rfl) (fun _ _ _ h => h) (Or.inl ⟨by rfl, ?_⟩) ?_ ?_
        rotate_left
        · intro w'
          go_simp
          with_reducible rfl
        rotate_left
        · simp only [Act.put, List.setIfInBounds_toArray, List.set_cons_zero, List.set_cons_succ, i64_w, i32_w]
          rfl
        refine pure_ (i := 5) (N := some 32) (v := ?_) (a' := ?_) #[true, true, true, true, false, true, false, false, false, false, false, false, false, false] rfl rfl (by kernel_rfl) (fun _ _ _ h => h) (Or.inl ⟨by rfl, ?_⟩) ?_ ?_
        rotate_left
        · intro w'
          go_simp
          with_reducible rfl
        rotate_left
        · simp only [Act.put, List.setIfInBounds_toArray, List.set_cons_zero, List.set_cons_succ, i64_w, i32_w]
          rfl
        refine pure_ (i := 6) (N := some 33) (v := ?_) (a' := ?_) #[true, true, true, true, false, true, true, false, false, false, false, false, false, false] rfl rfl (by kernel_rfl) (fun _ _ _ h => h) (Or.inl ⟨by rfl, ?_⟩) ?_ ?_
        rotate_left
        · intro w'
          go_simp
          with_reducible rfl
        rotate_left
        · simp only [Act.put, List.setIfInBounds_toArray, List.set_cons_zero, List.set_cons_succ, i64_w, i32_w]
          rfl
        refine take_ (i := 4) (N := some 31) (v := ?_) (a' := ?_) #[true, true, true, true, true, true, true, false, false, false, false, false, false, false] rfl rfl (by kernel_rfl) (fun _ _ _ h => h) (Or.inl ⟨by rfl, ?_⟩) hHeld ?_ ?_
        rotate_left
        · intro w' s0
          go_simp
          with_reducible rfl
        rotate_left
        · simp only [Act.put, List.setIfInBounds_toArray, List.set_cons_zero, List.set_cons_succ, i64_w, i32_w]
          rfl
        refine one_ (i := 7) (N := some 34) #[true, true, true, true, true, true, true, true, false, false, false, false, false, false] rfl rfl (by kernel_rfl) (by decide) (fun K hK => ?_)
        refine goes_ Try.func34 (by kernel_rfl) rfl #[.slice A b.length c] (by rfl) rfl rfl (by simp only [List.map_toArray, List.map_cons, List.map_nil]; rfl) ?_
        with_reducible refine (clone_buf _ b w.drew Hb.out.drew Hbl2.out (by have := Hs.out; have := H.out.sz; omega)).mono ?_
        rintro e w1 ⟨g1, c1, rfl, hbuf1, hbel1⟩
        refine ⟨_, rfl, ?_⟩
        have hbel1 : Below w.heap.size w w1 := (Below.refl _ _).drew.trans hbel1
        have hlt1 : D < w1.heap.size := Nat.lt_of_lt_of_le hlt hbel1.size
        have hsz1 : w.heap.size ≤ w1.heap.size := hbel1.size
        have H1 := Lib.hid (H.out.below hbel1)
        refine hK.out _ _ ((cell_below hbel1 hd3)) (fun hHeld => ?_)
        clear hK K
        refine norm_ (a' := ?_) ?_ ?_
        rotate_left
        · show Act.put _ (some 34) _ = _
          simp only [Act.put, List.setIfInBounds_toArray, List.set_cons_zero, List.set_cons_succ, i64_w, i32_w]
          rfl
        refine pure_ (i := 8) (N := some 35) (v := ?_) (a' := ?_) #[true, true, true, true, true, true, true, true, true, false, false, false, false, false] rfl rfl (by kernel_rfl) (fun _ _ _ h => h) (Or.inl ⟨by rfl, ?_⟩) ?_ ?_
        rotate_left
        · intro w'
          go_simp
          with_reducible rfl
        rotate_left
        · simp only [Act.put, List.setIfInBounds_toArray, List.set_cons_zero, List.set_cons_succ, i64_w, i32_w]
          rfl
        refine one_ (i := 9) (N := some 36) #[true, true, true, true, true, true, true, true, true, true, false, false, false, false] rfl rfl (by kernel_rfl) (by decide) (fun K hK => ?_)
        refine value_ (w1 := ?_) (v := ?_) (by rfl) rfl ?_ ?_
        rotate_left 2
        · go_simp
          constructor
          · rfl
          · rfl
        refine hK.out _ _ (((World.cell?_of_block (Below.heap_alloc _ _ _ hlt1)).trans hHeld)) (fun hHeld => ?_)
        clear hK K
        refine norm_ (a' := ?_) ?_ ?_
        rotate_left
        · show Act.put _ (some 36) _ = _
          simp only [Act.put, List.setIfInBounds_toArray, List.set_cons_zero, List.set_cons_succ, i64_w, i32_w]
          rfl
        refine one_ (i := 10) (N := some 37) #[true, true, true, true, true, true, true, true, true, true, true, false, false, false] rfl rfl (by kernel_rfl) (by decide) (fun K hK => ?_)
        refine step_app _ (by rfl) _ _ 48 rfl base 63 (.agg #[.int .i64 0, .slice none 0 0]) 2 32 Try.underlying48 info_write rfl (by decide) wv ws.length (wcells ws) rfl (H1.out.row.alloc _) _ 1 _ rfl (row_new _ _ _ 1 2 rfl (wcells_one [(i, ⟨g1, c1, b⟩)])) (by omega) (by decide) (by simp; omega) ?_
        intro A2 c2 w2 hown2 hg2 hat2
        have hb2 : w2.heap[D]? = w1.heap[D]? := (hg2.block D (by simp; omega) (fun e => Hne.out D e.symm rfl)).trans (Below.heap_alloc _ _ _ hlt1)
        have hfr2 : ∀ j, w2.frozen? ⟨D, j, none⟩ = false := fun j => frozen_of_row w2 D j _ _ (hb2.trans H1.out.cells)
        refine hK.out _ _ (((cell_of_row w2 D 3 _ _ _ (hb2.trans H1.out.cells)).trans rfl)) (fun hHeld => ?_)
        clear hK K
        refine norm_ (a' := ?_) ?_ ?_
        rotate_left
        · show Act.put _ (some 37) _ = _
          simp only [Act.put, List.setIfInBounds_toArray, List.set_cons_zero, List.set_cons_succ, i64_w, i32_w]
          rfl
        refine pure_ (i := 11) (N := some 38) (v := ?_) (a' := ?_) #[true, true, true, true, true, true, true, true, true, true, true, true, false, false] rfl rfl (by kernel_rfl) (fun _ _ _ h => h) (Or.inl ⟨by rfl, ?_⟩) ?_ ?_
        rotate_left
        · intro w'
          go_simp
          with_reducible rfl
        rotate_left
        · simp only [Act.put, List.setIfInBounds_toArray, List.set_cons_zero, List.set_cons_succ, i64_w, i32_w]
          rfl
        refine pure_ (i := 12) (N := some 39) (v := ?_) (a' := ?_) #[true, true, true, true, true, true, true, true, true, true, true, true, true, false] rfl rfl (by kernel_rfl) (fun _ _ _ h => h) (Or.inl ⟨by rfl, ?_⟩) ?_ ?_
        rotate_left
        · intro w'
          go_simp
          with_reducible rfl
        rotate_left
        · simp only [Act.put, List.setIfInBounds_toArray, List.set_cons_zero, List.set_cons_succ, i64_w, i32_w]
          rfl
        refine last_ (i := 13) (N := none) #[true, true, true, true, true, true, true, true, true, true, true, true, true, true] rfl rfl (by kernel_rfl) (by decide) (fun K hK => ?_)
        refine skip_ (w1 := ?_) (by rfl) rfl ?_ ?_
        rotate_left
        · go_simp
          rfl
        refine hK.out _ _ ?_
        clear hK K
        refine done_ (by kernel_rfl) ?_
        have hfb : BufAt base w1 ⟨g1, c1, b⟩ := own_weaken hbuf1 hbw
        have hg1 : w.heap.size ≤ g1 := hbuf1.base
        obtain ⟨H2, T2⟩ := H1.out.append i ⟨g1, c1, b⟩ hfb Hs.out (fun x hx => by have := (H.out.kb x hx).1.lt; show x.2.g ≠ g1; omega) (fun x hx => by have := (H.out.wb x hx).1.lt; show x.2.g ≠ g1; omega) (fun k hk => hX k (by omega)) (hX _ hg1) hg2 hown2 hat2
        have T3 := (Touch.of_below (base := base) hbel1).trans T2
        have HH := Lib.hid (And.intro H2 T3)
        clear H2 T2 T3 hat2 hown2 hg2
        have fin : p.write i b = (if (PD.burns { p with waits := p.waits ++ [(i, b)] }).1 then 8 else 0, (PD.burns { p with waits := p.waits ++ [(i, b)] }).2) := by
          simp only [PD.write, Ho.out, Hs.out]; rw [if_neg (by simp), if_neg (by omega), if_neg (by simp)]
        have Fin := Lib.hid fin; clear fin
        cases hbn : (PD.burns { p with waits := p.waits ++ [(i, b)] }).1
        all_goals
          have Hbn := Lib.hid hbn; clear hbn
          go_wp2_with ((with_reducible refine (burns_calls HH.out.1).mono ?_); rw [Hbn.out]; rintro e w3 ⟨rfl, ⟨fz3, hr3⟩, ht3⟩)
          go_ret
          exact ⟨by rw [Fin.out, Hbn.out]; rfl, ⟨_, _, fz3, by rw [Fin.out]; exact hr3, fun x hx => (List.mem_append.1 hx).imp id (fun h => by simp only [List.mem_singleton] at h; subst h; exact hg1)⟩, HH.out.2.trans ht3⟩
      · obtain ⟨A, c, rfl, _⟩ := id hb
        simp only [dcells, ho] at hc
        have H := Lib.hid h; clear h
        have Ho := Lib.hid ho; clear ho
        have Hb := Lib.hid hb; clear hb
        have fin : p.write i b = (3, p) := by simp [PD.write, Ho.out, hi, hs]
        have Fin := Lib.hid fin; clear fin
        have hs2 : ((b.length : Int) == p.size) = false := by simp; omega
        clear hi hs
        have hd : (decide (0 ≤ i) && decide (i < p.count)) = true := by simp; omega
        have Hd := Lib.hid hd; clear hd
        go_enter Try.func17, Try.ntmps17
        go_wp2_with (first | (go_at_call 32; refine (has_calls H.out i true Hd.out).mono ?_; rintro e w' ⟨rfl, rfl⟩) | (go_at_call 31; go_in))
        go_ret
        exact ⟨by rw [Fin.out]; rfl, ⟨wv, ws, fz, by rw [Fin.out]; exact H.out, fun x hx => .inl hx⟩, Touch.refl _ _⟩
end
end Go.Proofs.Ytdmpocojbheoiaa
