/- A sector is read. -/
import Derived.Test.YtdmpocojbheoiaaS6
import Derived.RangeFuncFrom
namespace Go.Proofs.Ytdmpocojbheoiaa
open Go.RowKit Go.Shelf

attribute [local go_sem] Oper.semAt_some

def lastW (l : List (Int × List UInt8)) (i : Int) : Option (List UInt8) := (l.reverse.find? fun x => x.1 == i).map (·.2)
def PD.read (p : PD) (i : Int) : List UInt8 × Int := if p.off then ([], 8) else if i < 0 ∨ p.count ≤ i then ([], 6) else ((lastW p.waits i).getD (p.kept i), 0)
def ReadPost (w : World) (p : PD) (i : Int) (e : Ending) (w' : World) : Prop :=
  ∃ A c, e = .returned (.tuple #[.slice A (p.read i).1.length c, .int .i64 (p.read i).2]) ∧ OwnB w' w.heap.size 5 (.slice A (p.read i).1.length c) (p.read i).1 ∧ Below w.heap.size w w'
theorem bytes_nil (w : World) : Bytes w (.slice none 0 0) [] := Row.nil w 1

theorem boxed_below {W W' : World} {B : Nat} {t : TypeId} {v : Value} (h : Boxed W B t v) (hb : Below W.heap.size W W') : Boxed W' B t v := (hb.block _ h.lt).trans h
theorem backs_map (ws : List (Int × Buf)) (k : Nat) (hk : k ≤ ws.length) : (backs ws.length k).map (fun x => ws[x]) = ws.reverse.take k := by
  apply List.ext_getElem
  · simp [backs]
  · intro j h1 h2
    simp [backs]
theorem lastW_none (ws : List (Int × Buf)) (i : Int) (h : ∀ y ∈ backs ws.length ws.length, ws[y].1 ≠ i) : lastW (ws.map fun x => (x.1, x.2.bs)) i = none := by
  have hm := backs_map ws ws.length (Nat.le_refl _)
  rw [List.take_of_length_le (by simp)] at hm
  have h2 : ∀ y ∈ ws.reverse, y.1 ≠ i := by
    intro y hy
    rw [← hm] at hy
    obtain ⟨z, hz, rfl⟩ := List.mem_map.1 hy
    exact h z hz
  unfold lastW
  rw [← List.map_reverse]
  have : (List.find? (fun x => x.1 == i) (ws.reverse.map fun x => (x.1, x.2.bs))) = none := by
    rw [List.find?_eq_none]
    intro x hx
    obtain ⟨y, hy, rfl⟩ := List.mem_map.1 hx
    simpa using h2 y hy
  rw [this]; rfl
theorem lastW_some (ws : List (Int × Buf)) (i : Int) (pre : List (Fin ws.length)) (x : Fin ws.length) (k : Nat) (hk : k ≤ ws.length) (he : pre ++ [x] = backs ws.length k) (hx : ws[x].1 = i) (hp : ∀ y ∈ pre, ws[y].1 ≠ i) :
    lastW (ws.map fun x => (x.1, x.2.bs)) i = some ws[x].2.bs := by
  have hm := backs_map ws k hk
  rw [← he] at hm
  unfold lastW
  rw [← List.map_reverse, ← List.take_append_drop k ws.reverse, ← hm]
  simp only [List.map_append, List.find?_append, List.map_cons, List.map_nil, List.map_map]
  have h1 : List.find? (fun x => x.1 == i) (pre.map ((fun x : Int × Buf => (x.1, x.2.bs)) ∘ fun x => ws[x])) = none := by
    rw [List.find?_eq_none]
    intro z hz
    obtain ⟨y, hy, rfl⟩ := List.mem_map.1 hz
    simpa using hp y hy
  rw [h1]
  have hx' : ws[x.val].1 = i := hx
  simp [hx']

theorem wcells_at : ∀ (ws : List (Int × Buf)) (j : Nat) (x : Int × Buf), ws[j]? = some x → (wcells ws)[j * 2]? = some (.int .i64 x.1) ∧ (wcells ws)[j * 2 + 1]? = some x.2.val
  | [], j, x, h => by simp at h
  | y :: r, 0, x, h => by
    simp at h; subst h
    simp [wcells]
  | y :: r, j + 1, x, h => by
    have := wcells_at r j x (by simpa using h)
    have e : wcells (y :: r) = .int .i64 y.1 :: y.2.val :: wcells r := by simp [wcells]
    rw [e]
    have e1 : (j + 1) * 2 = j * 2 + 1 + 1 := by omega
    rw [e1]
    simpa using this
theorem row_heads {base : Zn} {w : World} {D : Nat} {p : PD} {M : Nat} {ks ws : List (Int × Buf)} {A : Option Addr} {cap : Nat} {fz : Int} (h : DRep base w D p M ks (.slice A ws.length cap) ws fz) :
    ∃ b, (0 < ws.length → A = some ⟨b, 0, none⟩) ∧ ∀ j x, ws[j]? = some x → w.cell? ⟨b, j * 2, none⟩ = some (.int .i64 x.1) ∧ w.cell? ⟨b, j * 2 + 1, none⟩ = some (.slice (some ⟨x.2.g, 0, none⟩) x.2.bs.length x.2.cap) := by
  rcases h.row.2 with ⟨he, hn⟩ | ⟨g, cap', cur, he, _, hh, _, _, _, ht⟩
  · exact ⟨0, fun h0 => by omega, fun j x hx => by have := (List.getElem?_eq_some_iff.1 hx).1; omega⟩
  · injection he with he1 he2
    subst he1
    refine ⟨g, fun _ => rfl, fun j x hx => ?_⟩
    have hc := World.ownsRow.cells h.row (g := g) rfl
    have hadd : ∀ j, (⟨g, 0, none⟩ : Addr).add j = ⟨g, j, none⟩ := fun j => by unfold Addr.add; split <;> simp_all
    have hw := wcells_at ws j x hx
    have h1 := hc (j * 2) _ hw.1
    have h2 := hc (j * 2 + 1) _ hw.2
    rw [hadd] at h1 h2
    exact ⟨h1, h2⟩

section
variable {base : Zn} {w : World} {D : Nat} {p : PD} {M : Nat} {ks ws : List (Int × Buf)} {wv : Value} {fz : Int}
set_option maxHeartbeats 400000 in
theorem may_calls (h : DRep base w D p M ks wv ws fz) (v : Int) (hv : (if p.off then 8 else 0) = v) : Calls Try.prog 31 #[.pointer (some ⟨D, 0, none⟩)] w (fun e w' => e = .returned (.int .i64 v) ∧ w = w') := by
  have hc := h.cell
  cases ho : p.off
  all_goals
    simp only [dcells, ho] at hc
    have Hv := Lib.hid hv; have Ho := Lib.hid ho; clear h hv ho
    go_enter Try.func31, Try.ntmps31
    go_wp2
    go_ret
    exact ⟨by rw [← Hv.out, Ho.out]; rfl, rfl⟩

set_option maxRecDepth 100000 in
set_option maxHeartbeats 2000000 in
theorem read_calls (h : DRep base w D p M ks wv ws fz) (i : Int) (hl : ws.length ≤ 1000000) : Calls Try.prog 16 #[.pointer (some ⟨D, 0, none⟩), .int .i64 i] w (ReadPost w p i) := by
  have hb3 : Below w.heap.size w (((w.alloc (.cells #[.int .i64 i] 3)).alloc (.cells #[.slice none 0 0] 38)).alloc (.cells #[.int .i64 0] 26)) :=
    (((Below.refl _ w).alloc (Nat.le_refl _) _).alloc (by simp) _).alloc (by simp; omega) _
  have h3 := h.below hb3
  have hc3 := h3.cell
  have hlt := h.lt
  cases ho : p.off with
  | true =>
    have fin : p.read i = ([], 8) := by simp [PD.read, ho]
    have hm : (if p.off then (8 : Int) else 0) = 8 := by rw [ho]; rfl
    have H3 := Lib.hid h3; have Pn := Lib.hid fin; have Hm := Lib.hid hm; clear h h3 fin ho hm hc3
    go_enter Try.func16, Try.ntmps16
    go_wp2_with ((go_at_call 31; refine (may_calls H3.out 8 Hm.out).mono ?_; rintro e w' ⟨rfl, rfl⟩))
    (try simp only [Exit.inBlock, Exit.then])
    refine bodyPost_ret (v := .tuple #[.slice none 0 0, .int .i64 8]) ?_ rfl ⟨none, 0, by rw [Pn.out]; rfl, by rw [Pn.out]; exact World.ownsRow_nil _ _ _ _, ?_⟩
    · simp [results, Try.results16, go_sem]
    · exact (((Below.refl _ w).alloc (Nat.le_refl _) _).alloc (by simp) _).alloc (by simp; omega) _
  | false =>
    have hm : (if p.off then (8 : Int) else 0) = 0 := by rw [ho]; rfl
    by_cases hi : i < 0 ∨ p.count ≤ i
    · have fin : p.read i = ([], 6) := by simp [PD.read, ho, hi]
      have hd : (decide (0 ≤ i) && decide (i < p.count)) = false := by simp; omega
      have H3 := Lib.hid h3; have Pn := Lib.hid fin; have Hm := Lib.hid hm; have Hd := Lib.hid hd; clear h h3 fin ho hm hc3 hi hd
      go_enter Try.func16, Try.ntmps16
      go_wp2_with (first | (go_at_call 31; refine (may_calls H3.out 0 Hm.out).mono ?_; rintro e w' ⟨rfl, rfl⟩) | (go_at_call 32; refine (has_calls H3.out i false Hd.out).mono ?_; rintro e w' ⟨rfl, rfl⟩))
      (try simp only [Exit.inBlock, Exit.then])
      refine bodyPost_ret (v := .tuple #[.slice none 0 0, .int .i64 6]) ?_ rfl ⟨none, 0, by rw [Pn.out]; rfl, by rw [Pn.out]; exact World.ownsRow_nil _ _ _ _, ?_⟩
      · simp [results, Try.results16, go_sem]
      · exact (((Below.refl _ w).alloc (Nat.le_refl _) _).alloc (by simp) _).alloc (by simp; omega) _
    · have fin : p.read i = ((lastW p.waits i).getD (p.kept i), 0) := by simp [PD.read, ho, hi]
      have hd : (decide (0 ≤ i) && decide (i < p.count)) = true := by simp; omega
      obtain ⟨A, cap, hwv⟩ := own_slice h.row
      subst hwv
      have hc3' : ∀ j, _ := hc3
      simp only [dcells] at hc3'
      have H3 := Lib.hid h3; have Pn := Lib.hid fin; have Hm := Lib.hid hm; have Hd := Lib.hid hd; have H := Lib.hid h; clear h h3 fin ho hm hc3 hi hd
      refine (callsIn_wide (n := 6)).1 ?_
      refine callsIn_of_wp_marks Try.func16 rfl trivial ?_ rfl
      simp only [Try.ntmps16, List.size_toArray, List.length_cons, List.length_nil, Nat.reduceAdd, Nat.reduceSub, Array.replicate_succ, Array.replicate_zero, List.push_toArray, List.append_toArray, List.nil_append, List.cons_append]
      gi_wp2_with (first | (refine ⟨trivial, ?_⟩; gi_at_call 31; refine (callsIn_wide.2 (may_calls H3.out 0 Hm.out)).mono ?_; rintro e w' ⟨rfl, rfl⟩) | (refine ⟨trivial, ?_⟩; gi_at_call 32; refine (callsIn_wide.2 (has_calls H3.out i true Hd.out)).mono ?_; rintro e w' ⟨rfl, rfl⟩) | (refine ⟨trivial, ?_⟩; gi_at_call 33; refine (callsIn_wide.2 (backward_calls A ws.length cap _)).mono ?_; rintro e w' ⟨rfl, rfl⟩))
      have hb4 : Below w.heap.size w ((((w.alloc (.cells #[.int .i64 i] 3)).alloc (.cells #[.slice none 0 0] 38)).alloc (.cells #[.int .i64 0] 26)).alloc (.cells #[.slice A ws.length cap] 48)) := (((((Below.refl _ w).alloc (Nat.le_refl _) _).alloc (by simp) _).alloc (by simp; omega) _)).alloc (by simp; omega) _
      have hs4 : ((((w.alloc (.cells #[.int .i64 i] 3)).alloc (.cells #[.slice none 0 0] 38)).alloc (.cells #[.int .i64 0] 26)).alloc (.cells #[.slice A ws.length cap] 48)).heap.size = w.heap.size + 4 := by simp
      have hB3 : ((((w.alloc (.cells #[.int .i64 i] 3)).alloc (.cells #[.slice none 0 0] 38)).alloc (.cells #[.int .i64 0] 26)).alloc (.cells #[.slice A ws.length cap] 48)).heap[w.heap.size + 3]? = some (.cells #[.slice A ws.length cap] 48 (0, 0)) := by
        have := World.alloc_heap_new ((((w.alloc (.cells #[.int .i64 i] 3)).alloc (.cells #[.slice none 0 0] 38)).alloc (.cells #[.int .i64 0] 26))) (.cells #[.slice A ws.length cap] 48 (0, 0))
        simpa using this
      have hB0 : ((((w.alloc (.cells #[.int .i64 i] 3)).alloc (.cells #[.slice none 0 0] 38)).alloc (.cells #[.int .i64 0] 26)).alloc (.cells #[.slice A ws.length cap] 48)).heap[w.heap.size]? = some (.cells #[.int .i64 i] 3 (0, 0)) :=
        (Below.heap_alloc _ _ _ (by simp; omega)).trans ((Below.heap_alloc _ _ _ (by simp; omega)).trans ((Below.heap_alloc _ _ _ (by simp)).trans (World.alloc_heap_new w _)))
      have hB1 : ((((w.alloc (.cells #[.int .i64 i] 3)).alloc (.cells #[.slice none 0 0] 38)).alloc (.cells #[.int .i64 0] 26)).alloc (.cells #[.slice A ws.length cap] 48)).heap[w.heap.size + 1]? = some (.cells #[.slice none 0 0] 38 (0, 0)) := by
        refine (Below.heap_alloc _ _ _ (by simp)).trans ((Below.heap_alloc _ _ _ (by simp)).trans ?_)
        have := World.alloc_heap_new (w.alloc (.cells #[.int .i64 i] 3)) (.cells #[.slice none 0 0] 38 (0, 0))
        simpa using this
      have hB2 : ((((w.alloc (.cells #[.int .i64 i] 3)).alloc (.cells #[.slice none 0 0] 38)).alloc (.cells #[.int .i64 0] 26)).alloc (.cells #[.slice A ws.length cap] 48)).heap[w.heap.size + 2]? = some (.cells #[.int .i64 0] 26 (0, 0)) := by
        refine (Below.heap_alloc _ _ _ (by simp)).trans ?_
        have := World.alloc_heap_new ((w.alloc (.cells #[.int .i64 i] 3)).alloc (.cells #[.slice none 0 0] 38)) (.cells #[.int .i64 0] 26 (0, 0))
        simpa using this
      generalize ((((w.alloc (.cells #[.int .i64 i] 3)).alloc (.cells #[.slice none 0 0] 38)).alloc (.cells #[.int .i64 0] 26)).alloc (.cells #[.slice A ws.length cap] 48)) = w4 at hb4 hs4 hB0 hB1 hB2 hB3 ⊢
      obtain ⟨b, hA, hcell⟩ := row_heads H.out
      have hbw : 0 < ws.length → b < w.heap.size := fun h0 => World.block_lt_of_cell? w _ (hcell 0 (ws[0]'h0) (by simp [h0])).1
      refine wpIn_rangeFunc_ownH (n := 6) rfl (by omega) (gf := 37) (lb := #[.pointer (some ⟨w.heap.size + 1 + 1 + 1, 0, none⟩)]) rfl trivial (enters_of Try.func37 (by kernel_rfl) rfl)
        (backward_stops Fence.wide 5 trivial rfl (by omega) (w.heap.size + 1 + 1 + 1) w4.heap.size b cap A ws hl (fun h0 => by have := hbw h0; omega) (by omega) hA w4 (Nat.le_refl _) (Boxed.cell hB3)
          (fun j x hx => ⟨cell_below hb4 (hcell j x hx).1, cell_below hb4 (hcell j x hx).2⟩))
        belowK_t (belowK_b (Nat.le_refl _)) (Below.refl _ _) (fun _ => rfl)
        (fun pre W => (∀ y ∈ pre, ws[y.val].1 ≠ i) ∧ Below w4.heap.size w4 W)
        (fun c pre W => (c = .ret ∧ ∃ pre' x g cap', pre = pre' ++ [x] ∧ ws[x.val].1 = i ∧ (∀ y ∈ pre', ws[y.val].1 ≠ i) ∧ BufAt w.heap.size W ⟨g, cap', ws[x.val].2.bs⟩ ∧ Boxed W (w.heap.size + 1) 38 (.slice (some ⟨g, 0, none⟩) ws[x.val].2.bs.length cap') ∧ Boxed W (w.heap.size + 1 + 1) 26 (.int .i64 0)) ∧ Below w.heap.size w W)
        ?hI ?hIx ⟨by simp, Below.refl _ _⟩
        (fun x a' W => ∃ Bx, w4.heap.size ≤ Bx ∧ W.heap[Bx]? = some (.cells #[.int .i64 ws[x.val].1, .slice (some ⟨ws[x.val].2.g, 0, none⟩) ws[x.val].2.bs.length ws[x.val].2.cap] 63 (0, 0)) ∧ a' = { tmps := #[.pointer (some ⟨D, 0, none⟩), .int .i64 i, undef, .pointer (some ⟨w.heap.size, 0, none⟩), .pointer (some ⟨w.heap.size + 1, 0, none⟩), .pointer (some ⟨w.heap.size + 1 + 1, 0, none⟩), .int .i64 0, undef, .pointer (some ⟨Bx, 0, none⟩), .pointer (some ⟨D, 0, none⟩), .int .i64 0, .bool false, .int .i64 0, .bool false, undef, .bool false, .pointer (some ⟨D, 0, none⟩), .int .i64 i, .bool true, .bool false, .pointer (some ⟨D, 0, none⟩), .pointer (some ⟨D, 0, none⟩), .pointer (some ⟨D, 3, none⟩), .slice A ws.length cap, .func (.func 37) #[] #[.pointer (some ⟨w.heap.size + 1 + 1 + 1, 0, none⟩)], .int .i64 x.val, .agg #[.int .i64 ws[x.val].1, .slice (some ⟨ws[x.val].2.g, 0, none⟩) ws[x.val].2.bs.length ws[x.val].2.cap], undef, undef, undef, undef, undef, undef, undef, undef, undef, undef], defers := [] })
        ?hAx ?assign ?body ?done ?stop
      case hI => exact fun s X Y row hs hg hr => ⟨hs.1, hs.2.grown hg hs.2.size (fun k e => (hr k e).1)⟩
      case hIx =>
        rintro c s X Y row ⟨⟨rfl, pre', x, g, cap', h1, h2, h3, h4, h5, h6⟩, h7⟩ hg hr
        have ne : ∀ {k : Nat} {t : Nat} {c : Array Value}, X.heap[k]? = some (.cells c t (0, 0)) → some k ≠ row := by
          intro k t c hk e
          obtain ⟨_, o, ho, hoc⟩ := hr k e.symm
          rw [hk] at ho; injection ho with ho; subst ho; simp [Obj.isCells] at hoc
        obtain ⟨cc, hcc⟩ := h4.typed
        refine ⟨⟨rfl, pre', x, g, cap', h1, h2, h3, h4.move (hg.block g h4.lt (ne hcc)), h5.kept hg (ne h5), h6.kept hg (ne h6)⟩, h7.grown hg h7.size (fun k e => Nat.le_trans (by omega) (hr k e).1)⟩
      case hAx =>
        rintro x a' s X Y row ⟨Bx, h1, h2, h3⟩ hg hr
        exact ⟨Bx, h1, grownBy_keeps_cells hg (fun r e => (hr r e).2) h2 rfl ▸ h2, h3⟩
      case assign =>
        intro l pre x W K hI hK
        have hsz := hI.2.size
        have HI := Lib.hid hI
        have HK := Lib.hid hK
        clear hI hK
        simp only [bval, Fin.getElem_fin]
        gi_wp2
        exact HK.out _ _ ((KeepsOthers.alloc _ _).from _) ((Below.refl _ W).alloc hsz _) ⟨HI.out.1, HI.out.2.alloc hsz _⟩ ⟨W.heap.size, hsz, World.alloc_heap_new W _, rfl⟩
      case body =>
        rintro l pre x a' W hl _ hI ⟨Bx, hBx, hx, rfl⟩ _
        have hlt2 := hI.2.size
        have hxl : ws[x.val] ∈ ws := List.getElem_mem _
        have hXb := ((H.out.wb _ hxl).1.bytes).below (hb4.trans (hI.2.mono (by omega)))
        have hi := (hI.2.cell (p := ⟨w.heap.size, 0, none⟩) (by simp only; omega)).trans (Boxed.cell hB0)
        have h1 : Boxed W (w.heap.size + 1) 38 (.slice none 0 0) := (hI.2.block _ (by omega)).trans hB1
        have h2 : Boxed W (w.heap.size + 1 + 1) 26 (.int .i64 0) := (hI.2.block _ (by omega)).trans hB2
        have hbx0 : W.cell? ⟨Bx, 0, none⟩ = some (.int .i64 ws[x.val].1) := by rw [cell_of_row W Bx 0 _ _ _ hx]; rfl
        have hbx1 : W.cell? ⟨Bx, 1, none⟩ = some (.slice (some ⟨ws[x.val].2.g, 0, none⟩) ws[x.val].2.bs.length ws[x.val].2.cap) := by rw [cell_of_row W Bx 1 _ _ _ hx]; rfl
        have hbf := frozen_of_row W Bx 0 _ _ hx
        have hxs := (H.out.wb _ hxl).2
        have hsz := H.out.sz
        have h1c := h1.cell; have h1f := h1.frozen; have h2c := h2.cell; have h2f := h2.frozen
        by_cases he : ws[x.val].1 = i
        · have hb : (ws[x.val].1 == i) = true := by simpa using he
          have h64 : 0 < ws[x.val].2.bs.length := by omega
          have hmx : ws[x.val].2.bs.length ≤ mostB := by unfold mostB; omega
          have HX := Lib.hid hXb; have HI := Lib.hid hI; have H1 := Lib.hid h1; have H2 := Lib.hid h2; have He := Lib.hid he; have H64 := Lib.hid h64; have Hmx := Lib.hid hmx; have Hlt := Lib.hid hlt2
          clear hXb hI h1 h2 he h64 hmx hxs hsz hxl hx
          gi_wp2_with ((refine ⟨trivial, ?_⟩; gi_at_call 34; refine (CallsIn.inRound l (callsIn_wide.2 (clone_buf (Buf.val ws[x.val].2) ws[x.val].2.bs _ HX.out Hmx.out H64.out))).mono ?_; rintro e w' ⟨g, cap', rfl, hbuf, hbel⟩; have k1 := (boxed_below H1.out hbel); have k2 := boxed_below H2.out hbel; have k1c := k1.cell; have k1f := k1.frozen; have k2c := k2.cell; have k2f := k2.frozen; replace k1 := Lib.hid k1; replace k2 := Lib.hid k2; replace hbuf := Lib.hid hbuf; replace hbel := Lib.hid hbel))
          have K1 := k1.out; have K2 := k2.out; have Bu := hbuf.out; have Bl := hbel.out
          have hgb := Bu.base
          have hKo : KeepsOthers W w' := ⟨Bl.size, fun k o hk ho => (Bl.block k (Array.getElem?_eq_some_iff.1 hk).1).trans hk⟩
          have n1 : g ≠ w.heap.size + 1 := by simp only at hgb; omega
          have n2 : g ≠ w.heap.size + 1 + 1 := by simp only at hgb; omega
          refine ⟨((hKo.trans (KeepsOthers.setCell _ _ _)).trans (KeepsOthers.setCell _ _ _)).from _, ⟨rfl, pre, x, g, cap', rfl, He.out, HI.out.1, ?_, ?_, ?_⟩, ?_⟩
          · exact own_weaken (((Bu.move (Below.heap_setCell _ _ _ _ n1))).move (Below.heap_setCell _ _ _ _ n2)) (by omega)
          · exact (K1.set _).other (by omega) _
          · exact (K2.other (by omega) _).set _
          · exact ((((hb4.trans (HI.out.2.mono (by omega))).trans (Bl.mono (by omega)))).setCell (by simp only; omega) _).setCell (by simp only; omega) _
        · have hb : (ws[x.val].1 == i) = false := by simpa using he
          have HI := Lib.hid hI; have He := Lib.hid he
          clear hXb hI h1 h2 he hxs hsz hxl hx
          gi_wp2
          refine ⟨KeepsFrom.refl _ _, Below.refl _ _, fun y hy => ?_, by first | exact HI.out.2 | (rw [← hs4]; exact HI.out.2)⟩
          rcases List.mem_append.1 hy with hy | hy
          · exact HI.out.1 y hy
          · simp only [List.mem_singleton] at hy; subst hy; exact He.out
      case done =>
        rintro Dd xs W hD rfl hI hK
        have hlt2 := hI.2.size
        have hlw : lastW p.waits i = none := by rw [H.out.weq]; exact lastW_none ws i hI.1
        have hW : Below w.heap.size w W := hb4.trans (hI.2.mono (by omega))
        have hR := H.out.below hW
        have hi := (hI.2.cell (p := ⟨w.heap.size, 0, none⟩) (by simp only; omega)).trans (Boxed.cell hB0)
        have h1 : Boxed W (w.heap.size + 1) 38 (.slice none 0 0) := (hI.2.block _ (by omega)).trans hB1
        have h2 : Boxed W (w.heap.size + 1 + 1) 26 (.int .i64 0) := (hI.2.block _ (by omega)).trans hB2
        have h1c := h1.cell; have h1f := h1.frozen; have h2c := h2.cell; have h2f := h2.frozen
        have HR := Lib.hid hR; have HI := Lib.hid hI; have H1 := Lib.hid h1; have H2 := Lib.hid h2; have HK := Lib.hid hK; have HW := Lib.hid hW; have Hlw := Lib.hid hlw
        clear hR hI h1 h2 hK hW hlw
        gi_wp2_with ((refine ⟨trivial, ?_⟩; gi_at_call 28; refine (callsIn_wide.2 (stays_calls HR.out i)).mono ?_; rintro e w' ⟨g, cap', rfl, hbuf, hbel⟩; have k1 := (boxed_below H1.out hbel); have k2 := boxed_below H2.out hbel; have k1c := k1.cell; have k1f := k1.frozen; have k2c := k2.cell; have k2f := k2.frozen; replace k1 := Lib.hid k1; replace k2 := Lib.hid k2; replace hbuf := Lib.hid hbuf; replace hbel := Lib.hid hbel))
        have K1 := k1.out; have K2 := k2.out; have Bu := hbuf.out; have Bl := hbel.out
        have hgb := Bu.base
        have n1 : g ≠ w.heap.size + 1 := by simp only at hgb; omega
        have n2 : g ≠ w.heap.size + 1 + 1 := by simp only at hgb; omega
        have hK2 : w'.heap[Dd]? = some (.deferred (some [])) := (Bl.block Dd (Array.getElem?_eq_some_iff.1 HK.out).1).trans HK.out
        have hK' := (((KeepsOthers.setCell w' ⟨w.heap.size + 1, 0, none⟩ (.slice (some ⟨g, 0, none⟩) (p.kept i).length cap')).trans (KeepsOthers.setCell _ ⟨w.heap.size + 1 + 1, 0, none⟩ (.int .i64 0))).same Dd _ hK2 rfl)
        refine ⟨by simp, .inl ⟨_, _, rfl, run_takeDeferred hK', ?_⟩⟩
        have m1 : w.heap.size + 1 ≠ Dd := by omega
        have m2 : w.heap.size + 1 + 1 ≠ Dd := by omega
        have b1 := ((K1.set (.slice (some ⟨g, 0, none⟩) (p.kept i).length cap')).other (B' := w.heap.size + 1 + 1) (by omega) (.int .i64 0))
        have b2 := ((K2.other (B' := w.heap.size + 1) (by omega) (.slice (some ⟨g, 0, none⟩) (p.kept i).length cap')).set (.int .i64 0))
        have b3 := (((Bu.move (Below.heap_setCell w' ⟨w.heap.size + 1, 0, none⟩ (.slice (some ⟨g, 0, none⟩) (p.kept i).length cap') _ n1))).move (Below.heap_setCell _ ⟨w.heap.size + 1 + 1, 0, none⟩ (.int .i64 0) _ n2))
        have b4 : Below w.heap.size w ((w'.setCell ⟨w.heap.size + 1, 0, none⟩ (.slice (some ⟨g, 0, none⟩) (p.kept i).length cap')).setCell ⟨w.heap.size + 1 + 1, 0, none⟩ (.int .i64 0)) := ((HW.out.trans (Bl.mono (by omega))).setCell (by simp only; omega) _).setCell (by simp only; omega) _
        generalize ((w'.setCell ⟨w.heap.size + 1, 0, none⟩ (.slice (some ⟨g, 0, none⟩) (p.kept i).length cap')).setCell ⟨w.heap.size + 1 + 1, 0, none⟩ (.int .i64 0)) = wz at hK' b1 b2 b3 b4 ⊢
        have j1 := b1.kept (grownBy_putObj' _ Dd (.deferred none)) (by simpa using m1)
        have j2 := b2.kept (grownBy_putObj' _ Dd (.deferred none)) (by simpa using m2)
        have hg := b3.typed
        have hgd : g ≠ Dd := by rintro rfl; obtain ⟨c, hc⟩ := hg; rw [hK'] at hc; simp at hc
        have hfin : p.read i = (p.kept i, 0) := by rw [Pn.out, Hlw.out]; rfl
        refine ⟨.tuple #[.slice (some ⟨g, 0, none⟩) (p.kept i).length cap', .int .i64 0], ?_, some ⟨g, 0, none⟩, cap', by rw [hfin], ?_, ?_⟩
        · have j1c := j1.cell; have j2c := j2.cell
          simp [results, Try.f16, go_sem, j1c, j2c]
        · rw [hfin]
          exact own_weaken (b3.move ((grownBy_putObj' wz Dd (.deferred none)).block g b3.lt (by simpa using hgd))) (by omega)
        · exact b4.grown (grownBy_putObj' _ Dd (.deferred none)) (by have := b4.size; omega) (fun k e => by cases e; omega)
      case stop =>
        rintro Dd c pre W hD ⟨k, hk, hpk⟩ ⟨⟨rfl, pre', x, g, cap', h1, h2, h3, h4, h5, h6⟩, h7⟩ hK
        have hlw : lastW p.waits i = some ws[x.val].2.bs := by rw [H.out.weq]; exact lastW_some ws i pre' x k hk (h1.symm.trans hpk) h2 h3
        gi_wp2
        refine ⟨by simp, .inl ⟨_, _, rfl, run_takeDeferred hK, ?_⟩⟩
        have n1 : w.heap.size + 1 ≠ Dd := by omega
        have n2 : w.heap.size + 1 + 1 ≠ Dd := by omega
        have j1 := h5.kept (grownBy_putObj' _ Dd (.deferred none)) (by simpa using n1)
        have j2 := h6.kept (grownBy_putObj' _ Dd (.deferred none)) (by simpa using n2)
        have hg := h4.typed
        have hgd : g ≠ Dd := by rintro rfl; obtain ⟨c, hc⟩ := hg; rw [hK] at hc; simp at hc
        refine ⟨.tuple #[.slice (some ⟨g, 0, none⟩) ws[x.val].2.bs.length cap', .int .i64 0], ?_, some ⟨g, 0, none⟩, cap', ?_, ?_, ?_⟩
        · have j1c := j1.cell; have j2c := j2.cell
          simp [results, Try.f16, go_sem, j1c, j2c]
        · rw [Pn.out, hlw]; rfl
        · rw [Pn.out, hlw]
          exact own_weaken (h4.move ((grownBy_putObj' W Dd (.deferred none)).block g h4.lt (by simpa using hgd))) (by omega)
        · exact h7.grown (grownBy_putObj' _ Dd (.deferred none)) (by have := h7.size; omega) (fun k e => by cases e; omega)
end
end Go.Proofs.Ytdmpocojbheoiaa
