/- What stays is settled: through a channel with room for all of it. -/
import Derived.Test.YtdmpocojbheoiaaS4
import Derived.Test.YtdmpocojbheoiaaB2
namespace Go.Proofs.Ytdmpocojbheoiaa
open Go.RowKit Go.Proofs.YtdmpocojbheoiaaW.PrintLast Go.Conc

def wagg (x : Int × Buf) : Value := .agg #[.int .i64 x.1, x.2.val]
def chanAt (w : World) (c n : Nat) (buf : List (Int × Buf)) (cl : Bool) (s r : Nat) : Prop := w.heap[c]? = some (.chan n (buf.map wagg).toArray cl s r false)

def SInv1 (D n C : Nat) (lv : Value) (ls : List (Int × Buf)) (w : World) (a' : Act) (w' : World) : Prop :=
  ∃ (j : Nat) (u6 u14 u15 u16 u17 u18 u19 : Value), j ≤ n ∧ a' = { tmps := #[.pointer (some ⟨D, 0, none⟩), lv, undef, undef, .chan (some C), undef, u6, undef, lv, .int .i64 n, .chan (some C), lv, .int .i64 n, .int .i64 j, u14, u15, u16, u17, u18, u19, undef, undef, undef, undef, undef, undef, undef, undef, undef, undef, undef, undef, undef], defers := [] } ∧ Below w.heap.size w w' ∧ chanAt w' C n (ls.take j) false j 0
def KeepM (M : Nat) (w w' : World) : Prop := w'.os = w.os ∧ w'.tape = w.tape ∧ w'.output = w.output ∧ w.heap.size ≤ w'.heap.size ∧ ∀ k, k < w.heap.size → k ≠ M → w'.heap[k]? = w.heap[k]?
def SInv2 (D M n C : Nat) (lv : Value) (ls : List (Int × Buf)) (kv : List (Int × Value)) (w : World) (a' : Act) (w' : World) : Prop :=
  ∃ (j : Nat) (u6 u14 u15 u16 u17 u18 u19 u7 u22 u23 u24 u25 u26 u27 u28 u29 u30 u31 u32 : Value), j ≤ n ∧ a' = { tmps := #[.pointer (some ⟨D, 0, none⟩), lv, undef, undef, .chan (some C), undef, u6, u7, lv, .int .i64 n, .chan (some C), lv, .int .i64 n, .int .i64 n, u14, u15, u16, u17, u18, u19, .chan (some C), .chan (some C), u22, u23, u24, u25, u26, u27, u28, u29, u30, u31, u32], defers := [] } ∧ KeepM M w w' ∧ chanAt w' C n (ls.drop j) true n j ∧ MapAt w' M ((ls.take j).foldl (fun k x => putK k x.1 x.2.val) kv)
def left2 (C : Nat) (w : World) : Nat := match w.heap[C]? with | some (.chan _ buf _ _ _ _) => buf.size | _ => 0
def AtAW (A : Act) (W : World) (a : Act) (w : World) : Prop := a = A ∧ w = W

set_option maxRecDepth 100000 in
set_option maxHeartbeats 1000000 in
theorem settle_calls (D M g o n c : Nat) (A : Option Addr) (ls : List (Int × Buf)) (kv : List (Int × Value)) (w : World) (hn : ls.length = n) (hA : 0 < n → A = some ⟨g, o, none⟩) (hnb : n ≤ 1000000)
    (hcell : ∀ j x, ls[j]? = some x → w.cell? ⟨g, o + j * 2, none⟩ = some (.int .i64 x.1) ∧ w.cell? ⟨g, o + j * 2 + 1, none⟩ = some x.2.val)
    (hD : w.cell? ⟨D, 2, none⟩ = some (.map (some M))) (hM : MapAt w M kv) :
    Calls Try.prog 27 #[.pointer (some ⟨D, 0, none⟩), .slice A n c] w (fun e w' => e = .returned (.tuple #[]) ∧
      MapAt w' M (ls.foldl (fun k x => putK k x.1 x.2.val) kv) ∧ w'.os = w.os ∧ w'.tape = w.tape ∧ w'.output = w.output ∧ w.heap.size ≤ w'.heap.size ∧ ∀ k, k < w.heap.size → k ≠ M → w'.heap[k]? = w.heap[k]?) := by
  obtain ⟨i0, hi0, hz0, hz1, hbytes⟩ := info_parts info_write
  have hmc := fun W => run_makeChan (P := Try.prog) (w := W) (t := 75) (e := 63) Try.underlying75 (i := i0) hi0 .i64 n (by omega) (by rw [hbytes]; omega)
  refine calls_of_wpN Try.func27 rfl ?_
  simp only [Try.ntmps27, List.size_toArray, List.length_cons, List.length_nil, Nat.reduceAdd, Nat.reduceSub, Array.replicate_succ,
     Array.replicate_zero, List.push_toArray, List.append_toArray, List.nil_append, List.cons_append]
  obtain ⟨C, hC⟩ : ∃ C, C = w.heap.size := ⟨_, rfl⟩
  refine WpN.seq (K := AtAW { tmps := #[.pointer (some ⟨D, 0, none⟩), .slice A n c, undef, undef, .chan (some C), undef, undef, undef, .slice A n c, .int .i64 n, .chan (some C), undef, undef, undef, undef, undef, undef, undef, undef, undef, undef, undef, undef, undef, undef, undef, undef, undef, undef, undef, undef, undef, undef], defers := [] } (w.alloc (.chan n #[] false 0 0 false))) (WpN.of ?_) ?_
  · have HC := Lib.hid hC; clear hC
    go_wp2
    exact ⟨by rw [HC.out], rfl⟩
  rintro a w0 ⟨rfl, rfl⟩
  have hbel0 : Below w.heap.size w (w.alloc (.chan n #[] false 0 0 false)) := (Below.refl _ w).alloc (Nat.le_refl _) _
  have hch0 : (w.alloc (.chan n #[] false 0 0 false)).heap[C]? = some (.chan n #[] false 0 0 false) := by rw [hC]; exact heap_alloc_new w _
  generalize w.alloc (.chan n #[] false 0 0 false) = w0 at hbel0 hch0 ⊢
  have HC := Lib.hid hC; clear hC
  refine WpN.seq (K := fun a' w' => (∃ u6 u14 u15 u16 u17 u18 u19, a' = { tmps := #[.pointer (some ⟨D, 0, none⟩), .slice A n c, undef, undef, .chan (some C), undef, u6, undef, .slice A n c, .int .i64 n, .chan (some C), .slice A n c, .int .i64 n, .int .i64 n, u14, u15, u16, u17, u18, u19, undef, undef, undef, undef, undef, undef, undef, undef, undef, undef, undef, undef, undef], defers := [] }) ∧ Below w.heap.size w w' ∧ chanAt w' C n ls false n 0) (WpN.seq (K := AtAW { tmps := #[.pointer (some ⟨D, 0, none⟩), .slice A n c, undef, undef, .chan (some C), undef, undef, undef, .slice A n c, .int .i64 n, .chan (some C), .slice A n c, .int .i64 n, .int .i64 0, undef, undef, undef, undef, undef, undef, undef, undef, undef, undef, undef, undef, undef, undef, undef, undef, undef, undef, undef], defers := [] } w0) (WpN.of ?_) ?_) ?_
  · go_wp2
    exact ⟨rfl, rfl⟩
  · rintro a w0 ⟨rfl, rfl⟩
    refine WpN.block (WpN.loop (SInv1 D n C (.slice A n c) ls w) (fun a' _ => n - (intOf (a'.tmps.getD 13 undef)).toNat) ?_ ?_)
    · exact ⟨0, undef, undef, undef, undef, undef, undef, undef, Nat.zero_le _, rfl, hbel0, hch0⟩
    · rintro a w1 ⟨j, u6, u14, u15, u16, u17, u18, u19, hj, rfl, hb1, hc1⟩
      by_cases hlt : j < n
      · have hlt2 : (j : Int) < n := by omega
        obtain rfl := hA (by omega)
        obtain ⟨x, hx⟩ : ∃ x, ls[j]? = some x := ⟨ls[j]'(by omega), by simp [hn, hlt]⟩
        obtain ⟨hx0, hx1⟩ := hcell j x hx
        have hy0 := cell_below hb1 hx0
        have hy1 := cell_below hb1 hx1
        unfold Buf.val at hy1
        clear hx0 hx1
        have Hc := Lib.hid hc1; have Hx := Lib.hid hx; have Hcell := Lib.hid hcell; clear hc1 hx hcell
        refine WpN.seq (K := AtAW { tmps := #[.pointer (some ⟨D, 0, none⟩), .slice (some ⟨g, o, none⟩) n c, undef, undef, .chan (some C), undef, u6, undef, .slice (some ⟨g, o, none⟩) n c, .int .i64 n, .chan (some C), .slice (some ⟨g, o, none⟩) n c, .int .i64 n, .int .i64 j, .bool true, u15, u16, u17, u18, u19, undef, undef, undef, undef, undef, undef, undef, undef, undef, undef, undef, undef, undef], defers := [] } w1) (WpN.of ?_) ?_
        · go_wp2
          exact ⟨rfl, rfl⟩
        rintro a w1 ⟨rfl, rfl⟩
        refine WpN.seq (K := AtAW { tmps := #[.pointer (some ⟨D, 0, none⟩), .slice (some ⟨g, o, none⟩) n c, undef, undef, .chan (some C), undef, u6, undef, .slice (some ⟨g, o, none⟩) n c, .int .i64 n, .chan (some C), .slice (some ⟨g, o, none⟩) n c, .int .i64 n, .int .i64 j, .bool true, u15, u16, u17, u18, u19, undef, undef, undef, undef, undef, undef, undef, undef, undef, undef, undef, undef, undef], defers := [] } w1) (WpN.cond (t := true) rfl (WpN.of (wp_skip ⟨rfl, rfl⟩))) ?_
        rintro a w1 ⟨rfl, rfl⟩
        refine WpN.seq (K := fun a' w' => (∃ u6 u15 u16 u17 u18, a' = { tmps := #[.pointer (some ⟨D, 0, none⟩), .slice (some ⟨g, o, none⟩) n c, undef, undef, .chan (some C), undef, u6, undef, .slice (some ⟨g, o, none⟩) n c, .int .i64 n, .chan (some C), .slice (some ⟨g, o, none⟩) n c, .int .i64 n, .int .i64 j, .bool true, u15, u16, u17, u18, u19, undef, undef, undef, undef, undef, undef, undef, undef, undef, undef, undef, undef, undef], defers := [] }) ∧ Below w.heap.size w w' ∧ chanAt w' C n (ls.take (j + 1)) false (j + 1) 0) (WpN.block (WpN.seq (K := fun a' w' => (∃ B u15 u16, a' = { tmps := #[.pointer (some ⟨D, 0, none⟩), .slice (some ⟨g, o, none⟩) n c, undef, undef, .chan (some C), undef, .pointer (some ⟨B, 0, none⟩), undef, .slice (some ⟨g, o, none⟩) n c, .int .i64 n, .chan (some C), .slice (some ⟨g, o, none⟩) n c, .int .i64 n, .int .i64 j, .bool true, u15, u16, u17, u18, u19, undef, undef, undef, undef, undef, undef, undef, undef, undef, undef, undef, undef, undef], defers := [] } ∧ w'.cell? ⟨B, 0, none⟩ = some (.int .i64 x.1) ∧ w'.cell? ⟨B, 1, none⟩ = some (.slice (some ⟨x.2.g, 0, none⟩) x.2.bs.length x.2.cap)) ∧ Below w1.heap.size w1 w') (WpN.of ?_) ?_)) ?_
        · go_wp2
          exact (Below.refl _ _).alloc (Nat.le_refl _) _
        · rintro a w2 ⟨⟨B, u15, u16, rfl, hB0, hB1⟩, hb2⟩
          have hc2 : w2.heap[C]? = some (.chan n ((ls.take j).map wagg).toArray false j 0 false) := (hb2.block C (Array.getElem?_eq_some_iff.1 Hc.out).1).trans Hc.out
          refine wpN_send3 (.chan (some C)) (wagg x) rfl rfl rfl (v := wagg x) (z := undef) ?_ ?_ ?_ hc2 ?_ ?_
          · simp [execOp, Act.eval, go_sem]
          · simp [execOp, Act.eval, go_sem, wagg, Buf.val, hB0, hB1]
          · simp [execOp, Act.eval, go_sem, Act.put, scase]; rfl
          · simp; omega
          · refine ⟨⟨_, _, _, _, _, rfl⟩, ?_, ?_⟩
            · refine (hb1.trans (hb2.mono hb1.size)).trans ⟨rfl, rfl, rfl, by simp [World.setChan], fun k hk => ?_⟩
              have : k ≠ C := by have := HC.out; omega
              simp [World.setChan, Array.getElem?_setIfInBounds_ne (Ne.symm this)]
            · have hx := Hx.out
              have hlt : C < w2.heap.size := (Array.getElem?_eq_some_iff.1 hc2).1
              unfold chanAt
              rw [heap_setChan _ _ _ _ _ _ _ _ hlt]
              have : ls.take (j + 1) = ls.take j ++ [x] := by rw [List.take_add_one, hx]; rfl
              rw [this]; simp
        · rintro a w2 ⟨⟨u6', u15', u16', u17', u18', rfl⟩, hb2, hc2⟩
          refine WpN.of ?_
          have HC2 := Lib.hid hc2; clear hc2
          have hjb : (j : Int) + 1 ≤ 1000000 := by omega
          go_wp2
          exact ⟨⟨j + 1, u6', .bool true, u15', u16', u17', u18', .int .i64 (j + 1), by omega, by simp, hb2, HC2.out⟩, by simp [intOf]; omega⟩
      · obtain rfl : j = n := by omega
        have Hc := Lib.hid hc1; clear hc1
        refine WpN.seq (K := AtAW { tmps := #[.pointer (some ⟨D, 0, none⟩), .slice A j c, undef, undef, .chan (some C), undef, u6, undef, .slice A j c, .int .i64 j, .chan (some C), .slice A j c, .int .i64 j, .int .i64 j, .bool false, u15, u16, u17, u18, u19, undef, undef, undef, undef, undef, undef, undef, undef, undef, undef, undef, undef, undef], defers := [] } w1) (WpN.of ?_) ?_
        · go_wp2
          exact ⟨rfl, rfl⟩
        rintro a w1 ⟨rfl, rfl⟩
        refine WpN.seq (K := fun _ _ => False) (WpN.cond (t := false) rfl (WpN.of (wp_exit ?_))) (fun _ _ h => h.elim)
        refine ⟨⟨_, _, _, _, _, _, _, rfl⟩, hb1, ?_⟩
        have := Hc.out
        rwa [List.take_of_length_le (by omega)] at this
  · rintro a w1 ⟨⟨u6, u14, u15, u16, u17, u18, u19, rfl⟩, hb1, hc1⟩
    have hcl := fun ats ty => run_close_open (P := Try.prog) ats ty hc1
    have Hc := Lib.hid hc1; clear hc1
    refine WpN.seq (K := AtAW { tmps := #[.pointer (some ⟨D, 0, none⟩), .slice A n c, undef, undef, .chan (some C), undef, u6, undef, .slice A n c, .int .i64 n, .chan (some C), .slice A n c, .int .i64 n, .int .i64 n, u14, u15, u16, u17, u18, u19, .chan (some C), undef, undef, undef, undef, undef, undef, undef, undef, undef, undef, undef, undef], defers := [] } (w1.setChan C n (ls.map wagg).toArray true n 0 false)) (WpN.of ?_) ?_
    · go_wp2
      exact ⟨rfl, rfl⟩
    rintro a w1 ⟨rfl, rfl⟩
    have hk2 : KeepM M w (w1.setChan C n (ls.map wagg).toArray true n 0 false) := by
      refine ⟨hb1.os, hb1.tape, hb1.output, by simpa [World.setChan] using hb1.size, fun k hk _ => ?_⟩
      rw [← hb1.block k hk]
      simp [World.setChan, Array.getElem?_setIfInBounds_ne (show C ≠ k by have := HC.out; omega)]
    have hc2 : chanAt (w1.setChan C n (ls.map wagg).toArray true n 0 false) C n ls true n 0 := heap_setChan _ _ _ _ _ _ _ _ (Array.getElem?_eq_some_iff.1 Hc.out).1
    have hm2 : MapAt (w1.setChan C n (ls.map wagg).toArray true n 0 false) M kv := hM.move (by
      rw [← hb1.block M hM.lt]
      have := hM.lt
      simp [World.setChan, Array.getElem?_setIfInBounds_ne (show C ≠ M by have := HC.out; omega)])
    generalize w1.setChan C n (ls.map wagg).toArray true n 0 false = w2 at hk2 hc2 hm2 ⊢
    clear hcl hb1 Hc
    have Hc2 := Lib.hid hc2; clear hc2
    refine WpN.seq (K := AtAW { tmps := #[.pointer (some ⟨D, 0, none⟩), .slice A n c, undef, undef, .chan (some C), undef, u6, undef, .slice A n c, .int .i64 n, .chan (some C), .slice A n c, .int .i64 n, .int .i64 n, u14, u15, u16, u17, u18, u19, .chan (some C), .chan (some C), undef, undef, undef, undef, undef, undef, undef, undef, undef, undef, undef], defers := [] } w2) (WpN.of ?_) ?_
    · go_wp2
      exact ⟨rfl, rfl⟩
    rintro a w2 ⟨rfl, rfl⟩
    refine WpN.block (WpN.loop (SInv2 D M n C (.slice A n c) ls kv w) (fun _ w' => left2 C w') ?_ ?_)
    · exact ⟨0, _, _, _, _, _, _, _, undef, undef, undef, undef, undef, undef, undef, undef, undef, undef, undef, undef, Nat.zero_le _, rfl, hk2, Hc2.out, hm2⟩
    · rintro a w3 ⟨j, u6, u14, u15, u16, u17, u18, u19, u7, u22, u23, u24, u25, u26, u27, u28, u29, u30, u31, u32, hj, rfl, hk3, hc3, hm3⟩
      have hD3 : w3.cell? ⟨D, 2, none⟩ = some (.map (some M)) := by
        have hlt := World.block_lt_of_cell? w _ hD
        have hne : D ≠ M := by
          rintro rfl
          obtain ⟨es, cl, hmm, _⟩ := hM
          simp [World.cell?, hmm] at hD
        exact (World.cell?_of_block (hk3.2.2.2.2 D hlt hne)).trans hD
      by_cases hlt : j < n
      · obtain ⟨x, hx⟩ : ∃ x, ls[j]? = some x := ⟨ls[j]'(by omega), by simp [hn, hlt]⟩
        have hdrop : ls.drop j = x :: ls.drop (j + 1) := by
          rw [List.drop_eq_getElem_cons (by omega)]
          congr
          have := hx; rw [List.getElem?_eq_getElem (by omega)] at this; injection this
        have hc3' : w3.heap[C]? = some (.chan n ((x :: ls.drop (j + 1)).map wagg).toArray true n j false) := by rw [← hdrop]; exact hc3
        have hl3 : left2 C w3 = n - j := by have := hc3; unfold chanAt at this; unfold left2; rw [this]; simp [hn]
        have Hl3 := Lib.hid hl3; clear hl3
        have Hx := Lib.hid hx; have Hdrop := Lib.hid hdrop; have Hcell := Lib.hid hcell; clear hx hdrop hcell hc3
        have hCl : C < w3.heap.size := (Array.getElem?_eq_some_iff.1 hc3').1
        refine WpN.seq (K := AtAW { tmps := #[.pointer (some ⟨D, 0, none⟩), .slice A n c, undef, undef, .chan (some C), undef, u6, u7, .slice A n c, .int .i64 n, .chan (some C), .slice A n c, .int .i64 n, .int .i64 n, u14, u15, u16, u17, u18, u19, .chan (some C), .chan (some C), .tuple #[wagg x, .bool true], .bool true, u24, u25, u26, u27, u28, u29, u30, u31, u32], defers := [] } (w3.setChan C n ((ls.drop (j + 1)).map wagg).toArray true n (j + 1) false)) ?_ ?_
        · refine wpN_recv2 rfl rfl (z := .agg #[.int .i64 0, .slice none 0 0]) (v1 := .bool true) ?_ hc3' (by simp) ?_ ⟨?_, ?_⟩
          · simp [execOp, Act.eval, go_sem, rcase]
          · simp [execOp, Act.eval, go_sem, Act.put]
          · simp [Act.put]
          · simp; rw [List.take_of_length_le (by simp)]
        rintro a w4 ⟨rfl, rfl⟩
        have hk4 : KeepM M w (w3.setChan C n ((ls.drop (j + 1)).map wagg).toArray true n (j + 1) false) := by
          refine ⟨hk3.1, hk3.2.1, hk3.2.2.1, by simpa [World.setChan] using hk3.2.2.2.1, fun k hk hne => ?_⟩
          rw [← hk3.2.2.2.2 k hk hne]
          simp [World.setChan, Array.getElem?_setIfInBounds_ne (show C ≠ k by have := HC.out; omega)]
        have hc4 : chanAt (w3.setChan C n ((ls.drop (j + 1)).map wagg).toArray true n (j + 1) false) C n (ls.drop (j + 1)) true n (j + 1) := heap_setChan _ _ _ _ _ _ _ _ hCl
        have hm4 : MapAt (w3.setChan C n ((ls.drop (j + 1)).map wagg).toArray true n (j + 1) false) M ((ls.take j).foldl (fun k x => putK k x.1 x.2.val) kv) := hm3.move (by
          have := hM.lt
          simp [World.setChan, Array.getElem?_setIfInBounds_ne (show C ≠ M by have := HC.out; omega)])
        have hD4 : (w3.setChan C n ((ls.drop (j + 1)).map wagg).toArray true n (j + 1) false).cell? ⟨D, 2, none⟩ = some (.map (some M)) := by
          rw [← hD3]
          refine World.cell?_of_block ?_
          have := World.block_lt_of_cell? w _ hD
          simp only at this
          simp [World.setChan, Array.getElem?_setIfInBounds_ne (show C ≠ D by have := HC.out; omega)]
        generalize w3.setChan C n ((ls.drop (j + 1)).map wagg).toArray true n (j + 1) false = w4 at hk4 hc4 hm4 hD4 ⊢
        clear hk3 hm3 hD3 hc3' hCl
        have Hc4 := Lib.hid hc4; have Hk4 := Lib.hid hk4; have Hm4 := Lib.hid hm4; clear hc4 hk4 hm4
        have hDl := World.block_lt_of_cell? w4 _ hD4
        simp only at hDl
        have hMl := Hm4.out.lt
        refine WpN.seq (K := AtAW { tmps := #[.pointer (some ⟨D, 0, none⟩), .slice A n c, undef, undef, .chan (some C), undef, u6, u7, .slice A n c, .int .i64 n, .chan (some C), .slice A n c, .int .i64 n, .int .i64 n, u14, u15, u16, u17, u18, u19, .chan (some C), .chan (some C), .tuple #[wagg x, .bool true], .bool true, u24, u25, u26, u27, u28, u29, u30, u31, u32], defers := [] } w4) (WpN.cond (t := true) rfl (WpN.of (wp_skip ⟨rfl, rfl⟩))) ?_
        rintro a w4 ⟨rfl, rfl⟩
        refine WpN.block (WpN.seq (K := AtAW { tmps := #[.pointer (some ⟨D, 0, none⟩), .slice A n c, undef, undef, .chan (some C), undef, u6, .pointer (some ⟨w4.heap.size, 0, none⟩), .slice A n c, .int .i64 n, .chan (some C), .slice A n c, .int .i64 n, .int .i64 n, u14, u15, u16, u17, u18, u19, .chan (some C), .chan (some C), .tuple #[wagg x, .bool true], .bool true, wagg x, u25, u26, u27, u28, u29, u30, u31, u32], defers := [] } (w4.alloc (.cells #[.int .i64 x.1, x.2.val] 63))) (WpN.of ?_) ?_)
        · unfold wagg Buf.val
          go_wp2
          exact ⟨rfl, rfl⟩
        rintro a w5 ⟨rfl, rfl⟩
        refine WpN.of ?_
        have hD5 : (w4.alloc (.cells #[.int .i64 x.1, x.2.val] 63)).cell? ⟨D, 2, none⟩ = some (.map (some M)) := (World.cell?_of_block (Below.heap_alloc _ _ _ hDl)).trans hD4
        have hB0 : (w4.alloc (.cells #[.int .i64 x.1, x.2.val] 63)).cell? ⟨w4.heap.size, 0, none⟩ = some (.int .i64 x.1) := cell_of_row _ _ 0 _ _ _ (heap_alloc_new w4 _)
        have hB1 : (w4.alloc (.cells #[.int .i64 x.1, x.2.val] 63)).cell? ⟨w4.heap.size, 1, none⟩ = some x.2.val := cell_of_row _ _ 1 _ _ _ (heap_alloc_new w4 _)
        have hm5 := Hm4.out.move (w' := (w4.alloc (.cells #[.int .i64 x.1, x.2.val] 63))) (Below.heap_alloc _ _ _ hMl)
        have hk5 : KeepM M w (w4.alloc (.cells #[.int .i64 x.1, x.2.val] 63)) := ⟨Hk4.out.1, Hk4.out.2.1, Hk4.out.2.2.1, by have := Hk4.out.2.2.2.1; simp; omega, fun k hk hne => (Below.heap_alloc _ _ _ (Nat.lt_of_lt_of_le hk Hk4.out.2.2.2.1)).trans (Hk4.out.2.2.2.2 k hk hne)⟩
        have hc5 : chanAt (w4.alloc (.cells #[.int .i64 x.1, x.2.val] 63)) C n (ls.drop (j + 1)) true n (j + 1) := (Below.heap_alloc _ _ _ (Array.getElem?_eq_some_iff.1 Hc4.out).1).trans Hc4.out
        generalize hw5 : w4.alloc (.cells #[.int .i64 x.1, x.2.val] 63) = w5 at hD5 hB0 hB1 hm5 hk5 hc5 ⊢
        generalize hBn : w4.heap.size = B at hB0 hB1 ⊢
        clear hw5 hBn Hc4 Hk4 Hm4 hD4 hDl hMl
        have Hc5 := Lib.hid hc5; have Hk5 := Lib.hid hk5; have Hm5 := Lib.hid hm5; clear hc5 hk5 hm5
        unfold Buf.val at hB1
        refine start_ (n := 9) (S := fun w' => w'.cell? ⟨D, 2, none⟩ = some (.map (some M)) ∧ w'.cell? ⟨B, 0, none⟩ = some (.int .i64 x.1) ∧ w'.cell? ⟨B, 1, none⟩ = some (.slice (some ⟨x.2.g, 0, none⟩) x.2.bs.length x.2.cap)) (ds := [8]) #[false, false, false, false, false, false, false, false, false] (by kernel_rfl) rfl rfl ⟨hD5, hB0, hB1⟩ (fun hHeld => ?_)
        refine pure_ (i := 0) (N := some 25) (v := ?_) (a' := ?_) #[true, false, false, false, false, false, false, false, false] rfl rfl (by kernel_rfl) (fun _ _ _ h => h) (Or.inl ⟨by rfl, ?_⟩) ?_ ?_
        rotate_left
        · intro w'
          go_simp
          with_reducible rfl
        rotate_left
        · simp only [Act.put, List.setIfInBounds_toArray, List.set_cons_zero, List.set_cons_succ, i64_w, i32_w]
          rfl
        refine pure_ (i := 1) (N := some 26) (v := ?_) (a' := ?_) #[true, true, false, false, false, false, false, false, false] rfl rfl (by kernel_rfl) (fun _ _ _ h => h) (Or.inl ⟨by rfl, ?_⟩) ?_ ?_
        rotate_left
        · intro w'
          go_simp
          with_reducible rfl
        rotate_left
        · simp only [Act.put, List.setIfInBounds_toArray, List.set_cons_zero, List.set_cons_succ, i64_w, i32_w]
          rfl
        refine pure_ (i := 2) (N := some 27) (v := ?_) (a' := ?_) #[true, true, true, false, false, false, false, false, false] rfl rfl (by kernel_rfl) (fun _ _ _ h => h) (Or.inl ⟨by rfl, ?_⟩) ?_ ?_
        rotate_left
        · intro w'
          go_simp
          with_reducible rfl
        rotate_left
        · simp only [Act.put, List.setIfInBounds_toArray, List.set_cons_zero, List.set_cons_succ, i64_w, i32_w]
          rfl
        refine pure_ (i := 4) (N := some 29) (v := ?_) (a' := ?_) #[true, true, true, false, true, false, false, false, false] rfl rfl (by kernel_rfl) (fun _ _ _ h => h) (Or.inl ⟨by rfl, ?_⟩) ?_ ?_
        rotate_left
        · intro w'
          go_simp
          with_reducible rfl
        rotate_left
        · simp only [Act.put, List.setIfInBounds_toArray, List.set_cons_zero, List.set_cons_succ, i64_w, i32_w]
          rfl
        refine pure_ (i := 6) (N := some 31) (v := ?_) (a' := ?_) #[true, true, true, false, true, false, true, false, false] rfl rfl (by kernel_rfl) (fun _ _ _ h => h) (Or.inl ⟨by rfl, ?_⟩) ?_ ?_
        rotate_left
        · intro w'
          go_simp
          with_reducible rfl
        rotate_left
        · simp only [Act.put, List.setIfInBounds_toArray, List.set_cons_zero, List.set_cons_succ, i64_w, i32_w]
          rfl
        refine take_ (i := 3) (N := some 28) (v := ?_) (a' := ?_) #[true, true, true, true, true, false, true, false, false] rfl rfl (by kernel_rfl) (fun _ _ _ h => h) (Or.inl ⟨by rfl, ?_⟩) hHeld ?_ ?_
        rotate_left
        · rintro w' ⟨s0, s1, s2⟩
          go_simp
          with_reducible rfl
        rotate_left
        · simp only [Act.put, List.setIfInBounds_toArray, List.set_cons_zero, List.set_cons_succ, i64_w, i32_w]
          rfl
        refine take_ (i := 5) (N := some 30) (v := ?_) (a' := ?_) #[true, true, true, true, true, true, true, false, false] rfl rfl (by kernel_rfl) (fun _ _ _ h => h) (Or.inl ⟨by rfl, ?_⟩) hHeld ?_ ?_
        rotate_left
        · rintro w' ⟨s0, s1, s2⟩
          go_simp
          with_reducible rfl
        rotate_left
        · simp only [Act.put, List.setIfInBounds_toArray, List.set_cons_zero, List.set_cons_succ, i64_w, i32_w]
          rfl
        refine take_ (i := 7) (N := some 32) (v := ?_) (a' := ?_) #[true, true, true, true, true, true, true, true, false] rfl rfl (by kernel_rfl) (fun _ _ _ h => h) (Or.inl ⟨by rfl, ?_⟩) hHeld ?_ ?_
        rotate_left
        · rintro w' ⟨s0, s1, s2⟩
          go_simp
          with_reducible rfl
        rotate_left
        · simp only [Act.put, List.setIfInBounds_toArray, List.set_cons_zero, List.set_cons_succ, i64_w, i32_w]
          rfl
        refine last_ (i := 8) (N := none) #[true, true, true, true, true, true, true, true, true] rfl rfl (by kernel_rfl) (by decide) (fun K hK => ?_)
        refine step_mapPut _ (by rfl) rfl _ _ _ rfl M _ (show MapAt w5.drew M _ from Hm5.out) Try.underlying47 Try.underlying3 x.1 _ rfl rfl rfl ?_
        intro w6 hm6 ho6 ht6 hou6 hs6 hk6
        refine hK.out _ _ ?_
        clear hK K
        refine done_ (by kernel_rfl) ?_
        have hCM : C ≠ M := by have := HC.out; have := hM.lt; omega
        have hc6 : chanAt w6 C n (ls.drop (j + 1)) true n (j + 1) := (hk6 C hCM).trans Hc5.out
        have hl6 : left2 C w6 = n - (j + 1) := by have := hc6; unfold chanAt at this; unfold left2; rw [this]; simp [hn]
        refine ⟨⟨j + 1, _, _, _, _, _, _, _, _, _, _, _, _, _, _, _, _, _, _, _, by omega, rfl, ?_, hc6, ?_⟩, ?_⟩
        · refine ⟨ho6.trans Hk5.out.1, ht6.trans Hk5.out.2.1, hou6.trans Hk5.out.2.2.1, ?_, fun k hk hne => (hk6 k hne).trans (Hk5.out.2.2.2.2 k hk hne)⟩
          rw [hs6]; exact Hk5.out.2.2.2.1
        · have : ls.take (j + 1) = ls.take j ++ [x] := by rw [List.take_add_one, Hx.out]; rfl
          rw [this, List.foldl_append]
          exact hm6
        · rw [hl6, Hl3.out]; omega
      · obtain rfl : j = n := by omega
        have hd : ls.drop j = [] := List.drop_of_length_le (by omega)
        have hc3' : w3.heap[C]? = some (.chan j #[] true j j false) := by have := hc3; unfold chanAt at this; rw [hd] at this; exact this
        have ht : ls.take j = ls := List.take_of_length_le (by omega)
        refine WpN.seq (K := fun a' w' => (∃ a, a' = a ∧ a.eval (.tmp 23) = .bool false ∧ a.defers = []) ∧ w' = w3) ?_ ?_
        · refine wpN_shut2 rfl rfl (z := .agg #[.int .i64 0, .slice none 0 0]) (v1 := .bool false) ?_ hc3' ?_ ⟨⟨_, rfl, ?_, rfl⟩, rfl⟩
          · simp [execOp, Act.eval, go_sem, rcase]
          · simp [execOp, Act.eval, go_sem, Act.put]
          · simp [Act.put, Act.eval]
        rintro a w3 ⟨⟨a, rfl, hev, hdf⟩, rfl⟩
        refine WpN.seq (K := fun _ _ => False) (WpN.cond (t := false) hev (WpN.of (wp_exit ?_))) (fun _ _ h => h.elim)
        refine ⟨hdf, .tuple #[], results_none rfl _ _ _, rfl, ?_, hk3⟩
        rw [ht] at hm3; exact hm3
end Go.Proofs.Ytdmpocojbheoiaa
