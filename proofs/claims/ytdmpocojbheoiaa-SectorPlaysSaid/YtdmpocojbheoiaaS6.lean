/- slices.Backward over writes: the iterator's contract. -/
import Derived.Test.YtdmpocojbheoiaaS4
import Derived.RangeFuncNested
import Derived.RangeFuncBound
import Derived.RangeFuncCalls
import Derived.RangeFuncLeaves
import Derived.RangeFuncBox
import Derived.Shelf.Abstract
import Derived.OwnWalkIn
import Derived.TacticsInMore
import Derived.LoopNIn
import Derived.LoopIn
namespace Go.Proofs.Ytdmpocojbheoiaa
open Go.RowKit Go.Shelf

attribute [local go_sem] Oper.semAt_some

/-- What comes: places, from behind: the first k. -/
def backs (n k : Nat) : List (Fin n) := (List.finRange n).reverse.take k
theorem backs_succ (n k : Nat) (h : k < n) : backs n (k + 1) = backs n k ++ [⟨n - 1 - k, by omega⟩] := by
  unfold backs
  rw [List.take_add_one, List.getElem?_reverse (by simpa using h)]
  simp [show n - 1 - k < n by omega]
theorem backs_length (n k : Nat) (h : k ≤ n) : (backs n k).length = k := by simp [backs]; omega
theorem backs_all (n : Nat) (y : Fin n) : y ∈ backs n n := by
  unfold backs
  rw [List.take_of_length_le (by simp)]
  simp
def bval (ws : List (Int × Buf)) (x : Fin ws.length) : Array Value := #[.int .i64 x.val, .agg #[.int .i64 ws[x].1, .slice (some ⟨ws[x].2.g, 0, none⟩) ws[x].2.bs.length ws[x].2.cap]]

set_option maxRecDepth 100000 in
set_option maxHeartbeats 2000000 in
theorem backward1_in (F : Fence) (n : Nat) (h7 : F.fn 37) (hro : F.round = none) (hn : 1 ≤ n) (l Bs n₀ b cap : Nat) (A : Option Addr) (ws : List (Int × Buf)) (hreach : ws.length ≤ 1000000) (hb : 0 < ws.length → b < n₀) (hBn : Bs < n₀) (hA : 0 < ws.length → A = some ⟨b, 0, none⟩)
    (J Jx : List (Fin ws.length) → World → Prop)
    (hY : ∀ pre x W, J pre W → pre.length < ws.length → YieldAt F (n - 1) Try.prog l (bval ws x) W fun e W' =>
      (e = .returned (.bool true) ∧ J (pre ++ [x]) W' ∧ Below n₀ W W') ∨ (e = .returned (.bool false) ∧ Jx (pre ++ [x]) W'))
    (W : World) (hBs : W.cell? ⟨Bs, 0, none⟩ = some (.slice A ws.length cap))
    (hc : ∀ j x, ws[j]? = some x → W.cell? ⟨b, j * 2, none⟩ = some (.int .i64 x.1) ∧ W.cell? ⟨b, j * 2 + 1, none⟩ = some (.slice (some ⟨x.2.g, 0, none⟩) x.2.bs.length x.2.cap)) (h0 : J [] W) :
    CallsIn F n Try.prog 37 #[.func (.yield l) #[] #[], .pointer (some ⟨Bs, 0, none⟩)] W fun e W' => (∃ v, e = .returned v) ∧
      ((∃ ys, ys = backs ws.length ws.length ∧ J ys W') ∨ (∃ pre, (∃ k, k ≤ ws.length ∧ pre = backs ws.length k) ∧ Jx pre W')) := by
  refine callsIn_of_wp Try.func37 rfl h7 ?_ hro
  simp only [Try.ntmps37, List.size_toArray, List.length_cons, List.length_nil, Nat.reduceAdd, Nat.reduceSub, Array.replicate_succ, Array.replicate_zero, List.push_toArray, List.append_toArray, List.nil_append, List.cons_append]
  gi_wp2
  gi_loopw [3] (fun i wr => ∃ m : Nat, m ≤ ws.length ∧ ((m = 0 ∧ i = .int .i64 (-1)) ∨ (∃ m', m = m' + 1 ∧ i = .int .i64 m')) ∧ J (backs ws.length (ws.length - m)) wr ∧ Below n₀ W wr)
    (fun i _ => (intOf i + 1).toNat)
  case atStart =>
    refine ⟨ws.length, Nat.le_refl _, ?_, by rw [Nat.sub_self]; exact h0, Below.refl _ _⟩
    cases h : ws.length with
    | zero => left; simp
    | succ m => right; exact ⟨m, rfl, by simp⟩
  case round =>
    obtain ⟨m, hm, hi, hJs, hnx⟩ := hrel
    rcases hi with ⟨rfl, rfl⟩ | ⟨m', rfl, rfl⟩
    · gi_wp2
      go_end0
      exact ⟨⟨_, rfl⟩, .inl ⟨_, rfl, hJs⟩⟩
    · obtain rfl := hA (by omega)
      have hml0 : m' < ws.length := by omega
      obtain ⟨hx0, hx1⟩ := hc m' ws[m'] (by simp [hml0])
      have hbn := hb (by omega)
      have hy0 := (hnx.cell (p := ⟨b, m' * 2, none⟩) hbn).trans hx0
      have hy1 := (hnx.cell (p := ⟨b, m' * 2 + 1, none⟩) hbn).trans hx1
      have hys := (hnx.cell (p := ⟨Bs, 0, none⟩) hBn).trans hBs
      have hml : (m' : Int) < (ws.length : Int) := by omega
      obtain ⟨fn, tmps, assign, body, hy, hR⟩ := hY _ (⟨m', hml0⟩ : Fin ws.length) wr hJs (by rw [backs_length _ _ (by omega)]; omega)
      simp only [bval, Fin.getElem_fin] at hy
      have hsucc : backs ws.length (ws.length - (m' + 1)) ++ [(⟨m', hml0⟩ : Fin ws.length)] = backs ws.length (ws.length - m') := by
        have e1 : ws.length - m' = ws.length - (m' + 1) + 1 := by omega
        rw [e1, backs_succ _ _ (by omega)]
        congr 2
        apply Fin.ext
        simp only; omega
      have Hs := Lib.hid hsucc
      have Hc := Lib.hid hc
      have Hnx := Lib.hid hnx
      clear hsucc hc hx0 hx1 hBs hnx
      gi_wp2
      refine hR.mono ?_
      rintro e W3 (⟨rfl, hJ3, hk3⟩ | ⟨rfl, hJx3⟩)
      · gi_wp2
        go_roundw
        case rel =>
          refine ⟨m', by omega, ?_, by rw [← Hs.out]; exact hJ3, Hnx.out.trans hk3⟩
          cases m' with
          | zero => left; simp
          | succ q => right; exact ⟨q, rfl, by first | rfl | simp⟩
        case measure => first | (simp [intOf]; done) | (simp [intOf]; omega)
      · gi_wp2
        refine bodyPost_ret (results_none rfl _ _ _) rfl ?_
        exact ⟨⟨_, rfl⟩, .inr ⟨_, ⟨ws.length - m', by omega, Hs.out⟩, hJx3⟩⟩

theorem backward_stops (F : Fence) (n : Nat) (h7 : F.fn 37) (hro : F.round = none) (hn : 1 ≤ n) (Bs n₀ b cap : Nat) (A : Option Addr) (ws : List (Int × Buf)) (hreach : ws.length ≤ 1000000) (hb : 0 < ws.length → b < n₀) (hBn : Bs < n₀) (hA : 0 < ws.length → A = some ⟨b, 0, none⟩)
    (w : World) (hn₀ : n₀ ≤ w.heap.size) (hBs : w.cell? ⟨Bs, 0, none⟩ = some (.slice A ws.length cap))
    (hc : ∀ j x, ws[j]? = some x → w.cell? ⟨b, j * 2, none⟩ = some (.int .i64 x.1) ∧ w.cell? ⟨b, j * 2 + 1, none⟩ = some (.slice (some ⟨x.2.g, 0, none⟩) x.2.bs.length x.2.cap)) :
    SeqStopsK F n Try.prog 37 #[.pointer (some ⟨Bs, 0, none⟩)] (bval ws) (Below n₀) (fun ys => ys = backs ws.length ws.length) (fun pre => ∃ k, k ≤ ws.length ∧ pre = backs ws.length k) ws.length w := fun l J Jx W hW _ _ hY h0 => by
  refine (backward1_in F n h7 hro hn l Bs n₀ b cap A ws hreach hb hBn hA J Jx hY W ((hW.cell (p := ⟨Bs, 0, none⟩) (by simp only; omega)).trans hBs) (fun j x hx => ?_) h0).mono ?_
  · have hlt : 0 < ws.length := by have := (List.getElem?_eq_some_iff.1 hx).1; omega
    obtain ⟨h1, h2⟩ := hc j x hx
    have hb2 : b < w.heap.size := Nat.lt_of_lt_of_le (hb hlt) hn₀
    exact ⟨(hW.cell (p := ⟨b, j * 2, none⟩) hb2).trans h1, (hW.cell (p := ⟨b, j * 2 + 1, none⟩) hb2).trans h2⟩
  · rintro e W' ⟨he, ⟨ys, rfl, hj⟩ | ⟨pre, hk, hj⟩⟩
    · exact ⟨he, .inl ⟨_, rfl, hj⟩⟩
    · exact ⟨he, .inr ⟨_, hk, hj⟩⟩
set_option maxHeartbeats 400000 in
theorem backward_calls (A : Option Addr) (len cap : Nat) (w : World) : Calls Try.prog 33 #[.slice A len cap] w fun e w' => e = .returned (.func (.func 37) #[] #[.pointer (some ⟨w.heap.size, 0, none⟩)]) ∧ w.alloc (.cells #[.slice A len cap] 48) = w' := by
  go_enter Try.func33, Try.ntmps33
  go_wp2
  go_ret
  exact ⟨rfl, rfl⟩
end Go.Proofs.Ytdmpocojbheoiaa
