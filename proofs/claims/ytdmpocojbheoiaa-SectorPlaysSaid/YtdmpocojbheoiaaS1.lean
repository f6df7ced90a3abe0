/- slices.Clone at bytes. -/
import Derived.Test.YtdmpocojbheoiaaRows
import Derived.Test.YtdmpocojbheoiaaB0
import Derived.Lib.SliceRun
namespace Go.Proofs.Ytdmpocojbheoiaa
open Go.RowKit

theorem info_byte : (Try.prog.info? 5).map (fun i => (i.zero, i.size, i.bytes)) = some (some (.int .u8 0), 1, 1) := by kernel_rfl

def SomeB (w : World) (bs : List UInt8) (e : Ending) (w' : World) : Prop := ∃ v', e = .returned v' ∧ OwnB w' w.heap.size 5 v' bs ∧ Below w.heap.size w w'

def mostB : Nat := 140737488355328

set_option maxHeartbeats 400000 in
theorem clone_bytes (v : Value) (bs : List UInt8) (w : World) (h : Bytes w v bs) (hl : bs.length ≤ mostB) :
    Calls Try.prog 34 #[v] w (SomeB w bs) := by
  have hr := h
  obtain ⟨A, c, rfl, hn, _, _, hc⟩ := h
  have he := fun W => Lib.run_eql_slice_nil (P := Try.prog) W 38 5 A bs.length c 0 0 Try.underlying38
  cases A with
  | none =>
    have hb : bs = [] := by
      cases bs with
      | nil => rfl
      | cons b l => obtain ⟨_, h, _⟩ := hc 0 _ rfl; cases h
    subst hb
    clear hl hc hr hn
    have he2 : ∀ W, (binOp .eql 38 (.slice none 0 c) (.slice none 0 0)).run Try.prog W = .ok (.bool true) W := fun W => he W
    clear he
    show Calls _ _ #[.slice none 0 c] _ _
    go_enter Try.func34, Try.ntmps34
    go_wp2
    go_ret
    exact ⟨_, rfl, World.ownsRow_nil _ _ _ _, Below.refl _ _⟩
  | some ad =>
    clear hc
    go_enter Try.func34, Try.ntmps34
    go_wp2_with (at_builtin; refine wpList_app _ rfl _ _ 38 rfl w.heap.size 5 (.int .u8 0) 1 1 Try.underlying38 info_byte rfl (by decide) (.slice (some ⟨w.heap.size, 0, none⟩) 0 0) 0 [] rfl (own_empty w _ _ _ (Nat.le_refl _)) _ bs.length (bs.map B8) rfl (hr.below (Below.alloc (Below.refl _ _) (Nat.le_refl _) _)) (by unfold mostB at hl; omega) (by decide) (by simp) ?_; intro A' c' w1 hown hg _)
    go_ret
    refine ⟨_, rfl, by simpa [OwnB] using hown, ?_⟩
    exact ((Below.refl w.heap.size w).alloc (Nat.le_refl _) _).grown hg (by simp) (by simp [Value.ownBlock])
end Go.Proofs.Ytdmpocojbheoiaa
