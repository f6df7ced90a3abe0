/- What waits stays: settle on a disk; Sync. -/
import Derived.Test.YtdmpocojbheoiaaS5
import Derived.Test.YtdmpocojbheoiaaS7
namespace Go.Proofs.Ytdmpocojbheoiaa
open Go.RowKit Go.Shelf

def keptPut (k : Int → List UInt8) (l : List (Int × List UInt8)) : Int → List UInt8 := l.foldl (fun k x j => if x.1 = j then x.2 else k j) k
def PD.settled (p : PD) (l : List (Int × List UInt8)) : PD := { p with kept := keptPut p.kept l }
def PD.sync (p : PD) : Int × PD := if p.off then (8, p) else if p.burns.1 then (8, p.burns.2) else (0, { p.burns.2.settled p.burns.2.waits with waits := [] })

/-- A disk in memory while some of what waits stays already. -/
structure Mid (base : Zn) (w : World) (D : Nat) (p : PD) (M : Nat) (ks : List (Int × Buf)) (wv : Value) (ws : List (Int × Buf)) (fz : Int) : Prop where
  cells : w.heap[D]? = some (.cells (dcells p M wv fz) 50 (0, 0))
  mp : MapAt w M (ks.map fun x => (x.1, x.2.val))
  row : w.ownsRow base 63 2 wv ws.length (wcells ws)
  kb : ∀ x ∈ ks, BufAt base w x.2 ∧ x.2.bs.length = p.size
  wb : ∀ x ∈ ws, BufAt base w x.2 ∧ x.2.bs.length = p.size
  nd : (ws.map fun x => x.2.g).Nodup
  keq : ∀ i, p.kept i = keptOf p.size ks i
  weq : p.waits = ws.map fun x => (x.1, x.2.bs)
  hD : base ≤ D
  hM : base ≤ M
  fzeq : ∀ n, p.fuse = some n → fz = n
  fzb : 0 ≤ fz ∧ fz ≤ 9223372036854775807
  sz : 64 ≤ p.size ∧ p.size ≤ 512
  ct : 1 ≤ p.count ∧ p.count ≤ 4096
  fl : 0 ≤ p.falls ∧ p.falls < 18446744073709551616
  nx : Outs base D M ks wv ws
theorem DRep.mid {base : Zn} {w : World} {D : Nat} {p : PD} {M : Nat} {ks ws : List (Int × Buf)} {wv : Value} {fz : Int} (h : DRep base w D p M ks wv ws fz) : Mid base w D p M ks wv ws fz :=
  ⟨h.cells, h.mp, h.row, h.kb, h.wb, h.nd, h.keq, h.weq, h.hD, h.hM, h.fzeq, h.fzb, h.sz, h.ct, h.fl, h.nx⟩

theorem row_heads' {base : Nat} {w : World} {ws : List (Int × Buf)} {A : Option Addr} {cap : Nat} (h : w.ownsRow base 63 2 (.slice A ws.length cap) ws.length (wcells ws)) :
    ∃ b, (0 < ws.length → A = some ⟨b, 0, none⟩) ∧ ∀ j x, ws[j]? = some x → w.cell? ⟨b, j * 2, none⟩ = some (.int .i64 x.1) ∧ w.cell? ⟨b, j * 2 + 1, none⟩ = some (.slice (some ⟨x.2.g, 0, none⟩) x.2.bs.length x.2.cap) := by
  rcases h.2 with ⟨he, hn⟩ | ⟨g, cap', cur, he, _, hh, _, _, _, ht⟩
  · exact ⟨0, fun h0 => by omega, fun j x hx => by have := (List.getElem?_eq_some_iff.1 hx).1; omega⟩
  · injection he with he1 he2
    subst he1
    refine ⟨g, fun _ => rfl, fun j x hx => ?_⟩
    have hc := World.ownsRow.cells h (g := g) rfl
    have hadd : ∀ j, (⟨g, 0, none⟩ : Addr).add j = ⟨g, j, none⟩ := fun j => by unfold Addr.add; split <;> simp_all
    have hw := wcells_at ws j x hx
    have h1 := hc (j * 2) _ hw.1
    have h2 := hc (j * 2 + 1) _ hw.2
    rw [hadd] at h1 h2
    exact ⟨h1, h2⟩

def putAll (ks ls : List (Int × Buf)) : List (Int × Buf) := ls.foldl (fun k x => putK k x.1 x.2) ks
theorem putAll_map (ls : List (Int × Buf)) : ∀ ks : List (Int × Buf), ls.foldl (fun k x => putK k x.1 x.2.val) (ks.map fun x => (x.1, x.2.val)) = (putAll ks ls).map fun x => (x.1, x.2.val) := by
  induction ls with
  | nil => intro ks; rfl
  | cons x r ih =>
    intro ks
    simp only [List.foldl_cons, putAll]
    rw [putK_map Buf.val, ih]; rfl
theorem putAll_mem (ls : List (Int × Buf)) : ∀ (ks : List (Int × Buf)) (x : Int × Buf), x ∈ putAll ks ls → x ∈ ks ∨ x ∈ ls := by
  induction ls with
  | nil => intro ks x h; exact .inl h
  | cons y r ih =>
    intro ks x h
    rcases ih _ x h with h | h
    · rcases mem_putK h with h | h
      · exact .inr (by simp [h])
      · exact .inl h
    · exact .inr (by simp [h])
theorem putAll_kept (size : Nat) (ls : List (Int × Buf)) : ∀ (ks : List (Int × Buf)) (k : Int → List UInt8), (∀ i, k i = keptOf size ks i) → ∀ i, keptPut k (ls.map fun x => (x.1, x.2.bs)) i = keptOf size (putAll ks ls) i := by
  induction ls with
  | nil => intro ks k h i; exact h i
  | cons x r ih =>
    intro ks k h i
    simp only [List.map_cons, keptPut, List.foldl_cons, putAll]
    refine ih (putK ks x.1 x.2) _ (fun j => ?_) i
    unfold keptOf
    rw [getK_putK]
    split
    · simp
    · exact h j

section
variable {base : Zn} {w w' : World} {D : Nat} {p : PD} {M : Nat} {ks ws : List (Int × Buf)} {wv : Value} {fz : Int}

theorem settle_mid {A : Option Addr} {cap : Nat} (h : Mid base w D p M ks (.slice A ws.length cap) ws fz) (j k : Nat) (hjk : j + k ≤ ws.length) (hl : ws.length ≤ 1000000) (b : Nat)
    (hcell : ∀ j x, ws[j]? = some x → w.cell? ⟨b, j * 2, none⟩ = some (.int .i64 x.1) ∧ w.cell? ⟨b, j * 2 + 1, none⟩ = some (.slice (some ⟨x.2.g, 0, none⟩) x.2.bs.length x.2.cap))
    (A' : Option Addr) (c : Nat) (hA' : 0 < k → A' = some ⟨b, j * 2, none⟩) :
    Calls Try.prog 27 #[.pointer (some ⟨D, 0, none⟩), .slice A' k c] w (fun e w' => e = .returned (.tuple #[]) ∧
      Mid base w' D (p.settled ((p.waits.drop j).take k)) M (putAll ks ((ws.drop j).take k)) (.slice A ws.length cap) ws fz ∧ Touch base w w' ∧ ∀ i, i < w.heap.size → i ≠ M → w'.heap[i]? = w.heap[i]?) := by
  have hlen : ((ws.drop j).take k).length = k := by simp; omega
  refine (settle_calls D M b (j * 2) k c A' ((ws.drop j).take k) (ks.map fun x => (x.1, x.2.val)) w hlen hA' (by omega) (fun i x hx => ?_) ?_ h.mp).mono ?_
  · have hx' : ws[j + i]? = some x := by
      rw [List.getElem?_take] at hx
      split at hx
      · simpa using hx
      · simp at hx
    have := hcell (j + i) x hx'
    rw [show j * 2 + i * 2 = (j + i) * 2 by omega]
    exact this
  · rw [cell_of_row w D 2 _ _ _ h.cells]; rfl
  · rintro e w' ⟨rfl, hm, h1, h2, h3, h4, h5⟩
    rw [putAll_map] at hm
    obtain ⟨es, cl, hmm, _⟩ := id h.mp
    have ne : ∀ {k : Nat} {t : Nat} {c : Array Value}, w.heap[k]? = some (.cells c t (0, 0)) → w'.heap[k]? = w.heap[k]? := by
      intro k t c hk
      refine h5 k (Array.getElem?_eq_some_iff.1 hk).1 ?_
      rintro rfl
      rw [hmm] at hk; simp at hk
    have hwb : ∀ x ∈ ws, BufAt base w' x.2 ∧ x.2.bs.length = p.size := fun x hx => by
      obtain ⟨c, hc⟩ := (h.wb x hx).1.typed
      exact ⟨(h.wb x hx).1.move (ne hc), (h.wb x hx).2⟩
    refine ⟨rfl, ⟨(ne h.cells).trans h.cells, hm, own_move h.row (fun k hk => (own_typed h.row k hk).elim fun c hc => ne hc), ?_, hwb, h.nd, ?_, h.weq, h.hD, h.hM, h.fzeq, h.fzb, h.sz, h.ct, h.fl, h.nx.1, h.nx.2.1, h.nx.2.2.1, ?_, h.nx.2.2.2.2⟩, ?_, h5⟩
    · intro x hx
      rcases putAll_mem _ _ _ hx with hx | hx
      · obtain ⟨c, hc⟩ := (h.kb x hx).1.typed
        exact ⟨(h.kb x hx).1.move (ne hc), (h.kb x hx).2⟩
      · exact hwb x (List.mem_of_mem_drop (List.mem_of_mem_take hx))
    · intro i
      have := putAll_kept p.size ((ws.drop j).take k) ks p.kept h.keq i
      simpa only [PD.settled, h.weq, ← List.map_drop, ← List.map_take] using this
    · intro x hx
      rcases putAll_mem _ _ _ hx with hx | hx
      · exact h.nx.2.2.2.1 x hx
      · exact h.nx.2.2.2.2 x (List.mem_of_mem_drop (List.mem_of_mem_take hx))
    · refine ⟨h1, h2, h3, h4, fun k hk hc => h5 k hk ?_⟩
      rintro rfl
      rcases hc with hc | ⟨cs, t, fr, hc, _⟩
      · exact hc h.nx.2.1
      · rw [hmm] at hc; simp at hc

/-- All that waited is gone. -/
theorem Mid.empty {fz' : Int} {p' : PD} (h : Mid base w D p M ks wv ws fz) (hc : w'.heap[D]? = some (.cells (dcells p' M (.slice none 0 0) fz') 50 (0, 0))) (hs : ∀ k, k ≠ D → w'.heap[k]? = w.heap[k]?)
    (e1 : p'.size = p.size) (e2 : p'.count = p.count) (e3 : p'.kept = p.kept) (e4 : p'.waits = []) (hf : ∀ n, p'.fuse = some n → fz' = n) (hfb : 0 ≤ fz' ∧ fz' ≤ 9223372036854775807) (hfl : 0 ≤ p'.falls ∧ p'.falls < 18446744073709551616) :
    DRep base w' D p' M ks (.slice none 0 0) [] fz' := by
  have ne : ∀ {k : Nat} {t : Nat} {c : Array Value}, w.heap[k]? = some (.cells c t (0, 0)) → t ≠ 50 → k ≠ D := by
    rintro k t c hk ht rfl
    rw [h.cells] at hk
    injection hk with hk; injection hk with _ hk; exact ht hk.symm
  have hMD : M ≠ D := by
    rintro rfl
    obtain ⟨es, cl, hm, _⟩ := h.mp
    rw [h.cells] at hm; simp at hm
  exact { cells := hc, mp := h.mp.move (hs M hMD), row := ⟨by simp [wcells], .inl ⟨rfl, rfl⟩⟩,
          kb := fun x hx => by
            obtain ⟨c, hcx⟩ := (h.kb x hx).1.typed
            exact ⟨(h.kb x hx).1.move (hs _ (ne hcx (by decide))), by rw [e1]; exact (h.kb x hx).2⟩
          wb := by simp, nd := by simp, dj := by simp, keq := by rw [e1, e3]; exact h.keq, weq := by simp [e4], hD := h.hD, hM := h.hM, fzeq := hf, fzb := hfb,
          sz := by rw [e1]; exact h.sz, ct := by rw [e2]; exact h.ct, fl := hfl, nx := ⟨h.nx.1, h.nx.2.1, fun k hk => by simp [Value.ownBlock] at hk, h.nx.2.2.2.1, by simp⟩ }

theorem burns_waits (p : PD) : p.burns.2.waits = p.waits := by unfold PD.burns; split <;> simp [PD.fall]
theorem burns_kept (p : PD) : p.burns.2.kept = p.kept := by unfold PD.burns; split <;> simp [PD.fall]
set_option maxRecDepth 100000 in
set_option maxHeartbeats 1000000 in
theorem sync_calls (h : DRep base w D p M ks wv ws fz) (hl : ws.length ≤ 1000000) :
    Calls Try.prog 21 #[.pointer (some ⟨D, 0, none⟩)] w (fun e w' => e = .returned (.int .i64 p.sync.1) ∧ DiskRep base w' D p.sync.2 ∧ Touch base w w') := by
  cases ho : p.off with
  | true =>
    have fin : p.sync = (8, p) := by simp [PD.sync, ho]
    have hm : (if p.off then (8 : Int) else 0) = 8 := by rw [ho]; rfl
    have H := Lib.hid h; have Pn := Lib.hid fin; have Hm := Lib.hid hm; clear h fin ho hm
    go_enter Try.func21, Try.ntmps21
    go_wp2_with ((go_at_call 31; refine (may_calls H.out 8 Hm.out).mono ?_; rintro e w' ⟨rfl, rfl⟩))
    go_ret
    exact ⟨by rw [Pn.out]; rfl, ⟨M, ks, _, _, fz, by rw [Pn.out]; exact H.out⟩, Touch.refl _ _⟩
  | false =>
    have hm : (if p.off then (8 : Int) else 0) = 0 := by rw [ho]; rfl
    cases hbn : p.burns.1 with
    | true =>
      have fin : p.sync = (8, p.burns.2) := by simp [PD.sync, ho, hbn]
      have H := Lib.hid h; have Pn := Lib.hid fin; have Hm := Lib.hid hm; have Hbn := Lib.hid hbn; clear h fin ho hm hbn
      go_enter Try.func21, Try.ntmps21
      go_wp2_with (first | (go_at_call 31; refine (may_calls H.out 0 Hm.out).mono ?_; rintro e w' ⟨rfl, rfl⟩) | (go_at_call 35; refine (burns_calls H.out).mono ?_; rw [Hbn.out]; rintro e w3 ⟨rfl, ⟨fz3, hr3⟩, ht3⟩))
      go_ret
      exact ⟨by rw [Pn.out]; rfl, ⟨M, ks, _, _, fz3, by rw [Pn.out]; exact hr3⟩, ht3⟩
    | false =>
      have fin : p.sync = (0, { p.burns.2.settled p.burns.2.waits with waits := [] }) := by simp [PD.sync, ho, hbn]
      obtain ⟨A, cap, hwv⟩ := own_slice h.row
      subst hwv
      have H := Lib.hid h; have Pn := Lib.hid fin; have Hm := Lib.hid hm; have Hbn := Lib.hid hbn; clear h fin ho hm hbn
      go_enter Try.func21, Try.ntmps21
      go_wp2_with (first | (go_at_call 31; refine (may_calls H.out 0 Hm.out).mono ?_; rintro e w' ⟨rfl, rfl⟩) | (go_at_call 35; refine (burns_calls H.out).mono ?_; rw [Hbn.out]; rintro e w3 ⟨rfl, ⟨fz3, hr3⟩, ht3⟩; have hc3 := hr3.cell; simp only [dcells] at hc3; replace hr3 := Lib.hid hr3; replace ht3 := Lib.hid ht3; (have hx := row_heads' hr3.out.row); obtain ⟨b, hA, hcell⟩ := hx; replace hA := Lib.hid hA; replace hcell := Lib.hid hcell) |
        (go_at_call 27; refine (settle_mid hr3.out.mid 0 ws.length (by omega) hl b hcell.out A cap (by simpa using hA.out)).mono ?_; rintro e w4 ⟨rfl, hmid, ht4, hb4⟩; have hc4 := cell_of_row w4 D; have hc4' := fun j => hc4 j _ _ _ hmid.cells; have hf4 := fun j => frozen_of_row w4 D j _ _ hmid.cells; clear hc4; simp only [dcells] at hc4'; replace hmid := Lib.hid hmid; replace ht4 := Lib.hid ht4; replace hb4 := Lib.hid hb4))
      go_ret
      have hd := hmid.out
      have hwe : p.burns.2.waits.length = ws.length := by rw [hr3.out.weq]; simp
      have hst : p.burns.2.settled ((p.burns.2.waits.drop 0).take ws.length) = p.burns.2.settled p.burns.2.waits := by
        rw [List.drop_zero, ← hwe, List.take_length]
      rw [hst] at hd
      have hz : DRep base (w4.setCell ⟨D, 3, none⟩ (.slice none 0 0)) D p.sync.2 M (putAll ks ((ws.drop 0).take ws.length)) (.slice none 0 0) [] fz3 := by
        rw [Pn.out]
        refine hd.empty ?_ (fun k hk => Below.heap_setCell _ _ _ _ hk) rfl rfl rfl rfl hd.fzeq hd.fzb hd.fl
        rw [heap_setCell_same _ _ _ _ _ _ hd.cells]; simp [dcells, PD.settled]
      exact ⟨by rw [Pn.out]; rfl, ⟨M, _, _, _, fz3, hz⟩, (ht3.out.trans ht4.out).trans (Touch.setCell hd.cells rfl hd.nx.1 _)⟩
end
end Go.Proofs.Ytdmpocojbheoiaa
