/- A disk: what it is as a value (PD), and how it stands in memory. -/
import Derived.Test.YtdmpocojbheoiaaS1
import Derived.Test.YtdmpocojbheoiaaB1
namespace Go.Proofs.Ytdmpocojbheoiaa
open Go.RowKit

/-- A buffer of bytes in a block of its own. -/
structure Buf where
  g : Nat
  cap : Nat
  bs : List UInt8
def Buf.val (b : Buf) : Value := .slice (some ⟨b.g, 0, none⟩) b.bs.length b.cap
def BufAt (base : Nat) (w : World) (b : Buf) : Prop := OwnB w base 5 b.val b.bs

def SomeBuf (w : World) (bs : List UInt8) (e : Ending) (w' : World) : Prop := ∃ g cap, e = .returned (.slice (some ⟨g, 0, none⟩) bs.length cap) ∧ BufAt w.heap.size w' ⟨g, cap, bs⟩ ∧ Below w.heap.size w w'
theorem buf_of_own {base : Nat} {w : World} {v : Value} {bs : List UInt8} (h : OwnB w base 5 v bs) (h0 : 0 < bs.length) : ∃ g cap, v = .slice (some ⟨g, 0, none⟩) bs.length cap ∧ BufAt base w ⟨g, cap, bs⟩ := by
  have h' := h
  rcases h.2 with ⟨_, hn⟩ | ⟨g, cap, cur, rfl, _⟩
  · omega
  · exact ⟨g, cap, rfl, h'⟩
theorem clone_buf (v : Value) (bs : List UInt8) (w : World) (h : Bytes w v bs) (hl : bs.length ≤ mostB) (h0 : 0 < bs.length) : Calls Try.prog 34 #[v] w (SomeBuf w bs) :=
  (clone_bytes v bs w h hl).mono fun e w' ⟨v', he, hown, hb⟩ => by
    obtain ⟨g, cap, rfl, h1⟩ := buf_of_own hown h0
    exact ⟨g, cap, he, h1, hb⟩

/-- A floor, and the blocks that are a disk's, or new. -/
structure Zn where
  b : Nat
  o : Nat → Prop
instance : CoeOut Zn Nat := ⟨Zn.b⟩

/-- A disk as a value. -/
structure PD where
  size : Nat
  count : Nat
  kept : Int → List UInt8
  waits : List (Int × List UInt8)
  off : Bool
  falls : Int
  fuse : Option Nat

def wcells (ws : List (Int × Buf)) : List Value := ws.flatMap fun x => [.int .i64 x.1, x.2.val]
def keptOf (size : Nat) (ks : List (Int × Buf)) (i : Int) : List UInt8 := ((getK ks i).map (·.bs)).getD (List.replicate size 0)
def DTy : Nat := 50
def WTy : Nat := 63
def dcells (p : PD) (M : Nat) (wv : Value) (fz : Int) : Array Value :=
  #[.int .i64 p.size, .int .i64 p.count, .map (some M), wv, .bool p.off, .int .u64 p.falls, .bool p.fuse.isSome, .int .i64 fz]

def Outs (z : Zn) (D M : Nat) (ks : List (Int × Buf)) (wv : Value) (ws : List (Int × Buf)) : Prop := z.o D ∧ z.o M ∧ (∀ k, wv.ownBlock = some k → z.o k) ∧ (∀ x ∈ ks, z.o x.2.g) ∧ ∀ x ∈ ws, z.o x.2.g
structure DRep (base : Zn) (w : World) (D : Nat) (p : PD) (M : Nat) (ks : List (Int × Buf)) (wv : Value) (ws : List (Int × Buf)) (fz : Int) : Prop where
  cells : w.heap[D]? = some (.cells (dcells p M wv fz) 50 (0, 0))
  mp : MapAt w M (ks.map fun x => (x.1, x.2.val))
  row : w.ownsRow base 63 2 wv ws.length (wcells ws)
  kb : ∀ x ∈ ks, BufAt base w x.2 ∧ x.2.bs.length = p.size
  wb : ∀ x ∈ ws, BufAt base w x.2 ∧ x.2.bs.length = p.size
  nd : (ws.map fun x => x.2.g).Nodup
  dj : ∀ x ∈ ks, ∀ y ∈ ws, x.2.g ≠ y.2.g
  keq : ∀ i, p.kept i = keptOf p.size ks i
  weq : p.waits = ws.map fun x => (x.1, x.2.bs)
  hD : base ≤ D
  hM : base ≤ M
  fzeq : ∀ n, p.fuse = some n → fz = n
  fzb : 0 ≤ fz ∧ fz ≤ 9223372036854775807
  sz : 64 ≤ p.size ∧ p.size ≤ 512
  ct : 1 ≤ p.count ∧ p.count ≤ 4096
  fl : 0 ≤ p.falls ∧ p.falls < 18446744073709551616
  nx : Outs base D M ks wv ws

/-- The disk at block D. -/
def DiskRep (base : Zn) (w : World) (D : Nat) (p : PD) : Prop := ∃ M ks wv ws fz, DRep base w D p M ks wv ws fz

/-- The types of a disk's blocks. -/
def diskTy (t : Nat) : Bool := t == 50 || t == 63 || t == 5

/-- Of what was there nothing has turned but a disk's blocks from base on. -/
structure Touch (base : Zn) (w w' : World) : Prop where
  os : w'.os = w.os
  tape : w'.tape = w.tape
  output : w'.output = w.output
  size : w.heap.size ≤ w'.heap.size
  keep : ∀ k, k < w.heap.size → (¬ base.o k ∨ ∃ c t fr, w.heap[k]? = some (.cells c t fr) ∧ diskTy t = false) → w'.heap[k]? = w.heap[k]?

theorem Touch.refl (base : Zn) (w : World) : Touch base w w := ⟨rfl, rfl, rfl, Nat.le_refl _, fun _ _ _ => rfl⟩
theorem Touch.trans {base : Zn} {a b c : World} (h : Touch base a b) (k : Touch base b c) : Touch base a c :=
  ⟨k.os.trans h.os, k.tape.trans h.tape, k.output.trans h.output, Nat.le_trans h.size k.size, fun i hi hc => by
    have e := h.keep i hi hc
    refine (k.keep i (Nat.lt_of_lt_of_le hi h.size) ?_).trans e
    rcases hc with hc | ⟨cs, t, fr, h1, h2⟩
    · exact .inl hc
    · exact .inr ⟨cs, t, fr, by rw [e]; exact h1, h2⟩⟩
theorem Touch.of_below {base : Zn} {w w' : World} (h : Below w.heap.size w w') : Touch base w w' := ⟨h.os, h.tape, h.output, h.size, fun k hk _ => h.block k hk⟩
theorem Touch.setCell {base : Zn} {w : World} {g j t : Nat} {c : Array Value} {fr : Nat × Nat} (h : w.heap[g]? = some (.cells c t fr)) (ht : diskTy t = true) (hb : base.o g) (v : Value) : Touch base w (w.setCell ⟨g, j, none⟩ v) :=
  ⟨rfl, rfl, rfl, by simp [World.setCell], fun k hk hc => by
    refine Below.heap_setCell _ _ _ _ ?_
    rintro rfl
    rcases hc with hc | ⟨cs, t', fr', h1, h2⟩
    · exact hc hb
    · rw [h] at h1
      injection h1 with h1
      injection h1 with _ h1
      rw [h1, h2] at ht; cases ht⟩
theorem Touch.grown {base : Zn} {w w' : World} {row : Option Nat} (hg : w.grownBy w' row) (hr : ∀ k, row = some k → base.o k ∧ ∃ c t fr, w.heap[k]? = some (.cells c t fr) ∧ diskTy t = true) : Touch base w w' :=
  ⟨hg.os, hg.tape, hg.output, hg.size, fun k hk hc => hg.block k hk (fun e => by
    obtain ⟨h1, c, t, fr, h2, h3⟩ := hr k e.symm
    rcases hc with hc | ⟨cs, t', fr', h4, h5⟩
    · exact hc h1
    · rw [h2] at h4
      injection h4 with h4
      injection h4 with _ h4
      rw [h4, h5] at h3; cases h3)⟩
theorem Touch.ofMap {base : Zn} {w w' : World} {M : Nat} {es : Array MapEntry} {cl : Nat} (hm : w.heap[M]? = some (.map es cl)) (hb : base.o M) (h1 : w'.os = w.os) (h2 : w'.tape = w.tape) (h3 : w'.output = w.output) (h4 : w'.heap.size = w.heap.size)
    (h5 : ∀ k, k ≠ M → w'.heap[k]? = w.heap[k]?) : Touch base w w' :=
  ⟨h1, h2, h3, by omega, fun k hk hc => h5 k (by
    rintro rfl
    rcases hc with hc | ⟨cs, t', fr', h6, h7⟩
    · exact hc hb
    · rw [hm] at h6; cases h6)⟩
theorem own_typed {w : World} {base e sz n : Nat} {v : Value} {xs : List Value} (h : w.ownsRow base e sz v n xs) (k : Nat) (hk : v.ownBlock = some k) : ∃ c, w.heap[k]? = some (.cells c e (0, 0)) := by
  rcases h.2 with ⟨rfl, _⟩ | ⟨g, cap, cur, rfl, _, hh, _⟩
  · simp [Value.ownBlock] at hk
  · have : g = k := by simpa [Value.ownBlock] using hk
    subst this
    exact ⟨cur, hh⟩
theorem own_move {w w' : World} {base e sz n : Nat} {v : Value} {xs : List Value} (h : w.ownsRow base e sz v n xs) (hm : ∀ k, v.ownBlock = some k → w'.heap[k]? = w.heap[k]?) : w'.ownsRow base e sz v n xs := by
  obtain ⟨h1, h2⟩ := h
  refine ⟨h1, ?_⟩
  rcases h2 with h2 | ⟨g, cap, cur, rfl, hg, hh, r⟩
  · exact .inl h2
  · exact .inr ⟨g, cap, cur, rfl, hg, (hm g (by simp [Value.ownBlock])).trans hh, r⟩
theorem BufAt.move {base : Nat} {w w' : World} {b : Buf} (h : BufAt base w b) (hm : w'.heap[b.g]? = w.heap[b.g]?) : BufAt base w' b :=
  own_move h (fun k hk => by have : b.g = k := by simpa [Buf.val, Value.ownBlock] using hk
                             subst this; exact hm)
theorem BufAt.typed {base : Nat} {w : World} {b : Buf} (h : BufAt base w b) : ∃ c, w.heap[b.g]? = some (.cells c 5 (0, 0)) := own_typed h b.g (by simp [Buf.val, Value.ownBlock])
theorem BufAt.base {base : Nat} {w : World} {b : Buf} (h : BufAt base w b) : base ≤ b.g := own_bound h b.g (by simp [Buf.val, Value.ownBlock])
theorem BufAt.lt {base : Nat} {w : World} {b : Buf} (h : BufAt base w b) : b.g < w.heap.size := by
  obtain ⟨c, h⟩ := h.typed
  exact (Array.getElem?_eq_some_iff.1 h).1
theorem BufAt.bytes {base : Nat} {w : World} {b : Buf} (h : BufAt base w b) : Bytes w b.val b.bs := OwnB.bytes h

theorem BufAt.at_ {base : Nat} {w : World} {b : Buf} (h : BufAt base w b) (j : Nat) (hj : j < b.bs.length) : w.cell? ⟨b.g, j, none⟩ = some (B8 (b.bs.getD j 0)) := by
  have hc := World.ownsRow.cells h (g := b.g) rfl j (B8 (b.bs.getD j 0)) (by simp [List.getD_eq_getElem?_getD, hj])
  have hadd : (⟨b.g, 0, none⟩ : Addr).add j = ⟨b.g, j, none⟩ := by unfold Addr.add; split <;> simp_all
  rwa [hadd] at hc
theorem BufAt.free {base : Nat} {w : World} {b : Buf} (h : BufAt base w b) (j : Nat) : w.frozen? ⟨b.g, j, none⟩ = false := by
  obtain ⟨c, hc⟩ := h.typed
  exact frozen_of_row w b.g j _ _ hc
theorem BufAt.store {base : Nat} {w : World} {b : Buf} (h : BufAt base w b) (j : Nat) (x : UInt8) : BufAt base (w.setCell ⟨b.g, j, none⟩ (B8 x)) ⟨b.g, b.cap, b.bs.set j x⟩ := by
  have hs := (World.ownsRow.stored (g := b.g) h j (B8 x)).1
  simpa [BufAt, OwnB, Buf.val, List.map_set] using hs

section
variable {base : Zn} {w w' : World} {D : Nat} {p p' : PD} {M : Nat} {ks ws : List (Int × Buf)} {wv : Value} {fz fz' : Int}
/-- All its blocks stay. -/
theorem DRep.below (h : DRep base w D p M ks wv ws fz) (hb : Below w.heap.size w w') : DRep base w' D p M ks wv ws fz := by
  have lt : ∀ {k : Nat} {o : Obj}, w.heap[k]? = some o → w'.heap[k]? = w.heap[k]? := fun h => hb.block _ (Array.getElem?_eq_some_iff.1 h).1
  refine { h with
    cells := (lt h.cells).trans h.cells, mp := h.mp.move (hb.block _ h.mp.lt),
    row := own_move h.row (fun k hk => (own_typed h.row k hk).elim fun c hc => lt hc),
    kb := fun x hx => ⟨(h.kb x hx).1.move (hb.block _ (h.kb x hx).1.lt), (h.kb x hx).2⟩, wb := fun x hx => ⟨(h.wb x hx).1.move (hb.block _ (h.wb x hx).1.lt), (h.wb x hx).2⟩ }
/-- Its own cells alone have turned. -/
theorem DRep.upd (h : DRep base w D p M ks wv ws fz) (hc : w'.heap[D]? = some (.cells (dcells p' M wv fz') 50 (0, 0))) (hs : ∀ k, k ≠ D → w'.heap[k]? = w.heap[k]?)
    (e1 : p'.size = p.size) (e2 : p'.count = p.count) (e3 : p'.kept = p.kept) (e4 : p'.waits = p.waits) (hf : ∀ n, p'.fuse = some n → fz' = n) (hfb : 0 ≤ fz' ∧ fz' ≤ 9223372036854775807) (hfl : 0 ≤ p'.falls ∧ p'.falls < 18446744073709551616) :
    DRep base w' D p' M ks wv ws fz' := by
  have ne : ∀ {k : Nat} {t : Nat} {c : Array Value}, w.heap[k]? = some (.cells c t (0, 0)) → t ≠ 50 → k ≠ D := by
    rintro k t c hk ht rfl
    rw [h.cells] at hk
    injection hk with hk
    injection hk with _ hk
    exact ht hk.symm
  have nm : M ≠ D := by
    rintro rfl
    obtain ⟨es, cl, hm, _⟩ := h.mp
    rw [h.cells] at hm; cases hm
  exact ⟨hc, h.mp.move (hs _ nm), own_move h.row (fun k hk => (own_typed h.row k hk).elim fun c hc => hs k (ne hc (by decide))),
    fun x hx => ⟨(h.kb x hx).1.move ((h.kb x hx).1.typed.elim fun c hc => hs _ (ne hc (by decide))), by rw [e1]; exact (h.kb x hx).2⟩,
    fun x hx => ⟨(h.wb x hx).1.move ((h.wb x hx).1.typed.elim fun c hc => hs _ (ne hc (by decide))), by rw [e1]; exact (h.wb x hx).2⟩,
    h.nd, h.dj, (by rw [e3, e1]; exact h.keq), (by rw [e4]; exact h.weq), h.hD, h.hM, hf, hfb, (by rw [e1]; exact h.sz), (by rw [e2]; exact h.ct), hfl, h.nx⟩
theorem DRep.cell (h : DRep base w D p M ks wv ws fz) : ∀ j, w.cell? ⟨D, j, none⟩ = (dcells p M wv fz)[j]? := fun j => cell_of_row w D j _ _ _ h.cells
theorem DRep.free (h : DRep base w D p M ks wv ws fz) : ∀ j, w.frozen? ⟨D, j, none⟩ = false := fun j => frozen_of_row w D j _ _ h.cells
theorem DRep.lt (h : DRep base w D p M ks wv ws fz) : D < w.heap.size := (Array.getElem?_eq_some_iff.1 h.cells).1
end
theorem DiskRep.below {base : Zn} {w w' : World} {D : Nat} {p : PD} (h : DiskRep base w D p) (hb : Below w.heap.size w w') : DiskRep base w' D p := by
  obtain ⟨M, ks, wv, ws, fz, h⟩ := h
  exact ⟨M, ks, wv, ws, fz, h.below hb⟩
end Go.Proofs.Ytdmpocojbheoiaa
