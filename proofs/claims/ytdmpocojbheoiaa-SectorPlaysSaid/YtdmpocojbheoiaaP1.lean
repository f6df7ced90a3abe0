/- The plain laws of a disk: the document's, and the program's. No program in sight but for names. -/
import Derived.Test.YtdmpocojbheoiaaS9
namespace Go.Proofs.Ytdmpocojbheoiaa
open Go.RowKit
set_option linter.unusedVariables false
set_option linter.unusedSimpArgs false

def setAll (kl : List (List UInt8)) (ls : List (Int × List UInt8)) : List (List UInt8) := ls.foldl (fun k x => k.set x.1.toNat x.2) kl
theorem setAll_length (ls : List (Int × List UInt8)) : ∀ kl : List (List UInt8), (setAll kl ls).length = kl.length := by
  induction ls with
  | nil => intro kl; rfl
  | cons x r ih => intro kl; simp only [setAll, List.foldl_cons]; exact (ih _).trans (by simp)

/-- The document's kept row, and the kept bytes by their places. -/
structure KRel (p : PD) (kl : List (List UInt8)) : Prop where
  len : kl.length = p.count
  at_ : ∀ i : Nat, i < p.count → kl[i]? = some (p.kept i)
/-- What the disk's places and bytes are. -/
structure PGood (p : PD) : Prop where
  sz : 64 ≤ p.size ∧ p.size ≤ 512
  ct : 1 ≤ p.count ∧ p.count ≤ 4096
  klen : ∀ i : Int, (p.kept i).length = p.size
  wlen : ∀ x ∈ p.waits, x.2.length = p.size
  wrng : ∀ x ∈ p.waits, 0 ≤ x.1 ∧ x.1 < p.count
  fuse : ∀ n, p.fuse = some n → (n : Int) ≤ 9223372036854775807
def zOf (p : PD) : Int := match p.fuse with | none => -1 | some n => n
theorem KRel.all {p : PD} {kl : List (List UInt8)} (h : KRel p kl) (g : PGood p) : ∀ y ∈ kl, y.length = p.size := by
  intro y hy
  obtain ⟨i, hi⟩ := List.mem_iff_getElem?.1 hy
  have hlt := (List.getElem?_eq_some_iff.1 hi).1
  rw [h.len] at hlt
  rw [h.at_ i hlt] at hi
  injection hi with hi
  rw [← hi]; exact g.klen i
theorem keptPut_set (ls : List (Int × List UInt8)) : ∀ {p : PD} {kl : List (List UInt8)}, KRel p kl → (∀ x ∈ ls, 0 ≤ x.1 ∧ x.1 < p.count) → KRel (p.settled ls) (setAll kl ls) := by
  induction ls with
  | nil => intro p kl h _; exact h
  | cons x r ih =>
    intro p kl h hr
    obtain ⟨h1, h2⟩ := hr x (by simp)
    have h0 : KRel { p with kept := fun j => if x.1 = j then x.2 else p.kept j } (kl.set x.1.toNat x.2) := by
      refine ⟨by simp [h.len], fun i hi => ?_⟩
      rw [List.getElem?_set]
      by_cases hx : x.1.toNat = i
      · have hxi : x.1 = (i : Int) := by omega
        rw [if_pos hx]
        have : x.1.toNat < kl.length := by rw [h.len]; simp only at hi; omega
        rw [if_pos this]; simp [hxi]
      · have hxi : x.1 ≠ (i : Int) := by omega
        rw [if_neg hx]; simp only [if_neg hxi]; exact h.at_ i hi
    exact ih h0 (fun y hy => hr y (by simp [hy]))
theorem foldl_rev (i : Int) (d : List UInt8) : ∀ rs : List (Int × List UInt8), rs.reverse.foldl (fun s x => if x.1 = i then x.2 else s) d = ((rs.find? fun x => x.1 == i).map (·.2)).getD d
  | [] => rfl
  | x :: r => by
    rw [List.reverse_cons, List.foldl_append]
    simp only [List.foldl_cons, List.foldl_nil]
    rw [foldl_rev i d r, List.find?_cons]
    by_cases hx : x.1 = i
    · simp [hx]
    · have hb : (x.1 == i) = false := by simpa using hx
      rw [if_neg hx, hb]
theorem foldl_last (i : Int) (ws : List (Int × List UInt8)) (d : List UInt8) : ws.foldl (fun s x => if x.1 = i then x.2 else s) d = (lastW ws i).getD d := by
  have := foldl_rev i d ws.reverse
  rw [List.reverse_reverse] at this
  exact this
theorem burns_same (p : PD) : p.burns.2.size = p.size ∧ p.burns.2.count = p.count ∧ p.burns.2.kept = p.kept ∧ p.burns.2.waits = p.waits := by
  unfold PD.burns; split <;> simp [PD.fall]

theorem good_burns {p : PD} (g : PGood p) : PGood p.burns.2 := by
  obtain ⟨g1, g2, g3, g4⟩ := burns_same p
  refine ⟨by rw [g1]; exact g.sz, by rw [g2]; exact g.ct, by rw [g1, g3]; exact g.klen, by rw [g1, g4]; exact g.wlen, by rw [g2, g4]; exact g.wrng, ?_⟩
  intro n hn
  unfold PD.burns at hn
  rcases hf : p.fuse with _ | _ | m
  · simp [hf] at hn
  · simp [hf, PD.fall] at hn; omega
  · simp only [hf] at hn; injection hn with hn; have := g.fuse _ hf; omega
theorem good_fall {p : PD} (g : PGood p) : PGood p.fall := ⟨g.sz, g.ct, g.klen, g.wlen, g.wrng, g.fuse⟩
theorem good_settled (ls : List (Int × List UInt8)) : ∀ {p : PD}, PGood p → (∀ x ∈ ls, x.2.length = p.size) → PGood (p.settled ls) := by
  induction ls with
  | nil => intro p g _; exact g
  | cons x r ih =>
    intro p g h
    have g0 : PGood { p with kept := fun j => if x.1 = j then x.2 else p.kept j } := ⟨g.sz, g.ct, fun i => by (simp only; split; (exact h x (by simp)); (exact g.klen i)), g.wlen, g.wrng, g.fuse⟩
    exact ih g0 (fun y hy => h y (by simp [hy]))
theorem good_none {p : PD} (g : PGood p) : PGood { p with waits := [] } := ⟨g.sz, g.ct, g.klen, by simp, by simp, g.fuse⟩
theorem good_rise {p : PD} (g : PGood p) : PGood p.rise := ⟨g.sz, g.ct, g.klen, by simp [PD.rise], by simp [PD.rise], by simp [PD.rise]⟩
theorem good_write {p : PD} (g : PGood p) (i : Int) (b : List UInt8) : PGood (p.write i b).2 := by
  unfold PD.write
  split
  · exact g
  split
  · exact g
  split
  · exact g
  · rename_i h1 h2 h3
    have h3 : b.length = p.size := by simpa using h3
    refine good_burns ⟨g.sz, g.ct, g.klen, ?_, ?_, g.fuse⟩
    · intro x hx
      rcases List.mem_append.1 hx with hx | hx
      · exact g.wlen x hx
      · simp only [List.mem_singleton] at hx; subst hx; exact h3
    · intro x hx
      rcases List.mem_append.1 hx with hx | hx
      · exact g.wrng x hx
      · simp only [List.mem_singleton] at hx; subst hx; simp only; omega
theorem good_sync {p : PD} (g : PGood p) : PGood p.sync.2 := by
  unfold PD.sync
  split
  · exact g
  split
  · exact good_burns g
  · exact good_none (good_settled _ (good_burns g) (good_burns g).wlen)
theorem good_setFuse {p : PD} (g : PGood p) (n : Int) (hn : n ≤ 9223372036854775807) : PGood (p.setFuse n) := ⟨g.sz, g.ct, g.klen, g.wlen, g.wrng, fun m hm => by simp [PD.setFuse] at hm; omega⟩
theorem good_back {p : PD} (g : PGood p) (keep : Int) (torn : Bool) : PGood (p.back keep torn) := by
  refine good_rise (p := p.fall.back0 (kept2 keep p.waits.length) torn) ?_
  have gf := good_fall g
  unfold PD.back0
  split
  · have g1 := good_settled (p.fall.waits.take (kept2 keep p.waits.length - 1)) gf (fun x hx => gf.wlen x (List.mem_of_mem_take hx))
    refine good_settled _ g1 (fun y hy => ?_)
    obtain ⟨x, hx, rfl⟩ := List.mem_map.1 hy
    have hl := gf.wlen x (List.mem_of_mem_drop (List.mem_of_mem_take hx))
    have hk := g1.klen x.1
    have hs : (p.fall.settled (p.fall.waits.take (kept2 keep p.waits.length - 1))).size = p.fall.size := rfl
    rw [hs] at hk
    simp only [PD.tear, List.length_append, List.length_take, List.length_drop, hk, hl, hs]
    have := gf.sz
    omega
  · exact good_settled _ gf (fun x hx => gf.wlen x (List.mem_of_mem_take hx))
theorem good_spoil {p : PD} (g : PGood p) (i at_ : Int) (by_ : UInt8) : PGood (p.spoil i at_ by_).2 := by
  unfold PD.spoil
  split
  · exact g
  · exact ⟨g.sz, g.ct, fun j => by (simp only; split; (simp [xorAt, g.klen]); (exact g.klen j)), g.wlen, g.wrng, g.fuse⟩
theorem good_new (size count : Nat) (h1 : 64 ≤ size) (h2 : size ≤ 512) (h3 : 1 ≤ count) (h4 : count ≤ 4096) : PGood (PD.new size count) := ⟨⟨h1, h2⟩, ⟨h3, h4⟩, fun i => by simp [PD.new], by simp [PD.new], by simp [PD.new], by simp [PD.new]⟩
theorem waits_write (p : PD) (i : Int) (b : List UInt8) : (p.write i b).2.waits.length ≤ p.waits.length + 1 := by
  unfold PD.write
  split
  · simp
  split
  · simp
  split
  · simp
  · simp only [burns_waits]; simp
theorem waits_sync (p : PD) : p.sync.2.waits.length ≤ p.waits.length := by
  unfold PD.sync
  split
  · simp
  split
  · simp [burns_waits]
  · simp

/-- The document's disk. -/
structure RD where
  s : Nat
  c : Nat
  K : List (List UInt8)
  W : List (Int × List UInt8)
  off : Bool
  f : Int
  z : Int
def RD.new (s c : Nat) : RD := ⟨s, c, List.replicate c (List.replicate s 0), [], false, 0, -1⟩
def RD.read (d : RD) (i : Int) : List UInt8 × Int := if d.off then ([], 8) else if i < 0 ∨ d.c ≤ i then ([], 6) else (d.W.foldl (fun s x => if x.1 = i then x.2 else s) (d.K.getD i.toNat []), 0)
def RD.falls (d : RD) : RD := { d with f := if d.off then d.f else IntKind.u64.wrap (d.f + 1), off := true }
def RD.burns (d : RD) : Bool × RD := if d.z < 0 then (false, d) else if d.z = 0 then (true, d.falls) else (false, { d with z := d.z - 1 })
def RD.settled (d : RD) (l : List (Int × List UInt8)) : RD := { d with K := setAll d.K l }
def RD.write (d : RD) (i : Int) (b : List UInt8) : Int × RD := if d.off then (8, d) else if i < 0 ∨ d.c ≤ i then (6, d) else if b.length ≠ d.s then (3, d) else
  (if (RD.burns { d with W := d.W ++ [(i, b)] }).1 then 8 else 0, (RD.burns { d with W := d.W ++ [(i, b)] }).2)
def RD.sync (d : RD) : Int × RD := if d.off then (8, d) else if d.burns.1 then (8, d.burns.2) else (0, { d.burns.2.settled d.burns.2.W with W := [] })
def RD.tear (d : RD) (x : Int × List UInt8) : Int × List UInt8 := (x.1, x.2.take (d.s / 2) ++ (d.K.getD x.1.toNat []).drop (d.s / 2))
def RD.back0 (d : RD) (n : Nat) (torn : Bool) : RD := if torn = true ∧ 0 < n then (d.settled (d.W.take (n - 1))).settled (((d.W.drop (n - 1)).take 1).map (d.settled (d.W.take (n - 1))).tear) else d.settled (d.W.take n)
def RD.back (d : RD) (keep : Int) (torn : Bool) : RD := { d.falls.back0 (kept2 keep d.W.length) torn with W := [], off := false, z := -1 }
def RD.spoil (d : RD) (i at_ : Int) (by_ : UInt8) : Int × RD := if (i < 0 ∨ d.c ≤ i) ∨ at_ < 0 ∨ d.s ≤ at_ then (6, d) else (0, d.settled [(i, xorAt (d.K.getD i.toNat []) at_.toNat by_)])

/-- They are the same. -/
structure DRel (p : PD) (d : RD) : Prop where
  s : d.s = p.size
  c : d.c = p.count
  K : KRel p d.K
  W : d.W = p.waits
  off : d.off = p.off
  f : d.f = p.falls
  z : d.z = zOf p
theorem drel_falls {p : PD} {d : RD} (h : DRel p d) : DRel p.fall d.falls := ⟨h.s, h.c, ⟨h.K.len, h.K.at_⟩, h.W, rfl, by simp only [RD.falls, PD.fall, h.off, h.f], h.z⟩
theorem drel_burns {p : PD} {d : RD} (h : DRel p d) : d.burns.1 = p.burns.1 ∧ DRel p.burns.2 d.burns.2 := by
  unfold RD.burns PD.burns
  have hz := h.z
  unfold zOf at hz
  rcases hf : p.fuse with _ | _ | m
  · rw [hf] at hz; simp only at hz; rw [if_pos (by omega)]; exact ⟨rfl, h⟩
  · rw [hf] at hz; simp only at hz; rw [if_neg (by omega), if_pos (by simpa using hz)]; exact ⟨rfl, drel_falls h⟩
  · rw [hf] at hz; simp only at hz; rw [if_neg (by omega), if_neg (by omega)]
    exact ⟨rfl, ⟨h.s, h.c, ⟨h.K.len, h.K.at_⟩, h.W, h.off, h.f, by simp only [zOf]; omega⟩⟩
theorem drel_settled {p : PD} {d : RD} (h : DRel p d) (l : List (Int × List UInt8)) (hl : ∀ x ∈ l, 0 ≤ x.1 ∧ x.1 < p.count) : DRel (p.settled l) (d.settled l) := ⟨h.s, h.c, keptPut_set l h.K hl, h.W, h.off, h.f, h.z⟩
theorem drel_read {p : PD} {d : RD} (h : DRel p d) (i : Int) : d.read i = p.read i := by
  unfold RD.read PD.read
  rw [h.off, h.c, h.W]
  cases p.off with
  | true => rfl
  | false =>
    simp only [Bool.false_eq_true, if_false]
    by_cases hi : i < 0 ∨ (p.count : Int) ≤ i
    · rw [if_pos hi, if_pos hi]
    · rw [if_neg hi, if_neg hi, foldl_last]
      have hk : d.K.getD i.toNat [] = p.kept i := by
        rw [List.getD_eq_getElem?_getD, h.K.at_ i.toNat (by omega)]
        simp [show ((i.toNat : Nat) : Int) = i by omega]
      rw [hk]
theorem drel_write {p : PD} {d : RD} (h : DRel p d) (i : Int) (b : List UInt8) : (d.write i b).1 = (p.write i b).1 ∧ DRel (p.write i b).2 (d.write i b).2 := by
  unfold RD.write PD.write
  by_cases ho : p.off = true
  · rw [if_pos ho, if_pos (h.off.trans ho)]; exact ⟨rfl, h⟩
  · rw [if_neg ho, if_neg (by rw [h.off]; exact ho)]
    by_cases hi : i < 0 ∨ (p.count : Int) ≤ i
    · rw [if_pos hi, if_pos (by rw [h.c]; exact hi)]; exact ⟨rfl, h⟩
    · rw [if_neg hi, if_neg (by rw [h.c]; exact hi)]
      by_cases hb : b.length ≠ p.size
      · rw [if_pos hb, if_pos (by rw [h.s]; exact hb)]; exact ⟨rfl, h⟩
      · rw [if_neg hb, if_neg (by rw [h.s]; exact hb)]
        have h2 : DRel { p with waits := p.waits ++ [(i, b)] } { d with W := d.W ++ [(i, b)] } := ⟨h.s, h.c, ⟨h.K.len, h.K.at_⟩, by simp [h.W], h.off, h.f, h.z⟩
        obtain ⟨h3, h4⟩ := drel_burns h2
        exact ⟨by simp only [h3], h4⟩
theorem drel_sync {p : PD} {d : RD} (h : DRel p d) (g : PGood p) : d.sync.1 = p.sync.1 ∧ DRel p.sync.2 d.sync.2 := by
  unfold RD.sync PD.sync
  obtain ⟨h3, h4⟩ := drel_burns h
  by_cases ho : p.off = true
  · rw [if_pos ho, if_pos (h.off.trans ho)]; exact ⟨rfl, h⟩
  · rw [if_neg ho, if_neg (by rw [h.off]; exact ho)]
    by_cases hb : p.burns.1 = true
    · rw [if_pos hb, if_pos (by rw [h3]; exact hb)]; exact ⟨rfl, h4⟩
    · rw [if_neg hb, if_neg (by rw [h3]; exact hb)]
      refine ⟨rfl, ?_⟩
      rw [h4.W]
      have h5 := drel_settled h4 p.burns.2.waits (good_burns g).wrng
      exact ⟨h5.s, h5.c, ⟨h5.K.len, h5.K.at_⟩, rfl, h5.off, h5.f, h5.z⟩
theorem drel_back {p : PD} {d : RD} (h : DRel p d) (g : PGood p) (keep : Int) (torn : Bool) : DRel (p.back keep torn) (d.back keep torn) := by
  have hf := drel_falls h
  have gf := good_fall g
  have key : ∀ n, DRel (p.fall.back0 n torn) (d.falls.back0 n torn) := fun n => by
    unfold PD.back0 RD.back0
    by_cases ht : torn = true ∧ 0 < n
    · rw [if_pos ht, if_pos ht]
      rw [hf.W]
      have h1 := drel_settled hf (p.fall.waits.take (n - 1)) (fun x hx => gf.wrng x (List.mem_of_mem_take hx))
      have hm : ((p.fall.waits.drop (n - 1)).take 1).map (d.falls.settled (p.fall.waits.take (n - 1))).tear = ((p.fall.waits.drop (n - 1)).take 1).map (p.fall.settled (p.fall.waits.take (n - 1))).tear := by
        refine List.map_congr_left (fun x hx => ?_)
        have hr := gf.wrng x (List.mem_of_mem_drop (List.mem_of_mem_take hx))
        unfold RD.tear PD.tear
        rw [h1.s]
        have hk : (d.falls.settled (p.fall.waits.take (n - 1))).K.getD x.1.toNat [] = (p.fall.settled (p.fall.waits.take (n - 1))).kept x.1 := by
          have hc : (p.fall.settled (p.fall.waits.take (n - 1))).count = p.fall.count := rfl
          rw [List.getD_eq_getElem?_getD, h1.K.at_ x.1.toNat (by rw [hc]; omega)]
          simp [show ((x.1.toNat : Nat) : Int) = x.1 by omega]
        rw [hk]
      rw [hm]
      refine drel_settled h1 _ (fun y hy => ?_)
      obtain ⟨x, hx, rfl⟩ := List.mem_map.1 hy
      exact gf.wrng x (List.mem_of_mem_drop (List.mem_of_mem_take hx))
    · rw [if_neg ht, if_neg ht, hf.W]
      exact drel_settled hf _ (fun x hx => gf.wrng x (List.mem_of_mem_take hx))
  have hk := key (kept2 keep p.waits.length)
  unfold RD.back PD.back
  rw [h.W]
  exact ⟨hk.s, hk.c, ⟨hk.K.len, hk.K.at_⟩, rfl, rfl, hk.f, rfl⟩
theorem drel_spoil {p : PD} {d : RD} (h : DRel p d) (i at_ : Int) (by_ : UInt8) : (d.spoil i at_ by_).1 = (p.spoil i at_ by_).1 ∧ DRel (p.spoil i at_ by_).2 (d.spoil i at_ by_).2 := by
  unfold RD.spoil PD.spoil
  rw [h.c, h.s]
  by_cases hc : (i < 0 ∨ (p.count : Int) ≤ i) ∨ at_ < 0 ∨ (p.size : Int) ≤ at_
  · rw [if_pos hc, if_pos hc]; exact ⟨rfl, h⟩
  · rw [if_neg hc, if_neg hc]
    refine ⟨rfl, ?_⟩
    have hk : d.K.getD i.toNat [] = p.kept i := by
      rw [List.getD_eq_getElem?_getD, h.K.at_ i.toNat (by omega)]
      simp [show ((i.toNat : Nat) : Int) = i by omega]
    rw [hk]
    have := drel_settled h [(i, xorAt (p.kept i) at_.toNat by_)] (fun x hx => by simp only [List.mem_singleton] at hx; subst hx; simp only; omega)
    exact this
theorem drel_new (s c : Nat) : DRel (PD.new s c) (RD.new s c) := ⟨rfl, rfl, ⟨by simp [RD.new, PD.new], fun i hi => by simp only [RD.new, PD.new] at hi ⊢; rw [List.getElem?_replicate, if_pos hi]⟩, rfl, rfl, rfl, rfl⟩

/-- What a walk needs to know. -/
structure RDok (d : RD) : Prop where
  sz : 64 ≤ d.s ∧ d.s ≤ 512
  ct : 1 ≤ d.c ∧ d.c ≤ 4096
  Kl : d.K.length = d.c
  Ks : ∀ y ∈ d.K, y.length = d.s
  Ws : ∀ x ∈ d.W, x.2.length = d.s
  Wr : ∀ x ∈ d.W, 0 ≤ x.1 ∧ x.1 < d.c
  Wl : d.W.length ≤ 100000
  z1 : -1 ≤ d.z ∧ d.z ≤ 9223372036854775807
theorem rdok {p : PD} {d : RD} (h : DRel p d) (g : PGood p) (hl : p.waits.length ≤ 100000) : RDok d := by
  refine ⟨by rw [h.s]; exact g.sz, by rw [h.c]; exact g.ct, by rw [h.c]; exact h.K.len, by rw [h.s]; exact h.K.all g, by rw [h.W, h.s]; exact g.wlen, by rw [h.W, h.c]; exact g.wrng, by rw [h.W]; exact hl, ?_⟩
  rw [h.z]
  unfold zOf
  cases hf : p.fuse with
  | none => simp
  | some n => have := g.fuse n hf; simp only; omega
end Go.Proofs.Ytdmpocojbheoiaa
