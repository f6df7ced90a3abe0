/- The document's disk, as data. -/
import Derived.Test.YtdmpocojbheoiaaD2
import Derived.Test.YtdmpocojbheoiaaP1
import Derived.Test.YtdmpocojbheoiaaT0
namespace Go.Proofs.Ytdmpocojbheoiaa.AM
open Go.RowKit
set_option linter.unusedVariables false
set_option linter.unusedSimpArgs false

def eStr (b : List UInt8) : List I := [.v (str b)]
def cStr (b : List UInt8) : C := .i (.v (str b))
def eW (x : Int × List UInt8) : List I := [.v (.int .i64 x.1), .v (str x.2)]
def encD (d : RD) : List C := [.i (.v (.int .i64 d.s)), .i (.v (.int .i64 d.c)), .i (.sl 1 (d.K.map eStr)), .i (.sl 2 (d.W.map eW)), .i (.v (.bool d.off)), .i (.v (.int .u64 d.f)), .i (.v (.int .i64 d.z))]
theorem flat_eStr (K : List (List UInt8)) : ((K.map eStr).flatten.map C.i) = K.map cStr := by
  induction K with
  | nil => rfl
  | cons a r ih => simp only [List.map_cons, List.flatten_cons, List.map_append, ih]; rfl
theorem set_cStr (K : List (List UInt8)) (j : Nat) (b : List UInt8) : (K.map cStr).set j (.i (.v (str b))) = (K.set j b).map cStr := (List.map_set ..).symm
theorem eStr_len (K : List (List UInt8)) : ∀ r ∈ K.map eStr, r.length = 1 := by simp [eStr]
theorem get_map' {α β : Type _} {f : α → β} {l : List α} {k : Nat} {x : α} (h : l[k]? = some x) : (l.map f).getD k (f x) = f x := by simp [List.getD_eq_getElem?_getD, h]
theorem bel_cStr (n : Nat) : ∀ K : List (List UInt8), belowL n (K.map cStr)
  | [] => trivial
  | _ :: K => ⟨trivial, bel_cStr n K⟩
theorem snoc_eW (W : List (Int × List UInt8)) (i : Int) (b : List UInt8) : W.map eW ++ [[.v (.int .i64 i), .v (str b)]] = (W ++ [(i, b)]).map eW := by simp [eW]
theorem burnsW (d : RD) : d.burns.2.W = d.W := by unfold RD.burns; split <;> (try split) <;> rfl
theorem burnsK (d : RD) : d.burns.2.K = d.K := by unfold RD.burns; split <;> (try split) <;> rfl
theorem kept2_eq (keep : Int) (n : Nat) : min (max keep 0) (n : Int) = ((kept2 keep n : Nat) : Int) := by unfold kept2; omega
theorem kept2_le (keep : Int) (n : Nat) : kept2 keep n ≤ n := by unfold kept2; omega
theorem cast_m1 (m : Nat) : (((m + 1 : Nat) : Int) - 1) = (m : Int) := by omega
theorem cast_half (s : Nat) : ((s : Nat) : Int) / 2 = ((s / 2 : Nat) : Int) := by omega
theorem settled_len {d : RD} (ok : RDok d) (m : Nat) : ∀ y ∈ (d.falls.settled (d.falls.W.take m)).K, y.length = d.s := by
  have key : ∀ (ls : List (Int × List UInt8)) (kl : List (List UInt8)), (∀ y ∈ kl, y.length = d.s) → (∀ x ∈ ls, x.2.length = d.s) → ∀ y ∈ setAll kl ls, y.length = d.s := by
    intro ls
    induction ls with
    | nil => intro kl h _; exact h
    | cons x r ih =>
      intro kl h hx
      refine ih _ (fun y hy => ?_) (fun y hy => hx y (by simp [hy]))
      rcases List.mem_or_eq_of_mem_set hy with hy | hy
      · exact h y hy
      · subst hy; exact hx x (by simp)
  exact key _ _ ok.Ks (fun x hx => ok.Ws x (List.mem_of_mem_take hx))
theorem back_eq0 (d : RD) (keep : Int) (torn : Bool) (hn : ¬ (torn = true ∧ 0 < kept2 keep d.falls.W.length)) : encD { d.falls.settled (d.falls.W.take (kept2 keep d.falls.W.length)) with W := [], off := false, z := -1 } = encD (d.back keep torn) := by
  have h1 : d.back keep torn = { d.falls.back0 (kept2 keep d.falls.W.length) torn with W := [], off := false, z := -1 } := rfl
  rw [h1]
  unfold RD.back0
  rw [if_neg hn]
theorem back_eq1 (d : RD) (keep : Int) (m : Nat) (w : Int × List UInt8) (hm : kept2 keep d.falls.W.length = m + 1) (hw : d.falls.W[m]? = some w) : encD { (d.falls.settled (d.falls.W.take m)).settled [(d.falls.settled (d.falls.W.take m)).tear w] with W := [], off := false, z := -1 } = encD (d.back keep true) := by
  have h1 : d.back keep true = { d.falls.back0 (kept2 keep d.falls.W.length) true with W := [], off := false, z := -1 } := rfl
  rw [h1, hm]
  unfold RD.back0
  rw [if_pos ⟨rfl, by omega⟩, Nat.add_sub_cancel]
  have h2 : (d.falls.W.drop m).take 1 = [w] := by
    rw [List.drop_eq_getElem_cons (by have := (List.getElem?_eq_some_iff.1 hw).1; exact this)]
    have := (List.getElem?_eq_some_iff.1 hw).2
    simp [this]
  rw [h2]; rfl
theorem set_cB (K : List UInt8) (j : Nat) (b : UInt8) : (K.map fun b => C.i (.v (.int .u8 (b.toNat : Int)))).set j (.i (.v (.int .u8 (b.toNat : Int)))) = (K.set j b).map fun b => C.i (.v (.int .u8 (b.toNat : Int))) := (List.map_set ..).symm
theorem bel_cB (n : Nat) : ∀ K : List UInt8, belowL n (K.map fun b => C.i (.v (.int .u8 (b.toNat : Int))))
  | [] => trivial
  | _ :: K => ⟨trivial, bel_cB n K⟩
/-- A step of the law. -/
structure OStep where
  kind : Int
  i : Int
  at_ : Int
  b : List UInt8
  torn : Bool
  by_ : UInt8
def eO (o : OStep) : List I := [.v (.int .i64 o.kind), .v (.int .i64 o.i), .v (.int .i64 o.at_), .sl 1 (o.b.map eU8), .v (.bool o.torn), .v (.int .u8 (o.by_.toNat : Int))]
def greatB (size count : Int) (l : List OStep) : Bool := ((((decide (size < 64) || decide (512 < size)) || decide (count < 1)) || decide (40 < count)) || decide (60 < (l.length : Int))) || l.any fun o => decide (600 < o.b.length)
end Go.Proofs.Ytdmpocojbheoiaa.AM
