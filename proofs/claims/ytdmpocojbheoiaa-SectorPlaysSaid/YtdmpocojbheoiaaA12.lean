/- The abstract machine: calls with things. -/
import Derived.Test.YtdmpocojbheoiaaA11
namespace Go.Proofs.Ytdmpocojbheoiaa.AM
open Go.RowKit

section
variable {P : Program} {ops : Array Oper} {n : Nat} {S : St} {dst : Option Nat} {ty : TypeId} {pos : String} {after : Array Edge}
theorem hpre2 {i j : Nat} {r s : R} (hi : hget S.H i = some r) (hj : hget S.H j = some s) : ∀ k r', get [(i, r), (j, s)] k = some r' → hget S.H k = some r' := fun k r' h => by
  rw [get_cons] at h
  by_cases e : i = k
  · rw [if_pos e] at h; injection h with h; subst h; subst e; exact hi
  · rw [if_neg e] at h; exact hpre1 hj k r' h
/-- A call that has one thing, and keeps it. -/
theorem s_callo {f : FuncId} {fo : Operand} {caps : List C} {xs : Array Operand} {tys : Array TypeId} {args args' : List AV} {res : AV} {p p' : ObjP} (id : Nat) (hc : Callable P f) (hs : FnSpec P f 1 1 args [(0, .obj p)] res [(0, .obj p')])
    (hfo : ev S fo = some (.fn f caps)) (hev : evs S xs.toList = some args') (hf : xs.toList.all flatC = true) (hren : Imps (args' ++ caps.map AV.c) (renA [id] args)) (hb : res.bel 0) (hh : hget S.H id = some (.obj p)) (hd : dstOk dst S.sz = true) :
    Step P ops ⟨dst, .call { callee := .value fo, args := xs, argTypes := tys }, ty, pos, after, none⟩ n S ⟨rdOf fo (.fn f caps) ++ rdsOf xs.toList args', [(id, .obj p)], res, [(id, .obj p')]⟩ := by
  have := s_call (P := P) (ops := ops) (n := n) (S := S) (dst := dst) (ty := ty) (pos := pos) (after := after) (fo := fo) (caps := caps) (xs := xs) (tys := tys) (args' := args') [id] hc hs (fun i hi => by
    have : i = 0 := by omega
    subst this; rfl) hfo hev hf rfl (by simp) hren (hpre1 hh) hd
  rwa [AV.ren0 hb] at this
/-- One that has a row, too, and leaves it. -/
theorem s_callr {f : FuncId} {fo : Operand} {caps : List C} {xs : Array Operand} {tys : Array TypeId} {args args' : List AV} {res : AV} {p p' : ObjP} {e esz : Nat} {cs : List C} (id jd : Nat) (hij : Nat.beq id jd = false) (hc : Callable P f) (hs : FnSpec P f 2 2 args [(0, .obj p), (1, .row e esz cs)] res [(0, .obj p'), (1, .row e esz cs)])
    (hfo : ev S fo = some (.fn f caps)) (hev : evs S xs.toList = some args') (hf : xs.toList.all flatC = true) (hren : Imps (args' ++ caps.map AV.c) (renA [id, jd] args)) (hb : res.bel 0) (hcs : belowL 0 cs) (hh : hget S.H id = some (.obj p)) (hj : hget S.H jd = some (.row e esz cs)) (hd : dstOk dst S.sz = true) :
    Step P ops ⟨dst, .call { callee := .value fo, args := xs, argTypes := tys }, ty, pos, after, none⟩ n S ⟨rdOf fo (.fn f caps) ++ rdsOf xs.toList args', [(id, .obj p), (jd, .row e esz cs)], res, [(id, .obj p'), (jd, .row e esz cs)]⟩ := by
  have hne : id ≠ jd := by rintro rfl; simp at hij
  have hr : R.ren [id, jd] (.row e esz cs) = .row e esz cs := by simp only [R.ren, renL0 hcs]
  have := s_call (P := P) (ops := ops) (n := n) (S := S) (dst := dst) (ty := ty) (pos := pos) (after := after) (fo := fo) (caps := caps) (xs := xs) (tys := tys) (args' := args') [id, jd] hc hs (fun i hi => by
    rcases (by omega : i = 0 ∨ i = 1) with rfl | rfl <;> rfl) hfo hev hf rfl (by simpa using hne) hren (by
      simp only [List.map_cons, List.map_nil, hr]
      exact hpre2 hh hj) hd
  rw [AV.ren0 hb] at this
  have hm : cs.map (C.ren [id, jd]) = cs := renL0 hcs
  simpa [newIds, R.ren, hm] using this
/-- One that makes a thing. -/
theorem s_newo {f : FuncId} {fo : Operand} {caps : List C} {xs : Array Operand} {tys : Array TypeId} {args args' : List AV} {l : List AV} {p : ObjP} (hc : Callable P f) (hs : FnSpec P f 0 1 args [] (.tup (.c (.ptr 0 0) :: l)) [(0, .obj p)])
    (hfo : ev S fo = some (.fn f caps)) (hev : evs S xs.toList = some args') (hf : xs.toList.all flatC = true) (hren : Imps (args' ++ caps.map AV.c) args) (hb : belowA 0 l) (hd : dstOk dst S.sz = true) :
    Step P ops ⟨dst, .call { callee := .value fo, args := xs, argTypes := tys }, ty, pos, after, none⟩ n S ⟨rdOf fo (.fn f caps) ++ rdsOf xs.toList args', [], .tup (.c (.ptr n 0) :: l), [(n, .obj p)]⟩ := by
  have := s_call (P := P) (ops := ops) (n := n) (S := S) (dst := dst) (ty := ty) (pos := pos) (after := after) (fo := fo) (caps := caps) (xs := xs) (tys := tys) (args' := args') [] hc hs (fun i hi => absurd hi (Nat.not_lt_zero _)) hfo hev hf rfl List.nodup_nil (by rw [renA0 hs.ba]; exact hren) (fun i r h => by simp [get] at h) hd
  simpa [newIds, AV.ren, renA, C.ren, R.ren, renA0 hb] using this
theorem s_len_own1 {t e e' : TypeId} {x : Operand} {id : Nat} {cs : List C} (ht : P.underlying t = some (.slice e')) (hx : ev S x = some (.c (.own id))) (hh : hget S.H id = some (.row e 1 cs)) (hd : dstOk dst S.sz = true) :
    Step P ops ⟨dst, .call { callee := .builtin .len, args := #[x], argTypes := #[t] }, ty, pos, after, none⟩ n S ⟨rdOf x (.c (.own id)), [(id, .row e 1 cs)], vv (.int .i64 cs.length), [(id, .row e 1 cs)]⟩ :=
  s_len_own (e := e) ht hx hh Nat.one_pos (Nat.mul_one _).symm hd
theorem s_indexAddr_own1 {t e e' : TypeId} {x y : Operand} {id : Nat} {k : IntKind} {i : Int} {cs : List C} (ht : P.underlying t = some (.slice e')) (he : (P.info? e').map (·.size) = some 1) (hx : ev S x = some (.c (.own id))) (hh : hget S.H id = some (.row e 1 cs)) (hy : ev S y = some (vv (.int k i)))
    (h1 : 0 ≤ i) (h2 : i < cs.length) (hd : dstOk dst S.sz = true) : Step P ops ⟨dst, .indexAddr t x y, ty, pos, after, none⟩ n S ⟨rdOf x (.c (.own id)) ++ rdOf y (vv (.int k i)), [(id, .row e 1 cs)], .c (.ptr id i.toNat), [(id, .row e 1 cs)]⟩ := by
  have := s_indexAddr_own (P := P) (ops := ops) (n := n) (dst := dst) (ty := ty) (pos := pos) (after := after) (e := e) ht he hx hh hy Nat.one_pos (m := cs.length) (Nat.mul_one _).symm h1 h2 hd
  rwa [Nat.mul_one] at this
end
theorem Imp.tup {l1 l2 : List AV} (h : Imps l1 l2) : Imp (.tup l1) (.tup l2) := fun g x hr => by
  simp only [RepAV] at hr ⊢
  obtain ⟨vs, h1, h2⟩ := hr
  exact ⟨vs, h1, h.rep h2⟩
theorem imp_aggE {l1 l2 cs : List C} (h : ImpCs l1 l2) (e : l2 = cs) : Imp (.agg l1) (.agg cs) := by subst e; exact Imp.agg h
theorem resOk_all {P : Program} {S : St} {t ty id : Nat} {cs : List C} (h : get S.T t = some (.c (.ptr id 0))) (hh : hget S.H id = some (.box cs)) (ht : tyAgg P ty cs.length) : ResOk P S (.cell t ty) (.agg cs) := by
  have := ResOk.agg (P := P) (S := S) (ty := ty) h hh ht (by simp)
  simpa using this
/-- How a thing that stays is put in its place. -/
theorem sub_ : (∀ (S : St) (id : Nat) (d : C), S.sub id d = { S with T := S.T.map fun p => (p.1, AV.sub id d p.2), H := (id, none) :: S.H.map fun p => (p.1, p.2.map (R.sub id d)) }) ∧
    (∀ (id : Nat) (d : C) (j : Nat), (C.own j).sub id d = if j = id then d else .own j) ∧ (∀ (id : Nat) (d : C) (x : I), (C.i x).sub id d = .i x) ∧ (∀ (id : Nat) (d : C) (j o : Nat), (C.ptr j o).sub id d = .ptr j o) ∧
    (∀ (id : Nat) (d : C) (j z : Nat) (r : List (List I)), (C.tok j z r).sub id d = .tok j z r) ∧ (∀ (id : Nat) (d : C) (z k o : Nat) (r : List (List I)), (C.el z r k o).sub id d = .el z r k o) ∧ (∀ (id : Nat) (d : C) (z : Nat) (r : List (List I)), (C.nn z r).sub id d = .nn z r) ∧
    (∀ (id : Nat) (d c : C), AV.sub id d (.c c) = .c (c.sub id d)) ∧ (∀ (id : Nat) (d : C) (cs : List C), AV.sub id d (.agg cs) = .agg (cs.map fun c => c.sub id d)) ∧ (∀ (id : Nat) (d : C) (l : List AV), AV.sub id d (.tup l) = .tup (subA id d l)) ∧ (∀ (id : Nat) (d : C), AV.sub id d .any = .any) ∧
    (∀ (id : Nat) (d : C), subA id d [] = []) ∧ (∀ (id : Nat) (d : C) (a : AV) (l : List AV), subA id d (a :: l) = AV.sub id d a :: subA id d l) ∧
    (∀ (id : Nat) (d : C) (cs : List C), R.sub id d (.box cs) = .box (cs.map fun c => c.sub id d)) ∧ (∀ (id : Nat) (d : C) (e z : Nat) (cs : List C), R.sub id d (.row e z cs) = .row e z (cs.map fun c => c.sub id d)) ∧ (∀ (id : Nat) (d : C) (e z : Nat), R.sub id d (.tok e z) = .tok e z) ∧ (∀ (id : Nat) (d : C) (p : ObjP), R.sub id d (.obj p) = .obj p) :=
  ⟨fun _ _ _ => rfl, fun id d j => by
    simp only [C.sub]
    by_cases h : j = id
    · subst h; simp
    · have : Nat.beq j id = false := by cases hb : Nat.beq j id; rfl; exact absurd (Nat.eq_of_beq_eq_true hb) h
      rw [this, if_neg h]; rfl, fun _ _ _ => rfl, fun _ _ _ _ => rfl, fun _ _ _ _ _ => rfl, fun _ _ _ _ _ _ => rfl, fun _ _ _ _ => rfl, fun _ _ _ => rfl, fun _ _ _ => rfl, fun _ _ _ => rfl, fun _ _ => rfl, fun _ _ => rfl, fun _ _ _ _ => rfl, fun _ _ _ => rfl, fun _ _ _ _ _ => rfl, fun _ _ _ _ => rfl, fun _ _ _ => rfl⟩
theorem lt_ble {a b : Nat} (h : Nat.ble (a + 1) b = true) : a < b := Nat.le_of_ble_eq_true h
/-- What comes of a step, in other words. -/
theorem s_as {P : Program} {ops : Array Oper} {o : Oper} {n : Nat} {S : St} {rd : List (Nat × AV)} {pre post : List (Nat × R)} {av : AV} (out : AV) (h : Step P ops o n S ⟨rd, pre, av, post⟩) (hi : Imp av out) : Step P ops o n S ⟨rd, pre, out, post⟩ :=
  ⟨fun Q K g a w hgood hT hH hn hK => h.snd Q K g a w hgood hT hH hn (fun g' w' v hB => hK g' w' v ⟨hB.good, hB.ext, hB.new, hi g' v hB.rep, hB.heap, hB.own, hB.ids⟩), h.rd, h.pre, h.dst, h.ro⟩
theorem imp_tok' {id esz : Nat} {rows rows' : List (List I)} (h : rows = rows') : Imp (.c (.tok id esz rows)) (.c (.i (.sl esz rows'))) := by subst h; exact Imp.c (impC_tok _ _ _)
theorem imp_v {k : IntKind} {x y : Int} (h : x = y) : Imp (vv (.int k x)) (vv (.int k y)) := by subst h; exact .refl _
theorem imp_str {x y : List UInt8} (h : x = y) : Imp (vv (str x)) (vv (str y)) := by subst h; exact .refl _
theorem imp_sl {esz : Nat} {x y : List (List I)} (h : x = y) : Imp (.c (.i (.sl esz x))) (.c (.i (.sl esz y))) := by subst h; exact .refl _
theorem evs_nil {S : St} : evs S [] = some [] := rfl
theorem evs_cons {S : St} {x : Operand} {a : AV} {xs : List Operand} {l : List AV} (h : ev S x = some a) (k : evs S xs = some l) : evs S (x :: xs) = some (a :: l) := by
  simp [evs, h, k]
theorem s_storeA {P : Program} {ops : Array Oper} {n : Nat} {S : St} {dst : Option Nat} {ty : TypeId} {pos : String} {after : Array Edge} {t : TypeId} {x y : Operand} {id : Nat} {cs ds : List C} {av : AV} (hx : ev S x = some (.c (.ptr id 0))) (hy : ev S y = some av) (hh : hget S.H id = some (.box cs)) (hp : partCs av = some ds) (hs : (P.info? t).map (·.size) = some ds.length) (hk : cs.length = ds.length) (hf : flatC y = true) (hd : dstOk dst S.sz = true) :
    Step P ops ⟨dst, .store t x y, ty, pos, after, none⟩ n S ⟨rdOf x (.c (.ptr id 0)) ++ rdOf y av, [(id, .box cs)], .any, [(id, .box ds)]⟩ := s_store_all hx hy hh hs hp hk hf hd
end Go.Proofs.Ytdmpocojbheoiaa.AM
