/- The abstract machine: operations that memory is not asked for; guards. -/
import Derived.Test.YtdmpocojbheoiaaA3
namespace Go.Proofs.Ytdmpocojbheoiaa.AM
open Go.RowKit

abbrev vv (x : Value) : AV := .c (.i (.v x))
theorem repV {g : Gh} {x y : Value} (h : RepAV g x (vv y)) : x = y := by
  simp only [RepAV, RepC] at h; cases h; rfl
theorem rep_vv {g : Gh} {x : Value} (h : x.oneCell' = true) : RepAV g x (vv x) := by
  simp only [RepAV, RepC]; exact .v x h

def dstOk : Option Nat → Nat → Bool
  | some d, n => Nat.blt d n
  | none, _ => true
theorem dstOk_spec {d : Option Nat} {n : Nat} (h : dstOk d n = true) : ∀ x, d = some x → x < n := by
  rintro x rfl
  have : x + 1 ≤ n := by simpa [dstOk, Nat.blt] using h
  exact this

section
variable {P : Program} {ops : Array Oper} {n : Nat} {S : St} {dst : Option Nat} {ty : TypeId} {pos : String} {after : Array Edge}

theorem behind_same {c : Cert} {g : Gh} {w : World} {v : Value} (hpp : c.post = c.pre) (hg : Good g w) (hH : HeapH g (get c.pre) w) (hv : RepAV g v c.out) : Behind n c g g w w v :=
  ⟨hg, Ext.refl _ _ _ _, fun _ h => .inl h, hv, by rw [hpp]; exact hH, fun k hk => .inl (by rw [hpp] at hk; exact hk), fun id r hr => .inl (by rw [hpp] at hr; rw [hr]; rfl)⟩

/-- A run that leaves the world. -/
theorem sound_run {o : Oper} {c : Cert} (hg : o.guard = none) (hpp : c.post = c.pre)
    (h : ∀ g a w, Good g w → RepT g a c.rd → HeapH g (get c.pre) w → ∃ v, (execOp a.eval o).run P w = .ok (.value v) w ∧ RepAV g v c.out) : Sound P ops o n c := by
  intro Q K g a w hgood hT hH _ hK
  unfold stepWp
  rw [if_pos (by simp [Region.wanted, hg])]
  obtain ⟨v, hr, hv⟩ := h g a w hgood hT hH
  refine .inl ?_
  unfold Oper.wp
  rw [hr]
  exact hK g w v (behind_same hpp hgood hH hv)

theorem rd1 {x : Operand} {av : AV} (h : ev S x = some av) : ∀ p ∈ rdOf x av, p.2 = .any ∨ get S.T p.1 = some p.2 := fun p hp => .inr (ev_rd h p hp)
theorem rd2 {x y : Operand} {av bv : AV} (h : ev S x = some av) (k : ev S y = some bv) : ∀ p ∈ rdOf x av ++ rdOf y bv, p.2 = .any ∨ get S.T p.1 = some p.2 := fun p hp => by
  rcases List.mem_append.1 hp with hp | hp
  · exact rd1 h p hp
  · exact rd1 k p hp
theorem rep1 {g : Gh} {a : Act} {x : Operand} {av : AV} {r : List (Nat × AV)} (h : ev S x = some av) (hf : flatC x = true) (hT : RepT g a (rdOf x av ++ r)) : RepAV g (a.eval x) av :=
  opd_rep (ev_opd h) hf (fun p hp => hT p (List.mem_append_left _ hp))
theorem rep1' {g : Gh} {a : Act} {x : Operand} {av : AV} (h : ev S x = some av) (hf : flatC x = true) (hT : RepT g a (rdOf x av)) : RepAV g (a.eval x) av :=
  opd_rep (ev_opd h) hf hT
theorem rep2 {g : Gh} {a : Act} {x y : Operand} {av bv : AV} (h : ev S x = some av) (k : ev S y = some bv) (hf : flatC x = true) (kf : flatC y = true) (hT : RepT g a (rdOf x av ++ rdOf y bv)) : RepAV g (a.eval x) av ∧ RepAV g (a.eval y) bv :=
  ⟨rep1 h hf hT, opd_rep (ev_opd k) kf (fun p hp => hT p (List.mem_append_right _ hp))⟩
theorem flat_of_c {x : Operand} {c : C} (h : ev S x = some (.c c)) : flatC x = true := by
  cases x with
  | const v => cases v <;> first | rfl | (simp [ev, constAV] at h)
  | _ => rfl

theorem s_move {x : Operand} {av : AV} (hx : ev S x = some av) (hf : flatC x = true) (hd : dstOk dst S.sz = true) : Step P ops ⟨dst, .move x, ty, pos, after, none⟩ n S ⟨rdOf x av, [], av, []⟩ :=
  ⟨sound_run rfl rfl (fun g a w _ hT _ => ⟨a.eval x, by simp [execOp], rep1' hx hf hT⟩), rd1 hx, fun _ _ h => by simp [get] at h, dstOk_spec hd, (by intro h; first | rfl | assumption | exact absurd h (by simp [roOp]; done))⟩
theorem s_assign {x : Operand} {av : AV} (hx : ev S x = some av) (hf : flatC x = true) (hd : dstOk dst S.sz = true) : Step P ops ⟨dst, .assign x, ty, pos, after, none⟩ n S ⟨rdOf x av, [], av, []⟩ :=
  ⟨sound_run rfl rfl (fun g a w _ hT _ => ⟨a.eval x, by simp [execOp], rep1' hx hf hT⟩), rd1 hx, fun _ _ h => by simp [get] at h, dstOk_spec hd, (by intro h; first | rfl | assumption | exact absurd h (by simp [roOp]; done))⟩

/-! Whole numbers. -/
def binI (op : BinOp) (k : IntKind) (x y : Int) : Option Value :=
  match op with
  | .add => some (.int k (k.wrap (x + y)))
  | .sub => some (.int k (k.wrap (x - y)))
  | .mul => some (.int k (k.wrap (x * y)))
  | .and => some (.int k (k.wrap (BitVec.ofInt k.bits x &&& BitVec.ofInt k.bits y).toNat))
  | .or => some (.int k (k.wrap (BitVec.ofInt k.bits x ||| BitVec.ofInt k.bits y).toNat))
  | .xor => some (.int k (k.wrap (BitVec.ofInt k.bits x ^^^ BitVec.ofInt k.bits y).toNat))
  | .andNot => some (.int k (k.wrap (BitVec.ofInt k.bits x &&& ~~~(BitVec.ofInt k.bits y)).toNat))
  | .eql => some (.bool (decide (x = y)))
  | .neq => some (.bool (!decide (x = y)))
  | .lss => some (.bool (decide (x < y)))
  | .leq => some (.bool (decide (x ≤ y)))
  | .gtr => some (.bool (decide (y < x)))
  | .geq => some (.bool (decide (y ≤ x)))
  | _ => none
theorem run_guard_int {op : BinOp} {t : TypeId} {x y : Operand} {k k' : IntKind} {m m' : Int} (w : World) : (eqGuard op t x y (.int k m) (.int k' m')).run P w = .ok () w := by
  unfold eqGuard
  cases op <;> rfl
theorem beq_dec (a b : Int) : (a == b) = decide (a = b) := by rw [Bool.eq_iff_iff]; simp
theorem run_bin_int {op : BinOp} {t : TypeId} {k : IntKind} {m m' : Int} {v : Value} (hv : binI op k m m' = some v) (w : World) : (binOp op t (.int k m) (.int k m')).run P w = .ok v w := by
  cases op <;> simp only [binI, Option.some.injEq, reduceCtorEq] at hv <;> subst hv <;>
    simp [binOp, Op.intArith, Op.intBits, Op.intCmp, beq_dec, bne, GT.gt, GE.ge]
theorem s_bin {op : BinOp} {t t' : TypeId} {x y : Operand} {k : IntKind} {m m' : Int} {v : Value} (hx : ev S x = some (vv (.int k m))) (hy : ev S y = some (vv (.int k m'))) (hv : binI op k m m' = some v) (h1 : v.oneCell' = true) (hd : dstOk dst S.sz = true) :
    Step P ops ⟨dst, .binOp op t x y t', ty, pos, after, none⟩ n S ⟨rdOf x (vv (.int k m)) ++ rdOf y (vv (.int k m')), [], vv v, []⟩ :=
  ⟨sound_run rfl rfl (fun g a w _ hT _ => by
    obtain ⟨e1, e2⟩ := rep2 hx hy (flat_of_c hx) (flat_of_c hy) hT
    refine ⟨v, ?_, rep_vv h1⟩
    simp only [execOp, repV e1, repV e2, Sem.run_bind, run_guard_int, run_bin_int hv, Result.andThen_ok, Sem.run_pure]), rd2 hx hy, fun _ _ h => by simp [get] at h, dstOk_spec hd, (by intro h; first | rfl | assumption | exact absurd h (by simp [roOp]; done))⟩
/-- No more than the kind bears. -/
def inK (k : IntKind) (x : Int) : Prop := k.min ≤ x ∧ x ≤ k.max
theorem wrap_in {k : IntKind} {x : Int} (h : inK k x) : k.wrap x = x := by
  obtain ⟨h1, h2⟩ := h
  cases k <;> simp [IntKind.min, IntKind.max, IntKind.signed, IntKind.bits, IntKind.wrap] at * <;> omega
theorem s_add {t t' : TypeId} {x y : Operand} {k : IntKind} {m m' : Int} (hx : ev S x = some (vv (.int k m))) (hy : ev S y = some (vv (.int k m'))) (h : inK k (m + m')) (hd : dstOk dst S.sz = true) :
    Step P ops ⟨dst, .binOp .add t x y t', ty, pos, after, none⟩ n S ⟨rdOf x (vv (.int k m)) ++ rdOf y (vv (.int k m')), [], vv (.int k (m + m')), []⟩ :=
  s_bin hx hy (by simp only [binI, wrap_in h]) rfl hd
theorem s_sub {t t' : TypeId} {x y : Operand} {k : IntKind} {m m' : Int} (hx : ev S x = some (vv (.int k m))) (hy : ev S y = some (vv (.int k m'))) (h : inK k (m - m')) (hd : dstOk dst S.sz = true) :
    Step P ops ⟨dst, .binOp .sub t x y t', ty, pos, after, none⟩ n S ⟨rdOf x (vv (.int k m)) ++ rdOf y (vv (.int k m')), [], vv (.int k (m - m')), []⟩ :=
  s_bin hx hy (by simp only [binI, wrap_in h]) rfl hd
theorem s_mul {t t' : TypeId} {x y : Operand} {k : IntKind} {m m' : Int} (hx : ev S x = some (vv (.int k m))) (hy : ev S y = some (vv (.int k m'))) (h : inK k (m * m')) (hd : dstOk dst S.sz = true) :
    Step P ops ⟨dst, .binOp .mul t x y t', ty, pos, after, none⟩ n S ⟨rdOf x (vv (.int k m)) ++ rdOf y (vv (.int k m')), [], vv (.int k (m * m')), []⟩ :=
  s_bin hx hy (by simp only [binI, wrap_in h]) rfl hd
theorem s_quo {t t' : TypeId} {x y : Operand} {k : IntKind} {m m' : Int} (hx : ev S x = some (vv (.int k m))) (hy : ev S y = some (vv (.int k m'))) (h0 : 0 ≤ m) (h1 : 0 < m') (h : inK k m) (hd : dstOk dst S.sz = true) :
    Step P ops ⟨dst, .binOp .quo t x y t', ty, pos, after, none⟩ n S ⟨rdOf x (vv (.int k m)) ++ rdOf y (vv (.int k m')), [], vv (.int k (m / m')), []⟩ :=
  ⟨sound_run rfl rfl (fun g a w _ hT _ => by
    obtain ⟨e1, e2⟩ := rep2 hx hy (flat_of_c hx) (flat_of_c hy) hT
    refine ⟨.int k (m / m'), ?_, rep_vv rfl⟩
    have hle : m / m' ≤ m := Int.ediv_le_self _ h0
    have hge : 0 ≤ m / m' := Int.ediv_nonneg h0 (by omega)
    have hw : k.wrap (m / m') = m / m' := wrap_in ⟨Int.le_trans (by cases k <;> decide) hge, Int.le_trans hle h.2⟩
    have : ¬ m' = 0 := by omega
    simp only [execOp, repV e1, repV e2, Sem.run_bind, run_guard_int, Result.andThen_ok, Sem.run_pure, binOp]
    simp [Op.intDiv, this, Int.tdiv_eq_ediv_of_nonneg h0, hw]), rd2 hx hy, fun _ _ h => by simp [get] at h, dstOk_spec hd, (by intro h; first | rfl | assumption | exact absurd h (by simp [roOp]; done))⟩
theorem s_rem {t t' : TypeId} {x y : Operand} {k : IntKind} {m m' : Int} (hx : ev S x = some (vv (.int k m))) (hy : ev S y = some (vv (.int k m'))) (h0 : 0 ≤ m) (h1 : 0 < m') (hd : dstOk dst S.sz = true) :
    Step P ops ⟨dst, .binOp .rem t x y t', ty, pos, after, none⟩ n S ⟨rdOf x (vv (.int k m)) ++ rdOf y (vv (.int k m')), [], vv (.int k (m % m')), []⟩ :=
  ⟨sound_run rfl rfl (fun g a w _ hT _ => by
    obtain ⟨e1, e2⟩ := rep2 hx hy (flat_of_c hx) (flat_of_c hy) hT
    refine ⟨.int k (m % m'), ?_, rep_vv rfl⟩
    have : ¬ m' = 0 := by omega
    simp only [execOp, repV e1, repV e2, Sem.run_bind, run_guard_int, Result.andThen_ok, Sem.run_pure, binOp]
    simp [Op.intDiv, this, Int.tmod_eq_emod_of_nonneg h0]), rd2 hx hy, fun _ _ h => by simp [get] at h, dstOk_spec hd, (by intro h; first | rfl | assumption | exact absurd h (by simp [roOp]; done))⟩
def shI (op : BinOp) (k : IntKind) (x : Int) (y : Int) : Option Value :=
  match op with
  | .shl => some (.int k (k.wrap (x * 2 ^ min y.toNat k.bits)))
  | .shr => some (.int k (x.fdiv (2 ^ min y.toNat k.bits)))
  | _ => none
theorem s_shift {op : BinOp} {t t' : TypeId} {x y : Operand} {k k' : IntKind} {m m' : Int} {v : Value} (hx : ev S x = some (vv (.int k m))) (hy : ev S y = some (vv (.int k' m'))) (h0 : 0 ≤ m') (hv : shI op k m m' = some v) (hd : dstOk dst S.sz = true) :
    Step P ops ⟨dst, .binOp op t x y t', ty, pos, after, none⟩ n S ⟨rdOf x (vv (.int k m)) ++ rdOf y (vv (.int k' m')), [], vv v, []⟩ :=
  ⟨sound_run rfl rfl (fun g a w _ hT _ => by
    obtain ⟨e1, e2⟩ := rep2 hx hy (flat_of_c hx) (flat_of_c hy) hT
    have h1 : ¬ m' < 0 := by omega
    cases op <;> simp only [shI, Option.some.injEq, reduceCtorEq] at hv <;> subst hv <;>
      exact ⟨_, by simp only [execOp, repV e1, repV e2, Sem.run_bind, run_guard_int, Result.andThen_ok, Sem.run_pure, binOp]; simp [Op.shift, h1], rep_vv rfl⟩), rd2 hx hy, fun _ _ h => by simp [get] at h, dstOk_spec hd, (by intro h; first | rfl | assumption | exact absurd h (by simp [roOp]; done))⟩
theorem s_conv {src dt : TypeId} {x : Operand} {k k' : IntKind} {m : Int} {d0 : TypeDesc} (hx : ev S x = some (vv (.int k m))) (h0 : P.underlying src = some d0) (ht : P.underlying dt = some (.int k')) (hd : dstOk dst S.sz = true) :
    Step P ops ⟨dst, .convert src dt x, ty, pos, after, none⟩ n S ⟨rdOf x (vv (.int k m)), [], vv (.int k' (k'.wrap m)), []⟩ :=
  ⟨sound_run rfl rfl (fun g a w _ hT _ => by
    have e1 := rep1' hx (flat_of_c hx) hT
    refine ⟨.int k' (k'.wrap m), ?_, rep_vv rfl⟩
    simp only [execOp, repV e1, convert, Sem.run_bind, run_underlying h0, run_underlying ht, Result.andThen_ok, Sem.run_pure, Conv.intToInt]), rd1 hx, fun _ _ h => by simp [get] at h, dstOk_spec hd, (by intro h; first | rfl | assumption | exact absurd h (by simp [roOp]; done))⟩
theorem s_conv' {src dt : TypeId} {x : Operand} {k k' : IntKind} {m : Int} {d0 : TypeDesc} (hx : ev S x = some (vv (.int k m))) (h0 : P.underlying src = some d0) (ht : P.underlying dt = some (.int k')) (h : inK k' m) (hd : dstOk dst S.sz = true) :
    Step P ops ⟨dst, .convert src dt x, ty, pos, after, none⟩ n S ⟨rdOf x (vv (.int k m)), [], vv (.int k' m), []⟩ := by
  have := s_conv (P := P) (ops := ops) (n := n) (S := S) (dst := dst) (ty := ty) (pos := pos) (after := after) hx h0 ht hd
  rwa [wrap_in h] at this

/-! Truth. -/
theorem s_not {t : TypeId} {x : Operand} {b : Bool} (hx : ev S x = some (vv (.bool b))) (hd : dstOk dst S.sz = true) : Step P ops ⟨dst, .unOp .not t x, ty, pos, after, none⟩ n S ⟨rdOf x (vv (.bool b)), [], vv (.bool (!b)), []⟩ :=
  ⟨sound_run rfl rfl (fun g a w _ hT _ => by
    have e1 := rep1' hx (flat_of_c hx) hT
    exact ⟨.bool (!b), by simp [execOp, repV e1, Op.unary], rep_vv rfl⟩), rd1 hx, fun _ _ h => by simp [get] at h, dstOk_spec hd, (by intro h; first | rfl | assumption | exact absurd h (by simp [roOp]; done))⟩
theorem run_equalIn_bool (d : Nat) {t : TypeId} {a b : Bool} (ht : P.underlying t = some .bool) (w : World) : (Op.equalIn (d + 1) t (.bool a) (.bool b)).run P w = .ok (a == b) w := by
  simp [Op.equalIn, run_underlying ht]
theorem run_equal_bool {t : TypeId} {a b : Bool} (ht : P.underlying t = some .bool) (w : World) : (Op.equal t (.bool a) (.bool b)).run P w = .ok (a == b) w := by
  exact run_equalIn_bool 9999 ht w
theorem s_eqb {op : BinOp} {t t' : TypeId} {x y : Operand} {a b r : Bool} (hx : ev S x = some (vv (.bool a))) (hy : ev S y = some (vv (.bool b))) (ht : P.underlying t = some .bool) (hr : (match op with | .eql => some (a == b) | .neq => some (!(a == b)) | _ => none) = some r) (hd : dstOk dst S.sz = true) :
    Step P ops ⟨dst, .binOp op t x y t', ty, pos, after, none⟩ n S ⟨rdOf x (vv (.bool a)) ++ rdOf y (vv (.bool b)), [], vv (.bool r), []⟩ :=
  ⟨sound_run rfl rfl (fun g a' w _ hT _ => by
    obtain ⟨e1, e2⟩ := rep2 hx hy (flat_of_c hx) (flat_of_c hy) hT
    refine ⟨.bool r, ?_, rep_vv rfl⟩
    cases op <;> simp only [Option.some.injEq, reduceCtorEq] at hr <;> subst hr <;>
      simp [execOp, repV e1, repV e2, eqGuard, binOp, run_equal_bool ht]), rd2 hx hy, fun _ _ h => by simp [get] at h, dstOk_spec hd, (by intro h; first | rfl | assumption | exact absurd h (by simp [roOp]; done))⟩

theorem s_pick {c x y : Operand} {b : Bool} {av bv o : AV} (hc : ev S c = some (vv (.bool b))) (hx : ev S x = some av) (hy : ev S y = some bv) (h1 : b = true → av = o) (h2 : b = false → bv = o) (fx : flatC x = true) (fy : flatC y = true) (hd : dstOk dst S.sz = true) :
    Step P ops ⟨dst, .pick c x y, ty, pos, after, none⟩ n S ⟨rdOf c (vv (.bool b)) ++ (rdOf x av ++ rdOf y bv), [], o, []⟩ :=
  ⟨sound_run rfl rfl (fun g a w _ hT _ => by
    have e1 := rep1 hc (flat_of_c hc) hT
    obtain ⟨e2, e3⟩ := rep2 hx hy fx fy (fun p hp => hT p (List.mem_append_right _ hp))
    refine ⟨if b then a.eval x else a.eval y, by simp [execOp, repV e1, asBool], ?_⟩
    cases b with
    | true => simp only [if_true]; rw [← h1 rfl]; exact e2
    | false => simp only [Bool.false_eq_true, if_false]; rw [← h2 rfl]; exact e3), fun p hp => by
      rcases List.mem_append.1 hp with hp | hp
      · exact rd1 hc p hp
      · exact rd2 hx hy p hp, fun _ _ h => by simp [get] at h, dstOk_spec hd, (by intro h; first | rfl | assumption | exact absurd h (by simp [roOp]; done))⟩
/-- 'c && d': the second one under a guard. -/
theorem s_and {c x : Operand} {b d : Bool} {bv : AV} (hc : ev S c = some (vv (.bool b))) (hx : ev S x = some (if b = true then vv (.bool d) else bv)) (fx : flatC x = true) (hd : dstOk dst S.sz = true) :
    Step P ops ⟨dst, .pick c x (.const (.bool false)), ty, pos, after, none⟩ n S ⟨rdOf c (vv (.bool b)) ++ (rdOf x (if b = true then vv (.bool d) else bv) ++ []), [], vv (.bool (b && d)), []⟩ :=
  s_pick (bv := vv (.bool false)) hc hx rfl (fun h => by subst h; simp) (fun h => by subst h; simp) fx rfl hd
theorem s_or {c x : Operand} {b d : Bool} {bv : AV} (hc : ev S c = some (vv (.bool b))) (hx : ev S x = some (if b = false then vv (.bool d) else bv)) (fx : flatC x = true) (hd : dstOk dst S.sz = true) :
    Step P ops ⟨dst, .pick c (.const (.bool true)) x, ty, pos, after, none⟩ n S ⟨rdOf c (vv (.bool b)) ++ ([] ++ rdOf x (if b = false then vv (.bool d) else bv)), [], vv (.bool (b || d)), []⟩ :=
  s_pick (av := vv (.bool true)) hc rfl hx (fun h => by subst h; simp) (fun h => by subst h; simp) rfl fx hd

/-- Under a guard. -/
theorem evif {x : Operand} {b want : Bool} {av bv : AV} (hb : b = want) (h : ev S x = some (if b = want then av else bv)) : ev S x = some av := by rw [h, if_pos hb]
/-- What a guard's temporary says: it holds, or it does not, or it was not asked. -/
def Says (G : AV) (want : Bool) (cnd : Prop) : Prop := (cnd → G = vv (.bool want)) ∧ (¬ cnd → (∃ b, b ≠ want ∧ G = vv (.bool b)) ∨ G = .tup [])
theorem s_guardG {op : Op} {j tg : Nat} {want : Bool} {G out : AV} {c : Cert} (cnd : Prop) (hj : (ops[j]?).bind (·.dst) = some tg) (hG : get S.T tg = some G) (hs : Says G want cnd) (hpp : c.post = c.pre)
    (hpre : ∀ id r, get c.pre id = some r → hget S.H id = some r) (hd : dstOk dst S.sz = true) (h : cnd → Step P ops ⟨dst, op, ty, pos, after, none⟩ n S c) (ho1 : cnd → out = c.out) (ho2 : ¬ cnd → out = .tup [])
    (rd : List (Nat × AV)) (hrd : rd = c.rd.map fun p => (p.1, if @decide cnd (Classical.propDecidable _) = true then p.2 else .any)) :
    Step P ops ⟨dst, op, ty, pos, after, some (j, want)⟩ n S ⟨(tg, G) :: rd, c.pre, out, c.post⟩ := by
  refine ⟨?_, ?_, hpre, dstOk_spec hd, (by intro h; first | rfl | assumption | exact absurd h (by simp [roOp]; done))⟩
  · intro Q K g a w hgood hT hH hnew hK
    have hg0 := hT (tg, G) (by simp)
    have hwant : Region.wanted (⟨dst, op, ty, pos, after, some (j, want)⟩ : Oper) (yielded ops a.tmps) = @decide cnd (Classical.propDecidable _) := by
      have hyy : ∀ v, a.tmps.getD tg undef = v → v ≠ undef → yielded ops a.tmps j = (match v with | .bool b => some b | _ => none) := fun v hv hne => by
        unfold yielded
        rw [hj]
        simp only [Option.bind_some]
        rw [Array.getD_eq_getD_getElem?] at hv
        cases ht : a.tmps[tg]? with
        | none => rw [ht] at hv; exact absurd hv.symm hne
        | some x => rw [ht] at hv; simp only [Option.getD_some] at hv; subst hv; cases x <;> rfl
      unfold Region.wanted
      simp only
      by_cases hc : cnd
      · rw [hs.1 hc] at hg0
        rw [hyy _ (repV hg0) (by simp [undef])]
        simp [hc]
      · rcases hs.2 hc with ⟨b, hb, hGb⟩ | hGb
        · rw [hGb] at hg0
          rw [hyy _ (repV hg0) (by simp [undef])]
          simp [hc, hb]
        · rw [hGb] at hg0
          simp only [RepAV] at hg0
          obtain ⟨vs, h1, h2⟩ := hg0
          have : yielded ops a.tmps j = none := by
            unfold yielded
            rw [hj]
            simp only [Option.bind_some]
            rw [Array.getD_eq_getD_getElem?] at h1
            cases ht : a.tmps[tg]? with
            | none => rfl
            | some x => rw [ht] at h1; simp only [Option.getD_some] at h1; subst h1; rfl
          rw [this]; simp [hc]
    unfold stepWp
    rw [hwant]
    by_cases hbw : cnd
    · rw [if_pos (by simp [hbw])]
      have hs' := (h hbw).snd Q K g a w hgood (fun p hp => ?_) hH hnew (fun g' w' v hB => hK g' w' v ?_)
      · unfold stepWp at hs'
        rw [if_pos (by simp [Region.wanted])] at hs'
        exact hs'
      · have := hT (p.1, if @decide cnd (Classical.propDecidable _) = true then p.2 else .any) (List.mem_cons_of_mem _ (by rw [hrd]; exact List.mem_map.2 ⟨p, hp, rfl⟩))
        rw [if_pos (by simp [hbw])] at this; exact this
      · exact ⟨hB.good, hB.ext, hB.new, by simp only; rw [ho1 hbw]; exact hB.rep, hB.heap, hB.own, hB.ids⟩
    · rw [if_neg (by simp [hbw])]
      refine hK g w undef (behind_same hpp hgood hH ?_)
      simp only
      rw [ho2 hbw]
      simp only [RepAV]
      exact ⟨#[], rfl, by simp only [RepAVs]⟩
  · intro p hp
    rcases List.mem_cons.1 hp with rfl | hp
    · exact .inr hG
    · rw [hrd] at hp
      obtain ⟨q, hq, rfl⟩ := List.mem_map.1 hp
      by_cases hbw : cnd
      · rw [if_pos (by simp [hbw])]; exact (h hbw).rd q hq
      · rw [if_neg (by simp [hbw])]; exact .inl rfl
theorem s_guard {op : Op} {j tg : Nat} {want b : Bool} {c : Cert} (hj : (ops[j]?).bind (·.dst) = some tg) (hb : get S.T tg = some (vv (.bool b))) (hpp : c.post = c.pre)
    (hpre : ∀ id r, get c.pre id = some r → hget S.H id = some r) (hd : dstOk dst S.sz = true) (h : b = want → Step P ops ⟨dst, op, ty, pos, after, none⟩ n S c) :
    Step P ops ⟨dst, op, ty, pos, after, some (j, want)⟩ n S ⟨(tg, vv (.bool b)) :: c.rd.map (fun p => (p.1, if @decide (b = want) (Classical.propDecidable _) = true then p.2 else .any)), c.pre, if b = want then c.out else .tup [], c.post⟩ :=
  s_guardG (b = want) hj hb ⟨fun h => by rw [h], fun h => .inl ⟨b, h, rfl⟩⟩ hpp hpre hd h (fun h => if_pos h) (fun h => if_neg h) _ rfl
/-- Under a guard that is under a guard. -/
theorem s_guard2 {op : Op} {j tg : Nat} {want b1 w1 b2 : Bool} {c : Cert} (hj : (ops[j]?).bind (·.dst) = some tg) (hb : get S.T tg = some (if b1 = w1 then vv (.bool b2) else .tup [])) (hpp : c.post = c.pre)
    (hpre : ∀ id r, get c.pre id = some r → hget S.H id = some r) (hd : dstOk dst S.sz = true) (h : b1 = w1 → b2 = want → Step P ops ⟨dst, op, ty, pos, after, none⟩ n S c) :
    Step P ops ⟨dst, op, ty, pos, after, some (j, want)⟩ n S ⟨(tg, if b1 = w1 then vv (.bool b2) else .tup []) :: c.rd.map (fun p => (p.1, if @decide (b1 = w1 ∧ b2 = want) (Classical.propDecidable _) = true then p.2 else .any)), c.pre, if b1 = w1 then (if b2 = want then c.out else .tup []) else .tup [], c.post⟩ :=
  s_guardG (b1 = w1 ∧ b2 = want) hj hb ⟨fun h => by rw [if_pos h.1, h.2], fun h => by
    by_cases h1 : b1 = w1
    · rw [if_pos h1]; exact .inl ⟨b2, fun h2 => h ⟨h1, h2⟩, rfl⟩
    · rw [if_neg h1]; exact .inr rfl⟩ hpp hpre hd (fun hh => h hh.1 hh.2) (fun h => by rw [if_pos h.1, if_pos h.2]) (fun h => by
    by_cases h1 : b1 = w1
    · rw [if_pos h1, if_neg (fun h2 => h ⟨h1, h2⟩)]
    · rw [if_neg h1]) _ rfl
theorem s_guard3 {op : Op} {j tg : Nat} {want b1 w1 b2 w2 b3 : Bool} {c : Cert} (hj : (ops[j]?).bind (·.dst) = some tg) (hb : get S.T tg = some (if b1 = w1 then (if b2 = w2 then vv (.bool b3) else .tup []) else .tup [])) (hpp : c.post = c.pre)
    (hpre : ∀ id r, get c.pre id = some r → hget S.H id = some r) (hd : dstOk dst S.sz = true) (h : b1 = w1 → b2 = w2 → b3 = want → Step P ops ⟨dst, op, ty, pos, after, none⟩ n S c) :
    Step P ops ⟨dst, op, ty, pos, after, some (j, want)⟩ n S ⟨(tg, if b1 = w1 then (if b2 = w2 then vv (.bool b3) else .tup []) else .tup []) :: c.rd.map (fun p => (p.1, if @decide (b1 = w1 ∧ b2 = w2 ∧ b3 = want) (Classical.propDecidable _) = true then p.2 else .any)), c.pre, if b1 = w1 then (if b2 = w2 then (if b3 = want then c.out else .tup []) else .tup []) else .tup [], c.post⟩ :=
  s_guardG (b1 = w1 ∧ b2 = w2 ∧ b3 = want) hj hb ⟨fun h => by rw [if_pos h.1, if_pos h.2.1, h.2.2], fun h => by
    by_cases h1 : b1 = w1
    · by_cases h2 : b2 = w2
      · rw [if_pos h1, if_pos h2]; exact .inl ⟨b3, fun h3 => h ⟨h1, h2, h3⟩, rfl⟩
      · rw [if_pos h1, if_neg h2]; exact .inr rfl
    · rw [if_neg h1]; exact .inr rfl⟩ hpp hpre hd (fun hh => h hh.1 hh.2.1 hh.2.2) (fun h => by rw [if_pos h.1, if_pos h.2.1, if_pos h.2.2]) (fun h => by
    by_cases h1 : b1 = w1
    · by_cases h2 : b2 = w2
      · rw [if_pos h1, if_pos h2, if_neg (fun h3 => h ⟨h1, h2, h3⟩)]
      · rw [if_pos h1, if_neg h2]
    · rw [if_neg h1]) _ rfl

/-! Parts of values. -/
theorem repAVs_get {g : Gh} : ∀ {vs : List Value} {avs : List AV}, RepAVs g vs avs → ∀ (k : Nat) (av : AV), avs[k]? = some av → ∃ v, vs[k]? = some v ∧ RepAV g v av
  | v :: _, a :: _, h, 0, av, hk => by simp only [RepAVs] at h; simp at hk; subst hk; exact ⟨v, rfl, h.1⟩
  | _ :: _, _ :: _, h, k + 1, av, hk => by
    simp only [RepAVs] at h
    obtain ⟨v, h1, h2⟩ := repAVs_get h.2 k av (by simpa using hk)
    exact ⟨v, by simpa using h1, h2⟩
  | [], [], _, _, _, hk => by simp at hk
  | [], _ :: _, h, _, _, _ => by simp only [RepAVs] at h
  | _ :: _, [], h, _, _, _ => by simp only [RepAVs] at h
theorem s_extract {x : Operand} {k : Nat} {l : List AV} {av : AV} (hx : ev S x = some (.tup l)) (hf : flatC x = true) (hk : l[k]? = some av) (hd : dstOk dst S.sz = true) : Step P ops ⟨dst, .extract x k, ty, pos, after, none⟩ n S ⟨rdOf x (.tup l), [], av, []⟩ :=
  ⟨sound_run rfl rfl (fun g a w _ hT _ => by
    have e1 := rep1' hx hf hT
    simp only [RepAV] at e1
    obtain ⟨vs, h1, h2⟩ := e1
    obtain ⟨v, h3, h4⟩ := repAVs_get h2 k av hk
    refine ⟨v, ?_, h4⟩
    have : vs[k]? = some v := by simpa using h3
    simp [execOp, h1, Instr.extract, this]), rd1 hx, fun _ _ h => by simp [get] at h, dstOk_spec hd, (by intro h; first | rfl | assumption | exact absurd h (by simp [roOp]; done))⟩
theorem s_makeFunc {f : FuncId} {caps : List Operand} {cs : List C} (hc : Opds caps (cs.map AV.c)) (hr : ∀ p ∈ rdsOf caps (cs.map AV.c), get S.T p.1 = some p.2) (hd : dstOk dst S.sz = true) :
    Step P ops ⟨dst, .makeFunc (.func f) #[] caps.toArray, ty, pos, after, none⟩ n S ⟨rdsOf caps (cs.map AV.c), [], .fn f cs, []⟩ :=
  ⟨sound_run rfl rfl (fun g a w _ hT _ => by
    have h1 := opds_rep (a := a) hc hT
    refine ⟨.func (.func f) #[] (caps.map a.eval).toArray, by simp [execOp, Instr.makeFunc], ?_⟩
    simp only [RepAV]
    refine ⟨_, rfl, ?_⟩
    have key : ∀ {xs : List Value} {cs : List C}, RepAVs g xs (cs.map AV.c) → RepCs g xs cs := by
      intro xs
      induction xs with
      | nil => intro cs h; cases cs with
        | nil => trivial
        | cons => simp only [List.map_cons, RepAVs] at h
      | cons x xs ih => intro cs h; cases cs with
        | nil => simp only [List.map_nil, RepAVs] at h
        | cons c cs => simp only [List.map_cons, RepAVs, RepAV] at h; exact ⟨h.1, ih h.2⟩
    exact key h1), fun p hp => .inr (hr p hp), fun _ _ h => by simp [get] at h, dstOk_spec hd, (by intro h; first | rfl | assumption | exact absurd h (by simp [roOp]; done))⟩
end
end Go.Proofs.Ytdmpocojbheoiaa.AM
