/- The abstract machine: more operations. -/
import Derived.Test.YtdmpocojbheoiaaA8
import Derived.Laws.IdiomStrings
import Derived.Laws.BytesArg
namespace Go.Proofs.Ytdmpocojbheoiaa.AM
open Go.RowKit

section
variable {P : Program} {ops : Array Oper} {n : Nat} {S : St} {dst : Option Nat} {ty : TypeId} {pos : String} {after : Array Edge}

/-- append to nil. -/
theorem s_append_nil {t e : TypeId} {x y : Operand} {esz bytes : Nat} {rows' : List (List I)} {cy : C} (ht : tyElem P t e esz bytes) (hx : ev S x = some (vv (.slice none 0 0))) (hy : ev S y = some (.c cy)) (hi : ImpC cy (.i (.sl esz rows')))
    (hb : rows'.length * bytes ≤ 140737488355328) (hd : dstOk dst S.sz = true) :
    Step P ops ⟨dst, .call { callee := .builtin .append, args := #[x, y], argTypes := #[t, t] }, ty, pos, after, none⟩ n S ⟨rdOf x (vv (.slice none 0 0)) ++ rdOf y (.c cy), [], .c (.tok n esz rows'), [(n, .tok e esz)]⟩ := by
  refine ⟨fun Q K g a w hgood hT hH hn hK => ?_, rd2 hx hy, fun _ _ h => by simp [get] at h, dstOk_spec hd, (by intro h; first | rfl | assumption | exact absurd h (by simp [roOp]; done))⟩
  unfold stepWp
  rw [if_pos (by simp [Region.wanted])]
  refine .inl ?_
  obtain ⟨e1, e2⟩ := rep2 hx hy (flat_of_c hx) (flat_of_c hy) hT
  have e1 := repV e1
  obtain ⟨A2, c2, us, hy1, hy2, hy3⟩ := app_src hgood (c_sl e2 hi)
  obtain ⟨v', w', hrun, hown', hcase⟩ := run_app (P := P) w ht ty _ 0 [] (World.ownsRow_nil w 0 e esz) A2 rows'.length c2 us hy2.len hy3 hy2.one (by simpa using hb)
  have hexec : (execOp a.eval (⟨dst, .call { callee := .builtin .append, args := #[x, y], argTypes := #[t, t] }, ty, pos, after, none⟩ : Oper)).run P w = .ok (.value v') w' := by
    simp only [execOp, resolve, invoke, builtin, Sem.run_bind, Sem.run_pure, Result.andThen_ok, List.map_toArray, List.map_cons, List.map_nil, e1, hy1, hrun]
  unfold Oper.wp
  rw [hexec]
  have e0 : (Value.slice none 0 0).ownBlock = none := rfl
  rw [e0] at hcase
  simp only [List.nil_append, Nat.zero_add] at hown'
  have hgr : w.grownBy w' none := by rcases hcase with ⟨_, h⟩ | ⟨_, h⟩ <;> exact h
  refine hK _ w' v' (behind_tok (all := us) rfl rfl hgood hn hown' hgr.os hgr.tape hgr.output hgr.size (fun k hk _ => hgr.block k hk (by simp)) (fun b hb => .inl ?_) (fun b ⟨i, r, h1, _⟩ => by simp [get] at h1) (fun i h1 => by simp [get] at h1) hy2.hl hy2.rep)
  rcases hcase with ⟨h1, _⟩ | ⟨h1, _⟩
  · rw [h1] at hb; cases hb
  · rw [h1] at hb; injection hb with hb; omega

theorem s_max {x y : Operand} {tys : Array TypeId} {k : IntKind} {a b : Int} (hx : ev S x = some (vv (.int k a))) (hy : ev S y = some (vv (.int k b))) (hd : dstOk dst S.sz = true) :
    Step P ops ⟨dst, .call { callee := .builtin .max, args := #[x, y], argTypes := tys }, ty, pos, after, none⟩ n S ⟨rdOf x (vv (.int k a)) ++ rdOf y (vv (.int k b)), [], vv (.int k (max a b)), []⟩ :=
  ⟨sound_run rfl rfl (fun g ac w _ hT _ => by
    obtain ⟨e1, e2⟩ := rep2 hx hy (flat_of_c hx) (flat_of_c hy) hT
    refine ⟨.int k (max a b), ?_, rep_vv rfl⟩
    have hm : (if b > a then b else a) = max a b := by split <;> omega
    simp [execOp, resolve, invoke, builtin, Builtin.max_, repV e1, repV e2, Builtin.max2, hm]), rd2 hx hy, fun _ _ h => by simp [get] at h, dstOk_spec hd, (by intro h; first | rfl | assumption | exact absurd h (by simp [roOp]; done))⟩
theorem s_min {x y : Operand} {tys : Array TypeId} {k : IntKind} {a b : Int} (hx : ev S x = some (vv (.int k a))) (hy : ev S y = some (vv (.int k b))) (hd : dstOk dst S.sz = true) :
    Step P ops ⟨dst, .call { callee := .builtin .min, args := #[x, y], argTypes := tys }, ty, pos, after, none⟩ n S ⟨rdOf x (vv (.int k a)) ++ rdOf y (vv (.int k b)), [], vv (.int k (min a b)), []⟩ :=
  ⟨sound_run rfl rfl (fun g ac w _ hT _ => by
    obtain ⟨e1, e2⟩ := rep2 hx hy (flat_of_c hx) (flat_of_c hy) hT
    refine ⟨.int k (min a b), ?_, rep_vv rfl⟩
    have hm : (if b < a then b else a) = min a b := by split <;> omega
    simp [execOp, resolve, invoke, builtin, Builtin.min_, repV e1, repV e2, Builtin.min2, hm]), rd2 hx hy, fun _ _ h => by simp [get] at h, dstOk_spec hd, (by intro h; first | rfl | assumption | exact absurd h (by simp [roOp]; done))⟩

/-! Strings. -/
def str (bs : List UInt8) : Value := .string ⟨bs.toArray⟩
def eU8 (b : UInt8) : List I := [.v (.int .u8 (b.toNat : Int))]
theorem beqL (a b : List UInt8) : (a == b) = decide (a = b) := by rw [Bool.eq_iff_iff]; simp
theorem s_streql {t t' : TypeId} {x y : Operand} {a b : List UInt8} (hx : ev S x = some (vv (str a))) (hy : ev S y = some (vv (str b))) (hd : dstOk dst S.sz = true) :
    Step P ops ⟨dst, .binOp .eql t x y t', ty, pos, after, none⟩ n S ⟨rdOf x (vv (str a)) ++ rdOf y (vv (str b)), [], vv (.bool (decide (a = b))), []⟩ :=
  s_eqrun hx hy (flat_of_c hx) (flat_of_c hy) (fun g u v w hu hv => by
    have e1 := repV hu
    have e2 := repV hv
    subst e1 e2
    have hb : ((⟨a.toArray⟩ : ByteArray).toList == (⟨b.toArray⟩ : ByteArray).toList) = decide (a = b) := by
      rw [ByteArray.toList_eq, ByteArray.toList_eq]
      simp only
      rw [Bool.eq_iff_iff]; simp
    simp [str, eqGuard, binOp, Op.stringOp, beqL]) hd
theorem s_strneq {t t' : TypeId} {x y : Operand} {a b : List UInt8} (hx : ev S x = some (vv (str a))) (hy : ev S y = some (vv (str b))) (hd : dstOk dst S.sz = true) :
    Step P ops ⟨dst, .binOp .neq t x y t', ty, pos, after, none⟩ n S ⟨rdOf x (vv (str a)) ++ rdOf y (vv (str b)), [], vv (.bool (!decide (a = b))), []⟩ :=
  s_eqrun hx hy (flat_of_c hx) (flat_of_c hy) (fun g u v w hu hv => by
    have e1 := repV hu
    have e2 := repV hv
    subst e1 e2
    have hb : ((⟨a.toArray⟩ : ByteArray).toList == (⟨b.toArray⟩ : ByteArray).toList) = decide (a = b) := by
      rw [ByteArray.toList_eq, ByteArray.toList_eq]
      simp only
      rw [Bool.eq_iff_iff]; simp
    simp [str, eqGuard, binOp, Op.stringOp, beqL]) hd

theorem repI_v {G : GH} {x y : Value} (h : RepI G x (.v y)) : x = y := by cases h; rfl
/-- string(b). -/
theorem s_bts {s d e : TypeId} {x : Operand} {bs : List UInt8} {cx : C} (hs : P.underlying s = some (.slice e)) (he : P.underlying e = some (.int .u8)) (hdt : P.underlying d = some .string) (hx : ev S x = some (.c cx)) (hi : ImpC cx (.i (.sl 1 (bs.map eU8)))) (hd : dstOk dst S.sz = true) :
    Step P ops ⟨dst, .convert s d x, ty, pos, after, none⟩ n S ⟨rdOf x (.c cx), [], vv (str bs), []⟩ :=
  ⟨sound_run rfl rfl (fun g a w hgood hT _ => by
    obtain ⟨A, cap, us, h1, h2, h3⟩ := app_src hgood (c_sl (rep1' hx (flat_of_c hx) hT) hi)
    refine ⟨str bs, ?_, rep_vv rfl⟩
    suffices hsu : (convert s d (.slice A bs.length cap)).run P w = .ok (str bs) w by
      simp only [execOp, h1, List.length_map, Sem.run_bind, hsu, Result.andThen_ok, Sem.run_pure]
    cases bs with
    | nil =>
      cases A with
      | none => exact run_convert_bytes_nil w s e hs he _ _ d hdt
      | some ad => exact run_convert_bytes_back w s d e ad cap [] hs he hdt (fun j hj => absurd hj (by simp))
    | cons b0 bs0 =>
      obtain ⟨ad, h4, h5⟩ := h3 (by simp)
      subst h4
      refine run_convert_bytes_back w s d e ad cap (b0 :: bs0) hs he hdt (fun j hj => ?_)
      have hl := h2.len
      have hj2 : j < us.length := by rw [hl]; simpa using hj
      have h6 := h2.rep j us[j] (.v (.int .u8 ((b0 :: bs0)[j].toNat : Int))) (by simp [hj2]) (by
        have := flat_get ((b0 :: bs0).map eU8) j 0 h2.hl (by omega)
        simp only [Nat.mul_one, Nat.add_zero] at this
        rw [this, List.getD_eq_getElem?_getD, List.getElem?_map, List.getElem?_eq_getElem hj]; rfl)
      rw [← repI_v h6]
      exact h5 j _ (by simp [hj2])), rd1 hx, fun _ _ h => by simp [get] at h, dstOk_spec hd, (by intro h; first | rfl | assumption | exact absurd h (by simp [roOp]; done))⟩
end
end Go.Proofs.Ytdmpocojbheoiaa.AM
