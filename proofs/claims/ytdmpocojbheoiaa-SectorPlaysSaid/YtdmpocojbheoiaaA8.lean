/- The abstract machine: rows of code, and where it may go on. -/
import Derived.Test.YtdmpocojbheoiaaA7
namespace Go.Proofs.Ytdmpocojbheoiaa.AM
open Go.RowKit

def QK (nrm ret : St → Prop) (ex : List (Nat × (St → Prop))) : Exit → St → Prop
  | .normal, S => nrm S
  | .ret, S => ret S
  | .exit id, S => match get ex id with | some p => p S | none => False
  | _, _ => False
def wpL (P : Program) (E : Entry) (Q : Exit → St → Prop) : List Code → St → Prop
  | [], S => Q .normal S
  | c :: cs, S => wpS P E c S (Then (wpL P E Q cs) Q)
@[irreducible] def wpK (P : Program) (E : Entry) (cs : List Code) (S : St) (nrm ret : St → Prop) (ex : List (Nat × (St → Prop))) : Prop := wpL P E (QK nrm ret ex) cs S

section
variable {P : Program} {E : Entry} {S : St} {cs : List Code} {nrm ret : St → Prop} {ex : List (Nat × (St → Prop))}
theorem wpK_cons {c : Code} : wpK P E (c :: cs) S nrm ret ex = wpS P E c S (Then (fun S' => wpK P E cs S' nrm ret ex) (QK nrm ret ex)) := by
  unfold wpK; rfl
theorem k_nil (h : nrm S) : wpK P E [] S nrm ret ex := by unfold wpK; exact h
theorem k_seq {a b : Code} (h : wpK P E (a :: b :: cs) S nrm ret ex) : wpK P E (.seq a b :: cs) S nrm ret ex := by
  rw [wpK_cons] at h ⊢
  refine wpS_seq (wpS_mono h (fun e S' hq => ?_))
  cases e with
  | normal => simp only [Then] at hq ⊢; rw [wpK_cons] at hq; exact hq
  | _ => exact hq
theorem k_skip (h : wpK P E cs S nrm ret ex) : wpK P E (.skip :: cs) S nrm ret ex := by
  rw [wpK_cons]; exact wpS_skip h
theorem k_ret (h : ret S) : wpK P E (.ret :: cs) S nrm ret ex := by
  rw [wpK_cons]; exact wpS_ret h
theorem k_exit {id : Nat} {p : St → Prop} (hp : get ex id = some p) (h : p S) : wpK P E (.exit id :: cs) S nrm ret ex := by
  rw [wpK_cons]
  refine wpS_exit ?_
  simp only [Then, QK, hp]
  exact h
theorem k_cond {c : Operand} {x y : Code} {b : Bool} (hc : ev S c = some (vv (.bool b))) (ht : b = true → wpK P E (x :: cs) S nrm ret ex) (hf : b = false → wpK P E (y :: cs) S nrm ret ex) : wpK P E (.cond c x y :: cs) S nrm ret ex := by
  simp only [wpK_cons] at ht hf ⊢
  exact wpS_cond hc ht hf
theorem k_block {id : Nat} {c : Code} (h : wpK P E [c] S (fun S' => wpK P E cs S' nrm ret ex) ret ((id, fun S' => wpK P E cs S' nrm ret ex) :: ex)) : wpK P E (.block id c :: cs) S nrm ret ex := by
  rw [wpK_cons] at h ⊢
  refine wpS_block (wpS_mono h (fun e S' hq => ?_))
  cases e with
  | normal => simp only [Then] at hq; unfold wpK at hq; simp only [wpL, QK] at hq; simp only [inBlk, Then]; unfold wpK; exact hq
  | exit i =>
    simp only [Then, QK, get_cons] at hq
    simp only [inBlk]
    by_cases hi : id = i
    · rw [if_pos hi] at hq; rw [if_pos hi.symm]; exact hq
    · rw [if_neg hi] at hq; rw [if_neg (Ne.symm hi)]; exact hq
  | _ => exact hq
/-- Both ways go on from one state. -/
theorem k_join {c : Code} {X : Type} (F : X → St) (I : X → Prop) (h : wpK P E [c] S (fun S' => ∃ x, I x ∧ Weak E S' (F x)) ret ex) (k : ∀ x, I x → wpK P E cs (F x) nrm ret ex) (hcs : cs.isEmpty = false) : wpK P E (c :: cs) S nrm ret ex := by
  rw [wpK_cons] at h ⊢
  refine wpS_mono (Q := Then (fun S' => wpK P E cs S' nrm ret ex) (QK nrm ret ex)) (wpS_mono h (fun e S' hq => ?_)) (fun _ _ h => h)
  cases e with
  | normal =>
    simp only [Then] at hq ⊢
    unfold wpK at hq
    simp only [wpL, QK] at hq
    obtain ⟨x, hx, hw⟩ := hq
    have := k x hx
    cases cs with
    | nil => simp at hcs
    | cons d ds => rw [wpK_cons] at this ⊢; exact wpS_weak hw this
  | _ => exact hq
theorem k_loop {c : Code} {X : Type} (F : X → St) (I : X → Prop) (μ : X → Nat) (x0 : X) (h0 : I x0) (hw : Weak E S (F x0))
    (round : ∀ x, I x → wpK P E [c] (F x) (fun S' => ∃ x', I x' ∧ μ x' < μ x ∧ Weak E S' (F x')) ret ex) : wpK P E (.loop c :: cs) S nrm ret ex := by
  rw [wpK_cons]
  refine wpS_mono (Q := QK (fun _ => False) ret ex) (wpS_loop F I μ x0 h0 hw (fun x hx => ?_)) (fun e S' hq => ?_)
  · have := round x hx
    rw [wpK_cons] at this
    refine wpS_mono this (fun e S' hq => ?_)
    cases e with
    | normal => simp only [Then] at hq ⊢; unfold wpK at hq; exact hq
    | _ => exact hq
  · cases e with
    | normal => exact hq.elim
    | _ => exact hq
theorem get_nil' {α : Type _} (i : Nat) : get ([] : List (Nat × α)) i = none := rfl
theorem dropK_nil {α : Type _} (ks : List Nat) : dropK ks ([] : List (Nat × α)) = [] := rfl
def St.over (S : St) (N : Nat) (ks : List Nat) (T : List (Nat × AV)) (hs : List Nat) (H : List (Nat × Option R)) : St := { S with T := T ++ dropK ks S.T, H := H ++ dropK hs S.H, N := N }
/-- How a state is written out. -/
theorem nrm_ : (∀ (S : St) (ks : List Nat), S.keep ks = { S with T := ks.filterMap fun t => (get S.T t).map fun v => (t, v), H := dedupH S.H }) ∧
    (dedupH [] = [] ∧ (∀ (k : Nat) (v : R) (l : List (Nat × Option R)), dedupH ((k, some v) :: l) = (k, some v) :: dropK [k] (dedupH l)) ∧ (∀ (k : Nat) (l : List (Nat × Option R)), dedupH ((k, none) :: l) = dropK [k] (dedupH l))) ∧
    (∀ (S : St) (dst : Option Nat) (c : Cert), S.upd dst c = { S with T := match dst with | some d => (d, c.out) :: S.T | none => S.T, H := updH c S.H }) ∧
    (∀ (S : St) (N : Nat) (ks : List Nat) (T : List (Nat × AV)) (hs : List Nat) (H : List (Nat × Option R)), S.over N ks T hs H = { S with T := T ++ dropK ks S.T, H := H ++ dropK hs S.H, N := N }) ∧
    (∀ (c : Cert) (H : List (Nat × Option R)), updH c H = c.post.map (fun p => (p.1, some p.2)) ++ (c.pre.map (fun p => (p.1, none)) ++ H)) ∧
    (∀ (n sz : Nat) (args : List AV) (Hin : List (Nat × R)), initS n sz args Hin = { T := initT 0 args, H := Hin.map fun p => (p.1, some p.2), N := n, sz := sz }) ∧
    (∀ (k : Nat), initT k [] = []) ∧ (∀ (k : Nat) (a : AV) (l : List AV), initT k (a :: l) = (k, a) :: initT (k + 1) l) ∧
    (∀ (k : Nat) (v : AV) (l : List (Nat × AV)) (i : Nat), get ((k, v) :: l) i = if k = i then some v else get l i) ∧ (∀ (k : Nat) (v : Option R) (l : List (Nat × Option R)) (i : Nat), get ((k, v) :: l) i = if k = i then some v else get l i) ∧
    (∀ (i : Nat), get ([] : List (Nat × AV)) i = none) ∧ (∀ (i : Nat), get ([] : List (Nat × Option R)) i = none) ∧
    (∀ (ks : List Nat) (k : Nat) (v : AV) (l : List (Nat × AV)), dropK ks ((k, v) :: l) = if k ∈ ks then dropK ks l else (k, v) :: dropK ks l) ∧ (∀ (ks : List Nat) (k : Nat) (v : Option R) (l : List (Nat × Option R)), dropK ks ((k, v) :: l) = if k ∈ ks then dropK ks l else (k, v) :: dropK ks l) ∧
    (∀ (ks : List Nat), dropK ks ([] : List (Nat × AV)) = []) ∧ (∀ (ks : List Nat), dropK ks ([] : List (Nat × Option R)) = []) ∧
    (∀ (v : IntKind) (x : Int), constAV (.int v x) = vv (.int v x)) ∧ (∀ b : Bool, constAV (.bool b) = vv (.bool b)) ∧ (∀ s : ByteArray, constAV (.string s) = vv (.string s)) ∧ (∀ (A : Option Addr) (n c : Nat), constAV (.slice A n c) = vv (.slice A n c)) ∧ (∀ (A : Option Addr), constAV (.pointer A) = vv (.pointer A)) :=
  ⟨fun _ _ => rfl, ⟨rfl, fun _ _ _ => rfl, fun _ _ => rfl⟩, fun _ _ _ => rfl, fun _ _ _ _ _ _ => rfl, fun _ _ => rfl, fun _ _ _ _ => rfl, fun _ => rfl, fun _ _ _ => rfl, fun _ _ _ _ => get_cons _ _ _ _, fun _ _ _ _ => get_cons _ _ _ _, fun _ => rfl, fun _ => rfl, fun _ _ _ _ => dropK_cons _ _ _ _, fun _ _ _ _ => dropK_cons _ _ _ _, fun _ => rfl, fun _ => rfl, fun _ _ => rfl, fun _ => rfl, fun _ => rfl, fun _ _ _ => rfl, fun _ => rfl⟩
/-- A loop: what its rounds turn is told, of x. -/
theorem k_loopO {c : Code} {X : Type} (N : Nat) (ks : List Nat) (ov : X → List (Nat × AV)) (hs : List Nat) (oh : X → List (Nat × Option R)) (I : X → Prop) (μ : X → Nat) (x0 : X) (h0 : I x0) (hw : Weak E S (S.over N ks (ov x0) hs (oh x0)))
    (round : ∀ x, I x → wpK P E [c] (S.over N ks (ov x) hs (oh x)) (fun S' => ∃ x', I x' ∧ μ x' < μ x ∧ Weak E S' (S.over N ks (ov x') hs (oh x'))) ret ex) : wpK P E (.loop c :: cs) S nrm ret ex :=
  k_loop (fun x => S.over N ks (ov x) hs (oh x)) I μ x0 h0 hw round
theorem k_joinO {c : Code} {X : Type} (N : Nat) (ks : List Nat) (ov : X → List (Nat × AV)) (hs : List Nat) (oh : X → List (Nat × Option R)) (I : X → Prop) (h : wpK P E [c] S (fun S' => ∃ x, I x ∧ Weak E S' (S.over N ks (ov x) hs (oh x))) ret ex) (k : ∀ x, I x → wpK P E cs (S.over N ks (ov x) hs (oh x)) nrm ret ex) (hcs : cs.isEmpty = false) : wpK P E (c :: cs) S nrm ret ex :=
  k_join (fun x => S.over N ks (ov x) hs (oh x)) I h k hcs
theorem k_weak {c : Code} {S' : St} (hw : Weak E S S') (h : wpK P E (c :: cs) S' nrm ret ex) : wpK P E (c :: cs) S nrm ret ex := by
  rw [wpK_cons] at h ⊢; exact wpS_weak hw h
theorem k_keep {c : Code} (ks : List Nat) (h : wpK P E (c :: cs) (S.keep ks) nrm ret ex) : wpK P E (c :: cs) S nrm ret ex := by
  rw [wpK_cons] at h ⊢; exact wpS_keep ks h
theorem k_retype {c : Code} {t : Nat} {av av' : AV} (ht : get S.T t = some av) (hi : Imp av av') (h : wpK P E (c :: cs) { S with T := (t, av') :: S.T } nrm ret ex) : wpK P E (c :: cs) S nrm ret ex := by
  rw [wpK_cons] at h ⊢; exact wpS_retype ht hi h
theorem k_niltok {c : Code} {t : Nat} (e esz : Nat) (ht : get S.T t = some (vv (.slice none 0 0))) (h : wpK P E (c :: cs) { S with T := (t, .c (.tok S.N esz [])) :: S.T, H := (S.N, some (.tok e esz)) :: S.H, N := S.N + 1 } nrm ret ex) : wpK P E (c :: cs) S nrm ret ex := by
  rw [wpK_cons] at h ⊢; exact wpS_niltok e esz ht h
theorem k_nn {c : Code} {t esz : Nat} {rows : List (List I)} (ht : get S.T t = some (.c (.i (.sl esz rows)))) (h1 : ∀ k, rows = [] → wpK P E (c :: cs) { S with T := (t, vv (.slice none 0 k)) :: S.T } nrm ret ex) (h2 : wpK P E (c :: cs) { S with T := (t, .c (.nn esz rows)) :: S.T } nrm ret ex) : wpK P E (c :: cs) S nrm ret ex := by
  simp only [wpK_cons] at h1 h2 ⊢; exact wpS_nn ht h1 h2
theorem in_i64 {x : Int} (h : -9223372036854775808 ≤ x) (k : x ≤ 9223372036854775807) : inK .i64 x := ⟨h, k⟩
theorem in_i32 {x : Int} (h : -2147483648 ≤ x) (k : x ≤ 2147483647) : inK .i32 x := ⟨h, k⟩
theorem in_i16 {x : Int} (h : -32768 ≤ x) (k : x ≤ 32767) : inK .i16 x := ⟨h, k⟩
theorem in_i8 {x : Int} (h : -128 ≤ x) (k : x ≤ 127) : inK .i8 x := ⟨h, k⟩
theorem in_u64 {x : Int} (h : 0 ≤ x) (k : x ≤ 18446744073709551615) : inK .u64 x := ⟨h, k⟩
theorem in_u32 {x : Int} (h : 0 ≤ x) (k : x ≤ 4294967295) : inK .u32 x := ⟨h, k⟩
theorem in_u16 {x : Int} (h : 0 ≤ x) (k : x ≤ 65535) : inK .u16 x := ⟨h, k⟩
theorem in_u8 {x : Int} (h : 0 ≤ x) (k : x ≤ 255) : inK .u8 x := ⟨h, k⟩
theorem impC_nn (esz : Nat) (rows : List (List I)) : ImpC (.nn esz rows) (.i (.sl esz rows)) := fun _ _ h => h.1
theorem impC_nilk (esz k : Nat) : ImpC (.i (.v (.slice none 0 k))) (.i (.sl esz [])) := fun g x h => by
  simp only [RepC] at h ⊢
  cases h
  exact .sl none k esz [] (fun _ _ => undef) (Nat.zero_le _) (by simp) (by simp) (by simp)
theorem rowAt {α : Type _} {enc : α → List I} {xs : List α} {k : Nat} {x : α} (h : xs[k]? = some x) : (xs.map enc).getD k [] = enc x := by
  simp [List.getD_eq_getElem?_getD, h]
/-- A region. What is kept is told; so is the next free name. -/
theorem k_reg {id : Nat} {ops : Array Oper} {S' : St} {certs : List Cert} {d : Code} {ds : List Code} (ks : List Nat) (N' : Nat) (hN : S.N + 8 * ops.size = N') (h : Exec P ops S.N 0 ops.toList S certs S') (k : wpK P E (d :: ds) (St.keep { S' with N := N' } ks) nrm ret ex) : wpK P E (.region id ops false :: d :: ds) S nrm ret ex := by
  rw [wpK_cons]
  subst hN
  rw [wpK_cons] at k
  refine wpS_region h ?_
  simp only [Then]
  rw [wpK_cons]
  exact wpS_keep ks k
theorem k_dreg {id : Nat} {ops : Array Oper} {S' : St} {certs : List Cert} {d : Code} {ds : List Code} (ks : List Nat) (N' : Nat) (hm : P.follows .mixedOrders = true) (hN : S.N + 8 * ops.size = N') (h : Exec P ops S.N 0 ops.toList S certs S') (hok : okDraw ops.toList certs = true) (k : wpK P E (d :: ds) (St.keep { S' with N := N' } ks) nrm ret ex) : wpK P E (.region id ops true :: d :: ds) S nrm ret ex := by
  rw [wpK_cons]
  subst hN
  rw [wpK_cons] at k
  refine wpS_draw hm h hok ?_
  simp only [Then]
  rw [wpK_cons]
  exact wpS_keep ks k
/-- The last region of a row. -/
theorem k_regl {id : Nat} {ops : Array Oper} {S' : St} {certs : List Cert} (N' : Nat) (hN : S.N + 8 * ops.size = N') (h : Exec P ops S.N 0 ops.toList S certs S') (k : nrm { S' with N := N' }) : wpK P E [.region id ops false] S nrm ret ex := by
  rw [wpK_cons]
  subst hN
  refine wpS_region h ?_
  simp only [Then]
  exact k_nil k
theorem k_dregl {id : Nat} {ops : Array Oper} {S' : St} {certs : List Cert} (N' : Nat) (hm : P.follows .mixedOrders = true) (hN : S.N + 8 * ops.size = N') (h : Exec P ops S.N 0 ops.toList S certs S') (hok : okDraw ops.toList certs = true) (k : nrm { S' with N := N' }) : wpK P E [.region id ops true] S nrm ret ex := by
  rw [wpK_cons]
  subst hN
  refine wpS_draw hm h hok ?_
  simp only [Then]
  exact k_nil k

theorem fn_specK {f : FuncId} {fn : Func} {c : Code} {n m : Nat} {args : List AV} {Hin : List (Nat × R)} {res : AV} {Hout : List (Nat × R)} (hf : P.funcs[f]? = some fn) (hb : fn.body = some c) (hsz : args.length ≤ fn.ntmps)
    (ba : belowA n args) (bi : heapBelow n Hin) (br : res.bel m) (bo : heapBelow m Hout) (nm : n ≤ m ∧ m ≤ n + 8)
    (h : ∀ E : Entry, (∀ id, E.g0.alive id → id < n) → wpK P E [c] (initS n fn.ntmps args Hin) (Fin P fn n m res Hout) (Fin P fn n m res Hout) []) : FnSpec P f n m args Hin res Hout := by
  refine fn_spec hf hb hsz ba bi br bo nm (fun E h0 => ?_)
  have := h E h0
  rw [wpK_cons] at this
  refine wpS_mono this (fun e S hq => ?_)
  cases e with
  | normal => simp only [Then] at hq; unfold wpK at hq; exact hq
  | ret => exact hq
  | exit id => simp [Then, QK, get] at hq
  | _ => exact hq
end
end Go.Proofs.Ytdmpocojbheoiaa.AM
