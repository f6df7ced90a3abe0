/- A disk comes back. -/
import Derived.Test.YtdmpocojbheoiaaS8
import Derived.Test.YtdmpocojbheoiaaWLast
import Derived.Laws.CopyOwn
namespace Go.Proofs.Ytdmpocojbheoiaa
open Go.RowKit Go.Shelf Go.Proofs.YtdmpocojbheoiaaW.PrintLast

def kept2 (keep : Int) (n : Nat) : Nat := (min (max keep 0) (n : Int)).toNat
def PD.tear (p : PD) (x : Int × List UInt8) : Int × List UInt8 := (x.1, x.2.take (p.size / 2) ++ (p.kept x.1).drop (p.size / 2))
def PD.back0 (p : PD) (n : Nat) (torn : Bool) : PD :=
  if torn = true ∧ 0 < n then
    let q := p.settled (p.waits.take (n - 1))
    q.settled (((p.waits.drop (n - 1)).take 1).map q.tear)
  else p.settled (p.waits.take n)
def PD.back (p : PD) (keep : Int) (torn : Bool) : PD :=
  { p.fall.back0 (kept2 keep p.waits.length) torn with waits := [], off := false, fuse := none }

theorem row_cap {base : Nat} {w : World} {e sz n cap : Nat} {A : Option Addr} {xs : List Value} (h : w.ownsRow base e sz (.slice A n cap) n xs) : n ≤ cap := by
  rcases h.2 with ⟨he, hn⟩ | ⟨g, cap', cur, he, _, hh, h1, h2, h3, ht⟩
  · injection he with _ _ h3; omega
  · injection he with _ _ h4
    omega

theorem cap_ne {base : Nat} {w : World} {e sz n cap hh : Nat} {A : Option Addr} {xs : List Value} (h : w.ownsRow base e sz (.slice A n cap) n xs) (hl : hh < n) : (cap = hh) = False := eq_false (by have := row_cap h; omega)
theorem info_one : (Try.prog.info? 5).map (·.size) = some 1 := by kernel_rfl
def PD.rise (p : PD) : PD := { p with waits := [], off := false, fuse := none }
theorem drop_take_one {α : Type} : ∀ (l : List α) (m : Nat) (x : α), l[m]? = some x → (l.drop m).take 1 = [x]
  | [], m, x, h => by simp at h
  | y :: r, 0, x, h => by simp at h; subst h; simp
  | y :: r, m + 1, x, h => by simpa using drop_take_one r m x (by simpa using h)
theorem back_eq (q : PD) (m : Nat) (x : Int × List UInt8) (hx : q.waits[m]? = some x) (hh : Nat) (he : hh = q.size / 2) (q7 : PD) (h7 : ({ q with waits := q.waits.set m (x.1, x.2.take hh ++ (q.kept x.1).drop hh) } : PD) = q7) :
    (q7.settled ((q7.waits.drop m).take 1)).rise = (q.settled (((q.waits.drop m).take 1).map q.tear)).rise := by
  subst h7; subst he
  have hm := (List.getElem?_eq_some_iff.1 hx).1
  rw [drop_take_one q.waits m x hx]
  simp only
  rw [drop_take_one (q.waits.set m (x.1, x.2.take (q.size / 2) ++ (q.kept x.1).drop (q.size / 2))) m _ (by rw [List.getElem?_set_self hm])]
  simp [PD.settled, PD.rise, PD.tear]
theorem Mid.back {base : Zn} {w : World} {D : Nat} {p : PD} {M : Nat} {ks ws : List (Int × Buf)} {wv : Value} {fz : Int} (h : Mid base w D p M ks wv ws fz) :
    DRep base (((w.setCell ⟨D, 3, none⟩ (.slice none 0 0)).setCell ⟨D, 4, none⟩ (.bool false)).setCell ⟨D, 6, none⟩ (.bool false)) D p.rise M ks (.slice none 0 0) [] fz ∧
    Touch base w (((w.setCell ⟨D, 3, none⟩ (.slice none 0 0)).setCell ⟨D, 4, none⟩ (.bool false)).setCell ⟨D, 6, none⟩ (.bool false)) := by
  have h1 := heap_setCell_same _ _ 3 _ _ (.slice none 0 0) h.cells
  have h2 := heap_setCell_same _ _ 4 _ _ (.bool false) h1
  have h3 := heap_setCell_same _ _ 6 _ _ (.bool false) h2
  refine ⟨h.empty (p' := p.rise) ?_ (fun k hk => ?_) rfl rfl rfl rfl (fun n hn => by simp [PD.rise] at hn) h.fzb h.fl, ((Touch.setCell h.cells rfl h.nx.1 _).trans (Touch.setCell h1 rfl h.nx.1 _)).trans (Touch.setCell h2 rfl h.nx.1 _)⟩
  · rw [h3]; simp [dcells, PD.rise]
  · rw [Below.heap_setCell _ _ _ _ hk, Below.heap_setCell _ _ _ _ hk, Below.heap_setCell _ _ _ _ hk]

theorem Mid.below {base : Zn} {w w' : World} {D : Nat} {p : PD} {M : Nat} {ks ws : List (Int × Buf)} {wv : Value} {fz : Int} (h : Mid base w D p M ks wv ws fz) (hb : Below w.heap.size w w') : Mid base w' D p M ks wv ws fz := by
  have lt : ∀ {k : Nat} {o : Obj}, w.heap[k]? = some o → w'.heap[k]? = w.heap[k]? := fun h => hb.block _ (Array.getElem?_eq_some_iff.1 h).1
  exact { h with
    cells := (lt h.cells).trans h.cells, mp := h.mp.move (hb.block _ h.mp.lt),
    row := own_move h.row (fun k hk => (own_typed h.row k hk).elim fun c hc => lt hc),
    kb := fun x hx => ⟨(h.kb x hx).1.move (hb.block _ (h.kb x hx).1.lt), (h.kb x hx).2⟩, wb := fun x hx => ⟨(h.wb x hx).1.move (hb.block _ (h.wb x hx).1.lt), (h.wb x hx).2⟩ }

theorem Mid.len {base : Zn} {w : World} {D : Nat} {p : PD} {M : Nat} {ks ws : List (Int × Buf)} {wv : Value} {fz : Int} (h : Mid base w D p M ks wv ws fz) (i : Int) : (p.kept i).length = p.size := by
  rw [h.keq i]; unfold keptOf
  cases hg : getK ks i with
  | none => simp
  | some b => simpa using (h.kb _ (getK_mem hg)).2

theorem wcells_set (b' : Buf) : ∀ (ws : List (Int × Buf)) (m : Nat) (x : Int × Buf), ws[m]? = some x → b'.val = x.2.val → wcells (ws.set m (x.1, b')) = wcells ws
  | [], m, x, h, _ => by simp at h
  | y :: r, 0, x, h, e => by simp at h; subst h; simp [wcells, e]
  | y :: r, m + 1, x, h, e => by
    have := wcells_set b' r m x (by simpa using h) e
    simp only [List.set_cons_succ]
    simp only [wcells, List.flatMap_cons] at this ⊢
    rw [this]
theorem map_g_set (b' : Buf) : ∀ (ws : List (Int × Buf)) (m : Nat) (x : Int × Buf), ws[m]? = some x → b'.g = x.2.g → (ws.set m (x.1, b')).map (fun x => x.2.g) = ws.map fun x => x.2.g
  | [], m, x, h, _ => by simp at h
  | y :: r, 0, x, h, e => by simp at h; subst h; simp [e]
  | y :: r, m + 1, x, h, e => by
    have := map_g_set b' r m x (by simpa using h) e
    simp only [List.set_cons_succ, List.map_cons, this]
theorem nodup_apart {ws : List (Int × Buf)} {m : Nat} {x y : Int × Buf} (nd : (ws.map fun x => x.2.g).Nodup) (hx : ws[m]? = some x) {j : Nat} (hy : ws[j]? = some y) (hne : j ≠ m) : y.2.g ≠ x.2.g := by
  intro e
  obtain ⟨hm, hm2⟩ := List.getElem?_eq_some_iff.1 hx
  obtain ⟨hj, hj2⟩ := List.getElem?_eq_some_iff.1 hy
  exact hne ((List.getElem_inj (i := j) (j := m) (h₀ := by simpa using hj) (h₁ := by simpa using hm) nd).1 (by simp [hj2, hm2, e]))
theorem Mid.copied {base : Zn} {w w' : World} {D : Nat} {p : PD} {M : Nat} {ks ws : List (Int × Buf)} {wv : Value} {fz : Int} (h : Mid base w D p M ks wv ws fz) (m : Nat) (x : Int × Buf) (hx : ws[m]? = some x)
    (bs' : List UInt8) (hl : bs'.length = x.2.bs.length) (hb : BufAt base w' ⟨x.2.g, x.2.cap, bs'⟩) (hs : ∀ k, k ≠ x.2.g → w'.heap[k]? = w.heap[k]?) (hk : ∀ y ∈ ks, y.2.g ≠ x.2.g) :
    Mid base w' D { p with waits := p.waits.set m (x.1, bs') } M ks wv (ws.set m (x.1, ⟨x.2.g, x.2.cap, bs'⟩)) fz := by
  have hxm := List.mem_of_getElem? hx
  obtain ⟨cx, hcx⟩ := (h.wb x hxm).1.typed
  have ne : ∀ {k : Nat} {t : Nat} {c : Array Value}, w.heap[k]? = some (.cells c t (0, 0)) → t ≠ 5 → k ≠ x.2.g := by
    rintro k t c hk ht rfl
    rw [hcx] at hk; injection hk with hk; injection hk with _ hk; exact ht hk.symm
  have hM : M ≠ x.2.g := by
    rintro rfl
    obtain ⟨es, cl, hm, _⟩ := h.mp
    rw [hcx] at hm; simp at hm
  have hwx : wcells (ws.set m (x.1, ⟨x.2.g, x.2.cap, bs'⟩)) = wcells ws := wcells_set _ ws m x hx (by simp [Buf.val, hl])
  refine ⟨(hs D (ne h.cells (by decide))).trans h.cells, h.mp.move (hs M hM), ?_, fun y hy => ⟨(h.kb y hy).1.move (hs _ (hk y hy)), (h.kb y hy).2⟩, ?_, ?_, h.keq, ?_, h.hD, h.hM, h.fzeq, h.fzb, h.sz, h.ct, h.fl, h.nx.1, h.nx.2.1, h.nx.2.2.1, h.nx.2.2.2.1, ?_⟩
  · rw [hwx, List.length_set]
    exact own_move h.row (fun k hk => (own_typed h.row k hk).elim fun c hc => hs k (ne hc (by decide)))
  · intro y hy
    obtain ⟨j, hj⟩ := List.mem_iff_getElem?.1 hy
    rw [List.getElem?_set] at hj
    by_cases hjm : m = j
    · subst hjm
      rw [if_pos rfl] at hj
      split at hj
      · injection hj with hj; subst hj
        exact ⟨hb, hl.trans (h.wb x hxm).2⟩
      · simp at hj
    · rw [if_neg hjm] at hj
      have hym := List.mem_of_getElem? hj
      exact ⟨(h.wb y hym).1.move (hs _ (nodup_apart h.nd hx hj (Ne.symm hjm))), (h.wb y hym).2⟩
  · rw [map_g_set ⟨x.2.g, x.2.cap, bs'⟩ ws m x hx rfl]; exact h.nd
  · simp only [h.weq, List.map_set]
  · intro y hy
    rcases List.mem_or_eq_of_mem_set hy with hy | hy
    · exact h.nx.2.2.2.2 y hy
    · subst hy; exact h.nx.2.2.2.2 x hxm

theorem tear_len {a b : List UInt8} (h : Nat) {hh : Nat} (_ : h = hh) (hlt : hh < a.length) (hl : b.length = a.length) : (a.take hh ++ b.drop hh).length = a.length := by simp [hl]; omega
theorem touch_buf {base : Zn} {w w' : World} {b : Buf} (h : BufAt base w b) (hk : ∀ k, k ≠ b.g → w'.heap[k]? = w.heap[k]?) (ho : w'.os = w.os) (ht : w'.tape = w.tape) (hu : w'.output = w.output) (hs : w'.heap.size = w.heap.size) (hbo : base.o b.g) : Touch base w w' := by
  obtain ⟨c, hc⟩ := h.typed
  refine ⟨ho, ht, hu, by omega, fun k hkl hcc => hk k ?_⟩
  rintro rfl
  rcases hcc with hcc | ⟨cs, t, fr, h1, h2⟩
  · exact hcc hbo
  · rw [hc] at h1; injection h1 with h1; injection h1 with _ h1; subst h1; simp [diskTy] at h2
theorem step_copy_buf {P : Program} {ops : Array Oper} {o : Oper} {a : Act} {w : World} {K : Act → World → Prop} {Q : Exit → Act → World → Prop} {E : Prop} (hgd : o.guard = none) (d s : Operand) (dT sT : TypeId)
    (ho : o.op = .call { callee := .builtin .copy, args := #[d, s], argTypes := #[dT, sT] }) (elem : TypeId) (hu : P.underlying dT = some (.slice elem)) (hsz : (P.info? elem).map (·.size) = some 1)
    {base base' : Nat} (x sv : Buf) (hx : BufAt base w x) (hsv : BufAt base' w sv) (hh : Nat) (hle : hh < x.bs.length) (hl : sv.bs.length = x.bs.length) (c1 c2 : Nat)
    (hd : a.eval d = .slice (some ⟨x.g, hh, none⟩) (x.bs.length - hh) c1) (hs : a.eval s = .slice (some ⟨sv.g, hh, none⟩) (sv.bs.length - hh) c2)
    (h : ∀ w', BufAt base w' ⟨x.g, x.cap, x.bs.take hh ++ sv.bs.drop hh⟩ → (∀ k, k ≠ x.g → w'.heap[k]? = w.heap[k]?) → w'.os = w.os → w'.tape = w.tape → w'.output = w.output → w'.heap.size = w.heap.size → K (a.put o.dst (goInt ((sv.bs.drop hh).map B8).length)) w') :
    if Region.wanted o (yielded ops a.tmps) = true then Oper.wp P o a w K Q else E := by
  have hw : Region.wanted o (yielded ops a.tmps) = true := by simp [Region.wanted, hgd]
  rw [if_pos hw]
  have hx' := hx
  obtain ⟨hlx, hr⟩ := hx
  rcases hr with ⟨hr, _⟩ | ⟨g, cap, cur, hr, hb, hg, h1, h2, h3, h4⟩
  · simp [Buf.val] at hr
  simp only [Buf.val, Value.slice.injEq, Option.some.injEq, Addr.mk.injEq] at hr
  obtain ⟨⟨rfl, _, _⟩, _, rfl⟩ := hr
  have hadd : ∀ j, (⟨sv.g, hh, none⟩ : Addr).add j = ⟨sv.g, hh + j, none⟩ := fun j => by simp [Addr.add]
  have hsrc : ∀ j v, ((sv.bs.drop hh).map B8)[j]? = some v → w.cell? ((⟨sv.g, hh, none⟩ : Addr).add j) = some v := by
    intro j v hv
    rw [hadd]
    simp only [List.getElem?_map, List.getElem?_drop, Option.map_eq_some_iff] at hv
    obtain ⟨u, hu1, rfl⟩ := hv
    have hlt := (List.getElem?_eq_some_iff.1 hu1).1
    have := hsv.at_ (hh + j) hlt
    rw [this, List.getD_eq_getElem?_getD, hu1]; rfl
  have hn : ((sv.bs.drop hh).map B8).length = Nat.min (sv.bs.length - hh) (x.bs.length - hh) := by simp [hl]
  have hfit : hh + ((sv.bs.drop hh).map B8).length ≤ cur.size := by simp; omega
  have hrun := run_copy_row (P := P) w dT sT o.type elem x.g hh (x.bs.length - hh) c1 ⟨sv.g, hh, none⟩ (sv.bs.length - hh) c2 cur _ _ hu hsz hg hn hsrc hfit (b8_one _)
  unfold Oper.wp
  simp only [execOp, ho, resolve, invoke, builtin, hd, hs]
  simp [execOp, ho, resolve, invoke, builtin, hd, hs, hrun, Result.andThen]
  have hfin := h (w.setRow x.g (cur.toList.take hh ++ (sv.bs.drop hh).map B8 ++ cur.toList.drop (hh + ((sv.bs.drop hh).map B8).length)).toArray) ?_ (fun k hk => setRow_other _ _ _ _ hk) rfl rfl rfl (by simp [World.setRow])
  · simp at hfin; exact hfin
  · have hcl : x.bs.length * 1 ≤ cur.toList.length := by simp; omega
    refine ⟨by simp, .inr ⟨x.g, x.cap, _, ?_, hb, setRow_heap w x.g cur _ _ _ hg, ?_, h2, ?_, ?_⟩⟩
    · simp [Buf.val]
    · simp; omega
    · simp; omega
    · have h4' : cur.toList.take x.bs.length = x.bs.map B8 := by simpa using h4
      have e1 : cur.toList.take hh = (x.bs.take hh).map B8 := by
        rw [List.map_take, ← h4', List.take_take, Nat.min_eq_left (by omega)]
      simp only [e1]
      rw [List.take_append_of_le_length (by simp), List.take_of_length_le (by simp)]
      simp

section
variable {base : Zn} {w w' : World} {D : Nat} {p : PD} {M : Nat} {ks ws : List (Int × Buf)} {wv : Value} {fz : Int}
set_option maxHeartbeats 400000 in
theorem stays_mid (h : Mid base w D p M ks wv ws fz) (i : Int) : Calls Try.prog 28 #[.pointer (some ⟨D, 0, none⟩), .int .i64 i] w (SomeBuf w (p.kept i)) := by
  have hc : ∀ j, _ := fun j => cell_of_row w D j _ _ _ h.cells
  have hsz := h.sz
  have hlk := run_lookupK (P := Try.prog) w M _ h.mp Try.underlying47 Try.underlying3 (.slice none 0 0) zeroValue_bytes i
  have hk := h.keq i
  simp only [getK_map, dcells] at hlk hc
  cases hg : getK ks i with
  | none =>
    have hk2 : p.kept i = List.replicate p.size 0 := by rw [hk]; simp [keptOf, hg]
    simp only [hg] at hlk
    have Hlk := hlk
    have H := Lib.hid h; have Hk := Lib.hid hk2; have Hg := Lib.hid hg; clear h hk hk2 hg
    have hmk := fun W => run_make_row' (P := Try.prog) 38 5 (.int .u8 0) 1 Try.underlying38 info_byte rfl .i64 .i64 p.size (by omega) (by omega) W
    go_enter Try.func28, Try.ntmps28
    go_wp2
    go_ret
    refine ⟨w.heap.size, p.size, by rw [Hk.out, List.length_replicate]; rfl, ?_, (Below.refl _ w).alloc (Nat.le_refl _) _⟩
    rw [Hk.out]
    have := World.ownsRow_lit (base := w.heap.size) (e := 5) (size := 1) w (madeCells #[.int .u8 0] p.size) p.size (Nat.le_refl _) (by simp [maxLen]; omega) (by simp [size_madeCells])
    simpa [BufAt, OwnB, Buf.val, toList_madeCells_one, B8] using this
  | some b =>
    have hk2 : p.kept i = b.bs := by rw [hk]; simp [keptOf, hg]
    have hmem := getK_mem hg
    have hbb := h.kb _ hmem
    simp only [hg, Option.map_some, Option.getD_some, Option.isSome_some] at hlk
    unfold Buf.val at hlk
    have Hb := Lib.hid hbb; have Hk := Lib.hid hk2; clear h hk hk2 hg hmem hbb
    go_enter Try.func28, Try.ntmps28
    go_wp2_with ((with_reducible refine (clone_buf (.slice (some ⟨b.g, 0, none⟩) b.bs.length b.cap) b.bs _ Hb.out.1.bytes (by have := Hb.out.2; unfold mostB; simp only at this; omega) (by have := Hb.out.2; simp only at this; omega)).mono ?_); rintro e w' ⟨g, cap, rfl, h1, h2⟩)
    go_ret
    exact ⟨g, cap, by rw [Hk.out]; rfl, by rw [Hk.out]; exact h1, h2⟩

set_option maxRecDepth 100000 in
set_option maxHeartbeats 1000000 in
theorem back_calls (h : DRep base w D p M ks wv ws fz) (hl : ws.length ≤ 1000000) (keep : Int) (torn : Bool) (hbw : base ≤ w.heap.size) :
    Calls Try.prog 14 #[.pointer (some ⟨D, 0, none⟩), .int .i64 keep, .bool torn] w (fun e w' => e = .returned (.tuple #[]) ∧ DiskRep base w' D (p.back keep torn) ∧ Touch base w w') := by
  obtain ⟨A, cap, hwv⟩ := own_slice h.row
  subst hwv
  have hwe : p.waits.length = ws.length := by rw [h.weq]; simp
  have H := Lib.hid h; have Hwe := Lib.hid hwe; clear h hwe
  go_enter Try.func14, Try.ntmps14
  go_wp2_with ((go_at_call 24; refine (fall_calls H.out).mono ?_; rintro e w1 ⟨rfl, hr1, ht1⟩; have hc1 := hr1.cell; have hf1 := hr1.free; simp only [dcells] at hc1; replace hr1 := Lib.hid hr1; replace ht1 := Lib.hid ht1; (have hx := row_heads' hr1.out.row); obtain ⟨b, hA, hcell⟩ := hx; replace hA := Lib.hid hA; replace hcell := Lib.hid hcell))
  have hd3 : w1.cell? ⟨D, 3, none⟩ = some (.slice A ws.length cap) := hc1 3
  obtain ⟨k1, hk1⟩ : ∃ k1, (if keep < 0 then 0 else keep) = k1 := ⟨_, rfl⟩
  have hk2 : (if (ws.length : Int) < k1 then (ws.length : Int) else k1) = (kept2 keep ws.length : Int) := by
    rw [← hk1]; unfold kept2; split <;> split <;> omega
  obtain ⟨n, hn⟩ : ∃ n, n = kept2 keep ws.length := ⟨_, rfl⟩
  rw [← hn] at hk2
  have hnl : n ≤ ws.length := by rw [hn]; unfold kept2; omega
  have hcapn : (n : Int) ≤ (cap : Int) := by
    have := row_cap hr1.out.row; omega
  have Hk1 := Lib.hid hk1; have Hnl := Lib.hid hnl; have Hn := Lib.hid hn; clear hnl hn
  refine start_ (n := 14) (S := fun w' => w'.cell? ⟨D, 3, none⟩ = some (.slice A ws.length cap)) (ds := []) #[false, false, false, false, false, false, false, false, false, false, false, false, false, false] (by kernel_rfl) rfl rfl (hd3) (fun hHeld => ?_)
  refine pure_ (i := 0) (N := some 12) (v := ?_) (a' := ?_) #[true, false, false, false, false, false, false, false, false, false, false, false, false, false] rfl rfl (by kernel_rfl) (fun _ _ _ h => h) (Or.inl ⟨by rfl, ?_⟩) ?_ ?_
  rotate_left
  · intro w'
    go_simp
    with_reducible rfl
  rotate_left
  · simp only [Act.put, List.setIfInBounds_toArray, List.set_cons_zero, List.set_cons_succ, i64_w, i32_w]
    rfl
  refine pure_ (i := 1) (N := some 13) (v := ?_) (a' := ?_) #[true, true, false, false, false, false, false, false, false, false, false, false, false, false] rfl rfl (by kernel_rfl) (fun _ _ _ h => h) (Or.inl ⟨by rfl, ?_⟩) ?_ ?_
  rotate_left
  · intro w'
    go_simp
    with_reducible rfl
  rotate_left
  · simp only [Act.put, List.setIfInBounds_toArray, List.set_cons_zero, List.set_cons_succ, i64_w, i32_w]
    rfl
  refine pure_ (i := 2) (N := some 14) (v := ?_) (a' := ?_) #[true, true, true, false, false, false, false, false, false, false, false, false, false, false] rfl rfl (by kernel_rfl) (fun _ _ _ h => h) (Or.inl ⟨by rfl, ?_⟩) ?_ ?_
  rotate_left
  · intro w'
    go_simp
    with_reducible rfl
  rotate_left
  · simp only [Act.put, List.setIfInBounds_toArray, List.set_cons_zero, List.set_cons_succ, i64_w, i32_w]
    rfl
  refine pure_ (i := 4) (N := some 16) (v := ?_) (a' := ?_) #[true, true, true, false, true, false, false, false, false, false, false, false, false, false] rfl rfl (by kernel_rfl) (fun _ _ _ h => h) (Or.inl ⟨by rfl, ?_⟩) ?_ ?_
  rotate_left
  · intro w'
    go_simp
    with_reducible rfl
  rotate_left
  · simp only [Act.put, List.setIfInBounds_toArray, List.set_cons_zero, List.set_cons_succ, i64_w, i32_w]
    rfl
  refine pure_ (i := 5) (N := some 17) (v := ?_) (a' := ?_) #[true, true, true, false, true, true, false, false, false, false, false, false, false, false] rfl rfl (by kernel_rfl) (fun _ _ _ h => h) (Or.inl ⟨by rfl, ?_⟩) ?_ ?_
  rotate_left
  · intro w'
    go_simp
    with_reducible rfl
  rotate_left
  · simp only [Act.put, List.setIfInBounds_toArray, List.set_cons_zero, List.set_cons_succ, i64_w, i32_w]
    rfl
  refine pure_ (i := 6) (N := some 18) (v := ?_) (a' := ?_) #[true, true, true, false, true, true, true, false, false, false, false, false, false, false] rfl rfl (by kernel_rfl) (fun _ _ _ h => h) (Or.inl ⟨by rfl, ?_⟩) ?_ ?_
  rotate_left
  · intro w'
    go_simp
    with_reducible rfl
  rotate_left
  · simp only [Act.put, List.setIfInBounds_toArray, List.set_cons_zero, List.set_cons_succ, i64_w, i32_w]
    rfl
  refine pure_ (i := 7) (N := some 19) (v := ?_) (a' := ?_) #[true, true, true, false, true, true, true, true, false, false, false, false, false, false] rfl rfl (by kernel_rfl) (fun _ _ _ h => h) (Or.inl ⟨by rfl, ?_⟩) ?_ ?_
  rotate_left
  · intro w'
    go_simp
    with_reducible rfl
  rotate_left
  · simp only [Act.put, List.setIfInBounds_toArray, List.set_cons_zero, List.set_cons_succ, i64_w, i32_w]
    rfl
  refine pure_ (i := 8) (N := some 20) (v := ?_) (a' := ?_) #[true, true, true, false, true, true, true, true, true, false, false, false, false, false] rfl rfl (by kernel_rfl) (fun _ _ _ h => h) (Or.inl ⟨by rfl, ?_⟩) ?_ ?_
  rotate_left
  · intro w'
    go_simp
    with_reducible rfl
  rotate_left
  · simp only [Act.put, List.setIfInBounds_toArray, List.set_cons_zero, List.set_cons_succ, i64_w, i32_w]
    rfl
  refine take_ (i := 3) (N := some 15) (v := ?_) (a' := ?_) #[true, true, true, true, true, true, true, true, true, false, false, false, false, false] rfl rfl (by kernel_rfl) (fun _ _ _ h => h) (Or.inl ⟨by rfl, ?_⟩) hHeld ?_ ?_
  rotate_left
  · intro w' s0
    go_simp
    with_reducible rfl
  rotate_left
  · simp only [Act.put, List.setIfInBounds_toArray, List.set_cons_zero, List.set_cons_succ, i64_w, i32_w]
    rfl
  refine take_ (i := 9) (N := some 21) (v := ?_) (a' := ?_) #[true, true, true, true, true, true, true, true, true, true, false, false, false, false] rfl rfl (by kernel_rfl) (fun _ _ _ h => h) (Or.inl ⟨by rfl, ?_⟩) hHeld ?_ ?_
  rotate_left
  · intro w' s0
    go_simp
    with_reducible rfl
  rotate_left
  · simp only [Act.put, List.setIfInBounds_toArray, List.set_cons_zero, List.set_cons_succ, i64_w, i32_w]
    rfl
  refine pure_ (i := 10) (N := some 22) (v := ?_) (a' := ?_) #[true, true, true, true, true, true, true, true, true, true, true, false, false, false] rfl rfl (by kernel_rfl) (fun _ _ _ h => h) (Or.inl ⟨by rfl, ?_⟩) ?_ ?_
  rotate_left
  · intro w'
    go_simp
    with_reducible rfl
  rotate_left
  · simp only [Act.put, List.setIfInBounds_toArray, List.set_cons_zero, List.set_cons_succ, i64_w, i32_w]
    rfl
  refine pure_ (i := 11) (N := some 23) (v := ?_) (a' := ?_) #[true, true, true, true, true, true, true, true, true, true, true, true, false, false] rfl rfl (by kernel_rfl) (fun _ _ _ h => h) (Or.inl ⟨by rfl, ?_⟩) ?_ ?_
  rotate_left
  · intro w'
    go_simp
    with_reducible rfl
  rotate_left
  · simp only [Act.put, List.setIfInBounds_toArray, List.set_cons_zero, List.set_cons_succ, i64_w, i32_w]
    rfl
  refine pure_ (i := 12) (N := some 24) (v := ?_) (a' := ?_) #[true, true, true, true, true, true, true, true, true, true, true, true, true, false] rfl rfl (by kernel_rfl) (fun _ _ _ h => h) (Or.inl ⟨by rfl, ?_⟩) ?_ ?_
  rotate_left
  · intro w'
    go_simp
    with_reducible rfl
  rotate_left
  · simp only [Act.put, List.setIfInBounds_toArray, List.set_cons_zero, List.set_cons_succ, i64_w, i32_w]
    rfl
  refine pure_ (i := 13) (N := some 6) (v := ?_) (a' := ?_) #[true, true, true, true, true, true, true, true, true, true, true, true, true, true] rfl rfl (by kernel_rfl) (fun _ _ _ h => h) (Or.inl ⟨by rfl, ?_⟩) ?_ ?_
  rotate_left
  · intro w'
    go_simp
    with_reducible rfl
  rotate_left
  · simp only [Act.put, List.setIfInBounds_toArray, List.set_cons_zero, List.set_cons_succ, i64_w, i32_w]
    rfl
  refine done_ (by kernel_rfl) ?_
  have hrd := hr1.out.below (Below.refl _ _).drew
  have hcd : ∀ j x, ws[j]? = some x → w1.drew.cell? ⟨b, j * 2, none⟩ = some (.int .i64 x.1) ∧ w1.drew.cell? ⟨b, j * 2 + 1, none⟩ = some (.slice (some ⟨x.2.g, 0, none⟩) x.2.bs.length x.2.cap) := hcell.out
  have htd : Touch base w w1.drew := ht1.out.trans ⟨rfl, rfl, rfl, Nat.le_refl _, fun _ _ _ => rfl⟩
  clear hc1 hf1 hcell
  generalize w1.drew = w2 at hHeld hrd hcd htd ⊢
  have hc2 := hrd.cell; simp only [dcells] at hc2
  have Hrd := Lib.hid hrd; have Hcd := Lib.hid hcd; have Htd := Lib.hid htd
  have hback : ∀ t, p.back keep t = { p.fall.back0 n t with waits := [], off := false, fuse := none } := fun t => by rw [Hn.out, ← Hwe.out]; rfl
  have Hback := Lib.hid hback
  clear hrd hcd htd hback
  have hcase : (torn = false ∨ n = 0) ∨ (torn = true ∧ ∃ m, n = m + 1) := by
    cases torn
    · exact .inl (.inl rfl)
    · cases n with
      | zero => exact .inl (.inr rfl)
      | succ m => exact .inr ⟨rfl, m, rfl⟩
  rcases hcase with hcase | ⟨rfl, m, rfl⟩
  · have hb0 : p.fall.back0 n torn = p.fall.settled (p.fall.waits.take n) := by
      unfold PD.back0; rw [if_neg]; rintro ⟨h1, h2⟩; rcases hcase with h | h
      · simp [h] at h1
      · omega
    have Hb0 := Lib.hid hb0; clear hb0
    rcases hcase with rfl | rfl
    all_goals
      go_wp2_with (go_at_call 27; refine (settle_mid Hrd.out.mid 0 _ (by have := Hnl.out; omega) hl b Hcd.out A cap (by have := Hnl.out; intro h0; simpa using hA.out (by omega))).mono ?_; rintro e w4 ⟨rfl, hmid, ht4, hb4⟩; have hc4 := cell_of_row w4 D; have hc4' := fun j => hc4 j _ _ _ hmid.cells; have hf4 := fun j => frozen_of_row w4 D j _ _ hmid.cells; clear hc4; simp only [dcells] at hc4'; replace hmid := Lib.hid hmid; replace ht4 := Lib.hid ht4; replace hb4 := Lib.hid hb4)
      all_goals
        go_end0
        have hm := hmid.out.back
        rw [Hback.out, Hb0.out]
        exact ⟨rfl, ⟨M, _, _, _, fz, hm.1⟩, (Htd.out.trans ht4.out).trans hm.2⟩
  · have hb0 : p.fall.back0 (m + 1) true = (p.fall.settled (p.fall.waits.take m)).settled (((p.fall.waits.drop m).take 1).map (p.fall.settled (p.fall.waits.take m)).tear) := by
      unfold PD.back0; rw [if_pos ⟨rfl, by omega⟩]; rfl
    have Hb0 := Lib.hid hb0; clear hb0
    have hml : m < ws.length := by have := Hnl.out; omega
    obtain ⟨x, hx⟩ : ∃ x, ws[m]? = some x := ⟨ws[m], by simp [hml]⟩
    have hA2 := hA.out (by omega)
    subst hA2
    obtain ⟨q, hq⟩ : ∃ q, q = p.fall.settled (p.fall.waits.take m) := ⟨_, rfl⟩
    rw [← hq] at Hb0
    have hqs : q.size = p.size := by rw [hq]; rfl
    obtain ⟨hh, hhe⟩ : ∃ hh, hh = q.size / 2 := ⟨_, rfl⟩
    have hquo : (q.size : Int).tdiv 2 = (hh : Int) := by rw [hhe, Int.tdiv_eq_ediv_of_nonneg (by omega)]; omega
    have hxs := (Hrd.out.wb x (List.mem_of_getElem? hx)).2
    have hxq : x.2.bs.length = q.size := by rw [hqs]; exact hxs
    have Hml := Lib.hid hml; have Hx := Lib.hid hx; have Hxq := Lib.hid hxq; have Hq := Lib.hid hq; have Hhe := Lib.hid hhe; have Hqs := Lib.hid hqs; clear hml hx hxs hxq hq hhe hqs
    go_wp2_with (go_at_call 27; refine (settle_mid Hrd.out.mid 0 m (by have := Hnl.out; omega) hl b Hcd.out (some ⟨b, 0, none⟩) cap (by intro h0; simp)).mono ?_; rintro e w4 ⟨rfl, hmid, ht4, hb4⟩; rw [List.drop_zero, List.drop_zero, ← Hq.out] at hmid; have hc4 := cell_of_row w4 D; have hc4' := fun j => hc4 j _ _ _ hmid.cells; have hf4 := fun j => frozen_of_row w4 D j _ _ hmid.cells; clear hc4; simp only [dcells] at hc4'; (have hq := row_heads' hmid.row); obtain ⟨b', hA', hcc'⟩ := hq; have hbb := hA' (by have := Hml.out; omega); injection hbb with hbb; injection hbb with hbb; subst hbb; obtain ⟨hq0, hq1⟩ := hcc' m x Hx.out; replace hmid := Lib.hid hmid; replace ht4 := Lib.hid ht4; replace hb4 := Lib.hid hb4; replace hcc' := Lib.hid hcc'; clear hA')
    obtain ⟨w5, hw5⟩ : ∃ w5, w4.alloc (.cells #[.int .i64 x.1, .slice (some ⟨x.2.g, 0, none⟩) x.2.bs.length x.2.cap] 63) = w5 := ⟨_, rfl⟩
    obtain ⟨B, hB⟩ : ∃ B, B = w4.heap.size := ⟨_, rfl⟩
    have hb5 : Below w4.heap.size w4 w5 := by rw [← hw5]; exact (Below.refl _ _).alloc (Nat.le_refl _) _
    have hBx : w5.heap[B]? = some (.cells #[.int .i64 x.1, .slice (some ⟨x.2.g, 0, none⟩) x.2.bs.length x.2.cap] 63 (0, 0)) := by rw [← hw5, hB]; exact World.alloc_heap_new w4 _
    have hm5 := hmid.out.below hb5
    have hc5 := fun j => cell_of_row w5 D j _ _ _ hm5.cells; simp only [dcells] at hc5
    have hd0 : w5.cell? ⟨D, 0, none⟩ = some (.int .i64 q.size) := hc5 0
    have hB0 : w5.cell? ⟨B, 0, none⟩ = some (.int .i64 x.1) := by rw [cell_of_row w5 B 0 _ _ _ hBx]; rfl
    have hB1 : w5.cell? ⟨B, 1, none⟩ = some (.slice (some ⟨x.2.g, 0, none⟩) x.2.bs.length x.2.cap) := by rw [cell_of_row w5 B 1 _ _ _ hBx]; rfl
    have hlen1 : (hh : Int) ≤ (x.2.bs.length : Int) := by rw [Hxq.out, Hhe.out]; omega
    have hsz6 := hm5.sz
    have hxb := (hm5.wb x (List.mem_of_getElem? Hx.out)).1
    have hxc : x.2.bs.length ≤ x.2.cap := row_cap hxb
    have hcap1 : (x.2.cap = hh) = False := eq_false (by have := Hxq.out; have := Hhe.out; omega)
    have hwrap : wrap64 (hh : Int) = (hh : Int) := by have := Hxq.out; have := Hhe.out; simp [wrap64, IntKind.wrap, IntKind.signed, IntKind.bits]; omega
    have hlth : hh < x.2.bs.length := by rw [Hxq.out, Hhe.out]; omega
    have Hm5 := Lib.hid hm5; have Hb5 := Lib.hid hb5; have HBx := Lib.hid hBx; have Hw5 := Lib.hid hw5; have HB := Lib.hid hB; have Hxb := Lib.hid hxb; have Hlth := Lib.hid hlth; have Hsz6 := Lib.hid hsz6
    clear hm5 hb5 hBx hw5 hB hxb hlth hsz6 hxc
    rw [Hw5.out, ← HB.out]
    refine start_ (n := 19) (S := fun w' => w'.cell? ⟨D, 0, none⟩ = some (.int .i64 q.size) ∧ w'.cell? ⟨B, 0, none⟩ = some (.int .i64 x.1) ∧ w'.cell? ⟨B, 1, none⟩ = some (.slice (some ⟨x.2.g, 0, none⟩) x.2.bs.length x.2.cap)) (ds := [18]) #[false, false, false, false, false, false, false, false, false, false, false, false, false, false, false, false, false, false, false] (by kernel_rfl) rfl rfl ⟨hd0, hB0, hB1⟩ (fun hHeld => ?_)
    refine pure_ (i := 0) (N := some 44) (v := ?_) (a' := ?_) #[true, false, false, false, false, false, false, false, false, false, false, false, false, false, false, false, false, false, false] rfl rfl (by kernel_rfl) (fun _ _ _ h => h) (Or.inl ⟨by rfl, ?_⟩) ?_ ?_
    rotate_left
    · intro w'
      go_simp
      with_reducible rfl
    rotate_left
    · simp only [Act.put, List.setIfInBounds_toArray, List.set_cons_zero, List.set_cons_succ, i64_w, i32_w]
      rfl
    refine pure_ (i := 2) (N := some 46) (v := ?_) (a' := ?_) #[true, false, true, false, false, false, false, false, false, false, false, false, false, false, false, false, false, false, false] rfl rfl (by kernel_rfl) (fun _ _ _ h => h) (Or.inl ⟨by rfl, ?_⟩) ?_ ?_
    rotate_left
    · intro w'
      go_simp
      with_reducible rfl
    rotate_left
    · simp only [Act.put, List.setIfInBounds_toArray, List.set_cons_zero, List.set_cons_succ, i64_w, i32_w]
      rfl
    refine pure_ (i := 3) (N := some 47) (v := ?_) (a' := ?_) #[true, false, true, true, false, false, false, false, false, false, false, false, false, false, false, false, false, false, false] rfl rfl (by kernel_rfl) (fun _ _ _ h => h) (Or.inl ⟨by rfl, ?_⟩) ?_ ?_
    rotate_left
    · intro w'
      go_simp
      with_reducible rfl
    rotate_left
    · simp only [Act.put, List.setIfInBounds_toArray, List.set_cons_zero, List.set_cons_succ, i64_w, i32_w]
      rfl
    refine pure_ (i := 4) (N := some 48) (v := ?_) (a' := ?_) #[true, false, true, true, true, false, false, false, false, false, false, false, false, false, false, false, false, false, false] rfl rfl (by kernel_rfl) (fun _ _ _ h => h) (Or.inl ⟨by rfl, ?_⟩) ?_ ?_
    rotate_left
    · intro w'
      go_simp
      with_reducible rfl
    rotate_left
    · simp only [Act.put, List.setIfInBounds_toArray, List.set_cons_zero, List.set_cons_succ, i64_w, i32_w]
      rfl
    refine pure_ (i := 8) (N := some 52) (v := ?_) (a' := ?_) #[true, false, true, true, true, false, false, false, true, false, false, false, false, false, false, false, false, false, false] rfl rfl (by kernel_rfl) (fun _ _ _ h => h) (Or.inl ⟨by rfl, ?_⟩) ?_ ?_
    rotate_left
    · intro w'
      go_simp
      with_reducible rfl
    rotate_left
    · simp only [Act.put, List.setIfInBounds_toArray, List.set_cons_zero, List.set_cons_succ, i64_w, i32_w]
      rfl
    refine pure_ (i := 9) (N := some 53) (v := ?_) (a' := ?_) #[true, false, true, true, true, false, false, false, true, true, false, false, false, false, false, false, false, false, false] rfl rfl (by kernel_rfl) (fun _ _ _ h => h) (Or.inl ⟨by rfl, ?_⟩) ?_ ?_
    rotate_left
    · intro w'
      go_simp
      with_reducible rfl
    rotate_left
    · simp only [Act.put, List.setIfInBounds_toArray, List.set_cons_zero, List.set_cons_succ, i64_w, i32_w]
      rfl
    refine pure_ (i := 12) (N := some 56) (v := ?_) (a' := ?_) #[true, false, true, true, true, false, false, false, true, true, false, false, true, false, false, false, false, false, false] rfl rfl (by kernel_rfl) (fun _ _ _ h => h) (Or.inl ⟨by rfl, ?_⟩) ?_ ?_
    rotate_left
    · intro w'
      go_simp
      with_reducible rfl
    rotate_left
    · simp only [Act.put, List.setIfInBounds_toArray, List.set_cons_zero, List.set_cons_succ, i64_w, i32_w]
      rfl
    refine pure_ (i := 13) (N := some 57) (v := ?_) (a' := ?_) #[true, false, true, true, true, false, false, false, true, true, false, false, true, true, false, false, false, false, false] rfl rfl (by kernel_rfl) (fun _ _ _ h => h) (Or.inl ⟨by rfl, ?_⟩) ?_ ?_
    rotate_left
    · intro w'
      go_simp
      with_reducible rfl
    rotate_left
    · simp only [Act.put, List.setIfInBounds_toArray, List.set_cons_zero, List.set_cons_succ, i64_w, i32_w]
      rfl
    refine pure_ (i := 14) (N := some 58) (v := ?_) (a' := ?_) #[true, false, true, true, true, false, false, false, true, true, false, false, true, true, true, false, false, false, false] rfl rfl (by kernel_rfl) (fun _ _ _ h => h) (Or.inl ⟨by rfl, ?_⟩) ?_ ?_
    rotate_left
    · intro w'
      go_simp
      with_reducible rfl
    rotate_left
    · simp only [Act.put, List.setIfInBounds_toArray, List.set_cons_zero, List.set_cons_succ, i64_w, i32_w]
      rfl
    refine take_ (i := 1) (N := some 45) (v := ?_) (a' := ?_) #[true, true, true, true, true, false, false, false, true, true, false, false, true, true, true, false, false, false, false] rfl rfl (by kernel_rfl) (fun _ _ _ h => h) (Or.inl ⟨by rfl, ?_⟩) hHeld ?_ ?_
    rotate_left
    · rintro w' ⟨s0, s1, s2⟩
      go_simp
      with_reducible rfl
    rotate_left
    · simp only [Act.put, List.setIfInBounds_toArray, List.set_cons_zero, List.set_cons_succ, i64_w, i32_w]
      rfl
    refine take_ (i := 5) (N := some 49) (v := ?_) (a' := ?_) #[true, true, true, true, true, true, false, false, true, true, false, false, true, true, true, false, false, false, false] rfl rfl (by kernel_rfl) (fun _ _ _ h => h) (Or.inl ⟨by rfl, ?_⟩) hHeld ?_ ?_
    rotate_left
    · rintro w' ⟨s0, s1, s2⟩
      go_simp
      with_reducible rfl
    rotate_left
    · simp only [Act.put, List.setIfInBounds_toArray, List.set_cons_zero, List.set_cons_succ, i64_w, i32_w]
      rfl
    refine pure_ (i := 6) (N := some 50) (v := ?_) (a' := ?_) #[true, true, true, true, true, true, true, false, true, true, false, false, true, true, true, false, false, false, false] rfl rfl (by kernel_rfl) (fun _ _ _ h => h) (Or.inl ⟨by rfl, ?_⟩) ?_ ?_
    rotate_left
    · intro w'
      go_simp
      with_reducible rfl
    rotate_left
    · simp only [Act.put, List.setIfInBounds_toArray, List.set_cons_zero, List.set_cons_succ, i64_w, i32_w]
      rfl
    refine pure_ (i := 7) (N := some 51) (v := ?_) (a' := ?_) #[true, true, true, true, true, true, true, true, true, true, false, false, true, true, true, false, false, false, false] rfl rfl (by kernel_rfl) (fun _ _ _ h => h) (Or.inl ⟨by rfl, ?_⟩) ?_ ?_
    rotate_left
    · intro w'
      go_simp
      with_reducible rfl
    rotate_left
    · simp only [Act.put, List.setIfInBounds_toArray, List.set_cons_zero, List.set_cons_succ, i64_w, i32_w]
      rfl
    refine take_ (i := 10) (N := some 54) (v := ?_) (a' := ?_) #[true, true, true, true, true, true, true, true, true, true, true, false, true, true, true, false, false, false, false] rfl rfl (by kernel_rfl) (fun _ _ _ h => h) (Or.inl ⟨by rfl, ?_⟩) hHeld ?_ ?_
    rotate_left
    · rintro w' ⟨s0, s1, s2⟩
      go_simp
      with_reducible rfl
    rotate_left
    · simp only [Act.put, List.setIfInBounds_toArray, List.set_cons_zero, List.set_cons_succ, i64_w, i32_w]
      rfl
    refine take_ (i := 15) (N := some 59) (v := ?_) (a' := ?_) #[true, true, true, true, true, true, true, true, true, true, true, false, true, true, true, true, false, false, false] rfl rfl (by kernel_rfl) (fun _ _ _ h => h) (Or.inl ⟨by rfl, ?_⟩) hHeld ?_ ?_
    rotate_left
    · rintro w' ⟨s0, s1, s2⟩
      go_simp
      with_reducible rfl
    rotate_left
    · simp only [Act.put, List.setIfInBounds_toArray, List.set_cons_zero, List.set_cons_succ, i64_w, i32_w]
      rfl
    refine pure_ (i := 16) (N := some 60) (v := ?_) (a' := ?_) #[true, true, true, true, true, true, true, true, true, true, true, false, true, true, true, true, true, false, false] rfl rfl (by kernel_rfl) (fun _ _ _ h => h) (Or.inl ⟨by rfl, ?_⟩) ?_ ?_
    rotate_left
    · intro w'
      go_simp
      with_reducible rfl
    rotate_left
    · simp only [Act.put, List.setIfInBounds_toArray, List.set_cons_zero, List.set_cons_succ, i64_w, i32_w]
      rfl
    refine one_ (i := 11) (N := some 55) #[true, true, true, true, true, true, true, true, true, true, true, true, true, true, true, true, true, false, false] rfl rfl (by kernel_rfl) (by decide) (fun K hK => ?_)
    refine goes_ Try.func28 (by kernel_rfl) rfl #[.pointer (some ⟨D, 0, none⟩), .int .i64 x.1] (by rfl) rfl rfl (by simp only [List.map_toArray, List.map_cons, List.map_nil]; rfl) ?_
    with_reducible refine (stays_mid (Hm5.out.below (Below.refl _ _).drew) x.1).mono ?_
    rintro e w6 ⟨g1, c1, rfl, hbuf1, hbel1⟩
    refine ⟨_, rfl, ?_⟩
    have hbel1 : Below w5.heap.size w5 w6 := (Below.refl _ _).drew.trans hbel1
    have hlen3 : (q.kept x.1).length = x.2.bs.length := (Hm5.out.len x.1).trans Hxq.out.symm
    have hlen2 : (hh : Int) ≤ ((q.kept x.1).length : Int) := by rw [hlen3]; exact hlen1
    have hcap2 : (c1 = hh) = False := cap_ne hbuf1 (by show hh < (q.kept x.1).length; rw [hlen3]; exact Hlth.out)
    refine hK.out _ _ ⟨(cell_below hbel1 hd0), (cell_below hbel1 hB0), (cell_below hbel1 hB1)⟩ (fun hHeld => ?_)
    clear hK K
    refine norm_ (a' := ?_) ?_ ?_
    rotate_left
    · show Act.put _ (some 55) _ = _
      simp only [Act.put, List.setIfInBounds_toArray, List.set_cons_zero, List.set_cons_succ, i64_w, i32_w]
      rfl
    refine pure_ (i := 17) (N := some 61) (v := ?_) (a' := ?_) #[true, true, true, true, true, true, true, true, true, true, true, true, true, true, true, true, true, true, false] rfl rfl (by kernel_rfl) (fun _ _ _ h => h) (Or.inl ⟨by rfl, ?_⟩) ?_ ?_
    rotate_left
    · intro w'
      go_simp
      with_reducible rfl
    rotate_left
    · simp only [Act.put, List.setIfInBounds_toArray, List.set_cons_zero, List.set_cons_succ, i64_w, i32_w]
      rfl
    refine last_ (i := 18) (N := some 62) #[true, true, true, true, true, true, true, true, true, true, true, true, true, true, true, true, true, true, true] rfl rfl (by kernel_rfl) (by decide) (fun K hK => ?_)
    refine step_copy_buf rfl _ _ _ _ rfl 5 Try.underlying38 info_one x.2 ⟨g1, c1, q.kept x.1⟩ (Hxb.out.move (hbel1.block _ Hxb.out.lt)) hbuf1 hh Hlth.out hlen3 _ (c1 - hh) rfl (by show _ = Value.slice (some ⟨g1, hh, none⟩) ((q.kept x.1).length - hh) (c1 - hh); rw [hlen3]; rfl) ?_
    intro w7 hbuf7 hk7 ho7 ht7 hou7 hs7
    refine hK.out _ _ ?_
    clear hK K
    refine norm_ (a' := ?_) ?_ ?_
    rotate_left
    · show Act.put _ (some 62) _ = _
      simp only [Act.put, List.setIfInBounds_toArray, List.set_cons_zero, List.set_cons_succ, i64_w, i32_w]
      rfl
    refine done_ (by kernel_rfl) ?_
    have hm6 := Hm5.out.below hbel1
    have hbel := (Hb5.out.trans (hbel1.mono Hb5.out.size))
    have hkx : ∀ y ∈ putAll ks ((ws.drop 0).take m), y.2.g ≠ x.2.g := by
      intro y hy
      rcases putAll_mem _ _ _ hy with hy | hy
      · exact Hrd.out.dj y hy x (List.mem_of_getElem? Hx.out)
      · obtain ⟨j, hj⟩ := List.mem_iff_getElem?.1 hy
        rw [List.drop_zero, List.getElem?_take] at hj
        split at hj
        · exact nodup_apart Hrd.out.nd Hx.out hj (by omega)
        · simp at hj
    have hbl : (x.2.bs.take hh ++ (q.kept x.1).drop hh).length = x.2.bs.length := tear_len hh rfl Hlth.out hlen3
    have hm7 := hm6.copied m x Hx.out (x.2.bs.take hh ++ (q.kept x.1).drop hh) hbl hbuf7 hk7 hkx
    obtain ⟨ws7, hws7⟩ : ∃ ws7, ws.set m (x.1, ⟨x.2.g, x.2.cap, x.2.bs.take hh ++ (q.kept x.1).drop hh⟩) = ws7 := ⟨_, rfl⟩
    obtain ⟨q7, hq7⟩ : ∃ q7, ({ q with waits := q.waits.set m (x.1, x.2.bs.take hh ++ (q.kept x.1).drop hh) } : PD) = q7 := ⟨_, rfl⟩
    have hl7 : ws7.length = ws.length := by rw [← hws7, List.length_set]
    simp only [hws7, hq7] at hm7
    rw [← hl7] at hm7
    have hT7 : Touch base w5 w7 := (Touch.of_below hbel1).trans (touch_buf (hm6.wb x (List.mem_of_getElem? Hx.out)).1 hk7 ho7 ht7 hou7 hs7 (hm6.nx.2.2.2.2 x (List.mem_of_getElem? Hx.out)))
    have hT5 : Touch base w4 w5 := Touch.of_below Hb5.out
    have Hm7 := Lib.hid hm7; have Ht7 := Lib.hid hT7; have Ht5 := Lib.hid hT5; have Hl7 := Lib.hid hl7; have Hws7 := Lib.hid hws7; have Hq7 := Lib.hid hq7
    have hrow7 := row_heads' hm7.row
    obtain ⟨b7, hA7, hcc7⟩ := hrow7
    have hbb := hA7 (by rw [hl7]; exact Nat.lt_of_le_of_lt (Nat.zero_le _) Hml.out)
    injection hbb with hbb; injection hbb with hbb
    subst hbb
    have Hcc7 := Lib.hid hcc7
    have hcapm : (cap = m) = False := cap_ne Hrd.out.row Hml.out
    clear hm7 hT7 hT5 hl7 hws7 hq7 hcc7 hA7 hm6 hbel hkx hbl hbuf7 hk7 ho7 ht7 hou7 hs7 hHeld hbuf1 hbel1 hc5 hd0 hB0 hB1 hlen1 hcap1 hwrap hlen3 hlen2 hcap2 hquo hc4' hf4 hq0 hq1 hc2 hd3
    go_wp2_with (go_at_call 27; refine (settle_mid Hm7.out m 1 (by rw [Hl7.out]; exact Hml.out) (by rw [Hl7.out]; exact hl) b Hcc7.out (some ⟨b, m * 2, none⟩) _ (fun _ => rfl)).mono ?_; rintro e w8 ⟨rfl, hmid8, ht8, hb8⟩; have hc8 := cell_of_row w8 D; have hc8' := fun j => hc8 j _ _ _ hmid8.cells; have hf8 := fun j => frozen_of_row w8 D j _ _ hmid8.cells; clear hc8; simp only [dcells] at hc8'; replace hmid8 := Lib.hid hmid8; replace ht8 := Lib.hid ht8; replace hb8 := Lib.hid hb8)
    go_end0
    have hm := hmid8.out.back
    have hxw : q.waits[m]? = some (x.1, x.2.bs) := by
      have e1 : q.waits = ws.map fun x => (x.1, x.2.bs) := hmid.out.weq
      rw [e1, List.getElem?_map, Hx.out]; rfl
    have hqw : p.fall.waits = q.waits := by rw [Hq.out]; rfl
    rw [back_eq q m _ hxw hh Hhe.out q7 Hq7.out] at hm
    rw [Hback.out, Hb0.out, hqw]
    exact ⟨rfl, ⟨M, _, _, _, fz, hm.1⟩, ((((Htd.out.trans ht4.out).trans Ht5.out).trans Ht7.out).trans ht8.out).trans hm.2⟩
end
end Go.Proofs.Ytdmpocojbheoiaa
