/- Proved here: the law SectorPlays answers true at every input, and leaves its arguments as they read (sectorPlays_holds). Conditions: none. -/
import Derived.Test.YtdmpocojbheoiaaD6
import Derived.Test.YtdmpocojbheoiaaRows
import Derived.ProofKit
import Derived.Deep.Slices
import Derived.Deep.OwnRows
import Derived.RowKitTokens
import Derived.WideKeyArgs
namespace Go.Proofs.Ytdmpocojbheoiaa.AM
open Go.ChangeShapes Go.WideShapes Go.ChangeAt Go.RowKit Go.Deep
set_option linter.unusedVariables false
set_option linter.unusedSimpArgs false

def gw (W : World) : GH := fun b j => W.cell? ⟨b, j, none⟩
section
variable {H : Type} {enc : TypeId × Value → H} {W : World}
/-- A slice, of elements that are read as rows. -/
theorem open_rows {α : Type} {t e esz fuel : Nat} {cs : List Value} {x : DataW H × List MemPlace} (f : α → List I) (ok : α → Prop) (ht : Try.prog.underlying t = some (.slice e)) (hce : Try.prog.cellsOf e = esz) (he0 : 0 < esz)
    (hel : ∀ (n : Nat) (cs : List Value) (y : DataW H × List MemPlace), DataW.trod enc Try.prog W 0 (fun _ => true) true n e cs = some y → ∃ o, ok o ∧ (f o).length = esz ∧ cs.length = esz ∧ ∀ (j : Nat) u c, cs[j]? = some u → (f o)[j]? = some c → RepI (gw W) u c)
    (h : DataW.trod enc Try.prog W 0 (fun _ => true) true fuel t cs = some x) : ∃ (v : Value) (l : List α), cs = [v] ∧ RepI (gw W) v (.sl esz (l.map f)) ∧ ∀ o ∈ l, ok o := by
  rcases open_slice ht h with ⟨rfl, _⟩ | ⟨a, len, cap, m, n, D, Pl, rfl, _, hl, _, hm, _, hx⟩
  · exact ⟨_, [], rfl, .sl none 0 esz [] (fun _ _ => undef) (Nat.le_refl _) (by simp) (by simp) (by simp), by simp⟩
  have hlm : len ≤ m := by rw [hm]; split <;> omega
  rw [hce] at hx
  have key : ∀ k, k ≤ len → ∃ l : List α, l.length = k ∧ ∀ i o, l[i]? = some o → ok o ∧ (f o).length = esz ∧ ∃ cs' : List Value, cs'.length = esz ∧ (∀ j, j < esz → W.cell? ((a.add (i * esz)).add j) = cs'[j]?) ∧ ∀ (j : Nat) u c, cs'[j]? = some u → (f o)[j]? = some c → RepI (gw W) u c := by
    intro k
    induction k with
    | zero => intro _; exact ⟨[], rfl, fun i o h => by simp at h⟩
    | succ k ih =>
      intro hk
      obtain ⟨l, h1, h2⟩ := ih (by omega)
      obtain ⟨cs', h3, h4⟩ := hx k (by omega)
      obtain ⟨o, ho, h5, h6, h7⟩ := hel n cs' _ h4
      obtain ⟨_, _, h8⟩ := World.cells?_some h3
      refine ⟨l ++ [o], by simp [h1], fun i o' hi => ?_⟩
      by_cases hil : i < l.length
      · rw [List.getElem?_append_left hil] at hi; exact h2 i o' hi
      · have hik : i = k := by have := (List.getElem?_eq_some_iff.1 hi).1; simp at this; omega
        subst hik
        rw [List.getElem?_append_right (by omega), h1] at hi
        simp at hi
        subst hi
        exact ⟨ho, h5, cs', h6, h8, h7⟩
  obtain ⟨l, hll, hl2⟩ := key len (Nat.le_refl _)
  refine ⟨_, l, rfl, ?_, fun o ho => by obtain ⟨i, hi⟩ := List.mem_iff_getElem?.1 ho; exact (hl2 i o hi).1⟩
  have hlen : len = (l.map f).length := by simp [hll]
  rw [hlen]
  have hget : ∀ i, i < len → ∃ o, l[i]? = some o := fun i hi => ⟨_, List.getElem?_eq_getElem (by omega)⟩
  refine .sl (some a) cap esz (l.map f) (fun i j => (W.cell? ((a.add (i * esz)).add j)).getD undef) (by omega) (fun r hr => ?_) (fun h0 => ?_) (fun i j c hc => ?_)
  · obtain ⟨o, ho, rfl⟩ := List.mem_map.1 hr
    obtain ⟨i, hi⟩ := List.mem_iff_getElem?.1 ho
    exact (hl2 i o hi).2.1
  · obtain ⟨o, ho⟩ := hget 0 (by omega)
    obtain ⟨_, _, cs', h1, h2, _⟩ := hl2 0 o ho
    have h3 := h2 0 he0
    rw [List.getElem?_eq_getElem (by omega)] at h3
    have hsp : a.spot = none := by
      have := World.cell?_spot h3
      obtain ⟨ab, ao, asp⟩ := a
      simpa [Addr.add] using this
    obtain ⟨ab, ao, asp⟩ := a
    simp only at hsp
    subst hsp
    refine ⟨ab, ao, rfl, fun i j hi hj => ?_⟩
    obtain ⟨o, ho⟩ := hget i (by omega)
    obtain ⟨_, _, cs', h4, h5, _⟩ := hl2 i o ho
    have h6 := h5 j hj
    rw [List.getElem?_eq_getElem (by omega)] at h6
    rw [h6, Option.getD_some]
    rw [add_off, add_off, Nat.add_assoc] at h6
    exact h6
  · have hi : i < len := by
      rcases Nat.lt_or_ge i len with h | h
      · exact h
      · rw [List.getD_eq_getElem?_getD, List.getElem?_eq_none (show (l.map f).length ≤ i by rw [← hlen]; exact h)] at hc; simp at hc
    obtain ⟨o, ho⟩ := hget i hi
    obtain ⟨_, h3, cs', h4, h5, h6⟩ := hl2 i o ho
    rw [List.getD_eq_getElem?_getD, List.getElem?_map, ho] at hc
    simp only [Option.map_some, Option.getD_some] at hc
    have hj : j < esz := by have := (List.getElem?_eq_some_iff.1 hc).1; omega
    have h7 := h5 j hj
    rw [List.getElem?_eq_getElem (by omega)] at h7
    rw [h7, Option.getD_some]
    exact h6 j _ c (by rw [List.getElem?_eq_getElem (by omega)]) hc
theorem open_bytes {fuel : Nat} {cs : List Value} {x : DataW H × List MemPlace} (h : DataW.trod enc Try.prog W 0 (fun _ => true) true fuel 38 cs = some x) : ∃ (v : Value) (l : List UInt8), cs = [v] ∧ RepI (gw W) v (.sl 1 (l.map eU8)) := by
  obtain ⟨v, l, h1, h2, _⟩ := open_rows eU8 (fun _ => True) Try.underlying38 (by kernel_rfl : Try.prog.cellsOf 5 = 1) Nat.one_pos (fun n cs y hy => by
    obtain ⟨k, rfl, _, hw⟩ := DataW.trod_int Try.underlying5 hy
    have hk : 0 ≤ k ∧ k ≤ 255 := by simp [Lit.wf, IntKind.min, IntKind.max, IntKind.signed, IntKind.bits] at hw; omega
    refine ⟨UInt8.ofNat k.toNat, trivial, rfl, rfl, fun j u c hu hc => ?_⟩
    have hj : j = 0 := by have := (List.getElem?_eq_some_iff.1 hu).1; simp at this; omega
    subst hj
    simp only [eU8, List.getElem?_cons_zero, Option.some.injEq] at hu hc
    subst hu hc
    have hkk : (((UInt8.ofNat k.toNat).toNat : Nat) : Int) = k := by simp [UInt8.toNat_ofNat']; omega
    rw [hkk]
    exact .v _ rfl) h
  exact ⟨v, l, h1, h2⟩
theorem i64_of {k : Int} (h : (Lit.int .i64 k).wf = true) : k ≤ 9223372036854775807 := by
  simp [Lit.wf, IntKind.min, IntKind.max, IntKind.signed, IntKind.bits] at h; omega
theorem open_step {fuel : Nat} {cs : List Value} {x : DataW H × List MemPlace} (h : DataW.trod enc Try.prog W 0 (fun _ => true) true fuel 40 cs = some x) :
    ∃ o : OStep, o.i ≤ 9223372036854775807 ∧ (eO o).length = 6 ∧ cs.length = 6 ∧ ∀ (j : Nat) u c, cs[j]? = some u → (eO o)[j]? = some c → RepI (gw W) u c := by
  obtain ⟨xs, n, rfl, _, hlen, hxl, hf⟩ := DataW.trod_struct Try.underlying40 h
  have hl6 : cs.length = 6 := hlen.trans (by kernel_rfl)
  have hc3 : Try.prog.cellsOf 3 = 1 := by kernel_rfl
  have hc38 : Try.prog.cellsOf 38 = 1 := by kernel_rfl
  have hc4 : Try.prog.cellsOf 4 = 1 := by kernel_rfl
  have hc5 : Try.prog.cellsOf 5 = 1 := by kernel_rfl
  have hxl : xs.length = 6 := hxl
  match cs, hl6 with
  | [c0, c1, c2, c3, c4, c5], _ =>
    match xs, hxl with
    | [x0, x1, x2, x3, x4, x5], _ =>
      have f0 : DataW.trod enc Try.prog W 0 (fun _ => true) true n 3 (([c0, c1, c2, c3, c4, c5].drop 0).take (Try.prog.cellsOf 3)) = some x0 := hf 0 _ rfl
      have f1 : DataW.trod enc Try.prog W 0 (fun _ => true) true n 3 (([c0, c1, c2, c3, c4, c5].drop 1).take (Try.prog.cellsOf 3)) = some x1 := hf 1 _ rfl
      have f2 : DataW.trod enc Try.prog W 0 (fun _ => true) true n 3 (([c0, c1, c2, c3, c4, c5].drop 2).take (Try.prog.cellsOf 3)) = some x2 := hf 2 _ rfl
      have f3 : DataW.trod enc Try.prog W 0 (fun _ => true) true n 38 (([c0, c1, c2, c3, c4, c5].drop 3).take (Try.prog.cellsOf 38)) = some x3 := hf 3 _ rfl
      have f4 : DataW.trod enc Try.prog W 0 (fun _ => true) true n 4 (([c0, c1, c2, c3, c4, c5].drop 4).take (Try.prog.cellsOf 4)) = some x4 := hf 4 _ rfl
      have f5 : DataW.trod enc Try.prog W 0 (fun _ => true) true n 5 (([c0, c1, c2, c3, c4, c5].drop 5).take (Try.prog.cellsOf 5)) = some x5 := hf 5 _ rfl
      rw [hc3] at f0 f1 f2
      rw [hc38] at f3
      rw [hc4] at f4
      rw [hc5] at f5
      obtain ⟨k0, e0, _, w0⟩ := DataW.trod_int Try.underlying3 f0
      obtain ⟨k1, e1, _, w1⟩ := DataW.trod_int Try.underlying3 f1
      obtain ⟨k2, e2, _, w2⟩ := DataW.trod_int Try.underlying3 f2
      obtain ⟨v3, bs, e3, r3⟩ := open_bytes f3
      obtain ⟨b4, e4, _⟩ := DataW.trod_bool Try.underlying4 f4
      obtain ⟨k5, e5, _, w5⟩ := DataW.trod_int Try.underlying5 f5
      simp only [List.drop_succ_cons, List.drop_zero, List.take_succ_cons, List.take_zero, List.cons.injEq, and_true] at e0 e1 e2 e3 e4 e5
      subst e0 e1 e2 e3 e4 e5
      have hk : 0 ≤ k5 ∧ k5 ≤ 255 := by simp [Lit.wf, IntKind.min, IntKind.max, IntKind.signed, IntKind.bits] at w5; omega
      have hkk : (((UInt8.ofNat k5.toNat).toNat : Nat) : Int) = k5 := by simp [UInt8.toNat_ofNat']; omega
      refine ⟨⟨k0, k1, k2, bs, b4, UInt8.ofNat k5.toNat⟩, i64_of w1, rfl, rfl, fun j u c hu hc => ?_⟩
      have hj : j < 6 := (List.getElem?_eq_some_iff.1 hu).1
      rcases (by omega : j = 0 ∨ j = 1 ∨ j = 2 ∨ j = 3 ∨ j = 4 ∨ j = 5) with rfl | rfl | rfl | rfl | rfl | rfl <;> simp only [eO, List.getElem?_cons_zero, List.getElem?_cons_succ, Option.some.injEq] at hu hc <;> subst hu hc
      · exact .v _ rfl
      · exact .v _ rfl
      · exact .v _ rfl
      · exact r3
      · exact .v _ rfl
      · rw [hkk]; exact .v _ rfl
end
theorem own_ : ownKnob Try.prog.godebug = none := by kernel_rfl
theorem laidOut_ : laidOutB Try.prog = true := by kernel_rfl
/-- The ghosts at the entry: every cell stays; there is no thing. -/
def g0 (W : World) : Gh := ⟨gw W, fun _ => 0, fun _ => undef, fun _ _ => False, fun _ => False⟩
theorem good_g0 (W : World) : Good (g0 W) W := fun _ _ _ h => h
/-- A call without things leaves what was there. -/
theorem since_of {P : Program} {f : FuncId} {args : List AV} {res : AV} (hs : FnSpec P f 0 0 args [] res []) (W : World) (xs : List Value) (hx : RepAVs (g0 W) xs args) : Calls P f xs.toArray W (fun e W' => ∃ v, e = .returned v ∧ (∃ g, RepAV g v res) ∧ W.Since W.heap.size W') := by
  refine (hs.calls (g0 W) W xs (good_g0 W) hx ⟨fun id r h => by simp [get] at h, fun id r h => by simp [get] at h, fun id id' r r' h => by simp [get] at h⟩ (fun id h => h.elim)).mono ?_
  rintro e W' hp
  obtain ⟨v, g', rfl, _, hE, hr, _, _⟩ := hp.out
  exact ⟨v, rfl, ⟨g', hr⟩, hE.os, hE.tape, hE.output, hE.size, fun k hk => hE.block k hk (fun ⟨id, r, h, _⟩ => by simp [get] at h)⟩

set_option maxRecDepth 100000 in
theorem sectorPlays_lifted (os : Os) (started : os.Started) (H : Type) (enc : TypeId × Value → H) :
    ReturnsInHanded {} Try.checked os 3 .any (Rows.sectorPlaysSpec.pre6 enc Try.prog Try.f3 Rows.sectorPlaysRow.domain false) (Rows.sectorPlaysSpec.post enc Try.prog Try.f3 false true false false) := by
  refine returnsInHanded_of_change (C := Try.checked) own_ started (by kernel_rfl) Try.func3
    (ChangeSpec.witness6 (enc := enc) (C := Try.checked) false ⟨#[], #[.int .i64 0, .int .i64 0, .slice none 0 0], []⟩ 8 (by kernel_rfl) (by kernel_rfl) (by kernel_rfl) (by kernel_rfl)) ?_
  intro W base args ds gs before hval0 hW hcnd _
  have hval : ∀ (j : Nat) t v, Try.f3.params[j]? = some t → args[j]? = some v → Value.okWide Try.prog W .any base t v := hval0
  have hW' := hW
  obtain ⟨p, q, hA0, hV, rfl, hfz, hnd⟩ := hW
  have hA : DataW.TrodAll enc Try.prog W 0 (fun _ => true) true Try.f3.params.toList args.toList ds p := hA0
  rw [Try.params3] at hA hval
  obtain ⟨v0, v1, v2, d0, d1, d2, p0, p1, p2, rfl, rfl, rfl, h0, h1, h2⟩ := trodAll_three hA
  obtain ⟨rfl, rfl⟩ := trodVars_none hV
  have h2k := h2
  obtain ⟨size, rfl, rfl, rfl, w0⟩ := open_int Try.underlying3 (hval 0 3 v0 rfl rfl) h0
  obtain ⟨count, rfl, rfl, rfl, w1⟩ := open_int Try.underlying3 (hval 1 3 v1 rfl rfl) h1
  obtain ⟨fuel, h2⟩ := h2
  obtain ⟨v, l, hv, hrep, hli⟩ := open_rows eO (fun o => o.i ≤ 9223372036854775807) Try.underlying22 (by kernel_rfl : Try.prog.cellsOf 40 = 6) (by decide) (fun n cs y hy => open_step hy) h2
  have hv2 : v2 = v := by
    cases v2 with
    | slice A m c => simp [Value.cells] at hv; exact hv
    | agg vs => exact absurd h2 (by
        intro h2
        rcases DataW.trod_slice Try.underlying22 h2 with ⟨h3, _⟩ | ⟨a, len, cap, _, _, _, _, h3, _⟩ <;>
        · have := hval 2 22 (.agg vs) rfl rfl
          simp [Value.okWide, Cell.okWide, Cell.ok, Try.underlying22] at this)
    | _ => simp [Value.cells] at hv; exact hv
  subst hv2
  clear hA0 hval0
  simp only [List.append_nil, List.nil_append] at hW'
  refine (since_of (lp_plays size count l hli) W [.int .i64 size, .int .i64 count, v2] ?_).mono fun e W' ⟨r, he, ⟨g, hr⟩, hS⟩ => ?_
  · simp only [RepAVs, RepAV, RepC]
    exact ⟨.v _ rfl, .v _ rfl, hrep, trivial⟩
  subst he
  have hr := repV hr
  subst hr
  have hlt : ∀ x ∈ p2, x.block < W.heap.size := fun x hx => hW'.lt x (by simpa using hx)
  have again : ∀ sp : Nat → Bool, (∀ x ∈ p2, sp x.block = true) → DataW.Trod enc Try.prog W' 0 sp true 22 v2 d2 p2 := fun sp hsp =>
    WideElems.Trod_stays laidOut_ (by kernel_rfl) (of_decide_eq_true (by kernel_rfl)) h2k (fun x hx => hS.sameAt (hlt x hx)) hsp
  have hold : ∀ x ∈ p2, (fun b => decide (b < W.heap.size)) x.block = true := fun x hx => by simpa using hlt x hx
  have hres : ∀ (b : Nat) (sp : Nat → Bool) (hd : Bool), DataW.TrodAll enc Try.prog W' b sp hd [4] [.bool true] [.lit (.bool true)] [] := fun _ _ _ => trodAll_mk1 (shut_bool Try.underlying4 _)
  have hargs : ∀ sp : Nat → Bool, (∀ x ∈ p2, sp x.block = true) → DataW.TrodAll enc Try.prog W' 0 sp true [3, 3, 22] [.int .i64 size, .int .i64 count, v2] [.lit (.int .i64 size), .lit (.int .i64 count), d2] p2 := fun sp hsp => by
    have := trodAll_mk3 (shut_int Try.underlying3 w0) (shut_int Try.underlying3 w1) (again sp hsp)
    simpa using this
  refine ⟨_, rfl, _, [], p2, [], p2, [], hW', hres _ _ _, hargs _ hold, rfl, World.keptBut_mono (fun x hx => ⟨hx, .inr (.inl hx)⟩) (hS.frame (· ∈ p2)), fun _ => ?_⟩
  obtain ⟨_, _, _, _, _, hz, hn⟩ := hW'
  refine ⟨ok_one (by kernel_rfl) rfl (okWide_bool_mk Try.underlying4 _), _, _, p2, ⟨p2, [], trodAll_append (hargs _ (fun _ _ => rfl)) (hres _ _ _), (show DataW.TrodVars enc Try.prog W' (fun _ => true) [] [] [] from rfl), by simp, fun b off hp => ?_, fun ha => by simpa using hn ha⟩, fun x hx _ => by simpa using hx⟩
  rw [hS.frozen (a := ⟨b, off, none⟩) (hlt _ hp)]
  exact hz b off (by simpa using hp)

theorem sectorPlays_holds : Rows.SectorPlaysSaid :=
  OpenClaim.holds_of_wide 3 Try.f3 rfl rfl rfl rfl rfl rfl rfl ⟨rfl, rfl, rfl, rfl, rfl⟩ rfl rfl rfl rfl rfl (by kernel_rfl) Try.func3 (by kernel_rfl)
    (of_decide_eq_true (by kernel_rfl)) (by unfold Func.isWrapper; first | (rw [if_pos (by decide +kernel)]; kernel_rfl) | (rw [if_neg (by decide +kernel)]; exact ⟨rfl, rfl⟩))
    (fun os started H enc _ => sectorPlays_lifted os started H enc)
end Go.Proofs.Ytdmpocojbheoiaa.AM
