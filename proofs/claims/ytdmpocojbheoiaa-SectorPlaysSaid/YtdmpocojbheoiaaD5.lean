/- The law's steps: walks. -/
import Derived.Test.YtdmpocojbheoiaaD4
namespace Go.Proofs.Ytdmpocojbheoiaa.AM
open Go.RowKit
set_option linter.unusedVariables false
set_option linter.unusedSimpArgs false
theorem flat_eU8 (K : List UInt8) : ((K.map eU8).flatten.map C.i) = K.map fun b => C.i (.v (.int .u8 (b.toNat : Int))) := by
  induction K with
  | nil => rfl
  | cons a r ih => simp only [List.map_cons, List.flatten_cons, List.map_append, ih]; rfl
def pstep (p : PD) (o : OStep) : PD := if o.kind = 0 then p else if o.kind = 1 then (p.write o.i o.b).2 else if o.kind = 2 then p.sync.2 else if o.kind = 3 then p.setFuse o.i else if o.kind = 4 then p.fall else if o.kind = 5 then p.back o.i o.torn else if o.kind = 6 then (p.spoil o.i o.at_ o.by_).2 else p
def dstep (d : RD) (o : OStep) : RD := if o.kind = 0 then d else if o.kind = 1 then (d.write o.i o.b).2 else if o.kind = 2 then d.sync.2 else if o.kind = 3 then { d with z := max o.i 0 } else if o.kind = 4 then d.falls else if o.kind = 5 then d.back o.i o.torn else if o.kind = 6 then (d.spoil o.i o.at_ o.by_).2 else d
theorem step_rel {p : PD} {d : RD} (h : DRel p d) (g : PGood p) (o : OStep) (hi : o.i ≤ 9223372036854775807) : DRel (pstep p o) (dstep d o) ∧ PGood (pstep p o) ∧ (pstep p o).waits.length ≤ p.waits.length + 1 ∧ (pstep p o).size = p.size ∧ (pstep p o).count = p.count := by
  unfold pstep dstep
  by_cases k0 : o.kind = 0
  · rw [if_pos k0, if_pos k0]; exact ⟨h, g, by omega, rfl, rfl⟩
  rw [if_neg k0, if_neg k0]
  by_cases k1 : o.kind = 1
  · rw [if_pos k1, if_pos k1]
    refine ⟨(drel_write h _ _).2, good_write g _ _, waits_write p _ _, ?_, ?_⟩ <;> (unfold PD.write; split; rfl; split; rfl; split; rfl; simp only [burns_same])
  rw [if_neg k1, if_neg k1]
  by_cases k2 : o.kind = 2
  · rw [if_pos k2, if_pos k2]
    refine ⟨(drel_sync h g).2, good_sync g, by have := waits_sync p; omega, ?_, ?_⟩ <;> (unfold PD.sync; split; rfl; split; (simp only [burns_same]); (simp only [PD.settled, burns_same]))
  rw [if_neg k2, if_neg k2]
  by_cases k3 : o.kind = 3
  · rw [if_pos k3, if_pos k3]
    refine ⟨⟨h.s, h.c, ⟨h.K.len, h.K.at_⟩, h.W, h.off, h.f, ?_⟩, good_setFuse g _ hi, by simp [PD.setFuse], rfl, rfl⟩
    simp only [zOf, PD.setFuse]; omega
  rw [if_neg k3, if_neg k3]
  by_cases k4 : o.kind = 4
  · rw [if_pos k4, if_pos k4]; exact ⟨drel_falls h, good_fall g, by simp [PD.fall], rfl, rfl⟩
  rw [if_neg k4, if_neg k4]
  by_cases k5 : o.kind = 5
  · rw [if_pos k5, if_pos k5]
    refine ⟨drel_back h g _ _, good_back g _ _, by simp [PD.back], ?_, ?_⟩ <;> (unfold PD.back PD.back0; simp only; split <;> rfl)
  rw [if_neg k5, if_neg k5]
  by_cases k6 : o.kind = 6
  · rw [if_pos k6, if_pos k6]
    refine ⟨(drel_spoil h _ _ _).2, good_spoil g _ _ _, ?_, ?_, ?_⟩ <;> (unfold PD.spoil; split <;> simp)
  rw [if_neg k6, if_neg k6]; exact ⟨h, g, by omega, rfl, rfl⟩
theorem great_false {size count : Int} {l : List OStep} (h : greatB size count l = false) : (64 ≤ size ∧ size ≤ 512) ∧ (1 ≤ count ∧ count ≤ 40) ∧ l.length ≤ 60 ∧ ∀ o ∈ l, o.b.length ≤ 600 := by
  unfold greatB at h
  simp only [Bool.or_eq_false_iff, decide_eq_false_iff_not, List.any_eq_false, decide_eq_true_eq] at h
  obtain ⟨⟨⟨⟨⟨h1, h2⟩, h3⟩, h4⟩, h5⟩, h6⟩ := h
  exact ⟨⟨by omega, by omega⟩, ⟨by omega, by omega⟩, by omega, fun o ho => by have := h6 o ho; omega⟩
theorem back_read (p : PD) (keep : Int) (torn : Bool) (i : Int) (h0 : 0 ≤ i) (h1 : i < (p.back keep torn).count) : (p.back keep torn).read i = ((p.back keep torn).kept i, 0) := by
  unfold PD.read
  rw [if_neg (by simp [PD.back]), if_neg (by omega)]
  rfl
theorem set_cB99 (K : List UInt8) (j : Nat) : (K.map fun b => C.i (.v (.int .u8 (b.toNat : Int)))).set j (.i (.v (.int .u8 99))) = (K.set j 99).map fun b => C.i (.v (.int .u8 (b.toNat : Int))) := set_cB K j 99
set_option maxRecDepth 100000 in
set_option maxHeartbeats 400000 in
theorem lp_awake  : FnSpec Try.prog 5 0 0 [] [] (vv (.bool true)) [] := by
  refine fn_specK Try.func5 rfl (Nat.le_of_ble_eq_true rfl) (by (first | trivial | (show _ < _; exact lt_ble rfl) | exact bel_cStr _ _ | exact bel_cB _ _ | (show belowL _ _; (repeat (first | exact trivial | (show _ < _; exact lt_ble rfl) | refine ⟨?_, ?_⟩)); done) |  decide | (simp [belowA, AV.bel, C.bel, belowL, belowL_i, heapBelow, R.bel, encD, bel_cStr]; done) | (intro p hp; simp at hp))) (by (first | trivial | (show _ < _; exact lt_ble rfl) | exact bel_cStr _ _ | exact bel_cB _ _ | (show belowL _ _; (repeat (first | exact trivial | (show _ < _; exact lt_ble rfl) | refine ⟨?_, ?_⟩)); done) |  decide | (simp [belowA, AV.bel, C.bel, belowL, belowL_i, heapBelow, R.bel, encD, bel_cStr]; done) | (intro p hp; simp at hp))) (by (first | trivial | (show _ < _; exact lt_ble rfl) | exact bel_cStr _ _ | exact bel_cB _ _ | (show belowL _ _; (repeat (first | exact trivial | (show _ < _; exact lt_ble rfl) | refine ⟨?_, ?_⟩)); done) |  decide | (simp [belowA, AV.bel, C.bel, belowL, belowL_i, heapBelow, R.bel, encD, bel_cStr]; done) | (intro p hp; simp at hp))) (by (first | trivial | (show _ < _; exact lt_ble rfl) | exact bel_cStr _ _ | exact bel_cB _ _ | (show belowL _ _; (repeat (first | exact trivial | (show _ < _; exact lt_ble rfl) | refine ⟨?_, ?_⟩)); done) |  decide | (simp [belowA, AV.bel, C.bel, belowL, belowL_i, heapBelow, R.bel, encD, bel_cStr]; done) | (intro p hp; simp at hp))) (by decide) (fun E h0 => ?_)
  refine k_seq ?_
  apply k_reg [13, 14, 32, 33, 34, 37, 38, 39, 40] 8 
  · kernel_rfl
  · apply Exec.cons
    · exact s_assign rfl rfl rfl
    exact Exec.nil _ _
  conv => enter [4]; simp only [nrm_, List.mem_cons, List.not_mem_nil, List.filterMap_cons, List.filterMap_nil, List.cons_append, List.nil_append, ↓reduceIte, Nat.reduceEqDiff, or_false, or_true, false_or, List.map_cons, List.map_nil, Option.map_some, Option.map_none, Nat.reduceAdd, Nat.reduceMul, splice, chunk, Option.getD_some, Option.getD_none, Int.toNat_natCast, Int.toNat_zero, Nat.sub_zero, List.take_succ_cons, List.take_zero, List.drop_succ_cons, List.drop_zero, List.length_cons, List.length_nil, List.set_cons_succ, List.set_cons_zero, sub_]
  refine k_seq ?_
  apply k_reg [1, 2, 13, 14, 32, 33, 34, 37, 38, 39, 40] 56 
  · kernel_rfl
  · apply Exec.cons
    · exact s_newo call6 (sp_new 64 2 (by omega) (by omega) (by omega) (by omega)) rfl rfl rfl (by first | exact Imps.refl _ | (repeat (first | exact Imps.nil | apply Imps.cons | exact Imp.refl _ | exact Imp.c (impC_tok _ _ _) | exact Imp.c (impC_nilk _ _) | (apply Imp.agg; (repeat (first | exact ImpCs.nil | (apply ImpCs.cons; first | exact impC_tok _ _ _ | exact impC_nn _ _ | exact ImpC.refl _))))))) (by first | trivial | simp [AV.bel, C.bel, belowL, belowL_i, belowA, encD, bel_cStr]) rfl
    apply Exec.cons
    · exact s_move rfl rfl rfl
    apply Exec.cons
    · exact s_extract rfl rfl rfl rfl
    apply Exec.cons
    · exact s_extract rfl rfl rfl rfl
    apply Exec.cons
    · exact s_assign rfl rfl rfl
    apply Exec.cons
    · exact s_assign rfl rfl rfl
    exact Exec.nil _ _
  conv => enter [4]; simp only [nrm_, List.mem_cons, List.not_mem_nil, List.filterMap_cons, List.filterMap_nil, List.cons_append, List.nil_append, ↓reduceIte, Nat.reduceEqDiff, or_false, or_true, false_or, List.map_cons, List.map_nil, Option.map_some, Option.map_none, Nat.reduceAdd, Nat.reduceMul, splice, chunk, Option.getD_some, Option.getD_none, Int.toNat_natCast, Int.toNat_zero, Nat.sub_zero, List.take_succ_cons, List.take_zero, List.drop_succ_cons, List.drop_zero, List.length_cons, List.length_nil, List.set_cons_succ, List.set_cons_zero, sub_]
  refine k_seq ?_
  refine k_seq ?_
  apply k_reg [1, 15, 32, 33, 34, 37, 38, 39, 40] 104 
  · kernel_rfl
  · apply Exec.cons
    · exact s_move rfl rfl rfl
    apply Exec.cons
    · first | exact s_ptrnil rfl Try.underlying25 rfl rfl | exact s_nilnil rfl Try.underlying25 rfl rfl
    apply Exec.cons
    · exact s_move rfl rfl rfl
    apply Exec.cons
    · exact s_guard (c := _) rfl rfl rfl (by first | exact hpre1 rfl | (intro _ _ h; simp [get] at h)) rfl (fun hb => s_move rfl rfl rfl)
    apply Exec.cons
    · exact s_guard (c := _) rfl rfl rfl (by first | exact hpre1 rfl | (intro _ _ h; simp [get] at h)) rfl (fun hb => s_bin (evif (bv := .tup []) hb rfl) rfl rfl rfl rfl)
    apply Exec.cons
    · first | exact s_or (bv := .tup []) rfl rfl rfl rfl | exact s_or rfl rfl rfl rfl | exact s_pick rfl rfl rfl (fun h => by simp [h]) (fun h => by simp [h]) rfl rfl rfl
    exact Exec.nil _ _
  conv => enter [4]; simp only [nrm_, List.mem_cons, List.not_mem_nil, List.filterMap_cons, List.filterMap_nil, List.cons_append, List.nil_append, ↓reduceIte, Nat.reduceEqDiff, or_false, or_true, false_or, List.map_cons, List.map_nil, Option.map_some, Option.map_none, Nat.reduceAdd, Nat.reduceMul, splice, chunk, Option.getD_some, Option.getD_none, Int.toNat_natCast, Int.toNat_zero, Nat.sub_zero, List.take_succ_cons, List.take_zero, List.drop_succ_cons, List.drop_zero, List.length_cons, List.length_nil, List.set_cons_succ, List.set_cons_zero, sub_]
  refine k_cond rfl (fun hb => ?_) (fun hb => ?_)
  · skip
    exact absurd hb (by decide)
  · skip
    refine k_skip ?_
    refine k_seq ?_
    apply k_reg [1, 3, 32, 33, 34, 37, 38, 39, 40] 120 
    · kernel_rfl
    · apply Exec.cons
      · exact s_make (k := 64) Try.underlying38 minfo5 rfl rfl rfl rfl (by omega) (by omega) rfl
      apply Exec.cons
      · exact s_assign rfl rfl rfl
      exact Exec.nil _ _
    conv => enter [4]; simp only [nrm_, List.mem_cons, List.not_mem_nil, List.filterMap_cons, List.filterMap_nil, List.cons_append, List.nil_append, ↓reduceIte, Nat.reduceEqDiff, or_false, or_true, false_or, List.map_cons, List.map_nil, Option.map_some, Option.map_none, Nat.reduceAdd, Nat.reduceMul, splice, chunk, Option.getD_some, Option.getD_none, Int.toNat_natCast, Int.toNat_zero, Nat.sub_zero, List.take_succ_cons, List.take_zero, List.drop_succ_cons, List.drop_zero, List.length_cons, List.length_nil, List.set_cons_succ, List.set_cons_zero, sub_]
    refine k_seq ?_
    apply k_reg [1, 3, 32, 33, 34, 37, 38, 39, 40] 144 
    · kernel_rfl
    · apply Exec.cons
      · exact s_move rfl rfl rfl
      apply Exec.cons
      · first | exact s_indexAddr Try.underlying38 sz5 rfl (by first | exact ImpC.refl _ | exact impC_tok _ _ _ | exact impC_nn _ _ | exact impC_nilk _ _) rfl (by first | omega | (simp [chunk]; done) | (simp [chunk]; omega)) (by first | omega | (simp [chunk]; done) | (simp [chunk]; omega)) rfl | exact s_indexAddr_own1 Try.underlying38 sz5 rfl rfl rfl (by first | omega | (simp [chunk]; done) | (simp [chunk]; omega)) (by first | omega | (simp [chunk]; done) | (simp [chunk]; omega)) rfl
      apply Exec.cons
      · first | exact s_store_row rfl rfl rfl sz5 (by first | omega | (simp [chunk]; done) | (simp [chunk]; omega)) rfl | exact s_storeA rfl rfl rfl rfl sz5 rfl rfl rfl | exact s_store_all rfl rfl rfl sz5 rfl rfl rfl rfl | exact s_store rfl rfl rfl sz5 rfl rfl (Nat.le_of_ble_eq_true rfl) rfl rfl rfl
      exact Exec.nil _ _
    conv => enter [4]; simp only [nrm_, List.mem_cons, List.not_mem_nil, List.filterMap_cons, List.filterMap_nil, List.cons_append, List.nil_append, ↓reduceIte, Nat.reduceEqDiff, or_false, or_true, false_or, List.map_cons, List.map_nil, Option.map_some, Option.map_none, Nat.reduceAdd, Nat.reduceMul, splice, chunk, Option.getD_some, Option.getD_none, Int.toNat_natCast, Int.toNat_zero, Nat.sub_zero, List.take_succ_cons, List.take_zero, List.drop_succ_cons, List.drop_zero, List.length_cons, List.length_nil, List.set_cons_succ, List.set_cons_zero, sub_]
    refine k_seq ?_
    apply k_reg [1, 32, 33, 34, 37, 38, 39, 40] 168 
    · kernel_rfl
    · apply Exec.cons
      · exact s_move rfl rfl rfl
      apply Exec.cons
      · exact s_move rfl rfl rfl
      apply Exec.cons
      · exact s_callr 8 104 rfl call17 (sp_writeR (PD.new 64 2) 1 (9 :: List.replicate 63 0) (by simp [PD.new]) (by simp)) rfl rfl rfl (by first | exact Imps.refl _ | (repeat (first | exact Imps.nil | apply Imps.cons | exact Imp.refl _ | exact Imp.c (impC_tok _ _ _) | exact Imp.c (impC_nilk _ _) | (apply Imp.agg; (repeat (first | exact ImpCs.nil | (apply ImpCs.cons; first | exact impC_tok _ _ _ | exact impC_nn _ _ | exact ImpC.refl _))))))) (by first | trivial | simp [AV.bel, C.bel, belowL, belowL_i, belowA, encD, bel_cStr]) (by (first | trivial | (show _ < _; exact lt_ble rfl) | exact bel_cStr _ _ | exact bel_cB _ _ | (show belowL _ _; (repeat (first | exact trivial | (show _ < _; exact lt_ble rfl) | refine ⟨?_, ?_⟩)); done) |  decide | (simp [belowA, AV.bel, C.bel, belowL, belowL_i, heapBelow, R.bel, encD, bel_cStr]; done) | (intro p hp; simp at hp))) rfl rfl rfl
      exact Exec.nil _ _
    conv => enter [4]; simp only [nrm_, List.mem_cons, List.not_mem_nil, List.filterMap_cons, List.filterMap_nil, List.cons_append, List.nil_append, ↓reduceIte, Nat.reduceEqDiff, or_false, or_true, false_or, List.map_cons, List.map_nil, Option.map_some, Option.map_none, Nat.reduceAdd, Nat.reduceMul, splice, chunk, Option.getD_some, Option.getD_none, Int.toNat_natCast, Int.toNat_zero, Nat.sub_zero, List.take_succ_cons, List.take_zero, List.drop_succ_cons, List.drop_zero, List.length_cons, List.length_nil, List.set_cons_succ, List.set_cons_zero, sub_]
    refine k_seq ?_
    apply k_reg [1, 32, 33, 34, 37, 38, 39, 40] 184 
    · kernel_rfl
    · apply Exec.cons
      · exact s_move rfl rfl rfl
      apply Exec.cons
      · exact s_callo 8 call14 (sp_back ((PD.new 64 2).write 1 (9 :: List.replicate 63 0)).2 (by rw [show ((PD.new 64 2).write 1 (9 :: List.replicate 63 0)).2 = { PD.new 64 2 with waits := [(1, 9 :: List.replicate 63 0)] } from rfl]; simp) 0 false) rfl rfl rfl (by first | exact Imps.refl _ | (repeat (first | exact Imps.nil | apply Imps.cons | exact Imp.refl _ | exact Imp.c (impC_tok _ _ _) | exact Imp.c (impC_nilk _ _) | (apply Imp.agg; (repeat (first | exact ImpCs.nil | (apply ImpCs.cons; first | exact impC_tok _ _ _ | exact impC_nn _ _ | exact ImpC.refl _))))))) (by first | trivial | simp [AV.bel, C.bel, belowL, belowL_i, belowA, encD, bel_cStr]) rfl rfl
      exact Exec.nil _ _
    conv => enter [4]; simp only [nrm_, List.mem_cons, List.not_mem_nil, List.filterMap_cons, List.filterMap_nil, List.cons_append, List.nil_append, ↓reduceIte, Nat.reduceEqDiff, or_false, or_true, false_or, List.map_cons, List.map_nil, Option.map_some, Option.map_none, Nat.reduceAdd, Nat.reduceMul, splice, chunk, Option.getD_some, Option.getD_none, Int.toNat_natCast, Int.toNat_zero, Nat.sub_zero, List.take_succ_cons, List.take_zero, List.drop_succ_cons, List.drop_zero, List.length_cons, List.length_nil, List.set_cons_succ, List.set_cons_zero, sub_]
    refine k_seq ?_
    apply k_reg [4, 5, 32, 33, 34, 37, 38, 39, 40] 240 
    · kernel_rfl
    · apply Exec.cons
      · exact s_move rfl rfl rfl
      apply Exec.cons
      · exact s_callo 8 call16 (sp_read ((((PD.new 64 2).write 1 (9 :: List.replicate 63 0)).2).back 0 false) 1 (by simp [PD.back])) rfl rfl rfl (by first | exact Imps.refl _ | (repeat (first | exact Imps.nil | apply Imps.cons | exact Imp.refl _ | exact Imp.c (impC_tok _ _ _) | exact Imp.c (impC_nilk _ _) | (apply Imp.agg; (repeat (first | exact ImpCs.nil | (apply ImpCs.cons; first | exact impC_tok _ _ _ | exact impC_nn _ _ | exact ImpC.refl _))))))) (by first | trivial | simp [AV.bel, C.bel, belowL, belowL_i, belowA, encD, bel_cStr]) rfl rfl
      apply Exec.cons
      · exact s_move rfl rfl rfl
      apply Exec.cons
      · exact s_extract rfl rfl rfl rfl
      apply Exec.cons
      · exact s_extract rfl rfl rfl rfl
      apply Exec.cons
      · exact s_assign rfl rfl rfl
      apply Exec.cons
      · exact s_assign rfl rfl rfl
      exact Exec.nil _ _
    conv => enter [4]; simp only [nrm_, List.mem_cons, List.not_mem_nil, List.filterMap_cons, List.filterMap_nil, List.cons_append, List.nil_append, ↓reduceIte, Nat.reduceEqDiff, or_false, or_true, false_or, List.map_cons, List.map_nil, Option.map_some, Option.map_none, Nat.reduceAdd, Nat.reduceMul, splice, chunk, Option.getD_some, Option.getD_none, Int.toNat_natCast, Int.toNat_zero, Nat.sub_zero, List.take_succ_cons, List.take_zero, List.drop_succ_cons, List.drop_zero, List.length_cons, List.length_nil, List.set_cons_succ, List.set_cons_zero, sub_]
    refine k_seq ?_
    have hrd : PD.read ((((PD.new 64 2).write 1 (9 :: List.replicate 63 0)).2).back 0 false) 1 = (List.replicate 64 0, 0) := rfl
    simp only [hrd]
    apply k_reg [0] 352 
    · kernel_rfl
    · apply Exec.cons
      · exact s_move rfl rfl rfl
      apply Exec.cons
      · exact s_bin rfl rfl rfl rfl rfl
      apply Exec.cons
      · exact s_move rfl rfl rfl
      apply Exec.cons
      · exact s_guard (c := _) rfl rfl rfl (by first | exact hpre1 rfl | (intro _ _ h; simp [get] at h)) rfl (fun hb => s_move rfl rfl rfl)
      apply Exec.cons
      · first | exact s_guard (c := _) rfl rfl rfl (by first | exact hpre1 rfl | (intro _ _ h; simp [get] at h)) rfl (fun hb => s_len Try.underlying38 (evif (bv := .tup []) hb rfl) (by first | exact ImpC.refl _ | exact impC_tok _ _ _ | exact impC_nn _ _ | exact impC_nilk _ _) rfl) | exact s_guard (c := _) rfl rfl rfl (by first | exact hpre1 rfl | (intro _ _ h; simp [get] at h)) rfl (fun hb => s_len_own1 Try.underlying38 (evif (bv := .tup []) hb rfl) rfl rfl)
      apply Exec.cons
      · exact s_guard (c := _) rfl rfl rfl (by first | exact hpre1 rfl | (intro _ _ h; simp [get] at h)) rfl (fun hb => s_bin (evif (bv := .tup []) hb rfl) rfl rfl rfl rfl)
      apply Exec.cons
      · first | exact s_and (bv := .tup []) rfl rfl rfl rfl | exact s_and rfl rfl rfl rfl | exact s_pick rfl rfl rfl (fun h => by simp [h]) (fun h => by simp [h]) rfl rfl rfl
      apply Exec.cons
      · exact s_move rfl rfl rfl
      apply Exec.cons
      · exact s_guard (c := _) rfl rfl rfl (by first | exact hpre1 rfl | (intro _ _ h; simp [get] at h)) rfl (fun hb => s_move rfl rfl rfl)
      apply Exec.cons
      · exact s_guard (c := _) rfl rfl rfl (by first | exact hpre1 rfl | (intro _ _ h; simp [get] at h)) rfl (fun hb => s_indexAddr Try.underlying38 sz5 (evif (bv := .tup []) hb rfl) (ImpC.refl _) rfl (by omega) (by simp) rfl)
      apply Exec.cons
      · exact s_guard (c := _) rfl rfl rfl (by first | exact hpre1 rfl | (intro _ _ h; simp [get] at h)) rfl (fun hb => s_loade' (evif (bv := .tup []) hb rfl) (rowAt (enc := eU8) (xs := List.replicate 64 0) (k := 0) (x := 0) rfl) one5 rfl rfl)
      apply Exec.cons
      · exact s_guard (c := _) rfl rfl rfl (by first | exact hpre1 rfl | (intro _ _ h; simp [get] at h)) rfl (fun hb => s_bin (evif (bv := .tup []) hb rfl) rfl rfl rfl rfl)
      apply Exec.cons
      · first | exact s_and (bv := .tup []) rfl rfl rfl rfl | exact s_and rfl rfl rfl rfl | exact s_pick rfl rfl rfl (fun h => by simp [h]) (fun h => by simp [h]) rfl rfl rfl
      apply Exec.cons
      · exact s_assign rfl rfl rfl
      exact Exec.nil _ _
    conv => enter [4]; simp only [nrm_, List.mem_cons, List.not_mem_nil, List.filterMap_cons, List.filterMap_nil, List.cons_append, List.nil_append, ↓reduceIte, Nat.reduceEqDiff, or_false, or_true, false_or, List.map_cons, List.map_nil, Option.map_some, Option.map_none, Nat.reduceAdd, Nat.reduceMul, splice, chunk, Option.getD_some, Option.getD_none, Int.toNat_natCast, Int.toNat_zero, Nat.sub_zero, List.take_succ_cons, List.take_zero, List.drop_succ_cons, List.drop_zero, List.length_cons, List.length_nil, List.set_cons_succ, List.set_cons_zero, sub_]
    refine k_ret ?_
    exact fin_val (.cons (.tmp rfl) .nil) ((Imp.refl _)) (by first | trivial | simp [AV.bel, C.bel, belowL, belowL_i, belowA, encD, bel_cStr])

set_option maxRecDepth 100000 in
set_option maxHeartbeats 400000 in
theorem lp_does (p : PD) (d : RD) (o : OStep) (h : DRel p d) (g : PGood p) (hl : p.waits.length ≤ 100000) (hi : o.i ≤ 9223372036854775807) (hb0 : o.b.length ≤ 600) : FnSpec Try.prog 10 1 1 [.c (.ptr 0 0), .agg (encD d), .agg ((eO o).map C.i)] [(0, .obj (diskP p))] (.tup [vv (.bool true), .agg (encD (dstep d o))]) [(0, .obj (diskP (pstep p o)))] := by
  refine fn_specK Try.func10 rfl (Nat.le_of_ble_eq_true rfl) (by (first | trivial | (show _ < _; exact lt_ble rfl) | exact bel_cStr _ _ | exact bel_cB _ _ | (show belowL _ _; (repeat (first | exact trivial | (show _ < _; exact lt_ble rfl) | refine ⟨?_, ?_⟩)); done) |  decide | (simp [belowA, AV.bel, C.bel, belowL, belowL_i, heapBelow, R.bel, encD, bel_cStr]; done) | (intro p hp; simp at hp))) (by (first | trivial | (show _ < _; exact lt_ble rfl) | exact bel_cStr _ _ | exact bel_cB _ _ | (show belowL _ _; (repeat (first | exact trivial | (show _ < _; exact lt_ble rfl) | refine ⟨?_, ?_⟩)); done) |  decide | (simp [belowA, AV.bel, C.bel, belowL, belowL_i, heapBelow, R.bel, encD, bel_cStr]; done) | (intro p hp; simp at hp))) (by (first | trivial | (show _ < _; exact lt_ble rfl) | exact bel_cStr _ _ | exact bel_cB _ _ | (show belowL _ _; (repeat (first | exact trivial | (show _ < _; exact lt_ble rfl) | refine ⟨?_, ?_⟩)); done) |  decide | (simp [belowA, AV.bel, C.bel, belowL, belowL_i, heapBelow, R.bel, encD, bel_cStr]; done) | (intro p hp; simp at hp))) (by (first | trivial | (show _ < _; exact lt_ble rfl) | exact bel_cStr _ _ | exact bel_cB _ _ | (show belowL _ _; (repeat (first | exact trivial | (show _ < _; exact lt_ble rfl) | refine ⟨?_, ?_⟩)); done) |  decide | (simp [belowA, AV.bel, C.bel, belowL, belowL_i, heapBelow, R.bel, encD, bel_cStr]; done) | (intro p hp; simp at hp))) (by decide) (fun E h0 => ?_)
  have ok := rdok h g hl
  refine k_seq ?_
  apply k_reg [0, 4, 5, 7, 46, 47, 48] 33 
  · kernel_rfl
  · apply Exec.cons
    · exact s_box rfl rfl rfl rfl
    apply Exec.cons
    · exact s_box rfl rfl rfl rfl
    apply Exec.cons
    · exact s_assign rfl rfl rfl
    apply Exec.cons
    · exact s_alloc zero34 zok34 rfl
    exact Exec.nil _ _
  conv => enter [4]; simp only [nrm_, List.mem_cons, List.not_mem_nil, List.filterMap_cons, List.filterMap_nil, List.cons_append, List.nil_append, ↓reduceIte, Nat.reduceEqDiff, or_false, or_true, false_or, List.map_cons, List.map_nil, Option.map_some, Option.map_none, Nat.reduceAdd, Nat.reduceMul, splice, chunk, Option.getD_some, Option.getD_none, Int.toNat_natCast, Int.toNat_zero, Nat.sub_zero, List.take_succ_cons, List.take_zero, List.drop_succ_cons, List.drop_zero, List.length_cons, List.length_nil, List.set_cons_succ, List.set_cons_zero, eO, flat_eU8, set_cB, set_cB99, sub_, zc34]
  refine k_seq ?_
  refine k_seq ?_
  apply k_reg [0, 4, 5, 7, 24, 46, 47, 48] 49 
  · kernel_rfl
  · apply Exec.cons
    · first | exact s_fieldAddr rfl fld40_0 rfl | exact s_fieldAddre rfl fld40_0 rfl
    apply Exec.cons
    · first | exact s_load rfl rfl one3 rfl rfl | exact s_load_row rfl rfl one3 (by first | rfl | assumption | (simp; done)) rfl | exact s_loade' rfl (rowAt (by assumption)) one3 rfl rfl | exact s_loade rfl one3 rfl rfl
    exact Exec.nil _ _
  conv => enter [4]; simp only [nrm_, List.mem_cons, List.not_mem_nil, List.filterMap_cons, List.filterMap_nil, List.cons_append, List.nil_append, ↓reduceIte, Nat.reduceEqDiff, or_false, or_true, false_or, List.map_cons, List.map_nil, Option.map_some, Option.map_none, Nat.reduceAdd, Nat.reduceMul, splice, chunk, Option.getD_some, Option.getD_none, Int.toNat_natCast, Int.toNat_zero, Nat.sub_zero, List.take_succ_cons, List.take_zero, List.drop_succ_cons, List.drop_zero, List.length_cons, List.length_nil, List.set_cons_succ, List.set_cons_zero, eO, flat_eU8, set_cB, set_cB99, sub_, zc34]
  refine k_block ?_
  refine k_seq ?_
  apply k_reg [0, 4, 5, 7, 24, 25, 46, 47, 48] 65 
  · kernel_rfl
  · apply Exec.cons
    · exact s_bin rfl rfl rfl rfl rfl
    apply Exec.cons
    · exact s_assign rfl rfl rfl
    exact Exec.nil _ _
  conv => enter [4]; simp only [nrm_, List.mem_cons, List.not_mem_nil, List.filterMap_cons, List.filterMap_nil, List.cons_append, List.nil_append, ↓reduceIte, Nat.reduceEqDiff, or_false, or_true, false_or, List.map_cons, List.map_nil, Option.map_some, Option.map_none, Nat.reduceAdd, Nat.reduceMul, splice, chunk, Option.getD_some, Option.getD_none, Int.toNat_natCast, Int.toNat_zero, Nat.sub_zero, List.take_succ_cons, List.take_zero, List.drop_succ_cons, List.drop_zero, List.length_cons, List.length_nil, List.set_cons_succ, List.set_cons_zero, eO, flat_eU8, set_cB, set_cB99, sub_, zc34]
  refine k_cond rfl (fun hb => ?_) (fun hb => ?_)
  · skip
    have hk : o.kind = 0 := by simpa using hb
    refine k_seq ?_
    apply k_reg [4, 5, 7, 8, 9, 46, 47, 48] 137 
    · kernel_rfl
    · apply Exec.cons
      · exact s_move rfl rfl rfl
      apply Exec.cons
      · first | exact s_fieldAddr rfl fld40_1 rfl | exact s_fieldAddre rfl fld40_1 rfl
      apply Exec.cons
      · first | exact s_load rfl rfl one3 rfl rfl | exact s_load_row rfl rfl one3 (by first | rfl | assumption | (simp; done)) rfl | exact s_loade' rfl (rowAt (by assumption)) one3 rfl rfl | exact s_loade rfl one3 rfl rfl
      apply Exec.cons
      · exact s_callo 0 call16 (sp_read p o.i (by omega)) rfl rfl rfl (by first | exact Imps.refl _ | (repeat (first | exact Imps.nil | apply Imps.cons | exact Imp.refl _ | exact Imp.c (impC_tok _ _ _) | exact Imp.c (impC_nilk _ _) | (apply Imp.agg; (repeat (first | exact ImpCs.nil | (apply ImpCs.cons; first | exact impC_tok _ _ _ | exact impC_nn _ _ | exact ImpC.refl _))))))) (by first | trivial | simp [AV.bel, C.bel, belowL, belowL_i, belowA, encD, bel_cStr]) rfl rfl
      apply Exec.cons
      · exact s_move rfl rfl rfl
      apply Exec.cons
      · exact s_extract rfl rfl rfl rfl
      apply Exec.cons
      · exact s_extract rfl rfl rfl rfl
      apply Exec.cons
      · exact s_assign rfl rfl rfl
      apply Exec.cons
      · exact s_assign rfl rfl rfl
      exact Exec.nil _ _
    conv => enter [4]; simp only [nrm_, List.mem_cons, List.not_mem_nil, List.filterMap_cons, List.filterMap_nil, List.cons_append, List.nil_append, ↓reduceIte, Nat.reduceEqDiff, or_false, or_true, false_or, List.map_cons, List.map_nil, Option.map_some, Option.map_none, Nat.reduceAdd, Nat.reduceMul, splice, chunk, Option.getD_some, Option.getD_none, Int.toNat_natCast, Int.toNat_zero, Nat.sub_zero, List.take_succ_cons, List.take_zero, List.drop_succ_cons, List.drop_zero, List.length_cons, List.length_nil, List.set_cons_succ, List.set_cons_zero, eO, flat_eU8, set_cB, set_cB99, sub_, zc34]
    refine k_seq ?_
    apply k_reg [4, 7, 8, 9, 10, 11, 46, 47, 48] 209 
    · kernel_rfl
    · apply Exec.cons
      · first | exact s_load_all rfl rfl agg34 rfl | exact s_loade_all rfl (rowAt (by assumption)) agg34 rfl | exact s_load_agg rfl rfl agg34 rfl rfl rfl | exact s_loade_agg' rfl (rowAt (by assumption)) agg34 rfl rfl rfl | exact s_loade_agg rfl agg34 rfl rfl rfl
      apply Exec.cons
      · first | exact s_fieldAddr rfl fld40_1 rfl | exact s_fieldAddre rfl fld40_1 rfl
      apply Exec.cons
      · first | exact s_load rfl rfl one3 rfl rfl | exact s_load_row rfl rfl one3 (by first | rfl | assumption | (simp; done)) rfl | exact s_loade' rfl (rowAt (by assumption)) one3 rfl rfl | exact s_loade rfl one3 rfl rfl
      apply Exec.cons
      · exact s_callv call19 (rp_read _ ok _) rfl rfl rfl (by first | exact Imps.refl _ | (repeat (first | exact Imps.nil | apply Imps.cons | exact Imp.refl _ | exact Imp.c (impC_tok _ _ _) | exact Imp.c (impC_nilk _ _) | (apply Imp.agg; (repeat (first | exact ImpCs.nil | (apply ImpCs.cons; first | exact impC_tok _ _ _ | exact impC_nn _ _ | exact ImpC.refl _))))))) (by first | trivial | simp [AV.bel, C.bel, belowL, belowL_i, belowA, encD, bel_cStr]) rfl
      apply Exec.cons
      · exact s_move rfl rfl rfl
      apply Exec.cons
      · exact s_extract rfl rfl rfl rfl
      apply Exec.cons
      · exact s_extract rfl rfl rfl rfl
      apply Exec.cons
      · exact s_assign rfl rfl rfl
      apply Exec.cons
      · exact s_assign rfl rfl rfl
      exact Exec.nil _ _
    conv => enter [4]; simp only [nrm_, List.mem_cons, List.not_mem_nil, List.filterMap_cons, List.filterMap_nil, List.cons_append, List.nil_append, ↓reduceIte, Nat.reduceEqDiff, or_false, or_true, false_or, List.map_cons, List.map_nil, Option.map_some, Option.map_none, Nat.reduceAdd, Nat.reduceMul, splice, chunk, Option.getD_some, Option.getD_none, Int.toNat_natCast, Int.toNat_zero, Nat.sub_zero, List.take_succ_cons, List.take_zero, List.drop_succ_cons, List.drop_zero, List.length_cons, List.length_nil, List.set_cons_succ, List.set_cons_zero, eO, flat_eU8, set_cB, set_cB99, sub_, zc34]
    refine k_seq ?_
    apply k_dreg [6, 7] 305 mixed
    · kernel_rfl
    · apply Exec.cons
      · exact s_move rfl rfl rfl
      apply Exec.cons
      · first | exact s_bts_own Try.underlying38 Try.underlying5 Try.underlying9 rfl rfl (by first | rfl | simp) rfl | exact s_bts Try.underlying38 Try.underlying5 Try.underlying9 rfl (by first | exact ImpC.refl _ | exact impC_tok _ _ _ | exact impC_nn _ _ | exact impC_nilk _ _) rfl
      apply Exec.cons
      · exact s_move rfl rfl rfl
      apply Exec.cons
      · exact s_streql rfl rfl rfl
      apply Exec.cons
      · exact s_move rfl rfl rfl
      apply Exec.cons
      · exact s_guard (c := _) rfl rfl rfl (by first | exact hpre1 rfl | (intro _ _ h; simp [get] at h)) rfl (fun hb => s_move rfl rfl rfl)
      apply Exec.cons
      · exact s_guard (c := _) rfl rfl rfl (by first | exact hpre1 rfl | (intro _ _ h; simp [get] at h)) rfl (fun hb => s_move rfl rfl rfl)
      apply Exec.cons
      · exact s_guard (c := _) rfl rfl rfl (by first | exact hpre1 rfl | (intro _ _ h; simp [get] at h)) rfl (fun hb => s_bin (evif (bv := .tup []) hb rfl) (evif (bv := .tup []) hb rfl) rfl rfl rfl)
      apply Exec.cons
      · first | exact s_and (bv := .tup []) rfl rfl rfl rfl | exact s_and rfl rfl rfl rfl | exact s_pick rfl rfl rfl (fun h => by simp [h]) (fun h => by simp [h]) rfl rfl rfl
      apply Exec.cons
      · first | exact s_load_all rfl rfl agg34 rfl | exact s_loade_all rfl (rowAt (by assumption)) agg34 rfl | exact s_load_agg rfl rfl agg34 rfl rfl rfl | exact s_loade_agg' rfl (rowAt (by assumption)) agg34 rfl rfl rfl | exact s_loade_agg rfl agg34 rfl rfl rfl
      apply Exec.cons
      · exact s_assign rfl rfl rfl
      apply Exec.cons
      · first | exact s_store_row rfl rfl rfl sz34 (by first | omega | (simp [chunk]; done) | (simp [chunk]; omega)) rfl | exact s_storeA rfl rfl rfl rfl sz34 rfl rfl rfl | exact s_store_all rfl rfl rfl sz34 rfl rfl rfl rfl | exact s_store rfl rfl rfl sz34 rfl rfl (Nat.le_of_ble_eq_true rfl) rfl rfl rfl
      exact Exec.nil _ _
    · kernel_rfl
    conv => enter [4]; simp only [nrm_, List.mem_cons, List.not_mem_nil, List.filterMap_cons, List.filterMap_nil, List.cons_append, List.nil_append, ↓reduceIte, Nat.reduceEqDiff, or_false, or_true, false_or, List.map_cons, List.map_nil, Option.map_some, Option.map_none, Nat.reduceAdd, Nat.reduceMul, splice, chunk, Option.getD_some, Option.getD_none, Int.toNat_natCast, Int.toNat_zero, Nat.sub_zero, List.take_succ_cons, List.take_zero, List.drop_succ_cons, List.drop_zero, List.length_cons, List.length_nil, List.set_cons_succ, List.set_cons_zero, eO, flat_eU8, set_cB, set_cB99, sub_, zc34]
    refine k_ret ?_
    rw [show pstep p o = p from by simp [pstep, hk]]
    exact fin_obj (.cons (.tmp rfl) (.cons (by first | exact resOk_all rfl rfl agg34 | exact .agg rfl rfl agg34 rfl) .nil)) ((Imp.tup (.cons (imp_eq (by simp [drel_read h])) (.cons (imp_aggE (by repeat (first | exact ImpCs.nil | (apply ImpCs.cons; first | exact impC_tok _ _ _ | exact impC_nn _ _ | exact ImpC.refl _))) (by simp [encD, dstep, hk])) .nil)))) (by first | trivial | simp [AV.bel, C.bel, belowL, belowL_i, belowA, encD, bel_cStr]) rfl
  · skip
    have k0 : ¬ o.kind = 0 := by simpa using hb
    refine k_seq ?_
    apply k_reg [0, 4, 5, 7, 24, 51] 81 
    · kernel_rfl
    · apply Exec.cons
      · exact s_bin rfl rfl rfl rfl rfl
      apply Exec.cons
      · exact s_assign rfl rfl rfl
      exact Exec.nil _ _
    conv => enter [4]; simp only [nrm_, List.mem_cons, List.not_mem_nil, List.filterMap_cons, List.filterMap_nil, List.cons_append, List.nil_append, ↓reduceIte, Nat.reduceEqDiff, or_false, or_true, false_or, List.map_cons, List.map_nil, Option.map_some, Option.map_none, Nat.reduceAdd, Nat.reduceMul, splice, chunk, Option.getD_some, Option.getD_none, Int.toNat_natCast, Int.toNat_zero, Nat.sub_zero, List.take_succ_cons, List.take_zero, List.drop_succ_cons, List.drop_zero, List.length_cons, List.length_nil, List.set_cons_succ, List.set_cons_zero, eO, flat_eU8, set_cB, set_cB99, sub_, zc34]
    refine k_cond rfl (fun hb => ?_) (fun hb => ?_)
    · skip
      have hk : o.kind = 1 := by simpa using hb
      refine k_seq ?_
      apply k_reg [0, 4, 5, 7, 12] 121 
      · kernel_rfl
      · apply Exec.cons
        · exact s_buildSlice elem38 zero5 zok5 rfl rfl rfl rfl rfl rfl (by decide) rfl
        apply Exec.cons
        · first | exact s_fieldAddr rfl fld40_3 rfl | exact s_fieldAddre rfl fld40_3 rfl
        apply Exec.cons
        · first | exact s_load rfl rfl one38 rfl rfl | exact s_load_row rfl rfl one38 (by first | rfl | assumption | (simp; done)) rfl | exact s_loade' rfl (rowAt (by assumption)) one38 rfl rfl | exact s_loade rfl one38 rfl rfl
        apply Exec.cons
        · exact s_append_own elem38 rfl rfl rfl (by first | exact ImpC.refl _ | exact impC_tok _ _ _ | exact impC_nn _ _ | exact impC_nilk _ _) (by first | omega | (simp [chunk]; done) | (simp [chunk]; omega)) rfl
        apply Exec.cons
        · exact s_assign rfl rfl rfl
        exact Exec.nil _ _
      conv => enter [4]; simp only [nrm_, List.mem_cons, List.not_mem_nil, List.filterMap_cons, List.filterMap_nil, List.cons_append, List.nil_append, ↓reduceIte, Nat.reduceEqDiff, or_false, or_true, false_or, List.map_cons, List.map_nil, Option.map_some, Option.map_none, Nat.reduceAdd, Nat.reduceMul, splice, chunk, Option.getD_some, Option.getD_none, Int.toNat_natCast, Int.toNat_zero, Nat.sub_zero, List.take_succ_cons, List.take_zero, List.drop_succ_cons, List.drop_zero, List.length_cons, List.length_nil, List.set_cons_succ, List.set_cons_zero, eO, flat_eU8, set_cB, set_cB99, sub_, zc34]
      refine k_seq ?_
      apply k_reg [4, 5, 7, 12, 13] 169 
      · kernel_rfl
      · apply Exec.cons
        · exact s_move rfl rfl rfl
        apply Exec.cons
        · first | exact s_fieldAddr rfl fld40_1 rfl | exact s_fieldAddre rfl fld40_1 rfl
        apply Exec.cons
        · first | exact s_load rfl rfl one3 rfl rfl | exact s_load_row rfl rfl one3 (by first | rfl | assumption | (simp; done)) rfl | exact s_loade' rfl (rowAt (by assumption)) one3 rfl rfl | exact s_loade rfl one3 rfl rfl
        apply Exec.cons
        · exact s_move rfl rfl rfl
        apply Exec.cons
        · exact s_callr 0 105 rfl call17 (sp_writeR p o.i o.b (by omega) (by omega)) rfl rfl rfl (by first | exact Imps.refl _ | (repeat (first | exact Imps.nil | apply Imps.cons | exact Imp.refl _ | exact Imp.c (impC_tok _ _ _) | exact Imp.c (impC_nilk _ _) | (apply Imp.agg; (repeat (first | exact ImpCs.nil | (apply ImpCs.cons; first | exact impC_tok _ _ _ | exact impC_nn _ _ | exact ImpC.refl _))))))) (by first | trivial | simp [AV.bel, C.bel, belowL, belowL_i, belowA, encD, bel_cStr]) (by (first | trivial | (show _ < _; exact lt_ble rfl) | exact bel_cStr _ _ | exact bel_cB _ _ | (show belowL _ _; (repeat (first | exact trivial | (show _ < _; exact lt_ble rfl) | refine ⟨?_, ?_⟩)); done) |  decide | (simp [belowA, AV.bel, C.bel, belowL, belowL_i, heapBelow, R.bel, encD, bel_cStr]; done) | (intro p hp; simp at hp))) rfl rfl rfl
        apply Exec.cons
        · exact s_assign rfl rfl rfl
        exact Exec.nil _ _
      conv => enter [4]; simp only [nrm_, List.mem_cons, List.not_mem_nil, List.filterMap_cons, List.filterMap_nil, List.cons_append, List.nil_append, ↓reduceIte, Nat.reduceEqDiff, or_false, or_true, false_or, List.map_cons, List.map_nil, Option.map_some, Option.map_none, Nat.reduceAdd, Nat.reduceMul, splice, chunk, Option.getD_some, Option.getD_none, Int.toNat_natCast, Int.toNat_zero, Nat.sub_zero, List.take_succ_cons, List.take_zero, List.drop_succ_cons, List.drop_zero, List.length_cons, List.length_nil, List.set_cons_succ, List.set_cons_zero, eO, flat_eU8, set_cB, set_cB99, sub_, zc34]
      refine k_seq ?_
      apply k_reg [7, 12, 13, 14, 15] 273 
      · kernel_rfl
      · apply Exec.cons
        · first | exact s_load_all rfl rfl agg34 rfl | exact s_loade_all rfl (rowAt (by assumption)) agg34 rfl | exact s_load_agg rfl rfl agg34 rfl rfl rfl | exact s_loade_agg' rfl (rowAt (by assumption)) agg34 rfl rfl rfl | exact s_loade_agg rfl agg34 rfl rfl rfl
        apply Exec.cons
        · first | exact s_fieldAddr rfl fld40_1 rfl | exact s_fieldAddre rfl fld40_1 rfl
        apply Exec.cons
        · first | exact s_load rfl rfl one3 rfl rfl | exact s_load_row rfl rfl one3 (by first | rfl | assumption | (simp; done)) rfl | exact s_loade' rfl (rowAt (by assumption)) one3 rfl rfl | exact s_loade rfl one3 rfl rfl
        apply Exec.cons
        · first | exact s_fieldAddr rfl fld40_3 rfl | exact s_fieldAddre rfl fld40_3 rfl
        apply Exec.cons
        · first | exact s_load rfl rfl one38 rfl rfl | exact s_load_row rfl rfl one38 (by first | rfl | assumption | (simp; done)) rfl | exact s_loade' rfl (rowAt (by assumption)) one38 rfl rfl | exact s_loade rfl one38 rfl rfl
        apply Exec.cons
        · first | exact s_bts_own Try.underlying38 Try.underlying5 Try.underlying9 rfl rfl (by first | rfl | simp) rfl | exact s_bts Try.underlying38 Try.underlying5 Try.underlying9 rfl (by first | exact ImpC.refl _ | exact impC_tok _ _ _ | exact impC_nn _ _ | exact impC_nilk _ _) rfl
        apply Exec.cons
        · exact s_callv call20 (rp_write _ ok _ _) rfl rfl rfl (by first | exact Imps.refl _ | (repeat (first | exact Imps.nil | apply Imps.cons | exact Imp.refl _ | exact Imp.c (impC_tok _ _ _) | exact Imp.c (impC_nilk _ _) | (apply Imp.agg; (repeat (first | exact ImpCs.nil | (apply ImpCs.cons; first | exact impC_tok _ _ _ | exact impC_nn _ _ | exact ImpC.refl _))))))) (by first | trivial | simp [AV.bel, C.bel, belowL, belowL_i, belowA, encD, bel_cStr]) rfl
        apply Exec.cons
        · exact s_move rfl rfl rfl
        apply Exec.cons
        · exact s_extract rfl rfl rfl rfl
        apply Exec.cons
        · exact s_extract rfl rfl rfl rfl
        apply Exec.cons
        · exact s_alloc zero34 zok34 rfl
        apply Exec.cons
        · exact s_assign rfl rfl rfl
        apply Exec.cons
        · first | exact s_store_row rfl rfl rfl sz34 (by first | omega | (simp [chunk]; done) | (simp [chunk]; omega)) rfl | exact s_storeA rfl rfl rfl rfl sz34 rfl rfl rfl | exact s_store_all rfl rfl rfl sz34 rfl rfl rfl rfl | exact s_store rfl rfl rfl sz34 rfl rfl (Nat.le_of_ble_eq_true rfl) rfl rfl rfl
        exact Exec.nil _ _
      conv => enter [4]; simp only [nrm_, List.mem_cons, List.not_mem_nil, List.filterMap_cons, List.filterMap_nil, List.cons_append, List.nil_append, ↓reduceIte, Nat.reduceEqDiff, or_false, or_true, false_or, List.map_cons, List.map_nil, Option.map_some, Option.map_none, Nat.reduceAdd, Nat.reduceMul, splice, chunk, Option.getD_some, Option.getD_none, Int.toNat_natCast, Int.toNat_zero, Nat.sub_zero, List.take_succ_cons, List.take_zero, List.drop_succ_cons, List.drop_zero, List.length_cons, List.length_nil, List.set_cons_succ, List.set_cons_zero, eO, flat_eU8, set_cB, set_cB99, sub_, zc34]
      refine k_seq ?_
      refine k_seq ?_
      apply k_reg [7, 12, 13, 14, 15, 16] 281 
      · kernel_rfl
      · apply Exec.cons
        · exact s_assign rfl rfl rfl
        exact Exec.nil _ _
      conv => enter [4]; simp only [nrm_, List.mem_cons, List.not_mem_nil, List.filterMap_cons, List.filterMap_nil, List.cons_append, List.nil_append, ↓reduceIte, Nat.reduceEqDiff, or_false, or_true, false_or, List.map_cons, List.map_nil, Option.map_some, Option.map_none, Nat.reduceAdd, Nat.reduceMul, splice, chunk, Option.getD_some, Option.getD_none, Int.toNat_natCast, Int.toNat_zero, Nat.sub_zero, List.take_succ_cons, List.take_zero, List.drop_succ_cons, List.drop_zero, List.length_cons, List.length_nil, List.set_cons_succ, List.set_cons_zero, eO, flat_eU8, set_cB, set_cB99, sub_, zc34]
      refine k_block ?_
      refine k_loopO (X := Nat × List UInt8) 281 [16] (fun x => [(16, vv (.int .i64 (x.1 : Int)))]) [105] (fun x => [(105, some (.row 5 1 (x.2.map fun b => C.i (.v (.int .u8 (b.toNat : Int))))))]) (fun x => x.1 ≤ x.2.length ∧ x.2.length = o.b.length) (fun x => x.2.length - x.1) (0, o.b) ⟨Nat.zero_le _, rfl⟩ ?_ ?_
      · exact weak_to h0 (Nat.le_of_ble_eq_true rfl) (by (repeat (first | exact trivial | refine ⟨⟨_, rfl, Imp.refl _⟩, (by first | trivial | (show _ < _; exact lt_ble rfl) | exact bel_cStr _ _ | exact bel_cB _ _ | (show belowL _ _; (repeat (first | exact trivial | (show _ < _; exact lt_ble rfl) | refine ⟨?_, ?_⟩)); done) |  decide | simp [AV.bel, C.bel, belowL, belowL_i, belowA, encD, bel_cStr]), ?_⟩))) (by (repeat (first | exact trivial | refine ⟨rfl, lt_ble rfl, (by first | trivial | (show _ < _; exact lt_ble rfl) | exact bel_cStr _ _ | exact bel_cB _ _ | (show belowL _ _; (repeat (first | exact trivial | (show _ < _; exact lt_ble rfl) | refine ⟨?_, ?_⟩)); done) |  decide | simp [AV.bel, C.bel, belowL, belowL_i, belowA, R.bel, encD, bel_cStr]), ?_⟩))) rfl
      · rintro ⟨k, L⟩ ⟨hk1, hL⟩
        conv => enter [4]; simp only [nrm_, List.mem_cons, List.not_mem_nil, List.filterMap_cons, List.filterMap_nil, List.cons_append, List.nil_append, ↓reduceIte, Nat.reduceEqDiff, or_false, or_true, false_or, List.map_cons, List.map_nil, Option.map_some, Option.map_none, Nat.reduceAdd, Nat.reduceMul, splice, chunk, Option.getD_some, Option.getD_none, Int.toNat_natCast, Int.toNat_zero, Nat.sub_zero, List.take_succ_cons, List.take_zero, List.drop_succ_cons, List.drop_zero, List.length_cons, List.length_nil, List.set_cons_succ, List.set_cons_zero, eO, flat_eU8, set_cB, set_cB99, sub_, zc34]
        simp only at hk1 hL
        refine k_seq ?_
        refine k_seq ?_
        apply k_reg [7, 12, 13, 14, 15, 16, 75] 313 
        · kernel_rfl
        · apply Exec.cons
          · exact s_move rfl rfl rfl
          apply Exec.cons
          · exact s_move rfl rfl rfl
          apply Exec.cons
          · first | exact s_len Try.underlying38 rfl (by first | exact ImpC.refl _ | exact impC_tok _ _ _ | exact impC_nn _ _ | exact impC_nilk _ _) rfl | exact s_len_own1 Try.underlying38 rfl rfl rfl
          apply Exec.cons
          · exact s_bin rfl rfl rfl rfl rfl
          exact Exec.nil _ _
        conv => enter [4]; simp only [nrm_, List.mem_cons, List.not_mem_nil, List.filterMap_cons, List.filterMap_nil, List.cons_append, List.nil_append, ↓reduceIte, Nat.reduceEqDiff, or_false, or_true, false_or, List.map_cons, List.map_nil, Option.map_some, Option.map_none, Nat.reduceAdd, Nat.reduceMul, splice, chunk, Option.getD_some, Option.getD_none, Int.toNat_natCast, Int.toNat_zero, Nat.sub_zero, List.take_succ_cons, List.take_zero, List.drop_succ_cons, List.drop_zero, List.length_cons, List.length_nil, List.set_cons_succ, List.set_cons_zero, eO, flat_eU8, set_cB, set_cB99, sub_, zc34]
        refine k_cond rfl (fun hb => ?_) (fun hb => ?_)
        · skip
          have hlt : k < L.length := by simpa using hb
          refine k_skip ?_
          refine k_seq ?_
          refine k_block ?_
          apply k_regl 345 
          · kernel_rfl
          · apply Exec.cons
            · exact s_move rfl rfl rfl
            apply Exec.cons
            · exact s_move rfl rfl rfl
            apply Exec.cons
            · first | exact s_indexAddr Try.underlying38 sz5 rfl (by first | exact ImpC.refl _ | exact impC_tok _ _ _ | exact impC_nn _ _ | exact impC_nilk _ _) rfl (by first | omega | (simp [chunk]; done) | (simp [chunk]; omega)) (by first | omega | (simp [chunk]; done) | (simp [chunk]; omega)) rfl | exact s_indexAddr_own1 Try.underlying38 sz5 rfl rfl rfl (by first | omega | (simp [chunk]; done) | (simp [chunk]; omega)) (by first | omega | (simp [chunk]; done) | (simp [chunk]; omega)) rfl
            apply Exec.cons
            · first | exact s_store_row rfl rfl rfl sz5 (by first | omega | (simp [chunk]; done) | (simp [chunk]; omega)) rfl | exact s_storeA rfl rfl rfl rfl sz5 rfl rfl rfl | exact s_store_all rfl rfl rfl sz5 rfl rfl rfl rfl | exact s_store rfl rfl rfl sz5 rfl rfl (Nat.le_of_ble_eq_true rfl) rfl rfl rfl
            exact Exec.nil _ _
          try (refine k_keep [7, 12, 13, 14, 15, 16] ?_; conv => enter [4]; simp only [nrm_, List.mem_cons, List.not_mem_nil, List.filterMap_cons, List.filterMap_nil, List.cons_append, List.nil_append, ↓reduceIte, Nat.reduceEqDiff, or_false, or_true, false_or, List.map_cons, List.map_nil, Option.map_some, Option.map_none, Nat.reduceAdd, Nat.reduceMul, splice, chunk, Option.getD_some, Option.getD_none, Int.toNat_natCast, Int.toNat_zero, Nat.sub_zero, List.take_succ_cons, List.take_zero, List.drop_succ_cons, List.drop_zero, List.length_cons, List.length_nil, List.set_cons_succ, List.set_cons_zero, eO, flat_eU8, set_cB, set_cB99, sub_, zc34])
          apply k_regl 369 
          · kernel_rfl
          · apply Exec.cons
            · exact s_move rfl rfl rfl
            apply Exec.cons
            · first | exact s_add rfl rfl (in_i64 (by omega) (by omega)) rfl | exact s_bin rfl rfl rfl rfl rfl
            apply Exec.cons
            · exact s_assign rfl rfl rfl
            exact Exec.nil _ _
          try (refine k_keep [7, 12, 13, 14, 15, 16] ?_; conv => enter [4]; simp only [nrm_, List.mem_cons, List.not_mem_nil, List.filterMap_cons, List.filterMap_nil, List.cons_append, List.nil_append, ↓reduceIte, Nat.reduceEqDiff, or_false, or_true, false_or, List.map_cons, List.map_nil, Option.map_some, Option.map_none, Nat.reduceAdd, Nat.reduceMul, splice, chunk, Option.getD_some, Option.getD_none, Int.toNat_natCast, Int.toNat_zero, Nat.sub_zero, List.take_succ_cons, List.take_zero, List.drop_succ_cons, List.drop_zero, List.length_cons, List.length_nil, List.set_cons_succ, List.set_cons_zero, eO, flat_eU8, set_cB, set_cB99, sub_, zc34])
          exact ⟨(k + 1, L.set k 99), ⟨by simp only [List.length_set]; omega, by simp only [List.length_set]; exact hL⟩, by simp only [List.length_set]; omega, weak_to h0 (Nat.le_of_ble_eq_true rfl) (by (repeat (first | exact trivial | refine ⟨⟨_, rfl, Imp.refl _⟩, (by first | trivial | (show _ < _; exact lt_ble rfl) | exact bel_cStr _ _ | exact bel_cB _ _ | (show belowL _ _; (repeat (first | exact trivial | (show _ < _; exact lt_ble rfl) | refine ⟨?_, ?_⟩)); done) |  decide | simp [AV.bel, C.bel, belowL, belowL_i, belowA, encD, bel_cStr]), ?_⟩))) (by (repeat (first | exact trivial | refine ⟨rfl, lt_ble rfl, (by first | trivial | (show _ < _; exact lt_ble rfl) | exact bel_cStr _ _ | exact bel_cB _ _ | (show belowL _ _; (repeat (first | exact trivial | (show _ < _; exact lt_ble rfl) | refine ⟨?_, ?_⟩)); done) |  decide | simp [AV.bel, C.bel, belowL, belowL_i, belowA, R.bel, encD, bel_cStr]), ?_⟩))) rfl⟩
        · skip
          refine k_exit rfl ?_
          refine k_seq ?_
          apply k_dreg [6, 7] 361 mixed
          · kernel_rfl
          · apply Exec.cons
            · exact s_move rfl rfl rfl
            apply Exec.cons
            · exact s_move rfl rfl rfl
            apply Exec.cons
            · exact s_bin rfl rfl rfl rfl rfl
            apply Exec.cons
            · first | exact s_load_all rfl rfl agg34 rfl | exact s_loade_all rfl (rowAt (by assumption)) agg34 rfl | exact s_load_agg rfl rfl agg34 rfl rfl rfl | exact s_loade_agg' rfl (rowAt (by assumption)) agg34 rfl rfl rfl | exact s_loade_agg rfl agg34 rfl rfl rfl
            apply Exec.cons
            · exact s_assign rfl rfl rfl
            apply Exec.cons
            · first | exact s_store_row rfl rfl rfl sz34 (by first | omega | (simp [chunk]; done) | (simp [chunk]; omega)) rfl | exact s_storeA rfl rfl rfl rfl sz34 rfl rfl rfl | exact s_store_all rfl rfl rfl sz34 rfl rfl rfl rfl | exact s_store rfl rfl rfl sz34 rfl rfl (Nat.le_of_ble_eq_true rfl) rfl rfl rfl
            exact Exec.nil _ _
          · kernel_rfl
          conv => enter [4]; simp only [nrm_, List.mem_cons, List.not_mem_nil, List.filterMap_cons, List.filterMap_nil, List.cons_append, List.nil_append, ↓reduceIte, Nat.reduceEqDiff, or_false, or_true, false_or, List.map_cons, List.map_nil, Option.map_some, Option.map_none, Nat.reduceAdd, Nat.reduceMul, splice, chunk, Option.getD_some, Option.getD_none, Int.toNat_natCast, Int.toNat_zero, Nat.sub_zero, List.take_succ_cons, List.take_zero, List.drop_succ_cons, List.drop_zero, List.length_cons, List.length_nil, List.set_cons_succ, List.set_cons_zero, eO, flat_eU8, set_cB, set_cB99, sub_, zc34]
          refine k_ret ?_
          rw [show pstep p o = (p.write o.i o.b).2 from by simp [pstep, hk]]
          exact fin_obj (.cons (.tmp rfl) (.cons (by first | exact resOk_all rfl rfl agg34 | exact .agg rfl rfl agg34 rfl) .nil)) ((Imp.tup (.cons (imp_eq (by simp [(drel_write h o.i o.b).1])) (.cons (imp_aggE (by repeat (first | exact ImpCs.nil | (apply ImpCs.cons; first | exact impC_tok _ _ _ | exact impC_nn _ _ | exact ImpC.refl _))) (by simp [encD, dstep, hk])) .nil)))) (by first | trivial | simp [AV.bel, C.bel, belowL, belowL_i, belowA, encD, bel_cStr]) rfl
    · skip
      have k1 : ¬ o.kind = 1 := by simpa using hb
      refine k_seq ?_
      apply k_reg [0, 4, 5, 7, 24, 85] 97 
      · kernel_rfl
      · apply Exec.cons
        · exact s_bin rfl rfl rfl rfl rfl
        apply Exec.cons
        · exact s_assign rfl rfl rfl
        exact Exec.nil _ _
      conv => enter [4]; simp only [nrm_, List.mem_cons, List.not_mem_nil, List.filterMap_cons, List.filterMap_nil, List.cons_append, List.nil_append, ↓reduceIte, Nat.reduceEqDiff, or_false, or_true, false_or, List.map_cons, List.map_nil, Option.map_some, Option.map_none, Nat.reduceAdd, Nat.reduceMul, splice, chunk, Option.getD_some, Option.getD_none, Int.toNat_natCast, Int.toNat_zero, Nat.sub_zero, List.take_succ_cons, List.take_zero, List.drop_succ_cons, List.drop_zero, List.length_cons, List.length_nil, List.set_cons_succ, List.set_cons_zero, eO, flat_eU8, set_cB, set_cB99, sub_, zc34]
      refine k_cond rfl (fun hb => ?_) (fun hb => ?_)
      · skip
        have hk : o.kind = 2 := by simpa using hb
        refine k_seq ?_
        apply k_reg [4, 7, 17] 121 
        · kernel_rfl
        · apply Exec.cons
          · exact s_move rfl rfl rfl
          apply Exec.cons
          · exact s_callo 0 call21 (sp_sync p (by omega)) rfl rfl rfl (by first | exact Imps.refl _ | (repeat (first | exact Imps.nil | apply Imps.cons | exact Imp.refl _ | exact Imp.c (impC_tok _ _ _) | exact Imp.c (impC_nilk _ _) | (apply Imp.agg; (repeat (first | exact ImpCs.nil | (apply ImpCs.cons; first | exact impC_tok _ _ _ | exact impC_nn _ _ | exact ImpC.refl _))))))) (by first | trivial | simp [AV.bel, C.bel, belowL, belowL_i, belowA, encD, bel_cStr]) rfl rfl
          apply Exec.cons
          · exact s_assign rfl rfl rfl
          exact Exec.nil _ _
        conv => enter [4]; simp only [nrm_, List.mem_cons, List.not_mem_nil, List.filterMap_cons, List.filterMap_nil, List.cons_append, List.nil_append, ↓reduceIte, Nat.reduceEqDiff, or_false, or_true, false_or, List.map_cons, List.map_nil, Option.map_some, Option.map_none, Nat.reduceAdd, Nat.reduceMul, splice, chunk, Option.getD_some, Option.getD_none, Int.toNat_natCast, Int.toNat_zero, Nat.sub_zero, List.take_succ_cons, List.take_zero, List.drop_succ_cons, List.drop_zero, List.length_cons, List.length_nil, List.set_cons_succ, List.set_cons_zero, eO, flat_eU8, set_cB, set_cB99, sub_, zc34]
        refine k_seq ?_
        apply k_reg [7, 17, 18, 19] 185 
        · kernel_rfl
        · apply Exec.cons
          · first | exact s_load_all rfl rfl agg34 rfl | exact s_loade_all rfl (rowAt (by assumption)) agg34 rfl | exact s_load_agg rfl rfl agg34 rfl rfl rfl | exact s_loade_agg' rfl (rowAt (by assumption)) agg34 rfl rfl rfl | exact s_loade_agg rfl agg34 rfl rfl rfl
          apply Exec.cons
          · exact s_callv call22 (rp_sync _ ok) rfl rfl rfl (by first | exact Imps.refl _ | (repeat (first | exact Imps.nil | apply Imps.cons | exact Imp.refl _ | exact Imp.c (impC_tok _ _ _) | exact Imp.c (impC_nilk _ _) | (apply Imp.agg; (repeat (first | exact ImpCs.nil | (apply ImpCs.cons; first | exact impC_tok _ _ _ | exact impC_nn _ _ | exact ImpC.refl _))))))) (by first | trivial | simp [AV.bel, C.bel, belowL, belowL_i, belowA, encD, bel_cStr]) rfl
          apply Exec.cons
          · exact s_move rfl rfl rfl
          apply Exec.cons
          · exact s_extract rfl rfl rfl rfl
          apply Exec.cons
          · exact s_extract rfl rfl rfl rfl
          apply Exec.cons
          · exact s_alloc zero34 zok34 rfl
          apply Exec.cons
          · exact s_assign rfl rfl rfl
          apply Exec.cons
          · first | exact s_store_row rfl rfl rfl sz34 (by first | omega | (simp [chunk]; done) | (simp [chunk]; omega)) rfl | exact s_storeA rfl rfl rfl rfl sz34 rfl rfl rfl | exact s_store_all rfl rfl rfl sz34 rfl rfl rfl rfl | exact s_store rfl rfl rfl sz34 rfl rfl (Nat.le_of_ble_eq_true rfl) rfl rfl rfl
          exact Exec.nil _ _
        conv => enter [4]; simp only [nrm_, List.mem_cons, List.not_mem_nil, List.filterMap_cons, List.filterMap_nil, List.cons_append, List.nil_append, ↓reduceIte, Nat.reduceEqDiff, or_false, or_true, false_or, List.map_cons, List.map_nil, Option.map_some, Option.map_none, Nat.reduceAdd, Nat.reduceMul, splice, chunk, Option.getD_some, Option.getD_none, Int.toNat_natCast, Int.toNat_zero, Nat.sub_zero, List.take_succ_cons, List.take_zero, List.drop_succ_cons, List.drop_zero, List.length_cons, List.length_nil, List.set_cons_succ, List.set_cons_zero, eO, flat_eU8, set_cB, set_cB99, sub_, zc34]
        refine k_seq ?_
        apply k_dreg [6, 7] 233 mixed
        · kernel_rfl
        · apply Exec.cons
          · exact s_move rfl rfl rfl
          apply Exec.cons
          · exact s_move rfl rfl rfl
          apply Exec.cons
          · exact s_bin rfl rfl rfl rfl rfl
          apply Exec.cons
          · first | exact s_load_all rfl rfl agg34 rfl | exact s_loade_all rfl (rowAt (by assumption)) agg34 rfl | exact s_load_agg rfl rfl agg34 rfl rfl rfl | exact s_loade_agg' rfl (rowAt (by assumption)) agg34 rfl rfl rfl | exact s_loade_agg rfl agg34 rfl rfl rfl
          apply Exec.cons
          · exact s_assign rfl rfl rfl
          apply Exec.cons
          · first | exact s_store_row rfl rfl rfl sz34 (by first | omega | (simp [chunk]; done) | (simp [chunk]; omega)) rfl | exact s_storeA rfl rfl rfl rfl sz34 rfl rfl rfl | exact s_store_all rfl rfl rfl sz34 rfl rfl rfl rfl | exact s_store rfl rfl rfl sz34 rfl rfl (Nat.le_of_ble_eq_true rfl) rfl rfl rfl
          exact Exec.nil _ _
        · kernel_rfl
        conv => enter [4]; simp only [nrm_, List.mem_cons, List.not_mem_nil, List.filterMap_cons, List.filterMap_nil, List.cons_append, List.nil_append, ↓reduceIte, Nat.reduceEqDiff, or_false, or_true, false_or, List.map_cons, List.map_nil, Option.map_some, Option.map_none, Nat.reduceAdd, Nat.reduceMul, splice, chunk, Option.getD_some, Option.getD_none, Int.toNat_natCast, Int.toNat_zero, Nat.sub_zero, List.take_succ_cons, List.take_zero, List.drop_succ_cons, List.drop_zero, List.length_cons, List.length_nil, List.set_cons_succ, List.set_cons_zero, eO, flat_eU8, set_cB, set_cB99, sub_, zc34]
        refine k_ret ?_
        rw [show pstep p o = p.sync.2 from by simp [pstep, hk]]
        exact fin_obj (.cons (.tmp rfl) (.cons (by first | exact resOk_all rfl rfl agg34 | exact .agg rfl rfl agg34 rfl) .nil)) ((Imp.tup (.cons (imp_eq (by simp [(drel_sync h g).1])) (.cons (imp_aggE (by repeat (first | exact ImpCs.nil | (apply ImpCs.cons; first | exact impC_tok _ _ _ | exact impC_nn _ _ | exact ImpC.refl _))) (by simp [encD, dstep, hk])) .nil)))) (by first | trivial | simp [AV.bel, C.bel, belowL, belowL_i, belowA, encD, bel_cStr]) rfl
      · skip
        have k2 : ¬ o.kind = 2 := by simpa using hb
        refine k_seq ?_
        apply k_reg [0, 4, 5, 7, 24, 98] 113 
        · kernel_rfl
        · apply Exec.cons
          · exact s_bin rfl rfl rfl rfl rfl
          apply Exec.cons
          · exact s_assign rfl rfl rfl
          exact Exec.nil _ _
        conv => enter [4]; simp only [nrm_, List.mem_cons, List.not_mem_nil, List.filterMap_cons, List.filterMap_nil, List.cons_append, List.nil_append, ↓reduceIte, Nat.reduceEqDiff, or_false, or_true, false_or, List.map_cons, List.map_nil, Option.map_some, Option.map_none, Nat.reduceAdd, Nat.reduceMul, splice, chunk, Option.getD_some, Option.getD_none, Int.toNat_natCast, Int.toNat_zero, Nat.sub_zero, List.take_succ_cons, List.take_zero, List.drop_succ_cons, List.drop_zero, List.length_cons, List.length_nil, List.set_cons_succ, List.set_cons_zero, eO, flat_eU8, set_cB, set_cB99, sub_, zc34]
        refine k_cond rfl (fun hb => ?_) (fun hb => ?_)
        · skip
          have hk : o.kind = 3 := by simpa using hb
          refine k_seq ?_
          apply k_reg [4, 5, 7] 145 
          · kernel_rfl
          · apply Exec.cons
            · exact s_move rfl rfl rfl
            apply Exec.cons
            · first | exact s_fieldAddr rfl fld40_1 rfl | exact s_fieldAddre rfl fld40_1 rfl
            apply Exec.cons
            · first | exact s_load rfl rfl one3 rfl rfl | exact s_load_row rfl rfl one3 (by first | rfl | assumption | (simp; done)) rfl | exact s_loade' rfl (rowAt (by assumption)) one3 rfl rfl | exact s_loade rfl one3 rfl rfl
            apply Exec.cons
            · exact s_callo 0 call23 (sp_fuse p o.i hi) rfl rfl rfl (by first | exact Imps.refl _ | (repeat (first | exact Imps.nil | apply Imps.cons | exact Imp.refl _ | exact Imp.c (impC_tok _ _ _) | exact Imp.c (impC_nilk _ _) | (apply Imp.agg; (repeat (first | exact ImpCs.nil | (apply ImpCs.cons; first | exact impC_tok _ _ _ | exact impC_nn _ _ | exact ImpC.refl _))))))) (by first | trivial | simp [AV.bel, C.bel, belowL, belowL_i, belowA, encD, bel_cStr]) rfl rfl
            exact Exec.nil _ _
          conv => enter [4]; simp only [nrm_, List.mem_cons, List.not_mem_nil, List.filterMap_cons, List.filterMap_nil, List.cons_append, List.nil_append, ↓reduceIte, Nat.reduceEqDiff, or_false, or_true, false_or, List.map_cons, List.map_nil, Option.map_some, Option.map_none, Nat.reduceAdd, Nat.reduceMul, splice, chunk, Option.getD_some, Option.getD_none, Int.toNat_natCast, Int.toNat_zero, Nat.sub_zero, List.take_succ_cons, List.take_zero, List.drop_succ_cons, List.drop_zero, List.length_cons, List.length_nil, List.set_cons_succ, List.set_cons_zero, eO, flat_eU8, set_cB, set_cB99, sub_, zc34]
          refine k_seq ?_
          apply k_reg [4, 7] 185 
          · kernel_rfl
          · apply Exec.cons
            · first | exact s_fieldAddr rfl fld40_1 rfl | exact s_fieldAddre rfl fld40_1 rfl
            apply Exec.cons
            · first | exact s_load rfl rfl one3 rfl rfl | exact s_load_row rfl rfl one3 (by first | rfl | assumption | (simp; done)) rfl | exact s_loade' rfl (rowAt (by assumption)) one3 rfl rfl | exact s_loade rfl one3 rfl rfl
            apply Exec.cons
            · exact s_max rfl rfl rfl
            apply Exec.cons
            · first | exact s_fieldAddr rfl fld34_6 rfl | exact s_fieldAddre rfl fld34_6 rfl
            apply Exec.cons
            · first | exact s_store_row rfl rfl rfl sz3 (by first | omega | (simp [chunk]; done) | (simp [chunk]; omega)) rfl | exact s_storeA rfl rfl rfl rfl sz3 rfl rfl rfl | exact s_store_all rfl rfl rfl sz3 rfl rfl rfl rfl | exact s_store rfl rfl rfl sz3 rfl rfl (Nat.le_of_ble_eq_true rfl) rfl rfl rfl
            exact Exec.nil _ _
          conv => enter [4]; simp only [nrm_, List.mem_cons, List.not_mem_nil, List.filterMap_cons, List.filterMap_nil, List.cons_append, List.nil_append, ↓reduceIte, Nat.reduceEqDiff, or_false, or_true, false_or, List.map_cons, List.map_nil, Option.map_some, Option.map_none, Nat.reduceAdd, Nat.reduceMul, splice, chunk, Option.getD_some, Option.getD_none, Int.toNat_natCast, Int.toNat_zero, Nat.sub_zero, List.take_succ_cons, List.take_zero, List.drop_succ_cons, List.drop_zero, List.length_cons, List.length_nil, List.set_cons_succ, List.set_cons_zero, eO, flat_eU8, set_cB, set_cB99, sub_, zc34]
          refine k_seq ?_
          apply k_dreg [6, 7] 209 mixed
          · kernel_rfl
          · apply Exec.cons
            · first | exact s_load_all rfl rfl agg34 rfl | exact s_loade_all rfl (rowAt (by assumption)) agg34 rfl | exact s_load_agg rfl rfl agg34 rfl rfl rfl | exact s_loade_agg' rfl (rowAt (by assumption)) agg34 rfl rfl rfl | exact s_loade_agg rfl agg34 rfl rfl rfl
            apply Exec.cons
            · exact s_assign rfl rfl rfl
            apply Exec.cons
            · first | exact s_store_row rfl rfl rfl sz34 (by first | omega | (simp [chunk]; done) | (simp [chunk]; omega)) rfl | exact s_storeA rfl rfl rfl rfl sz34 rfl rfl rfl | exact s_store_all rfl rfl rfl sz34 rfl rfl rfl rfl | exact s_store rfl rfl rfl sz34 rfl rfl (Nat.le_of_ble_eq_true rfl) rfl rfl rfl
            exact Exec.nil _ _
          · kernel_rfl
          conv => enter [4]; simp only [nrm_, List.mem_cons, List.not_mem_nil, List.filterMap_cons, List.filterMap_nil, List.cons_append, List.nil_append, ↓reduceIte, Nat.reduceEqDiff, or_false, or_true, false_or, List.map_cons, List.map_nil, Option.map_some, Option.map_none, Nat.reduceAdd, Nat.reduceMul, splice, chunk, Option.getD_some, Option.getD_none, Int.toNat_natCast, Int.toNat_zero, Nat.sub_zero, List.take_succ_cons, List.take_zero, List.drop_succ_cons, List.drop_zero, List.length_cons, List.length_nil, List.set_cons_succ, List.set_cons_zero, eO, flat_eU8, set_cB, set_cB99, sub_, zc34]
          refine k_ret ?_
          rw [show pstep p o = p.setFuse o.i from by simp [pstep, hk]]
          exact fin_obj (.cons (.tmp rfl) (.cons (by first | exact resOk_all rfl rfl agg34 | exact .agg rfl rfl agg34 rfl) .nil)) ((Imp.tup (.cons (imp_eq (by rfl)) (.cons (imp_aggE (by repeat (first | exact ImpCs.nil | (apply ImpCs.cons; first | exact impC_tok _ _ _ | exact impC_nn _ _ | exact ImpC.refl _))) (by simp [encD, dstep, hk])) .nil)))) (by first | trivial | simp [AV.bel, C.bel, belowL, belowL_i, belowA, encD, bel_cStr]) rfl
        · skip
          have k3 : ¬ o.kind = 3 := by simpa using hb
          refine k_seq ?_
          apply k_reg [0, 4, 5, 7, 24, 109] 129 
          · kernel_rfl
          · apply Exec.cons
            · exact s_bin rfl rfl rfl rfl rfl
            apply Exec.cons
            · exact s_assign rfl rfl rfl
            exact Exec.nil _ _
          conv => enter [4]; simp only [nrm_, List.mem_cons, List.not_mem_nil, List.filterMap_cons, List.filterMap_nil, List.cons_append, List.nil_append, ↓reduceIte, Nat.reduceEqDiff, or_false, or_true, false_or, List.map_cons, List.map_nil, Option.map_some, Option.map_none, Nat.reduceAdd, Nat.reduceMul, splice, chunk, Option.getD_some, Option.getD_none, Int.toNat_natCast, Int.toNat_zero, Nat.sub_zero, List.take_succ_cons, List.take_zero, List.drop_succ_cons, List.drop_zero, List.length_cons, List.length_nil, List.set_cons_succ, List.set_cons_zero, eO, flat_eU8, set_cB, set_cB99, sub_, zc34]
          refine k_cond rfl (fun hb => ?_) (fun hb => ?_)
          · skip
            have hk : o.kind = 4 := by simpa using hb
            refine k_seq ?_
            apply k_reg [4, 7] 145 
            · kernel_rfl
            · apply Exec.cons
              · exact s_move rfl rfl rfl
              apply Exec.cons
              · exact s_callo 0 call24 (sp_fall p) rfl rfl rfl (by first | exact Imps.refl _ | (repeat (first | exact Imps.nil | apply Imps.cons | exact Imp.refl _ | exact Imp.c (impC_tok _ _ _) | exact Imp.c (impC_nilk _ _) | (apply Imp.agg; (repeat (first | exact ImpCs.nil | (apply ImpCs.cons; first | exact impC_tok _ _ _ | exact impC_nn _ _ | exact ImpC.refl _))))))) (by first | trivial | simp [AV.bel, C.bel, belowL, belowL_i, belowA, encD, bel_cStr]) rfl rfl
              exact Exec.nil _ _
            conv => enter [4]; simp only [nrm_, List.mem_cons, List.not_mem_nil, List.filterMap_cons, List.filterMap_nil, List.cons_append, List.nil_append, ↓reduceIte, Nat.reduceEqDiff, or_false, or_true, false_or, List.map_cons, List.map_nil, Option.map_some, Option.map_none, Nat.reduceAdd, Nat.reduceMul, splice, chunk, Option.getD_some, Option.getD_none, Int.toNat_natCast, Int.toNat_zero, Nat.sub_zero, List.take_succ_cons, List.take_zero, List.drop_succ_cons, List.drop_zero, List.length_cons, List.length_nil, List.set_cons_succ, List.set_cons_zero, eO, flat_eU8, set_cB, set_cB99, sub_, zc34]
            refine k_seq ?_
            refine k_seq ?_
            apply k_reg [4, 7, 115] 169 
            · kernel_rfl
            · apply Exec.cons
              · first | exact s_fieldAddr rfl fld34_4 rfl | exact s_fieldAddre rfl fld34_4 rfl
              apply Exec.cons
              · first | exact s_load rfl rfl one4 rfl rfl | exact s_load_row rfl rfl one4 (by first | rfl | assumption | (simp; done)) rfl | exact s_loade' rfl (rowAt (by assumption)) one4 rfl rfl | exact s_loade rfl one4 rfl rfl
              apply Exec.cons
              · exact s_not rfl rfl
              exact Exec.nil _ _
            conv => enter [4]; simp only [nrm_, List.mem_cons, List.not_mem_nil, List.filterMap_cons, List.filterMap_nil, List.cons_append, List.nil_append, ↓reduceIte, Nat.reduceEqDiff, or_false, or_true, false_or, List.map_cons, List.map_nil, Option.map_some, Option.map_none, Nat.reduceAdd, Nat.reduceMul, splice, chunk, Option.getD_some, Option.getD_none, Int.toNat_natCast, Int.toNat_zero, Nat.sub_zero, List.take_succ_cons, List.take_zero, List.drop_succ_cons, List.drop_zero, List.length_cons, List.length_nil, List.set_cons_succ, List.set_cons_zero, eO, flat_eU8, set_cB, set_cB99, sub_, zc34]
            refine k_cond rfl (fun hb => ?_) (fun hb => ?_)
            · skip
              have hoff : d.off = false := by simpa using hb
              apply k_reg [4, 7] 209 
              · kernel_rfl
              · apply Exec.cons
                · first | exact s_fieldAddr rfl fld34_5 rfl | exact s_fieldAddre rfl fld34_5 rfl
                apply Exec.cons
                · first | exact s_load rfl rfl one32 rfl rfl | exact s_load_row rfl rfl one32 (by first | rfl | assumption | (simp; done)) rfl | exact s_loade' rfl (rowAt (by assumption)) one32 rfl rfl | exact s_loade rfl one32 rfl rfl
                apply Exec.cons
                · first | exact s_add rfl rfl (in_u64 (by omega) (by omega)) rfl | exact s_bin rfl rfl rfl rfl rfl
                apply Exec.cons
                · first | exact s_fieldAddr rfl fld34_5 rfl | exact s_fieldAddre rfl fld34_5 rfl
                apply Exec.cons
                · first | exact s_store_row rfl rfl rfl sz32 (by first | omega | (simp [chunk]; done) | (simp [chunk]; omega)) rfl | exact s_storeA rfl rfl rfl rfl sz32 rfl rfl rfl | exact s_store_all rfl rfl rfl sz32 rfl rfl rfl rfl | exact s_store rfl rfl rfl sz32 rfl rfl (Nat.le_of_ble_eq_true rfl) rfl rfl rfl
                exact Exec.nil _ _
              conv => enter [4]; simp only [nrm_, List.mem_cons, List.not_mem_nil, List.filterMap_cons, List.filterMap_nil, List.cons_append, List.nil_append, ↓reduceIte, Nat.reduceEqDiff, or_false, or_true, false_or, List.map_cons, List.map_nil, Option.map_some, Option.map_none, Nat.reduceAdd, Nat.reduceMul, splice, chunk, Option.getD_some, Option.getD_none, Int.toNat_natCast, Int.toNat_zero, Nat.sub_zero, List.take_succ_cons, List.take_zero, List.drop_succ_cons, List.drop_zero, List.length_cons, List.length_nil, List.set_cons_succ, List.set_cons_zero, eO, flat_eU8, set_cB, set_cB99, sub_, zc34]
              refine k_seq ?_
              apply k_reg [4, 7] 225 
              · kernel_rfl
              · apply Exec.cons
                · first | exact s_fieldAddr rfl fld34_4 rfl | exact s_fieldAddre rfl fld34_4 rfl
                apply Exec.cons
                · first | exact s_store_row rfl rfl rfl sz4 (by first | omega | (simp [chunk]; done) | (simp [chunk]; omega)) rfl | exact s_storeA rfl rfl rfl rfl sz4 rfl rfl rfl | exact s_store_all rfl rfl rfl sz4 rfl rfl rfl rfl | exact s_store rfl rfl rfl sz4 rfl rfl (Nat.le_of_ble_eq_true rfl) rfl rfl rfl
                exact Exec.nil _ _
              conv => enter [4]; simp only [nrm_, List.mem_cons, List.not_mem_nil, List.filterMap_cons, List.filterMap_nil, List.cons_append, List.nil_append, ↓reduceIte, Nat.reduceEqDiff, or_false, or_true, false_or, List.map_cons, List.map_nil, Option.map_some, Option.map_none, Nat.reduceAdd, Nat.reduceMul, splice, chunk, Option.getD_some, Option.getD_none, Int.toNat_natCast, Int.toNat_zero, Nat.sub_zero, List.take_succ_cons, List.take_zero, List.drop_succ_cons, List.drop_zero, List.length_cons, List.length_nil, List.set_cons_succ, List.set_cons_zero, eO, flat_eU8, set_cB, set_cB99, sub_, zc34]
              refine k_seq ?_
              apply k_dreg [6, 7] 249 mixed
              · kernel_rfl
              · apply Exec.cons
                · first | exact s_load_all rfl rfl agg34 rfl | exact s_loade_all rfl (rowAt (by assumption)) agg34 rfl | exact s_load_agg rfl rfl agg34 rfl rfl rfl | exact s_loade_agg' rfl (rowAt (by assumption)) agg34 rfl rfl rfl | exact s_loade_agg rfl agg34 rfl rfl rfl
                apply Exec.cons
                · exact s_assign rfl rfl rfl
                apply Exec.cons
                · first | exact s_store_row rfl rfl rfl sz34 (by first | omega | (simp [chunk]; done) | (simp [chunk]; omega)) rfl | exact s_storeA rfl rfl rfl rfl sz34 rfl rfl rfl | exact s_store_all rfl rfl rfl sz34 rfl rfl rfl rfl | exact s_store rfl rfl rfl sz34 rfl rfl (Nat.le_of_ble_eq_true rfl) rfl rfl rfl
                exact Exec.nil _ _
              · kernel_rfl
              conv => enter [4]; simp only [nrm_, List.mem_cons, List.not_mem_nil, List.filterMap_cons, List.filterMap_nil, List.cons_append, List.nil_append, ↓reduceIte, Nat.reduceEqDiff, or_false, or_true, false_or, List.map_cons, List.map_nil, Option.map_some, Option.map_none, Nat.reduceAdd, Nat.reduceMul, splice, chunk, Option.getD_some, Option.getD_none, Int.toNat_natCast, Int.toNat_zero, Nat.sub_zero, List.take_succ_cons, List.take_zero, List.drop_succ_cons, List.drop_zero, List.length_cons, List.length_nil, List.set_cons_succ, List.set_cons_zero, eO, flat_eU8, set_cB, set_cB99, sub_, zc34]
              refine k_ret ?_
              rw [show pstep p o = p.fall from by simp [pstep, hk]]
              exact fin_obj (.cons (.tmp rfl) (.cons (by first | exact resOk_all rfl rfl agg34 | exact .agg rfl rfl agg34 rfl) .nil)) ((Imp.tup (.cons (imp_eq (by rfl)) (.cons (imp_aggE (by repeat (first | exact ImpCs.nil | (apply ImpCs.cons; first | exact impC_tok _ _ _ | exact impC_nn _ _ | exact ImpC.refl _))) (by simp [encD, dstep, hk, RD.falls, hoff])) .nil)))) (by first | trivial | simp [AV.bel, C.bel, belowL, belowL_i, belowA, encD, bel_cStr]) rfl
            · skip
              have hoff : d.off = true := by simpa using hb
              refine k_skip ?_
              refine k_seq ?_
              apply k_reg [4, 7] 185 
              · kernel_rfl
              · apply Exec.cons
                · first | exact s_fieldAddr rfl fld34_4 rfl | exact s_fieldAddre rfl fld34_4 rfl
                apply Exec.cons
                · first | exact s_store_row rfl rfl rfl sz4 (by first | omega | (simp [chunk]; done) | (simp [chunk]; omega)) rfl | exact s_storeA rfl rfl rfl rfl sz4 rfl rfl rfl | exact s_store_all rfl rfl rfl sz4 rfl rfl rfl rfl | exact s_store rfl rfl rfl sz4 rfl rfl (Nat.le_of_ble_eq_true rfl) rfl rfl rfl
                exact Exec.nil _ _
              conv => enter [4]; simp only [nrm_, List.mem_cons, List.not_mem_nil, List.filterMap_cons, List.filterMap_nil, List.cons_append, List.nil_append, ↓reduceIte, Nat.reduceEqDiff, or_false, or_true, false_or, List.map_cons, List.map_nil, Option.map_some, Option.map_none, Nat.reduceAdd, Nat.reduceMul, splice, chunk, Option.getD_some, Option.getD_none, Int.toNat_natCast, Int.toNat_zero, Nat.sub_zero, List.take_succ_cons, List.take_zero, List.drop_succ_cons, List.drop_zero, List.length_cons, List.length_nil, List.set_cons_succ, List.set_cons_zero, eO, flat_eU8, set_cB, set_cB99, sub_, zc34]
              refine k_seq ?_
              apply k_dreg [6, 7] 209 mixed
              · kernel_rfl
              · apply Exec.cons
                · first | exact s_load_all rfl rfl agg34 rfl | exact s_loade_all rfl (rowAt (by assumption)) agg34 rfl | exact s_load_agg rfl rfl agg34 rfl rfl rfl | exact s_loade_agg' rfl (rowAt (by assumption)) agg34 rfl rfl rfl | exact s_loade_agg rfl agg34 rfl rfl rfl
                apply Exec.cons
                · exact s_assign rfl rfl rfl
                apply Exec.cons
                · first | exact s_store_row rfl rfl rfl sz34 (by first | omega | (simp [chunk]; done) | (simp [chunk]; omega)) rfl | exact s_storeA rfl rfl rfl rfl sz34 rfl rfl rfl | exact s_store_all rfl rfl rfl sz34 rfl rfl rfl rfl | exact s_store rfl rfl rfl sz34 rfl rfl (Nat.le_of_ble_eq_true rfl) rfl rfl rfl
                exact Exec.nil _ _
              · kernel_rfl
              conv => enter [4]; simp only [nrm_, List.mem_cons, List.not_mem_nil, List.filterMap_cons, List.filterMap_nil, List.cons_append, List.nil_append, ↓reduceIte, Nat.reduceEqDiff, or_false, or_true, false_or, List.map_cons, List.map_nil, Option.map_some, Option.map_none, Nat.reduceAdd, Nat.reduceMul, splice, chunk, Option.getD_some, Option.getD_none, Int.toNat_natCast, Int.toNat_zero, Nat.sub_zero, List.take_succ_cons, List.take_zero, List.drop_succ_cons, List.drop_zero, List.length_cons, List.length_nil, List.set_cons_succ, List.set_cons_zero, eO, flat_eU8, set_cB, set_cB99, sub_, zc34]
              refine k_ret ?_
              rw [show pstep p o = p.fall from by simp [pstep, hk]]
              exact fin_obj (.cons (.tmp rfl) (.cons (by first | exact resOk_all rfl rfl agg34 | exact .agg rfl rfl agg34 rfl) .nil)) ((Imp.tup (.cons (imp_eq (by rfl)) (.cons (imp_aggE (by repeat (first | exact ImpCs.nil | (apply ImpCs.cons; first | exact impC_tok _ _ _ | exact impC_nn _ _ | exact ImpC.refl _))) (by simp [encD, dstep, hk, RD.falls, hoff])) .nil)))) (by first | trivial | simp [AV.bel, C.bel, belowL, belowL_i, belowA, encD, bel_cStr]) rfl
          · skip
            have k4 : ¬ o.kind = 4 := by simpa using hb
            refine k_seq ?_
            apply k_reg [0, 4, 5, 7, 24, 122] 145 
            · kernel_rfl
            · apply Exec.cons
              · exact s_bin rfl rfl rfl rfl rfl
              apply Exec.cons
              · exact s_assign rfl rfl rfl
              exact Exec.nil _ _
            conv => enter [4]; simp only [nrm_, List.mem_cons, List.not_mem_nil, List.filterMap_cons, List.filterMap_nil, List.cons_append, List.nil_append, ↓reduceIte, Nat.reduceEqDiff, or_false, or_true, false_or, List.map_cons, List.map_nil, Option.map_some, Option.map_none, Nat.reduceAdd, Nat.reduceMul, splice, chunk, Option.getD_some, Option.getD_none, Int.toNat_natCast, Int.toNat_zero, Nat.sub_zero, List.take_succ_cons, List.take_zero, List.drop_succ_cons, List.drop_zero, List.length_cons, List.length_nil, List.set_cons_succ, List.set_cons_zero, eO, flat_eU8, set_cB, set_cB99, sub_, zc34]
            refine k_cond rfl (fun hb => ?_) (fun hb => ?_)
            · skip
              have hk : o.kind = 5 := by simpa using hb
              refine k_seq ?_
              apply k_reg [4, 5, 7] 193 
              · kernel_rfl
              · apply Exec.cons
                · exact s_move rfl rfl rfl
                apply Exec.cons
                · first | exact s_fieldAddr rfl fld40_1 rfl | exact s_fieldAddre rfl fld40_1 rfl
                apply Exec.cons
                · first | exact s_load rfl rfl one3 rfl rfl | exact s_load_row rfl rfl one3 (by first | rfl | assumption | (simp; done)) rfl | exact s_loade' rfl (rowAt (by assumption)) one3 rfl rfl | exact s_loade rfl one3 rfl rfl
                apply Exec.cons
                · first | exact s_fieldAddr rfl fld40_4 rfl | exact s_fieldAddre rfl fld40_4 rfl
                apply Exec.cons
                · first | exact s_load rfl rfl one4 rfl rfl | exact s_load_row rfl rfl one4 (by first | rfl | assumption | (simp; done)) rfl | exact s_loade' rfl (rowAt (by assumption)) one4 rfl rfl | exact s_loade rfl one4 rfl rfl
                apply Exec.cons
                · exact s_callo 0 call14 (sp_back p (by omega) o.i o.torn) rfl rfl rfl (by first | exact Imps.refl _ | (repeat (first | exact Imps.nil | apply Imps.cons | exact Imp.refl _ | exact Imp.c (impC_tok _ _ _) | exact Imp.c (impC_nilk _ _) | (apply Imp.agg; (repeat (first | exact ImpCs.nil | (apply ImpCs.cons; first | exact impC_tok _ _ _ | exact impC_nn _ _ | exact ImpC.refl _))))))) (by first | trivial | simp [AV.bel, C.bel, belowL, belowL_i, belowA, encD, bel_cStr]) rfl rfl
                exact Exec.nil _ _
              conv => enter [4]; simp only [nrm_, List.mem_cons, List.not_mem_nil, List.filterMap_cons, List.filterMap_nil, List.cons_append, List.nil_append, ↓reduceIte, Nat.reduceEqDiff, or_false, or_true, false_or, List.map_cons, List.map_nil, Option.map_some, Option.map_none, Nat.reduceAdd, Nat.reduceMul, splice, chunk, Option.getD_some, Option.getD_none, Int.toNat_natCast, Int.toNat_zero, Nat.sub_zero, List.take_succ_cons, List.take_zero, List.drop_succ_cons, List.drop_zero, List.length_cons, List.length_nil, List.set_cons_succ, List.set_cons_zero, eO, flat_eU8, set_cB, set_cB99, sub_, zc34]
              refine k_seq ?_
              apply k_reg [6, 7] 257 
              · kernel_rfl
              · apply Exec.cons
                · first | exact s_load_all rfl rfl agg34 rfl | exact s_loade_all rfl (rowAt (by assumption)) agg34 rfl | exact s_load_agg rfl rfl agg34 rfl rfl rfl | exact s_loade_agg' rfl (rowAt (by assumption)) agg34 rfl rfl rfl | exact s_loade_agg rfl agg34 rfl rfl rfl
                apply Exec.cons
                · first | exact s_fieldAddr rfl fld40_1 rfl | exact s_fieldAddre rfl fld40_1 rfl
                apply Exec.cons
                · first | exact s_load rfl rfl one3 rfl rfl | exact s_load_row rfl rfl one3 (by first | rfl | assumption | (simp; done)) rfl | exact s_loade' rfl (rowAt (by assumption)) one3 rfl rfl | exact s_loade rfl one3 rfl rfl
                apply Exec.cons
                · first | exact s_fieldAddr rfl fld40_4 rfl | exact s_fieldAddre rfl fld40_4 rfl
                apply Exec.cons
                · first | exact s_load rfl rfl one4 rfl rfl | exact s_load_row rfl rfl one4 (by first | rfl | assumption | (simp; done)) rfl | exact s_loade' rfl (rowAt (by assumption)) one4 rfl rfl | exact s_loade rfl one4 rfl rfl
                apply Exec.cons
                · exact s_callv call15 (rp_back _ ok _ _) rfl rfl rfl (by first | exact Imps.refl _ | (repeat (first | exact Imps.nil | apply Imps.cons | exact Imp.refl _ | exact Imp.c (impC_tok _ _ _) | exact Imp.c (impC_nilk _ _) | (apply Imp.agg; (repeat (first | exact ImpCs.nil | (apply ImpCs.cons; first | exact impC_tok _ _ _ | exact impC_nn _ _ | exact ImpC.refl _))))))) (by first | trivial | simp [AV.bel, C.bel, belowL, belowL_i, belowA, encD, bel_cStr]) rfl
                apply Exec.cons
                · exact s_assign rfl rfl rfl
                apply Exec.cons
                · first | exact s_store_row rfl rfl rfl sz34 (by first | omega | (simp [chunk]; done) | (simp [chunk]; omega)) rfl | exact s_storeA rfl rfl rfl rfl sz34 rfl rfl rfl | exact s_store_all rfl rfl rfl sz34 rfl rfl rfl rfl | exact s_store rfl rfl rfl sz34 rfl rfl (Nat.le_of_ble_eq_true rfl) rfl rfl rfl
                exact Exec.nil _ _
              conv => enter [4]; simp only [nrm_, List.mem_cons, List.not_mem_nil, List.filterMap_cons, List.filterMap_nil, List.cons_append, List.nil_append, ↓reduceIte, Nat.reduceEqDiff, or_false, or_true, false_or, List.map_cons, List.map_nil, Option.map_some, Option.map_none, Nat.reduceAdd, Nat.reduceMul, splice, chunk, Option.getD_some, Option.getD_none, Int.toNat_natCast, Int.toNat_zero, Nat.sub_zero, List.take_succ_cons, List.take_zero, List.drop_succ_cons, List.drop_zero, List.length_cons, List.length_nil, List.set_cons_succ, List.set_cons_zero, eO, flat_eU8, set_cB, set_cB99, sub_, zc34]
              refine k_ret ?_
              rw [show pstep p o = p.back o.i o.torn from by simp [pstep, hk]]
              exact fin_obj (.cons (.tmp rfl) (.cons (by first | exact resOk_all rfl rfl agg34 | exact .agg rfl rfl agg34 rfl) .nil)) ((Imp.tup (.cons (imp_eq (by rfl)) (.cons (imp_aggE (by repeat (first | exact ImpCs.nil | (apply ImpCs.cons; first | exact impC_tok _ _ _ | exact impC_nn _ _ | exact ImpC.refl _))) (by simp [encD, dstep, hk])) .nil)))) (by first | trivial | simp [AV.bel, C.bel, belowL, belowL_i, belowA, encD, bel_cStr]) rfl
            · skip
              have k5 : ¬ o.kind = 5 := by simpa using hb
              refine k_seq ?_
              apply k_reg [0, 4, 5, 7, 136] 161 
              · kernel_rfl
              · apply Exec.cons
                · exact s_bin rfl rfl rfl rfl rfl
                apply Exec.cons
                · exact s_assign rfl rfl rfl
                exact Exec.nil _ _
              conv => enter [4]; simp only [nrm_, List.mem_cons, List.not_mem_nil, List.filterMap_cons, List.filterMap_nil, List.cons_append, List.nil_append, ↓reduceIte, Nat.reduceEqDiff, or_false, or_true, false_or, List.map_cons, List.map_nil, Option.map_some, Option.map_none, Nat.reduceAdd, Nat.reduceMul, splice, chunk, Option.getD_some, Option.getD_none, Int.toNat_natCast, Int.toNat_zero, Nat.sub_zero, List.take_succ_cons, List.take_zero, List.drop_succ_cons, List.drop_zero, List.length_cons, List.length_nil, List.set_cons_succ, List.set_cons_zero, eO, flat_eU8, set_cB, set_cB99, sub_, zc34]
              refine k_cond rfl (fun hb => ?_) (fun hb => ?_)
              · skip
                have hk : o.kind = 6 := by simpa using hb
                refine k_seq ?_
                apply k_reg [4, 5, 7, 20] 233 
                · kernel_rfl
                · apply Exec.cons
                  · exact s_move rfl rfl rfl
                  apply Exec.cons
                  · first | exact s_fieldAddr rfl fld40_1 rfl | exact s_fieldAddre rfl fld40_1 rfl
                  apply Exec.cons
                  · first | exact s_load rfl rfl one3 rfl rfl | exact s_load_row rfl rfl one3 (by first | rfl | assumption | (simp; done)) rfl | exact s_loade' rfl (rowAt (by assumption)) one3 rfl rfl | exact s_loade rfl one3 rfl rfl
                  apply Exec.cons
                  · first | exact s_fieldAddr rfl fld40_2 rfl | exact s_fieldAddre rfl fld40_2 rfl
                  apply Exec.cons
                  · first | exact s_load rfl rfl one3 rfl rfl | exact s_load_row rfl rfl one3 (by first | rfl | assumption | (simp; done)) rfl | exact s_loade' rfl (rowAt (by assumption)) one3 rfl rfl | exact s_loade rfl one3 rfl rfl
                  apply Exec.cons
                  · first | exact s_fieldAddr rfl fld40_5 rfl | exact s_fieldAddre rfl fld40_5 rfl
                  apply Exec.cons
                  · first | exact s_load rfl rfl one5 rfl rfl | exact s_load_row rfl rfl one5 (by first | rfl | assumption | (simp; done)) rfl | exact s_loade' rfl (rowAt (by assumption)) one5 rfl rfl | exact s_loade rfl one5 rfl rfl
                  apply Exec.cons
                  · exact s_callo 0 call25 (sp_spoil p o.i o.at_ o.by_) rfl rfl rfl (by first | exact Imps.refl _ | (repeat (first | exact Imps.nil | apply Imps.cons | exact Imp.refl _ | exact Imp.c (impC_tok _ _ _) | exact Imp.c (impC_nilk _ _) | (apply Imp.agg; (repeat (first | exact ImpCs.nil | (apply ImpCs.cons; first | exact impC_tok _ _ _ | exact impC_nn _ _ | exact ImpC.refl _))))))) (by first | trivial | simp [AV.bel, C.bel, belowL, belowL_i, belowA, encD, bel_cStr]) rfl rfl
                  apply Exec.cons
                  · exact s_assign rfl rfl rfl
                  exact Exec.nil _ _
                conv => enter [4]; simp only [nrm_, List.mem_cons, List.not_mem_nil, List.filterMap_cons, List.filterMap_nil, List.cons_append, List.nil_append, ↓reduceIte, Nat.reduceEqDiff, or_false, or_true, false_or, List.map_cons, List.map_nil, Option.map_some, Option.map_none, Nat.reduceAdd, Nat.reduceMul, splice, chunk, Option.getD_some, Option.getD_none, Int.toNat_natCast, Int.toNat_zero, Nat.sub_zero, List.take_succ_cons, List.take_zero, List.drop_succ_cons, List.drop_zero, List.length_cons, List.length_nil, List.set_cons_succ, List.set_cons_zero, eO, flat_eU8, set_cB, set_cB99, sub_, zc34]
                refine k_seq ?_
                apply k_reg [7, 20, 21, 22] 345 
                · kernel_rfl
                · apply Exec.cons
                  · first | exact s_load_all rfl rfl agg34 rfl | exact s_loade_all rfl (rowAt (by assumption)) agg34 rfl | exact s_load_agg rfl rfl agg34 rfl rfl rfl | exact s_loade_agg' rfl (rowAt (by assumption)) agg34 rfl rfl rfl | exact s_loade_agg rfl agg34 rfl rfl rfl
                  apply Exec.cons
                  · first | exact s_fieldAddr rfl fld40_1 rfl | exact s_fieldAddre rfl fld40_1 rfl
                  apply Exec.cons
                  · first | exact s_load rfl rfl one3 rfl rfl | exact s_load_row rfl rfl one3 (by first | rfl | assumption | (simp; done)) rfl | exact s_loade' rfl (rowAt (by assumption)) one3 rfl rfl | exact s_loade rfl one3 rfl rfl
                  apply Exec.cons
                  · first | exact s_fieldAddr rfl fld40_2 rfl | exact s_fieldAddre rfl fld40_2 rfl
                  apply Exec.cons
                  · first | exact s_load rfl rfl one3 rfl rfl | exact s_load_row rfl rfl one3 (by first | rfl | assumption | (simp; done)) rfl | exact s_loade' rfl (rowAt (by assumption)) one3 rfl rfl | exact s_loade rfl one3 rfl rfl
                  apply Exec.cons
                  · first | exact s_fieldAddr rfl fld40_5 rfl | exact s_fieldAddre rfl fld40_5 rfl
                  apply Exec.cons
                  · first | exact s_load rfl rfl one5 rfl rfl | exact s_load_row rfl rfl one5 (by first | rfl | assumption | (simp; done)) rfl | exact s_loade' rfl (rowAt (by assumption)) one5 rfl rfl | exact s_loade rfl one5 rfl rfl
                  apply Exec.cons
                  · exact s_callv call26 (rp_spoil _ ok _ _ _) rfl rfl rfl (by first | exact Imps.refl _ | (repeat (first | exact Imps.nil | apply Imps.cons | exact Imp.refl _ | exact Imp.c (impC_tok _ _ _) | exact Imp.c (impC_nilk _ _) | (apply Imp.agg; (repeat (first | exact ImpCs.nil | (apply ImpCs.cons; first | exact impC_tok _ _ _ | exact impC_nn _ _ | exact ImpC.refl _))))))) (by first | trivial | simp [AV.bel, C.bel, belowL, belowL_i, belowA, encD, bel_cStr]) rfl
                  apply Exec.cons
                  · exact s_move rfl rfl rfl
                  apply Exec.cons
                  · exact s_extract rfl rfl rfl rfl
                  apply Exec.cons
                  · exact s_extract rfl rfl rfl rfl
                  apply Exec.cons
                  · exact s_alloc zero34 zok34 rfl
                  apply Exec.cons
                  · exact s_assign rfl rfl rfl
                  apply Exec.cons
                  · first | exact s_store_row rfl rfl rfl sz34 (by first | omega | (simp [chunk]; done) | (simp [chunk]; omega)) rfl | exact s_storeA rfl rfl rfl rfl sz34 rfl rfl rfl | exact s_store_all rfl rfl rfl sz34 rfl rfl rfl rfl | exact s_store rfl rfl rfl sz34 rfl rfl (Nat.le_of_ble_eq_true rfl) rfl rfl rfl
                  exact Exec.nil _ _
                conv => enter [4]; simp only [nrm_, List.mem_cons, List.not_mem_nil, List.filterMap_cons, List.filterMap_nil, List.cons_append, List.nil_append, ↓reduceIte, Nat.reduceEqDiff, or_false, or_true, false_or, List.map_cons, List.map_nil, Option.map_some, Option.map_none, Nat.reduceAdd, Nat.reduceMul, splice, chunk, Option.getD_some, Option.getD_none, Int.toNat_natCast, Int.toNat_zero, Nat.sub_zero, List.take_succ_cons, List.take_zero, List.drop_succ_cons, List.drop_zero, List.length_cons, List.length_nil, List.set_cons_succ, List.set_cons_zero, eO, flat_eU8, set_cB, set_cB99, sub_, zc34]
                refine k_seq ?_
                apply k_dreg [6, 7] 393 mixed
                · kernel_rfl
                · apply Exec.cons
                  · exact s_move rfl rfl rfl
                  apply Exec.cons
                  · exact s_move rfl rfl rfl
                  apply Exec.cons
                  · exact s_bin rfl rfl rfl rfl rfl
                  apply Exec.cons
                  · first | exact s_load_all rfl rfl agg34 rfl | exact s_loade_all rfl (rowAt (by assumption)) agg34 rfl | exact s_load_agg rfl rfl agg34 rfl rfl rfl | exact s_loade_agg' rfl (rowAt (by assumption)) agg34 rfl rfl rfl | exact s_loade_agg rfl agg34 rfl rfl rfl
                  apply Exec.cons
                  · exact s_assign rfl rfl rfl
                  apply Exec.cons
                  · first | exact s_store_row rfl rfl rfl sz34 (by first | omega | (simp [chunk]; done) | (simp [chunk]; omega)) rfl | exact s_storeA rfl rfl rfl rfl sz34 rfl rfl rfl | exact s_store_all rfl rfl rfl sz34 rfl rfl rfl rfl | exact s_store rfl rfl rfl sz34 rfl rfl (Nat.le_of_ble_eq_true rfl) rfl rfl rfl
                  exact Exec.nil _ _
                · kernel_rfl
                conv => enter [4]; simp only [nrm_, List.mem_cons, List.not_mem_nil, List.filterMap_cons, List.filterMap_nil, List.cons_append, List.nil_append, ↓reduceIte, Nat.reduceEqDiff, or_false, or_true, false_or, List.map_cons, List.map_nil, Option.map_some, Option.map_none, Nat.reduceAdd, Nat.reduceMul, splice, chunk, Option.getD_some, Option.getD_none, Int.toNat_natCast, Int.toNat_zero, Nat.sub_zero, List.take_succ_cons, List.take_zero, List.drop_succ_cons, List.drop_zero, List.length_cons, List.length_nil, List.set_cons_succ, List.set_cons_zero, eO, flat_eU8, set_cB, set_cB99, sub_, zc34]
                refine k_ret ?_
                rw [show pstep p o = (p.spoil o.i o.at_ o.by_).2 from by simp [pstep, hk]]
                exact fin_obj (.cons (.tmp rfl) (.cons (by first | exact resOk_all rfl rfl agg34 | exact .agg rfl rfl agg34 rfl) .nil)) ((Imp.tup (.cons (imp_eq (by simp [(drel_spoil h o.i o.at_ o.by_).1])) (.cons (imp_aggE (by repeat (first | exact ImpCs.nil | (apply ImpCs.cons; first | exact impC_tok _ _ _ | exact impC_nn _ _ | exact ImpC.refl _))) (by simp [encD, dstep, hk])) .nil)))) (by first | trivial | simp [AV.bel, C.bel, belowL, belowL_i, belowA, encD, bel_cStr]) rfl
              · skip
                have k6 : ¬ o.kind = 6 := by simpa using hb
                refine k_skip ?_
                refine k_nil ?_
                refine k_seq ?_
                apply k_dreg [6, 7] 185 mixed
                · kernel_rfl
                · apply Exec.cons
                  · first | exact s_load_all rfl rfl agg34 rfl | exact s_loade_all rfl (rowAt (by assumption)) agg34 rfl | exact s_load_agg rfl rfl agg34 rfl rfl rfl | exact s_loade_agg' rfl (rowAt (by assumption)) agg34 rfl rfl rfl | exact s_loade_agg rfl agg34 rfl rfl rfl
                  apply Exec.cons
                  · exact s_assign rfl rfl rfl
                  apply Exec.cons
                  · first | exact s_store_row rfl rfl rfl sz34 (by first | omega | (simp [chunk]; done) | (simp [chunk]; omega)) rfl | exact s_storeA rfl rfl rfl rfl sz34 rfl rfl rfl | exact s_store_all rfl rfl rfl sz34 rfl rfl rfl rfl | exact s_store rfl rfl rfl sz34 rfl rfl (Nat.le_of_ble_eq_true rfl) rfl rfl rfl
                  exact Exec.nil _ _
                · kernel_rfl
                conv => enter [4]; simp only [nrm_, List.mem_cons, List.not_mem_nil, List.filterMap_cons, List.filterMap_nil, List.cons_append, List.nil_append, ↓reduceIte, Nat.reduceEqDiff, or_false, or_true, false_or, List.map_cons, List.map_nil, Option.map_some, Option.map_none, Nat.reduceAdd, Nat.reduceMul, splice, chunk, Option.getD_some, Option.getD_none, Int.toNat_natCast, Int.toNat_zero, Nat.sub_zero, List.take_succ_cons, List.take_zero, List.drop_succ_cons, List.drop_zero, List.length_cons, List.length_nil, List.set_cons_succ, List.set_cons_zero, eO, flat_eU8, set_cB, set_cB99, sub_, zc34]
                refine k_ret ?_
                rw [show pstep p o = p from by simp [pstep, k0, k1, k2, k3, k4, k5, k6]]
                exact fin_obj (.cons (.tmp rfl) (.cons (by first | exact resOk_all rfl rfl agg34 | exact .agg rfl rfl agg34 rfl) .nil)) ((Imp.tup (.cons (imp_eq (by rfl)) (.cons (imp_aggE (by repeat (first | exact ImpCs.nil | (apply ImpCs.cons; first | exact impC_tok _ _ _ | exact impC_nn _ _ | exact ImpC.refl _))) (by simp [encD, dstep, k0, k1, k2, k3, k4, k5, k6])) .nil)))) (by first | trivial | simp [AV.bel, C.bel, belowL, belowL_i, belowA, encD, bel_cStr]) rfl

end Go.Proofs.Ytdmpocojbheoiaa.AM
