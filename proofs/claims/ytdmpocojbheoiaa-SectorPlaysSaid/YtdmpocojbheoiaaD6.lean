/- The law: its walk. -/
import Derived.Test.YtdmpocojbheoiaaD5
namespace Go.Proofs.Ytdmpocojbheoiaa.AM
open Go.RowKit
set_option linter.unusedVariables false
set_option linter.unusedSimpArgs false
set_option maxRecDepth 100000 in
set_option maxHeartbeats 1000000 in
theorem lp_plays (size count : Int) (l : List OStep) (hli : ∀ o ∈ l, o.i ≤ 9223372036854775807) : FnSpec Try.prog 3 0 0 [vv (.int .i64 size), vv (.int .i64 count), .c (.i (.sl 6 (l.map eO)))] [] (vv (.bool true)) [] := by
  refine fn_specK Try.func3 rfl (Nat.le_of_ble_eq_true rfl) (by (first | trivial | (show _ < _; exact lt_ble rfl) | exact bel_cStr _ _ | exact bel_cB _ _ | (show belowL _ _; (repeat (first | exact trivial | (show _ < _; exact lt_ble rfl) | refine ⟨?_, ?_⟩)); done) |  decide | (simp [belowA, AV.bel, C.bel, belowL, belowL_i, heapBelow, R.bel, encD, bel_cStr]; done) | (intro p hp; simp at hp))) (by (first | trivial | (show _ < _; exact lt_ble rfl) | exact bel_cStr _ _ | exact bel_cB _ _ | (show belowL _ _; (repeat (first | exact trivial | (show _ < _; exact lt_ble rfl) | refine ⟨?_, ?_⟩)); done) |  decide | (simp [belowA, AV.bel, C.bel, belowL, belowL_i, heapBelow, R.bel, encD, bel_cStr]; done) | (intro p hp; simp at hp))) (by (first | trivial | (show _ < _; exact lt_ble rfl) | exact bel_cStr _ _ | exact bel_cB _ _ | (show belowL _ _; (repeat (first | exact trivial | (show _ < _; exact lt_ble rfl) | refine ⟨?_, ?_⟩)); done) |  decide | (simp [belowA, AV.bel, C.bel, belowL, belowL_i, heapBelow, R.bel, encD, bel_cStr]; done) | (intro p hp; simp at hp))) (by (first | trivial | (show _ < _; exact lt_ble rfl) | exact bel_cStr _ _ | exact bel_cB _ _ | (show belowL _ _; (repeat (first | exact trivial | (show _ < _; exact lt_ble rfl) | refine ⟨?_, ?_⟩)); done) |  decide | (simp [belowA, AV.bel, C.bel, belowL, belowL_i, heapBelow, R.bel, encD, bel_cStr]; done) | (intro p hp; simp at hp))) (by decide) (fun E h0 => ?_)
  refine k_seq ?_
  apply k_reg [0, 1, 2, 30, 31, 34, 35, 36, 37, 40, 41, 42, 43, 68, 69, 70, 71, 72, 75, 76, 77, 78, 79, 82, 83, 84, 85, 86, 87, 107, 108, 109, 110, 111, 112, 113, 114] 8 
  · kernel_rfl
  · apply Exec.cons
    · exact s_assign rfl rfl rfl
    exact Exec.nil _ _
  conv => enter [4]; simp only [nrm_, List.mem_cons, List.not_mem_nil, List.filterMap_cons, List.filterMap_nil, List.cons_append, List.nil_append, ↓reduceIte, Nat.reduceEqDiff, or_false, or_true, false_or, List.map_cons, List.map_nil, Option.map_some, Option.map_none, Nat.reduceAdd, Nat.reduceMul, splice, chunk, Option.getD_some, Option.getD_none, Int.toNat_natCast, Int.toNat_zero, Nat.sub_zero, List.take_succ_cons, List.take_zero, List.drop_succ_cons, List.drop_zero, List.length_cons, List.length_nil, List.set_cons_succ, List.set_cons_zero, List.length_map, zc34]
  refine k_seq ?_
  refine k_seq ?_
  apply k_reg [0, 1, 2, 19, 30, 31, 34, 35, 36, 37, 40, 41, 42, 43, 68, 69, 70, 71, 72, 75, 76, 77, 78, 79, 82, 83, 84, 85, 86, 87, 107, 108, 109, 110, 111, 112, 113, 114] 40 
  · kernel_rfl
  · apply Exec.cons
    · exact s_move rfl rfl rfl
    apply Exec.cons
    · exact s_move rfl rfl rfl
    apply Exec.cons
    · exact s_move rfl rfl rfl
    apply Exec.cons
    · exact s_callv call4 (lp_great size count l) rfl rfl rfl (by first | exact Imps.refl _ | (repeat (first | exact Imps.nil | apply Imps.cons | exact Imp.refl _ | exact Imp.c (impC_tok _ _ _) | exact Imp.c (impC_nilk _ _) | (apply Imp.agg; (repeat (first | exact ImpCs.nil | (apply ImpCs.cons; first | exact impC_tok _ _ _ | exact impC_nn _ _ | exact ImpC.refl _))))))) (by first | trivial | simp [AV.bel, C.bel, belowL, belowL_i, belowA, encD, bel_cStr]) rfl
    exact Exec.nil _ _
  conv => enter [4]; simp only [nrm_, List.mem_cons, List.not_mem_nil, List.filterMap_cons, List.filterMap_nil, List.cons_append, List.nil_append, ↓reduceIte, Nat.reduceEqDiff, or_false, or_true, false_or, List.map_cons, List.map_nil, Option.map_some, Option.map_none, Nat.reduceAdd, Nat.reduceMul, splice, chunk, Option.getD_some, Option.getD_none, Int.toNat_natCast, Int.toNat_zero, Nat.sub_zero, List.take_succ_cons, List.take_zero, List.drop_succ_cons, List.drop_zero, List.length_cons, List.length_nil, List.set_cons_succ, List.set_cons_zero, List.length_map, zc34]
  refine k_cond rfl (fun hb => ?_) (fun hb => ?_)
  · skip
    refine k_seq ?_
    apply k_reg [6] 56 
    · kernel_rfl
    · apply Exec.cons
      · exact s_callv call5 (lp_awake) rfl rfl rfl (by first | exact Imps.refl _ | (repeat (first | exact Imps.nil | apply Imps.cons | exact Imp.refl _ | exact Imp.c (impC_tok _ _ _) | exact Imp.c (impC_nilk _ _) | (apply Imp.agg; (repeat (first | exact ImpCs.nil | (apply ImpCs.cons; first | exact impC_tok _ _ _ | exact impC_nn _ _ | exact ImpC.refl _))))))) (by first | trivial | simp [AV.bel, C.bel, belowL, belowL_i, belowA, encD, bel_cStr]) rfl
      apply Exec.cons
      · exact s_assign rfl rfl rfl
      exact Exec.nil _ _
    conv => enter [4]; simp only [nrm_, List.mem_cons, List.not_mem_nil, List.filterMap_cons, List.filterMap_nil, List.cons_append, List.nil_append, ↓reduceIte, Nat.reduceEqDiff, or_false, or_true, false_or, List.map_cons, List.map_nil, Option.map_some, Option.map_none, Nat.reduceAdd, Nat.reduceMul, splice, chunk, Option.getD_some, Option.getD_none, Int.toNat_natCast, Int.toNat_zero, Nat.sub_zero, List.take_succ_cons, List.take_zero, List.drop_succ_cons, List.drop_zero, List.length_cons, List.length_nil, List.set_cons_succ, List.set_cons_zero, List.length_map, zc34]
    refine k_ret ?_
    exact fin_val (.cons (.tmp rfl) .nil) ((Imp.refl _)) (by first | trivial | simp [AV.bel, C.bel, belowL, belowL_i, belowA, encD, bel_cStr])
  · skip
    have hgf := great_false (by simpa using hb)
    obtain ⟨s, rfl⟩ : ∃ s : Nat, size = s := ⟨size.toNat, by omega⟩
    obtain ⟨c, rfl⟩ : ∃ c : Nat, count = c := ⟨count.toNat, by omega⟩
    obtain ⟨hs, hc, hl60, hlb⟩ := hgf
    clear hb
    refine k_skip ?_
    refine k_seq ?_
    apply k_reg [0, 1, 2, 7, 8, 30, 31, 34, 35, 36, 37, 40, 41, 42, 43, 68, 69, 70, 71, 72, 75, 76, 77, 78, 79, 82, 83, 84, 85, 86, 87, 107, 108, 109, 110, 111, 112, 113, 114] 104 
    · kernel_rfl
    · apply Exec.cons
      · exact s_move rfl rfl rfl
      apply Exec.cons
      · exact s_move rfl rfl rfl
      apply Exec.cons
      · exact s_newo call6 (sp_new s c (by omega) (by omega) (by omega) (by omega)) rfl rfl rfl (by first | exact Imps.refl _ | (repeat (first | exact Imps.nil | apply Imps.cons | exact Imp.refl _ | exact Imp.c (impC_tok _ _ _) | exact Imp.c (impC_nilk _ _) | (apply Imp.agg; (repeat (first | exact ImpCs.nil | (apply ImpCs.cons; first | exact impC_tok _ _ _ | exact impC_nn _ _ | exact ImpC.refl _))))))) (by first | trivial | simp [AV.bel, C.bel, belowL, belowL_i, belowA, encD, bel_cStr]) rfl
      apply Exec.cons
      · exact s_move rfl rfl rfl
      apply Exec.cons
      · exact s_extract rfl rfl rfl rfl
      apply Exec.cons
      · exact s_extract rfl rfl rfl rfl
      apply Exec.cons
      · exact s_assign rfl rfl rfl
      apply Exec.cons
      · exact s_assign rfl rfl rfl
      exact Exec.nil _ _
    conv => enter [4]; simp only [nrm_, List.mem_cons, List.not_mem_nil, List.filterMap_cons, List.filterMap_nil, List.cons_append, List.nil_append, ↓reduceIte, Nat.reduceEqDiff, or_false, or_true, false_or, List.map_cons, List.map_nil, Option.map_some, Option.map_none, Nat.reduceAdd, Nat.reduceMul, splice, chunk, Option.getD_some, Option.getD_none, Int.toNat_natCast, Int.toNat_zero, Nat.sub_zero, List.take_succ_cons, List.take_zero, List.drop_succ_cons, List.drop_zero, List.length_cons, List.length_nil, List.set_cons_succ, List.set_cons_zero, List.length_map, zc34]
    refine k_seq ?_
    refine k_seq ?_
    apply k_reg [0, 1, 2, 7, 44, 68, 69, 70, 71, 72, 75, 76, 77, 78, 79, 82, 83, 84, 85, 86, 87, 107, 108, 109, 110, 111, 112, 113, 114] 248 
    · kernel_rfl
    · apply Exec.cons
      · exact s_move rfl rfl rfl
      apply Exec.cons
      · first | exact s_ptrnil rfl Try.underlying25 rfl rfl | exact s_nilnil rfl Try.underlying25 rfl rfl
      apply Exec.cons
      · exact s_move rfl rfl rfl
      apply Exec.cons
      · exact s_guard (c := _) rfl rfl rfl (by first | exact hpre1 rfl | (intro _ _ h; simp [get] at h)) rfl (fun hb => s_move rfl rfl rfl)
      apply Exec.cons
      · exact s_guard (c := _) rfl rfl rfl (by first | exact hpre1 rfl | (intro _ _ h; simp [get] at h)) rfl (fun hb => s_bin (evif (bv := .tup []) hb rfl) rfl rfl rfl rfl)
      apply Exec.cons
      · first | exact s_or (bv := .tup []) rfl rfl rfl rfl | exact s_or rfl rfl rfl rfl | exact s_pick rfl rfl rfl (fun h => by simp [h]) (fun h => by simp [h]) rfl rfl rfl
      apply Exec.cons
      · exact s_move rfl rfl rfl
      apply Exec.cons
      · exact s_guard (c := _) rfl rfl rfl (by first | exact hpre1 rfl | (intro _ _ h; simp [get] at h)) rfl (fun hb => s_move rfl rfl rfl)
      apply Exec.cons
      · exact s_guard (c := _) rfl rfl rfl (by first | exact hpre1 rfl | (intro _ _ h; simp [get] at h)) rfl (fun hb => s_callo 56 call7 (sp_size (PD.new s c)) rfl (evs_cons (evif (bv := .tup []) hb rfl) evs_nil) rfl (by first | exact Imps.refl _ | (repeat (first | exact Imps.nil | apply Imps.cons | exact Imp.refl _ | exact Imp.c (impC_tok _ _ _) | exact Imp.c (impC_nilk _ _) | (apply Imp.agg; (repeat (first | exact ImpCs.nil | (apply ImpCs.cons; first | exact impC_tok _ _ _ | exact impC_nn _ _ | exact ImpC.refl _))))))) (by first | trivial | simp [AV.bel, C.bel, belowL, belowL_i, belowA, encD, bel_cStr]) rfl rfl)
      apply Exec.cons
      · exact s_guard (c := _) rfl rfl rfl (by first | exact hpre1 rfl | (intro _ _ h; simp [get] at h)) rfl (fun hb => s_move rfl rfl rfl)
      apply Exec.cons
      · exact s_guard (c := _) rfl rfl rfl (by first | exact hpre1 rfl | (intro _ _ h; simp [get] at h)) rfl (fun hb => s_bin (evif (bv := .tup []) hb rfl) (evif (bv := .tup []) hb rfl) rfl rfl rfl)
      apply Exec.cons
      · first | exact s_or (bv := .tup []) rfl rfl rfl rfl | exact s_or rfl rfl rfl rfl | exact s_pick rfl rfl rfl (fun h => by simp [h]) (fun h => by simp [h]) rfl rfl rfl
      apply Exec.cons
      · exact s_move rfl rfl rfl
      apply Exec.cons
      · exact s_guard (c := _) rfl rfl rfl (by first | exact hpre1 rfl | (intro _ _ h; simp [get] at h)) rfl (fun hb => s_move rfl rfl rfl)
      apply Exec.cons
      · exact s_guard (c := _) rfl rfl rfl (by first | exact hpre1 rfl | (intro _ _ h; simp [get] at h)) rfl (fun hb => s_callo 56 call8 (sp_count (PD.new s c)) rfl (evs_cons (evif (bv := .tup []) hb rfl) evs_nil) rfl (by first | exact Imps.refl _ | (repeat (first | exact Imps.nil | apply Imps.cons | exact Imp.refl _ | exact Imp.c (impC_tok _ _ _) | exact Imp.c (impC_nilk _ _) | (apply Imp.agg; (repeat (first | exact ImpCs.nil | (apply ImpCs.cons; first | exact impC_tok _ _ _ | exact impC_nn _ _ | exact ImpC.refl _))))))) (by first | trivial | simp [AV.bel, C.bel, belowL, belowL_i, belowA, encD, bel_cStr]) rfl rfl)
      apply Exec.cons
      · exact s_guard (c := _) rfl rfl rfl (by first | exact hpre1 rfl | (intro _ _ h; simp [get] at h)) rfl (fun hb => s_move rfl rfl rfl)
      apply Exec.cons
      · exact s_guard (c := _) rfl rfl rfl (by first | exact hpre1 rfl | (intro _ _ h; simp [get] at h)) rfl (fun hb => s_bin (evif (bv := .tup []) hb rfl) (evif (bv := .tup []) hb rfl) rfl rfl rfl)
      apply Exec.cons
      · first | exact s_or (bv := .tup []) rfl rfl rfl rfl | exact s_or rfl rfl rfl rfl | exact s_pick rfl rfl rfl (fun h => by simp [h]) (fun h => by simp [h]) rfl rfl rfl
      exact Exec.nil _ _
    conv => enter [4]; simp only [nrm_, List.mem_cons, List.not_mem_nil, List.filterMap_cons, List.filterMap_nil, List.cons_append, List.nil_append, ↓reduceIte, Nat.reduceEqDiff, or_false, or_true, false_or, List.map_cons, List.map_nil, Option.map_some, Option.map_none, Nat.reduceAdd, Nat.reduceMul, splice, chunk, Option.getD_some, Option.getD_none, Int.toNat_natCast, Int.toNat_zero, Nat.sub_zero, List.take_succ_cons, List.take_zero, List.drop_succ_cons, List.drop_zero, List.length_cons, List.length_nil, List.set_cons_succ, List.set_cons_zero, List.length_map, zc34]
    refine k_cond rfl (fun hb => ?_) (fun hb => ?_)
    · skip
      exact absurd hb (by simp [PD.new])
    · skip
      clear hb
      refine k_skip ?_
      refine k_seq ?_
      apply k_reg [1, 2, 7, 9, 68, 69, 70, 71, 72, 75, 76, 77, 78, 79, 82, 83, 84, 85, 86, 87, 107, 108, 109, 110, 111, 112, 113, 114] 288 
      · kernel_rfl
      · apply Exec.cons
        · exact s_move rfl rfl rfl
        apply Exec.cons
        · exact s_move rfl rfl rfl
        apply Exec.cons
        · exact s_callv call9 (rp_new s c (by omega) (by omega)) rfl rfl rfl (by first | exact Imps.refl _ | (repeat (first | exact Imps.nil | apply Imps.cons | exact Imp.refl _ | exact Imp.c (impC_tok _ _ _) | exact Imp.c (impC_nilk _ _) | (apply Imp.agg; (repeat (first | exact ImpCs.nil | (apply ImpCs.cons; first | exact impC_tok _ _ _ | exact impC_nn _ _ | exact ImpC.refl _))))))) (by first | trivial | simp [AV.bel, C.bel, belowL, belowL_i, belowA, encD, bel_cStr]) rfl
        apply Exec.cons
        · exact s_alloc zero34 zok34 rfl
        apply Exec.cons
        · first | exact s_store_row rfl rfl rfl sz34 (by first | omega | (simp [chunk]; done) | (simp [chunk]; omega)) rfl | exact s_storeA rfl rfl rfl rfl sz34 rfl rfl rfl | exact s_store_all rfl rfl rfl sz34 rfl rfl rfl rfl | exact s_store rfl rfl rfl sz34 rfl rfl (Nat.le_of_ble_eq_true rfl) rfl rfl rfl
        exact Exec.nil _ _
      conv => enter [4]; simp only [nrm_, List.mem_cons, List.not_mem_nil, List.filterMap_cons, List.filterMap_nil, List.cons_append, List.nil_append, ↓reduceIte, Nat.reduceEqDiff, or_false, or_true, false_or, List.map_cons, List.map_nil, Option.map_some, Option.map_none, Nat.reduceAdd, Nat.reduceMul, splice, chunk, Option.getD_some, Option.getD_none, Int.toNat_natCast, Int.toNat_zero, Nat.sub_zero, List.take_succ_cons, List.take_zero, List.drop_succ_cons, List.drop_zero, List.length_cons, List.length_nil, List.set_cons_succ, List.set_cons_zero, List.length_map, zc34]
      refine k_seq ?_
      refine k_seq ?_
      apply k_reg [1, 2, 7, 9, 10, 68, 69, 70, 71, 72, 75, 76, 77, 78, 79, 82, 83, 84, 85, 86, 87, 107, 108, 109, 110, 111, 112, 113, 114] 296 
      · kernel_rfl
      · apply Exec.cons
        · exact s_assign rfl rfl rfl
        exact Exec.nil _ _
      conv => enter [4]; simp only [nrm_, List.mem_cons, List.not_mem_nil, List.filterMap_cons, List.filterMap_nil, List.cons_append, List.nil_append, ↓reduceIte, Nat.reduceEqDiff, or_false, or_true, false_or, List.map_cons, List.map_nil, Option.map_some, Option.map_none, Nat.reduceAdd, Nat.reduceMul, splice, chunk, Option.getD_some, Option.getD_none, Int.toNat_natCast, Int.toNat_zero, Nat.sub_zero, List.take_succ_cons, List.take_zero, List.drop_succ_cons, List.drop_zero, List.length_cons, List.length_nil, List.set_cons_succ, List.set_cons_zero, List.length_map, zc34]
      refine k_block ?_
      refine k_loopO (X := Nat × PD × RD) 296 [10, 68, 69, 70, 71, 72, 75, 76, 77, 78, 79, 82, 83, 84, 85, 86, 87] (fun x => [(10, vv (.int .i64 (x.1 : Int)))]) [56, 272] (fun x => [(56, some (.obj (diskP x.2.1))), (272, some (.box (encD x.2.2)))]) (fun x => x.1 ≤ l.length ∧ DRel x.2.1 x.2.2 ∧ PGood x.2.1 ∧ x.2.1.waits.length ≤ x.1 ∧ x.2.1.count = c) (fun x => l.length - x.1) (0, PD.new s c, RD.new s c) ⟨Nat.zero_le _, drel_new s c, good_new s c (by omega) (by omega) (by omega) (by omega), Nat.le_refl _, rfl⟩ ?_ ?_
      · exact weak_to h0 (Nat.le_of_ble_eq_true rfl) (by (repeat (first | exact trivial | refine ⟨⟨_, rfl, Imp.refl _⟩, (by first | trivial | (show _ < _; exact lt_ble rfl) | exact bel_cStr _ _ | exact bel_cB _ _ | (show belowL _ _; (repeat (first | exact trivial | (show _ < _; exact lt_ble rfl) | refine ⟨?_, ?_⟩)); done) |  decide | simp [AV.bel, C.bel, belowL, belowL_i, belowA, encD, bel_cStr]), ?_⟩))) (by (repeat (first | exact trivial | refine ⟨rfl, lt_ble rfl, (by first | trivial | (show _ < _; exact lt_ble rfl) | exact bel_cStr _ _ | exact bel_cB _ _ | (show belowL _ _; (repeat (first | exact trivial | (show _ < _; exact lt_ble rfl) | refine ⟨?_, ?_⟩)); done) |  decide | simp [AV.bel, C.bel, belowL, belowL_i, belowA, R.bel, encD, bel_cStr]), ?_⟩))) rfl
      · rintro ⟨k, p, d⟩ ⟨hk, hr, hg, hwl, hpc⟩
        conv => enter [4]; simp only [nrm_, List.mem_cons, List.not_mem_nil, List.filterMap_cons, List.filterMap_nil, List.cons_append, List.nil_append, ↓reduceIte, Nat.reduceEqDiff, or_false, or_true, false_or, List.map_cons, List.map_nil, Option.map_some, Option.map_none, Nat.reduceAdd, Nat.reduceMul, splice, chunk, Option.getD_some, Option.getD_none, Int.toNat_natCast, Int.toNat_zero, Nat.sub_zero, List.take_succ_cons, List.take_zero, List.drop_succ_cons, List.drop_zero, List.length_cons, List.length_nil, List.set_cons_succ, List.set_cons_zero, List.length_map, zc34]
        simp only at hk hr hg hwl hpc
        refine k_seq ?_
        refine k_seq ?_
        apply k_reg [1, 2, 7, 9, 10, 51, 68, 69, 70, 71, 72, 75, 76, 77, 78, 79, 82, 83, 84, 85, 86, 87, 107, 108, 109, 110, 111, 112, 113, 114] 328 
        · kernel_rfl
        · apply Exec.cons
          · exact s_move rfl rfl rfl
          apply Exec.cons
          · exact s_move rfl rfl rfl
          apply Exec.cons
          · first | exact s_len Try.underlying22 rfl (by first | exact ImpC.refl _ | exact impC_tok _ _ _ | exact impC_nn _ _ | exact impC_nilk _ _) rfl | exact s_len_own1 Try.underlying22 rfl rfl rfl
          apply Exec.cons
          · exact s_bin rfl rfl rfl rfl rfl
          exact Exec.nil _ _
        conv => enter [4]; simp only [nrm_, List.mem_cons, List.not_mem_nil, List.filterMap_cons, List.filterMap_nil, List.cons_append, List.nil_append, ↓reduceIte, Nat.reduceEqDiff, or_false, or_true, false_or, List.map_cons, List.map_nil, Option.map_some, Option.map_none, Nat.reduceAdd, Nat.reduceMul, splice, chunk, Option.getD_some, Option.getD_none, Int.toNat_natCast, Int.toNat_zero, Nat.sub_zero, List.take_succ_cons, List.take_zero, List.drop_succ_cons, List.drop_zero, List.length_cons, List.length_nil, List.set_cons_succ, List.set_cons_zero, List.length_map, zc34]
        refine k_cond rfl (fun hb => ?_) (fun hb => ?_)
        · skip
          have hlt : k < l.length := by simpa using hb
          obtain ⟨o, hw⟩ : ∃ o, l[k]? = some o := ⟨_, List.getElem?_eq_getElem hlt⟩
          obtain ⟨hr2, hg2, hwl2, hps, hpc2⟩ := step_rel hr hg o (hli o (List.mem_of_getElem? hw))
          refine k_skip ?_
          refine k_seq ?_
          refine k_block ?_
          refine k_seq ?_
          apply k_dreg [1, 2, 7, 9, 10, 11, 12, 68, 69, 70, 71, 72, 75, 76, 77, 78, 79, 82, 83, 84, 85, 86, 87, 107, 108, 109, 110, 111, 112, 113, 114] 432 mixed
          · kernel_rfl
          · apply Exec.cons
            · exact s_move rfl rfl rfl
            apply Exec.cons
            · first | exact s_load_all rfl rfl agg34 rfl | exact s_loade_all rfl (rowAt (by assumption)) agg34 rfl | exact s_load_agg rfl rfl agg34 rfl rfl rfl | exact s_loade_agg' rfl (rowAt (by assumption)) agg34 rfl rfl rfl | exact s_loade_agg rfl agg34 rfl rfl rfl
            apply Exec.cons
            · exact s_move rfl rfl rfl
            apply Exec.cons
            · exact s_move rfl rfl rfl
            apply Exec.cons
            · first | exact s_indexAddr Try.underlying22 sz40 rfl (by first | exact ImpC.refl _ | exact impC_tok _ _ _ | exact impC_nn _ _ | exact impC_nilk _ _) rfl (by first | omega | (simp [chunk]; done) | (simp [chunk]; omega)) (by first | omega | (simp [chunk]; done) | (simp [chunk]; omega)) rfl | exact s_indexAddr_own1 Try.underlying22 sz40 rfl rfl rfl (by first | omega | (simp [chunk]; done) | (simp [chunk]; omega)) (by first | omega | (simp [chunk]; done) | (simp [chunk]; omega)) rfl
            apply Exec.cons
            · first | exact s_load_all rfl rfl agg40 rfl | exact s_loade_all rfl (rowAt (by assumption)) agg40 rfl | exact s_load_agg rfl rfl agg40 rfl rfl rfl | exact s_loade_agg' rfl (rowAt (by assumption)) agg40 rfl rfl rfl | exact s_loade_agg rfl agg40 rfl rfl rfl
            apply Exec.cons
            · exact s_callo 56 call10 (lp_does p d o hr hg (by omega) (hli o (List.mem_of_getElem? hw)) (hlb o (List.mem_of_getElem? hw))) rfl rfl rfl (by first | exact Imps.refl _ | (repeat (first | exact Imps.nil | apply Imps.cons | exact Imp.refl _ | exact Imp.c (impC_tok _ _ _) | exact Imp.c (impC_nilk _ _) | (apply Imp.agg; (repeat (first | exact ImpCs.nil | (apply ImpCs.cons; first | exact impC_tok _ _ _ | exact impC_nn _ _ | exact ImpC.refl _))))))) (by first | trivial | simp [AV.bel, C.bel, belowL, belowL_i, belowA, encD, bel_cStr]) rfl rfl
            apply Exec.cons
            · exact s_move rfl rfl rfl
            apply Exec.cons
            · exact s_extract rfl rfl rfl rfl
            apply Exec.cons
            · exact s_extract rfl rfl rfl rfl
            apply Exec.cons
            · exact s_alloc zero34 zok34 rfl
            apply Exec.cons
            · exact s_assign rfl rfl rfl
            apply Exec.cons
            · first | exact s_store_row rfl rfl rfl sz34 (by first | omega | (simp [chunk]; done) | (simp [chunk]; omega)) rfl | exact s_storeA rfl rfl rfl rfl sz34 rfl rfl rfl | exact s_store_all rfl rfl rfl sz34 rfl rfl rfl rfl | exact s_store rfl rfl rfl sz34 rfl rfl (Nat.le_of_ble_eq_true rfl) rfl rfl rfl
            exact Exec.nil _ _
          · kernel_rfl
          conv => enter [4]; simp only [nrm_, List.mem_cons, List.not_mem_nil, List.filterMap_cons, List.filterMap_nil, List.cons_append, List.nil_append, ↓reduceIte, Nat.reduceEqDiff, or_false, or_true, false_or, List.map_cons, List.map_nil, Option.map_some, Option.map_none, Nat.reduceAdd, Nat.reduceMul, splice, chunk, Option.getD_some, Option.getD_none, Int.toNat_natCast, Int.toNat_zero, Nat.sub_zero, List.take_succ_cons, List.take_zero, List.drop_succ_cons, List.drop_zero, List.length_cons, List.length_nil, List.set_cons_succ, List.set_cons_zero, List.length_map, zc34]
          refine k_seq ?_
          apply k_reg [1, 2, 7, 9, 10, 11, 68, 69, 70, 71, 72, 75, 76, 77, 78, 79, 82, 83, 84, 85, 86, 87, 107, 108, 109, 110, 111, 112, 113, 114] 448 
          · kernel_rfl
          · apply Exec.cons
            · first | exact s_load_all rfl rfl agg34 rfl | exact s_loade_all rfl (rowAt (by assumption)) agg34 rfl | exact s_load_agg rfl rfl agg34 rfl rfl rfl | exact s_loade_agg' rfl (rowAt (by assumption)) agg34 rfl rfl rfl | exact s_loade_agg rfl agg34 rfl rfl rfl
            apply Exec.cons
            · first | exact s_store_row rfl rfl rfl sz34 (by first | omega | (simp [chunk]; done) | (simp [chunk]; omega)) rfl | exact s_storeA rfl rfl rfl rfl sz34 rfl rfl rfl | exact s_store_all rfl rfl rfl sz34 rfl rfl rfl rfl | exact s_store rfl rfl rfl sz34 rfl rfl (Nat.le_of_ble_eq_true rfl) rfl rfl rfl
            exact Exec.nil _ _
          conv => enter [4]; simp only [nrm_, List.mem_cons, List.not_mem_nil, List.filterMap_cons, List.filterMap_nil, List.cons_append, List.nil_append, ↓reduceIte, Nat.reduceEqDiff, or_false, or_true, false_or, List.map_cons, List.map_nil, Option.map_some, Option.map_none, Nat.reduceAdd, Nat.reduceMul, splice, chunk, Option.getD_some, Option.getD_none, Int.toNat_natCast, Int.toNat_zero, Nat.sub_zero, List.take_succ_cons, List.take_zero, List.drop_succ_cons, List.drop_zero, List.length_cons, List.length_nil, List.set_cons_succ, List.set_cons_zero, List.length_map, zc34]
          refine k_seq ?_
          apply k_dreg [1, 2, 7, 9, 10, 68, 69, 70, 71, 72, 75, 76, 77, 78, 79, 82, 83, 84, 85, 86, 87, 88, 107, 108, 109, 110, 111, 112, 113, 114] 640 mixed
          · kernel_rfl
          · apply Exec.cons
            · exact s_move rfl rfl rfl
            apply Exec.cons
            · exact s_not rfl rfl
            apply Exec.cons
            · exact s_move rfl rfl rfl
            apply Exec.cons
            · exact s_guard (c := _) rfl rfl rfl (by first | exact hpre1 rfl | (intro _ _ h; simp [get] at h)) rfl (fun hb => s_move rfl rfl rfl)
            apply Exec.cons
            · exact s_guard (c := _) rfl rfl rfl (by first | exact hpre1 rfl | (intro _ _ h; simp [get] at h)) rfl (fun hb => s_callo 56 call11 (sp_isOn (pstep p o)) rfl (evs_cons (evif (bv := .tup []) hb rfl) evs_nil) rfl (by first | exact Imps.refl _ | (repeat (first | exact Imps.nil | apply Imps.cons | exact Imp.refl _ | exact Imp.c (impC_tok _ _ _) | exact Imp.c (impC_nilk _ _) | (apply Imp.agg; (repeat (first | exact ImpCs.nil | (apply ImpCs.cons; first | exact impC_tok _ _ _ | exact impC_nn _ _ | exact ImpC.refl _))))))) (by first | trivial | simp [AV.bel, C.bel, belowL, belowL_i, belowA, encD, bel_cStr]) rfl rfl)
            apply Exec.cons
            · first | exact s_guard (c := _) rfl rfl rfl (by first | exact hpre1 rfl | (intro _ _ h; simp [get] at h)) rfl (fun hb => s_fieldAddr rfl fld34_4 rfl) | exact s_guard (c := _) rfl rfl rfl (by first | exact hpre1 rfl | (intro _ _ h; simp [get] at h)) rfl (fun hb => s_fieldAddre rfl fld34_4 rfl)
            apply Exec.cons
            · first | exact s_guard (c := _) rfl rfl rfl (by first | exact hpre1 rfl | (intro _ _ h; simp [get] at h)) rfl (fun hb => s_load (evif (bv := .tup []) hb rfl) rfl one4 rfl rfl) | exact s_guard (c := _) rfl rfl rfl (by first | exact hpre1 rfl | (intro _ _ h; simp [get] at h)) rfl (fun hb => s_load_row (evif (bv := .tup []) hb rfl) rfl one4 (by first | rfl | assumption | (simp; done)) rfl) | exact s_guard (c := _) rfl rfl rfl (by first | exact hpre1 rfl | (intro _ _ h; simp [get] at h)) rfl (fun hb => s_loade' (evif (bv := .tup []) hb rfl) (rowAt (by assumption)) one4 rfl rfl) | exact s_guard (c := _) rfl rfl rfl (by first | exact hpre1 rfl | (intro _ _ h; simp [get] at h)) rfl (fun hb => s_loade (evif (bv := .tup []) hb rfl) one4 rfl rfl)
            apply Exec.cons
            · exact s_guard (c := _) rfl rfl rfl (by first | exact hpre1 rfl | (intro _ _ h; simp [get] at h)) rfl (fun hb => s_eqb (evif (bv := .tup []) hb rfl) (evif (bv := .tup []) hb rfl) Try.underlying4 rfl rfl)
            apply Exec.cons
            · first | exact s_or (bv := .tup []) rfl rfl rfl rfl | exact s_or rfl rfl rfl rfl | exact s_pick rfl rfl rfl (fun h => by simp [h]) (fun h => by simp [h]) rfl rfl rfl
            apply Exec.cons
            · exact s_move rfl rfl rfl
            apply Exec.cons
            · exact s_guard (c := _) rfl rfl rfl (by first | exact hpre1 rfl | (intro _ _ h; simp [get] at h)) rfl (fun hb => s_move rfl rfl rfl)
            apply Exec.cons
            · exact s_guard (c := _) rfl rfl rfl (by first | exact hpre1 rfl | (intro _ _ h; simp [get] at h)) rfl (fun hb => s_callo 56 call12 (sp_falls (pstep p o)) rfl (evs_cons (evif (bv := .tup []) hb rfl) evs_nil) rfl (by first | exact Imps.refl _ | (repeat (first | exact Imps.nil | apply Imps.cons | exact Imp.refl _ | exact Imp.c (impC_tok _ _ _) | exact Imp.c (impC_nilk _ _) | (apply Imp.agg; (repeat (first | exact ImpCs.nil | (apply ImpCs.cons; first | exact impC_tok _ _ _ | exact impC_nn _ _ | exact ImpC.refl _))))))) (by first | trivial | simp [AV.bel, C.bel, belowL, belowL_i, belowA, encD, bel_cStr]) rfl rfl)
            apply Exec.cons
            · first | exact s_guard (c := _) rfl rfl rfl (by first | exact hpre1 rfl | (intro _ _ h; simp [get] at h)) rfl (fun hb => s_fieldAddr rfl fld34_5 rfl) | exact s_guard (c := _) rfl rfl rfl (by first | exact hpre1 rfl | (intro _ _ h; simp [get] at h)) rfl (fun hb => s_fieldAddre rfl fld34_5 rfl)
            apply Exec.cons
            · first | exact s_guard (c := _) rfl rfl rfl (by first | exact hpre1 rfl | (intro _ _ h; simp [get] at h)) rfl (fun hb => s_load (evif (bv := .tup []) hb rfl) rfl one32 rfl rfl) | exact s_guard (c := _) rfl rfl rfl (by first | exact hpre1 rfl | (intro _ _ h; simp [get] at h)) rfl (fun hb => s_load_row (evif (bv := .tup []) hb rfl) rfl one32 (by first | rfl | assumption | (simp; done)) rfl) | exact s_guard (c := _) rfl rfl rfl (by first | exact hpre1 rfl | (intro _ _ h; simp [get] at h)) rfl (fun hb => s_loade' (evif (bv := .tup []) hb rfl) (rowAt (by assumption)) one32 rfl rfl) | exact s_guard (c := _) rfl rfl rfl (by first | exact hpre1 rfl | (intro _ _ h; simp [get] at h)) rfl (fun hb => s_loade (evif (bv := .tup []) hb rfl) one32 rfl rfl)
            apply Exec.cons
            · exact s_guard (c := _) rfl rfl rfl (by first | exact hpre1 rfl | (intro _ _ h; simp [get] at h)) rfl (fun hb => s_bin (evif (bv := .tup []) hb rfl) (evif (bv := .tup []) hb rfl) rfl rfl rfl)
            apply Exec.cons
            · first | exact s_or (bv := .tup []) rfl rfl rfl rfl | exact s_or rfl rfl rfl rfl | exact s_pick rfl rfl rfl (fun h => by simp [h]) (fun h => by simp [h]) rfl rfl rfl
            apply Exec.cons
            · exact s_move rfl rfl rfl
            apply Exec.cons
            · exact s_guard (c := _) rfl rfl rfl (by first | exact hpre1 rfl | (intro _ _ h; simp [get] at h)) rfl (fun hb => s_move rfl rfl rfl)
            apply Exec.cons
            · exact s_guard (c := _) rfl rfl rfl (by first | exact hpre1 rfl | (intro _ _ h; simp [get] at h)) rfl (fun hb => s_callo 56 call13 (sp_waits (pstep p o)) rfl (evs_cons (evif (bv := .tup []) hb rfl) evs_nil) rfl (by first | exact Imps.refl _ | (repeat (first | exact Imps.nil | apply Imps.cons | exact Imp.refl _ | exact Imp.c (impC_tok _ _ _) | exact Imp.c (impC_nilk _ _) | (apply Imp.agg; (repeat (first | exact ImpCs.nil | (apply ImpCs.cons; first | exact impC_tok _ _ _ | exact impC_nn _ _ | exact ImpC.refl _))))))) (by first | trivial | simp [AV.bel, C.bel, belowL, belowL_i, belowA, encD, bel_cStr]) rfl rfl)
            apply Exec.cons
            · first | exact s_guard (c := _) rfl rfl rfl (by first | exact hpre1 rfl | (intro _ _ h; simp [get] at h)) rfl (fun hb => s_fieldAddr rfl fld34_3 rfl) | exact s_guard (c := _) rfl rfl rfl (by first | exact hpre1 rfl | (intro _ _ h; simp [get] at h)) rfl (fun hb => s_fieldAddre rfl fld34_3 rfl)
            apply Exec.cons
            · first | exact s_guard (c := _) rfl rfl rfl (by first | exact hpre1 rfl | (intro _ _ h; simp [get] at h)) rfl (fun hb => s_load (evif (bv := .tup []) hb rfl) rfl one31 rfl rfl) | exact s_guard (c := _) rfl rfl rfl (by first | exact hpre1 rfl | (intro _ _ h; simp [get] at h)) rfl (fun hb => s_load_row (evif (bv := .tup []) hb rfl) rfl one31 (by first | rfl | assumption | (simp; done)) rfl) | exact s_guard (c := _) rfl rfl rfl (by first | exact hpre1 rfl | (intro _ _ h; simp [get] at h)) rfl (fun hb => s_loade' (evif (bv := .tup []) hb rfl) (rowAt (by assumption)) one31 rfl rfl) | exact s_guard (c := _) rfl rfl rfl (by first | exact hpre1 rfl | (intro _ _ h; simp [get] at h)) rfl (fun hb => s_loade (evif (bv := .tup []) hb rfl) one31 rfl rfl)
            apply Exec.cons
            · first | exact s_guard (c := _) rfl rfl rfl (by first | exact hpre1 rfl | (intro _ _ h; simp [get] at h)) rfl (fun hb => s_len Try.underlying31 (evif (bv := .tup []) hb rfl) (by first | exact ImpC.refl _ | exact impC_tok _ _ _ | exact impC_nn _ _ | exact impC_nilk _ _) rfl) | exact s_guard (c := _) rfl rfl rfl (by first | exact hpre1 rfl | (intro _ _ h; simp [get] at h)) rfl (fun hb => s_len_own1 Try.underlying31 (evif (bv := .tup []) hb rfl) rfl rfl)
            apply Exec.cons
            · exact s_guard (c := _) rfl rfl rfl (by first | exact hpre1 rfl | (intro _ _ h; simp [get] at h)) rfl (fun hb => s_bin (evif (bv := .tup []) hb rfl) (evif (bv := .tup []) hb rfl) rfl rfl rfl)
            apply Exec.cons
            · first | exact s_or (bv := .tup []) rfl rfl rfl rfl | exact s_or rfl rfl rfl rfl | exact s_pick rfl rfl rfl (fun h => by simp [h]) (fun h => by simp [h]) rfl rfl rfl
            exact Exec.nil _ _
          · kernel_rfl
          conv => enter [4]; simp only [nrm_, List.mem_cons, List.not_mem_nil, List.filterMap_cons, List.filterMap_nil, List.cons_append, List.nil_append, ↓reduceIte, Nat.reduceEqDiff, or_false, or_true, false_or, List.map_cons, List.map_nil, Option.map_some, Option.map_none, Nat.reduceAdd, Nat.reduceMul, splice, chunk, Option.getD_some, Option.getD_none, Int.toNat_natCast, Int.toNat_zero, Nat.sub_zero, List.take_succ_cons, List.take_zero, List.drop_succ_cons, List.drop_zero, List.length_cons, List.length_nil, List.set_cons_succ, List.set_cons_zero, List.length_map, zc34]
          refine k_cond rfl (fun hb => ?_) (fun hb => ?_)
          · skip
            exact absurd hb (by simp [hr2.off, hr2.f, hr2.W])
          · skip
            refine k_skip ?_
            refine k_nil ?_
            apply k_regl 664 
            · kernel_rfl
            · apply Exec.cons
              · exact s_move rfl rfl rfl
              apply Exec.cons
              · first | exact s_add rfl rfl (in_i64 (by omega) (by omega)) rfl | exact s_bin rfl rfl rfl rfl rfl
              apply Exec.cons
              · exact s_assign rfl rfl rfl
              exact Exec.nil _ _
            try (refine k_keep [1, 2, 7, 9, 10, 68, 69, 70, 71, 72, 75, 76, 77, 78, 79, 82, 83, 84, 85, 86, 87, 107, 108, 109, 110, 111, 112, 113, 114] ?_; conv => enter [4]; simp only [nrm_, List.mem_cons, List.not_mem_nil, List.filterMap_cons, List.filterMap_nil, List.cons_append, List.nil_append, ↓reduceIte, Nat.reduceEqDiff, or_false, or_true, false_or, List.map_cons, List.map_nil, Option.map_some, Option.map_none, Nat.reduceAdd, Nat.reduceMul, splice, chunk, Option.getD_some, Option.getD_none, Int.toNat_natCast, Int.toNat_zero, Nat.sub_zero, List.take_succ_cons, List.take_zero, List.drop_succ_cons, List.drop_zero, List.length_cons, List.length_nil, List.set_cons_succ, List.set_cons_zero, List.length_map, zc34])
            exact ⟨(k + 1, pstep p o, dstep d o), ⟨by simp only; omega, hr2, hg2, by simp only; omega, by simp only; omega⟩, by simp only; omega, weak_to h0 (Nat.le_of_ble_eq_true rfl) (by (repeat (first | exact trivial | refine ⟨⟨_, rfl, Imp.refl _⟩, (by first | trivial | (show _ < _; exact lt_ble rfl) | exact bel_cStr _ _ | exact bel_cB _ _ | (show belowL _ _; (repeat (first | exact trivial | (show _ < _; exact lt_ble rfl) | refine ⟨?_, ?_⟩)); done) |  decide | simp [AV.bel, C.bel, belowL, belowL_i, belowA, encD, bel_cStr]), ?_⟩))) (by (repeat (first | exact trivial | refine ⟨rfl, lt_ble rfl, (by first | trivial | (show _ < _; exact lt_ble rfl) | exact bel_cStr _ _ | exact bel_cB _ _ | (show belowL _ _; (repeat (first | exact trivial | (show _ < _; exact lt_ble rfl) | refine ⟨?_, ?_⟩)); done) |  decide | simp [AV.bel, C.bel, belowL, belowL_i, belowA, R.bel, encD, bel_cStr]), ?_⟩))) rfl⟩
        · skip
          clear hb
          refine k_exit rfl ?_
          refine k_seq ?_
          apply k_reg [1, 7, 9, 107, 108, 109, 110, 111, 112, 113, 114] 344 
          · kernel_rfl
          · apply Exec.cons
            · exact s_move rfl rfl rfl
            apply Exec.cons
            · exact s_callo 56 call14 (sp_back p (by omega) 1000 false) rfl rfl rfl (by first | exact Imps.refl _ | (repeat (first | exact Imps.nil | apply Imps.cons | exact Imp.refl _ | exact Imp.c (impC_tok _ _ _) | exact Imp.c (impC_nilk _ _) | (apply Imp.agg; (repeat (first | exact ImpCs.nil | (apply ImpCs.cons; first | exact impC_tok _ _ _ | exact impC_nn _ _ | exact ImpC.refl _))))))) (by first | trivial | simp [AV.bel, C.bel, belowL, belowL_i, belowA, encD, bel_cStr]) rfl rfl
            exact Exec.nil _ _
          conv => enter [4]; simp only [nrm_, List.mem_cons, List.not_mem_nil, List.filterMap_cons, List.filterMap_nil, List.cons_append, List.nil_append, ↓reduceIte, Nat.reduceEqDiff, or_false, or_true, false_or, List.map_cons, List.map_nil, Option.map_some, Option.map_none, Nat.reduceAdd, Nat.reduceMul, splice, chunk, Option.getD_some, Option.getD_none, Int.toNat_natCast, Int.toNat_zero, Nat.sub_zero, List.take_succ_cons, List.take_zero, List.drop_succ_cons, List.drop_zero, List.length_cons, List.length_nil, List.set_cons_succ, List.set_cons_zero, List.length_map, zc34]
          refine k_seq ?_
          apply k_reg [1, 7, 9, 107, 108, 109, 110, 111, 112, 113, 114] 368 
          · kernel_rfl
          · apply Exec.cons
            · first | exact s_load_all rfl rfl agg34 rfl | exact s_loade_all rfl (rowAt (by assumption)) agg34 rfl | exact s_load_agg rfl rfl agg34 rfl rfl rfl | exact s_loade_agg' rfl (rowAt (by assumption)) agg34 rfl rfl rfl | exact s_loade_agg rfl agg34 rfl rfl rfl
            apply Exec.cons
            · exact s_callv call15 (rp_back d (rdok hr hg (by omega)) 1000 false) rfl rfl rfl (by first | exact Imps.refl _ | (repeat (first | exact Imps.nil | apply Imps.cons | exact Imp.refl _ | exact Imp.c (impC_tok _ _ _) | exact Imp.c (impC_nilk _ _) | (apply Imp.agg; (repeat (first | exact ImpCs.nil | (apply ImpCs.cons; first | exact impC_tok _ _ _ | exact impC_nn _ _ | exact ImpC.refl _))))))) (by first | trivial | simp [AV.bel, C.bel, belowL, belowL_i, belowA, encD, bel_cStr]) rfl
            apply Exec.cons
            · first | exact s_store_row rfl rfl rfl sz34 (by first | omega | (simp [chunk]; done) | (simp [chunk]; omega)) rfl | exact s_storeA rfl rfl rfl rfl sz34 rfl rfl rfl | exact s_store_all rfl rfl rfl sz34 rfl rfl rfl rfl | exact s_store rfl rfl rfl sz34 rfl rfl (Nat.le_of_ble_eq_true rfl) rfl rfl rfl
            exact Exec.nil _ _
          conv => enter [4]; simp only [nrm_, List.mem_cons, List.not_mem_nil, List.filterMap_cons, List.filterMap_nil, List.cons_append, List.nil_append, ↓reduceIte, Nat.reduceEqDiff, or_false, or_true, false_or, List.map_cons, List.map_nil, Option.map_some, Option.map_none, Nat.reduceAdd, Nat.reduceMul, splice, chunk, Option.getD_some, Option.getD_none, Int.toNat_natCast, Int.toNat_zero, Nat.sub_zero, List.take_succ_cons, List.take_zero, List.drop_succ_cons, List.drop_zero, List.length_cons, List.length_nil, List.set_cons_succ, List.set_cons_zero, List.length_map, zc34]
          refine k_seq ?_
          refine k_seq ?_
          apply k_reg [1, 7, 9, 13, 107, 108, 109, 110, 111, 112, 113, 114] 376 
          · kernel_rfl
          · apply Exec.cons
            · exact s_assign rfl rfl rfl
            exact Exec.nil _ _
          conv => enter [4]; simp only [nrm_, List.mem_cons, List.not_mem_nil, List.filterMap_cons, List.filterMap_nil, List.cons_append, List.nil_append, ↓reduceIte, Nat.reduceEqDiff, or_false, or_true, false_or, List.map_cons, List.map_nil, Option.map_some, Option.map_none, Nat.reduceAdd, Nat.reduceMul, splice, chunk, Option.getD_some, Option.getD_none, Int.toNat_natCast, Int.toNat_zero, Nat.sub_zero, List.take_succ_cons, List.take_zero, List.drop_succ_cons, List.drop_zero, List.length_cons, List.length_nil, List.set_cons_succ, List.set_cons_zero, List.length_map, zc34]
          refine k_block ?_
          refine k_loopO (X := Nat) 376 [13, 107, 108, 109, 110, 111, 112, 113, 114] (fun x => [(13, vv (.int .i64 (x : Int)))]) [] (fun x => []) (fun x => x ≤ c) (fun x => c - x) 0 (Nat.zero_le _) ?_ ?_
          · exact weak_to h0 (Nat.le_of_ble_eq_true rfl) (by (repeat (first | exact trivial | refine ⟨⟨_, rfl, Imp.refl _⟩, (by first | trivial | (show _ < _; exact lt_ble rfl) | exact bel_cStr _ _ | exact bel_cB _ _ | (show belowL _ _; (repeat (first | exact trivial | (show _ < _; exact lt_ble rfl) | refine ⟨?_, ?_⟩)); done) |  decide | simp [AV.bel, C.bel, belowL, belowL_i, belowA, encD, bel_cStr]), ?_⟩))) (by (repeat (first | exact trivial | refine ⟨rfl, lt_ble rfl, (by first | trivial | (show _ < _; exact lt_ble rfl) | exact bel_cStr _ _ | exact bel_cB _ _ | (show belowL _ _; (repeat (first | exact trivial | (show _ < _; exact lt_ble rfl) | refine ⟨?_, ?_⟩)); done) |  decide | simp [AV.bel, C.bel, belowL, belowL_i, belowA, R.bel, encD, bel_cStr]), ?_⟩))) rfl
          · rintro k2 hk2
            conv => enter [4]; simp only [nrm_, List.mem_cons, List.not_mem_nil, List.filterMap_cons, List.filterMap_nil, List.cons_append, List.nil_append, ↓reduceIte, Nat.reduceEqDiff, or_false, or_true, false_or, List.map_cons, List.map_nil, Option.map_some, Option.map_none, Nat.reduceAdd, Nat.reduceMul, splice, chunk, Option.getD_some, Option.getD_none, Int.toNat_natCast, Int.toNat_zero, Nat.sub_zero, List.take_succ_cons, List.take_zero, List.drop_succ_cons, List.drop_zero, List.length_cons, List.length_nil, List.set_cons_succ, List.set_cons_zero, List.length_map, zc34]
            obtain ⟨i, hik⟩ : ∃ i : Int, (k2 : Int) = i := ⟨_, rfl⟩
            have hr3 := drel_back hr hg 1000 false
            have hcc : (p.back 1000 false).count = c := by rw [← hpc]; unfold PD.back PD.back0; simp only; split <;> rfl
            rw [hik]
            refine k_seq ?_
            refine k_seq ?_
            apply k_reg [1, 7, 9, 13, 95, 107, 108, 109, 110, 111, 112, 113, 114] 400 
            · kernel_rfl
            · apply Exec.cons
              · exact s_move rfl rfl rfl
              apply Exec.cons
              · exact s_move rfl rfl rfl
              apply Exec.cons
              · exact s_bin rfl rfl rfl rfl rfl
              exact Exec.nil _ _
            conv => enter [4]; simp only [nrm_, List.mem_cons, List.not_mem_nil, List.filterMap_cons, List.filterMap_nil, List.cons_append, List.nil_append, ↓reduceIte, Nat.reduceEqDiff, or_false, or_true, false_or, List.map_cons, List.map_nil, Option.map_some, Option.map_none, Nat.reduceAdd, Nat.reduceMul, splice, chunk, Option.getD_some, Option.getD_none, Int.toNat_natCast, Int.toNat_zero, Nat.sub_zero, List.take_succ_cons, List.take_zero, List.drop_succ_cons, List.drop_zero, List.length_cons, List.length_nil, List.set_cons_succ, List.set_cons_zero, List.length_map, zc34]
            refine k_cond rfl (fun hb => ?_) (fun hb => ?_)
            · skip
              have hlt2 : k2 < c := by rw [← hik] at hb; simpa using hb
              obtain ⟨y, hy⟩ : ∃ y, (d.back 1000 false).K[i.toNat]? = some y := ⟨_, List.getElem?_eq_getElem (by rw [hr3.K.len, hcc]; omega)⟩
              have hKl3 : (d.back 1000 false).K.length = c := by rw [hr3.K.len, hcc]
              have hyk : (p.back 1000 false).kept i = y := by
                have := hr3.K.at_ i.toNat (by rw [hcc]; omega)
                rw [hy] at this; injection this with this
                rw [this, show ((i.toNat : Nat) : Int) = i by omega]
              have hrd : (p.back 1000 false).read i = (y, 0) := by rw [back_read p 1000 false i (by omega) (by rw [hcc]; omega), hyk]
              refine k_skip ?_
              refine k_seq ?_
              refine k_block ?_
              refine k_seq ?_
              apply k_reg [1, 7, 9, 13, 14, 15, 107, 108, 109, 110, 111, 112, 113, 114] 464 
              · kernel_rfl
              · apply Exec.cons
                · exact s_move rfl rfl rfl
                apply Exec.cons
                · exact s_move rfl rfl rfl
                apply Exec.cons
                · exact s_callo 56 call16 (sp_read (p.back 1000 false) i (by simp [PD.back])) rfl rfl rfl (by first | exact Imps.refl _ | (repeat (first | exact Imps.nil | apply Imps.cons | exact Imp.refl _ | exact Imp.c (impC_tok _ _ _) | exact Imp.c (impC_nilk _ _) | (apply Imp.agg; (repeat (first | exact ImpCs.nil | (apply ImpCs.cons; first | exact impC_tok _ _ _ | exact impC_nn _ _ | exact ImpC.refl _))))))) (by first | trivial | simp [AV.bel, C.bel, belowL, belowL_i, belowA, encD, bel_cStr]) rfl rfl
                apply Exec.cons
                · exact s_move rfl rfl rfl
                apply Exec.cons
                · exact s_extract rfl rfl rfl rfl
                apply Exec.cons
                · exact s_extract rfl rfl rfl rfl
                apply Exec.cons
                · exact s_assign rfl rfl rfl
                apply Exec.cons
                · exact s_assign rfl rfl rfl
                exact Exec.nil _ _
              conv => enter [4]; simp only [nrm_, List.mem_cons, List.not_mem_nil, List.filterMap_cons, List.filterMap_nil, List.cons_append, List.nil_append, ↓reduceIte, Nat.reduceEqDiff, or_false, or_true, false_or, List.map_cons, List.map_nil, Option.map_some, Option.map_none, Nat.reduceAdd, Nat.reduceMul, splice, chunk, Option.getD_some, Option.getD_none, Int.toNat_natCast, Int.toNat_zero, Nat.sub_zero, List.take_succ_cons, List.take_zero, List.drop_succ_cons, List.drop_zero, List.length_cons, List.length_nil, List.set_cons_succ, List.set_cons_zero, List.length_map, zc34]
              refine k_seq ?_
              apply k_dreg [1, 7, 9, 13, 107, 108, 109, 110, 111, 112, 113, 114, 115] 560 mixed
              · kernel_rfl
              · apply Exec.cons
                · exact s_move rfl rfl rfl
                apply Exec.cons
                · exact s_bin rfl rfl rfl rfl rfl
                apply Exec.cons
                · exact s_move rfl rfl rfl
                apply Exec.cons
                · exact s_guard (c := _) rfl rfl rfl (by first | exact hpre1 rfl | (intro _ _ h; simp [get] at h)) rfl (fun hb => s_move rfl rfl rfl)
                apply Exec.cons
                · first | exact s_guard (c := _) rfl rfl rfl (by first | exact hpre1 rfl | (intro _ _ h; simp [get] at h)) rfl (fun hb => s_bts_own Try.underlying38 Try.underlying5 Try.underlying9 (evif (bv := .tup []) hb rfl) rfl (by first | rfl | simp) rfl) | exact s_guard (c := _) rfl rfl rfl (by first | exact hpre1 rfl | (intro _ _ h; simp [get] at h)) rfl (fun hb => s_bts Try.underlying38 Try.underlying5 Try.underlying9 (evif (bv := .tup []) hb rfl) (by first | exact ImpC.refl _ | exact impC_tok _ _ _ | exact impC_nn _ _ | exact impC_nilk _ _) rfl)
                apply Exec.cons
                · first | exact s_guard (c := _) rfl rfl rfl (by first | exact hpre1 rfl | (intro _ _ h; simp [get] at h)) rfl (fun hb => s_fieldAddr rfl fld34_2 rfl) | exact s_guard (c := _) rfl rfl rfl (by first | exact hpre1 rfl | (intro _ _ h; simp [get] at h)) rfl (fun hb => s_fieldAddre rfl fld34_2 rfl)
                apply Exec.cons
                · first | exact s_guard (c := _) rfl rfl rfl (by first | exact hpre1 rfl | (intro _ _ h; simp [get] at h)) rfl (fun hb => s_load (evif (bv := .tup []) hb rfl) rfl one30 rfl rfl) | exact s_guard (c := _) rfl rfl rfl (by first | exact hpre1 rfl | (intro _ _ h; simp [get] at h)) rfl (fun hb => s_load_row (evif (bv := .tup []) hb rfl) rfl one30 (by first | rfl | assumption | (simp; done)) rfl) | exact s_guard (c := _) rfl rfl rfl (by first | exact hpre1 rfl | (intro _ _ h; simp [get] at h)) rfl (fun hb => s_loade' (evif (bv := .tup []) hb rfl) (rowAt (by assumption)) one30 rfl rfl) | exact s_guard (c := _) rfl rfl rfl (by first | exact hpre1 rfl | (intro _ _ h; simp [get] at h)) rfl (fun hb => s_loade (evif (bv := .tup []) hb rfl) one30 rfl rfl)
                apply Exec.cons
                · exact s_guard (c := _) rfl rfl rfl (by first | exact hpre1 rfl | (intro _ _ h; simp [get] at h)) rfl (fun hb => s_move rfl rfl rfl)
                apply Exec.cons
                · first | exact s_guard (c := _) rfl rfl rfl (by first | exact hpre1 rfl | (intro _ _ h; simp [get] at h)) rfl (fun hb => s_indexAddr Try.underlying30 sz9 (evif (bv := .tup []) hb rfl) (by first | exact ImpC.refl _ | exact impC_tok _ _ _ | exact impC_nn _ _ | exact impC_nilk _ _) (evif (bv := .tup []) hb rfl) (by first | omega | (simp [chunk]; done) | (simp [chunk]; omega)) (by first | omega | (simp [chunk]; done) | (simp [chunk]; omega)) rfl) | exact s_guard (c := _) rfl rfl rfl (by first | exact hpre1 rfl | (intro _ _ h; simp [get] at h)) rfl (fun hb => s_indexAddr_own1 Try.underlying30 sz9 (evif (bv := .tup []) hb rfl) rfl (evif (bv := .tup []) hb rfl) (by first | omega | (simp [chunk]; done) | (simp [chunk]; omega)) (by first | omega | (simp [chunk]; done) | (simp [chunk]; omega)) rfl)
                apply Exec.cons
                · first | exact s_guard (c := _) rfl rfl rfl (by first | exact hpre1 rfl | (intro _ _ h; simp [get] at h)) rfl (fun hb => s_load (evif (bv := .tup []) hb rfl) rfl one9 rfl rfl) | exact s_guard (c := _) rfl rfl rfl (by first | exact hpre1 rfl | (intro _ _ h; simp [get] at h)) rfl (fun hb => s_load_row (evif (bv := .tup []) hb rfl) rfl one9 (by first | rfl | assumption | (simp; done)) rfl) | exact s_guard (c := _) rfl rfl rfl (by first | exact hpre1 rfl | (intro _ _ h; simp [get] at h)) rfl (fun hb => s_loade' (evif (bv := .tup []) hb rfl) (rowAt (by assumption)) one9 rfl rfl) | exact s_guard (c := _) rfl rfl rfl (by first | exact hpre1 rfl | (intro _ _ h; simp [get] at h)) rfl (fun hb => s_loade (evif (bv := .tup []) hb rfl) one9 rfl rfl)
                apply Exec.cons
                · exact s_guard (c := _) rfl rfl rfl (by first | exact hpre1 rfl | (intro _ _ h; simp [get] at h)) rfl (fun hb => s_strneq (evif (bv := .tup []) hb rfl) (evif (bv := .tup []) hb rfl) rfl)
                apply Exec.cons
                · first | exact s_or (bv := .tup []) rfl rfl rfl rfl | exact s_or rfl rfl rfl rfl | exact s_pick rfl rfl rfl (fun h => by simp [h]) (fun h => by simp [h]) rfl rfl rfl
                exact Exec.nil _ _
              · kernel_rfl
              conv => enter [4]; simp only [nrm_, List.mem_cons, List.not_mem_nil, List.filterMap_cons, List.filterMap_nil, List.cons_append, List.nil_append, ↓reduceIte, Nat.reduceEqDiff, or_false, or_true, false_or, List.map_cons, List.map_nil, Option.map_some, Option.map_none, Nat.reduceAdd, Nat.reduceMul, splice, chunk, Option.getD_some, Option.getD_none, Int.toNat_natCast, Int.toNat_zero, Nat.sub_zero, List.take_succ_cons, List.take_zero, List.drop_succ_cons, List.drop_zero, List.length_cons, List.length_nil, List.set_cons_succ, List.set_cons_zero, List.length_map, zc34]
              refine k_cond rfl (fun hb => ?_) (fun hb => ?_)
              · skip
                exact absurd hb (by simp [hrd])
              · skip
                refine k_skip ?_
                refine k_nil ?_
                apply k_regl 584 
                · kernel_rfl
                · apply Exec.cons
                  · exact s_move rfl rfl rfl
                  apply Exec.cons
                  · first | exact s_add rfl rfl (in_i64 (by omega) (by omega)) rfl | exact s_bin rfl rfl rfl rfl rfl
                  apply Exec.cons
                  · exact s_assign rfl rfl rfl
                  exact Exec.nil _ _
                try (refine k_keep [1, 7, 9, 13, 107, 108, 109, 110, 111, 112, 113, 114] ?_; conv => enter [4]; simp only [nrm_, List.mem_cons, List.not_mem_nil, List.filterMap_cons, List.filterMap_nil, List.cons_append, List.nil_append, ↓reduceIte, Nat.reduceEqDiff, or_false, or_true, false_or, List.map_cons, List.map_nil, Option.map_some, Option.map_none, Nat.reduceAdd, Nat.reduceMul, splice, chunk, Option.getD_some, Option.getD_none, Int.toNat_natCast, Int.toNat_zero, Nat.sub_zero, List.take_succ_cons, List.take_zero, List.drop_succ_cons, List.drop_zero, List.length_cons, List.length_nil, List.set_cons_succ, List.set_cons_zero, List.length_map, zc34])
                rw [← hik]
                exact ⟨k2 + 1, by omega, by omega, weak_to h0 (Nat.le_of_ble_eq_true rfl) (by (repeat (first | exact trivial | refine ⟨⟨_, rfl, Imp.refl _⟩, (by first | trivial | (show _ < _; exact lt_ble rfl) | exact bel_cStr _ _ | exact bel_cB _ _ | (show belowL _ _; (repeat (first | exact trivial | (show _ < _; exact lt_ble rfl) | refine ⟨?_, ?_⟩)); done) |  decide | simp [AV.bel, C.bel, belowL, belowL_i, belowA, encD, bel_cStr]), ?_⟩))) (by (repeat (first | exact trivial | refine ⟨rfl, lt_ble rfl, (by first | trivial | (show _ < _; exact lt_ble rfl) | exact bel_cStr _ _ | exact bel_cB _ _ | (show belowL _ _; (repeat (first | exact trivial | (show _ < _; exact lt_ble rfl) | refine ⟨?_, ?_⟩)); done) |  decide | simp [AV.bel, C.bel, belowL, belowL_i, belowA, R.bel, encD, bel_cStr]), ?_⟩))) rfl⟩
            · skip
              refine k_exit rfl ?_
              refine k_seq ?_
              apply k_reg [6] 416 
              · kernel_rfl
              · apply Exec.cons
                · exact s_callv call5 (lp_awake) rfl rfl rfl (by first | exact Imps.refl _ | (repeat (first | exact Imps.nil | apply Imps.cons | exact Imp.refl _ | exact Imp.c (impC_tok _ _ _) | exact Imp.c (impC_nilk _ _) | (apply Imp.agg; (repeat (first | exact ImpCs.nil | (apply ImpCs.cons; first | exact impC_tok _ _ _ | exact impC_nn _ _ | exact ImpC.refl _))))))) (by first | trivial | simp [AV.bel, C.bel, belowL, belowL_i, belowA, encD, bel_cStr]) rfl
                apply Exec.cons
                · exact s_assign rfl rfl rfl
                exact Exec.nil _ _
              conv => enter [4]; simp only [nrm_, List.mem_cons, List.not_mem_nil, List.filterMap_cons, List.filterMap_nil, List.cons_append, List.nil_append, ↓reduceIte, Nat.reduceEqDiff, or_false, or_true, false_or, List.map_cons, List.map_nil, Option.map_some, Option.map_none, Nat.reduceAdd, Nat.reduceMul, splice, chunk, Option.getD_some, Option.getD_none, Int.toNat_natCast, Int.toNat_zero, Nat.sub_zero, List.take_succ_cons, List.take_zero, List.drop_succ_cons, List.drop_zero, List.length_cons, List.length_nil, List.set_cons_succ, List.set_cons_zero, List.length_map, zc34]
              refine k_ret ?_
              exact fin_val (.cons (.tmp rfl) .nil) ((Imp.refl _)) (by first | trivial | simp [AV.bel, C.bel, belowL, belowL_i, belowA, encD, bel_cStr])

end Go.Proofs.Ytdmpocojbheoiaa.AM
