/- The document's disk: walks. -/
import Derived.Test.YtdmpocojbheoiaaD3
namespace Go.Proofs.Ytdmpocojbheoiaa.AM
open Go.RowKit
set_option linter.unusedVariables false
set_option linter.unusedSimpArgs false
set_option maxRecDepth 100000 in
set_option maxHeartbeats 400000 in
theorem rp_zeros (n : Nat) (hn : n ≤ 512) : FnSpec Try.prog 18 0 0 [vv (.int .i64 (n : Int))] [] (vv (str (List.replicate n 0))) [] := by
  refine fn_specK Try.func18 rfl (Nat.le_of_ble_eq_true rfl) (by (first | trivial | (show _ < _; exact lt_ble rfl) | exact bel_cStr _ _ | exact bel_cB _ _ | (show belowL _ _; (repeat (first | exact trivial | (show _ < _; exact lt_ble rfl) | refine ⟨?_, ?_⟩)); done) |  decide | (simp [belowA, AV.bel, C.bel, belowL, belowL_i, heapBelow, R.bel, encD, bel_cStr]; done) | (intro p hp; simp at hp))) (by (first | trivial | (show _ < _; exact lt_ble rfl) | exact bel_cStr _ _ | exact bel_cB _ _ | (show belowL _ _; (repeat (first | exact trivial | (show _ < _; exact lt_ble rfl) | refine ⟨?_, ?_⟩)); done) |  decide | (simp [belowA, AV.bel, C.bel, belowL, belowL_i, heapBelow, R.bel, encD, bel_cStr]; done) | (intro p hp; simp at hp))) (by (first | trivial | (show _ < _; exact lt_ble rfl) | exact bel_cStr _ _ | exact bel_cB _ _ | (show belowL _ _; (repeat (first | exact trivial | (show _ < _; exact lt_ble rfl) | refine ⟨?_, ?_⟩)); done) |  decide | (simp [belowA, AV.bel, C.bel, belowL, belowL_i, heapBelow, R.bel, encD, bel_cStr]; done) | (intro p hp; simp at hp))) (by (first | trivial | (show _ < _; exact lt_ble rfl) | exact bel_cStr _ _ | exact bel_cB _ _ | (show belowL _ _; (repeat (first | exact trivial | (show _ < _; exact lt_ble rfl) | refine ⟨?_, ?_⟩)); done) |  decide | (simp [belowA, AV.bel, C.bel, belowL, belowL_i, heapBelow, R.bel, encD, bel_cStr]; done) | (intro p hp; simp at hp))) (by decide) (fun E h0 => ?_)
  refine k_seq ?_
  apply k_reg [0] 8 
  · kernel_rfl
  · apply Exec.cons
    · exact s_assign rfl rfl rfl
    exact Exec.nil _ _
  conv => enter [4]; simp only [nrm_, List.mem_cons, List.not_mem_nil, List.filterMap_cons, List.filterMap_nil, List.cons_append, List.nil_append, ↓reduceIte, Nat.reduceEqDiff, or_false, or_true, false_or, List.map_cons, List.map_nil, Option.map_some, Option.map_none, Nat.reduceAdd, Nat.reduceMul, splice, chunk, Option.getD_some, Option.getD_none, Int.toNat_natCast, Int.toNat_zero, Nat.sub_zero, List.take_succ_cons, List.take_zero, List.drop_succ_cons, List.drop_zero, List.length_cons, List.length_nil, List.set_cons_succ, List.set_cons_zero]
  refine k_seq ?_
  apply k_reg [2] 40 
  · kernel_rfl
  · apply Exec.cons
    · exact s_move rfl rfl rfl
    apply Exec.cons
    · exact s_make Try.underlying38 minfo5 rfl rfl rfl rfl (by omega) (by omega) rfl
    apply Exec.cons
    · exact s_bts_own (bs := List.replicate n 0) Try.underlying38 Try.underlying5 Try.underlying9 rfl rfl (by rw [List.map_replicate]; rfl) rfl
    apply Exec.cons
    · exact s_assign rfl rfl rfl
    exact Exec.nil _ _
  conv => enter [4]; simp only [nrm_, List.mem_cons, List.not_mem_nil, List.filterMap_cons, List.filterMap_nil, List.cons_append, List.nil_append, ↓reduceIte, Nat.reduceEqDiff, or_false, or_true, false_or, List.map_cons, List.map_nil, Option.map_some, Option.map_none, Nat.reduceAdd, Nat.reduceMul, splice, chunk, Option.getD_some, Option.getD_none, Int.toNat_natCast, Int.toNat_zero, Nat.sub_zero, List.take_succ_cons, List.take_zero, List.drop_succ_cons, List.drop_zero, List.length_cons, List.length_nil, List.set_cons_succ, List.set_cons_zero]
  refine k_ret ?_
  exact fin_val (.cons (.tmp rfl) .nil) ((Imp.refl _)) (by first | trivial | simp [AV.bel, C.bel, belowL, belowL_i, belowA, encD, bel_cStr])

set_option maxRecDepth 100000 in
set_option maxHeartbeats 400000 in
theorem rp_falls (d : RD) : FnSpec Try.prog 29 0 0 [.agg (encD d)] [] (.agg (encD d.falls)) [] := by
  refine fn_specK Try.func29 rfl (Nat.le_of_ble_eq_true rfl) (by (first | trivial | (show _ < _; exact lt_ble rfl) | exact bel_cStr _ _ | exact bel_cB _ _ | (show belowL _ _; (repeat (first | exact trivial | (show _ < _; exact lt_ble rfl) | refine ⟨?_, ?_⟩)); done) |  decide | (simp [belowA, AV.bel, C.bel, belowL, belowL_i, heapBelow, R.bel, encD, bel_cStr]; done) | (intro p hp; simp at hp))) (by (first | trivial | (show _ < _; exact lt_ble rfl) | exact bel_cStr _ _ | exact bel_cB _ _ | (show belowL _ _; (repeat (first | exact trivial | (show _ < _; exact lt_ble rfl) | refine ⟨?_, ?_⟩)); done) |  decide | (simp [belowA, AV.bel, C.bel, belowL, belowL_i, heapBelow, R.bel, encD, bel_cStr]; done) | (intro p hp; simp at hp))) (by (first | trivial | (show _ < _; exact lt_ble rfl) | exact bel_cStr _ _ | exact bel_cB _ _ | (show belowL _ _; (repeat (first | exact trivial | (show _ < _; exact lt_ble rfl) | refine ⟨?_, ?_⟩)); done) |  decide | (simp [belowA, AV.bel, C.bel, belowL, belowL_i, heapBelow, R.bel, encD, bel_cStr]; done) | (intro p hp; simp at hp))) (by (first | trivial | (show _ < _; exact lt_ble rfl) | exact bel_cStr _ _ | exact bel_cB _ _ | (show belowL _ _; (repeat (first | exact trivial | (show _ < _; exact lt_ble rfl) | refine ⟨?_, ?_⟩)); done) |  decide | (simp [belowA, AV.bel, C.bel, belowL, belowL_i, heapBelow, R.bel, encD, bel_cStr]; done) | (intro p hp; simp at hp))) (by decide) (fun E h0 => ?_)
  refine k_seq ?_
  apply k_reg [1, 2] 16 
  · kernel_rfl
  · apply Exec.cons
    · exact s_box rfl rfl rfl rfl
    apply Exec.cons
    · exact s_alloc zero34 zok34 rfl
    exact Exec.nil _ _
  conv => enter [4]; simp only [nrm_, List.mem_cons, List.not_mem_nil, List.filterMap_cons, List.filterMap_nil, List.cons_append, List.nil_append, ↓reduceIte, Nat.reduceEqDiff, or_false, or_true, false_or, List.map_cons, List.map_nil, Option.map_some, Option.map_none, Nat.reduceAdd, Nat.reduceMul, splice, chunk, Option.getD_some, Option.getD_none, Int.toNat_natCast, Int.toNat_zero, Nat.sub_zero, List.take_succ_cons, List.take_zero, List.drop_succ_cons, List.drop_zero, List.length_cons, List.length_nil, List.set_cons_succ, List.set_cons_zero, encD, zc34]
  refine k_seq ?_
  refine k_seq ?_
  apply k_reg [1, 2, 5] 40 
  · kernel_rfl
  · apply Exec.cons
    · first | exact s_fieldAddr rfl fld34_4 rfl | exact s_fieldAddre rfl fld34_4 rfl
    apply Exec.cons
    · first | exact s_load rfl rfl one4 rfl rfl | exact s_load_row rfl rfl one4 (by first | rfl | assumption | (simp; done)) rfl | exact s_loade' rfl (rowAt (by assumption)) one4 rfl rfl | exact s_loade rfl one4 rfl rfl
    apply Exec.cons
    · exact s_not rfl rfl
    exact Exec.nil _ _
  conv => enter [4]; simp only [nrm_, List.mem_cons, List.not_mem_nil, List.filterMap_cons, List.filterMap_nil, List.cons_append, List.nil_append, ↓reduceIte, Nat.reduceEqDiff, or_false, or_true, false_or, List.map_cons, List.map_nil, Option.map_some, Option.map_none, Nat.reduceAdd, Nat.reduceMul, splice, chunk, Option.getD_some, Option.getD_none, Int.toNat_natCast, Int.toNat_zero, Nat.sub_zero, List.take_succ_cons, List.take_zero, List.drop_succ_cons, List.drop_zero, List.length_cons, List.length_nil, List.set_cons_succ, List.set_cons_zero, encD, zc34]
  refine k_cond rfl (fun hb => ?_) (fun hb => ?_)
  · skip
    have hb : d.off = false := by simpa using hb
    apply k_reg [1, 2] 80 
    · kernel_rfl
    · apply Exec.cons
      · first | exact s_fieldAddr rfl fld34_5 rfl | exact s_fieldAddre rfl fld34_5 rfl
      apply Exec.cons
      · first | exact s_load rfl rfl one32 rfl rfl | exact s_load_row rfl rfl one32 (by first | rfl | assumption | (simp; done)) rfl | exact s_loade' rfl (rowAt (by assumption)) one32 rfl rfl | exact s_loade rfl one32 rfl rfl
      apply Exec.cons
      · first | exact s_add rfl rfl (in_u64 (by omega) (by omega)) rfl | exact s_bin rfl rfl rfl rfl rfl
      apply Exec.cons
      · first | exact s_fieldAddr rfl fld34_5 rfl | exact s_fieldAddre rfl fld34_5 rfl
      apply Exec.cons
      · first | exact s_store_row rfl rfl rfl sz32 (by first | omega | (simp [chunk]; done) | (simp [chunk]; omega)) rfl | exact s_storeA rfl rfl rfl rfl sz32 rfl rfl rfl | exact s_store_all rfl rfl rfl sz32 rfl rfl rfl rfl | exact s_store rfl rfl rfl sz32 rfl rfl (Nat.le_of_ble_eq_true rfl) rfl rfl rfl
      exact Exec.nil _ _
    conv => enter [4]; simp only [nrm_, List.mem_cons, List.not_mem_nil, List.filterMap_cons, List.filterMap_nil, List.cons_append, List.nil_append, ↓reduceIte, Nat.reduceEqDiff, or_false, or_true, false_or, List.map_cons, List.map_nil, Option.map_some, Option.map_none, Nat.reduceAdd, Nat.reduceMul, splice, chunk, Option.getD_some, Option.getD_none, Int.toNat_natCast, Int.toNat_zero, Nat.sub_zero, List.take_succ_cons, List.take_zero, List.drop_succ_cons, List.drop_zero, List.length_cons, List.length_nil, List.set_cons_succ, List.set_cons_zero, encD, zc34]
    refine k_seq ?_
    apply k_reg [1, 2] 96 
    · kernel_rfl
    · apply Exec.cons
      · first | exact s_fieldAddr rfl fld34_4 rfl | exact s_fieldAddre rfl fld34_4 rfl
      apply Exec.cons
      · first | exact s_store_row rfl rfl rfl sz4 (by first | omega | (simp [chunk]; done) | (simp [chunk]; omega)) rfl | exact s_storeA rfl rfl rfl rfl sz4 rfl rfl rfl | exact s_store_all rfl rfl rfl sz4 rfl rfl rfl rfl | exact s_store rfl rfl rfl sz4 rfl rfl (Nat.le_of_ble_eq_true rfl) rfl rfl rfl
      exact Exec.nil _ _
    conv => enter [4]; simp only [nrm_, List.mem_cons, List.not_mem_nil, List.filterMap_cons, List.filterMap_nil, List.cons_append, List.nil_append, ↓reduceIte, Nat.reduceEqDiff, or_false, or_true, false_or, List.map_cons, List.map_nil, Option.map_some, Option.map_none, Nat.reduceAdd, Nat.reduceMul, splice, chunk, Option.getD_some, Option.getD_none, Int.toNat_natCast, Int.toNat_zero, Nat.sub_zero, List.take_succ_cons, List.take_zero, List.drop_succ_cons, List.drop_zero, List.length_cons, List.length_nil, List.set_cons_succ, List.set_cons_zero, encD, zc34]
    refine k_seq ?_
    apply k_reg [2] 112 
    · kernel_rfl
    · apply Exec.cons
      · first | exact s_load_all rfl rfl agg34 rfl | exact s_loade_all rfl (rowAt (by assumption)) agg34 rfl | exact s_load_agg rfl rfl agg34 rfl rfl rfl | exact s_loade_agg' rfl (rowAt (by assumption)) agg34 rfl rfl rfl | exact s_loade_agg rfl agg34 rfl rfl rfl
      apply Exec.cons
      · first | exact s_store_row rfl rfl rfl sz34 (by first | omega | (simp [chunk]; done) | (simp [chunk]; omega)) rfl | exact s_storeA rfl rfl rfl rfl sz34 rfl rfl rfl | exact s_store_all rfl rfl rfl sz34 rfl rfl rfl rfl | exact s_store rfl rfl rfl sz34 rfl rfl (Nat.le_of_ble_eq_true rfl) rfl rfl rfl
      exact Exec.nil _ _
    conv => enter [4]; simp only [nrm_, List.mem_cons, List.not_mem_nil, List.filterMap_cons, List.filterMap_nil, List.cons_append, List.nil_append, ↓reduceIte, Nat.reduceEqDiff, or_false, or_true, false_or, List.map_cons, List.map_nil, Option.map_some, Option.map_none, Nat.reduceAdd, Nat.reduceMul, splice, chunk, Option.getD_some, Option.getD_none, Int.toNat_natCast, Int.toNat_zero, Nat.sub_zero, List.take_succ_cons, List.take_zero, List.drop_succ_cons, List.drop_zero, List.length_cons, List.length_nil, List.set_cons_succ, List.set_cons_zero, encD, zc34]
    refine k_ret ?_
    exact fin_val (.cons (by first | exact resOk_all rfl rfl agg34 | exact .agg rfl rfl agg34 rfl) .nil) ((imp_aggE (by repeat (first | exact ImpCs.nil | (apply ImpCs.cons; first | exact impC_tok _ _ _ | exact impC_nn _ _ | exact ImpC.refl _))) (by simp [encD, RD.falls, hb]))) (by first | trivial | simp [AV.bel, C.bel, belowL, belowL_i, belowA, encD, bel_cStr])
  · skip
    have hb : d.off = true := by simpa using hb
    refine k_skip ?_
    refine k_seq ?_
    apply k_reg [1, 2] 56 
    · kernel_rfl
    · apply Exec.cons
      · first | exact s_fieldAddr rfl fld34_4 rfl | exact s_fieldAddre rfl fld34_4 rfl
      apply Exec.cons
      · first | exact s_store_row rfl rfl rfl sz4 (by first | omega | (simp [chunk]; done) | (simp [chunk]; omega)) rfl | exact s_storeA rfl rfl rfl rfl sz4 rfl rfl rfl | exact s_store_all rfl rfl rfl sz4 rfl rfl rfl rfl | exact s_store rfl rfl rfl sz4 rfl rfl (Nat.le_of_ble_eq_true rfl) rfl rfl rfl
      exact Exec.nil _ _
    conv => enter [4]; simp only [nrm_, List.mem_cons, List.not_mem_nil, List.filterMap_cons, List.filterMap_nil, List.cons_append, List.nil_append, ↓reduceIte, Nat.reduceEqDiff, or_false, or_true, false_or, List.map_cons, List.map_nil, Option.map_some, Option.map_none, Nat.reduceAdd, Nat.reduceMul, splice, chunk, Option.getD_some, Option.getD_none, Int.toNat_natCast, Int.toNat_zero, Nat.sub_zero, List.take_succ_cons, List.take_zero, List.drop_succ_cons, List.drop_zero, List.length_cons, List.length_nil, List.set_cons_succ, List.set_cons_zero, encD, zc34]
    refine k_seq ?_
    apply k_reg [2] 72 
    · kernel_rfl
    · apply Exec.cons
      · first | exact s_load_all rfl rfl agg34 rfl | exact s_loade_all rfl (rowAt (by assumption)) agg34 rfl | exact s_load_agg rfl rfl agg34 rfl rfl rfl | exact s_loade_agg' rfl (rowAt (by assumption)) agg34 rfl rfl rfl | exact s_loade_agg rfl agg34 rfl rfl rfl
      apply Exec.cons
      · first | exact s_store_row rfl rfl rfl sz34 (by first | omega | (simp [chunk]; done) | (simp [chunk]; omega)) rfl | exact s_storeA rfl rfl rfl rfl sz34 rfl rfl rfl | exact s_store_all rfl rfl rfl sz34 rfl rfl rfl rfl | exact s_store rfl rfl rfl sz34 rfl rfl (Nat.le_of_ble_eq_true rfl) rfl rfl rfl
      exact Exec.nil _ _
    conv => enter [4]; simp only [nrm_, List.mem_cons, List.not_mem_nil, List.filterMap_cons, List.filterMap_nil, List.cons_append, List.nil_append, ↓reduceIte, Nat.reduceEqDiff, or_false, or_true, false_or, List.map_cons, List.map_nil, Option.map_some, Option.map_none, Nat.reduceAdd, Nat.reduceMul, splice, chunk, Option.getD_some, Option.getD_none, Int.toNat_natCast, Int.toNat_zero, Nat.sub_zero, List.take_succ_cons, List.take_zero, List.drop_succ_cons, List.drop_zero, List.length_cons, List.length_nil, List.set_cons_succ, List.set_cons_zero, encD, zc34]
    refine k_ret ?_
    exact fin_val (.cons (by first | exact resOk_all rfl rfl agg34 | exact .agg rfl rfl agg34 rfl) .nil) ((imp_aggE (by repeat (first | exact ImpCs.nil | (apply ImpCs.cons; first | exact impC_tok _ _ _ | exact impC_nn _ _ | exact ImpC.refl _))) (by simp [encD, RD.falls, hb]))) (by first | trivial | simp [AV.bel, C.bel, belowL, belowL_i, belowA, encD, bel_cStr])

set_option maxRecDepth 100000 in
set_option maxHeartbeats 400000 in
theorem rp_burns (d : RD) (hz : -1 ≤ d.z ∧ d.z ≤ 9223372036854775807) : FnSpec Try.prog 36 0 0 [.agg (encD d)] [] (.tup [vv (.bool d.burns.1), .agg (encD d.burns.2)]) [] := by
  refine fn_specK Try.func36 rfl (Nat.le_of_ble_eq_true rfl) (by (first | trivial | (show _ < _; exact lt_ble rfl) | exact bel_cStr _ _ | exact bel_cB _ _ | (show belowL _ _; (repeat (first | exact trivial | (show _ < _; exact lt_ble rfl) | refine ⟨?_, ?_⟩)); done) |  decide | (simp [belowA, AV.bel, C.bel, belowL, belowL_i, heapBelow, R.bel, encD, bel_cStr]; done) | (intro p hp; simp at hp))) (by (first | trivial | (show _ < _; exact lt_ble rfl) | exact bel_cStr _ _ | exact bel_cB _ _ | (show belowL _ _; (repeat (first | exact trivial | (show _ < _; exact lt_ble rfl) | refine ⟨?_, ?_⟩)); done) |  decide | (simp [belowA, AV.bel, C.bel, belowL, belowL_i, heapBelow, R.bel, encD, bel_cStr]; done) | (intro p hp; simp at hp))) (by (first | trivial | (show _ < _; exact lt_ble rfl) | exact bel_cStr _ _ | exact bel_cB _ _ | (show belowL _ _; (repeat (first | exact trivial | (show _ < _; exact lt_ble rfl) | refine ⟨?_, ?_⟩)); done) |  decide | (simp [belowA, AV.bel, C.bel, belowL, belowL_i, heapBelow, R.bel, encD, bel_cStr]; done) | (intro p hp; simp at hp))) (by (first | trivial | (show _ < _; exact lt_ble rfl) | exact bel_cStr _ _ | exact bel_cB _ _ | (show belowL _ _; (repeat (first | exact trivial | (show _ < _; exact lt_ble rfl) | refine ⟨?_, ?_⟩)); done) |  decide | (simp [belowA, AV.bel, C.bel, belowL, belowL_i, heapBelow, R.bel, encD, bel_cStr]; done) | (intro p hp; simp at hp))) (by decide) (fun E h0 => ?_)
  refine k_seq ?_
  apply k_reg [1, 3] 24 
  · kernel_rfl
  · apply Exec.cons
    · exact s_box rfl rfl rfl rfl
    apply Exec.cons
    · exact s_assign rfl rfl rfl
    apply Exec.cons
    · exact s_alloc zero34 zok34 rfl
    exact Exec.nil _ _
  conv => enter [4]; simp only [nrm_, List.mem_cons, List.not_mem_nil, List.filterMap_cons, List.filterMap_nil, List.cons_append, List.nil_append, ↓reduceIte, Nat.reduceEqDiff, or_false, or_true, false_or, List.map_cons, List.map_nil, Option.map_some, Option.map_none, Nat.reduceAdd, Nat.reduceMul, splice, chunk, Option.getD_some, Option.getD_none, Int.toNat_natCast, Int.toNat_zero, Nat.sub_zero, List.take_succ_cons, List.take_zero, List.drop_succ_cons, List.drop_zero, List.length_cons, List.length_nil, List.set_cons_succ, List.set_cons_zero, encD, zc34]
  refine k_seq ?_
  refine k_seq ?_
  apply k_reg [1, 3, 6] 48 
  · kernel_rfl
  · apply Exec.cons
    · first | exact s_fieldAddr rfl fld34_6 rfl | exact s_fieldAddre rfl fld34_6 rfl
    apply Exec.cons
    · first | exact s_load rfl rfl one3 rfl rfl | exact s_load_row rfl rfl one3 (by first | rfl | assumption | (simp; done)) rfl | exact s_loade' rfl (rowAt (by assumption)) one3 rfl rfl | exact s_loade rfl one3 rfl rfl
    apply Exec.cons
    · exact s_bin rfl rfl rfl rfl rfl
    exact Exec.nil _ _
  conv => enter [4]; simp only [nrm_, List.mem_cons, List.not_mem_nil, List.filterMap_cons, List.filterMap_nil, List.cons_append, List.nil_append, ↓reduceIte, Nat.reduceEqDiff, or_false, or_true, false_or, List.map_cons, List.map_nil, Option.map_some, Option.map_none, Nat.reduceAdd, Nat.reduceMul, splice, chunk, Option.getD_some, Option.getD_none, Int.toNat_natCast, Int.toNat_zero, Nat.sub_zero, List.take_succ_cons, List.take_zero, List.drop_succ_cons, List.drop_zero, List.length_cons, List.length_nil, List.set_cons_succ, List.set_cons_zero, encD, zc34]
  refine k_cond rfl (fun hb => ?_) (fun hb => ?_)
  · skip
    have hb : d.z < 0 := by simpa using hb
    refine k_seq ?_
    apply k_dreg [2, 3] 72 mixed
    · kernel_rfl
    · apply Exec.cons
      · first | exact s_load_all rfl rfl agg34 rfl | exact s_loade_all rfl (rowAt (by assumption)) agg34 rfl | exact s_load_agg rfl rfl agg34 rfl rfl rfl | exact s_loade_agg' rfl (rowAt (by assumption)) agg34 rfl rfl rfl | exact s_loade_agg rfl agg34 rfl rfl rfl
      apply Exec.cons
      · exact s_assign rfl rfl rfl
      apply Exec.cons
      · first | exact s_store_row rfl rfl rfl sz34 (by first | omega | (simp [chunk]; done) | (simp [chunk]; omega)) rfl | exact s_storeA rfl rfl rfl rfl sz34 rfl rfl rfl | exact s_store_all rfl rfl rfl sz34 rfl rfl rfl rfl | exact s_store rfl rfl rfl sz34 rfl rfl (Nat.le_of_ble_eq_true rfl) rfl rfl rfl
      exact Exec.nil _ _
    · kernel_rfl
    conv => enter [4]; simp only [nrm_, List.mem_cons, List.not_mem_nil, List.filterMap_cons, List.filterMap_nil, List.cons_append, List.nil_append, ↓reduceIte, Nat.reduceEqDiff, or_false, or_true, false_or, List.map_cons, List.map_nil, Option.map_some, Option.map_none, Nat.reduceAdd, Nat.reduceMul, splice, chunk, Option.getD_some, Option.getD_none, Int.toNat_natCast, Int.toNat_zero, Nat.sub_zero, List.take_succ_cons, List.take_zero, List.drop_succ_cons, List.drop_zero, List.length_cons, List.length_nil, List.set_cons_succ, List.set_cons_zero, encD, zc34]
    refine k_ret ?_
    exact fin_val (.cons (.tmp rfl) (.cons (by first | exact resOk_all rfl rfl agg34 | exact .agg rfl rfl agg34 rfl) .nil)) ((Imp.tup (.cons (imp_eq (by simp [RD.burns, hb])) (.cons (imp_aggE (by repeat (first | exact ImpCs.nil | (apply ImpCs.cons; first | exact impC_tok _ _ _ | exact impC_nn _ _ | exact ImpC.refl _))) (by simp [encD, RD.burns, hb])) .nil)))) (by first | trivial | simp [AV.bel, C.bel, belowL, belowL_i, belowA, encD, bel_cStr])
  · skip
    have hb1 : ¬ d.z < 0 := by simpa using hb
    refine k_skip ?_
    refine k_seq ?_
    refine k_seq ?_
    apply k_reg [1, 3, 10] 72 
    · kernel_rfl
    · apply Exec.cons
      · first | exact s_fieldAddr rfl fld34_6 rfl | exact s_fieldAddre rfl fld34_6 rfl
      apply Exec.cons
      · first | exact s_load rfl rfl one3 rfl rfl | exact s_load_row rfl rfl one3 (by first | rfl | assumption | (simp; done)) rfl | exact s_loade' rfl (rowAt (by assumption)) one3 rfl rfl | exact s_loade rfl one3 rfl rfl
      apply Exec.cons
      · exact s_bin rfl rfl rfl rfl rfl
      exact Exec.nil _ _
    conv => enter [4]; simp only [nrm_, List.mem_cons, List.not_mem_nil, List.filterMap_cons, List.filterMap_nil, List.cons_append, List.nil_append, ↓reduceIte, Nat.reduceEqDiff, or_false, or_true, false_or, List.map_cons, List.map_nil, Option.map_some, Option.map_none, Nat.reduceAdd, Nat.reduceMul, splice, chunk, Option.getD_some, Option.getD_none, Int.toNat_natCast, Int.toNat_zero, Nat.sub_zero, List.take_succ_cons, List.take_zero, List.drop_succ_cons, List.drop_zero, List.length_cons, List.length_nil, List.set_cons_succ, List.set_cons_zero, encD, zc34]
    refine k_cond rfl (fun hb => ?_) (fun hb => ?_)
    · skip
      have hb2 : d.z = 0 := by simpa using hb
      refine k_seq ?_
      apply k_reg [2, 3] 104 
      · kernel_rfl
      · apply Exec.cons
        · first | exact s_load_all rfl rfl agg34 rfl | exact s_loade_all rfl (rowAt (by assumption)) agg34 rfl | exact s_load_agg rfl rfl agg34 rfl rfl rfl | exact s_loade_agg' rfl (rowAt (by assumption)) agg34 rfl rfl rfl | exact s_loade_agg rfl agg34 rfl rfl rfl
        apply Exec.cons
        · exact s_callv call29 (rp_falls _) rfl rfl rfl (by first | exact Imps.refl _ | (repeat (first | exact Imps.nil | apply Imps.cons | exact Imp.refl _ | exact Imp.c (impC_tok _ _ _) | exact Imp.c (impC_nilk _ _) | (apply Imp.agg; (repeat (first | exact ImpCs.nil | (apply ImpCs.cons; first | exact impC_tok _ _ _ | exact impC_nn _ _ | exact ImpC.refl _))))))) (by first | trivial | simp [AV.bel, C.bel, belowL, belowL_i, belowA, encD, bel_cStr]) rfl
        apply Exec.cons
        · exact s_assign rfl rfl rfl
        apply Exec.cons
        · first | exact s_store_row rfl rfl rfl sz34 (by first | omega | (simp [chunk]; done) | (simp [chunk]; omega)) rfl | exact s_storeA rfl rfl rfl rfl sz34 rfl rfl rfl | exact s_store_all rfl rfl rfl sz34 rfl rfl rfl rfl | exact s_store rfl rfl rfl sz34 rfl rfl (Nat.le_of_ble_eq_true rfl) rfl rfl rfl
        exact Exec.nil _ _
      conv => enter [4]; simp only [nrm_, List.mem_cons, List.not_mem_nil, List.filterMap_cons, List.filterMap_nil, List.cons_append, List.nil_append, ↓reduceIte, Nat.reduceEqDiff, or_false, or_true, false_or, List.map_cons, List.map_nil, Option.map_some, Option.map_none, Nat.reduceAdd, Nat.reduceMul, splice, chunk, Option.getD_some, Option.getD_none, Int.toNat_natCast, Int.toNat_zero, Nat.sub_zero, List.take_succ_cons, List.take_zero, List.drop_succ_cons, List.drop_zero, List.length_cons, List.length_nil, List.set_cons_succ, List.set_cons_zero, encD, zc34]
      refine k_ret ?_
      exact fin_val (.cons (.tmp rfl) (.cons (by first | exact resOk_all rfl rfl agg34 | exact .agg rfl rfl agg34 rfl) .nil)) ((Imp.tup (.cons (imp_eq (by simp [RD.burns, hb2])) (.cons (imp_aggE (by repeat (first | exact ImpCs.nil | (apply ImpCs.cons; first | exact impC_tok _ _ _ | exact impC_nn _ _ | exact ImpC.refl _))) (by simp [encD, RD.burns, hb2])) .nil)))) (by first | trivial | simp [AV.bel, C.bel, belowL, belowL_i, belowA, encD, bel_cStr])
    · skip
      have hb2 : ¬ d.z = 0 := by simpa using hb
      refine k_skip ?_
      refine k_seq ?_
      apply k_reg [1, 3] 112 
      · kernel_rfl
      · apply Exec.cons
        · first | exact s_fieldAddr rfl fld34_6 rfl | exact s_fieldAddre rfl fld34_6 rfl
        apply Exec.cons
        · first | exact s_load rfl rfl one3 rfl rfl | exact s_load_row rfl rfl one3 (by first | rfl | assumption | (simp; done)) rfl | exact s_loade' rfl (rowAt (by assumption)) one3 rfl rfl | exact s_loade rfl one3 rfl rfl
        apply Exec.cons
        · first | exact s_sub rfl rfl (in_i64 (by omega) (by omega)) rfl | exact s_bin rfl rfl rfl rfl rfl
        apply Exec.cons
        · first | exact s_fieldAddr rfl fld34_6 rfl | exact s_fieldAddre rfl fld34_6 rfl
        apply Exec.cons
        · first | exact s_store_row rfl rfl rfl sz3 (by first | omega | (simp [chunk]; done) | (simp [chunk]; omega)) rfl | exact s_storeA rfl rfl rfl rfl sz3 rfl rfl rfl | exact s_store_all rfl rfl rfl sz3 rfl rfl rfl rfl | exact s_store rfl rfl rfl sz3 rfl rfl (Nat.le_of_ble_eq_true rfl) rfl rfl rfl
        exact Exec.nil _ _
      conv => enter [4]; simp only [nrm_, List.mem_cons, List.not_mem_nil, List.filterMap_cons, List.filterMap_nil, List.cons_append, List.nil_append, ↓reduceIte, Nat.reduceEqDiff, or_false, or_true, false_or, List.map_cons, List.map_nil, Option.map_some, Option.map_none, Nat.reduceAdd, Nat.reduceMul, splice, chunk, Option.getD_some, Option.getD_none, Int.toNat_natCast, Int.toNat_zero, Nat.sub_zero, List.take_succ_cons, List.take_zero, List.drop_succ_cons, List.drop_zero, List.length_cons, List.length_nil, List.set_cons_succ, List.set_cons_zero, encD, zc34]
      refine k_seq ?_
      apply k_dreg [2, 3] 136 mixed
      · kernel_rfl
      · apply Exec.cons
        · first | exact s_load_all rfl rfl agg34 rfl | exact s_loade_all rfl (rowAt (by assumption)) agg34 rfl | exact s_load_agg rfl rfl agg34 rfl rfl rfl | exact s_loade_agg' rfl (rowAt (by assumption)) agg34 rfl rfl rfl | exact s_loade_agg rfl agg34 rfl rfl rfl
        apply Exec.cons
        · exact s_assign rfl rfl rfl
        apply Exec.cons
        · first | exact s_store_row rfl rfl rfl sz34 (by first | omega | (simp [chunk]; done) | (simp [chunk]; omega)) rfl | exact s_storeA rfl rfl rfl rfl sz34 rfl rfl rfl | exact s_store_all rfl rfl rfl sz34 rfl rfl rfl rfl | exact s_store rfl rfl rfl sz34 rfl rfl (Nat.le_of_ble_eq_true rfl) rfl rfl rfl
        exact Exec.nil _ _
      · kernel_rfl
      conv => enter [4]; simp only [nrm_, List.mem_cons, List.not_mem_nil, List.filterMap_cons, List.filterMap_nil, List.cons_append, List.nil_append, ↓reduceIte, Nat.reduceEqDiff, or_false, or_true, false_or, List.map_cons, List.map_nil, Option.map_some, Option.map_none, Nat.reduceAdd, Nat.reduceMul, splice, chunk, Option.getD_some, Option.getD_none, Int.toNat_natCast, Int.toNat_zero, Nat.sub_zero, List.take_succ_cons, List.take_zero, List.drop_succ_cons, List.drop_zero, List.length_cons, List.length_nil, List.set_cons_succ, List.set_cons_zero, encD, zc34]
      refine k_ret ?_
      exact fin_val (.cons (.tmp rfl) (.cons (by first | exact resOk_all rfl rfl agg34 | exact .agg rfl rfl agg34 rfl) .nil)) ((Imp.tup (.cons (imp_eq (by simp [RD.burns, hb1, hb2])) (.cons (imp_aggE (by repeat (first | exact ImpCs.nil | (apply ImpCs.cons; first | exact impC_tok _ _ _ | exact impC_nn _ _ | exact ImpC.refl _))) (by simp [encD, RD.burns, hb1, hb2])) .nil)))) (by first | trivial | simp [AV.bel, C.bel, belowL, belowL_i, belowA, encD, bel_cStr])

set_option maxRecDepth 100000 in
set_option maxHeartbeats 400000 in
theorem rp_read (d : RD) (ok : RDok d) (i : Int) : FnSpec Try.prog 19 0 0 [.agg (encD d), vv (.int .i64 i)] [] (.tup [vv (str (d.read i).1), vv (.int .i64 (d.read i).2)]) [] := by
  refine fn_specK Try.func19 rfl (Nat.le_of_ble_eq_true rfl) (by (first | trivial | (show _ < _; exact lt_ble rfl) | exact bel_cStr _ _ | exact bel_cB _ _ | (show belowL _ _; (repeat (first | exact trivial | (show _ < _; exact lt_ble rfl) | refine ⟨?_, ?_⟩)); done) |  decide | (simp [belowA, AV.bel, C.bel, belowL, belowL_i, heapBelow, R.bel, encD, bel_cStr]; done) | (intro p hp; simp at hp))) (by (first | trivial | (show _ < _; exact lt_ble rfl) | exact bel_cStr _ _ | exact bel_cB _ _ | (show belowL _ _; (repeat (first | exact trivial | (show _ < _; exact lt_ble rfl) | refine ⟨?_, ?_⟩)); done) |  decide | (simp [belowA, AV.bel, C.bel, belowL, belowL_i, heapBelow, R.bel, encD, bel_cStr]; done) | (intro p hp; simp at hp))) (by (first | trivial | (show _ < _; exact lt_ble rfl) | exact bel_cStr _ _ | exact bel_cB _ _ | (show belowL _ _; (repeat (first | exact trivial | (show _ < _; exact lt_ble rfl) | refine ⟨?_, ?_⟩)); done) |  decide | (simp [belowA, AV.bel, C.bel, belowL, belowL_i, heapBelow, R.bel, encD, bel_cStr]; done) | (intro p hp; simp at hp))) (by (first | trivial | (show _ < _; exact lt_ble rfl) | exact bel_cStr _ _ | exact bel_cB _ _ | (show belowL _ _; (repeat (first | exact trivial | (show _ < _; exact lt_ble rfl) | refine ⟨?_, ?_⟩)); done) |  decide | (simp [belowA, AV.bel, C.bel, belowL, belowL_i, heapBelow, R.bel, encD, bel_cStr]; done) | (intro p hp; simp at hp))) (by decide) (fun E h0 => ?_)
  refine k_seq ?_
  apply k_reg [1, 2, 13, 14, 15, 16] 24 
  · kernel_rfl
  · apply Exec.cons
    · exact s_box rfl rfl rfl rfl
    apply Exec.cons
    · exact s_assign rfl rfl rfl
    apply Exec.cons
    · exact s_assign rfl rfl rfl
    exact Exec.nil _ _
  conv => enter [4]; simp only [nrm_, List.mem_cons, List.not_mem_nil, List.filterMap_cons, List.filterMap_nil, List.cons_append, List.nil_append, ↓reduceIte, Nat.reduceEqDiff, or_false, or_true, false_or, List.map_cons, List.map_nil, Option.map_some, Option.map_none, Nat.reduceAdd, Nat.reduceMul, splice, chunk, Option.getD_some, Option.getD_none, Int.toNat_natCast, Int.toNat_zero, Nat.sub_zero, List.take_succ_cons, List.take_zero, List.drop_succ_cons, List.drop_zero, List.length_cons, List.length_nil, List.set_cons_succ, List.set_cons_zero, encD, List.length_map]
  refine k_seq ?_
  refine k_seq ?_
  apply k_reg [1, 2, 9, 13, 14, 15, 16] 40 
  · kernel_rfl
  · apply Exec.cons
    · first | exact s_fieldAddr rfl fld34_4 rfl | exact s_fieldAddre rfl fld34_4 rfl
    apply Exec.cons
    · first | exact s_load rfl rfl one4 rfl rfl | exact s_load_row rfl rfl one4 (by first | rfl | assumption | (simp; done)) rfl | exact s_loade' rfl (rowAt (by assumption)) one4 rfl rfl | exact s_loade rfl one4 rfl rfl
    exact Exec.nil _ _
  conv => enter [4]; simp only [nrm_, List.mem_cons, List.not_mem_nil, List.filterMap_cons, List.filterMap_nil, List.cons_append, List.nil_append, ↓reduceIte, Nat.reduceEqDiff, or_false, or_true, false_or, List.map_cons, List.map_nil, Option.map_some, Option.map_none, Nat.reduceAdd, Nat.reduceMul, splice, chunk, Option.getD_some, Option.getD_none, Int.toNat_natCast, Int.toNat_zero, Nat.sub_zero, List.take_succ_cons, List.take_zero, List.drop_succ_cons, List.drop_zero, List.length_cons, List.length_nil, List.set_cons_succ, List.set_cons_zero, encD, List.length_map]
  refine k_cond rfl (fun hb => ?_) (fun hb => ?_)
  · skip
    have ho : d.off = true := hb
    refine k_seq ?_
    apply k_reg [4, 5] 56 
    · kernel_rfl
    · apply Exec.cons
      · exact s_assign rfl rfl rfl
      apply Exec.cons
      · exact s_assign rfl rfl rfl
      exact Exec.nil _ _
    conv => enter [4]; simp only [nrm_, List.mem_cons, List.not_mem_nil, List.filterMap_cons, List.filterMap_nil, List.cons_append, List.nil_append, ↓reduceIte, Nat.reduceEqDiff, or_false, or_true, false_or, List.map_cons, List.map_nil, Option.map_some, Option.map_none, Nat.reduceAdd, Nat.reduceMul, splice, chunk, Option.getD_some, Option.getD_none, Int.toNat_natCast, Int.toNat_zero, Nat.sub_zero, List.take_succ_cons, List.take_zero, List.drop_succ_cons, List.drop_zero, List.length_cons, List.length_nil, List.set_cons_succ, List.set_cons_zero, encD, List.length_map]
    refine k_ret ?_
    exact fin_val (.cons (.tmp rfl) (.cons (.tmp rfl) .nil)) ((Imp.tup (.cons (imp_eq (by simp [RD.read, ho]; rfl)) (.cons (imp_eq (by simp [RD.read, ho])) .nil)))) (by first | trivial | simp [AV.bel, C.bel, belowL, belowL_i, belowA, encD, bel_cStr])
  · skip
    have ho : ¬ d.off = true := by rw [hb]; simp
    refine k_skip ?_
    refine k_seq ?_
    refine k_seq ?_
    apply k_reg [1, 2, 17] 104 
    · kernel_rfl
    · apply Exec.cons
      · exact s_move rfl rfl rfl
      apply Exec.cons
      · exact s_bin rfl rfl rfl rfl rfl
      apply Exec.cons
      · exact s_move rfl rfl rfl
      apply Exec.cons
      · exact s_guard (c := _) rfl rfl rfl (by first | exact hpre1 rfl | (intro _ _ h; simp [get] at h)) rfl (fun hb => s_move rfl rfl rfl)
      apply Exec.cons
      · first | exact s_guard (c := _) rfl rfl rfl (by first | exact hpre1 rfl | (intro _ _ h; simp [get] at h)) rfl (fun hb => s_fieldAddr rfl fld34_1 rfl) | exact s_guard (c := _) rfl rfl rfl (by first | exact hpre1 rfl | (intro _ _ h; simp [get] at h)) rfl (fun hb => s_fieldAddre rfl fld34_1 rfl)
      apply Exec.cons
      · first | exact s_guard (c := _) rfl rfl rfl (by first | exact hpre1 rfl | (intro _ _ h; simp [get] at h)) rfl (fun hb => s_load (evif (bv := .tup []) hb rfl) rfl one3 rfl rfl) | exact s_guard (c := _) rfl rfl rfl (by first | exact hpre1 rfl | (intro _ _ h; simp [get] at h)) rfl (fun hb => s_load_row (evif (bv := .tup []) hb rfl) rfl one3 (by first | rfl | assumption | (simp; done)) rfl) | exact s_guard (c := _) rfl rfl rfl (by first | exact hpre1 rfl | (intro _ _ h; simp [get] at h)) rfl (fun hb => s_loade' (evif (bv := .tup []) hb rfl) (rowAt (by assumption)) one3 rfl rfl) | exact s_guard (c := _) rfl rfl rfl (by first | exact hpre1 rfl | (intro _ _ h; simp [get] at h)) rfl (fun hb => s_loade (evif (bv := .tup []) hb rfl) one3 rfl rfl)
      apply Exec.cons
      · exact s_guard (c := _) rfl rfl rfl (by first | exact hpre1 rfl | (intro _ _ h; simp [get] at h)) rfl (fun hb => s_bin (evif (bv := .tup []) hb rfl) (evif (bv := .tup []) hb rfl) rfl rfl rfl)
      apply Exec.cons
      · first | exact s_or (bv := .tup []) rfl rfl rfl rfl | exact s_or rfl rfl rfl rfl | exact s_pick rfl rfl rfl (fun h => by simp [h]) (fun h => by simp [h]) rfl rfl rfl
      exact Exec.nil _ _
    conv => enter [4]; simp only [nrm_, List.mem_cons, List.not_mem_nil, List.filterMap_cons, List.filterMap_nil, List.cons_append, List.nil_append, ↓reduceIte, Nat.reduceEqDiff, or_false, or_true, false_or, List.map_cons, List.map_nil, Option.map_some, Option.map_none, Nat.reduceAdd, Nat.reduceMul, splice, chunk, Option.getD_some, Option.getD_none, Int.toNat_natCast, Int.toNat_zero, Nat.sub_zero, List.take_succ_cons, List.take_zero, List.drop_succ_cons, List.drop_zero, List.length_cons, List.length_nil, List.set_cons_succ, List.set_cons_zero, encD, List.length_map]
    refine k_cond rfl (fun hb => ?_) (fun hb => ?_)
    · skip
      have hi : i < 0 ∨ (d.c : Int) ≤ i := by simpa using hb
      refine k_seq ?_
      apply k_reg [4, 5] 120 
      · kernel_rfl
      · apply Exec.cons
        · exact s_assign rfl rfl rfl
        apply Exec.cons
        · exact s_assign rfl rfl rfl
        exact Exec.nil _ _
      conv => enter [4]; simp only [nrm_, List.mem_cons, List.not_mem_nil, List.filterMap_cons, List.filterMap_nil, List.cons_append, List.nil_append, ↓reduceIte, Nat.reduceEqDiff, or_false, or_true, false_or, List.map_cons, List.map_nil, Option.map_some, Option.map_none, Nat.reduceAdd, Nat.reduceMul, splice, chunk, Option.getD_some, Option.getD_none, Int.toNat_natCast, Int.toNat_zero, Nat.sub_zero, List.take_succ_cons, List.take_zero, List.drop_succ_cons, List.drop_zero, List.length_cons, List.length_nil, List.set_cons_succ, List.set_cons_zero, encD, List.length_map]
      refine k_ret ?_
      exact fin_val (.cons (.tmp rfl) (.cons (.tmp rfl) .nil)) ((Imp.tup (.cons (imp_eq (by rw [RD.read, if_neg ho, if_pos hi]; rfl)) (.cons (imp_eq (by rw [RD.read, if_neg ho, if_pos hi])) .nil)))) (by first | trivial | simp [AV.bel, C.bel, belowL, belowL_i, belowA, encD, bel_cStr])
    · skip
      have hi0 : ¬ i < 0 := by simp at hb; omega
      have hi1 : ¬ (d.c : Int) ≤ i := by simp at hb; omega
      have hKl := ok.Kl
      obtain ⟨s0, hs0⟩ : ∃ s0, d.K[i.toNat]? = some s0 := ⟨_, List.getElem?_eq_getElem (by omega)⟩
      have hWl := ok.Wl
      refine k_skip ?_
      refine k_seq ?_
      apply k_reg [1, 2, 6] 152 
      · kernel_rfl
      · apply Exec.cons
        · first | exact s_fieldAddr rfl fld34_2 rfl | exact s_fieldAddre rfl fld34_2 rfl
        apply Exec.cons
        · first | exact s_load rfl rfl one30 rfl rfl | exact s_load_row rfl rfl one30 (by first | rfl | assumption | (simp; done)) rfl | exact s_loade' rfl (rowAt (by assumption)) one30 rfl rfl | exact s_loade rfl one30 rfl rfl
        apply Exec.cons
        · exact s_move rfl rfl rfl
        apply Exec.cons
        · first | exact s_indexAddr Try.underlying30 sz9 rfl (by first | exact ImpC.refl _ | exact impC_tok _ _ _ | exact impC_nn _ _ | exact impC_nilk _ _) rfl (by first | omega | (simp [chunk]; done) | (simp [chunk]; omega)) (by first | omega | (simp [chunk]; done) | (simp [chunk]; omega)) rfl | exact s_indexAddr_own1 Try.underlying30 sz9 rfl rfl rfl (by first | omega | (simp [chunk]; done) | (simp [chunk]; omega)) (by first | omega | (simp [chunk]; done) | (simp [chunk]; omega)) rfl
        apply Exec.cons
        · first | exact s_load rfl rfl one9 rfl rfl | exact s_load_row rfl rfl one9 (by first | rfl | assumption | (simp; done)) rfl | exact s_loade' rfl (rowAt (by assumption)) one9 rfl rfl | exact s_loade rfl one9 rfl rfl
        apply Exec.cons
        · exact s_assign rfl rfl rfl
        exact Exec.nil _ _
      conv => enter [4]; simp only [nrm_, List.mem_cons, List.not_mem_nil, List.filterMap_cons, List.filterMap_nil, List.cons_append, List.nil_append, ↓reduceIte, Nat.reduceEqDiff, or_false, or_true, false_or, List.map_cons, List.map_nil, Option.map_some, Option.map_none, Nat.reduceAdd, Nat.reduceMul, splice, chunk, Option.getD_some, Option.getD_none, Int.toNat_natCast, Int.toNat_zero, Nat.sub_zero, List.take_succ_cons, List.take_zero, List.drop_succ_cons, List.drop_zero, List.length_cons, List.length_nil, List.set_cons_succ, List.set_cons_zero, encD, List.length_map]
      refine k_seq ?_
      refine k_seq ?_
      apply k_reg [1, 2, 6, 25, 26] 184 
      · kernel_rfl
      · apply Exec.cons
        · first | exact s_fieldAddr rfl fld34_3 rfl | exact s_fieldAddre rfl fld34_3 rfl
        apply Exec.cons
        · first | exact s_load rfl rfl one31 rfl rfl | exact s_load_row rfl rfl one31 (by first | rfl | assumption | (simp; done)) rfl | exact s_loade' rfl (rowAt (by assumption)) one31 rfl rfl | exact s_loade rfl one31 rfl rfl
        apply Exec.cons
        · first | exact s_len Try.underlying31 rfl (by first | exact ImpC.refl _ | exact impC_tok _ _ _ | exact impC_nn _ _ | exact impC_nilk _ _) rfl | exact s_len_own1 Try.underlying31 rfl rfl rfl
        apply Exec.cons
        · exact s_move rfl rfl rfl
        exact Exec.nil _ _
      conv => enter [4]; simp only [nrm_, List.mem_cons, List.not_mem_nil, List.filterMap_cons, List.filterMap_nil, List.cons_append, List.nil_append, ↓reduceIte, Nat.reduceEqDiff, or_false, or_true, false_or, List.map_cons, List.map_nil, Option.map_some, Option.map_none, Nat.reduceAdd, Nat.reduceMul, splice, chunk, Option.getD_some, Option.getD_none, Int.toNat_natCast, Int.toNat_zero, Nat.sub_zero, List.take_succ_cons, List.take_zero, List.drop_succ_cons, List.drop_zero, List.length_cons, List.length_nil, List.set_cons_succ, List.set_cons_zero, encD, List.length_map]
      refine k_block ?_
      refine k_loopO (X := Nat × List UInt8) 184 [6, 26] (fun x => [(26, vv (.int .i64 (x.1 : Int))), (6, vv (str x.2))]) [] (fun x => []) (fun x => x.1 ≤ d.W.length ∧ x.2 = (d.W.take x.1).foldl (fun s x => if x.1 = i then x.2 else s) s0) (fun x => d.W.length - x.1) (0, s0) ⟨Nat.zero_le _, rfl⟩ ?_ ?_
      · exact weak_to h0 (Nat.le_of_ble_eq_true rfl) (by (repeat (first | exact trivial | refine ⟨⟨_, rfl, Imp.refl _⟩, (by first | trivial | (show _ < _; exact lt_ble rfl) | exact bel_cStr _ _ | exact bel_cB _ _ | (show belowL _ _; (repeat (first | exact trivial | (show _ < _; exact lt_ble rfl) | refine ⟨?_, ?_⟩)); done) |  decide | simp [AV.bel, C.bel, belowL, belowL_i, belowA, encD, bel_cStr]), ?_⟩))) (by (repeat (first | exact trivial | refine ⟨rfl, lt_ble rfl, (by first | trivial | (show _ < _; exact lt_ble rfl) | exact bel_cStr _ _ | exact bel_cB _ _ | (show belowL _ _; (repeat (first | exact trivial | (show _ < _; exact lt_ble rfl) | refine ⟨?_, ?_⟩)); done) |  decide | simp [AV.bel, C.bel, belowL, belowL_i, belowA, R.bel, encD, bel_cStr]), ?_⟩))) rfl
      · rintro ⟨k, s⟩ ⟨hk, hs⟩
        conv => enter [4]; simp only [nrm_, List.mem_cons, List.not_mem_nil, List.filterMap_cons, List.filterMap_nil, List.cons_append, List.nil_append, ↓reduceIte, Nat.reduceEqDiff, or_false, or_true, false_or, List.map_cons, List.map_nil, Option.map_some, Option.map_none, Nat.reduceAdd, Nat.reduceMul, splice, chunk, Option.getD_some, Option.getD_none, Int.toNat_natCast, Int.toNat_zero, Nat.sub_zero, List.take_succ_cons, List.take_zero, List.drop_succ_cons, List.drop_zero, List.length_cons, List.length_nil, List.set_cons_succ, List.set_cons_zero, encD, List.length_map]
        simp only at hk hs
        refine k_seq ?_
        apply k_reg [1, 2, 6, 25, 26, 27] 192 
        · kernel_rfl
        · apply Exec.cons
          · exact s_bin rfl rfl rfl rfl rfl
          exact Exec.nil _ _
        conv => enter [4]; simp only [nrm_, List.mem_cons, List.not_mem_nil, List.filterMap_cons, List.filterMap_nil, List.cons_append, List.nil_append, ↓reduceIte, Nat.reduceEqDiff, or_false, or_true, false_or, List.map_cons, List.map_nil, Option.map_some, Option.map_none, Nat.reduceAdd, Nat.reduceMul, splice, chunk, Option.getD_some, Option.getD_none, Int.toNat_natCast, Int.toNat_zero, Nat.sub_zero, List.take_succ_cons, List.take_zero, List.drop_succ_cons, List.drop_zero, List.length_cons, List.length_nil, List.set_cons_succ, List.set_cons_zero, encD, List.length_map]
        refine k_seq ?_
        refine k_cond rfl (fun hb => ?_) (fun hb => ?_)
        · skip
          have hlt : k < d.W.length := by simpa using hb
          obtain ⟨x, hw⟩ : ∃ x, d.W[k]? = some x := ⟨_, List.getElem?_eq_getElem hlt⟩
          refine k_skip ?_
          refine k_seq ?_
          refine k_block ?_
          refine k_seq ?_
          apply k_reg [1, 2, 6, 7, 25, 26] 208 
          · kernel_rfl
          · apply Exec.cons
            · exact s_move rfl rfl rfl
            apply Exec.cons
            · exact s_assign rfl rfl rfl
            exact Exec.nil _ _
          conv => enter [4]; simp only [nrm_, List.mem_cons, List.not_mem_nil, List.filterMap_cons, List.filterMap_nil, List.cons_append, List.nil_append, ↓reduceIte, Nat.reduceEqDiff, or_false, or_true, false_or, List.map_cons, List.map_nil, Option.map_some, Option.map_none, Nat.reduceAdd, Nat.reduceMul, splice, chunk, Option.getD_some, Option.getD_none, Int.toNat_natCast, Int.toNat_zero, Nat.sub_zero, List.take_succ_cons, List.take_zero, List.drop_succ_cons, List.drop_zero, List.length_cons, List.length_nil, List.set_cons_succ, List.set_cons_zero, encD, List.length_map]
          refine k_seq ?_
          apply k_reg [1, 2, 6, 7, 25, 26, 36] 272 
          · kernel_rfl
          · apply Exec.cons
            · first | exact s_fieldAddr rfl fld34_3 rfl | exact s_fieldAddre rfl fld34_3 rfl
            apply Exec.cons
            · first | exact s_load rfl rfl one31 rfl rfl | exact s_load_row rfl rfl one31 (by first | rfl | assumption | (simp; done)) rfl | exact s_loade' rfl (rowAt (by assumption)) one31 rfl rfl | exact s_loade rfl one31 rfl rfl
            apply Exec.cons
            · exact s_move rfl rfl rfl
            apply Exec.cons
            · first | exact s_indexAddr Try.underlying31 sz68 rfl (by first | exact ImpC.refl _ | exact impC_tok _ _ _ | exact impC_nn _ _ | exact impC_nilk _ _) rfl (by first | omega | (simp [chunk]; done) | (simp [chunk]; omega)) (by first | omega | (simp [chunk]; done) | (simp [chunk]; omega)) rfl | exact s_indexAddr_own1 Try.underlying31 sz68 rfl rfl rfl (by first | omega | (simp [chunk]; done) | (simp [chunk]; omega)) (by first | omega | (simp [chunk]; done) | (simp [chunk]; omega)) rfl
            apply Exec.cons
            · first | exact s_fieldAddr rfl fld68_0 rfl | exact s_fieldAddre rfl fld68_0 rfl
            apply Exec.cons
            · first | exact s_load rfl rfl one3 rfl rfl | exact s_load_row rfl rfl one3 (by first | rfl | assumption | (simp; done)) rfl | exact s_loade' rfl (rowAt (by assumption)) one3 rfl rfl | exact s_loade rfl one3 rfl rfl
            apply Exec.cons
            · exact s_move rfl rfl rfl
            apply Exec.cons
            · exact s_bin rfl rfl rfl rfl rfl
            exact Exec.nil _ _
          conv => enter [4]; simp only [nrm_, List.mem_cons, List.not_mem_nil, List.filterMap_cons, List.filterMap_nil, List.cons_append, List.nil_append, ↓reduceIte, Nat.reduceEqDiff, or_false, or_true, false_or, List.map_cons, List.map_nil, Option.map_some, Option.map_none, Nat.reduceAdd, Nat.reduceMul, splice, chunk, Option.getD_some, Option.getD_none, Int.toNat_natCast, Int.toNat_zero, Nat.sub_zero, List.take_succ_cons, List.take_zero, List.drop_succ_cons, List.drop_zero, List.length_cons, List.length_nil, List.set_cons_succ, List.set_cons_zero, encD, List.length_map]
          refine k_cond rfl (fun hb => ?_) (fun hb => ?_)
          · skip
            have heq : x.1 = i := by simpa using hb
            apply k_regl 328 
            · kernel_rfl
            · apply Exec.cons
              · first | exact s_fieldAddr rfl fld34_3 rfl | exact s_fieldAddre rfl fld34_3 rfl
              apply Exec.cons
              · first | exact s_load rfl rfl one31 rfl rfl | exact s_load_row rfl rfl one31 (by first | rfl | assumption | (simp; done)) rfl | exact s_loade' rfl (rowAt (by assumption)) one31 rfl rfl | exact s_loade rfl one31 rfl rfl
              apply Exec.cons
              · exact s_move rfl rfl rfl
              apply Exec.cons
              · first | exact s_indexAddr Try.underlying31 sz68 rfl (by first | exact ImpC.refl _ | exact impC_tok _ _ _ | exact impC_nn _ _ | exact impC_nilk _ _) rfl (by first | omega | (simp [chunk]; done) | (simp [chunk]; omega)) (by first | omega | (simp [chunk]; done) | (simp [chunk]; omega)) rfl | exact s_indexAddr_own1 Try.underlying31 sz68 rfl rfl rfl (by first | omega | (simp [chunk]; done) | (simp [chunk]; omega)) (by first | omega | (simp [chunk]; done) | (simp [chunk]; omega)) rfl
              apply Exec.cons
              · first | exact s_fieldAddr rfl fld68_1 rfl | exact s_fieldAddre rfl fld68_1 rfl
              apply Exec.cons
              · first | exact s_load rfl rfl one9 rfl rfl | exact s_load_row rfl rfl one9 (by first | rfl | assumption | (simp; done)) rfl | exact s_loade' rfl (rowAt (by assumption)) one9 rfl rfl | exact s_loade rfl one9 rfl rfl
              apply Exec.cons
              · exact s_assign rfl rfl rfl
              exact Exec.nil _ _
            try (refine k_keep [1, 2, 6, 25, 26] ?_; conv => enter [4]; simp only [nrm_, List.mem_cons, List.not_mem_nil, List.filterMap_cons, List.filterMap_nil, List.cons_append, List.nil_append, ↓reduceIte, Nat.reduceEqDiff, or_false, or_true, false_or, List.map_cons, List.map_nil, Option.map_some, Option.map_none, Nat.reduceAdd, Nat.reduceMul, splice, chunk, Option.getD_some, Option.getD_none, Int.toNat_natCast, Int.toNat_zero, Nat.sub_zero, List.take_succ_cons, List.take_zero, List.drop_succ_cons, List.drop_zero, List.length_cons, List.length_nil, List.set_cons_succ, List.set_cons_zero, encD, List.length_map])
            apply k_regl 344 
            · kernel_rfl
            · apply Exec.cons
              · first | exact s_add rfl rfl (in_i64 (by omega) (by omega)) rfl | exact s_bin rfl rfl rfl rfl rfl
              apply Exec.cons
              · exact s_move rfl rfl rfl
              exact Exec.nil _ _
            try (refine k_keep [1, 2, 6, 25, 26] ?_; conv => enter [4]; simp only [nrm_, List.mem_cons, List.not_mem_nil, List.filterMap_cons, List.filterMap_nil, List.cons_append, List.nil_append, ↓reduceIte, Nat.reduceEqDiff, or_false, or_true, false_or, List.map_cons, List.map_nil, Option.map_some, Option.map_none, Nat.reduceAdd, Nat.reduceMul, splice, chunk, Option.getD_some, Option.getD_none, Int.toNat_natCast, Int.toNat_zero, Nat.sub_zero, List.take_succ_cons, List.take_zero, List.drop_succ_cons, List.drop_zero, List.length_cons, List.length_nil, List.set_cons_succ, List.set_cons_zero, encD, List.length_map])
            exact ⟨(k + 1, x.2), ⟨by simp only; omega, by simp only; rw [List.take_add_one, hw, Option.toList_some, List.foldl_append, ← hs]; simp [heq]⟩, by simp only; omega, weak_to h0 (Nat.le_of_ble_eq_true rfl) (by (repeat (first | exact trivial | refine ⟨⟨_, rfl, Imp.refl _⟩, (by first | trivial | (show _ < _; exact lt_ble rfl) | exact bel_cStr _ _ | exact bel_cB _ _ | (show belowL _ _; (repeat (first | exact trivial | (show _ < _; exact lt_ble rfl) | refine ⟨?_, ?_⟩)); done) |  decide | simp [AV.bel, C.bel, belowL, belowL_i, belowA, encD, bel_cStr]), ?_⟩))) (by (repeat (first | exact trivial | refine ⟨rfl, lt_ble rfl, (by first | trivial | (show _ < _; exact lt_ble rfl) | exact bel_cStr _ _ | exact bel_cB _ _ | (show belowL _ _; (repeat (first | exact trivial | (show _ < _; exact lt_ble rfl) | refine ⟨?_, ?_⟩)); done) |  decide | simp [AV.bel, C.bel, belowL, belowL_i, belowA, R.bel, encD, bel_cStr]), ?_⟩))) rfl⟩
          · skip
            have heq : ¬ x.1 = i := by simpa using hb
            refine k_skip ?_
            refine k_nil ?_
            apply k_regl 288 
            · kernel_rfl
            · apply Exec.cons
              · first | exact s_add rfl rfl (in_i64 (by omega) (by omega)) rfl | exact s_bin rfl rfl rfl rfl rfl
              apply Exec.cons
              · exact s_move rfl rfl rfl
              exact Exec.nil _ _
            try (refine k_keep [1, 2, 6, 25, 26] ?_; conv => enter [4]; simp only [nrm_, List.mem_cons, List.not_mem_nil, List.filterMap_cons, List.filterMap_nil, List.cons_append, List.nil_append, ↓reduceIte, Nat.reduceEqDiff, or_false, or_true, false_or, List.map_cons, List.map_nil, Option.map_some, Option.map_none, Nat.reduceAdd, Nat.reduceMul, splice, chunk, Option.getD_some, Option.getD_none, Int.toNat_natCast, Int.toNat_zero, Nat.sub_zero, List.take_succ_cons, List.take_zero, List.drop_succ_cons, List.drop_zero, List.length_cons, List.length_nil, List.set_cons_succ, List.set_cons_zero, encD, List.length_map])
            exact ⟨(k + 1, s), ⟨by simp only; omega, by simp only; rw [List.take_add_one, hw, Option.toList_some, List.foldl_append, ← hs]; simp [heq]⟩, by simp only; omega, weak_to h0 (Nat.le_of_ble_eq_true rfl) (by (repeat (first | exact trivial | refine ⟨⟨_, rfl, Imp.refl _⟩, (by first | trivial | (show _ < _; exact lt_ble rfl) | exact bel_cStr _ _ | exact bel_cB _ _ | (show belowL _ _; (repeat (first | exact trivial | (show _ < _; exact lt_ble rfl) | refine ⟨?_, ?_⟩)); done) |  decide | simp [AV.bel, C.bel, belowL, belowL_i, belowA, encD, bel_cStr]), ?_⟩))) (by (repeat (first | exact trivial | refine ⟨rfl, lt_ble rfl, (by first | trivial | (show _ < _; exact lt_ble rfl) | exact bel_cStr _ _ | exact bel_cB _ _ | (show belowL _ _; (repeat (first | exact trivial | (show _ < _; exact lt_ble rfl) | refine ⟨?_, ?_⟩)); done) |  decide | simp [AV.bel, C.bel, belowL, belowL_i, belowA, R.bel, encD, bel_cStr]), ?_⟩))) rfl⟩
        · skip
          have hge : ¬ k < d.W.length := by simpa using hb
          obtain rfl : k = d.W.length := by omega
          rw [List.take_length] at hs
          refine k_exit rfl ?_
          refine k_seq ?_
          apply k_reg [4, 5] 216 
          · kernel_rfl
          · apply Exec.cons
            · exact s_move rfl rfl rfl
            apply Exec.cons
            · exact s_assign rfl rfl rfl
            apply Exec.cons
            · exact s_assign rfl rfl rfl
            exact Exec.nil _ _
          conv => enter [4]; simp only [nrm_, List.mem_cons, List.not_mem_nil, List.filterMap_cons, List.filterMap_nil, List.cons_append, List.nil_append, ↓reduceIte, Nat.reduceEqDiff, or_false, or_true, false_or, List.map_cons, List.map_nil, Option.map_some, Option.map_none, Nat.reduceAdd, Nat.reduceMul, splice, chunk, Option.getD_some, Option.getD_none, Int.toNat_natCast, Int.toNat_zero, Nat.sub_zero, List.take_succ_cons, List.take_zero, List.drop_succ_cons, List.drop_zero, List.length_cons, List.length_nil, List.set_cons_succ, List.set_cons_zero, encD, List.length_map]
          refine k_ret ?_
          exact fin_val (.cons (.tmp rfl) (.cons (.tmp rfl) .nil)) ((Imp.tup (.cons (imp_eq (by rw [RD.read, if_neg ho, if_neg (by omega), hs, List.getD_eq_getElem?_getD, hs0]; rfl)) (.cons (imp_eq (by rw [RD.read, if_neg ho, if_neg (by omega)])) .nil)))) (by first | trivial | simp [AV.bel, C.bel, belowL, belowL_i, belowA, encD, bel_cStr])

set_option maxRecDepth 100000 in
set_option maxHeartbeats 400000 in
theorem rp_settled (d : RD) (l : List (Int × List UInt8)) (hr : ∀ x ∈ l, 0 ≤ x.1 ∧ x.1 < d.K.length) (hK : d.K.length ≤ 4096) (hl : l.length ≤ 1000000) : FnSpec Try.prog 30 0 0 [.agg (encD d), .c (.i (.sl 2 (l.map eW)))] [] (.agg (encD (d.settled l))) [] := by
  refine fn_specK Try.func30 rfl (Nat.le_of_ble_eq_true rfl) (by (first | trivial | (show _ < _; exact lt_ble rfl) | exact bel_cStr _ _ | exact bel_cB _ _ | (show belowL _ _; (repeat (first | exact trivial | (show _ < _; exact lt_ble rfl) | refine ⟨?_, ?_⟩)); done) |  decide | (simp [belowA, AV.bel, C.bel, belowL, belowL_i, heapBelow, R.bel, encD, bel_cStr]; done) | (intro p hp; simp at hp))) (by (first | trivial | (show _ < _; exact lt_ble rfl) | exact bel_cStr _ _ | exact bel_cB _ _ | (show belowL _ _; (repeat (first | exact trivial | (show _ < _; exact lt_ble rfl) | refine ⟨?_, ?_⟩)); done) |  decide | (simp [belowA, AV.bel, C.bel, belowL, belowL_i, heapBelow, R.bel, encD, bel_cStr]; done) | (intro p hp; simp at hp))) (by (first | trivial | (show _ < _; exact lt_ble rfl) | exact bel_cStr _ _ | exact bel_cB _ _ | (show belowL _ _; (repeat (first | exact trivial | (show _ < _; exact lt_ble rfl) | refine ⟨?_, ?_⟩)); done) |  decide | (simp [belowA, AV.bel, C.bel, belowL, belowL_i, heapBelow, R.bel, encD, bel_cStr]; done) | (intro p hp; simp at hp))) (by (first | trivial | (show _ < _; exact lt_ble rfl) | exact bel_cStr _ _ | exact bel_cB _ _ | (show belowL _ _; (repeat (first | exact trivial | (show _ < _; exact lt_ble rfl) | refine ⟨?_, ?_⟩)); done) |  decide | (simp [belowA, AV.bel, C.bel, belowL, belowL_i, heapBelow, R.bel, encD, bel_cStr]; done) | (intro p hp; simp at hp))) (by decide) (fun E h0 => ?_)
  refine k_seq ?_
  apply k_reg [1, 2, 4] 16 
  · kernel_rfl
  · apply Exec.cons
    · exact s_box rfl rfl rfl rfl
    apply Exec.cons
    · exact s_alloc zero34 zok34 rfl
    exact Exec.nil _ _
  conv => enter [4]; simp only [nrm_, List.mem_cons, List.not_mem_nil, List.filterMap_cons, List.filterMap_nil, List.cons_append, List.nil_append, ↓reduceIte, Nat.reduceEqDiff, or_false, or_true, false_or, List.map_cons, List.map_nil, Option.map_some, Option.map_none, Nat.reduceAdd, Nat.reduceMul, splice, chunk, Option.getD_some, Option.getD_none, Int.toNat_natCast, Int.toNat_zero, Nat.sub_zero, List.take_succ_cons, List.take_zero, List.drop_succ_cons, List.drop_zero, List.length_cons, List.length_nil, List.set_cons_succ, List.set_cons_zero, encD, List.length_map, flat_eStr, set_cStr, sub_, zc34]
  refine k_seq ?_
  apply k_reg [1, 2, 4, 5] 56 
  · kernel_rfl
  · apply Exec.cons
    · exact s_buildSlice elem30 zero9 zok9 rfl rfl rfl rfl rfl rfl (by decide) rfl
    apply Exec.cons
    · first | exact s_fieldAddr rfl fld34_2 rfl | exact s_fieldAddre rfl fld34_2 rfl
    apply Exec.cons
    · first | exact s_load rfl rfl one30 rfl rfl | exact s_load_row rfl rfl one30 (by first | rfl | assumption | (simp; done)) rfl | exact s_loade' rfl (rowAt (by assumption)) one30 rfl rfl | exact s_loade rfl one30 rfl rfl
    apply Exec.cons
    · exact s_append_own elem30 rfl rfl rfl (by first | exact ImpC.refl _ | exact impC_tok _ _ _ | exact impC_nn _ _ | exact impC_nilk _ _) (by first | omega | (simp [chunk]; done) | (simp [chunk]; omega)) rfl
    apply Exec.cons
    · exact s_assign rfl rfl rfl
    exact Exec.nil _ _
  conv => enter [4]; simp only [nrm_, List.mem_cons, List.not_mem_nil, List.filterMap_cons, List.filterMap_nil, List.cons_append, List.nil_append, ↓reduceIte, Nat.reduceEqDiff, or_false, or_true, false_or, List.map_cons, List.map_nil, Option.map_some, Option.map_none, Nat.reduceAdd, Nat.reduceMul, splice, chunk, Option.getD_some, Option.getD_none, Int.toNat_natCast, Int.toNat_zero, Nat.sub_zero, List.take_succ_cons, List.take_zero, List.drop_succ_cons, List.drop_zero, List.length_cons, List.length_nil, List.set_cons_succ, List.set_cons_zero, encD, List.length_map, flat_eStr, set_cStr, sub_, zc34]
  refine k_seq ?_
  refine k_seq ?_
  apply k_reg [1, 2, 4, 5, 12, 13] 80 
  · kernel_rfl
  · apply Exec.cons
    · exact s_move rfl rfl rfl
    apply Exec.cons
    · first | exact s_len Try.underlying31 rfl (by first | exact ImpC.refl _ | exact impC_tok _ _ _ | exact impC_nn _ _ | exact impC_nilk _ _) rfl | exact s_len_own1 Try.underlying31 rfl rfl rfl
    apply Exec.cons
    · exact s_move rfl rfl rfl
    exact Exec.nil _ _
  conv => enter [4]; simp only [nrm_, List.mem_cons, List.not_mem_nil, List.filterMap_cons, List.filterMap_nil, List.cons_append, List.nil_append, ↓reduceIte, Nat.reduceEqDiff, or_false, or_true, false_or, List.map_cons, List.map_nil, Option.map_some, Option.map_none, Nat.reduceAdd, Nat.reduceMul, splice, chunk, Option.getD_some, Option.getD_none, Int.toNat_natCast, Int.toNat_zero, Nat.sub_zero, List.take_succ_cons, List.take_zero, List.drop_succ_cons, List.drop_zero, List.length_cons, List.length_nil, List.set_cons_succ, List.set_cons_zero, encD, List.length_map, flat_eStr, set_cStr, sub_, zc34]
  refine k_block ?_
  refine k_loopO (X := Nat × List (List UInt8)) 80 [13] (fun x => [(13, vv (.int .i64 (x.1 : Int)))]) [40] (fun x => [(40, some (.row 9 1 (x.2.map cStr)))]) (fun x => x.1 ≤ l.length ∧ x.2 = setAll d.K (l.take x.1)) (fun x => l.length - x.1) (0, d.K) ⟨Nat.zero_le _, rfl⟩ ?_ ?_
  · exact weak_to h0 (Nat.le_of_ble_eq_true rfl) (by (repeat (first | exact trivial | refine ⟨⟨_, rfl, Imp.refl _⟩, (by first | trivial | (show _ < _; exact lt_ble rfl) | exact bel_cStr _ _ | exact bel_cB _ _ | (show belowL _ _; (repeat (first | exact trivial | (show _ < _; exact lt_ble rfl) | refine ⟨?_, ?_⟩)); done) |  decide | simp [AV.bel, C.bel, belowL, belowL_i, belowA, encD, bel_cStr]), ?_⟩))) (by (repeat (first | exact trivial | refine ⟨rfl, lt_ble rfl, (by first | trivial | (show _ < _; exact lt_ble rfl) | exact bel_cStr _ _ | exact bel_cB _ _ | (show belowL _ _; (repeat (first | exact trivial | (show _ < _; exact lt_ble rfl) | refine ⟨?_, ?_⟩)); done) |  decide | simp [AV.bel, C.bel, belowL, belowL_i, belowA, R.bel, encD, bel_cStr]), ?_⟩))) rfl
  · rintro ⟨k, L⟩ ⟨hk, hL⟩
    conv => enter [4]; simp only [nrm_, List.mem_cons, List.not_mem_nil, List.filterMap_cons, List.filterMap_nil, List.cons_append, List.nil_append, ↓reduceIte, Nat.reduceEqDiff, or_false, or_true, false_or, List.map_cons, List.map_nil, Option.map_some, Option.map_none, Nat.reduceAdd, Nat.reduceMul, splice, chunk, Option.getD_some, Option.getD_none, Int.toNat_natCast, Int.toNat_zero, Nat.sub_zero, List.take_succ_cons, List.take_zero, List.drop_succ_cons, List.drop_zero, List.length_cons, List.length_nil, List.set_cons_succ, List.set_cons_zero, encD, List.length_map, flat_eStr, set_cStr, sub_, zc34]
    simp only at hk hL
    refine k_seq ?_
    apply k_reg [1, 2, 4, 5, 12, 13, 14] 88 
    · kernel_rfl
    · apply Exec.cons
      · exact s_bin rfl rfl rfl rfl rfl
      exact Exec.nil _ _
    conv => enter [4]; simp only [nrm_, List.mem_cons, List.not_mem_nil, List.filterMap_cons, List.filterMap_nil, List.cons_append, List.nil_append, ↓reduceIte, Nat.reduceEqDiff, or_false, or_true, false_or, List.map_cons, List.map_nil, Option.map_some, Option.map_none, Nat.reduceAdd, Nat.reduceMul, splice, chunk, Option.getD_some, Option.getD_none, Int.toNat_natCast, Int.toNat_zero, Nat.sub_zero, List.take_succ_cons, List.take_zero, List.drop_succ_cons, List.drop_zero, List.length_cons, List.length_nil, List.set_cons_succ, List.set_cons_zero, encD, List.length_map, flat_eStr, set_cStr, sub_, zc34]
    refine k_seq ?_
    refine k_cond rfl (fun hb => ?_) (fun hb => ?_)
    · skip
      have hlt : k < l.length := by simpa using hb
      obtain ⟨x, hw⟩ : ∃ x, l[k]? = some x := ⟨_, List.getElem?_eq_getElem hlt⟩
      have hLl : L.length = d.K.length := by rw [hL, setAll_length]
      obtain ⟨hx0, hx1⟩ := hr x (List.mem_of_getElem? hw)
      refine k_skip ?_
      refine k_seq ?_
      refine k_block ?_
      refine k_seq ?_
      apply k_reg [1, 2, 4, 5, 6, 12, 13] 104 
      · kernel_rfl
      · apply Exec.cons
        · exact s_move rfl rfl rfl
        apply Exec.cons
        · exact s_assign rfl rfl rfl
        exact Exec.nil _ _
      conv => enter [4]; simp only [nrm_, List.mem_cons, List.not_mem_nil, List.filterMap_cons, List.filterMap_nil, List.cons_append, List.nil_append, ↓reduceIte, Nat.reduceEqDiff, or_false, or_true, false_or, List.map_cons, List.map_nil, Option.map_some, Option.map_none, Nat.reduceAdd, Nat.reduceMul, splice, chunk, Option.getD_some, Option.getD_none, Int.toNat_natCast, Int.toNat_zero, Nat.sub_zero, List.take_succ_cons, List.take_zero, List.drop_succ_cons, List.drop_zero, List.length_cons, List.length_nil, List.set_cons_succ, List.set_cons_zero, encD, List.length_map, flat_eStr, set_cStr, sub_, zc34]
      apply k_dregl 208 mixed
      · kernel_rfl
      · apply Exec.cons
        · exact s_move rfl rfl rfl
        apply Exec.cons
        · exact s_move rfl rfl rfl
        apply Exec.cons
        · exact s_move rfl rfl rfl
        apply Exec.cons
        · first | exact s_indexAddr Try.underlying31 sz68 rfl (by first | exact ImpC.refl _ | exact impC_tok _ _ _ | exact impC_nn _ _ | exact impC_nilk _ _) rfl (by first | omega | (simp [chunk]; done) | (simp [chunk]; omega)) (by first | omega | (simp [chunk]; done) | (simp [chunk]; omega)) rfl | exact s_indexAddr_own1 Try.underlying31 sz68 rfl rfl rfl (by first | omega | (simp [chunk]; done) | (simp [chunk]; omega)) (by first | omega | (simp [chunk]; done) | (simp [chunk]; omega)) rfl
        apply Exec.cons
        · first | exact s_fieldAddr rfl fld68_0 rfl | exact s_fieldAddre rfl fld68_0 rfl
        apply Exec.cons
        · first | exact s_load rfl rfl one3 rfl rfl | exact s_load_row rfl rfl one3 (by first | rfl | assumption | (simp; done)) rfl | exact s_loade' rfl (rowAt (by assumption)) one3 rfl rfl | exact s_loade rfl one3 rfl rfl
        apply Exec.cons
        · exact s_move rfl rfl rfl
        apply Exec.cons
        · exact s_move rfl rfl rfl
        apply Exec.cons
        · first | exact s_indexAddr Try.underlying31 sz68 rfl (by first | exact ImpC.refl _ | exact impC_tok _ _ _ | exact impC_nn _ _ | exact impC_nilk _ _) rfl (by first | omega | (simp [chunk]; done) | (simp [chunk]; omega)) (by first | omega | (simp [chunk]; done) | (simp [chunk]; omega)) rfl | exact s_indexAddr_own1 Try.underlying31 sz68 rfl rfl rfl (by first | omega | (simp [chunk]; done) | (simp [chunk]; omega)) (by first | omega | (simp [chunk]; done) | (simp [chunk]; omega)) rfl
        apply Exec.cons
        · first | exact s_fieldAddr rfl fld68_1 rfl | exact s_fieldAddre rfl fld68_1 rfl
        apply Exec.cons
        · first | exact s_load rfl rfl one9 rfl rfl | exact s_load_row rfl rfl one9 (by first | rfl | assumption | (simp; done)) rfl | exact s_loade' rfl (rowAt (by assumption)) one9 rfl rfl | exact s_loade rfl one9 rfl rfl
        apply Exec.cons
        · first | exact s_indexAddr Try.underlying30 sz9 rfl (by first | exact ImpC.refl _ | exact impC_tok _ _ _ | exact impC_nn _ _ | exact impC_nilk _ _) rfl (by first | omega | (simp [chunk]; done) | (simp [chunk]; omega)) (by first | omega | (simp [chunk]; done) | (simp [chunk]; omega)) rfl | exact s_indexAddr_own1 Try.underlying30 sz9 rfl rfl rfl (by first | omega | (simp [chunk]; done) | (simp [chunk]; omega)) (by first | omega | (simp [chunk]; done) | (simp [chunk]; omega)) rfl
        apply Exec.cons
        · first | exact s_store_row rfl rfl rfl sz9 (by first | omega | (simp [chunk]; done) | (simp [chunk]; omega)) rfl | exact s_storeA rfl rfl rfl rfl sz9 rfl rfl rfl | exact s_store_all rfl rfl rfl sz9 rfl rfl rfl rfl | exact s_store rfl rfl rfl sz9 rfl rfl (Nat.le_of_ble_eq_true rfl) rfl rfl rfl
        exact Exec.nil _ _
      · kernel_rfl
      try (refine k_keep [1, 2, 4, 5, 12, 13] ?_; conv => enter [4]; simp only [nrm_, List.mem_cons, List.not_mem_nil, List.filterMap_cons, List.filterMap_nil, List.cons_append, List.nil_append, ↓reduceIte, Nat.reduceEqDiff, or_false, or_true, false_or, List.map_cons, List.map_nil, Option.map_some, Option.map_none, Nat.reduceAdd, Nat.reduceMul, splice, chunk, Option.getD_some, Option.getD_none, Int.toNat_natCast, Int.toNat_zero, Nat.sub_zero, List.take_succ_cons, List.take_zero, List.drop_succ_cons, List.drop_zero, List.length_cons, List.length_nil, List.set_cons_succ, List.set_cons_zero, encD, List.length_map, flat_eStr, set_cStr, sub_, zc34])
      apply k_regl 224 
      · kernel_rfl
      · apply Exec.cons
        · first | exact s_add rfl rfl (in_i64 (by omega) (by omega)) rfl | exact s_bin rfl rfl rfl rfl rfl
        apply Exec.cons
        · exact s_move rfl rfl rfl
        exact Exec.nil _ _
      try (refine k_keep [1, 2, 4, 5, 12, 13] ?_; conv => enter [4]; simp only [nrm_, List.mem_cons, List.not_mem_nil, List.filterMap_cons, List.filterMap_nil, List.cons_append, List.nil_append, ↓reduceIte, Nat.reduceEqDiff, or_false, or_true, false_or, List.map_cons, List.map_nil, Option.map_some, Option.map_none, Nat.reduceAdd, Nat.reduceMul, splice, chunk, Option.getD_some, Option.getD_none, Int.toNat_natCast, Int.toNat_zero, Nat.sub_zero, List.take_succ_cons, List.take_zero, List.drop_succ_cons, List.drop_zero, List.length_cons, List.length_nil, List.set_cons_succ, List.set_cons_zero, encD, List.length_map, flat_eStr, set_cStr, sub_, zc34])
      exact ⟨(k + 1, L.set x.1.toNat x.2), ⟨by simp only; omega, by simp only; rw [List.take_add_one, hw, hL]; simp [setAll, List.foldl_append]⟩, by simp only; omega, weak_to h0 (Nat.le_of_ble_eq_true rfl) (by (repeat (first | exact trivial | refine ⟨⟨_, rfl, Imp.refl _⟩, (by first | trivial | (show _ < _; exact lt_ble rfl) | exact bel_cStr _ _ | exact bel_cB _ _ | (show belowL _ _; (repeat (first | exact trivial | (show _ < _; exact lt_ble rfl) | refine ⟨?_, ?_⟩)); done) |  decide | simp [AV.bel, C.bel, belowL, belowL_i, belowA, encD, bel_cStr]), ?_⟩))) (by (repeat (first | exact trivial | refine ⟨rfl, lt_ble rfl, (by first | trivial | (show _ < _; exact lt_ble rfl) | exact bel_cStr _ _ | exact bel_cB _ _ | (show belowL _ _; (repeat (first | exact trivial | (show _ < _; exact lt_ble rfl) | refine ⟨?_, ?_⟩)); done) |  decide | simp [AV.bel, C.bel, belowL, belowL_i, belowA, R.bel, encD, bel_cStr]), ?_⟩))) rfl⟩
    · skip
      have hge : ¬ k < l.length := by simpa using hb
      obtain rfl : k = l.length := by omega
      rw [List.take_length] at hL
      refine k_exit rfl ?_
      refine k_seq ?_
      refine k_freeze 40 (L.map eStr) rfl (flat_eStr _).symm (eStr_len _) (by decide) ?_
      conv => enter [4]; simp only [nrm_, List.mem_cons, List.not_mem_nil, List.filterMap_cons, List.filterMap_nil, List.cons_append, List.nil_append, ↓reduceIte, Nat.reduceEqDiff, or_false, or_true, false_or, List.map_cons, List.map_nil, Option.map_some, Option.map_none, Nat.reduceAdd, Nat.reduceMul, splice, chunk, Option.getD_some, Option.getD_none, Int.toNat_natCast, Int.toNat_zero, Nat.sub_zero, List.take_succ_cons, List.take_zero, List.drop_succ_cons, List.drop_zero, List.length_cons, List.length_nil, List.set_cons_succ, List.set_cons_zero, encD, List.length_map, flat_eStr, set_cStr, sub_, zc34]
      apply k_reg [2, 4] 112 
      · kernel_rfl
      · apply Exec.cons
        · exact s_move rfl rfl rfl
        apply Exec.cons
        · first | exact s_fieldAddr rfl fld34_2 rfl | exact s_fieldAddre rfl fld34_2 rfl
        apply Exec.cons
        · first | exact s_store_row rfl rfl rfl sz30 (by first | omega | (simp [chunk]; done) | (simp [chunk]; omega)) rfl | exact s_storeA rfl rfl rfl rfl sz30 rfl rfl rfl | exact s_store_all rfl rfl rfl sz30 rfl rfl rfl rfl | exact s_store rfl rfl rfl sz30 rfl rfl (Nat.le_of_ble_eq_true rfl) rfl rfl rfl
        exact Exec.nil _ _
      conv => enter [4]; simp only [nrm_, List.mem_cons, List.not_mem_nil, List.filterMap_cons, List.filterMap_nil, List.cons_append, List.nil_append, ↓reduceIte, Nat.reduceEqDiff, or_false, or_true, false_or, List.map_cons, List.map_nil, Option.map_some, Option.map_none, Nat.reduceAdd, Nat.reduceMul, splice, chunk, Option.getD_some, Option.getD_none, Int.toNat_natCast, Int.toNat_zero, Nat.sub_zero, List.take_succ_cons, List.take_zero, List.drop_succ_cons, List.drop_zero, List.length_cons, List.length_nil, List.set_cons_succ, List.set_cons_zero, encD, List.length_map, flat_eStr, set_cStr, sub_, zc34]
      refine k_seq ?_
      apply k_reg [4] 128 
      · kernel_rfl
      · apply Exec.cons
        · first | exact s_load_all rfl rfl agg34 rfl | exact s_loade_all rfl (rowAt (by assumption)) agg34 rfl | exact s_load_agg rfl rfl agg34 rfl rfl rfl | exact s_loade_agg' rfl (rowAt (by assumption)) agg34 rfl rfl rfl | exact s_loade_agg rfl agg34 rfl rfl rfl
        apply Exec.cons
        · first | exact s_store_row rfl rfl rfl sz34 (by first | omega | (simp [chunk]; done) | (simp [chunk]; omega)) rfl | exact s_storeA rfl rfl rfl rfl sz34 rfl rfl rfl | exact s_store_all rfl rfl rfl sz34 rfl rfl rfl rfl | exact s_store rfl rfl rfl sz34 rfl rfl (Nat.le_of_ble_eq_true rfl) rfl rfl rfl
        exact Exec.nil _ _
      conv => enter [4]; simp only [nrm_, List.mem_cons, List.not_mem_nil, List.filterMap_cons, List.filterMap_nil, List.cons_append, List.nil_append, ↓reduceIte, Nat.reduceEqDiff, or_false, or_true, false_or, List.map_cons, List.map_nil, Option.map_some, Option.map_none, Nat.reduceAdd, Nat.reduceMul, splice, chunk, Option.getD_some, Option.getD_none, Int.toNat_natCast, Int.toNat_zero, Nat.sub_zero, List.take_succ_cons, List.take_zero, List.drop_succ_cons, List.drop_zero, List.length_cons, List.length_nil, List.set_cons_succ, List.set_cons_zero, encD, List.length_map, flat_eStr, set_cStr, sub_, zc34]
      refine k_ret ?_
      exact fin_val (.cons (by first | exact resOk_all rfl rfl agg34 | exact .agg rfl rfl agg34 rfl) .nil) ((imp_aggE (by repeat (first | exact ImpCs.nil | (apply ImpCs.cons; first | exact impC_tok _ _ _ | exact impC_nn _ _ | exact ImpC.refl _))) (by simp [encD, RD.settled, hL]))) (by first | trivial | simp [AV.bel, C.bel, belowL, belowL_i, belowA, encD, bel_cStr])

set_option maxRecDepth 100000 in
set_option maxHeartbeats 400000 in
theorem rp_write (d : RD) (ok : RDok d) (i : Int) (b : List UInt8) : FnSpec Try.prog 20 0 0 [.agg (encD d), vv (.int .i64 i), vv (str b)] [] (.tup [vv (.int .i64 (d.write i b).1), .agg (encD (d.write i b).2)]) [] := by
  refine fn_specK Try.func20 rfl (Nat.le_of_ble_eq_true rfl) (by (first | trivial | (show _ < _; exact lt_ble rfl) | exact bel_cStr _ _ | exact bel_cB _ _ | (show belowL _ _; (repeat (first | exact trivial | (show _ < _; exact lt_ble rfl) | refine ⟨?_, ?_⟩)); done) |  decide | (simp [belowA, AV.bel, C.bel, belowL, belowL_i, heapBelow, R.bel, encD, bel_cStr]; done) | (intro p hp; simp at hp))) (by (first | trivial | (show _ < _; exact lt_ble rfl) | exact bel_cStr _ _ | exact bel_cB _ _ | (show belowL _ _; (repeat (first | exact trivial | (show _ < _; exact lt_ble rfl) | refine ⟨?_, ?_⟩)); done) |  decide | (simp [belowA, AV.bel, C.bel, belowL, belowL_i, heapBelow, R.bel, encD, bel_cStr]; done) | (intro p hp; simp at hp))) (by (first | trivial | (show _ < _; exact lt_ble rfl) | exact bel_cStr _ _ | exact bel_cB _ _ | (show belowL _ _; (repeat (first | exact trivial | (show _ < _; exact lt_ble rfl) | refine ⟨?_, ?_⟩)); done) |  decide | (simp [belowA, AV.bel, C.bel, belowL, belowL_i, heapBelow, R.bel, encD, bel_cStr]; done) | (intro p hp; simp at hp))) (by (first | trivial | (show _ < _; exact lt_ble rfl) | exact bel_cStr _ _ | exact bel_cB _ _ | (show belowL _ _; (repeat (first | exact trivial | (show _ < _; exact lt_ble rfl) | refine ⟨?_, ?_⟩)); done) |  decide | (simp [belowA, AV.bel, C.bel, belowL, belowL_i, heapBelow, R.bel, encD, bel_cStr]; done) | (intro p hp; simp at hp))) (by decide) (fun E h0 => ?_)
  have hz := ok.z1
  have hWl := ok.Wl
  refine k_seq ?_
  apply k_reg [1, 2, 3, 7, 17, 18, 19, 20] 24 
  · kernel_rfl
  · apply Exec.cons
    · exact s_box rfl rfl rfl rfl
    apply Exec.cons
    · exact s_assign rfl rfl rfl
    apply Exec.cons
    · exact s_alloc zero34 zok34 rfl
    exact Exec.nil _ _
  conv => enter [4]; simp only [nrm_, List.mem_cons, List.not_mem_nil, List.filterMap_cons, List.filterMap_nil, List.cons_append, List.nil_append, ↓reduceIte, Nat.reduceEqDiff, or_false, or_true, false_or, List.map_cons, List.map_nil, Option.map_some, Option.map_none, Nat.reduceAdd, Nat.reduceMul, splice, chunk, Option.getD_some, Option.getD_none, Int.toNat_natCast, Int.toNat_zero, Nat.sub_zero, List.take_succ_cons, List.take_zero, List.drop_succ_cons, List.drop_zero, List.length_cons, List.length_nil, List.set_cons_succ, List.set_cons_zero, encD, List.length_map, snoc_eW, zc34, zc68]
  refine k_seq ?_
  refine k_seq ?_
  apply k_reg [1, 2, 3, 7, 12, 17, 18, 19, 20] 40 
  · kernel_rfl
  · apply Exec.cons
    · first | exact s_fieldAddr rfl fld34_4 rfl | exact s_fieldAddre rfl fld34_4 rfl
    apply Exec.cons
    · first | exact s_load rfl rfl one4 rfl rfl | exact s_load_row rfl rfl one4 (by first | rfl | assumption | (simp; done)) rfl | exact s_loade' rfl (rowAt (by assumption)) one4 rfl rfl | exact s_loade rfl one4 rfl rfl
    exact Exec.nil _ _
  conv => enter [4]; simp only [nrm_, List.mem_cons, List.not_mem_nil, List.filterMap_cons, List.filterMap_nil, List.cons_append, List.nil_append, ↓reduceIte, Nat.reduceEqDiff, or_false, or_true, false_or, List.map_cons, List.map_nil, Option.map_some, Option.map_none, Nat.reduceAdd, Nat.reduceMul, splice, chunk, Option.getD_some, Option.getD_none, Int.toNat_natCast, Int.toNat_zero, Nat.sub_zero, List.take_succ_cons, List.take_zero, List.drop_succ_cons, List.drop_zero, List.length_cons, List.length_nil, List.set_cons_succ, List.set_cons_zero, encD, List.length_map, snoc_eW, zc34, zc68]
  refine k_cond rfl (fun hb => ?_) (fun hb => ?_)
  · skip
    have ho : d.off = true := hb
    refine k_seq ?_
    apply k_dreg [6, 7] 64 mixed
    · kernel_rfl
    · apply Exec.cons
      · first | exact s_load_all rfl rfl agg34 rfl | exact s_loade_all rfl (rowAt (by assumption)) agg34 rfl | exact s_load_agg rfl rfl agg34 rfl rfl rfl | exact s_loade_agg' rfl (rowAt (by assumption)) agg34 rfl rfl rfl | exact s_loade_agg rfl agg34 rfl rfl rfl
      apply Exec.cons
      · exact s_assign rfl rfl rfl
      apply Exec.cons
      · first | exact s_store_row rfl rfl rfl sz34 (by first | omega | (simp [chunk]; done) | (simp [chunk]; omega)) rfl | exact s_storeA rfl rfl rfl rfl sz34 rfl rfl rfl | exact s_store_all rfl rfl rfl sz34 rfl rfl rfl rfl | exact s_store rfl rfl rfl sz34 rfl rfl (Nat.le_of_ble_eq_true rfl) rfl rfl rfl
      exact Exec.nil _ _
    · kernel_rfl
    conv => enter [4]; simp only [nrm_, List.mem_cons, List.not_mem_nil, List.filterMap_cons, List.filterMap_nil, List.cons_append, List.nil_append, ↓reduceIte, Nat.reduceEqDiff, or_false, or_true, false_or, List.map_cons, List.map_nil, Option.map_some, Option.map_none, Nat.reduceAdd, Nat.reduceMul, splice, chunk, Option.getD_some, Option.getD_none, Int.toNat_natCast, Int.toNat_zero, Nat.sub_zero, List.take_succ_cons, List.take_zero, List.drop_succ_cons, List.drop_zero, List.length_cons, List.length_nil, List.set_cons_succ, List.set_cons_zero, encD, List.length_map, snoc_eW, zc34, zc68]
    refine k_ret ?_
    exact fin_val (.cons (.tmp rfl) (.cons (by first | exact resOk_all rfl rfl agg34 | exact .agg rfl rfl agg34 rfl) .nil)) ((Imp.tup (.cons (imp_eq (by rw [RD.write, if_pos ho])) (.cons (imp_aggE (by repeat (first | exact ImpCs.nil | (apply ImpCs.cons; first | exact impC_tok _ _ _ | exact impC_nn _ _ | exact ImpC.refl _))) (by rw [RD.write, if_pos ho]; rfl)) .nil)))) (by first | trivial | simp [AV.bel, C.bel, belowL, belowL_i, belowA, encD, bel_cStr])
  · skip
    have ho : ¬ d.off = true := by rw [hb]; simp
    refine k_skip ?_
    refine k_seq ?_
    refine k_seq ?_
    apply k_reg [1, 2, 3, 7, 21] 104 
    · kernel_rfl
    · apply Exec.cons
      · exact s_move rfl rfl rfl
      apply Exec.cons
      · exact s_bin rfl rfl rfl rfl rfl
      apply Exec.cons
      · exact s_move rfl rfl rfl
      apply Exec.cons
      · exact s_guard (c := _) rfl rfl rfl (by first | exact hpre1 rfl | (intro _ _ h; simp [get] at h)) rfl (fun hb => s_move rfl rfl rfl)
      apply Exec.cons
      · first | exact s_guard (c := _) rfl rfl rfl (by first | exact hpre1 rfl | (intro _ _ h; simp [get] at h)) rfl (fun hb => s_fieldAddr rfl fld34_1 rfl) | exact s_guard (c := _) rfl rfl rfl (by first | exact hpre1 rfl | (intro _ _ h; simp [get] at h)) rfl (fun hb => s_fieldAddre rfl fld34_1 rfl)
      apply Exec.cons
      · first | exact s_guard (c := _) rfl rfl rfl (by first | exact hpre1 rfl | (intro _ _ h; simp [get] at h)) rfl (fun hb => s_load (evif (bv := .tup []) hb rfl) rfl one3 rfl rfl) | exact s_guard (c := _) rfl rfl rfl (by first | exact hpre1 rfl | (intro _ _ h; simp [get] at h)) rfl (fun hb => s_load_row (evif (bv := .tup []) hb rfl) rfl one3 (by first | rfl | assumption | (simp; done)) rfl) | exact s_guard (c := _) rfl rfl rfl (by first | exact hpre1 rfl | (intro _ _ h; simp [get] at h)) rfl (fun hb => s_loade' (evif (bv := .tup []) hb rfl) (rowAt (by assumption)) one3 rfl rfl) | exact s_guard (c := _) rfl rfl rfl (by first | exact hpre1 rfl | (intro _ _ h; simp [get] at h)) rfl (fun hb => s_loade (evif (bv := .tup []) hb rfl) one3 rfl rfl)
      apply Exec.cons
      · exact s_guard (c := _) rfl rfl rfl (by first | exact hpre1 rfl | (intro _ _ h; simp [get] at h)) rfl (fun hb => s_bin (evif (bv := .tup []) hb rfl) (evif (bv := .tup []) hb rfl) rfl rfl rfl)
      apply Exec.cons
      · first | exact s_or (bv := .tup []) rfl rfl rfl rfl | exact s_or rfl rfl rfl rfl | exact s_pick rfl rfl rfl (fun h => by simp [h]) (fun h => by simp [h]) rfl rfl rfl
      exact Exec.nil _ _
    conv => enter [4]; simp only [nrm_, List.mem_cons, List.not_mem_nil, List.filterMap_cons, List.filterMap_nil, List.cons_append, List.nil_append, ↓reduceIte, Nat.reduceEqDiff, or_false, or_true, false_or, List.map_cons, List.map_nil, Option.map_some, Option.map_none, Nat.reduceAdd, Nat.reduceMul, splice, chunk, Option.getD_some, Option.getD_none, Int.toNat_natCast, Int.toNat_zero, Nat.sub_zero, List.take_succ_cons, List.take_zero, List.drop_succ_cons, List.drop_zero, List.length_cons, List.length_nil, List.set_cons_succ, List.set_cons_zero, encD, List.length_map, snoc_eW, zc34, zc68]
    refine k_cond rfl (fun hb => ?_) (fun hb => ?_)
    · skip
      have hi : i < 0 ∨ (d.c : Int) ≤ i := by simpa using hb
      refine k_seq ?_
      apply k_dreg [6, 7] 128 mixed
      · kernel_rfl
      · apply Exec.cons
        · first | exact s_load_all rfl rfl agg34 rfl | exact s_loade_all rfl (rowAt (by assumption)) agg34 rfl | exact s_load_agg rfl rfl agg34 rfl rfl rfl | exact s_loade_agg' rfl (rowAt (by assumption)) agg34 rfl rfl rfl | exact s_loade_agg rfl agg34 rfl rfl rfl
        apply Exec.cons
        · exact s_assign rfl rfl rfl
        apply Exec.cons
        · first | exact s_store_row rfl rfl rfl sz34 (by first | omega | (simp [chunk]; done) | (simp [chunk]; omega)) rfl | exact s_storeA rfl rfl rfl rfl sz34 rfl rfl rfl | exact s_store_all rfl rfl rfl sz34 rfl rfl rfl rfl | exact s_store rfl rfl rfl sz34 rfl rfl (Nat.le_of_ble_eq_true rfl) rfl rfl rfl
        exact Exec.nil _ _
      · kernel_rfl
      conv => enter [4]; simp only [nrm_, List.mem_cons, List.not_mem_nil, List.filterMap_cons, List.filterMap_nil, List.cons_append, List.nil_append, ↓reduceIte, Nat.reduceEqDiff, or_false, or_true, false_or, List.map_cons, List.map_nil, Option.map_some, Option.map_none, Nat.reduceAdd, Nat.reduceMul, splice, chunk, Option.getD_some, Option.getD_none, Int.toNat_natCast, Int.toNat_zero, Nat.sub_zero, List.take_succ_cons, List.take_zero, List.drop_succ_cons, List.drop_zero, List.length_cons, List.length_nil, List.set_cons_succ, List.set_cons_zero, encD, List.length_map, snoc_eW, zc34, zc68]
      refine k_ret ?_
      exact fin_val (.cons (.tmp rfl) (.cons (by first | exact resOk_all rfl rfl agg34 | exact .agg rfl rfl agg34 rfl) .nil)) ((Imp.tup (.cons (imp_eq (by rw [RD.write, if_neg ho, if_pos hi])) (.cons (imp_aggE (by repeat (first | exact ImpCs.nil | (apply ImpCs.cons; first | exact impC_tok _ _ _ | exact impC_nn _ _ | exact ImpC.refl _))) (by rw [RD.write, if_neg ho, if_pos hi]; rfl)) .nil)))) (by first | trivial | simp [AV.bel, C.bel, belowL, belowL_i, belowA, encD, bel_cStr])
    · skip
      have hi : ¬ (i < 0 ∨ (d.c : Int) ≤ i) := by simpa using hb
      refine k_skip ?_
      refine k_seq ?_
      refine k_seq ?_
      apply k_reg [1, 2, 3, 7, 27] 144 
      · kernel_rfl
      · apply Exec.cons
        · exact s_move rfl rfl rfl
        apply Exec.cons
        · first | exact s_lenstr' Try.underlying9 rfl rfl | exact s_lenstr Try.underlying9 rfl rfl
        apply Exec.cons
        · first | exact s_fieldAddr rfl fld34_0 rfl | exact s_fieldAddre rfl fld34_0 rfl
        apply Exec.cons
        · first | exact s_load rfl rfl one3 rfl rfl | exact s_load_row rfl rfl one3 (by first | rfl | assumption | (simp; done)) rfl | exact s_loade' rfl (rowAt (by assumption)) one3 rfl rfl | exact s_loade rfl one3 rfl rfl
        apply Exec.cons
        · exact s_bin rfl rfl rfl rfl rfl
        exact Exec.nil _ _
      conv => enter [4]; simp only [nrm_, List.mem_cons, List.not_mem_nil, List.filterMap_cons, List.filterMap_nil, List.cons_append, List.nil_append, ↓reduceIte, Nat.reduceEqDiff, or_false, or_true, false_or, List.map_cons, List.map_nil, Option.map_some, Option.map_none, Nat.reduceAdd, Nat.reduceMul, splice, chunk, Option.getD_some, Option.getD_none, Int.toNat_natCast, Int.toNat_zero, Nat.sub_zero, List.take_succ_cons, List.take_zero, List.drop_succ_cons, List.drop_zero, List.length_cons, List.length_nil, List.set_cons_succ, List.set_cons_zero, encD, List.length_map, snoc_eW, zc34, zc68]
      refine k_cond rfl (fun hb => ?_) (fun hb => ?_)
      · skip
        have hs : b.length ≠ d.s := by simp at hb; omega
        refine k_seq ?_
        apply k_dreg [6, 7] 168 mixed
        · kernel_rfl
        · apply Exec.cons
          · first | exact s_load_all rfl rfl agg34 rfl | exact s_loade_all rfl (rowAt (by assumption)) agg34 rfl | exact s_load_agg rfl rfl agg34 rfl rfl rfl | exact s_loade_agg' rfl (rowAt (by assumption)) agg34 rfl rfl rfl | exact s_loade_agg rfl agg34 rfl rfl rfl
          apply Exec.cons
          · exact s_assign rfl rfl rfl
          apply Exec.cons
          · first | exact s_store_row rfl rfl rfl sz34 (by first | omega | (simp [chunk]; done) | (simp [chunk]; omega)) rfl | exact s_storeA rfl rfl rfl rfl sz34 rfl rfl rfl | exact s_store_all rfl rfl rfl sz34 rfl rfl rfl rfl | exact s_store rfl rfl rfl sz34 rfl rfl (Nat.le_of_ble_eq_true rfl) rfl rfl rfl
          exact Exec.nil _ _
        · kernel_rfl
        conv => enter [4]; simp only [nrm_, List.mem_cons, List.not_mem_nil, List.filterMap_cons, List.filterMap_nil, List.cons_append, List.nil_append, ↓reduceIte, Nat.reduceEqDiff, or_false, or_true, false_or, List.map_cons, List.map_nil, Option.map_some, Option.map_none, Nat.reduceAdd, Nat.reduceMul, splice, chunk, Option.getD_some, Option.getD_none, Int.toNat_natCast, Int.toNat_zero, Nat.sub_zero, List.take_succ_cons, List.take_zero, List.drop_succ_cons, List.drop_zero, List.length_cons, List.length_nil, List.set_cons_succ, List.set_cons_zero, encD, List.length_map, snoc_eW, zc34, zc68]
        refine k_ret ?_
        exact fin_val (.cons (.tmp rfl) (.cons (by first | exact resOk_all rfl rfl agg34 | exact .agg rfl rfl agg34 rfl) .nil)) ((Imp.tup (.cons (imp_eq (by rw [RD.write, if_neg ho, if_neg hi, if_pos hs])) (.cons (imp_aggE (by repeat (first | exact ImpCs.nil | (apply ImpCs.cons; first | exact impC_tok _ _ _ | exact impC_nn _ _ | exact ImpC.refl _))) (by rw [RD.write, if_neg ho, if_neg hi, if_pos hs]; rfl)) .nil)))) (by first | trivial | simp [AV.bel, C.bel, belowL, belowL_i, belowA, encD, bel_cStr])
      · skip
        have hs : ¬ b.length ≠ d.s := by simp at hb; omega
        refine k_skip ?_
        refine k_seq ?_
        apply k_reg [1, 2, 3, 7, 8] 184 
        · kernel_rfl
        · apply Exec.cons
          · exact s_buildSlice elem31 zero68 zok68 rfl rfl rfl rfl rfl rfl (by decide) rfl
          apply Exec.cons
          · first | exact s_fieldAddr rfl fld34_3 rfl | exact s_fieldAddre rfl fld34_3 rfl
          apply Exec.cons
          · first | exact s_load rfl rfl one31 rfl rfl | exact s_load_row rfl rfl one31 (by first | rfl | assumption | (simp; done)) rfl | exact s_loade' rfl (rowAt (by assumption)) one31 rfl rfl | exact s_loade rfl one31 rfl rfl
          apply Exec.cons
          · first | exact s_append elem31 rfl rfl rfl (by first | exact ImpC.refl _ | exact impC_tok _ _ _ | exact impC_nn _ _ | exact impC_nilk _ _) (by first | omega | (simp [chunk]; done) | (simp [chunk]; omega)) rfl | exact s_append_nil elem31 rfl rfl (by first | exact ImpC.refl _ | exact impC_tok _ _ _ | exact impC_nn _ _ | exact impC_nilk _ _) (by first | omega | (simp [chunk]; done) | (simp [chunk]; omega)) rfl
          apply Exec.cons
          · exact s_assign rfl rfl rfl
          exact Exec.nil _ _
        conv => enter [4]; simp only [nrm_, List.mem_cons, List.not_mem_nil, List.filterMap_cons, List.filterMap_nil, List.cons_append, List.nil_append, ↓reduceIte, Nat.reduceEqDiff, or_false, or_true, false_or, List.map_cons, List.map_nil, Option.map_some, Option.map_none, Nat.reduceAdd, Nat.reduceMul, splice, chunk, Option.getD_some, Option.getD_none, Int.toNat_natCast, Int.toNat_zero, Nat.sub_zero, List.take_succ_cons, List.take_zero, List.drop_succ_cons, List.drop_zero, List.length_cons, List.length_nil, List.set_cons_succ, List.set_cons_zero, encD, List.length_map, snoc_eW, zc34, zc68]
        refine k_seq ?_
        apply k_reg [3, 7] 248 
        · kernel_rfl
        · apply Exec.cons
          · exact s_move rfl rfl rfl
          apply Exec.cons
          · exact s_move rfl rfl rfl
          apply Exec.cons
          · exact s_move rfl rfl rfl
          apply Exec.cons
          · exact s_build str68 zok68 rfl rfl rfl rfl
          apply Exec.cons
          · exact s_buildSlice elem31 zero68 zok68 rfl rfl rfl rfl rfl rfl (by decide) rfl
          apply Exec.cons
          · first | exact s_append elem31 rfl rfl rfl (by first | exact ImpC.refl _ | exact impC_tok _ _ _ | exact impC_nn _ _ | exact impC_nilk _ _) (by first | omega | (simp [chunk]; done) | (simp [chunk]; omega)) rfl | exact s_append_nil elem31 rfl rfl (by first | exact ImpC.refl _ | exact impC_tok _ _ _ | exact impC_nn _ _ | exact impC_nilk _ _) (by first | omega | (simp [chunk]; done) | (simp [chunk]; omega)) rfl
          apply Exec.cons
          · first | exact s_fieldAddr rfl fld34_3 rfl | exact s_fieldAddre rfl fld34_3 rfl
          apply Exec.cons
          · first | exact s_store_row rfl rfl rfl sz31 (by first | omega | (simp [chunk]; done) | (simp [chunk]; omega)) rfl | exact s_storeA rfl rfl rfl rfl sz31 rfl rfl rfl | exact s_store_all rfl rfl rfl sz31 rfl rfl rfl rfl | exact s_store rfl rfl rfl sz31 rfl rfl (Nat.le_of_ble_eq_true rfl) rfl rfl rfl
          exact Exec.nil _ _
        conv => enter [4]; simp only [nrm_, List.mem_cons, List.not_mem_nil, List.filterMap_cons, List.filterMap_nil, List.cons_append, List.nil_append, ↓reduceIte, Nat.reduceEqDiff, or_false, or_true, false_or, List.map_cons, List.map_nil, Option.map_some, Option.map_none, Nat.reduceAdd, Nat.reduceMul, splice, chunk, Option.getD_some, Option.getD_none, Int.toNat_natCast, Int.toNat_zero, Nat.sub_zero, List.take_succ_cons, List.take_zero, List.drop_succ_cons, List.drop_zero, List.length_cons, List.length_nil, List.set_cons_succ, List.set_cons_zero, encD, List.length_map, snoc_eW, zc34, zc68]
        refine k_seq ?_
        apply k_reg [7, 9, 10] 312 
        · kernel_rfl
        · apply Exec.cons
          · first | exact s_load_all rfl rfl agg34 rfl | exact s_loade_all rfl (rowAt (by assumption)) agg34 rfl | exact s_load_agg rfl rfl agg34 rfl rfl rfl | exact s_loade_agg' rfl (rowAt (by assumption)) agg34 rfl rfl rfl | exact s_loade_agg rfl agg34 rfl rfl rfl
          apply Exec.cons
          · exact s_callv call36 (rp_burns { d with W := d.W ++ [(i, b)] } ok.z1) rfl rfl rfl (by first | exact Imps.refl _ | (repeat (first | exact Imps.nil | apply Imps.cons | exact Imp.refl _ | exact Imp.c (impC_tok _ _ _) | exact Imp.c (impC_nilk _ _) | (apply Imp.agg; (repeat (first | exact ImpCs.nil | (apply ImpCs.cons; first | exact impC_tok _ _ _ | exact impC_nn _ _ | exact ImpC.refl _))))))) (by first | trivial | simp [AV.bel, C.bel, belowL, belowL_i, belowA, encD, bel_cStr]) rfl
          apply Exec.cons
          · exact s_move rfl rfl rfl
          apply Exec.cons
          · exact s_extract rfl rfl rfl rfl
          apply Exec.cons
          · exact s_extract rfl rfl rfl rfl
          apply Exec.cons
          · exact s_alloc zero34 zok34 rfl
          apply Exec.cons
          · exact s_assign rfl rfl rfl
          apply Exec.cons
          · first | exact s_store_row rfl rfl rfl sz34 (by first | omega | (simp [chunk]; done) | (simp [chunk]; omega)) rfl | exact s_storeA rfl rfl rfl rfl sz34 rfl rfl rfl | exact s_store_all rfl rfl rfl sz34 rfl rfl rfl rfl | exact s_store rfl rfl rfl sz34 rfl rfl (Nat.le_of_ble_eq_true rfl) rfl rfl rfl
          exact Exec.nil _ _
        conv => enter [4]; simp only [nrm_, List.mem_cons, List.not_mem_nil, List.filterMap_cons, List.filterMap_nil, List.cons_append, List.nil_append, ↓reduceIte, Nat.reduceEqDiff, or_false, or_true, false_or, List.map_cons, List.map_nil, Option.map_some, Option.map_none, Nat.reduceAdd, Nat.reduceMul, splice, chunk, Option.getD_some, Option.getD_none, Int.toNat_natCast, Int.toNat_zero, Nat.sub_zero, List.take_succ_cons, List.take_zero, List.drop_succ_cons, List.drop_zero, List.length_cons, List.length_nil, List.set_cons_succ, List.set_cons_zero, encD, List.length_map, snoc_eW, zc34, zc68]
        refine k_seq ?_
        refine k_seq ?_
        apply k_reg [7, 10, 45] 320 
        · kernel_rfl
        · apply Exec.cons
          · exact s_move rfl rfl rfl
          exact Exec.nil _ _
        conv => enter [4]; simp only [nrm_, List.mem_cons, List.not_mem_nil, List.filterMap_cons, List.filterMap_nil, List.cons_append, List.nil_append, ↓reduceIte, Nat.reduceEqDiff, or_false, or_true, false_or, List.map_cons, List.map_nil, Option.map_some, Option.map_none, Nat.reduceAdd, Nat.reduceMul, splice, chunk, Option.getD_some, Option.getD_none, Int.toNat_natCast, Int.toNat_zero, Nat.sub_zero, List.take_succ_cons, List.take_zero, List.drop_succ_cons, List.drop_zero, List.length_cons, List.length_nil, List.set_cons_succ, List.set_cons_zero, encD, List.length_map, snoc_eW, zc34, zc68]
        refine k_cond rfl (fun hb => ?_) (fun hb => ?_)
        · skip
          refine k_seq ?_
          apply k_dreg [6, 7] 344 mixed
          · kernel_rfl
          · apply Exec.cons
            · first | exact s_load_all rfl rfl agg34 rfl | exact s_loade_all rfl (rowAt (by assumption)) agg34 rfl | exact s_load_agg rfl rfl agg34 rfl rfl rfl | exact s_loade_agg' rfl (rowAt (by assumption)) agg34 rfl rfl rfl | exact s_loade_agg rfl agg34 rfl rfl rfl
            apply Exec.cons
            · exact s_assign rfl rfl rfl
            apply Exec.cons
            · first | exact s_store_row rfl rfl rfl sz34 (by first | omega | (simp [chunk]; done) | (simp [chunk]; omega)) rfl | exact s_storeA rfl rfl rfl rfl sz34 rfl rfl rfl | exact s_store_all rfl rfl rfl sz34 rfl rfl rfl rfl | exact s_store rfl rfl rfl sz34 rfl rfl (Nat.le_of_ble_eq_true rfl) rfl rfl rfl
            exact Exec.nil _ _
          · kernel_rfl
          conv => enter [4]; simp only [nrm_, List.mem_cons, List.not_mem_nil, List.filterMap_cons, List.filterMap_nil, List.cons_append, List.nil_append, ↓reduceIte, Nat.reduceEqDiff, or_false, or_true, false_or, List.map_cons, List.map_nil, Option.map_some, Option.map_none, Nat.reduceAdd, Nat.reduceMul, splice, chunk, Option.getD_some, Option.getD_none, Int.toNat_natCast, Int.toNat_zero, Nat.sub_zero, List.take_succ_cons, List.take_zero, List.drop_succ_cons, List.drop_zero, List.length_cons, List.length_nil, List.set_cons_succ, List.set_cons_zero, encD, List.length_map, snoc_eW, zc34, zc68]
          refine k_ret ?_
          exact fin_val (.cons (.tmp rfl) (.cons (by first | exact resOk_all rfl rfl agg34 | exact .agg rfl rfl agg34 rfl) .nil)) ((Imp.tup (.cons (imp_eq (by rw [RD.write, if_neg ho, if_neg hi, if_neg hs]; simp [hb])) (.cons (imp_aggE (by repeat (first | exact ImpCs.nil | (apply ImpCs.cons; first | exact impC_tok _ _ _ | exact impC_nn _ _ | exact ImpC.refl _))) (by rw [RD.write, if_neg ho, if_neg hi, if_neg hs]; rfl)) .nil)))) (by first | trivial | simp [AV.bel, C.bel, belowL, belowL_i, belowA, encD, bel_cStr])
        · skip
          refine k_skip ?_
          refine k_seq ?_
          apply k_dreg [6, 7] 344 mixed
          · kernel_rfl
          · apply Exec.cons
            · first | exact s_load_all rfl rfl agg34 rfl | exact s_loade_all rfl (rowAt (by assumption)) agg34 rfl | exact s_load_agg rfl rfl agg34 rfl rfl rfl | exact s_loade_agg' rfl (rowAt (by assumption)) agg34 rfl rfl rfl | exact s_loade_agg rfl agg34 rfl rfl rfl
            apply Exec.cons
            · exact s_assign rfl rfl rfl
            apply Exec.cons
            · first | exact s_store_row rfl rfl rfl sz34 (by first | omega | (simp [chunk]; done) | (simp [chunk]; omega)) rfl | exact s_storeA rfl rfl rfl rfl sz34 rfl rfl rfl | exact s_store_all rfl rfl rfl sz34 rfl rfl rfl rfl | exact s_store rfl rfl rfl sz34 rfl rfl (Nat.le_of_ble_eq_true rfl) rfl rfl rfl
            exact Exec.nil _ _
          · kernel_rfl
          conv => enter [4]; simp only [nrm_, List.mem_cons, List.not_mem_nil, List.filterMap_cons, List.filterMap_nil, List.cons_append, List.nil_append, ↓reduceIte, Nat.reduceEqDiff, or_false, or_true, false_or, List.map_cons, List.map_nil, Option.map_some, Option.map_none, Nat.reduceAdd, Nat.reduceMul, splice, chunk, Option.getD_some, Option.getD_none, Int.toNat_natCast, Int.toNat_zero, Nat.sub_zero, List.take_succ_cons, List.take_zero, List.drop_succ_cons, List.drop_zero, List.length_cons, List.length_nil, List.set_cons_succ, List.set_cons_zero, encD, List.length_map, snoc_eW, zc34, zc68]
          refine k_ret ?_
          exact fin_val (.cons (.tmp rfl) (.cons (by first | exact resOk_all rfl rfl agg34 | exact .agg rfl rfl agg34 rfl) .nil)) ((Imp.tup (.cons (imp_eq (by rw [RD.write, if_neg ho, if_neg hi, if_neg hs]; simp [hb])) (.cons (imp_aggE (by repeat (first | exact ImpCs.nil | (apply ImpCs.cons; first | exact impC_tok _ _ _ | exact impC_nn _ _ | exact ImpC.refl _))) (by rw [RD.write, if_neg ho, if_neg hi, if_neg hs]; rfl)) .nil)))) (by first | trivial | simp [AV.bel, C.bel, belowL, belowL_i, belowA, encD, bel_cStr])

set_option maxRecDepth 100000 in
set_option maxHeartbeats 400000 in
theorem rp_sync (d : RD) (ok : RDok d) : FnSpec Try.prog 22 0 0 [.agg (encD d)] [] (.tup [vv (.int .i64 d.sync.1), .agg (encD d.sync.2)]) [] := by
  refine fn_specK Try.func22 rfl (Nat.le_of_ble_eq_true rfl) (by (first | trivial | (show _ < _; exact lt_ble rfl) | exact bel_cStr _ _ | exact bel_cB _ _ | (show belowL _ _; (repeat (first | exact trivial | (show _ < _; exact lt_ble rfl) | refine ⟨?_, ?_⟩)); done) |  decide | (simp [belowA, AV.bel, C.bel, belowL, belowL_i, heapBelow, R.bel, encD, bel_cStr]; done) | (intro p hp; simp at hp))) (by (first | trivial | (show _ < _; exact lt_ble rfl) | exact bel_cStr _ _ | exact bel_cB _ _ | (show belowL _ _; (repeat (first | exact trivial | (show _ < _; exact lt_ble rfl) | refine ⟨?_, ?_⟩)); done) |  decide | (simp [belowA, AV.bel, C.bel, belowL, belowL_i, heapBelow, R.bel, encD, bel_cStr]; done) | (intro p hp; simp at hp))) (by (first | trivial | (show _ < _; exact lt_ble rfl) | exact bel_cStr _ _ | exact bel_cB _ _ | (show belowL _ _; (repeat (first | exact trivial | (show _ < _; exact lt_ble rfl) | refine ⟨?_, ?_⟩)); done) |  decide | (simp [belowA, AV.bel, C.bel, belowL, belowL_i, heapBelow, R.bel, encD, bel_cStr]; done) | (intro p hp; simp at hp))) (by (first | trivial | (show _ < _; exact lt_ble rfl) | exact bel_cStr _ _ | exact bel_cB _ _ | (show belowL _ _; (repeat (first | exact trivial | (show _ < _; exact lt_ble rfl) | refine ⟨?_, ?_⟩)); done) |  decide | (simp [belowA, AV.bel, C.bel, belowL, belowL_i, heapBelow, R.bel, encD, bel_cStr]; done) | (intro p hp; simp at hp))) (by decide) (fun E h0 => ?_)
  have hz := ok.z1
  have hWl := ok.Wl
  refine k_seq ?_
  apply k_reg [1, 3] 24 
  · kernel_rfl
  · apply Exec.cons
    · exact s_box rfl rfl rfl rfl
    apply Exec.cons
    · exact s_assign rfl rfl rfl
    apply Exec.cons
    · exact s_alloc zero34 zok34 rfl
    exact Exec.nil _ _
  conv => enter [4]; simp only [nrm_, List.mem_cons, List.not_mem_nil, List.filterMap_cons, List.filterMap_nil, List.cons_append, List.nil_append, ↓reduceIte, Nat.reduceEqDiff, or_false, or_true, false_or, List.map_cons, List.map_nil, Option.map_some, Option.map_none, Nat.reduceAdd, Nat.reduceMul, splice, chunk, Option.getD_some, Option.getD_none, Int.toNat_natCast, Int.toNat_zero, Nat.sub_zero, List.take_succ_cons, List.take_zero, List.drop_succ_cons, List.drop_zero, List.length_cons, List.length_nil, List.set_cons_succ, List.set_cons_zero, encD, List.length_map, sub_, zc34]
  refine k_seq ?_
  refine k_seq ?_
  apply k_reg [1, 3, 7] 40 
  · kernel_rfl
  · apply Exec.cons
    · first | exact s_fieldAddr rfl fld34_4 rfl | exact s_fieldAddre rfl fld34_4 rfl
    apply Exec.cons
    · first | exact s_load rfl rfl one4 rfl rfl | exact s_load_row rfl rfl one4 (by first | rfl | assumption | (simp; done)) rfl | exact s_loade' rfl (rowAt (by assumption)) one4 rfl rfl | exact s_loade rfl one4 rfl rfl
    exact Exec.nil _ _
  conv => enter [4]; simp only [nrm_, List.mem_cons, List.not_mem_nil, List.filterMap_cons, List.filterMap_nil, List.cons_append, List.nil_append, ↓reduceIte, Nat.reduceEqDiff, or_false, or_true, false_or, List.map_cons, List.map_nil, Option.map_some, Option.map_none, Nat.reduceAdd, Nat.reduceMul, splice, chunk, Option.getD_some, Option.getD_none, Int.toNat_natCast, Int.toNat_zero, Nat.sub_zero, List.take_succ_cons, List.take_zero, List.drop_succ_cons, List.drop_zero, List.length_cons, List.length_nil, List.set_cons_succ, List.set_cons_zero, encD, List.length_map, sub_, zc34]
  refine k_cond rfl (fun hb => ?_) (fun hb => ?_)
  · skip
    have ho : d.off = true := hb
    refine k_seq ?_
    apply k_dreg [2, 3] 64 mixed
    · kernel_rfl
    · apply Exec.cons
      · first | exact s_load_all rfl rfl agg34 rfl | exact s_loade_all rfl (rowAt (by assumption)) agg34 rfl | exact s_load_agg rfl rfl agg34 rfl rfl rfl | exact s_loade_agg' rfl (rowAt (by assumption)) agg34 rfl rfl rfl | exact s_loade_agg rfl agg34 rfl rfl rfl
      apply Exec.cons
      · exact s_assign rfl rfl rfl
      apply Exec.cons
      · first | exact s_store_row rfl rfl rfl sz34 (by first | omega | (simp [chunk]; done) | (simp [chunk]; omega)) rfl | exact s_storeA rfl rfl rfl rfl sz34 rfl rfl rfl | exact s_store_all rfl rfl rfl sz34 rfl rfl rfl rfl | exact s_store rfl rfl rfl sz34 rfl rfl (Nat.le_of_ble_eq_true rfl) rfl rfl rfl
      exact Exec.nil _ _
    · kernel_rfl
    conv => enter [4]; simp only [nrm_, List.mem_cons, List.not_mem_nil, List.filterMap_cons, List.filterMap_nil, List.cons_append, List.nil_append, ↓reduceIte, Nat.reduceEqDiff, or_false, or_true, false_or, List.map_cons, List.map_nil, Option.map_some, Option.map_none, Nat.reduceAdd, Nat.reduceMul, splice, chunk, Option.getD_some, Option.getD_none, Int.toNat_natCast, Int.toNat_zero, Nat.sub_zero, List.take_succ_cons, List.take_zero, List.drop_succ_cons, List.drop_zero, List.length_cons, List.length_nil, List.set_cons_succ, List.set_cons_zero, encD, List.length_map, sub_, zc34]
    refine k_ret ?_
    exact fin_val (.cons (.tmp rfl) (.cons (by first | exact resOk_all rfl rfl agg34 | exact .agg rfl rfl agg34 rfl) .nil)) ((Imp.tup (.cons (imp_eq (by rw [RD.sync, if_pos ho])) (.cons (imp_aggE (by repeat (first | exact ImpCs.nil | (apply ImpCs.cons; first | exact impC_tok _ _ _ | exact impC_nn _ _ | exact ImpC.refl _))) (by rw [RD.sync, if_pos ho]; rfl)) .nil)))) (by first | trivial | simp [AV.bel, C.bel, belowL, belowL_i, belowA, encD, bel_cStr])
  · skip
    have ho : ¬ d.off = true := by rw [hb]; simp
    refine k_skip ?_
    refine k_seq ?_
    apply k_reg [3, 4, 5] 104 
    · kernel_rfl
    · apply Exec.cons
      · first | exact s_load_all rfl rfl agg34 rfl | exact s_loade_all rfl (rowAt (by assumption)) agg34 rfl | exact s_load_agg rfl rfl agg34 rfl rfl rfl | exact s_loade_agg' rfl (rowAt (by assumption)) agg34 rfl rfl rfl | exact s_loade_agg rfl agg34 rfl rfl rfl
      apply Exec.cons
      · exact s_callv call36 (rp_burns d ok.z1) rfl rfl rfl (by first | exact Imps.refl _ | (repeat (first | exact Imps.nil | apply Imps.cons | exact Imp.refl _ | exact Imp.c (impC_tok _ _ _) | exact Imp.c (impC_nilk _ _) | (apply Imp.agg; (repeat (first | exact ImpCs.nil | (apply ImpCs.cons; first | exact impC_tok _ _ _ | exact impC_nn _ _ | exact ImpC.refl _))))))) (by first | trivial | simp [AV.bel, C.bel, belowL, belowL_i, belowA, encD, bel_cStr]) rfl
      apply Exec.cons
      · exact s_move rfl rfl rfl
      apply Exec.cons
      · exact s_extract rfl rfl rfl rfl
      apply Exec.cons
      · exact s_extract rfl rfl rfl rfl
      apply Exec.cons
      · exact s_alloc zero34 zok34 rfl
      apply Exec.cons
      · exact s_assign rfl rfl rfl
      apply Exec.cons
      · first | exact s_store_row rfl rfl rfl sz34 (by first | omega | (simp [chunk]; done) | (simp [chunk]; omega)) rfl | exact s_storeA rfl rfl rfl rfl sz34 rfl rfl rfl | exact s_store_all rfl rfl rfl sz34 rfl rfl rfl rfl | exact s_store rfl rfl rfl sz34 rfl rfl (Nat.le_of_ble_eq_true rfl) rfl rfl rfl
      exact Exec.nil _ _
    conv => enter [4]; simp only [nrm_, List.mem_cons, List.not_mem_nil, List.filterMap_cons, List.filterMap_nil, List.cons_append, List.nil_append, ↓reduceIte, Nat.reduceEqDiff, or_false, or_true, false_or, List.map_cons, List.map_nil, Option.map_some, Option.map_none, Nat.reduceAdd, Nat.reduceMul, splice, chunk, Option.getD_some, Option.getD_none, Int.toNat_natCast, Int.toNat_zero, Nat.sub_zero, List.take_succ_cons, List.take_zero, List.drop_succ_cons, List.drop_zero, List.length_cons, List.length_nil, List.set_cons_succ, List.set_cons_zero, encD, List.length_map, sub_, zc34]
    refine k_seq ?_
    refine k_seq ?_
    apply k_reg [3, 5, 14] 112 
    · kernel_rfl
    · apply Exec.cons
      · exact s_move rfl rfl rfl
      exact Exec.nil _ _
    conv => enter [4]; simp only [nrm_, List.mem_cons, List.not_mem_nil, List.filterMap_cons, List.filterMap_nil, List.cons_append, List.nil_append, ↓reduceIte, Nat.reduceEqDiff, or_false, or_true, false_or, List.map_cons, List.map_nil, Option.map_some, Option.map_none, Nat.reduceAdd, Nat.reduceMul, splice, chunk, Option.getD_some, Option.getD_none, Int.toNat_natCast, Int.toNat_zero, Nat.sub_zero, List.take_succ_cons, List.take_zero, List.drop_succ_cons, List.drop_zero, List.length_cons, List.length_nil, List.set_cons_succ, List.set_cons_zero, encD, List.length_map, sub_, zc34]
    refine k_cond rfl (fun hb => ?_) (fun hb => ?_)
    · skip
      refine k_seq ?_
      apply k_dreg [2, 3] 136 mixed
      · kernel_rfl
      · apply Exec.cons
        · first | exact s_load_all rfl rfl agg34 rfl | exact s_loade_all rfl (rowAt (by assumption)) agg34 rfl | exact s_load_agg rfl rfl agg34 rfl rfl rfl | exact s_loade_agg' rfl (rowAt (by assumption)) agg34 rfl rfl rfl | exact s_loade_agg rfl agg34 rfl rfl rfl
        apply Exec.cons
        · exact s_assign rfl rfl rfl
        apply Exec.cons
        · first | exact s_store_row rfl rfl rfl sz34 (by first | omega | (simp [chunk]; done) | (simp [chunk]; omega)) rfl | exact s_storeA rfl rfl rfl rfl sz34 rfl rfl rfl | exact s_store_all rfl rfl rfl sz34 rfl rfl rfl rfl | exact s_store rfl rfl rfl sz34 rfl rfl (Nat.le_of_ble_eq_true rfl) rfl rfl rfl
        exact Exec.nil _ _
      · kernel_rfl
      conv => enter [4]; simp only [nrm_, List.mem_cons, List.not_mem_nil, List.filterMap_cons, List.filterMap_nil, List.cons_append, List.nil_append, ↓reduceIte, Nat.reduceEqDiff, or_false, or_true, false_or, List.map_cons, List.map_nil, Option.map_some, Option.map_none, Nat.reduceAdd, Nat.reduceMul, splice, chunk, Option.getD_some, Option.getD_none, Int.toNat_natCast, Int.toNat_zero, Nat.sub_zero, List.take_succ_cons, List.take_zero, List.drop_succ_cons, List.drop_zero, List.length_cons, List.length_nil, List.set_cons_succ, List.set_cons_zero, encD, List.length_map, sub_, zc34]
      refine k_ret ?_
      exact fin_val (.cons (.tmp rfl) (.cons (by first | exact resOk_all rfl rfl agg34 | exact .agg rfl rfl agg34 rfl) .nil)) ((Imp.tup (.cons (imp_eq (by rw [RD.sync, if_neg ho, if_pos hb])) (.cons (imp_aggE (by repeat (first | exact ImpCs.nil | (apply ImpCs.cons; first | exact impC_tok _ _ _ | exact impC_nn _ _ | exact ImpC.refl _))) (by rw [RD.sync, if_neg ho, if_pos hb]; rfl)) .nil)))) (by first | trivial | simp [AV.bel, C.bel, belowL, belowL_i, belowA, encD, bel_cStr])
    · skip
      have hbn : ¬ d.burns.1 = true := by rw [hb]; simp
      refine k_skip ?_
      refine k_seq ?_
      apply k_reg [3, 5] 152 
      · kernel_rfl
      · apply Exec.cons
        · first | exact s_load_all rfl rfl agg34 rfl | exact s_loade_all rfl (rowAt (by assumption)) agg34 rfl | exact s_load_agg rfl rfl agg34 rfl rfl rfl | exact s_loade_agg' rfl (rowAt (by assumption)) agg34 rfl rfl rfl | exact s_loade_agg rfl agg34 rfl rfl rfl
        apply Exec.cons
        · first | exact s_fieldAddr rfl fld34_3 rfl | exact s_fieldAddre rfl fld34_3 rfl
        apply Exec.cons
        · first | exact s_load rfl rfl one31 rfl rfl | exact s_load_row rfl rfl one31 (by first | rfl | assumption | (simp; done)) rfl | exact s_loade' rfl (rowAt (by assumption)) one31 rfl rfl | exact s_loade rfl one31 rfl rfl
        apply Exec.cons
        · exact s_callv call30 (rp_settled d.burns.2 d.burns.2.W (by rw [burnsW, burnsK, ok.Kl]; exact ok.Wr) (by rw [burnsK, ok.Kl]; exact ok.ct.2) (by rw [burnsW]; omega)) rfl rfl rfl (by first | exact Imps.refl _ | (repeat (first | exact Imps.nil | apply Imps.cons | exact Imp.refl _ | exact Imp.c (impC_tok _ _ _) | exact Imp.c (impC_nilk _ _) | (apply Imp.agg; (repeat (first | exact ImpCs.nil | (apply ImpCs.cons; first | exact impC_tok _ _ _ | exact impC_nn _ _ | exact ImpC.refl _))))))) (by first | trivial | simp [AV.bel, C.bel, belowL, belowL_i, belowA, encD, bel_cStr]) rfl
        apply Exec.cons
        · first | exact s_store_row rfl rfl rfl sz34 (by first | omega | (simp [chunk]; done) | (simp [chunk]; omega)) rfl | exact s_storeA rfl rfl rfl rfl sz34 rfl rfl rfl | exact s_store_all rfl rfl rfl sz34 rfl rfl rfl rfl | exact s_store rfl rfl rfl sz34 rfl rfl (Nat.le_of_ble_eq_true rfl) rfl rfl rfl
        exact Exec.nil _ _
      conv => enter [4]; simp only [nrm_, List.mem_cons, List.not_mem_nil, List.filterMap_cons, List.filterMap_nil, List.cons_append, List.nil_append, ↓reduceIte, Nat.reduceEqDiff, or_false, or_true, false_or, List.map_cons, List.map_nil, Option.map_some, Option.map_none, Nat.reduceAdd, Nat.reduceMul, splice, chunk, Option.getD_some, Option.getD_none, Int.toNat_natCast, Int.toNat_zero, Nat.sub_zero, List.take_succ_cons, List.take_zero, List.drop_succ_cons, List.drop_zero, List.length_cons, List.length_nil, List.set_cons_succ, List.set_cons_zero, encD, List.length_map, sub_, zc34]
      refine k_seq ?_
      apply k_reg [3, 5] 176 
      · kernel_rfl
      · apply Exec.cons
        · exact s_buildSlice elem31 zero68 zok68 rfl rfl rfl rfl rfl rfl (by decide) rfl
        apply Exec.cons
        · first | exact s_fieldAddr rfl fld34_3 rfl | exact s_fieldAddre rfl fld34_3 rfl
        apply Exec.cons
        · first | exact s_store_row rfl rfl rfl sz31 (by first | omega | (simp [chunk]; done) | (simp [chunk]; omega)) rfl | exact s_storeA rfl rfl rfl rfl sz31 rfl rfl rfl | exact s_store_all rfl rfl rfl sz31 rfl rfl rfl rfl | exact s_store rfl rfl rfl sz31 rfl rfl (Nat.le_of_ble_eq_true rfl) rfl rfl rfl
        exact Exec.nil _ _
      conv => enter [4]; simp only [nrm_, List.mem_cons, List.not_mem_nil, List.filterMap_cons, List.filterMap_nil, List.cons_append, List.nil_append, ↓reduceIte, Nat.reduceEqDiff, or_false, or_true, false_or, List.map_cons, List.map_nil, Option.map_some, Option.map_none, Nat.reduceAdd, Nat.reduceMul, splice, chunk, Option.getD_some, Option.getD_none, Int.toNat_natCast, Int.toNat_zero, Nat.sub_zero, List.take_succ_cons, List.take_zero, List.drop_succ_cons, List.drop_zero, List.length_cons, List.length_nil, List.set_cons_succ, List.set_cons_zero, encD, List.length_map, sub_, zc34]
      refine k_seq ?_
      apply k_dreg [2, 3] 200 mixed
      · kernel_rfl
      · apply Exec.cons
        · first | exact s_load_all rfl rfl agg34 rfl | exact s_loade_all rfl (rowAt (by assumption)) agg34 rfl | exact s_load_agg rfl rfl agg34 rfl rfl rfl | exact s_loade_agg' rfl (rowAt (by assumption)) agg34 rfl rfl rfl | exact s_loade_agg rfl agg34 rfl rfl rfl
        apply Exec.cons
        · exact s_assign rfl rfl rfl
        apply Exec.cons
        · first | exact s_store_row rfl rfl rfl sz34 (by first | omega | (simp [chunk]; done) | (simp [chunk]; omega)) rfl | exact s_storeA rfl rfl rfl rfl sz34 rfl rfl rfl | exact s_store_all rfl rfl rfl sz34 rfl rfl rfl rfl | exact s_store rfl rfl rfl sz34 rfl rfl (Nat.le_of_ble_eq_true rfl) rfl rfl rfl
        exact Exec.nil _ _
      · kernel_rfl
      conv => enter [4]; simp only [nrm_, List.mem_cons, List.not_mem_nil, List.filterMap_cons, List.filterMap_nil, List.cons_append, List.nil_append, ↓reduceIte, Nat.reduceEqDiff, or_false, or_true, false_or, List.map_cons, List.map_nil, Option.map_some, Option.map_none, Nat.reduceAdd, Nat.reduceMul, splice, chunk, Option.getD_some, Option.getD_none, Int.toNat_natCast, Int.toNat_zero, Nat.sub_zero, List.take_succ_cons, List.take_zero, List.drop_succ_cons, List.drop_zero, List.length_cons, List.length_nil, List.set_cons_succ, List.set_cons_zero, encD, List.length_map, sub_, zc34]
      refine k_ret ?_
      exact fin_val (.cons (.tmp rfl) (.cons (by first | exact resOk_all rfl rfl agg34 | exact .agg rfl rfl agg34 rfl) .nil)) ((Imp.tup (.cons (imp_eq (by rw [RD.sync, if_neg ho, if_neg hbn])) (.cons (imp_aggE (by repeat (first | exact ImpCs.nil | (apply ImpCs.cons; first | exact impC_tok _ _ _ | exact impC_nn _ _ | exact ImpC.refl _))) (by rw [RD.sync, if_neg ho, if_neg hbn]; rfl)) .nil)))) (by first | trivial | simp [AV.bel, C.bel, belowL, belowL_i, belowA, encD, bel_cStr])

set_option maxRecDepth 100000 in
set_option maxHeartbeats 400000 in
theorem rp_back (d : RD) (ok : RDok d) (keep : Int) (torn : Bool) : FnSpec Try.prog 15 0 0 [.agg (encD d), vv (.int .i64 keep), vv (.bool torn)] [] (.agg (encD (d.back keep torn))) [] := by
  refine fn_specK Try.func15 rfl (Nat.le_of_ble_eq_true rfl) (by (first | trivial | (show _ < _; exact lt_ble rfl) | exact bel_cStr _ _ | exact bel_cB _ _ | (show belowL _ _; (repeat (first | exact trivial | (show _ < _; exact lt_ble rfl) | refine ⟨?_, ?_⟩)); done) |  decide | (simp [belowA, AV.bel, C.bel, belowL, belowL_i, heapBelow, R.bel, encD, bel_cStr]; done) | (intro p hp; simp at hp))) (by (first | trivial | (show _ < _; exact lt_ble rfl) | exact bel_cStr _ _ | exact bel_cB _ _ | (show belowL _ _; (repeat (first | exact trivial | (show _ < _; exact lt_ble rfl) | refine ⟨?_, ?_⟩)); done) |  decide | (simp [belowA, AV.bel, C.bel, belowL, belowL_i, heapBelow, R.bel, encD, bel_cStr]; done) | (intro p hp; simp at hp))) (by (first | trivial | (show _ < _; exact lt_ble rfl) | exact bel_cStr _ _ | exact bel_cB _ _ | (show belowL _ _; (repeat (first | exact trivial | (show _ < _; exact lt_ble rfl) | refine ⟨?_, ?_⟩)); done) |  decide | (simp [belowA, AV.bel, C.bel, belowL, belowL_i, heapBelow, R.bel, encD, bel_cStr]; done) | (intro p hp; simp at hp))) (by (first | trivial | (show _ < _; exact lt_ble rfl) | exact bel_cStr _ _ | exact bel_cB _ _ | (show belowL _ _; (repeat (first | exact trivial | (show _ < _; exact lt_ble rfl) | refine ⟨?_, ?_⟩)); done) |  decide | (simp [belowA, AV.bel, C.bel, belowL, belowL_i, heapBelow, R.bel, encD, bel_cStr]; done) | (intro p hp; simp at hp))) (by decide) (fun E h0 => ?_)
  have hWl := ok.Wl
  have hKl := ok.Kl
  have hct := ok.ct
  have hkl := kept2_le keep d.falls.W.length
  have hfW : d.falls.W = d.W := rfl
  have hfl : d.falls.W.length ≤ 100000 := ok.Wl
  refine k_seq ?_
  apply k_reg [1, 2, 3, 6, 24, 25] 16 
  · kernel_rfl
  · apply Exec.cons
    · exact s_box rfl rfl rfl rfl
    apply Exec.cons
    · exact s_alloc zero34 zok34 rfl
    exact Exec.nil _ _
  conv => enter [4]; simp only [nrm_, List.mem_cons, List.not_mem_nil, List.filterMap_cons, List.filterMap_nil, List.cons_append, List.nil_append, ↓reduceIte, Nat.reduceEqDiff, or_false, or_true, false_or, List.map_cons, List.map_nil, Option.map_some, Option.map_none, Nat.reduceAdd, Nat.reduceMul, splice, chunk, Option.getD_some, Option.getD_none, Int.toNat_natCast, Int.toNat_zero, Nat.sub_zero, List.take_succ_cons, List.take_zero, List.drop_succ_cons, List.drop_zero, List.length_cons, List.length_nil, List.set_cons_succ, List.set_cons_zero, encD, List.length_map, kept2_eq, Int.toNat_natCast, Int.toNat_zero, List.drop_zero, Nat.sub_zero, ← List.map_take, cast_m1, sub_, zc34, zc68]
  refine k_seq ?_
  apply k_reg [1, 2, 3, 6, 24, 25] 40 
  · kernel_rfl
  · apply Exec.cons
    · first | exact s_load_all rfl rfl agg34 rfl | exact s_loade_all rfl (rowAt (by assumption)) agg34 rfl | exact s_load_agg rfl rfl agg34 rfl rfl rfl | exact s_loade_agg' rfl (rowAt (by assumption)) agg34 rfl rfl rfl | exact s_loade_agg rfl agg34 rfl rfl rfl
    apply Exec.cons
    · exact s_callv call29 (rp_falls d) rfl rfl rfl (by first | exact Imps.refl _ | (repeat (first | exact Imps.nil | apply Imps.cons | exact Imp.refl _ | exact Imp.c (impC_tok _ _ _) | exact Imp.c (impC_nilk _ _) | (apply Imp.agg; (repeat (first | exact ImpCs.nil | (apply ImpCs.cons; first | exact impC_tok _ _ _ | exact impC_nn _ _ | exact ImpC.refl _))))))) (by first | trivial | simp [AV.bel, C.bel, belowL, belowL_i, belowA, encD, bel_cStr]) rfl
    apply Exec.cons
    · first | exact s_store_row rfl rfl rfl sz34 (by first | omega | (simp [chunk]; done) | (simp [chunk]; omega)) rfl | exact s_storeA rfl rfl rfl rfl sz34 rfl rfl rfl | exact s_store_all rfl rfl rfl sz34 rfl rfl rfl rfl | exact s_store rfl rfl rfl sz34 rfl rfl (Nat.le_of_ble_eq_true rfl) rfl rfl rfl
    exact Exec.nil _ _
  conv => enter [4]; simp only [nrm_, List.mem_cons, List.not_mem_nil, List.filterMap_cons, List.filterMap_nil, List.cons_append, List.nil_append, ↓reduceIte, Nat.reduceEqDiff, or_false, or_true, false_or, List.map_cons, List.map_nil, Option.map_some, Option.map_none, Nat.reduceAdd, Nat.reduceMul, splice, chunk, Option.getD_some, Option.getD_none, Int.toNat_natCast, Int.toNat_zero, Nat.sub_zero, List.take_succ_cons, List.take_zero, List.drop_succ_cons, List.drop_zero, List.length_cons, List.length_nil, List.set_cons_succ, List.set_cons_zero, encD, List.length_map, kept2_eq, Int.toNat_natCast, Int.toNat_zero, List.drop_zero, Nat.sub_zero, ← List.map_take, cast_m1, sub_, zc34, zc68]
  refine k_seq ?_
  apply k_reg [2, 3, 6, 7, 24, 25] 96 
  · kernel_rfl
  · apply Exec.cons
    · exact s_move rfl rfl rfl
    apply Exec.cons
    · exact s_max rfl rfl rfl
    apply Exec.cons
    · first | exact s_fieldAddr rfl fld34_3 rfl | exact s_fieldAddre rfl fld34_3 rfl
    apply Exec.cons
    · first | exact s_load rfl rfl one31 rfl rfl | exact s_load_row rfl rfl one31 (by first | rfl | assumption | (simp; done)) rfl | exact s_loade' rfl (rowAt (by assumption)) one31 rfl rfl | exact s_loade rfl one31 rfl rfl
    apply Exec.cons
    · first | exact s_len Try.underlying31 rfl (by first | exact ImpC.refl _ | exact impC_tok _ _ _ | exact impC_nn _ _ | exact impC_nilk _ _) rfl | exact s_len_own1 Try.underlying31 rfl rfl rfl
    apply Exec.cons
    · exact s_min rfl rfl rfl
    apply Exec.cons
    · exact s_assign rfl rfl rfl
    exact Exec.nil _ _
  conv => enter [4]; simp only [nrm_, List.mem_cons, List.not_mem_nil, List.filterMap_cons, List.filterMap_nil, List.cons_append, List.nil_append, ↓reduceIte, Nat.reduceEqDiff, or_false, or_true, false_or, List.map_cons, List.map_nil, Option.map_some, Option.map_none, Nat.reduceAdd, Nat.reduceMul, splice, chunk, Option.getD_some, Option.getD_none, Int.toNat_natCast, Int.toNat_zero, Nat.sub_zero, List.take_succ_cons, List.take_zero, List.drop_succ_cons, List.drop_zero, List.length_cons, List.length_nil, List.set_cons_succ, List.set_cons_zero, encD, List.length_map, kept2_eq, Int.toNat_natCast, Int.toNat_zero, List.drop_zero, Nat.sub_zero, ← List.map_take, cast_m1, sub_, zc34, zc68]
  refine k_seq ?_
  apply k_reg [2, 3, 6, 7, 8, 24, 25] 136 
  · kernel_rfl
  · apply Exec.cons
    · first | exact s_fieldAddr rfl fld34_3 rfl | exact s_fieldAddre rfl fld34_3 rfl
    apply Exec.cons
    · first | exact s_load rfl rfl one31 rfl rfl | exact s_load_row rfl rfl one31 (by first | rfl | assumption | (simp; done)) rfl | exact s_loade' rfl (rowAt (by assumption)) one31 rfl rfl | exact s_loade rfl one31 rfl rfl
    apply Exec.cons
    · exact s_move rfl rfl rfl
    apply Exec.cons
    · exact s_slice (l := none) (h := some _) Try.underlying31 sz68 rfl (by first | exact ImpC.refl _ | exact impC_tok _ _ _ | exact impC_nn _ _ | exact impC_nilk _ _) trivial ⟨_, rfl⟩ (by simp <;> omega) (by simp <;> omega) (by simp <;> omega) rfl
    apply Exec.cons
    · exact s_assign rfl rfl rfl
    exact Exec.nil _ _
  conv => enter [4]; simp only [nrm_, List.mem_cons, List.not_mem_nil, List.filterMap_cons, List.filterMap_nil, List.cons_append, List.nil_append, ↓reduceIte, Nat.reduceEqDiff, or_false, or_true, false_or, List.map_cons, List.map_nil, Option.map_some, Option.map_none, Nat.reduceAdd, Nat.reduceMul, splice, chunk, Option.getD_some, Option.getD_none, Int.toNat_natCast, Int.toNat_zero, Nat.sub_zero, List.take_succ_cons, List.take_zero, List.drop_succ_cons, List.drop_zero, List.length_cons, List.length_nil, List.set_cons_succ, List.set_cons_zero, encD, List.length_map, kept2_eq, Int.toNat_natCast, Int.toNat_zero, List.drop_zero, Nat.sub_zero, ← List.map_take, cast_m1, sub_, zc34, zc68]
  refine k_seq ?_
  refine k_seq ?_
  apply k_reg [3, 6, 7, 8, 26] 176 
  · kernel_rfl
  · apply Exec.cons
    · exact s_move rfl rfl rfl
    apply Exec.cons
    · exact s_move rfl rfl rfl
    apply Exec.cons
    · exact s_guard (c := _) rfl rfl rfl (by first | exact hpre1 rfl | (intro _ _ h; simp [get] at h)) rfl (fun hb => s_move rfl rfl rfl)
    apply Exec.cons
    · exact s_guard (c := _) rfl rfl rfl (by first | exact hpre1 rfl | (intro _ _ h; simp [get] at h)) rfl (fun hb => s_bin (evif (bv := .tup []) hb rfl) rfl rfl rfl rfl)
    apply Exec.cons
    · first | exact s_and (bv := .tup []) rfl rfl rfl rfl | exact s_and rfl rfl rfl rfl | exact s_pick rfl rfl rfl (fun h => by simp [h]) (fun h => by simp [h]) rfl rfl rfl
    exact Exec.nil _ _
  conv => enter [4]; simp only [nrm_, List.mem_cons, List.not_mem_nil, List.filterMap_cons, List.filterMap_nil, List.cons_append, List.nil_append, ↓reduceIte, Nat.reduceEqDiff, or_false, or_true, false_or, List.map_cons, List.map_nil, Option.map_some, Option.map_none, Nat.reduceAdd, Nat.reduceMul, splice, chunk, Option.getD_some, Option.getD_none, Int.toNat_natCast, Int.toNat_zero, Nat.sub_zero, List.take_succ_cons, List.take_zero, List.drop_succ_cons, List.drop_zero, List.length_cons, List.length_nil, List.set_cons_succ, List.set_cons_zero, encD, List.length_map, kept2_eq, Int.toNat_natCast, Int.toNat_zero, List.drop_zero, Nat.sub_zero, ← List.map_take, cast_m1, sub_, zc34, zc68]
  refine k_cond rfl (fun hb => ?_) (fun hb => ?_)
  · skip
    obtain ⟨rfl, hn⟩ : torn = true ∧ 0 < kept2 keep d.falls.W.length := by simpa using hb
    obtain ⟨m, hm⟩ : ∃ m, kept2 keep d.falls.W.length = m + 1 := ⟨kept2 keep d.falls.W.length - 1, by omega⟩
    rw [hm] at hkl ⊢
    obtain ⟨w, hw⟩ : ∃ w, d.falls.W[m]? = some w := ⟨_, List.getElem?_eq_getElem (by omega)⟩
    have hw1 : (d.falls.W.take (m + 1))[m]? = some w := by rw [List.getElem?_take, if_pos (by omega)]; exact hw
    have hwr := ok.Wr w (List.mem_of_getElem? hw)
    have hws := ok.Ws w (List.mem_of_getElem? hw)
    have hk2 : (d.falls.settled (d.falls.W.take m)).K.length = d.K.length := setAll_length _ _
    have hw2 : ∀ x ∈ [(d.falls.settled (d.falls.W.take m)).tear w], 0 ≤ x.1 ∧ x.1 < (d.falls.settled (d.falls.W.take m)).K.length := fun x hx => by
      simp only [List.mem_singleton] at hx; subst hx; rw [hk2, hKl]; exact hwr
    obtain ⟨kx, hkx⟩ : ∃ kx, (d.falls.settled (d.falls.W.take m)).K[w.1.toNat]? = some kx := ⟨_, List.getElem?_eq_getElem (by rw [hk2]; omega)⟩
    have hkl2 : kx.length = d.s := settled_len ok m kx (List.mem_of_getElem? hkx)
    have hd := hm
    have hss : (d.falls.settled (d.falls.W.take m)).s = d.s := rfl
    have hsz := ok.sz
    refine k_seq ?_
    apply k_dreg [3, 6, 7, 8] 232 mixed
    · kernel_rfl
    · apply Exec.cons
      · first | exact s_load_all rfl rfl agg34 rfl | exact s_loade_all rfl (rowAt (by assumption)) agg34 rfl | exact s_load_agg rfl rfl agg34 rfl rfl rfl | exact s_loade_agg' rfl (rowAt (by assumption)) agg34 rfl rfl rfl | exact s_loade_agg rfl agg34 rfl rfl rfl
      apply Exec.cons
      · exact s_move rfl rfl rfl
      apply Exec.cons
      · exact s_move rfl rfl rfl
      apply Exec.cons
      · first | exact s_as (vv (.int .i64 (m : Int))) (s_sub rfl rfl (in_i64 (by omega) (by omega)) rfl) (imp_v (cast_m1 m)) | exact s_as (vv (.int .i64 (m : Int))) (s_bin rfl rfl rfl rfl rfl) (imp_v (cast_m1 m))
      apply Exec.cons
      · exact s_as (.c (.i (.sl 2 ((d.falls.W.take m).map eW)))) (s_slice (l := none) (h := some _) Try.underlying31 sz68 rfl (by first | exact ImpC.refl _ | exact impC_tok _ _ _ | exact impC_nn _ _ | exact impC_nilk _ _) trivial ⟨_, rfl⟩ (by simp <;> omega) (by simp <;> omega) (by simp <;> omega) rfl) (imp_sl (by simp [List.map_take, List.take_take]; try omega))
      apply Exec.cons
      · exact s_callv call30 (rp_settled d.falls (d.falls.W.take m) (fun x hx => by have := ok.Wr x (List.mem_of_mem_take hx); rw [show d.falls.K = d.K from rfl, hKl]; exact this) (by rw [show d.falls.K = d.K from rfl]; omega) (by rw [List.length_take]; omega)) rfl rfl rfl (by first | exact Imps.refl _ | (repeat (first | exact Imps.nil | apply Imps.cons | exact Imp.refl _ | exact Imp.c (impC_tok _ _ _) | exact Imp.c (impC_nilk _ _) | (apply Imp.agg; (repeat (first | exact ImpCs.nil | (apply ImpCs.cons; first | exact impC_tok _ _ _ | exact impC_nn _ _ | exact ImpC.refl _))))))) (by first | trivial | simp [AV.bel, C.bel, belowL, belowL_i, belowA, encD, bel_cStr]) rfl
      apply Exec.cons
      · first | exact s_store_row rfl rfl rfl sz34 (by first | omega | (simp [chunk]; done) | (simp [chunk]; omega)) rfl | exact s_storeA rfl rfl rfl rfl sz34 rfl rfl rfl | exact s_store_all rfl rfl rfl sz34 rfl rfl rfl rfl | exact s_store rfl rfl rfl sz34 rfl rfl (Nat.le_of_ble_eq_true rfl) rfl rfl rfl
      exact Exec.nil _ _
    · kernel_rfl
    conv => enter [4]; simp only [nrm_, List.mem_cons, List.not_mem_nil, List.filterMap_cons, List.filterMap_nil, List.cons_append, List.nil_append, ↓reduceIte, Nat.reduceEqDiff, or_false, or_true, false_or, List.map_cons, List.map_nil, Option.map_some, Option.map_none, Nat.reduceAdd, Nat.reduceMul, splice, chunk, Option.getD_some, Option.getD_none, Int.toNat_natCast, Int.toNat_zero, Nat.sub_zero, List.take_succ_cons, List.take_zero, List.drop_succ_cons, List.drop_zero, List.length_cons, List.length_nil, List.set_cons_succ, List.set_cons_zero, encD, List.length_map, kept2_eq, Int.toNat_natCast, Int.toNat_zero, List.drop_zero, Nat.sub_zero, ← List.map_take, cast_m1, sub_, zc34, zc68]
    refine k_seq ?_
    apply k_reg [3, 6, 9] 288 
    · kernel_rfl
    · apply Exec.cons
      · exact s_move rfl rfl rfl
      apply Exec.cons
      · exact s_move rfl rfl rfl
      apply Exec.cons
      · first | exact s_as (vv (.int .i64 (m : Int))) (s_sub rfl rfl (in_i64 (by omega) (by omega)) rfl) (imp_v (cast_m1 m)) | exact s_as (vv (.int .i64 (m : Int))) (s_bin rfl rfl rfl rfl rfl) (imp_v (cast_m1 m))
      apply Exec.cons
      · first | exact s_indexAddr Try.underlying31 sz68 rfl (by first | exact ImpC.refl _ | exact impC_tok _ _ _ | exact impC_nn _ _ | exact impC_nilk _ _) rfl (by first | omega | (simp [chunk]; done) | (simp [chunk]; omega)) (by first | omega | (simp [chunk]; done) | (simp [chunk]; omega)) rfl | exact s_indexAddr_own1 Try.underlying31 sz68 rfl rfl rfl (by first | omega | (simp [chunk]; done) | (simp [chunk]; omega)) (by first | omega | (simp [chunk]; done) | (simp [chunk]; omega)) rfl
      apply Exec.cons
      · first | exact s_load_all rfl rfl agg68 rfl | exact s_loade_all rfl (rowAt (by assumption)) agg68 rfl | exact s_load_agg rfl rfl agg68 rfl rfl rfl | exact s_loade_agg' rfl (rowAt (by assumption)) agg68 rfl rfl rfl | exact s_loade_agg rfl agg68 rfl rfl rfl
      apply Exec.cons
      · exact s_alloc zero68 zok68 rfl
      apply Exec.cons
      · first | exact s_store_row rfl rfl rfl sz68 (by first | omega | (simp [chunk]; done) | (simp [chunk]; omega)) rfl | exact s_storeA rfl rfl rfl rfl sz68 rfl rfl rfl | exact s_store_all rfl rfl rfl sz68 rfl rfl rfl rfl | exact s_store rfl rfl rfl sz68 rfl rfl (Nat.le_of_ble_eq_true rfl) rfl rfl rfl
      exact Exec.nil _ _
    conv => enter [4]; simp only [nrm_, List.mem_cons, List.not_mem_nil, List.filterMap_cons, List.filterMap_nil, List.cons_append, List.nil_append, ↓reduceIte, Nat.reduceEqDiff, or_false, or_true, false_or, List.map_cons, List.map_nil, Option.map_some, Option.map_none, Nat.reduceAdd, Nat.reduceMul, splice, chunk, Option.getD_some, Option.getD_none, Int.toNat_natCast, Int.toNat_zero, Nat.sub_zero, List.take_succ_cons, List.take_zero, List.drop_succ_cons, List.drop_zero, List.length_cons, List.length_nil, List.set_cons_succ, List.set_cons_zero, encD, List.length_map, kept2_eq, Int.toNat_natCast, Int.toNat_zero, List.drop_zero, Nat.sub_zero, ← List.map_take, cast_m1, sub_, zc34, zc68]
    apply k_dreg [3, 6] 480 mixed
    · kernel_rfl
    · apply Exec.cons
      · first | exact s_load_all rfl rfl agg34 rfl | exact s_loade_all rfl (rowAt (by assumption)) agg34 rfl | exact s_load_agg rfl rfl agg34 rfl rfl rfl | exact s_loade_agg' rfl (rowAt (by assumption)) agg34 rfl rfl rfl | exact s_loade_agg rfl agg34 rfl rfl rfl
      apply Exec.cons
      · first | exact s_fieldAddr rfl fld68_0 rfl | exact s_fieldAddre rfl fld68_0 rfl
      apply Exec.cons
      · first | exact s_load rfl rfl one3 rfl rfl | exact s_load_row rfl rfl one3 (by first | rfl | assumption | (simp; done)) rfl | exact s_loade' rfl (rowAt (by assumption)) one3 rfl rfl | exact s_loade rfl one3 rfl rfl
      apply Exec.cons
      · first | exact s_fieldAddr rfl fld68_1 rfl | exact s_fieldAddre rfl fld68_1 rfl
      apply Exec.cons
      · first | exact s_load rfl rfl one9 rfl rfl | exact s_load_row rfl rfl one9 (by first | rfl | assumption | (simp; done)) rfl | exact s_loade' rfl (rowAt (by assumption)) one9 rfl rfl | exact s_loade rfl one9 rfl rfl
      apply Exec.cons
      · first | exact s_fieldAddr rfl fld34_0 rfl | exact s_fieldAddre rfl fld34_0 rfl
      apply Exec.cons
      · first | exact s_load rfl rfl one3 rfl rfl | exact s_load_row rfl rfl one3 (by first | rfl | assumption | (simp; done)) rfl | exact s_loade' rfl (rowAt (by assumption)) one3 rfl rfl | exact s_loade rfl one3 rfl rfl
      apply Exec.cons
      · exact s_as (vv (.int .i64 ((d.s / 2 : Nat) : Int))) (s_quo rfl rfl (by omega) (by omega) (in_i64 (by omega) (by omega)) rfl) (imp_v (cast_half d.s))
      apply Exec.cons
      · exact s_as (vv (str (w.2.take (d.s / 2)))) (s_slices_h Try.underlying9 rfl rfl (by first | omega | (simp [chunk]; done) | (simp [chunk]; omega)) (by first | omega | (simp [chunk]; done) | (simp [chunk]; omega)) rfl) (imp_str rfl)
      apply Exec.cons
      · first | exact s_fieldAddr rfl fld34_2 rfl | exact s_fieldAddre rfl fld34_2 rfl
      apply Exec.cons
      · first | exact s_load rfl rfl one30 rfl rfl | exact s_load_row rfl rfl one30 (by first | rfl | assumption | (simp; done)) rfl | exact s_loade' rfl (rowAt (by assumption)) one30 rfl rfl | exact s_loade rfl one30 rfl rfl
      apply Exec.cons
      · first | exact s_fieldAddr rfl fld68_0 rfl | exact s_fieldAddre rfl fld68_0 rfl
      apply Exec.cons
      · first | exact s_load rfl rfl one3 rfl rfl | exact s_load_row rfl rfl one3 (by first | rfl | assumption | (simp; done)) rfl | exact s_loade' rfl (rowAt (by assumption)) one3 rfl rfl | exact s_loade rfl one3 rfl rfl
      apply Exec.cons
      · first | exact s_indexAddr Try.underlying30 sz9 rfl (by first | exact ImpC.refl _ | exact impC_tok _ _ _ | exact impC_nn _ _ | exact impC_nilk _ _) rfl (by first | omega | (simp [chunk]; done) | (simp [chunk]; omega)) (by first | omega | (simp [chunk]; done) | (simp [chunk]; omega)) rfl | exact s_indexAddr_own1 Try.underlying30 sz9 rfl rfl rfl (by first | omega | (simp [chunk]; done) | (simp [chunk]; omega)) (by first | omega | (simp [chunk]; done) | (simp [chunk]; omega)) rfl
      apply Exec.cons
      · first | exact s_load rfl rfl one9 rfl rfl | exact s_load_row rfl rfl one9 (by first | rfl | assumption | (simp; done)) rfl | exact s_loade' rfl (rowAt (by assumption)) one9 rfl rfl | exact s_loade rfl one9 rfl rfl
      apply Exec.cons
      · first | exact s_fieldAddr rfl fld34_0 rfl | exact s_fieldAddre rfl fld34_0 rfl
      apply Exec.cons
      · first | exact s_load rfl rfl one3 rfl rfl | exact s_load_row rfl rfl one3 (by first | rfl | assumption | (simp; done)) rfl | exact s_loade' rfl (rowAt (by assumption)) one3 rfl rfl | exact s_loade rfl one3 rfl rfl
      apply Exec.cons
      · exact s_as (vv (.int .i64 ((d.s / 2 : Nat) : Int))) (s_quo rfl rfl (by omega) (by omega) (in_i64 (by omega) (by omega)) rfl) (imp_v (cast_half d.s))
      apply Exec.cons
      · exact s_as (vv (str (kx.drop (d.s / 2)))) (s_slices_l Try.underlying9 rfl rfl (by first | omega | (simp [chunk]; done) | (simp [chunk]; omega)) (by first | omega | (simp [chunk]; done) | (simp [chunk]; omega)) rfl) (imp_str rfl)
      apply Exec.cons
      · exact s_stradd rfl rfl (by first | omega | (simp [chunk]; done) | (simp [chunk]; omega)) rfl
      apply Exec.cons
      · exact s_build str68 zok68 rfl rfl rfl rfl
      apply Exec.cons
      · exact s_as (.c (.i (.sl 2 ([(d.falls.settled (d.falls.W.take m)).tear w].map eW)))) (s_buildSlice elem31 zero68 zok68 rfl rfl rfl rfl rfl rfl (by decide) rfl) (imp_tok' (by simp [chunk, RD.tear, eW, List.getD_eq_getElem?_getD, hkx]; rfl))
      apply Exec.cons
      · exact s_callv call30 (rp_settled (d.falls.settled (d.falls.W.take m)) [(d.falls.settled (d.falls.W.take m)).tear w] hw2 (by rw [hk2]; omega) (by simp)) rfl rfl rfl (by first | exact Imps.refl _ | (repeat (first | exact Imps.nil | apply Imps.cons | exact Imp.refl _ | exact Imp.c (impC_tok _ _ _) | exact Imp.c (impC_nilk _ _) | (apply Imp.agg; (repeat (first | exact ImpCs.nil | (apply ImpCs.cons; first | exact impC_tok _ _ _ | exact impC_nn _ _ | exact ImpC.refl _))))))) (by first | trivial | simp [AV.bel, C.bel, belowL, belowL_i, belowA, encD, bel_cStr]) rfl
      apply Exec.cons
      · first | exact s_store_row rfl rfl rfl sz34 (by first | omega | (simp [chunk]; done) | (simp [chunk]; omega)) rfl | exact s_storeA rfl rfl rfl rfl sz34 rfl rfl rfl | exact s_store_all rfl rfl rfl sz34 rfl rfl rfl rfl | exact s_store rfl rfl rfl sz34 rfl rfl (Nat.le_of_ble_eq_true rfl) rfl rfl rfl
      exact Exec.nil _ _
    · kernel_rfl
    conv => enter [4]; simp only [nrm_, List.mem_cons, List.not_mem_nil, List.filterMap_cons, List.filterMap_nil, List.cons_append, List.nil_append, ↓reduceIte, Nat.reduceEqDiff, or_false, or_true, false_or, List.map_cons, List.map_nil, Option.map_some, Option.map_none, Nat.reduceAdd, Nat.reduceMul, splice, chunk, Option.getD_some, Option.getD_none, Int.toNat_natCast, Int.toNat_zero, Nat.sub_zero, List.take_succ_cons, List.take_zero, List.drop_succ_cons, List.drop_zero, List.length_cons, List.length_nil, List.set_cons_succ, List.set_cons_zero, encD, List.length_map, kept2_eq, Int.toNat_natCast, Int.toNat_zero, List.drop_zero, Nat.sub_zero, ← List.map_take, cast_m1, sub_, zc34, zc68]
    refine k_seq ?_
    apply k_reg [3, 6] 504 
    · kernel_rfl
    · apply Exec.cons
      · exact s_buildSlice elem31 zero68 zok68 rfl rfl rfl rfl rfl rfl (by decide) rfl
      apply Exec.cons
      · first | exact s_fieldAddr rfl fld34_3 rfl | exact s_fieldAddre rfl fld34_3 rfl
      apply Exec.cons
      · first | exact s_store_row rfl rfl rfl sz31 (by first | omega | (simp [chunk]; done) | (simp [chunk]; omega)) rfl | exact s_storeA rfl rfl rfl rfl sz31 rfl rfl rfl | exact s_store_all rfl rfl rfl sz31 rfl rfl rfl rfl | exact s_store rfl rfl rfl sz31 rfl rfl (Nat.le_of_ble_eq_true rfl) rfl rfl rfl
      exact Exec.nil _ _
    conv => enter [4]; simp only [nrm_, List.mem_cons, List.not_mem_nil, List.filterMap_cons, List.filterMap_nil, List.cons_append, List.nil_append, ↓reduceIte, Nat.reduceEqDiff, or_false, or_true, false_or, List.map_cons, List.map_nil, Option.map_some, Option.map_none, Nat.reduceAdd, Nat.reduceMul, splice, chunk, Option.getD_some, Option.getD_none, Int.toNat_natCast, Int.toNat_zero, Nat.sub_zero, List.take_succ_cons, List.take_zero, List.drop_succ_cons, List.drop_zero, List.length_cons, List.length_nil, List.set_cons_succ, List.set_cons_zero, encD, List.length_map, kept2_eq, Int.toNat_natCast, Int.toNat_zero, List.drop_zero, Nat.sub_zero, ← List.map_take, cast_m1, sub_, zc34, zc68]
    refine k_seq ?_
    apply k_reg [3, 6] 520 
    · kernel_rfl
    · apply Exec.cons
      · first | exact s_fieldAddr rfl fld34_4 rfl | exact s_fieldAddre rfl fld34_4 rfl
      apply Exec.cons
      · first | exact s_store_row rfl rfl rfl sz4 (by first | omega | (simp [chunk]; done) | (simp [chunk]; omega)) rfl | exact s_storeA rfl rfl rfl rfl sz4 rfl rfl rfl | exact s_store_all rfl rfl rfl sz4 rfl rfl rfl rfl | exact s_store rfl rfl rfl sz4 rfl rfl (Nat.le_of_ble_eq_true rfl) rfl rfl rfl
      exact Exec.nil _ _
    conv => enter [4]; simp only [nrm_, List.mem_cons, List.not_mem_nil, List.filterMap_cons, List.filterMap_nil, List.cons_append, List.nil_append, ↓reduceIte, Nat.reduceEqDiff, or_false, or_true, false_or, List.map_cons, List.map_nil, Option.map_some, Option.map_none, Nat.reduceAdd, Nat.reduceMul, splice, chunk, Option.getD_some, Option.getD_none, Int.toNat_natCast, Int.toNat_zero, Nat.sub_zero, List.take_succ_cons, List.take_zero, List.drop_succ_cons, List.drop_zero, List.length_cons, List.length_nil, List.set_cons_succ, List.set_cons_zero, encD, List.length_map, kept2_eq, Int.toNat_natCast, Int.toNat_zero, List.drop_zero, Nat.sub_zero, ← List.map_take, cast_m1, sub_, zc34, zc68]
    refine k_seq ?_
    apply k_reg [3, 6] 536 
    · kernel_rfl
    · apply Exec.cons
      · first | exact s_fieldAddr rfl fld34_6 rfl | exact s_fieldAddre rfl fld34_6 rfl
      apply Exec.cons
      · first | exact s_store_row rfl rfl rfl sz3 (by first | omega | (simp [chunk]; done) | (simp [chunk]; omega)) rfl | exact s_storeA rfl rfl rfl rfl sz3 rfl rfl rfl | exact s_store_all rfl rfl rfl sz3 rfl rfl rfl rfl | exact s_store rfl rfl rfl sz3 rfl rfl (Nat.le_of_ble_eq_true rfl) rfl rfl rfl
      exact Exec.nil _ _
    conv => enter [4]; simp only [nrm_, List.mem_cons, List.not_mem_nil, List.filterMap_cons, List.filterMap_nil, List.cons_append, List.nil_append, ↓reduceIte, Nat.reduceEqDiff, or_false, or_true, false_or, List.map_cons, List.map_nil, Option.map_some, Option.map_none, Nat.reduceAdd, Nat.reduceMul, splice, chunk, Option.getD_some, Option.getD_none, Int.toNat_natCast, Int.toNat_zero, Nat.sub_zero, List.take_succ_cons, List.take_zero, List.drop_succ_cons, List.drop_zero, List.length_cons, List.length_nil, List.set_cons_succ, List.set_cons_zero, encD, List.length_map, kept2_eq, Int.toNat_natCast, Int.toNat_zero, List.drop_zero, Nat.sub_zero, ← List.map_take, cast_m1, sub_, zc34, zc68]
    refine k_seq ?_
    apply k_reg [6] 552 
    · kernel_rfl
    · apply Exec.cons
      · first | exact s_load_all rfl rfl agg34 rfl | exact s_loade_all rfl (rowAt (by assumption)) agg34 rfl | exact s_load_agg rfl rfl agg34 rfl rfl rfl | exact s_loade_agg' rfl (rowAt (by assumption)) agg34 rfl rfl rfl | exact s_loade_agg rfl agg34 rfl rfl rfl
      apply Exec.cons
      · first | exact s_store_row rfl rfl rfl sz34 (by first | omega | (simp [chunk]; done) | (simp [chunk]; omega)) rfl | exact s_storeA rfl rfl rfl rfl sz34 rfl rfl rfl | exact s_store_all rfl rfl rfl sz34 rfl rfl rfl rfl | exact s_store rfl rfl rfl sz34 rfl rfl (Nat.le_of_ble_eq_true rfl) rfl rfl rfl
      exact Exec.nil _ _
    conv => enter [4]; simp only [nrm_, List.mem_cons, List.not_mem_nil, List.filterMap_cons, List.filterMap_nil, List.cons_append, List.nil_append, ↓reduceIte, Nat.reduceEqDiff, or_false, or_true, false_or, List.map_cons, List.map_nil, Option.map_some, Option.map_none, Nat.reduceAdd, Nat.reduceMul, splice, chunk, Option.getD_some, Option.getD_none, Int.toNat_natCast, Int.toNat_zero, Nat.sub_zero, List.take_succ_cons, List.take_zero, List.drop_succ_cons, List.drop_zero, List.length_cons, List.length_nil, List.set_cons_succ, List.set_cons_zero, encD, List.length_map, kept2_eq, Int.toNat_natCast, Int.toNat_zero, List.drop_zero, Nat.sub_zero, ← List.map_take, cast_m1, sub_, zc34, zc68]
    refine k_ret ?_
    exact fin_val (.cons (by first | exact resOk_all rfl rfl agg34 | exact .agg rfl rfl agg34 rfl) .nil) ((imp_aggE (by repeat (first | exact ImpCs.nil | (apply ImpCs.cons; first | exact impC_tok _ _ _ | exact impC_nn _ _ | exact ImpC.refl _))) (by first | exact back_eq1 d keep m w hm hw | rfl))) (by first | trivial | simp [AV.bel, C.bel, belowL, belowL_i, belowA, encD, bel_cStr])
  · skip
    have hn : ¬ (torn = true ∧ 0 < kept2 keep d.falls.W.length) := by simpa using hb
    apply k_reg [3, 6] 208 
    · kernel_rfl
    · apply Exec.cons
      · first | exact s_load_all rfl rfl agg34 rfl | exact s_loade_all rfl (rowAt (by assumption)) agg34 rfl | exact s_load_agg rfl rfl agg34 rfl rfl rfl | exact s_loade_agg' rfl (rowAt (by assumption)) agg34 rfl rfl rfl | exact s_loade_agg rfl agg34 rfl rfl rfl
      apply Exec.cons
      · exact s_move rfl rfl rfl
      apply Exec.cons
      · exact s_callv call30 (rp_settled d.falls (d.falls.W.take (kept2 keep d.falls.W.length)) (fun x hx => by have := ok.Wr x (List.mem_of_mem_take hx); rw [show d.falls.K = d.K from rfl, hKl]; exact this) (by rw [show d.falls.K = d.K from rfl]; omega) (by rw [List.length_take]; omega)) rfl rfl rfl (by first | exact Imps.refl _ | (repeat (first | exact Imps.nil | apply Imps.cons | exact Imp.refl _ | exact Imp.c (impC_tok _ _ _) | exact Imp.c (impC_nilk _ _) | (apply Imp.agg; (repeat (first | exact ImpCs.nil | (apply ImpCs.cons; first | exact impC_tok _ _ _ | exact impC_nn _ _ | exact ImpC.refl _))))))) (by first | trivial | simp [AV.bel, C.bel, belowL, belowL_i, belowA, encD, bel_cStr]) rfl
      apply Exec.cons
      · first | exact s_store_row rfl rfl rfl sz34 (by first | omega | (simp [chunk]; done) | (simp [chunk]; omega)) rfl | exact s_storeA rfl rfl rfl rfl sz34 rfl rfl rfl | exact s_store_all rfl rfl rfl sz34 rfl rfl rfl rfl | exact s_store rfl rfl rfl sz34 rfl rfl (Nat.le_of_ble_eq_true rfl) rfl rfl rfl
      exact Exec.nil _ _
    conv => enter [4]; simp only [nrm_, List.mem_cons, List.not_mem_nil, List.filterMap_cons, List.filterMap_nil, List.cons_append, List.nil_append, ↓reduceIte, Nat.reduceEqDiff, or_false, or_true, false_or, List.map_cons, List.map_nil, Option.map_some, Option.map_none, Nat.reduceAdd, Nat.reduceMul, splice, chunk, Option.getD_some, Option.getD_none, Int.toNat_natCast, Int.toNat_zero, Nat.sub_zero, List.take_succ_cons, List.take_zero, List.drop_succ_cons, List.drop_zero, List.length_cons, List.length_nil, List.set_cons_succ, List.set_cons_zero, encD, List.length_map, kept2_eq, Int.toNat_natCast, Int.toNat_zero, List.drop_zero, Nat.sub_zero, ← List.map_take, cast_m1, sub_, zc34, zc68]
    refine k_seq ?_
    apply k_reg [3, 6] 232 
    · kernel_rfl
    · apply Exec.cons
      · exact s_buildSlice elem31 zero68 zok68 rfl rfl rfl rfl rfl rfl (by decide) rfl
      apply Exec.cons
      · first | exact s_fieldAddr rfl fld34_3 rfl | exact s_fieldAddre rfl fld34_3 rfl
      apply Exec.cons
      · first | exact s_store_row rfl rfl rfl sz31 (by first | omega | (simp [chunk]; done) | (simp [chunk]; omega)) rfl | exact s_storeA rfl rfl rfl rfl sz31 rfl rfl rfl | exact s_store_all rfl rfl rfl sz31 rfl rfl rfl rfl | exact s_store rfl rfl rfl sz31 rfl rfl (Nat.le_of_ble_eq_true rfl) rfl rfl rfl
      exact Exec.nil _ _
    conv => enter [4]; simp only [nrm_, List.mem_cons, List.not_mem_nil, List.filterMap_cons, List.filterMap_nil, List.cons_append, List.nil_append, ↓reduceIte, Nat.reduceEqDiff, or_false, or_true, false_or, List.map_cons, List.map_nil, Option.map_some, Option.map_none, Nat.reduceAdd, Nat.reduceMul, splice, chunk, Option.getD_some, Option.getD_none, Int.toNat_natCast, Int.toNat_zero, Nat.sub_zero, List.take_succ_cons, List.take_zero, List.drop_succ_cons, List.drop_zero, List.length_cons, List.length_nil, List.set_cons_succ, List.set_cons_zero, encD, List.length_map, kept2_eq, Int.toNat_natCast, Int.toNat_zero, List.drop_zero, Nat.sub_zero, ← List.map_take, cast_m1, sub_, zc34, zc68]
    refine k_seq ?_
    apply k_reg [3, 6] 248 
    · kernel_rfl
    · apply Exec.cons
      · first | exact s_fieldAddr rfl fld34_4 rfl | exact s_fieldAddre rfl fld34_4 rfl
      apply Exec.cons
      · first | exact s_store_row rfl rfl rfl sz4 (by first | omega | (simp [chunk]; done) | (simp [chunk]; omega)) rfl | exact s_storeA rfl rfl rfl rfl sz4 rfl rfl rfl | exact s_store_all rfl rfl rfl sz4 rfl rfl rfl rfl | exact s_store rfl rfl rfl sz4 rfl rfl (Nat.le_of_ble_eq_true rfl) rfl rfl rfl
      exact Exec.nil _ _
    conv => enter [4]; simp only [nrm_, List.mem_cons, List.not_mem_nil, List.filterMap_cons, List.filterMap_nil, List.cons_append, List.nil_append, ↓reduceIte, Nat.reduceEqDiff, or_false, or_true, false_or, List.map_cons, List.map_nil, Option.map_some, Option.map_none, Nat.reduceAdd, Nat.reduceMul, splice, chunk, Option.getD_some, Option.getD_none, Int.toNat_natCast, Int.toNat_zero, Nat.sub_zero, List.take_succ_cons, List.take_zero, List.drop_succ_cons, List.drop_zero, List.length_cons, List.length_nil, List.set_cons_succ, List.set_cons_zero, encD, List.length_map, kept2_eq, Int.toNat_natCast, Int.toNat_zero, List.drop_zero, Nat.sub_zero, ← List.map_take, cast_m1, sub_, zc34, zc68]
    refine k_seq ?_
    apply k_reg [3, 6] 264 
    · kernel_rfl
    · apply Exec.cons
      · first | exact s_fieldAddr rfl fld34_6 rfl | exact s_fieldAddre rfl fld34_6 rfl
      apply Exec.cons
      · first | exact s_store_row rfl rfl rfl sz3 (by first | omega | (simp [chunk]; done) | (simp [chunk]; omega)) rfl | exact s_storeA rfl rfl rfl rfl sz3 rfl rfl rfl | exact s_store_all rfl rfl rfl sz3 rfl rfl rfl rfl | exact s_store rfl rfl rfl sz3 rfl rfl (Nat.le_of_ble_eq_true rfl) rfl rfl rfl
      exact Exec.nil _ _
    conv => enter [4]; simp only [nrm_, List.mem_cons, List.not_mem_nil, List.filterMap_cons, List.filterMap_nil, List.cons_append, List.nil_append, ↓reduceIte, Nat.reduceEqDiff, or_false, or_true, false_or, List.map_cons, List.map_nil, Option.map_some, Option.map_none, Nat.reduceAdd, Nat.reduceMul, splice, chunk, Option.getD_some, Option.getD_none, Int.toNat_natCast, Int.toNat_zero, Nat.sub_zero, List.take_succ_cons, List.take_zero, List.drop_succ_cons, List.drop_zero, List.length_cons, List.length_nil, List.set_cons_succ, List.set_cons_zero, encD, List.length_map, kept2_eq, Int.toNat_natCast, Int.toNat_zero, List.drop_zero, Nat.sub_zero, ← List.map_take, cast_m1, sub_, zc34, zc68]
    refine k_seq ?_
    apply k_reg [6] 280 
    · kernel_rfl
    · apply Exec.cons
      · first | exact s_load_all rfl rfl agg34 rfl | exact s_loade_all rfl (rowAt (by assumption)) agg34 rfl | exact s_load_agg rfl rfl agg34 rfl rfl rfl | exact s_loade_agg' rfl (rowAt (by assumption)) agg34 rfl rfl rfl | exact s_loade_agg rfl agg34 rfl rfl rfl
      apply Exec.cons
      · first | exact s_store_row rfl rfl rfl sz34 (by first | omega | (simp [chunk]; done) | (simp [chunk]; omega)) rfl | exact s_storeA rfl rfl rfl rfl sz34 rfl rfl rfl | exact s_store_all rfl rfl rfl sz34 rfl rfl rfl rfl | exact s_store rfl rfl rfl sz34 rfl rfl (Nat.le_of_ble_eq_true rfl) rfl rfl rfl
      exact Exec.nil _ _
    conv => enter [4]; simp only [nrm_, List.mem_cons, List.not_mem_nil, List.filterMap_cons, List.filterMap_nil, List.cons_append, List.nil_append, ↓reduceIte, Nat.reduceEqDiff, or_false, or_true, false_or, List.map_cons, List.map_nil, Option.map_some, Option.map_none, Nat.reduceAdd, Nat.reduceMul, splice, chunk, Option.getD_some, Option.getD_none, Int.toNat_natCast, Int.toNat_zero, Nat.sub_zero, List.take_succ_cons, List.take_zero, List.drop_succ_cons, List.drop_zero, List.length_cons, List.length_nil, List.set_cons_succ, List.set_cons_zero, encD, List.length_map, kept2_eq, Int.toNat_natCast, Int.toNat_zero, List.drop_zero, Nat.sub_zero, ← List.map_take, cast_m1, sub_, zc34, zc68]
    refine k_ret ?_
    exact fin_val (.cons (by first | exact resOk_all rfl rfl agg34 | exact .agg rfl rfl agg34 rfl) .nil) ((imp_aggE (by repeat (first | exact ImpCs.nil | (apply ImpCs.cons; first | exact impC_tok _ _ _ | exact impC_nn _ _ | exact ImpC.refl _))) (by exact back_eq0 d keep torn hn))) (by first | trivial | simp [AV.bel, C.bel, belowL, belowL_i, belowA, encD, bel_cStr])

set_option maxRecDepth 100000 in
set_option maxHeartbeats 400000 in
theorem rp_new (s c : Nat) (hs : s ≤ 512) (hc : c ≤ 4096) : FnSpec Try.prog 9 0 0 [vv (.int .i64 (s : Int)), vv (.int .i64 (c : Int))] [] (.agg (encD (RD.new s c))) [] := by
  refine fn_specK Try.func9 rfl (Nat.le_of_ble_eq_true rfl) (by (first | trivial | (show _ < _; exact lt_ble rfl) | exact bel_cStr _ _ | exact bel_cB _ _ | (show belowL _ _; (repeat (first | exact trivial | (show _ < _; exact lt_ble rfl) | refine ⟨?_, ?_⟩)); done) |  decide | (simp [belowA, AV.bel, C.bel, belowL, belowL_i, heapBelow, R.bel, encD, bel_cStr]; done) | (intro p hp; simp at hp))) (by (first | trivial | (show _ < _; exact lt_ble rfl) | exact bel_cStr _ _ | exact bel_cB _ _ | (show belowL _ _; (repeat (first | exact trivial | (show _ < _; exact lt_ble rfl) | refine ⟨?_, ?_⟩)); done) |  decide | (simp [belowA, AV.bel, C.bel, belowL, belowL_i, heapBelow, R.bel, encD, bel_cStr]; done) | (intro p hp; simp at hp))) (by (first | trivial | (show _ < _; exact lt_ble rfl) | exact bel_cStr _ _ | exact bel_cB _ _ | (show belowL _ _; (repeat (first | exact trivial | (show _ < _; exact lt_ble rfl) | refine ⟨?_, ?_⟩)); done) |  decide | (simp [belowA, AV.bel, C.bel, belowL, belowL_i, heapBelow, R.bel, encD, bel_cStr]; done) | (intro p hp; simp at hp))) (by (first | trivial | (show _ < _; exact lt_ble rfl) | exact bel_cStr _ _ | exact bel_cB _ _ | (show belowL _ _; (repeat (first | exact trivial | (show _ < _; exact lt_ble rfl) | refine ⟨?_, ?_⟩)); done) |  decide | (simp [belowA, AV.bel, C.bel, belowL, belowL_i, heapBelow, R.bel, encD, bel_cStr]; done) | (intro p hp; simp at hp))) (by decide) (fun E h0 => ?_)
  refine k_seq ?_
  apply k_reg [0, 1, 4] 8 
  · kernel_rfl
  · apply Exec.cons
    · exact s_alloc zero34 zov34 rfl
    exact Exec.nil _ _
  conv => enter [4]; simp only [nrm_, List.mem_cons, List.not_mem_nil, List.filterMap_cons, List.filterMap_nil, List.cons_append, List.nil_append, ↓reduceIte, Nat.reduceEqDiff, or_false, or_true, false_or, List.map_cons, List.map_nil, Option.map_some, Option.map_none, Nat.reduceAdd, Nat.reduceMul, splice, chunk, Option.getD_some, Option.getD_none, Int.toNat_natCast, Int.toNat_zero, Nat.sub_zero, List.take_succ_cons, List.take_zero, List.drop_succ_cons, List.drop_zero, List.length_cons, List.length_nil, List.set_cons_succ, List.set_cons_zero, sub_, zd34]
  refine k_seq ?_
  apply k_reg [0, 1, 4, 5] 48 
  · kernel_rfl
  · apply Exec.cons
    · exact s_move rfl rfl rfl
    apply Exec.cons
    · exact s_move rfl rfl rfl
    apply Exec.cons
    · exact s_build str34 zov34 rfl rfl rfl rfl
    apply Exec.cons
    · exact s_alloc zero34 zov34 rfl
    apply Exec.cons
    · first | exact s_store_row rfl rfl rfl sz34 (by first | omega | (simp [chunk]; done) | (simp [chunk]; omega)) rfl | exact s_storeA rfl rfl rfl rfl sz34 rfl rfl rfl | exact s_store_all rfl rfl rfl sz34 rfl rfl rfl rfl | exact s_store rfl rfl rfl sz34 rfl rfl (Nat.le_of_ble_eq_true rfl) rfl rfl rfl
    exact Exec.nil _ _
  conv => enter [4]; simp only [nrm_, List.mem_cons, List.not_mem_nil, List.filterMap_cons, List.filterMap_nil, List.cons_append, List.nil_append, ↓reduceIte, Nat.reduceEqDiff, or_false, or_true, false_or, List.map_cons, List.map_nil, Option.map_some, Option.map_none, Nat.reduceAdd, Nat.reduceMul, splice, chunk, Option.getD_some, Option.getD_none, Int.toNat_natCast, Int.toNat_zero, Nat.sub_zero, List.take_succ_cons, List.take_zero, List.drop_succ_cons, List.drop_zero, List.length_cons, List.length_nil, List.set_cons_succ, List.set_cons_zero, sub_, zd34]
  refine k_seq ?_
  apply k_reg [1, 4, 5, 6] 72 
  · kernel_rfl
  · apply Exec.cons
    · exact s_move rfl rfl rfl
    apply Exec.cons
    · exact s_callv call18 (rp_zeros s hs) rfl rfl rfl (by first | exact Imps.refl _ | (repeat (first | exact Imps.nil | apply Imps.cons | exact Imp.refl _ | exact Imp.c (impC_tok _ _ _) | exact Imp.c (impC_nilk _ _) | (apply Imp.agg; (repeat (first | exact ImpCs.nil | (apply ImpCs.cons; first | exact impC_tok _ _ _ | exact impC_nn _ _ | exact ImpC.refl _))))))) (by first | trivial | simp [AV.bel, C.bel, belowL, belowL_i, belowA, encD, bel_cStr]) rfl
    apply Exec.cons
    · exact s_assign rfl rfl rfl
    exact Exec.nil _ _
  conv => enter [4]; simp only [nrm_, List.mem_cons, List.not_mem_nil, List.filterMap_cons, List.filterMap_nil, List.cons_append, List.nil_append, ↓reduceIte, Nat.reduceEqDiff, or_false, or_true, false_or, List.map_cons, List.map_nil, Option.map_some, Option.map_none, Nat.reduceAdd, Nat.reduceMul, splice, chunk, Option.getD_some, Option.getD_none, Int.toNat_natCast, Int.toNat_zero, Nat.sub_zero, List.take_succ_cons, List.take_zero, List.drop_succ_cons, List.drop_zero, List.length_cons, List.length_nil, List.set_cons_succ, List.set_cons_zero, sub_, zd34]
  refine k_seq ?_
  refine k_seq ?_
  refine k_niltokB 32 2 9 1 rfl rfl ?_
  conv => enter [4]; simp only [nrm_, List.mem_cons, List.not_mem_nil, List.filterMap_cons, List.filterMap_nil, List.cons_append, List.nil_append, ↓reduceIte, Nat.reduceEqDiff, or_false, or_true, false_or, List.map_cons, List.map_nil, Option.map_some, Option.map_none, Nat.reduceAdd, Nat.reduceMul, splice, chunk, Option.getD_some, Option.getD_none, Int.toNat_natCast, Int.toNat_zero, Nat.sub_zero, List.take_succ_cons, List.take_zero, List.drop_succ_cons, List.drop_zero, List.length_cons, List.length_nil, List.set_cons_succ, List.set_cons_zero, sub_, zd34]
  apply k_reg [1, 4, 5, 6, 7] 81 
  · kernel_rfl
  · apply Exec.cons
    · exact s_assign rfl rfl rfl
    exact Exec.nil _ _
  conv => enter [4]; simp only [nrm_, List.mem_cons, List.not_mem_nil, List.filterMap_cons, List.filterMap_nil, List.cons_append, List.nil_append, ↓reduceIte, Nat.reduceEqDiff, or_false, or_true, false_or, List.map_cons, List.map_nil, Option.map_some, Option.map_none, Nat.reduceAdd, Nat.reduceMul, splice, chunk, Option.getD_some, Option.getD_none, Int.toNat_natCast, Int.toNat_zero, Nat.sub_zero, List.take_succ_cons, List.take_zero, List.drop_succ_cons, List.drop_zero, List.length_cons, List.length_nil, List.set_cons_succ, List.set_cons_zero, sub_, zd34]
  refine k_block ?_
  refine k_loopO (X := Nat × List (List I)) 81 [7] (fun x => [(7, vv (.int .i64 (x.1 : Int)))]) [32, 72] (fun x => [(32, some (.box [.i (.v (.int .i64 (s : Int))), .i (.v (.int .i64 (c : Int))), .tok 72 1 x.2, .i (.v (.slice none 0 0)), .i (.v (.bool false)), .i (.v (.int .u64 0)), .i (.v (.int .i64 (-1)))])), (72, some (.tok 9 1))]) (fun x => x.1 ≤ c ∧ x.2 = List.replicate x.1 [.v (str (List.replicate s 0))]) (fun x => c - x.1) (0, []) ⟨Nat.zero_le _, rfl⟩ ?_ ?_
  · exact weak_to h0 (Nat.le_of_ble_eq_true rfl) (by (repeat (first | exact trivial | refine ⟨⟨_, rfl, Imp.refl _⟩, (by first | trivial | (show _ < _; exact lt_ble rfl) | exact bel_cStr _ _ | exact bel_cB _ _ | (show belowL _ _; (repeat (first | exact trivial | (show _ < _; exact lt_ble rfl) | refine ⟨?_, ?_⟩)); done) |  decide | simp [AV.bel, C.bel, belowL, belowL_i, belowA, encD, bel_cStr]), ?_⟩))) (by (repeat (first | exact trivial | refine ⟨rfl, lt_ble rfl, (by first | trivial | (show _ < _; exact lt_ble rfl) | exact bel_cStr _ _ | exact bel_cB _ _ | (show belowL _ _; (repeat (first | exact trivial | (show _ < _; exact lt_ble rfl) | refine ⟨?_, ?_⟩)); done) |  decide | simp [AV.bel, C.bel, belowL, belowL_i, belowA, R.bel, encD, bel_cStr]), ?_⟩))) rfl
  · rintro ⟨k, rows⟩ ⟨hk, hrow⟩
    conv => enter [4]; simp only [nrm_, List.mem_cons, List.not_mem_nil, List.filterMap_cons, List.filterMap_nil, List.cons_append, List.nil_append, ↓reduceIte, Nat.reduceEqDiff, or_false, or_true, false_or, List.map_cons, List.map_nil, Option.map_some, Option.map_none, Nat.reduceAdd, Nat.reduceMul, splice, chunk, Option.getD_some, Option.getD_none, Int.toNat_natCast, Int.toNat_zero, Nat.sub_zero, List.take_succ_cons, List.take_zero, List.drop_succ_cons, List.drop_zero, List.length_cons, List.length_nil, List.set_cons_succ, List.set_cons_zero, sub_, zd34]
    simp only at hk hrow
    have hrl : rows.length = k := by rw [hrow]; simp
    refine k_seq ?_
    refine k_seq ?_
    apply k_reg [1, 4, 5, 6, 7, 15] 105 
    · kernel_rfl
    · apply Exec.cons
      · exact s_move rfl rfl rfl
      apply Exec.cons
      · exact s_move rfl rfl rfl
      apply Exec.cons
      · exact s_bin rfl rfl rfl rfl rfl
      exact Exec.nil _ _
    conv => enter [4]; simp only [nrm_, List.mem_cons, List.not_mem_nil, List.filterMap_cons, List.filterMap_nil, List.cons_append, List.nil_append, ↓reduceIte, Nat.reduceEqDiff, or_false, or_true, false_or, List.map_cons, List.map_nil, Option.map_some, Option.map_none, Nat.reduceAdd, Nat.reduceMul, splice, chunk, Option.getD_some, Option.getD_none, Int.toNat_natCast, Int.toNat_zero, Nat.sub_zero, List.take_succ_cons, List.take_zero, List.drop_succ_cons, List.drop_zero, List.length_cons, List.length_nil, List.set_cons_succ, List.set_cons_zero, sub_, zd34]
    refine k_cond rfl (fun hb => ?_) (fun hb => ?_)
    · skip
      have hlt : k < c := by simpa using hb
      refine k_skip ?_
      refine k_seq ?_
      refine k_block ?_
      apply k_regl 161 
      · kernel_rfl
      · apply Exec.cons
        · first | exact s_fieldAddr rfl fld34_2 rfl | exact s_fieldAddre rfl fld34_2 rfl
        apply Exec.cons
        · first | exact s_load rfl rfl one30 rfl rfl | exact s_load_row rfl rfl one30 (by first | rfl | assumption | (simp; done)) rfl | exact s_loade' rfl (rowAt (by assumption)) one30 rfl rfl | exact s_loade rfl one30 rfl rfl
        apply Exec.cons
        · exact s_move rfl rfl rfl
        apply Exec.cons
        · exact s_buildSlice elem30 zero9 zok9 rfl rfl rfl rfl rfl rfl (by decide) rfl
        apply Exec.cons
        · first | exact s_append elem30 rfl rfl rfl (by first | exact ImpC.refl _ | exact impC_tok _ _ _ | exact impC_nn _ _ | exact impC_nilk _ _) (by first | omega | (simp [chunk]; done) | (simp [chunk]; omega)) rfl | exact s_append_nil elem30 rfl rfl (by first | exact ImpC.refl _ | exact impC_tok _ _ _ | exact impC_nn _ _ | exact impC_nilk _ _) (by first | omega | (simp [chunk]; done) | (simp [chunk]; omega)) rfl
        apply Exec.cons
        · first | exact s_fieldAddr rfl fld34_2 rfl | exact s_fieldAddre rfl fld34_2 rfl
        apply Exec.cons
        · first | exact s_store_row rfl rfl rfl sz30 (by first | omega | (simp [chunk]; done) | (simp [chunk]; omega)) rfl | exact s_storeA rfl rfl rfl rfl sz30 rfl rfl rfl | exact s_store_all rfl rfl rfl sz30 rfl rfl rfl rfl | exact s_store rfl rfl rfl sz30 rfl rfl (Nat.le_of_ble_eq_true rfl) rfl rfl rfl
        exact Exec.nil _ _
      try (refine k_keep [1, 4, 5, 6, 7] ?_; conv => enter [4]; simp only [nrm_, List.mem_cons, List.not_mem_nil, List.filterMap_cons, List.filterMap_nil, List.cons_append, List.nil_append, ↓reduceIte, Nat.reduceEqDiff, or_false, or_true, false_or, List.map_cons, List.map_nil, Option.map_some, Option.map_none, Nat.reduceAdd, Nat.reduceMul, splice, chunk, Option.getD_some, Option.getD_none, Int.toNat_natCast, Int.toNat_zero, Nat.sub_zero, List.take_succ_cons, List.take_zero, List.drop_succ_cons, List.drop_zero, List.length_cons, List.length_nil, List.set_cons_succ, List.set_cons_zero, sub_, zd34])
      apply k_regl 185 
      · kernel_rfl
      · apply Exec.cons
        · exact s_move rfl rfl rfl
        apply Exec.cons
        · first | exact s_add rfl rfl (in_i64 (by omega) (by omega)) rfl | exact s_bin rfl rfl rfl rfl rfl
        apply Exec.cons
        · exact s_assign rfl rfl rfl
        exact Exec.nil _ _
      try (refine k_keep [1, 4, 5, 6, 7] ?_; conv => enter [4]; simp only [nrm_, List.mem_cons, List.not_mem_nil, List.filterMap_cons, List.filterMap_nil, List.cons_append, List.nil_append, ↓reduceIte, Nat.reduceEqDiff, or_false, or_true, false_or, List.map_cons, List.map_nil, Option.map_some, Option.map_none, Nat.reduceAdd, Nat.reduceMul, splice, chunk, Option.getD_some, Option.getD_none, Int.toNat_natCast, Int.toNat_zero, Nat.sub_zero, List.take_succ_cons, List.take_zero, List.drop_succ_cons, List.drop_zero, List.length_cons, List.length_nil, List.set_cons_succ, List.set_cons_zero, sub_, zd34])
      exact ⟨(k + 1, rows ++ [[.v (str (List.replicate s 0))]]), ⟨by simp only; omega, by simp only; rw [hrow, List.replicate_succ']⟩, by simp only; omega, weak_ren [(72, 137), (137, 72)] h0 (Nat.le_of_ble_eq_true rfl) rfl (by (repeat (first | exact trivial | refine ⟨⟨_, rfl, Imp.refl _⟩, (by first | trivial | (show _ < _; exact lt_ble rfl) | exact bel_cStr _ _ | exact bel_cB _ _ | (show belowL _ _; (repeat (first | exact trivial | (show _ < _; exact lt_ble rfl) | refine ⟨?_, ?_⟩)); done) |  decide | simp [AV.bel, C.bel, belowL, belowL_i, belowA, encD, bel_cStr]), ?_⟩))) (by (repeat (first | exact trivial | refine ⟨rfl, lt_ble rfl, (by first | trivial | (show _ < _; exact lt_ble rfl) | exact bel_cStr _ _ | exact bel_cB _ _ | (show belowL _ _; (repeat (first | exact trivial | (show _ < _; exact lt_ble rfl) | refine ⟨?_, ?_⟩)); done) |  decide | simp [AV.bel, C.bel, belowL, belowL_i, belowA, R.bel, encD, bel_cStr]), ?_⟩))) rfl⟩
    · skip
      have hge : ¬ k < c := by simpa using hb
      obtain rfl : k = c := by omega
      refine k_exit rfl ?_
      refine k_seq ?_
      apply k_reg [4] 121 
      · kernel_rfl
      · apply Exec.cons
        · first | exact s_load_all rfl rfl agg34 rfl | exact s_loade_all rfl (rowAt (by assumption)) agg34 rfl | exact s_load_agg rfl rfl agg34 rfl rfl rfl | exact s_loade_agg' rfl (rowAt (by assumption)) agg34 rfl rfl rfl | exact s_loade_agg rfl agg34 rfl rfl rfl
        apply Exec.cons
        · first | exact s_store_row rfl rfl rfl sz34 (by first | omega | (simp [chunk]; done) | (simp [chunk]; omega)) rfl | exact s_storeA rfl rfl rfl rfl sz34 rfl rfl rfl | exact s_store_all rfl rfl rfl sz34 rfl rfl rfl rfl | exact s_store rfl rfl rfl sz34 rfl rfl (Nat.le_of_ble_eq_true rfl) rfl rfl rfl
        exact Exec.nil _ _
      conv => enter [4]; simp only [nrm_, List.mem_cons, List.not_mem_nil, List.filterMap_cons, List.filterMap_nil, List.cons_append, List.nil_append, ↓reduceIte, Nat.reduceEqDiff, or_false, or_true, false_or, List.map_cons, List.map_nil, Option.map_some, Option.map_none, Nat.reduceAdd, Nat.reduceMul, splice, chunk, Option.getD_some, Option.getD_none, Int.toNat_natCast, Int.toNat_zero, Nat.sub_zero, List.take_succ_cons, List.take_zero, List.drop_succ_cons, List.drop_zero, List.length_cons, List.length_nil, List.set_cons_succ, List.set_cons_zero, sub_, zd34]
      refine k_ret ?_
      exact fin_val (.cons (resOk_all rfl rfl agg34) .nil) (imp_aggE (.cons (.refl _) (.cons (.refl _) (.cons (impC_tok _ _ _) (.cons (impC_nilk 2 0) (.cons (.refl _) (.cons (.refl _) (.cons (.refl _) .nil))))))) (by simp [encD, RD.new, hrow, eStr])) (by simp [AV.bel, C.bel, belowL, belowL_i, belowA, encD])

set_option maxRecDepth 100000 in
set_option maxHeartbeats 400000 in
theorem rp_spoil (d : RD) (ok : RDok d) (i at_ : Int) (by_ : UInt8) : FnSpec Try.prog 26 0 0 [.agg (encD d), vv (.int .i64 i), vv (.int .i64 at_), vv (.int .u8 (by_.toNat : Int))] [] (.tup [vv (.int .i64 (d.spoil i at_ by_).1), .agg (encD (d.spoil i at_ by_).2)]) [] := by
  refine fn_specK Try.func26 rfl (Nat.le_of_ble_eq_true rfl) (by (first | trivial | (show _ < _; exact lt_ble rfl) | exact bel_cStr _ _ | exact bel_cB _ _ | (show belowL _ _; (repeat (first | exact trivial | (show _ < _; exact lt_ble rfl) | refine ⟨?_, ?_⟩)); done) |  decide | (simp [belowA, AV.bel, C.bel, belowL, belowL_i, heapBelow, R.bel, encD, bel_cStr]; done) | (intro p hp; simp at hp))) (by (first | trivial | (show _ < _; exact lt_ble rfl) | exact bel_cStr _ _ | exact bel_cB _ _ | (show belowL _ _; (repeat (first | exact trivial | (show _ < _; exact lt_ble rfl) | refine ⟨?_, ?_⟩)); done) |  decide | (simp [belowA, AV.bel, C.bel, belowL, belowL_i, heapBelow, R.bel, encD, bel_cStr]; done) | (intro p hp; simp at hp))) (by (first | trivial | (show _ < _; exact lt_ble rfl) | exact bel_cStr _ _ | exact bel_cB _ _ | (show belowL _ _; (repeat (first | exact trivial | (show _ < _; exact lt_ble rfl) | refine ⟨?_, ?_⟩)); done) |  decide | (simp [belowA, AV.bel, C.bel, belowL, belowL_i, heapBelow, R.bel, encD, bel_cStr]; done) | (intro p hp; simp at hp))) (by (first | trivial | (show _ < _; exact lt_ble rfl) | exact bel_cStr _ _ | exact bel_cB _ _ | (show belowL _ _; (repeat (first | exact trivial | (show _ < _; exact lt_ble rfl) | refine ⟨?_, ?_⟩)); done) |  decide | (simp [belowA, AV.bel, C.bel, belowL, belowL_i, heapBelow, R.bel, encD, bel_cStr]; done) | (intro p hp; simp at hp))) (by decide) (fun E h0 => ?_)
  have hKl := ok.Kl
  have hct := ok.ct
  have hsz := ok.sz
  refine k_seq ?_
  apply k_reg [1, 2, 3, 4, 9, 14, 15, 16, 17, 20, 21, 24, 25, 26, 27] 24 
  · kernel_rfl
  · apply Exec.cons
    · exact s_box rfl rfl rfl rfl
    apply Exec.cons
    · exact s_assign rfl rfl rfl
    apply Exec.cons
    · exact s_alloc zero34 zok34 rfl
    exact Exec.nil _ _
  conv => enter [4]; simp only [nrm_, List.mem_cons, List.not_mem_nil, List.filterMap_cons, List.filterMap_nil, List.cons_append, List.nil_append, ↓reduceIte, Nat.reduceEqDiff, or_false, or_true, false_or, List.map_cons, List.map_nil, Option.map_some, Option.map_none, Nat.reduceAdd, Nat.reduceMul, splice, chunk, Option.getD_some, Option.getD_none, Int.toNat_natCast, Int.toNat_zero, Nat.sub_zero, List.take_succ_cons, List.take_zero, List.drop_succ_cons, List.drop_zero, List.length_cons, List.length_nil, List.set_cons_succ, List.set_cons_zero, encD, List.length_map, set_cB, sub_, zc34, zc68]
  refine k_seq ?_
  refine k_seq ?_
  apply k_reg [1, 2, 3, 4, 9, 28] 168 
  · kernel_rfl
  · apply Exec.cons
    · exact s_move rfl rfl rfl
    apply Exec.cons
    · exact s_bin rfl rfl rfl rfl rfl
    apply Exec.cons
    · exact s_move rfl rfl rfl
    apply Exec.cons
    · exact s_guard (c := _) rfl rfl rfl (by first | exact hpre1 rfl | (intro _ _ h; simp [get] at h)) rfl (fun hb => s_move rfl rfl rfl)
    apply Exec.cons
    · first | exact s_guard (c := _) rfl rfl rfl (by first | exact hpre1 rfl | (intro _ _ h; simp [get] at h)) rfl (fun hb => s_fieldAddr rfl fld34_1 rfl) | exact s_guard (c := _) rfl rfl rfl (by first | exact hpre1 rfl | (intro _ _ h; simp [get] at h)) rfl (fun hb => s_fieldAddre rfl fld34_1 rfl)
    apply Exec.cons
    · first | exact s_guard (c := _) rfl rfl rfl (by first | exact hpre1 rfl | (intro _ _ h; simp [get] at h)) rfl (fun hb => s_load (evif (bv := .tup []) hb rfl) rfl one3 rfl rfl) | exact s_guard (c := _) rfl rfl rfl (by first | exact hpre1 rfl | (intro _ _ h; simp [get] at h)) rfl (fun hb => s_load_row (evif (bv := .tup []) hb rfl) rfl one3 (by first | rfl | assumption | (simp; done)) rfl) | exact s_guard (c := _) rfl rfl rfl (by first | exact hpre1 rfl | (intro _ _ h; simp [get] at h)) rfl (fun hb => s_loade' (evif (bv := .tup []) hb rfl) (rowAt (by assumption)) one3 rfl rfl) | exact s_guard (c := _) rfl rfl rfl (by first | exact hpre1 rfl | (intro _ _ h; simp [get] at h)) rfl (fun hb => s_loade (evif (bv := .tup []) hb rfl) one3 rfl rfl)
    apply Exec.cons
    · exact s_guard (c := _) rfl rfl rfl (by first | exact hpre1 rfl | (intro _ _ h; simp [get] at h)) rfl (fun hb => s_bin (evif (bv := .tup []) hb rfl) (evif (bv := .tup []) hb rfl) rfl rfl rfl)
    apply Exec.cons
    · first | exact s_or (bv := .tup []) rfl rfl rfl rfl | exact s_or rfl rfl rfl rfl | exact s_pick rfl rfl rfl (fun h => by simp [h]) (fun h => by simp [h]) rfl rfl rfl
    apply Exec.cons
    · exact s_move rfl rfl rfl
    apply Exec.cons
    · exact s_guard (c := _) rfl rfl rfl (by first | exact hpre1 rfl | (intro _ _ h; simp [get] at h)) rfl (fun hb => s_move rfl rfl rfl)
    apply Exec.cons
    · exact s_guard (c := _) rfl rfl rfl (by first | exact hpre1 rfl | (intro _ _ h; simp [get] at h)) rfl (fun hb => s_bin (evif (bv := .tup []) hb rfl) rfl rfl rfl rfl)
    apply Exec.cons
    · first | exact s_or (bv := .tup []) rfl rfl rfl rfl | exact s_or rfl rfl rfl rfl | exact s_pick rfl rfl rfl (fun h => by simp [h]) (fun h => by simp [h]) rfl rfl rfl
    apply Exec.cons
    · exact s_move rfl rfl rfl
    apply Exec.cons
    · exact s_guard (c := _) rfl rfl rfl (by first | exact hpre1 rfl | (intro _ _ h; simp [get] at h)) rfl (fun hb => s_move rfl rfl rfl)
    apply Exec.cons
    · first | exact s_guard (c := _) rfl rfl rfl (by first | exact hpre1 rfl | (intro _ _ h; simp [get] at h)) rfl (fun hb => s_fieldAddr rfl fld34_0 rfl) | exact s_guard (c := _) rfl rfl rfl (by first | exact hpre1 rfl | (intro _ _ h; simp [get] at h)) rfl (fun hb => s_fieldAddre rfl fld34_0 rfl)
    apply Exec.cons
    · first | exact s_guard (c := _) rfl rfl rfl (by first | exact hpre1 rfl | (intro _ _ h; simp [get] at h)) rfl (fun hb => s_load (evif (bv := .tup []) hb rfl) rfl one3 rfl rfl) | exact s_guard (c := _) rfl rfl rfl (by first | exact hpre1 rfl | (intro _ _ h; simp [get] at h)) rfl (fun hb => s_load_row (evif (bv := .tup []) hb rfl) rfl one3 (by first | rfl | assumption | (simp; done)) rfl) | exact s_guard (c := _) rfl rfl rfl (by first | exact hpre1 rfl | (intro _ _ h; simp [get] at h)) rfl (fun hb => s_loade' (evif (bv := .tup []) hb rfl) (rowAt (by assumption)) one3 rfl rfl) | exact s_guard (c := _) rfl rfl rfl (by first | exact hpre1 rfl | (intro _ _ h; simp [get] at h)) rfl (fun hb => s_loade (evif (bv := .tup []) hb rfl) one3 rfl rfl)
    apply Exec.cons
    · exact s_guard (c := _) rfl rfl rfl (by first | exact hpre1 rfl | (intro _ _ h; simp [get] at h)) rfl (fun hb => s_bin (evif (bv := .tup []) hb rfl) (evif (bv := .tup []) hb rfl) rfl rfl rfl)
    apply Exec.cons
    · first | exact s_or (bv := .tup []) rfl rfl rfl rfl | exact s_or rfl rfl rfl rfl | exact s_pick rfl rfl rfl (fun h => by simp [h]) (fun h => by simp [h]) rfl rfl rfl
    exact Exec.nil _ _
  conv => enter [4]; simp only [nrm_, List.mem_cons, List.not_mem_nil, List.filterMap_cons, List.filterMap_nil, List.cons_append, List.nil_append, ↓reduceIte, Nat.reduceEqDiff, or_false, or_true, false_or, List.map_cons, List.map_nil, Option.map_some, Option.map_none, Nat.reduceAdd, Nat.reduceMul, splice, chunk, Option.getD_some, Option.getD_none, Int.toNat_natCast, Int.toNat_zero, Nat.sub_zero, List.take_succ_cons, List.take_zero, List.drop_succ_cons, List.drop_zero, List.length_cons, List.length_nil, List.set_cons_succ, List.set_cons_zero, encD, List.length_map, set_cB, sub_, zc34, zc68]
  refine k_cond rfl (fun hb => ?_) (fun hb => ?_)
  · skip
    have hi : (i < 0 ∨ (d.c : Int) ≤ i) ∨ at_ < 0 ∨ (d.s : Int) ≤ at_ := by simp at hb; omega
    refine k_seq ?_
    apply k_dreg [8, 9] 192 mixed
    · kernel_rfl
    · apply Exec.cons
      · first | exact s_load_all rfl rfl agg34 rfl | exact s_loade_all rfl (rowAt (by assumption)) agg34 rfl | exact s_load_agg rfl rfl agg34 rfl rfl rfl | exact s_loade_agg' rfl (rowAt (by assumption)) agg34 rfl rfl rfl | exact s_loade_agg rfl agg34 rfl rfl rfl
      apply Exec.cons
      · exact s_assign rfl rfl rfl
      apply Exec.cons
      · first | exact s_store_row rfl rfl rfl sz34 (by first | omega | (simp [chunk]; done) | (simp [chunk]; omega)) rfl | exact s_storeA rfl rfl rfl rfl sz34 rfl rfl rfl | exact s_store_all rfl rfl rfl sz34 rfl rfl rfl rfl | exact s_store rfl rfl rfl sz34 rfl rfl (Nat.le_of_ble_eq_true rfl) rfl rfl rfl
      exact Exec.nil _ _
    · kernel_rfl
    conv => enter [4]; simp only [nrm_, List.mem_cons, List.not_mem_nil, List.filterMap_cons, List.filterMap_nil, List.cons_append, List.nil_append, ↓reduceIte, Nat.reduceEqDiff, or_false, or_true, false_or, List.map_cons, List.map_nil, Option.map_some, Option.map_none, Nat.reduceAdd, Nat.reduceMul, splice, chunk, Option.getD_some, Option.getD_none, Int.toNat_natCast, Int.toNat_zero, Nat.sub_zero, List.take_succ_cons, List.take_zero, List.drop_succ_cons, List.drop_zero, List.length_cons, List.length_nil, List.set_cons_succ, List.set_cons_zero, encD, List.length_map, set_cB, sub_, zc34, zc68]
    refine k_ret ?_
    exact fin_val (.cons (.tmp rfl) (.cons (by first | exact resOk_all rfl rfl agg34 | exact .agg rfl rfl agg34 rfl) .nil)) ((Imp.tup (.cons (imp_eq (by rw [RD.spoil, if_pos hi])) (.cons (imp_aggE (by repeat (first | exact ImpCs.nil | (apply ImpCs.cons; first | exact impC_tok _ _ _ | exact impC_nn _ _ | exact ImpC.refl _))) (by rw [RD.spoil, if_pos hi]; rfl)) .nil)))) (by first | trivial | simp [AV.bel, C.bel, belowL, belowL_i, belowA, encD, bel_cStr])
  · skip
    have hi : ¬ ((i < 0 ∨ (d.c : Int) ≤ i) ∨ at_ < 0 ∨ (d.s : Int) ≤ at_) := by simp at hb; omega
    have hi0 : 0 ≤ i ∧ i < d.c := by omega
    have ha0 : 0 ≤ at_ ∧ at_ < d.s := by omega
    obtain ⟨s0, hs0⟩ : ∃ s0, d.K[i.toNat]? = some s0 := ⟨_, List.getElem?_eq_getElem (by omega)⟩
    have hsl := ok.Ks s0 (List.mem_of_getElem? hs0)
    obtain ⟨b0, hb0⟩ : ∃ b0, s0[at_.toNat]? = some b0 := ⟨_, List.getElem?_eq_getElem (by omega)⟩
    have hcx : (s0.map fun b => C.i (.v (.int .u8 (b.toNat : Int))))[at_.toNat]? = some (C.i (.v (.int .u8 (b0.toNat : Int)))) := by rw [List.getElem?_map, hb0]; rfl
    refine k_skip ?_
    refine k_seq ?_
    apply k_reg [1, 2, 3, 4, 9, 10] 224 
    · kernel_rfl
    · apply Exec.cons
      · first | exact s_fieldAddr rfl fld34_2 rfl | exact s_fieldAddre rfl fld34_2 rfl
      apply Exec.cons
      · first | exact s_load rfl rfl one30 rfl rfl | exact s_load_row rfl rfl one30 (by first | rfl | assumption | (simp; done)) rfl | exact s_loade' rfl (rowAt (by assumption)) one30 rfl rfl | exact s_loade rfl one30 rfl rfl
      apply Exec.cons
      · exact s_move rfl rfl rfl
      apply Exec.cons
      · first | exact s_indexAddr Try.underlying30 sz9 rfl (by first | exact ImpC.refl _ | exact impC_tok _ _ _ | exact impC_nn _ _ | exact impC_nilk _ _) rfl (by first | omega | (simp [chunk]; done) | (simp [chunk]; omega)) (by first | omega | (simp [chunk]; done) | (simp [chunk]; omega)) rfl | exact s_indexAddr_own1 Try.underlying30 sz9 rfl rfl rfl (by first | omega | (simp [chunk]; done) | (simp [chunk]; omega)) (by first | omega | (simp [chunk]; done) | (simp [chunk]; omega)) rfl
      apply Exec.cons
      · first | exact s_load rfl rfl one9 rfl rfl | exact s_load_row rfl rfl one9 (by first | rfl | assumption | (simp; done)) rfl | exact s_loade' rfl (rowAt (by assumption)) one9 rfl rfl | exact s_loade rfl one9 rfl rfl
      apply Exec.cons
      · exact s_stb Try.underlying9 Try.underlying38 Try.underlying5 rfl rfl
      apply Exec.cons
      · exact s_assign rfl rfl rfl
      exact Exec.nil _ _
    conv => enter [4]; simp only [nrm_, List.mem_cons, List.not_mem_nil, List.filterMap_cons, List.filterMap_nil, List.cons_append, List.nil_append, ↓reduceIte, Nat.reduceEqDiff, or_false, or_true, false_or, List.map_cons, List.map_nil, Option.map_some, Option.map_none, Nat.reduceAdd, Nat.reduceMul, splice, chunk, Option.getD_some, Option.getD_none, Int.toNat_natCast, Int.toNat_zero, Nat.sub_zero, List.take_succ_cons, List.take_zero, List.drop_succ_cons, List.drop_zero, List.length_cons, List.length_nil, List.set_cons_succ, List.set_cons_zero, encD, List.length_map, set_cB, sub_, zc34, zc68]
    refine k_seq ?_
    apply k_reg [1, 4, 9, 10] 304 
    · kernel_rfl
    · apply Exec.cons
      · exact s_move rfl rfl rfl
      apply Exec.cons
      · exact s_move rfl rfl rfl
      apply Exec.cons
      · exact s_move rfl rfl rfl
      apply Exec.cons
      · exact s_move rfl rfl rfl
      apply Exec.cons
      · first | exact s_indexAddr Try.underlying38 sz5 rfl (by first | exact ImpC.refl _ | exact impC_tok _ _ _ | exact impC_nn _ _ | exact impC_nilk _ _) rfl (by first | omega | (simp [chunk]; done) | (simp [chunk]; omega)) (by first | omega | (simp [chunk]; done) | (simp [chunk]; omega)) rfl | exact s_indexAddr_own1 Try.underlying38 sz5 rfl rfl rfl (by first | omega | (simp [chunk]; done) | (simp [chunk]; omega)) (by first | omega | (simp [chunk]; done) | (simp [chunk]; omega)) rfl
      apply Exec.cons
      · exact s_load_row rfl rfl one5 hcx rfl
      apply Exec.cons
      · exact s_move rfl rfl rfl
      apply Exec.cons
      · exact s_as (vv (.int .u8 ((b0 ^^^ by_).toNat : Int))) (s_bin rfl rfl rfl rfl rfl) (imp_v (xor_b8 b0 by_))
      apply Exec.cons
      · first | exact s_indexAddr Try.underlying38 sz5 rfl (by first | exact ImpC.refl _ | exact impC_tok _ _ _ | exact impC_nn _ _ | exact impC_nilk _ _) rfl (by first | omega | (simp [chunk]; done) | (simp [chunk]; omega)) (by first | omega | (simp [chunk]; done) | (simp [chunk]; omega)) rfl | exact s_indexAddr_own1 Try.underlying38 sz5 rfl rfl rfl (by first | omega | (simp [chunk]; done) | (simp [chunk]; omega)) (by first | omega | (simp [chunk]; done) | (simp [chunk]; omega)) rfl
      apply Exec.cons
      · first | exact s_store_row rfl rfl rfl sz5 (by first | omega | (simp [chunk]; done) | (simp [chunk]; omega)) rfl | exact s_storeA rfl rfl rfl rfl sz5 rfl rfl rfl | exact s_store_all rfl rfl rfl sz5 rfl rfl rfl rfl | exact s_store rfl rfl rfl sz5 rfl rfl (Nat.le_of_ble_eq_true rfl) rfl rfl rfl
      exact Exec.nil _ _
    conv => enter [4]; simp only [nrm_, List.mem_cons, List.not_mem_nil, List.filterMap_cons, List.filterMap_nil, List.cons_append, List.nil_append, ↓reduceIte, Nat.reduceEqDiff, or_false, or_true, false_or, List.map_cons, List.map_nil, Option.map_some, Option.map_none, Nat.reduceAdd, Nat.reduceMul, splice, chunk, Option.getD_some, Option.getD_none, Int.toNat_natCast, Int.toNat_zero, Nat.sub_zero, List.take_succ_cons, List.take_zero, List.drop_succ_cons, List.drop_zero, List.length_cons, List.length_nil, List.set_cons_succ, List.set_cons_zero, encD, List.length_map, set_cB, sub_, zc34, zc68]
    refine k_seq ?_
    apply k_reg [8, 9] 376 
    · kernel_rfl
    · apply Exec.cons
      · first | exact s_load_all rfl rfl agg34 rfl | exact s_loade_all rfl (rowAt (by assumption)) agg34 rfl | exact s_load_agg rfl rfl agg34 rfl rfl rfl | exact s_loade_agg' rfl (rowAt (by assumption)) agg34 rfl rfl rfl | exact s_loade_agg rfl agg34 rfl rfl rfl
      apply Exec.cons
      · exact s_move rfl rfl rfl
      apply Exec.cons
      · exact s_move rfl rfl rfl
      apply Exec.cons
      · first | exact s_bts_own Try.underlying38 Try.underlying5 Try.underlying9 rfl rfl (by first | rfl | simp) rfl | exact s_bts Try.underlying38 Try.underlying5 Try.underlying9 rfl (by first | exact ImpC.refl _ | exact impC_tok _ _ _ | exact impC_nn _ _ | exact impC_nilk _ _) rfl
      apply Exec.cons
      · exact s_build str68 zok68 rfl rfl rfl rfl
      apply Exec.cons
      · exact s_as (.c (.i (.sl 2 ([(i, xorAt s0 at_.toNat by_)].map eW)))) (s_buildSlice elem31 zero68 zok68 rfl rfl rfl rfl rfl rfl (by decide) rfl) (imp_tok' (by simp [chunk, eW, xorAt, hb0]))
      apply Exec.cons
      · exact s_callv call30 (rp_settled d [(i, xorAt s0 at_.toNat by_)] (fun x hx => by simp only [List.mem_singleton] at hx; subst hx; simp only; omega) (by omega) (by simp)) rfl rfl rfl (by first | exact Imps.refl _ | (repeat (first | exact Imps.nil | apply Imps.cons | exact Imp.refl _ | exact Imp.c (impC_tok _ _ _) | exact Imp.c (impC_nilk _ _) | (apply Imp.agg; (repeat (first | exact ImpCs.nil | (apply ImpCs.cons; first | exact impC_tok _ _ _ | exact impC_nn _ _ | exact ImpC.refl _))))))) (by first | trivial | simp [AV.bel, C.bel, belowL, belowL_i, belowA, encD, bel_cStr]) rfl
      apply Exec.cons
      · exact s_assign rfl rfl rfl
      apply Exec.cons
      · first | exact s_store_row rfl rfl rfl sz34 (by first | omega | (simp [chunk]; done) | (simp [chunk]; omega)) rfl | exact s_storeA rfl rfl rfl rfl sz34 rfl rfl rfl | exact s_store_all rfl rfl rfl sz34 rfl rfl rfl rfl | exact s_store rfl rfl rfl sz34 rfl rfl (Nat.le_of_ble_eq_true rfl) rfl rfl rfl
      exact Exec.nil _ _
    conv => enter [4]; simp only [nrm_, List.mem_cons, List.not_mem_nil, List.filterMap_cons, List.filterMap_nil, List.cons_append, List.nil_append, ↓reduceIte, Nat.reduceEqDiff, or_false, or_true, false_or, List.map_cons, List.map_nil, Option.map_some, Option.map_none, Nat.reduceAdd, Nat.reduceMul, splice, chunk, Option.getD_some, Option.getD_none, Int.toNat_natCast, Int.toNat_zero, Nat.sub_zero, List.take_succ_cons, List.take_zero, List.drop_succ_cons, List.drop_zero, List.length_cons, List.length_nil, List.set_cons_succ, List.set_cons_zero, encD, List.length_map, set_cB, sub_, zc34, zc68]
    refine k_ret ?_
    exact fin_val (.cons (.tmp rfl) (.cons (by first | exact resOk_all rfl rfl agg34 | exact .agg rfl rfl agg34 rfl) .nil)) ((Imp.tup (.cons (imp_eq (by rw [RD.spoil, if_neg hi])) (.cons (imp_aggE (by repeat (first | exact ImpCs.nil | (apply ImpCs.cons; first | exact impC_tok _ _ _ | exact impC_nn _ _ | exact ImpC.refl _))) (by rw [RD.spoil, if_neg hi, List.getD_eq_getElem?_getD, hs0]; rfl)) .nil)))) (by first | trivial | simp [AV.bel, C.bel, belowL, belowL_i, belowA, encD, bel_cStr])

set_option maxRecDepth 100000 in
set_option maxHeartbeats 400000 in
theorem lp_great (size count : Int) (l : List OStep) : FnSpec Try.prog 4 0 0 [vv (.int .i64 size), vv (.int .i64 count), .c (.i (.sl 6 (l.map eO)))] [] (vv (.bool (greatB size count l))) [] := by
  refine fn_specK Try.func4 rfl (Nat.le_of_ble_eq_true rfl) (by (first | trivial | (show _ < _; exact lt_ble rfl) | exact bel_cStr _ _ | exact bel_cB _ _ | (show belowL _ _; (repeat (first | exact trivial | (show _ < _; exact lt_ble rfl) | refine ⟨?_, ?_⟩)); done) |  decide | (simp [belowA, AV.bel, C.bel, belowL, belowL_i, heapBelow, R.bel, encD, bel_cStr]; done) | (intro p hp; simp at hp))) (by (first | trivial | (show _ < _; exact lt_ble rfl) | exact bel_cStr _ _ | exact bel_cB _ _ | (show belowL _ _; (repeat (first | exact trivial | (show _ < _; exact lt_ble rfl) | refine ⟨?_, ?_⟩)); done) |  decide | (simp [belowA, AV.bel, C.bel, belowL, belowL_i, heapBelow, R.bel, encD, bel_cStr]; done) | (intro p hp; simp at hp))) (by (first | trivial | (show _ < _; exact lt_ble rfl) | exact bel_cStr _ _ | exact bel_cB _ _ | (show belowL _ _; (repeat (first | exact trivial | (show _ < _; exact lt_ble rfl) | refine ⟨?_, ?_⟩)); done) |  decide | (simp [belowA, AV.bel, C.bel, belowL, belowL_i, heapBelow, R.bel, encD, bel_cStr]; done) | (intro p hp; simp at hp))) (by (first | trivial | (show _ < _; exact lt_ble rfl) | exact bel_cStr _ _ | exact bel_cB _ _ | (show belowL _ _; (repeat (first | exact trivial | (show _ < _; exact lt_ble rfl) | refine ⟨?_, ?_⟩)); done) |  decide | (simp [belowA, AV.bel, C.bel, belowL, belowL_i, heapBelow, R.bel, encD, bel_cStr]; done) | (intro p hp; simp at hp))) (by decide) (fun E h0 => ?_)
  refine k_seq ?_
  apply k_reg [0, 1, 2, 11, 12, 15, 16, 19, 20, 23, 24, 25] 8 
  · kernel_rfl
  · apply Exec.cons
    · exact s_assign rfl rfl rfl
    exact Exec.nil _ _
  conv => enter [4]; simp only [nrm_, List.mem_cons, List.not_mem_nil, List.filterMap_cons, List.filterMap_nil, List.cons_append, List.nil_append, ↓reduceIte, Nat.reduceEqDiff, or_false, or_true, false_or, List.map_cons, List.map_nil, Option.map_some, Option.map_none, Nat.reduceAdd, Nat.reduceMul, splice, chunk, Option.getD_some, Option.getD_none, Int.toNat_natCast, Int.toNat_zero, Nat.sub_zero, List.take_succ_cons, List.take_zero, List.drop_succ_cons, List.drop_zero, List.length_cons, List.length_nil, List.set_cons_succ, List.set_cons_zero, List.length_map, eO]
  refine k_seq ?_
  refine k_seq ?_
  apply k_reg [2, 26] 160 
  · kernel_rfl
  · apply Exec.cons
    · exact s_move rfl rfl rfl
    apply Exec.cons
    · exact s_bin rfl rfl rfl rfl rfl
    apply Exec.cons
    · exact s_move rfl rfl rfl
    apply Exec.cons
    · exact s_guard (c := _) rfl rfl rfl (by first | exact hpre1 rfl | (intro _ _ h; simp [get] at h)) rfl (fun hb => s_move rfl rfl rfl)
    apply Exec.cons
    · exact s_guard (c := _) rfl rfl rfl (by first | exact hpre1 rfl | (intro _ _ h; simp [get] at h)) rfl (fun hb => s_bin (evif (bv := .tup []) hb rfl) rfl rfl rfl rfl)
    apply Exec.cons
    · first | exact s_or (bv := .tup []) rfl rfl rfl rfl | exact s_or rfl rfl rfl rfl | exact s_pick rfl rfl rfl (fun h => by simp [h]) (fun h => by simp [h]) rfl rfl rfl
    apply Exec.cons
    · exact s_move rfl rfl rfl
    apply Exec.cons
    · exact s_guard (c := _) rfl rfl rfl (by first | exact hpre1 rfl | (intro _ _ h; simp [get] at h)) rfl (fun hb => s_move rfl rfl rfl)
    apply Exec.cons
    · exact s_guard (c := _) rfl rfl rfl (by first | exact hpre1 rfl | (intro _ _ h; simp [get] at h)) rfl (fun hb => s_bin (evif (bv := .tup []) hb rfl) rfl rfl rfl rfl)
    apply Exec.cons
    · first | exact s_or (bv := .tup []) rfl rfl rfl rfl | exact s_or rfl rfl rfl rfl | exact s_pick rfl rfl rfl (fun h => by simp [h]) (fun h => by simp [h]) rfl rfl rfl
    apply Exec.cons
    · exact s_move rfl rfl rfl
    apply Exec.cons
    · exact s_guard (c := _) rfl rfl rfl (by first | exact hpre1 rfl | (intro _ _ h; simp [get] at h)) rfl (fun hb => s_move rfl rfl rfl)
    apply Exec.cons
    · exact s_guard (c := _) rfl rfl rfl (by first | exact hpre1 rfl | (intro _ _ h; simp [get] at h)) rfl (fun hb => s_bin (evif (bv := .tup []) hb rfl) rfl rfl rfl rfl)
    apply Exec.cons
    · first | exact s_or (bv := .tup []) rfl rfl rfl rfl | exact s_or rfl rfl rfl rfl | exact s_pick rfl rfl rfl (fun h => by simp [h]) (fun h => by simp [h]) rfl rfl rfl
    apply Exec.cons
    · exact s_move rfl rfl rfl
    apply Exec.cons
    · exact s_guard (c := _) rfl rfl rfl (by first | exact hpre1 rfl | (intro _ _ h; simp [get] at h)) rfl (fun hb => s_move rfl rfl rfl)
    apply Exec.cons
    · first | exact s_guard (c := _) rfl rfl rfl (by first | exact hpre1 rfl | (intro _ _ h; simp [get] at h)) rfl (fun hb => s_len Try.underlying22 (evif (bv := .tup []) hb rfl) (by first | exact ImpC.refl _ | exact impC_tok _ _ _ | exact impC_nn _ _ | exact impC_nilk _ _) rfl) | exact s_guard (c := _) rfl rfl rfl (by first | exact hpre1 rfl | (intro _ _ h; simp [get] at h)) rfl (fun hb => s_len_own1 Try.underlying22 (evif (bv := .tup []) hb rfl) rfl rfl)
    apply Exec.cons
    · exact s_guard (c := _) rfl rfl rfl (by first | exact hpre1 rfl | (intro _ _ h; simp [get] at h)) rfl (fun hb => s_bin (evif (bv := .tup []) hb rfl) rfl rfl rfl rfl)
    apply Exec.cons
    · first | exact s_or (bv := .tup []) rfl rfl rfl rfl | exact s_or rfl rfl rfl rfl | exact s_pick rfl rfl rfl (fun h => by simp [h]) (fun h => by simp [h]) rfl rfl rfl
    exact Exec.nil _ _
  conv => enter [4]; simp only [nrm_, List.mem_cons, List.not_mem_nil, List.filterMap_cons, List.filterMap_nil, List.cons_append, List.nil_append, ↓reduceIte, Nat.reduceEqDiff, or_false, or_true, false_or, List.map_cons, List.map_nil, Option.map_some, Option.map_none, Nat.reduceAdd, Nat.reduceMul, splice, chunk, Option.getD_some, Option.getD_none, Int.toNat_natCast, Int.toNat_zero, Nat.sub_zero, List.take_succ_cons, List.take_zero, List.drop_succ_cons, List.drop_zero, List.length_cons, List.length_nil, List.set_cons_succ, List.set_cons_zero, List.length_map, eO]
  refine k_cond rfl (fun hb => ?_) (fun hb => ?_)
  · skip
    refine k_seq ?_
    apply k_reg [6] 168 
    · kernel_rfl
    · apply Exec.cons
      · exact s_assign rfl rfl rfl
      exact Exec.nil _ _
    conv => enter [4]; simp only [nrm_, List.mem_cons, List.not_mem_nil, List.filterMap_cons, List.filterMap_nil, List.cons_append, List.nil_append, ↓reduceIte, Nat.reduceEqDiff, or_false, or_true, false_or, List.map_cons, List.map_nil, Option.map_some, Option.map_none, Nat.reduceAdd, Nat.reduceMul, splice, chunk, Option.getD_some, Option.getD_none, Int.toNat_natCast, Int.toNat_zero, Nat.sub_zero, List.take_succ_cons, List.take_zero, List.drop_succ_cons, List.drop_zero, List.length_cons, List.length_nil, List.set_cons_succ, List.set_cons_zero, List.length_map, eO]
    refine k_ret ?_
    exact fin_val (.cons (.tmp rfl) .nil) ((imp_eq (congrArg (fun b => vv (.bool b)) (by unfold greatB; rw [hb]; rfl)))) (by first | trivial | simp [AV.bel, C.bel, belowL, belowL_i, belowA, encD, bel_cStr])
  · skip
    refine k_skip ?_
    refine k_seq ?_
    refine k_seq ?_
    apply k_reg [2, 7] 168 
    · kernel_rfl
    · apply Exec.cons
      · exact s_assign rfl rfl rfl
      exact Exec.nil _ _
    conv => enter [4]; simp only [nrm_, List.mem_cons, List.not_mem_nil, List.filterMap_cons, List.filterMap_nil, List.cons_append, List.nil_append, ↓reduceIte, Nat.reduceEqDiff, or_false, or_true, false_or, List.map_cons, List.map_nil, Option.map_some, Option.map_none, Nat.reduceAdd, Nat.reduceMul, splice, chunk, Option.getD_some, Option.getD_none, Int.toNat_natCast, Int.toNat_zero, Nat.sub_zero, List.take_succ_cons, List.take_zero, List.drop_succ_cons, List.drop_zero, List.length_cons, List.length_nil, List.set_cons_succ, List.set_cons_zero, List.length_map, eO]
    refine k_block ?_
    refine k_loopO (X := Nat) 168 [7] (fun x => [(7, vv (.int .i64 (x : Int)))]) [] (fun x => []) (fun x => x ≤ l.length ∧ ∀ o ∈ l.take x, ¬ 600 < o.b.length) (fun x => l.length - x) 0 ⟨Nat.zero_le _, by simp⟩ ?_ ?_
    · exact weak_to h0 (Nat.le_of_ble_eq_true rfl) (by (repeat (first | exact trivial | refine ⟨⟨_, rfl, Imp.refl _⟩, (by first | trivial | (show _ < _; exact lt_ble rfl) | exact bel_cStr _ _ | exact bel_cB _ _ | (show belowL _ _; (repeat (first | exact trivial | (show _ < _; exact lt_ble rfl) | refine ⟨?_, ?_⟩)); done) |  decide | simp [AV.bel, C.bel, belowL, belowL_i, belowA, encD, bel_cStr]), ?_⟩))) (by (repeat (first | exact trivial | refine ⟨rfl, lt_ble rfl, (by first | trivial | (show _ < _; exact lt_ble rfl) | exact bel_cStr _ _ | exact bel_cB _ _ | (show belowL _ _; (repeat (first | exact trivial | (show _ < _; exact lt_ble rfl) | refine ⟨?_, ?_⟩)); done) |  decide | simp [AV.bel, C.bel, belowL, belowL_i, belowA, R.bel, encD, bel_cStr]), ?_⟩))) rfl
    · rintro k ⟨hk, hall⟩
      conv => enter [4]; simp only [nrm_, List.mem_cons, List.not_mem_nil, List.filterMap_cons, List.filterMap_nil, List.cons_append, List.nil_append, ↓reduceIte, Nat.reduceEqDiff, or_false, or_true, false_or, List.map_cons, List.map_nil, Option.map_some, Option.map_none, Nat.reduceAdd, Nat.reduceMul, splice, chunk, Option.getD_some, Option.getD_none, Int.toNat_natCast, Int.toNat_zero, Nat.sub_zero, List.take_succ_cons, List.take_zero, List.drop_succ_cons, List.drop_zero, List.length_cons, List.length_nil, List.set_cons_succ, List.set_cons_zero, List.length_map, eO]
      have hl60 : l.length ≤ 60 := by simp at hb; omega
      have hb0 := hb
      clear hb
      refine k_seq ?_
      refine k_seq ?_
      apply k_reg [2, 7, 30] 200 
      · kernel_rfl
      · apply Exec.cons
        · exact s_move rfl rfl rfl
        apply Exec.cons
        · exact s_move rfl rfl rfl
        apply Exec.cons
        · first | exact s_len Try.underlying22 rfl (by first | exact ImpC.refl _ | exact impC_tok _ _ _ | exact impC_nn _ _ | exact impC_nilk _ _) rfl | exact s_len_own1 Try.underlying22 rfl rfl rfl
        apply Exec.cons
        · exact s_bin rfl rfl rfl rfl rfl
        exact Exec.nil _ _
      conv => enter [4]; simp only [nrm_, List.mem_cons, List.not_mem_nil, List.filterMap_cons, List.filterMap_nil, List.cons_append, List.nil_append, ↓reduceIte, Nat.reduceEqDiff, or_false, or_true, false_or, List.map_cons, List.map_nil, Option.map_some, Option.map_none, Nat.reduceAdd, Nat.reduceMul, splice, chunk, Option.getD_some, Option.getD_none, Int.toNat_natCast, Int.toNat_zero, Nat.sub_zero, List.take_succ_cons, List.take_zero, List.drop_succ_cons, List.drop_zero, List.length_cons, List.length_nil, List.set_cons_succ, List.set_cons_zero, List.length_map, eO]
      refine k_cond rfl (fun hb => ?_) (fun hb => ?_)
      · skip
        have hlt : k < l.length := by simpa using hb
        obtain ⟨o, hw⟩ : ∃ o, l[k]? = some o := ⟨_, List.getElem?_eq_getElem hlt⟩
        refine k_skip ?_
        refine k_seq ?_
        refine k_block ?_
        refine k_seq ?_
        apply k_reg [2, 7, 39] 256 
        · kernel_rfl
        · apply Exec.cons
          · exact s_move rfl rfl rfl
          apply Exec.cons
          · exact s_move rfl rfl rfl
          apply Exec.cons
          · first | exact s_indexAddr Try.underlying22 sz40 rfl (by first | exact ImpC.refl _ | exact impC_tok _ _ _ | exact impC_nn _ _ | exact impC_nilk _ _) rfl (by first | omega | (simp [chunk]; done) | (simp [chunk]; omega)) (by first | omega | (simp [chunk]; done) | (simp [chunk]; omega)) rfl | exact s_indexAddr_own1 Try.underlying22 sz40 rfl rfl rfl (by first | omega | (simp [chunk]; done) | (simp [chunk]; omega)) (by first | omega | (simp [chunk]; done) | (simp [chunk]; omega)) rfl
          apply Exec.cons
          · first | exact s_fieldAddr rfl fld40_3 rfl | exact s_fieldAddre rfl fld40_3 rfl
          apply Exec.cons
          · first | exact s_load rfl rfl one38 rfl rfl | exact s_load_row rfl rfl one38 (by first | rfl | assumption | (simp; done)) rfl | exact s_loade' rfl (rowAt (by assumption)) one38 rfl rfl | exact s_loade rfl one38 rfl rfl
          apply Exec.cons
          · first | exact s_len Try.underlying38 rfl (by first | exact ImpC.refl _ | exact impC_tok _ _ _ | exact impC_nn _ _ | exact impC_nilk _ _) rfl | exact s_len_own1 Try.underlying38 rfl rfl rfl
          apply Exec.cons
          · exact s_bin rfl rfl rfl rfl rfl
          exact Exec.nil _ _
        conv => enter [4]; simp only [nrm_, List.mem_cons, List.not_mem_nil, List.filterMap_cons, List.filterMap_nil, List.cons_append, List.nil_append, ↓reduceIte, Nat.reduceEqDiff, or_false, or_true, false_or, List.map_cons, List.map_nil, Option.map_some, Option.map_none, Nat.reduceAdd, Nat.reduceMul, splice, chunk, Option.getD_some, Option.getD_none, Int.toNat_natCast, Int.toNat_zero, Nat.sub_zero, List.take_succ_cons, List.take_zero, List.drop_succ_cons, List.drop_zero, List.length_cons, List.length_nil, List.set_cons_succ, List.set_cons_zero, List.length_map, eO]
        refine k_cond rfl (fun hb => ?_) (fun hb => ?_)
        · skip
          have hs : 600 < o.b.length := by simp at hb; omega
          refine k_seq ?_
          apply k_reg [6] 264 
          · kernel_rfl
          · apply Exec.cons
            · exact s_assign rfl rfl rfl
            exact Exec.nil _ _
          conv => enter [4]; simp only [nrm_, List.mem_cons, List.not_mem_nil, List.filterMap_cons, List.filterMap_nil, List.cons_append, List.nil_append, ↓reduceIte, Nat.reduceEqDiff, or_false, or_true, false_or, List.map_cons, List.map_nil, Option.map_some, Option.map_none, Nat.reduceAdd, Nat.reduceMul, splice, chunk, Option.getD_some, Option.getD_none, Int.toNat_natCast, Int.toNat_zero, Nat.sub_zero, List.take_succ_cons, List.take_zero, List.drop_succ_cons, List.drop_zero, List.length_cons, List.length_nil, List.set_cons_succ, List.set_cons_zero, List.length_map, eO]
          refine k_ret ?_
          exact fin_val (.cons (.tmp rfl) .nil) ((imp_eq (congrArg (fun b => vv (.bool b)) (by rw [greatB, hb0, Bool.false_or, eq_comm, List.any_eq_true]; exact ⟨o, List.mem_of_getElem? hw, by simpa using hs⟩)))) (by first | trivial | simp [AV.bel, C.bel, belowL, belowL_i, belowA, encD, bel_cStr])
        · skip
          have hs : ¬ 600 < o.b.length := by simp at hb; omega
          refine k_skip ?_
          refine k_nil ?_
          apply k_regl 280 
          · kernel_rfl
          · apply Exec.cons
            · exact s_move rfl rfl rfl
            apply Exec.cons
            · first | exact s_add rfl rfl (in_i64 (by omega) (by omega)) rfl | exact s_bin rfl rfl rfl rfl rfl
            apply Exec.cons
            · exact s_assign rfl rfl rfl
            exact Exec.nil _ _
          try (refine k_keep [2, 7] ?_; conv => enter [4]; simp only [nrm_, List.mem_cons, List.not_mem_nil, List.filterMap_cons, List.filterMap_nil, List.cons_append, List.nil_append, ↓reduceIte, Nat.reduceEqDiff, or_false, or_true, false_or, List.map_cons, List.map_nil, Option.map_some, Option.map_none, Nat.reduceAdd, Nat.reduceMul, splice, chunk, Option.getD_some, Option.getD_none, Int.toNat_natCast, Int.toNat_zero, Nat.sub_zero, List.take_succ_cons, List.take_zero, List.drop_succ_cons, List.drop_zero, List.length_cons, List.length_nil, List.set_cons_succ, List.set_cons_zero, List.length_map, eO])
          exact ⟨k + 1, ⟨by omega, fun q hq => by rw [List.take_add_one, hw, Option.toList_some, List.mem_append, List.mem_singleton] at hq; rcases hq with hq | rfl; exact hall q hq; exact hs⟩, by omega, weak_to h0 (Nat.le_of_ble_eq_true rfl) (by (repeat (first | exact trivial | refine ⟨⟨_, rfl, Imp.refl _⟩, (by first | trivial | (show _ < _; exact lt_ble rfl) | exact bel_cStr _ _ | exact bel_cB _ _ | (show belowL _ _; (repeat (first | exact trivial | (show _ < _; exact lt_ble rfl) | refine ⟨?_, ?_⟩)); done) |  decide | simp [AV.bel, C.bel, belowL, belowL_i, belowA, encD, bel_cStr]), ?_⟩))) (by (repeat (first | exact trivial | refine ⟨rfl, lt_ble rfl, (by first | trivial | (show _ < _; exact lt_ble rfl) | exact bel_cStr _ _ | exact bel_cB _ _ | (show belowL _ _; (repeat (first | exact trivial | (show _ < _; exact lt_ble rfl) | refine ⟨?_, ?_⟩)); done) |  decide | simp [AV.bel, C.bel, belowL, belowL_i, belowA, R.bel, encD, bel_cStr]), ?_⟩))) rfl⟩
      · skip
        have hge : ¬ k < l.length := by simpa using hb
        obtain rfl : k = l.length := by omega
        rw [List.take_length] at hall
        refine k_exit rfl ?_
        refine k_seq ?_
        apply k_reg [6] 208 
        · kernel_rfl
        · apply Exec.cons
          · exact s_assign rfl rfl rfl
          exact Exec.nil _ _
        conv => enter [4]; simp only [nrm_, List.mem_cons, List.not_mem_nil, List.filterMap_cons, List.filterMap_nil, List.cons_append, List.nil_append, ↓reduceIte, Nat.reduceEqDiff, or_false, or_true, false_or, List.map_cons, List.map_nil, Option.map_some, Option.map_none, Nat.reduceAdd, Nat.reduceMul, splice, chunk, Option.getD_some, Option.getD_none, Int.toNat_natCast, Int.toNat_zero, Nat.sub_zero, List.take_succ_cons, List.take_zero, List.drop_succ_cons, List.drop_zero, List.length_cons, List.length_nil, List.set_cons_succ, List.set_cons_zero, List.length_map, eO]
        refine k_ret ?_
        exact fin_val (.cons (.tmp rfl) .nil) ((imp_eq (congrArg (fun b => vv (.bool b)) (by rw [greatB, hb0, Bool.false_or, eq_comm, List.any_eq_false]; exact fun q hq => by simpa using hall q hq)))) (by first | trivial | simp [AV.bel, C.bel, belowL, belowL_i, belowA, encD, bel_cStr])

end Go.Proofs.Ytdmpocojbheoiaa.AM
