/- names.In: whether a name is in a set. -/
import Derived.Test.YtdpldomjhelfkaaDoorEvLF
import Derived.Test.YtdpldomjhelfkaaDoorEvSets
set_option linter.unusedVariables false
set_option linter.unusedSimpArgs false
set_option maxRecDepth 100000
namespace Go.Ev
open Go Go.Proofs

def setText (k : Nat) : List UInt8 := setTexts.getD k []
/-- The sets, as lists of names. -/
def nameSet (k : Nat) : List (List UInt8) := setLits.getD k []
def strRow (s : List UInt8) : List D := [.str s]
def inL (k : Int) (n : List UInt8) : Bool := if 0 ≤ k ∧ k < 16 then (nameSet k.toNat).contains n else false

theorem setText_ok : ∀ k, k < 16 → (setText k).length < 4294967281 ∧ isAscii (setText k) = true ∧ Lib.fields (setText k) = nameSet k ∧ (nameSet k).length < 1000 := by
  have h : (List.range 16).all (fun k => decide ((setText k).length < 4294967281) && isAscii (setText k) && (Lib.fields (setText k) == nameSet k) && decide ((nameSet k).length < 1000)) = true := by kernel_rfl
  intro k hk
  have := List.all_eq_true.1 h k (List.mem_range.2 hk)
  rw [Bool.and_eq_true, Bool.and_eq_true, Bool.and_eq_true] at this
  exact ⟨of_decide_eq_true this.1.1.1, this.1.1.2, eq_of_beq this.1.2, of_decide_eq_true this.2⟩
def listsV : List D := setTexts.map .str
theorem listsV_get : ∀ k, k < 16 → listsV[k]? = some (.str (setText k)) := by
  intro k hk
  have hl : setTexts.length = 16 := rfl
  unfold listsV setText
  rw [List.getElem?_map, List.getD_eq_getElem?_getD, List.getElem?_eq_getElem (by omega)]
  rfl

def isSetSp : List V → Option V
  | [vI .i64 k] => some (vB (decide (0 ≤ k ∧ k < 16)))
  | _ => none
def listsSp : List V → Option V
  | [] => some (vA listsV)
  | _ => none

theorem lists_run : runF (fun _ => none) k_names_lists 1 l_names_lists [] [] = some (vA listsV, []) := by kernel_rfl

theorem isSet_run {Sg : Sig} (k : Int) (m : Nat) : runF Sg k_names_isSet m l_names_isSet [vI .i64 k] [] = some (vB (decide (0 ≤ k ∧ k < 16)), []) := by
  refine runF_of ?_
  have a0 : argsF [vI .i64 k] 0 = vI .i64 k := rfl
  simp only [l_names_isSet, Nat.reduceBEq, valP_some, valP_map, condP_true, condP_false, guardP_tt, guardP_tf, guardP_ft, guardP_ff, guardP_t, put_some, put_none, upd_same, upd_ne, re_t, re_k, rd_t, rd_k, er_D, er_A, er_own, er_ptr, er_loc, er_ml, er_J, er_t, wer_D, wer_A, wer_own, wer_ptr, takeF_k, takeF_t, takeV_D, takeV_A, takeV_ptr, takeV_loc, takeV_ml, takeV_J, takeV_own, takeV_tup, ev_skip, ev_ret, ev_exit, ev_reg, ev_regD, ev_seq, ev_cond, ev_block, seqK_norm, seqK_ret, seqK_ex, blkK_norm, blkK_ret, blkK_same, blkK_ne, cutK_norm, cutK_ret, cutK_ex, loopK_norm, loopK_ret, loopK_ex, loopJ_ret, loopJ_ex, regK_eq, putK_eq, putK2_eq, st_nil, st_guard, st_mov, st_take, st_ext, st_pick, st_nilc, st_bin, st_not, st_conv, st_convB, st_faddr, st_fld, st_idxS, st_idxA, st_iaS, st_iaA, st_slS, st_slL, st_load, st_lenS, st_lenL, st_build, st_bslice, st_takeEx, takeExK_eq, boxK_eq, tupV, st_look, st_callF, st_callV, st_app, st_alloc, st_box, st_store, st_takeLd, st_mkmap, st_ins, st_mkfn, v_eql_str, v_neq_str, v_eql, v_neq, v_lss, v_leq, v_gtr, v_geq, v_add, v_sub, v_pick_t, v_pick_f, v_not, v_conv, v_lenS, v_lenL_nil, v_lenL, v_iaS, v_idxS, v_idxS0, v_ldImm, v_nilcPtr, v_nilcLoc, v_nilcImm, v_faPtr, v_faLoc, orl_nil, orl_cons, dl_D, dl_A, dl_own, dl_ptr, dl_J, Option.map_some, Option.map_none, a0]
  refine guardT (fun h => ?_) (fun h => ?_)
  · have h' : 0 ≤ k := by simpa using h
    simp only [Nat.reduceBEq, valP_some, valP_map, condP_true, condP_false, guardP_tt, guardP_tf, guardP_ft, guardP_ff, guardP_t, put_some, put_none, upd_same, upd_ne, re_t, re_k, rd_t, rd_k, er_D, er_A, er_own, er_ptr, er_loc, er_ml, er_J, er_t, wer_D, wer_A, wer_own, wer_ptr, takeF_k, takeF_t, takeV_D, takeV_A, takeV_ptr, takeV_loc, takeV_ml, takeV_J, takeV_own, takeV_tup, ev_skip, ev_ret, ev_exit, ev_reg, ev_regD, ev_seq, ev_cond, ev_block, seqK_norm, seqK_ret, seqK_ex, blkK_norm, blkK_ret, blkK_same, blkK_ne, cutK_norm, cutK_ret, cutK_ex, loopK_norm, loopK_ret, loopK_ex, loopJ_ret, loopJ_ex, regK_eq, putK_eq, putK2_eq, st_nil, st_guard, st_mov, st_take, st_ext, st_pick, st_nilc, st_bin, st_not, st_conv, st_convB, st_faddr, st_fld, st_idxS, st_idxA, st_iaS, st_iaA, st_slS, st_slL, st_load, st_lenS, st_lenL, st_build, st_bslice, st_takeEx, takeExK_eq, boxK_eq, tupV, st_look, st_callF, st_callV, st_app, st_alloc, st_box, st_store, st_takeLd, st_mkmap, st_ins, st_mkfn, v_eql_str, v_neq_str, v_eql, v_neq, v_lss, v_leq, v_gtr, v_geq, v_add, v_sub, v_pick_t, v_pick_f, v_not, v_conv, v_lenS, v_lenL_nil, v_lenL, v_iaS, v_idxS, v_idxS0, v_ldImm, v_nilcPtr, v_nilcLoc, v_nilcImm, v_faPtr, v_faLoc, orl_nil, orl_cons, dl_D, dl_A, dl_own, dl_ptr, dl_J, Option.map_some, Option.map_none, a0, h]
    simp [resF, leaveF, leave, toW, upd, plainW, C.plain, SF.st, h']
  · have h' : ¬ 0 ≤ k := by simpa using h
    simp only [Nat.reduceBEq, valP_some, valP_map, condP_true, condP_false, guardP_tt, guardP_tf, guardP_ft, guardP_ff, guardP_t, put_some, put_none, upd_same, upd_ne, re_t, re_k, rd_t, rd_k, er_D, er_A, er_own, er_ptr, er_loc, er_ml, er_J, er_t, wer_D, wer_A, wer_own, wer_ptr, takeF_k, takeF_t, takeV_D, takeV_A, takeV_ptr, takeV_loc, takeV_ml, takeV_J, takeV_own, takeV_tup, ev_skip, ev_ret, ev_exit, ev_reg, ev_regD, ev_seq, ev_cond, ev_block, seqK_norm, seqK_ret, seqK_ex, blkK_norm, blkK_ret, blkK_same, blkK_ne, cutK_norm, cutK_ret, cutK_ex, loopK_norm, loopK_ret, loopK_ex, loopJ_ret, loopJ_ex, regK_eq, putK_eq, putK2_eq, st_nil, st_guard, st_mov, st_take, st_ext, st_pick, st_nilc, st_bin, st_not, st_conv, st_convB, st_faddr, st_fld, st_idxS, st_idxA, st_iaS, st_iaA, st_slS, st_slL, st_load, st_lenS, st_lenL, st_build, st_bslice, st_takeEx, takeExK_eq, boxK_eq, tupV, st_look, st_callF, st_callV, st_app, st_alloc, st_box, st_store, st_takeLd, st_mkmap, st_ins, st_mkfn, v_eql_str, v_neq_str, v_eql, v_neq, v_lss, v_leq, v_gtr, v_geq, v_add, v_sub, v_pick_t, v_pick_f, v_not, v_conv, v_lenS, v_lenL_nil, v_lenL, v_iaS, v_idxS, v_idxS0, v_ldImm, v_nilcPtr, v_nilcLoc, v_nilcImm, v_faPtr, v_faLoc, orl_nil, orl_cons, dl_D, dl_A, dl_own, dl_ptr, dl_J, Option.map_some, Option.map_none, a0, h]
    simp [resF, leaveF, leave, toW, upd, plainW, C.plain, SF.st, h']

theorem in_run {Sg : Sig} (hI : Sg 38 = some (.pure isSetSp)) (hL : Sg 40 = some (.pure listsSp)) (hF : Sg 39 = some (.pure fieldsSp)) (nm : List UInt8) (k : Int) :
    runF Sg k_names_In 1099511627776 l_names_In [vS nm, vI .i64 k] [] = some (vB (inL k nm), []) := by
  refine runF_of ?_
  have a0 : argsF [vS nm, vI .i64 k] 0 = vS nm := rfl
  have a1 : argsF [vS nm, vI .i64 k] 1 = vI .i64 k := rfl
  have cI : ∀ F, callO Sg F 38 [vI .i64 k] = some (vB (decide (0 ≤ k ∧ k < 16)), F) := fun F => call_pure hI rfl rfl
  have cL : ∀ F, callO Sg F 40 [] = some (vA listsV, F) := fun F => call_pure hL rfl rfl
  simp only [l_names_In, Nat.reduceBEq, valP_some, valP_map, condP_true, condP_false, guardP_tt, guardP_tf, guardP_ft, guardP_ff, guardP_t, put_some, put_none, upd_same, upd_ne, re_t, re_k, rd_t, rd_k, er_D, er_A, er_own, er_ptr, er_loc, er_ml, er_J, er_t, wer_D, wer_A, wer_own, wer_ptr, takeF_k, takeF_t, takeV_D, takeV_A, takeV_ptr, takeV_loc, takeV_ml, takeV_J, takeV_own, takeV_tup, ev_skip, ev_ret, ev_exit, ev_reg, ev_regD, ev_seq, ev_cond, ev_block, seqK_norm, seqK_ret, seqK_ex, blkK_norm, blkK_ret, blkK_same, blkK_ne, cutK_norm, cutK_ret, cutK_ex, loopK_norm, loopK_ret, loopK_ex, loopJ_ret, loopJ_ex, regK_eq, putK_eq, putK2_eq, st_nil, st_guard, st_mov, st_take, st_ext, st_pick, st_nilc, st_bin, st_not, st_conv, st_convB, st_faddr, st_fld, st_idxS, st_idxA, st_iaS, st_iaA, st_slS, st_slL, st_load, st_lenS, st_lenL, st_build, st_bslice, st_takeEx, takeExK_eq, boxK_eq, tupV, st_look, st_callF, st_callV, st_app, st_alloc, st_box, st_store, st_takeLd, st_mkmap, st_ins, st_mkfn, v_eql_str, v_neq_str, v_eql, v_neq, v_lss, v_leq, v_gtr, v_geq, v_add, v_sub, v_pick_t, v_pick_f, v_not, v_conv, v_lenS, v_lenL_nil, v_lenL, v_iaS, v_idxS, v_idxS0, v_ldImm, v_nilcPtr, v_nilcLoc, v_nilcImm, v_faPtr, v_faLoc, orl_nil, orl_cons, dl_D, dl_A, dl_own, dl_ptr, dl_J, Option.map_some, Option.map_none, a0, a1, cI]
  refine condP_of (fun h => ?_) (fun h => ?_)
  · have h' : ¬ (0 ≤ k ∧ k < 16) := by simpa only [Bool.not_eq_true', decide_eq_false_iff_not] using h
    simp only [Nat.reduceBEq, valP_some, valP_map, condP_true, condP_false, guardP_tt, guardP_tf, guardP_ft, guardP_ff, guardP_t, put_some, put_none, upd_same, upd_ne, re_t, re_k, rd_t, rd_k, er_D, er_A, er_own, er_ptr, er_loc, er_ml, er_J, er_t, wer_D, wer_A, wer_own, wer_ptr, takeF_k, takeF_t, takeV_D, takeV_A, takeV_ptr, takeV_loc, takeV_ml, takeV_J, takeV_own, takeV_tup, ev_skip, ev_ret, ev_exit, ev_reg, ev_regD, ev_seq, ev_cond, ev_block, seqK_norm, seqK_ret, seqK_ex, blkK_norm, blkK_ret, blkK_same, blkK_ne, cutK_norm, cutK_ret, cutK_ex, loopK_norm, loopK_ret, loopK_ex, loopJ_ret, loopJ_ex, regK_eq, putK_eq, putK2_eq, st_nil, st_guard, st_mov, st_take, st_ext, st_pick, st_nilc, st_bin, st_not, st_conv, st_convB, st_faddr, st_fld, st_idxS, st_idxA, st_iaS, st_iaA, st_slS, st_slL, st_load, st_lenS, st_lenL, st_build, st_bslice, st_takeEx, takeExK_eq, boxK_eq, tupV, st_look, st_callF, st_callV, st_app, st_alloc, st_box, st_store, st_takeLd, st_mkmap, st_ins, st_mkfn, v_eql_str, v_neq_str, v_eql, v_neq, v_lss, v_leq, v_gtr, v_geq, v_add, v_sub, v_pick_t, v_pick_f, v_not, v_conv, v_lenS, v_lenL_nil, v_lenL, v_iaS, v_idxS, v_idxS0, v_ldImm, v_nilcPtr, v_nilcLoc, v_nilcImm, v_faPtr, v_faLoc, orl_nil, orl_cons, dl_D, dl_A, dl_own, dl_ptr, dl_J, Option.map_some, Option.map_none, a0, a1]
    simp [resF, leaveF, leave, toW, upd, plainW, C.plain, SF.st, inL, if_neg h']
  · have h' : 0 ≤ k ∧ k < 16 := by simpa using h
    obtain ⟨j, rfl⟩ := Int.eq_ofNat_of_zero_le h'.1
    have hj : j < 16 := by omega
    obtain ⟨t1, t2, t3, t4⟩ := setText_ok j hj
    have cA : idxAF 16 1 false (vA listsV) (vI .i64 (j : Int)) = some (vS (setText j)) := by
      simp only [idxAF]
      rw [if_pos (by omega)]
      simp [listsV_get j hj]
    have cF : ∀ F, callO Sg F 39 [vS (setText j)] = some (vC (.own 1 ((nameSet j).map strRow)), F) := fun F => call_pure hF rfl (by simp only [fieldsSp, if_pos (And.intro t1 t2), t3]; rfl)
    simp only [Nat.reduceBEq, valP_some, valP_map, condP_true, condP_false, guardP_tt, guardP_tf, guardP_ft, guardP_ff, guardP_t, put_some, put_none, upd_same, upd_ne, re_t, re_k, rd_t, rd_k, er_D, er_A, er_own, er_ptr, er_loc, er_ml, er_J, er_t, wer_D, wer_A, wer_own, wer_ptr, takeF_k, takeF_t, takeV_D, takeV_A, takeV_ptr, takeV_loc, takeV_ml, takeV_J, takeV_own, takeV_tup, ev_skip, ev_ret, ev_exit, ev_reg, ev_regD, ev_seq, ev_cond, ev_block, seqK_norm, seqK_ret, seqK_ex, blkK_norm, blkK_ret, blkK_same, blkK_ne, cutK_norm, cutK_ret, cutK_ex, loopK_norm, loopK_ret, loopK_ex, loopJ_ret, loopJ_ex, regK_eq, putK_eq, putK2_eq, st_nil, st_guard, st_mov, st_take, st_ext, st_pick, st_nilc, st_bin, st_not, st_conv, st_convB, st_faddr, st_fld, st_idxS, st_idxA, st_iaS, st_iaA, st_slS, st_slL, st_load, st_lenS, st_lenL, st_build, st_bslice, st_takeEx, takeExK_eq, boxK_eq, tupV, st_look, st_callF, st_callV, st_app, st_alloc, st_box, st_store, st_takeLd, st_mkmap, st_ins, st_mkfn, v_eql_str, v_neq_str, v_eql, v_neq, v_lss, v_leq, v_gtr, v_geq, v_add, v_sub, v_pick_t, v_pick_f, v_not, v_conv, v_lenS, v_lenL_nil, v_lenL, v_iaS, v_idxS, v_idxS0, v_ldImm, v_nilcPtr, v_nilcLoc, v_nilcImm, v_faPtr, v_faLoc, orl_nil, orl_cons, dl_D, dl_A, dl_own, dl_ptr, dl_J, Option.map_some, Option.map_none, a0, a1, cL, cA, cF]
    have hN : ((nameSet j).map strRow).length = (nameSet j).length := List.length_map ..
    refine evP_loopJ (fun m f H L => H = [] ∧ L = [] ∧ ∃ i : Nat, m = (nameSet j).length - i ∧ i ≤ (nameSet j).length ∧ ((nameSet j).take i).contains nm = false ∧
      f 0 = vS nm ∧ f 13 = vC (.own 1 ((nameSet j).map strRow)) ∧ f 14 = vI .i64 ((nameSet j).length : Int) ∧ f 15 = vI .i64 (i : Int)) (nameSet j).length (by omega) ⟨rfl, rfl, 0, rfl, Nat.zero_le _, rfl, rfl, rfl, by rw [← hN]; rfl, rfl⟩ ?_
    rintro m f H L ⟨rfl, rfl, i, rfl, hi, hne, f0, f13, f14, f15⟩
    simp only [Nat.reduceBEq, valP_some, valP_map, condP_true, condP_false, guardP_tt, guardP_tf, guardP_ft, guardP_ff, guardP_t, put_some, put_none, upd_same, upd_ne, re_t, re_k, rd_t, rd_k, er_D, er_A, er_own, er_ptr, er_loc, er_ml, er_J, er_t, wer_D, wer_A, wer_own, wer_ptr, takeF_k, takeF_t, takeV_D, takeV_A, takeV_ptr, takeV_loc, takeV_ml, takeV_J, takeV_own, takeV_tup, ev_skip, ev_ret, ev_exit, ev_reg, ev_regD, ev_seq, ev_cond, ev_block, seqK_norm, seqK_ret, seqK_ex, blkK_norm, blkK_ret, blkK_same, blkK_ne, cutK_norm, cutK_ret, cutK_ex, loopK_norm, loopK_ret, loopK_ex, loopJ_ret, loopJ_ex, regK_eq, putK_eq, putK2_eq, st_nil, st_guard, st_mov, st_take, st_ext, st_pick, st_nilc, st_bin, st_not, st_conv, st_convB, st_faddr, st_fld, st_idxS, st_idxA, st_iaS, st_iaA, st_slS, st_slL, st_load, st_lenS, st_lenL, st_build, st_bslice, st_takeEx, takeExK_eq, boxK_eq, tupV, st_look, st_callF, st_callV, st_app, st_alloc, st_box, st_store, st_takeLd, st_mkmap, st_ins, st_mkfn, v_eql_str, v_neq_str, v_eql, v_neq, v_lss, v_leq, v_gtr, v_geq, v_add, v_sub, v_pick_t, v_pick_f, v_not, v_conv, v_lenS, v_lenL_nil, v_lenL, v_iaS, v_idxS, v_idxS0, v_ldImm, v_nilcPtr, v_nilcLoc, v_nilcImm, v_faPtr, v_faLoc, orl_nil, orl_cons, dl_D, dl_A, dl_own, dl_ptr, dl_J, Option.map_some, Option.map_none, f0, f13, f14, f15]
    refine condP_of (fun hlt => ?_) (fun hlt => ?_)
    · have hlt' : i < (nameSet j).length := by simpa using hlt
      have hw := wrap_succ (n := i) (by omega)
      have cR : ((nameSet j).map strRow)[i]? = some [.str (nameSet j)[i]] := by rw [List.getElem?_map, List.getElem?_eq_getElem hlt']; rfl
      have hsn : (nameSet j).take (i + 1) = (nameSet j).take i ++ [(nameSet j)[i]] := List.take_succ_eq_append_getElem hlt'
      simp only [Nat.reduceBEq, valP_some, valP_map, condP_true, condP_false, guardP_tt, guardP_tf, guardP_ft, guardP_ff, guardP_t, put_some, put_none, upd_same, upd_ne, re_t, re_k, rd_t, rd_k, er_D, er_A, er_own, er_ptr, er_loc, er_ml, er_J, er_t, wer_D, wer_A, wer_own, wer_ptr, takeF_k, takeF_t, takeV_D, takeV_A, takeV_ptr, takeV_loc, takeV_ml, takeV_J, takeV_own, takeV_tup, ev_skip, ev_ret, ev_exit, ev_reg, ev_regD, ev_seq, ev_cond, ev_block, seqK_norm, seqK_ret, seqK_ex, blkK_norm, blkK_ret, blkK_same, blkK_ne, cutK_norm, cutK_ret, cutK_ex, loopK_norm, loopK_ret, loopK_ex, loopJ_ret, loopJ_ex, regK_eq, putK_eq, putK2_eq, st_nil, st_guard, st_mov, st_take, st_ext, st_pick, st_nilc, st_bin, st_not, st_conv, st_convB, st_faddr, st_fld, st_idxS, st_idxA, st_iaS, st_iaA, st_slS, st_slL, st_load, st_lenS, st_lenL, st_build, st_bslice, st_takeEx, takeExK_eq, boxK_eq, tupV, st_look, st_callF, st_callV, st_app, st_alloc, st_box, st_store, st_takeLd, st_mkmap, st_ins, st_mkfn, v_eql_str, v_neq_str, v_eql, v_neq, v_lss, v_leq, v_gtr, v_geq, v_add, v_sub, v_pick_t, v_pick_f, v_not, v_conv, v_lenS, v_lenL_nil, v_lenL, v_iaS, v_idxS, v_idxS0, v_ldImm, v_nilcPtr, v_nilcLoc, v_nilcImm, v_faPtr, v_faLoc, orl_nil, orl_cons, dl_D, dl_A, dl_own, dl_ptr, dl_J, Option.map_some, Option.map_none, f0, f13, f14, f15, cR]
      refine condP_of (fun he => ?_) (fun he => ?_)
      · have he' : (nameSet j)[i] = nm := eq_of_beq he
        have : inL (j : Int) nm = true := by
          unfold inL
          rw [if_pos h', Int.toNat_natCast, ← he']
          exact List.contains_iff_mem.2 (List.getElem_mem _)
        simp only [Nat.reduceBEq, valP_some, valP_map, condP_true, condP_false, guardP_tt, guardP_tf, guardP_ft, guardP_ff, guardP_t, put_some, put_none, upd_same, upd_ne, re_t, re_k, rd_t, rd_k, er_D, er_A, er_own, er_ptr, er_loc, er_ml, er_J, er_t, wer_D, wer_A, wer_own, wer_ptr, takeF_k, takeF_t, takeV_D, takeV_A, takeV_ptr, takeV_loc, takeV_ml, takeV_J, takeV_own, takeV_tup, ev_skip, ev_ret, ev_exit, ev_reg, ev_regD, ev_seq, ev_cond, ev_block, seqK_norm, seqK_ret, seqK_ex, blkK_norm, blkK_ret, blkK_same, blkK_ne, cutK_norm, cutK_ret, cutK_ex, loopK_norm, loopK_ret, loopK_ex, loopJ_ret, loopJ_ex, regK_eq, putK_eq, putK2_eq, st_nil, st_guard, st_mov, st_take, st_ext, st_pick, st_nilc, st_bin, st_not, st_conv, st_convB, st_faddr, st_fld, st_idxS, st_idxA, st_iaS, st_iaA, st_slS, st_slL, st_load, st_lenS, st_lenL, st_build, st_bslice, st_takeEx, takeExK_eq, boxK_eq, tupV, st_look, st_callF, st_callV, st_app, st_alloc, st_box, st_store, st_takeLd, st_mkmap, st_ins, st_mkfn, v_eql_str, v_neq_str, v_eql, v_neq, v_lss, v_leq, v_gtr, v_geq, v_add, v_sub, v_pick_t, v_pick_f, v_not, v_conv, v_lenS, v_lenL_nil, v_lenL, v_iaS, v_idxS, v_idxS0, v_ldImm, v_nilcPtr, v_nilcLoc, v_nilcImm, v_faPtr, v_faLoc, orl_nil, orl_cons, dl_D, dl_A, dl_own, dl_ptr, dl_J, Option.map_some, Option.map_none, f0, f13, f14, f15]
        simp [resF, leaveF, leave, toW, upd, plainW, C.plain, SF.st, this]
      · simp only [Nat.reduceBEq, valP_some, valP_map, condP_true, condP_false, guardP_tt, guardP_tf, guardP_ft, guardP_ff, guardP_t, put_some, put_none, upd_same, upd_ne, re_t, re_k, rd_t, rd_k, er_D, er_A, er_own, er_ptr, er_loc, er_ml, er_J, er_t, wer_D, wer_A, wer_own, wer_ptr, takeF_k, takeF_t, takeV_D, takeV_A, takeV_ptr, takeV_loc, takeV_ml, takeV_J, takeV_own, takeV_tup, ev_skip, ev_ret, ev_exit, ev_reg, ev_regD, ev_seq, ev_cond, ev_block, seqK_norm, seqK_ret, seqK_ex, blkK_norm, blkK_ret, blkK_same, blkK_ne, cutK_norm, cutK_ret, cutK_ex, loopK_norm, loopK_ret, loopK_ex, loopJ_ret, loopJ_ex, regK_eq, putK_eq, putK2_eq, st_nil, st_guard, st_mov, st_take, st_ext, st_pick, st_nilc, st_bin, st_not, st_conv, st_convB, st_faddr, st_fld, st_idxS, st_idxA, st_iaS, st_iaA, st_slS, st_slL, st_load, st_lenS, st_lenL, st_build, st_bslice, st_takeEx, takeExK_eq, boxK_eq, tupV, st_look, st_callF, st_callV, st_app, st_alloc, st_box, st_store, st_takeLd, st_mkmap, st_ins, st_mkfn, v_eql_str, v_neq_str, v_eql, v_neq, v_lss, v_leq, v_gtr, v_geq, v_add, v_sub, v_pick_t, v_pick_f, v_not, v_conv, v_lenS, v_lenL_nil, v_lenL, v_iaS, v_idxS, v_idxS0, v_ldImm, v_nilcPtr, v_nilcLoc, v_nilcImm, v_faPtr, v_faLoc, orl_nil, orl_cons, dl_D, dl_A, dl_own, dl_ptr, dl_J, Option.map_some, Option.map_none, f0, f13, f14, f15, hw]
        rw [loopJ_norm]
        refine ⟨(nameSet j).length - (i + 1), by omega, rfl, rfl, i + 1, rfl, hlt', ?_, fgtf_of f0 rfl rfl, fgtf_of f13 rfl rfl, fgtf_of f14 rfl rfl, rfl⟩
        rw [hsn, List.contains_eq_any_beq, List.any_append, ← List.contains_eq_any_beq, hne]
        simp only [List.any_cons, List.any_nil, Bool.or_false, Bool.false_or]
        rw [Bool.eq_false_iff] at he ⊢
        intro q
        exact he (by rw [eq_of_beq q]; exact beq_self_eq_true _)
    · have hlt' : i = (nameSet j).length := by
        have : ¬ i < (nameSet j).length := by simpa using hlt
        omega
      subst hlt'
      have : inL (j : Int) nm = false := by
        unfold inL
        rw [if_pos h', Int.toNat_natCast]
        rw [List.take_length] at hne
        exact hne
      simp only [Nat.reduceBEq, valP_some, valP_map, condP_true, condP_false, guardP_tt, guardP_tf, guardP_ft, guardP_ff, guardP_t, put_some, put_none, upd_same, upd_ne, re_t, re_k, rd_t, rd_k, er_D, er_A, er_own, er_ptr, er_loc, er_ml, er_J, er_t, wer_D, wer_A, wer_own, wer_ptr, takeF_k, takeF_t, takeV_D, takeV_A, takeV_ptr, takeV_loc, takeV_ml, takeV_J, takeV_own, takeV_tup, ev_skip, ev_ret, ev_exit, ev_reg, ev_regD, ev_seq, ev_cond, ev_block, seqK_norm, seqK_ret, seqK_ex, blkK_norm, blkK_ret, blkK_same, blkK_ne, cutK_norm, cutK_ret, cutK_ex, loopK_norm, loopK_ret, loopK_ex, loopJ_ret, loopJ_ex, regK_eq, putK_eq, putK2_eq, st_nil, st_guard, st_mov, st_take, st_ext, st_pick, st_nilc, st_bin, st_not, st_conv, st_convB, st_faddr, st_fld, st_idxS, st_idxA, st_iaS, st_iaA, st_slS, st_slL, st_load, st_lenS, st_lenL, st_build, st_bslice, st_takeEx, takeExK_eq, boxK_eq, tupV, st_look, st_callF, st_callV, st_app, st_alloc, st_box, st_store, st_takeLd, st_mkmap, st_ins, st_mkfn, v_eql_str, v_neq_str, v_eql, v_neq, v_lss, v_leq, v_gtr, v_geq, v_add, v_sub, v_pick_t, v_pick_f, v_not, v_conv, v_lenS, v_lenL_nil, v_lenL, v_iaS, v_idxS, v_idxS0, v_ldImm, v_nilcPtr, v_nilcLoc, v_nilcImm, v_faPtr, v_faLoc, orl_nil, orl_cons, dl_D, dl_A, dl_own, dl_ptr, dl_J, Option.map_some, Option.map_none, f0, f13, f14, f15]
      simp [resF, leaveF, leave, toW, upd, plainW, C.plain, SF.st, this]

def inSp : List V → Option V
  | [vS nm, vI .i64 k] => some (vB (inL k nm))
  | _ => none

/-- What names.In leans on. -/
def sgNames : Sig := sgAdd 38 (.pure isSetSp) (sgAdd 40 (.pure listsSp) (sgAdd 39 (.pure fieldsSp) fun _ => none))
theorem in_sound {pin : Nat → Option Obj} (hp : TabPin pin) (hE : EqOk Tryd.prog (tabOf tab)) : Sound Tryd.prog pin 26 (.pure inSp) := by
  have w0 : World7 Tryd.prog pin (tabOf tab) (fun _ => none) okD := world hE sigOk_none (fun _ _ h => by cases h)
  have sI : Sound Tryd.prog pin 38 (.pure isSetSp) := sound_pure (K := k_names_isSet) (n := 1) w0 Tryd.func38 (by kernel_rfl) c_names_isSet (by
    intro args v h
    unfold isSetSp at h
    split at h
    · cases h; exact ⟨Nat.le_of_ble_eq_true rfl, isSet_run _ _⟩
    · cases h)
  have sL : Sound Tryd.prog pin 40 (.pure listsSp) := sound_pure (K := k_names_lists) (n := 1) w0 Tryd.func40 (by kernel_rfl) c_names_lists (by
    intro args v h
    unfold listsSp at h
    split at h
    · cases h; exact ⟨Nat.le_of_ble_eq_true rfl, lists_run⟩
    · cases h)
  have wN : World7 Tryd.prog pin (tabOf tab) sgNames okD := world hE (sigOk_add sI (sigOk_add sL (sigOk_add (fields_sound hp) sigOk_none))) (eff_addP (eff_addP (eff_addP (fun _ _ h => by cases h))))
  exact sound_pure (K := k_names_In) (n := 1099511627776) wN Tryd.func26 (by kernel_rfl) c_names_In (by
    intro args v h
    unfold inSp at h
    split at h
    · cases h; exact ⟨Nat.le_of_ble_eq_true rfl, in_run rfl rfl rfl _ _⟩
    · cases h)

end Go.Ev
