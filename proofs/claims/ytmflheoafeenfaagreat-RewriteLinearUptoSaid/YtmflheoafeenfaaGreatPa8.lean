/- Parts of the proof, joined by program: AmTac, RtEnv, RtC1, RtC9, CiCD, RwO1, CiCC. -/
import Derived.Test.YtmflheoafeenfaaGreatPa7
import Derived.Test.YtmflheoafeenfaaGreatPa5
set_option linter.unusedSimpArgs false
set_option linter.unusedVariables false
namespace Go.Am
theorem slot_tr {t : Tr AVal} {i : Nat} {v : AVal} {o : Option AVal} (h : t.get i = some v) (h2 : some v = o) : t.get i = o := h.trans h2
theorem argt {t : Tr AVal} {i : Nat} {v : AVal} (h : t.get i = some v) : Arg.get t (.t i) = some v := h
theorem gss {t : Tr AVal} {n : Nat} {o u : Option AVal} (h : o = u) : (t.set n o).get n = u := (Tr.get_set_same t n _).trans h
theorem gsn {t : Tr AVal} {n m : Nat} {v : AVal} {w : Option AVal} (h : Nat.beq m n = false) (h2 : t.get m = some v) : (t.set n w).get m = some v := (Tr.get_set_ne t w (Nat.ne_of_beq_eq_false h)).trans h2
theorem gsn4 {t : Tr AVal} {m n0 n1 n2 n3 : Nat} {v : AVal} {w0 w1 w2 w3 : Option AVal} (h : (Nat.beq m n0 || Nat.beq m n1 || Nat.beq m n2 || Nat.beq m n3) = false) (h2 : t.get m = some v) : ((((t.set n0 w0).set n1 w1).set n2 w2).set n3 w3).get m = some v := (gsn (Bool.or_eq_false_iff.1 h).2 (gsn (Bool.or_eq_false_iff.1 (Bool.or_eq_false_iff.1 h).1).2 (gsn (Bool.or_eq_false_iff.1 (Bool.or_eq_false_iff.1 (Bool.or_eq_false_iff.1 h).1).1).2 (gsn (Bool.or_eq_false_iff.1 (Bool.or_eq_false_iff.1 (Bool.or_eq_false_iff.1 h).1).1).1 h2))))
theorem gsn16 {t : Tr AVal} {m n0 n1 n2 n3 n4 n5 n6 n7 n8 n9 n10 n11 n12 n13 n14 n15 : Nat} {v : AVal} {w0 w1 w2 w3 w4 w5 w6 w7 w8 w9 w10 w11 w12 w13 w14 w15 : Option AVal} (h : (Nat.beq m n0 || Nat.beq m n1 || Nat.beq m n2 || Nat.beq m n3 || Nat.beq m n4 || Nat.beq m n5 || Nat.beq m n6 || Nat.beq m n7 || Nat.beq m n8 || Nat.beq m n9 || Nat.beq m n10 || Nat.beq m n11 || Nat.beq m n12 || Nat.beq m n13 || Nat.beq m n14 || Nat.beq m n15) = false) (h2 : t.get m = some v) : ((((((((((((((((t.set n0 w0).set n1 w1).set n2 w2).set n3 w3).set n4 w4).set n5 w5).set n6 w6).set n7 w7).set n8 w8).set n9 w9).set n10 w10).set n11 w11).set n12 w12).set n13 w13).set n14 w14).set n15 w15).get m = some v := (gsn (Bool.or_eq_false_iff.1 h).2 (gsn (Bool.or_eq_false_iff.1 (Bool.or_eq_false_iff.1 h).1).2 (gsn (Bool.or_eq_false_iff.1 (Bool.or_eq_false_iff.1 (Bool.or_eq_false_iff.1 h).1).1).2 (gsn (Bool.or_eq_false_iff.1 (Bool.or_eq_false_iff.1 (Bool.or_eq_false_iff.1 (Bool.or_eq_false_iff.1 h).1).1).1).2 (gsn (Bool.or_eq_false_iff.1 (Bool.or_eq_false_iff.1 (Bool.or_eq_false_iff.1 (Bool.or_eq_false_iff.1 (Bool.or_eq_false_iff.1 h).1).1).1).1).2 (gsn (Bool.or_eq_false_iff.1 (Bool.or_eq_false_iff.1 (Bool.or_eq_false_iff.1 (Bool.or_eq_false_iff.1 (Bool.or_eq_false_iff.1 (Bool.or_eq_false_iff.1 h).1).1).1).1).1).2 (gsn (Bool.or_eq_false_iff.1 (Bool.or_eq_false_iff.1 (Bool.or_eq_false_iff.1 (Bool.or_eq_false_iff.1 (Bool.or_eq_false_iff.1 (Bool.or_eq_false_iff.1 (Bool.or_eq_false_iff.1 h).1).1).1).1).1).1).2 (gsn (Bool.or_eq_false_iff.1 (Bool.or_eq_false_iff.1 (Bool.or_eq_false_iff.1 (Bool.or_eq_false_iff.1 (Bool.or_eq_false_iff.1 (Bool.or_eq_false_iff.1 (Bool.or_eq_false_iff.1 (Bool.or_eq_false_iff.1 h).1).1).1).1).1).1).1).2 (gsn (Bool.or_eq_false_iff.1 (Bool.or_eq_false_iff.1 (Bool.or_eq_false_iff.1 (Bool.or_eq_false_iff.1 (Bool.or_eq_false_iff.1 (Bool.or_eq_false_iff.1 (Bool.or_eq_false_iff.1 (Bool.or_eq_false_iff.1 (Bool.or_eq_false_iff.1 h).1).1).1).1).1).1).1).1).2 (gsn (Bool.or_eq_false_iff.1 (Bool.or_eq_false_iff.1 (Bool.or_eq_false_iff.1 (Bool.or_eq_false_iff.1 (Bool.or_eq_false_iff.1 (Bool.or_eq_false_iff.1 (Bool.or_eq_false_iff.1 (Bool.or_eq_false_iff.1 (Bool.or_eq_false_iff.1 (Bool.or_eq_false_iff.1 h).1).1).1).1).1).1).1).1).1).2 (gsn (Bool.or_eq_false_iff.1 (Bool.or_eq_false_iff.1 (Bool.or_eq_false_iff.1 (Bool.or_eq_false_iff.1 (Bool.or_eq_false_iff.1 (Bool.or_eq_false_iff.1 (Bool.or_eq_false_iff.1 (Bool.or_eq_false_iff.1 (Bool.or_eq_false_iff.1 (Bool.or_eq_false_iff.1 (Bool.or_eq_false_iff.1 h).1).1).1).1).1).1).1).1).1).1).2 (gsn (Bool.or_eq_false_iff.1 (Bool.or_eq_false_iff.1 (Bool.or_eq_false_iff.1 (Bool.or_eq_false_iff.1 (Bool.or_eq_false_iff.1 (Bool.or_eq_false_iff.1 (Bool.or_eq_false_iff.1 (Bool.or_eq_false_iff.1 (Bool.or_eq_false_iff.1 (Bool.or_eq_false_iff.1 (Bool.or_eq_false_iff.1 (Bool.or_eq_false_iff.1 h).1).1).1).1).1).1).1).1).1).1).1).2 (gsn (Bool.or_eq_false_iff.1 (Bool.or_eq_false_iff.1 (Bool.or_eq_false_iff.1 (Bool.or_eq_false_iff.1 (Bool.or_eq_false_iff.1 (Bool.or_eq_false_iff.1 (Bool.or_eq_false_iff.1 (Bool.or_eq_false_iff.1 (Bool.or_eq_false_iff.1 (Bool.or_eq_false_iff.1 (Bool.or_eq_false_iff.1 (Bool.or_eq_false_iff.1 (Bool.or_eq_false_iff.1 h).1).1).1).1).1).1).1).1).1).1).1).1).2 (gsn (Bool.or_eq_false_iff.1 (Bool.or_eq_false_iff.1 (Bool.or_eq_false_iff.1 (Bool.or_eq_false_iff.1 (Bool.or_eq_false_iff.1 (Bool.or_eq_false_iff.1 (Bool.or_eq_false_iff.1 (Bool.or_eq_false_iff.1 (Bool.or_eq_false_iff.1 (Bool.or_eq_false_iff.1 (Bool.or_eq_false_iff.1 (Bool.or_eq_false_iff.1 (Bool.or_eq_false_iff.1 (Bool.or_eq_false_iff.1 h).1).1).1).1).1).1).1).1).1).1).1).1).1).2 (gsn (Bool.or_eq_false_iff.1 (Bool.or_eq_false_iff.1 (Bool.or_eq_false_iff.1 (Bool.or_eq_false_iff.1 (Bool.or_eq_false_iff.1 (Bool.or_eq_false_iff.1 (Bool.or_eq_false_iff.1 (Bool.or_eq_false_iff.1 (Bool.or_eq_false_iff.1 (Bool.or_eq_false_iff.1 (Bool.or_eq_false_iff.1 (Bool.or_eq_false_iff.1 (Bool.or_eq_false_iff.1 (Bool.or_eq_false_iff.1 (Bool.or_eq_false_iff.1 h).1).1).1).1).1).1).1).1).1).1).1).1).1).1).2 (gsn (Bool.or_eq_false_iff.1 (Bool.or_eq_false_iff.1 (Bool.or_eq_false_iff.1 (Bool.or_eq_false_iff.1 (Bool.or_eq_false_iff.1 (Bool.or_eq_false_iff.1 (Bool.or_eq_false_iff.1 (Bool.or_eq_false_iff.1 (Bool.or_eq_false_iff.1 (Bool.or_eq_false_iff.1 (Bool.or_eq_false_iff.1 (Bool.or_eq_false_iff.1 (Bool.or_eq_false_iff.1 (Bool.or_eq_false_iff.1 (Bool.or_eq_false_iff.1 h).1).1).1).1).1).1).1).1).1).1).1).1).1).1).1 h2))))))))))))))))
/-- What is yet to be shown, kept out of sight. -/
structure Hid (B : Prop) : Prop where
  h : B
theorem slotq {P : Prop} (h : P := by ((try with_reducible apply argt); (repeat (first | ((with_reducible apply gss); (focus exact rfl)) | ((with_reducible apply gsn16); (focus exact rfl)) | ((with_reducible apply gsn4); (focus exact rfl)) | ((with_reducible apply gsn); (focus exact rfl)))); all_goals (first | with_reducible assumption | ((with_reducible apply slot_tr); (focus with_reducible assumption); (focus exact rfl)) | assumption | rfl | (simp only [Arg.get, Tr.get_set, Nat.reduceEqDiff, if_true, if_false, reduceIte, reduceCtorEq, Bool.false_eq_true]; (first | done | rfl | assumption))))) : P := h
theorem inq {P : Prop} (h : P := by (repeat (first | exact In.here | assumption | apply In.next | apply In.app))) : P := h
theorem updq {P : Prop} (h : P := by (repeat (first | apply Upd.here | apply Upd.next | apply Upd.app))) : P := h
theorem remq {P : Prop} (h : P := by (repeat (first | exact Rem.nil | exact Rem.one | exact Rem.here | exact Rem.last | apply Rem.next | apply Rem.app))) : P := h
theorem subq {P : Prop} (h : P := by (repeat (first | exact Sub.nil | exact Sub.refl _ | (apply Sub.cons; (focus exact remq)) | (apply Sub.app; (focus exact remq)) | apply Sub.skip | apply Sub.skipA))) : P := h
theorem keepq {P : Prop} (h : P := by (repeat (first | exact Keep.refl _ _ | assumption | (refine Keep.set ?_ (by rfl))))) : P := h
theorem numq {P : Prop} (h : P := by (first | omega | assumption | (simp only [List.length_map, List.length_set, List.length_append, List.length_cons, List.length_nil, List.length_replicate]; omega) | exact le_inat (by omega) | exact lt_inat (by omega) | exact le_np (by omega) | exact le_np2 (by omega) (by decide) | exact le_pcells (by omega) | exact le_pcells2 (by omega) (by decide) | (simp; done) | (simp; omega))) : P := h
theorem pureq {P : Prop} (h : P := by (first | (apply op_mov; (focus (exact slotq))) | (apply op_inc; (focus (exact slotq)); (focus (exact numq))) | (apply op_dec; (focus (exact slotq)); (focus (exact numq)); (focus (exact numq))) | (apply op_rem; (focus (exact slotq)); (focus (exact slotq)); (focus (exact numq))) | (apply op_quo; (focus (exact slotq)); (focus (exact slotq)); (focus (exact numq)); (focus (exact numq))) | (apply op_mulN; (focus (exact slotq)); (focus (exact slotq)); (focus (exact numq))) | (apply op_addN; (focus (exact slotq)); (focus (exact slotq)); (focus (exact numq))) | (apply op_lssT; (focus (exact slotq)); (focus (exact slotq)); (focus (omega))) | (apply op_lssF; (focus (exact slotq)); (focus (exact slotq)); (focus (omega))) | (apply op_leqT; (focus (exact slotq)); (focus (exact slotq)); (focus (omega))) | (apply op_leqF; (focus (exact slotq)); (focus (exact slotq)); (focus (omega))) | (apply op_gtrT; (focus (exact slotq)); (focus (exact slotq)); (focus (omega))) | (apply op_gtrF; (focus (exact slotq)); (focus (exact slotq)); (focus (omega))) | (apply op_geqT; (focus (exact slotq)); (focus (exact slotq)); (focus (omega))) | (apply op_geqF; (focus (exact slotq)); (focus (exact slotq)); (focus (omega))) | (apply op_eqlT; (focus (exact slotq)); (focus (exact slotq)); (focus (omega))) | (apply op_eqlF; (focus (exact slotq)); (focus (exact slotq)); (focus (omega))) | (apply op_neqT; (focus (exact slotq)); (focus (exact slotq)); (focus (omega))) | (apply op_neqF; (focus (exact slotq)); (focus (exact slotq)); (focus (omega))) | (apply op_lssI; (focus (exact slotq)); (focus (exact slotq))) | (apply op_leqI; (focus (exact slotq)); (focus (exact slotq))) | (apply op_gtrI; (focus (exact slotq)); (focus (exact slotq))) | (apply op_geqI; (focus (exact slotq)); (focus (exact slotq))) | (apply op_eqlI; (focus (exact slotq)); (focus (exact slotq))) | (apply op_neqI; (focus (exact slotq)); (focus (exact slotq))) | (apply op_addI; (focus (exact slotq)); (focus (exact slotq)); (focus (omega))) | (apply op_subI; (focus (exact slotq)); (focus (exact slotq)); (focus (omega))) | (apply op_mulI; (focus (exact slotq)); (focus (exact slotq)); (focus (omega))) | (apply op_bin; (focus (exact slotq)); (focus (exact slotq)); (focus (rfl))) | (apply op_fieldAddr0; (focus (exact slotq))) | (apply op_fieldAddr; (focus (exact slotq))) | (apply op_fieldAddrR; (focus (exact slotq)); (focus (exact numq))) | (apply op_loadR; (focus (exact slotq)); (focus (first | exact get_inat (by omega) | exact get_ints (by omega) | exact get_ints (k := 0) (by omega) | exact get_ints (k := 1) (by omega) | exact get_ints (k := 2) (by omega) | exact get_np0 (by omega) | exact get_np1 (by omega) | exact get_pair00 (by omega) | exact get_pair1 (by omega) | (first | rfl | assumption | (simp [List.getElem?_append, List.getElem?_cons]; done) | (simp; omega))))) | (apply op_loadRA; (focus (exact slotq)); (focus (first | assumption | exact seg_np (by omega) | exact seg_pair (by omega) | (first | exact seg_full rfl | ((simp only [seg, List.length_cons, List.length_nil, Nat.reduceAdd, Nat.reduceLeDiff, reduceIte, List.drop_zero, List.drop_succ_cons, List.take_succ_cons, List.take_zero]); rfl) | rfl)))) | (apply op_len; (focus (exact slotq)); (focus (first | rfl | exact len_Row (by assumption) | exact BufO.slen (by assumption)))) | (apply op_indexRow; (focus (exact slotq)); (focus (assumption)); (focus (exact slotq)); (focus (exact numq)); (focus (exact numq))) | (apply op_indexRow (i := 0); (focus (exact slotq)); (focus (assumption)); (focus (rfl)); (focus (exact numq)); (focus (exact numq))) | (apply op_indexRow (i := 1); (focus (exact slotq)); (focus (assumption)); (focus (rfl)); (focus (exact numq)); (focus (exact numq))) | (apply op_indexRow (i := 2); (focus (exact slotq)); (focus (assumption)); (focus (rfl)); (focus (exact numq)); (focus (exact numq))) | (apply op_indexR; (focus (exact slotq)); (focus (exact slotq)); (focus (exact numq)); (focus (exact numq))) | (apply op_indexR (i := 0); (focus (exact slotq)); (focus (rfl)); (focus (exact numq)); (focus (exact numq))) | (apply op_indexR (i := 1); (focus (exact slotq)); (focus (rfl)); (focus (exact numq)); (focus (exact numq))) | (apply op_indexR (i := 2); (focus (exact slotq)); (focus (rfl)); (focus (exact numq)); (focus (exact numq))) | (apply op_index01; (focus (exact slotq)); (focus (exact slotq)); (focus (exact numq))) | (apply op_index1; (focus (exact slotq)); (focus (exact slotq)); (focus (exact numq))) | (apply op_indexL; (focus (exact slotq)); (focus (exact slotq)); (focus (exact numq))) | (apply op_indexP (i := 0); (focus (exact slotq)); (focus (rfl)); (focus (decide))) | (apply op_indexP (i := 1); (focus (exact slotq)); (focus (rfl)); (focus (decide))) | (apply op_indexO (i := 0); (focus (exact slotq)); (focus (rfl)); (focus (decide)); (focus (exact numq))) | (apply op_indexO (i := 1); (focus (exact slotq)); (focus (rfl)); (focus (decide)); (focus (exact numq))) | (apply op_extract; (focus (exact slotq)); (focus ((first | rfl | assumption | (simp [List.getElem?_append, List.getElem?_cons]; done) | (simp; omega))))) | (apply op_field; (focus (exact slotq)); (focus ((first | rfl | assumption | (simp [List.getElem?_append, List.getElem?_cons]; done) | (simp; omega))))) | (apply op_pick_t; (focus (exact slotq)); (focus (exact slotq))) | (apply op_pick_f; (focus (exact slotq)); (focus (exact slotq))) | (apply op_eqNilF; (focus (exact slotq)); (focus (exact slotq)); (focus (rfl)); (focus (rfl)); (focus (rfl))) | (apply op_eqNilT; (focus (exact slotq)); (focus (exact slotq)); (focus (rfl)); (focus (rfl)); (focus (rfl))) | (apply op_makeFunc; (focus ((repeat (first | exact argAll_nil | (apply argAll_cons; (focus (exact slotq))))))); (focus ((repeat (first | exact argAll_nil | (apply argAll_cons; (focus (exact slotq)))))))) | (apply op_un; (focus (exact slotq)); (focus (rfl))) | (apply op_conv; (focus (exact slotq)); (focus (rfl))) | (apply op_build; (focus ((repeat (first | exact argParts_nil | (apply argParts_cons; (focus (exact slotq))))))); (focus ((repeat (first | (apply fillA_one; (focus ((first | rfl | assumption | exact BufO.isOne (by assumption) | exact RowA.isOne (by assumption)))); (focus (first | decide | simp))) | (apply fillA_agg; (focus rfl); (focus (first | decide | simp)); (focus ((first | rfl | assumption | (repeat (first | exact all_one_nil | exact all_one_ints _ | (apply all_one_cons; (focus ((first | rfl | assumption | exact BufO.isOne (by assumption) | exact RowA.isOne (by assumption))))))))))) | (apply fillA_nilE; (focus ((try simp only [List.set_cons_zero, List.set_cons_succ, putSeg, List.take, List.drop, List.take_zero, List.drop_zero, List.take_succ_cons, List.drop_succ_cons, List.nil_append, List.cons_append, List.length_cons, List.length_nil, Nat.reduceAdd, Nat.zero_add, List.append_nil]); (first | exact set_ints _ _ _ | rfl))))))))) | (apply op_eqBoolF; (focus (exact slotq)); (focus (exact slotq))) | (apply op_eqBoolT; (focus (exact slotq)); (focus (exact slotq))) | (apply op_eqAggF; (focus (exact slotq)); (focus (exact slotq)); (focus (rfl))) | (apply op_eqAggT; (focus (exact slotq)); (focus (exact slotq)); (focus (rfl))) | (apply op_nilCheck; (focus (exact slotq))) | (apply op_lenC) | (apply op_lenStr; (focus (exact slotq))) | (apply op_sliceLo01; (focus (exact slotq)); (focus (exact slotq)); (focus (exact numq))) | (apply op_sliceLo1 (lo := 1); (focus (exact slotq)); (focus (rfl)); (focus (exact numq))) | (apply op_sliceLo1; (focus (exact slotq)); (focus (exact slotq)); (focus (exact numq))) | (apply op_sliceLo; (focus (exact slotq)); (focus (exact slotq)); (focus (exact numq))) | (apply op_sliceHi; (focus (exact slotq)); (focus (exact slotq)); (focus (exact numq))) | (apply op_sliceHiI; (focus (exact slotq)); (focus (assumption)); (focus (exact slotq)); (focus (exact numq))) | (apply op_indexAgg; (focus (exact slotq)); (focus (exact slotq)); (focus (exact numq)); (focus (assumption))))) : P := h
theorem resq {P : Prop} (h : P := by (repeat (first | exact ResO.nil | (apply ResO.tmp; (focus (exact slotq))) | (apply ResO.cell; (focus (exact slotq)); (focus (exact inq)); (focus ((first | rfl | assumption | (simp [List.getElem?_append, List.getElem?_cons]; done) | (simp; omega))))) | (apply ResO.cellA; (focus (exact slotq)); (focus (exact inq)); (focus rfl))))) : P := h
theorem goq {A B : Prop} (hB : B) (h : Hid B → A := by intro hB; (first | exact wo_seq hB.h | exact wo_reg hB.h | exact wo_blk hB.h | exact wo_skip hB.h | exact wo_ret hB.h | exact wo_exit hB.h | exact wo_scope hB.h | exact seqO.n hB.h | exact seqO.r hB.h | exact seqO.x hB.h | exact blkO.n hB.h | exact blkO.r hB.h | exact blkO.x hB.h | exact blkO.y (by decide) hB.h | exact oo_nil hB.h | exact wo_still (by first | assumption | rfl) hB.h | ((first | apply oo_off | apply oo_offn); (focus (first | with_reducible exact wanted_none | ((with_reducible apply wanted_some); (focus (exact slotq)); (focus rfl)) | ((with_reducible apply wanted_tup); (focus (exact slotq))))); exact hB.h) | (apply oo_alloc; (focus (first | with_reducible exact wanted_none | ((with_reducible apply wanted_some); (focus (exact slotq)); (focus rfl)) | ((with_reducible apply wanted_tup); (focus (exact slotq))))); exact hB.h) | (apply oo_box; (focus (first | with_reducible exact wanted_none | ((with_reducible apply wanted_some); (focus (exact slotq)); (focus rfl)) | ((with_reducible apply wanted_tup); (focus (exact slotq))))); (focus (exact slotq)); (focus ((first | rfl | assumption | exact BufO.isOne (by assumption) | exact RowA.isOne (by assumption)))); exact hB.h) | (apply oo_boxA; (focus (first | with_reducible exact wanted_none | ((with_reducible apply wanted_some); (focus (exact slotq)); (focus rfl)) | ((with_reducible apply wanted_tup); (focus (exact slotq))))); (focus (exact slotq)); (focus ((first | rfl | assumption | (repeat (first | exact all_one_nil | exact all_one_ints _ | (apply all_one_cons; (focus ((first | rfl | assumption | exact BufO.isOne (by assumption) | exact RowA.isOne (by assumption)))))))))); exact hB.h) | (apply oo_load; (focus (first | with_reducible exact wanted_none | ((with_reducible apply wanted_some); (focus (exact slotq)); (focus rfl)) | ((with_reducible apply wanted_tup); (focus (exact slotq))))); (focus (exact slotq)); (focus (exact inq)); (focus (first | assumption | exact getElem?_inat (by omega) | exact getElem?_ints (by omega) | (first | rfl | assumption | (simp [List.getElem?_append, List.getElem?_cons]; done) | (simp; omega)))); exact hB.h) | (apply oo_loadA; (focus (first | with_reducible exact wanted_none | ((with_reducible apply wanted_some); (focus (exact slotq)); (focus rfl)) | ((with_reducible apply wanted_tup); (focus (exact slotq))))); (focus (exact slotq)); (focus (exact inq)); (focus (first | assumption | (first | exact seg_full rfl | ((simp only [seg, List.length_cons, List.length_nil, Nat.reduceAdd, Nat.reduceLeDiff, reduceIte, List.drop_zero, List.drop_succ_cons, List.take_succ_cons, List.take_zero]); rfl) | rfl))); exact hB.h) | (apply oo_store; (focus (first | with_reducible exact wanted_none | ((with_reducible apply wanted_some); (focus (exact slotq)); (focus rfl)) | ((with_reducible apply wanted_tup); (focus (exact slotq))))); (focus (exact slotq)); (focus (exact slotq)); (focus ((first | rfl | assumption | exact BufO.isOne (by assumption) | exact RowA.isOne (by assumption)))); (focus (exact updq)); (focus (exact numq)); (focus (((try simp only [List.set_cons_zero, List.set_cons_succ, putSeg, List.take, List.drop, List.take_zero, List.drop_zero, List.take_succ_cons, List.drop_succ_cons, List.nil_append, List.cons_append, List.length_cons, List.length_nil, Nat.reduceAdd, Nat.zero_add, List.append_nil]); (first | exact set_ints _ _ _ | rfl)))); exact hB.h) | (apply oo_storeA; (focus (first | with_reducible exact wanted_none | ((with_reducible apply wanted_some); (focus (exact slotq)); (focus rfl)) | ((with_reducible apply wanted_tup); (focus (exact slotq))))); (focus (exact slotq)); (focus (exact slotq)); (focus (rfl)); (focus ((first | rfl | assumption | (repeat (first | exact all_one_nil | exact all_one_ints _ | (apply all_one_cons; (focus ((first | rfl | assumption | exact BufO.isOne (by assumption) | exact RowA.isOne (by assumption)))))))))); (focus (exact updq)); (focus (exact numq)); (focus (((try simp only [List.set_cons_zero, List.set_cons_succ, putSeg, List.take, List.drop, List.take_zero, List.drop_zero, List.take_succ_cons, List.drop_succ_cons, List.nil_append, List.cons_append, List.length_cons, List.length_nil, Nat.reduceAdd, Nat.zero_add, List.append_nil]); (first | exact set_ints _ _ _ | rfl)))); exact hB.h) | (apply oo_make; (focus (first | with_reducible exact wanted_none | ((with_reducible apply wanted_some); (focus (exact slotq)); (focus rfl)) | ((with_reducible apply wanted_tup); (focus (exact slotq))))); (focus (exact slotq)); (focus (exact slotq)); (focus (exact numq)); (focus (exact numq)); exact hB.h) | (apply oo_buildSlice; (focus (first | with_reducible exact wanted_none | ((with_reducible apply wanted_some); (focus (exact slotq)); (focus rfl)) | ((with_reducible apply wanted_tup); (focus (exact slotq))))); (focus ((repeat (first | exact argParts_nil | (apply argParts_cons; (focus (exact slotq))))))); (focus ((repeat (first | (apply fillA_one; (focus ((first | rfl | assumption | exact BufO.isOne (by assumption) | exact RowA.isOne (by assumption)))); (focus (first | decide | simp))) | (apply fillA_agg; (focus rfl); (focus (first | decide | simp)); (focus ((first | rfl | assumption | (repeat (first | exact all_one_nil | exact all_one_ints _ | (apply all_one_cons; (focus ((first | rfl | assumption | exact BufO.isOne (by assumption) | exact RowA.isOne (by assumption))))))))))) | (apply fillA_nilE; (focus ((try simp only [List.set_cons_zero, List.set_cons_succ, putSeg, List.take, List.drop, List.take_zero, List.drop_zero, List.take_succ_cons, List.drop_succ_cons, List.nil_append, List.cons_append, List.length_cons, List.length_nil, Nat.reduceAdd, Nat.zero_add, List.append_nil]); (first | exact set_ints _ _ _ | rfl)))))))); exact hB.h) | (apply oo_push; (focus (first | with_reducible exact wanted_none | ((with_reducible apply wanted_some); (focus (exact slotq)); (focus rfl)) | ((with_reducible apply wanted_tup); (focus (exact slotq))))); (focus (exact slotq)); (focus ((first | assumption | exact BufO.nil | (apply BufO.pushed; (focus assumption); (focus rfl); (focus rfl))))); (focus (exact slotq)); (focus (exact remq)); (focus (exact inq)); (focus (rfl)); (focus ((first | rfl | assumption | (repeat (first | exact all_one_nil | exact all_one_ints _ | (apply all_one_cons; (focus ((first | rfl | assumption | exact BufO.isOne (by assumption) | exact RowA.isOne (by assumption)))))))))); (focus (exact numq)); (focus (exact numq)); exact hB.h) | (apply oo_clearE; (focus (first | with_reducible exact wanted_none | ((with_reducible apply wanted_some); (focus (exact slotq)); (focus rfl)) | ((with_reducible apply wanted_tup); (focus (exact slotq))))); (focus (exact slotq)); (focus (exact numq)); (focus (exact updq)); (focus ((simp only [List.length_map, List.length_set]; omega))); (focus (rfl)); exact hB.h) | (apply oo_pushS; (focus (first | with_reducible exact wanted_none | ((with_reducible apply wanted_some); (focus (exact slotq)); (focus rfl)) | ((with_reducible apply wanted_tup); (focus (exact slotq))))); (focus (exact slotq)); (focus (exact remq)); (focus (assumption)); (focus (exact slotq)); (focus (exact inq)); (focus (rfl)); (focus ((first | rfl | assumption | (repeat (first | exact all_one_nil | exact all_one_ints _ | (apply all_one_cons; (focus ((first | rfl | assumption | exact BufO.isOne (by assumption) | exact RowA.isOne (by assumption)))))))))); (focus ((first | rfl | assumption | (repeat (first | exact all_one_nil | exact all_one_ints _ | (apply all_one_cons; (focus ((first | rfl | assumption | exact BufO.isOne (by assumption) | exact RowA.isOne (by assumption)))))))))); (focus (exact numq)); (focus (exact numq)); exact hB.h) | ((first | apply oo_p | apply oo_pn); (focus (first | with_reducible exact wanted_none | ((with_reducible apply wanted_some); (focus (exact slotq)); (focus rfl)) | ((with_reducible apply wanted_tup); (focus (exact slotq))))); (focus (intro mm hmm; exact pureq)); exact hB.h) | (apply wo_cond_t; (focus (exact slotq)); exact hB.h) | (apply wo_cond_f; (focus (exact slotq)); exact hB.h))) : A := h ⟨hB⟩
theorem gok {A B : Prop} (hB : B) (h : Hid B → A := by intro hB; (first | ((first | apply oo_ck | apply oo_ckn); (focus (first | with_reducible exact wanted_none | ((with_reducible apply wanted_some); (focus (exact slotq)); (focus rfl)) | ((with_reducible apply wanted_tup); (focus (exact slotq))))); (focus (repeat (first | exact argAll_nil | (apply argAll_cons; (focus (exact slotq)))))); exact hB.h) | (apply oo_cv; (focus (first | with_reducible exact wanted_none | ((with_reducible apply wanted_some); (focus (exact slotq)); (focus rfl)) | ((with_reducible apply wanted_tup); (focus (exact slotq))))); (focus exact slotq); (focus (repeat (first | exact argAll_nil | (apply argAll_cons; (focus (exact slotq)))))); exact hB.h))) : A := h ⟨hB⟩
end Go.Am
namespace Go.Proofs.YtmflheoafeenfaaGreat
open Go.Am
theorem fns_of {E : Env} {f : FuncId} {fn : AFn} (hF : E.fns = fnsT) (h : fnsT f = some fn) : E.fns f = some fn := by rw [hF]; exact h
end Go.Proofs.YtmflheoafeenfaaGreat
namespace Go.Proofs.YtmflheoafeenfaaGreat
open Go.Am
set_option maxRecDepth 4000
set_option maxHeartbeats 4000000
variable {E : Env} {L : Hp}

theorem drop_eq {α : Type} (z : α) {la lb : List α} {k : Nat} (hl : la.length = lb.length) (hk : k < la.length) : la.drop k = lb.drop k ↔ la.getD k z = lb.getD k z ∧ la.drop (k + 1) = lb.drop (k + 1) := by
  have hk' : k < lb.length := by omega
  have e1 := List.drop_eq_getElem_cons hk
  have e2 := List.drop_eq_getElem_cons hk'
  constructor
  · intro h
    rw [e1, e2] at h
    obtain ⟨h1, h2⟩ := List.cons.inj h
    exact ⟨by simpa [hk, hk'] using h1, h2⟩
  · rintro ⟨h1, h2⟩
    rw [e1, e2]
    simp only [List.cons.injEq]
    exact ⟨by simpa [hk, hk'] using h1, h2⟩

end Go.Proofs.YtmflheoafeenfaaGreat
namespace Go.Proofs.YtmflheoafeenfaaGreat
open Go.Am
set_option maxRecDepth 4000
set_option maxHeartbeats 4000000
variable {E : Env} {L : Hp}
/-- Where x lies first. -/
structure IdxI (l : List Int) (x i : Int) : Prop where
  lo : i = -1 ∨ 0 ≤ i
  no : i < 0 → ∀ j, j < l.length → l.getD j 0 ≠ x
  yes : 0 ≤ i → i.toNat < l.length ∧ l.getD i.toNat 0 = x ∧ ∀ j, j < i.toNat → l.getD j 0 ≠ x
theorem IdxI.mem {l : List Int} {x i : Int} (h : IdxI l x i) : 0 ≤ i ↔ x ∈ l := by
  constructor
  · intro h0
    obtain ⟨h1, h2, _⟩ := h.yes h0
    rw [← h2, List.getD_eq_getElem?_getD, List.getElem?_eq_getElem h1]
    exact List.getElem_mem h1
  · intro hm
    obtain ⟨j, hj, e⟩ := List.getElem_of_mem hm
    rcases h.lo with h1 | h1
    · refine absurd ?_ (h.no (by omega) j hj)
      rw [List.getD_eq_getElem?_getD, List.getElem?_eq_getElem hj]
      exact e
    · exact h1
theorem index_loop {x : Int} {v : AVal} {l : List Int} (hv : SlI v l) (hlt : l.length < 2 ^ 62) : ∀ (d k : Nat) (t : Tr AVal), d + k = l.length → t.get 0 = some v → t.get 1 = some (aint x) → t.get 7 = some (aint l.length) → t.get 8 = some (aint k) → (∀ j, j < k → l.getD j 0 ≠ x) →
    WpO E (.loop c_slices_Index_int_int_l0) t L (fun ex t' L' => L' = L ∧ ((ex = .exit 0 ∧ ∀ j, j < l.length → l.getD j 0 ≠ x) ∨ (ex = .ret ∧ ∃ i, t'.get 4 = some (aint i) ∧ IdxI l x i))) := by
  intro d
  induction d with
  | zero =>
    intro k t hk h0 h1 h7 h8 hno
    refine wo_loop ?_
    repeat (first | intro id | refine goq ?_)
    exact ⟨rfl, .inl ⟨rfl, fun j hj => hno j (by omega)⟩⟩
  | succ d ih =>
    intro k t hk h0 h1 h7 h8 hno
    refine wo_loop ?_
    repeat (first | intro id | refine goq ?_)
    refine wo_cond_if (by exact slotq) (fun hc => ?_) (fun hc => ?_) <;> (try simp only [decide_eq_true_eq, decide_eq_false_iff_not, ne_eq, Decidable.not_not] at hc)
    · repeat (first | intro id | refine goq ?_)
      exact ⟨rfl, .inr ⟨rfl, k, by exact slotq, .inr (by omega), fun h => by omega, fun _ => ⟨by omega, hc.symm, fun j hj => hno j (by omega)⟩⟩⟩
    · repeat (first | intro id | refine goq ?_)
      refine ih (k + 1) _ ?_ ?_ ?_ ?_ ?_ ?_
      · omega
      · exact slotq
      · exact slotq
      · exact slotq
      · exact slotq
      · intro j hj
        by_cases e : j = k
        · subst e; exact fun h => hc h.symm
        · exact hno j (by omega)
theorem index_ok (hF : E.fns = fnsT) (hm : E.mode f_slices_Index_int_int = .iso false) {a v : AVal} {l : List Int} {x : Int} (hw : ViewsO L [a] [v]) (hv : SlI v l) (hlt : l.length < 2 ^ 62) :
    CallO E f_slices_Index_int_int [a, aint x] L fun r L' => (∃ i, r = aint i ∧ IdxI l x i) ∧ L' = L := by
  refine callO_iso0 (R := fun r => ∃ i, r = aint i ∧ IdxI l x i) (vs := [v, aint x]) hm (fns_of hF n_slices_Index_int_int) ⟨fun m hm => ?_⟩ ?_
  · have := hw.ex m hm
    simp only [viewAll] at this ⊢
    split at this
    · rename_i h1 h2
      simp only [Option.some.injEq, List.cons.injEq] at this
      rename_i q1 q2
      cases h2
      rw [h1]
      simp only [this.1]
      rfl
    · simp at this
  refine bodyO_of (Nat.le_of_ble_eq_true rfl) ?_; generalize ht : argSlots _ 0 .nil = t; have h0 : t.get 0 = some _ := (by rw [← ht]; rfl); have h1 : t.get 1 = some _ := (by rw [← ht]; rfl); clear ht
  repeat (first | intro id | refine goq ?_)
  refine WpO.mono (index_loop (x := x) hv hlt l.length 0 _ (by omega) ?_ ?_ ?_ ?_ (fun j hj => by omega)) ?_
  · exact slotq
  · exact slotq
  · exact slotq
  · exact slotq
  rintro ex t1 L' ⟨rfl, ⟨rfl, hno⟩ | ⟨rfl, i, h4, hi⟩⟩
  · repeat (first | intro id | refine goq ?_)
    ((first | apply retO_r | apply retO_n); (focus (exact resq)))
    exact ⟨rfl, -1, rfl, .inl rfl, fun _ => hno, fun h => by omega⟩
  ·
    repeat (first | intro id | refine goq ?_)
    ((first | apply retO_r | apply retO_n); (focus (exact resq)))
    exact ⟨rfl, i, rfl, hi⟩
theorem contains_ok (hF : E.fns = fnsT) (hm : E.mode f_slices_Contains_int_int = .iso false) (hmi : E.mode f_slices_Index_int_int = .iso false) {a v : AVal} {l : List Int} {x : Int} (hw : ViewsO L [a, aint x] [v, aint x]) (hv : SlI v l) (hlt : l.length < 2 ^ 62) :
    CallO E f_slices_Contains_int_int [a, aint x] L fun r L' => r = abool (decide (x ∈ l)) ∧ L' = L := by
  refine callO_iso0 hm (fns_of hF n_slices_Contains_int_int) hw ?_
  refine bodyO_of (Nat.le_of_ble_eq_true rfl) ?_; generalize ht : argSlots _ 0 .nil = t; have h0 : t.get 0 = some _ := (by rw [← ht]; rfl); have h1 : t.get 1 = some _ := (by rw [← ht]; rfl); clear ht
  repeat (first | intro id | refine goq ?_)
  refine gok ?_
  refine (index_ok hF hmi (vs_bare (bare_SlI hv) vs_nil) hv hlt).mono ?_
  rintro r L' ⟨⟨i, rfl, hi⟩, rfl⟩
  repeat (first | intro id | refine goq ?_)
  ((first | apply retO_r | apply retO_n); (focus (exact resq)))
  refine ⟨rfl, ?_⟩
  have e : decide (0 ≤ i) = decide (x ∈ l) := by
    by_cases hx : x ∈ l
    · rw [decide_eq_true hx, decide_eq_true (hi.mem.2 hx)]
    · rw [decide_eq_false hx, decide_eq_false fun h => hx (hi.mem.1 h)]
  rw [← e]
  rfl
end Go.Proofs.YtmflheoafeenfaaGreat
namespace Go.Proofs.YtmflheoafeenfaaGreat
open Go.Am
set_option maxRecDepth 4000
structure OpD where
  kind : Int
  gate : Int
  qs : List Int
  bit : Int
  ifc : Int
  whn : Int
  deriving DecidableEq, Inhabited
structure CircD where
  qubits : Int
  bits : Int
  ops : List OpD
  deriving DecidableEq, Inhabited
def opCells (q : AVal) (o : OpD) : List AVal := [aint o.kind, aint o.gate, q, aint o.bit, aint o.ifc, aint o.whn]
/-- The cells of a row of operations. -/
inductive OpsC : List AVal → List OpD → Prop where
  | nil : OpsC [] []
  | cons {q : AVal} {o : OpD} {cs : List AVal} {os : List OpD} (hq : SlI q o.qs) (hb : o.qs.length < 2 ^ 62) (h : OpsC cs os) : OpsC (opCells q o ++ cs) (o :: os)
def OpsA (v : AVal) (os : List OpD) : Prop := ∃ cs, RowA v cs os.length ∧ OpsC cs os ∧ os.length < 2 ^ 62
def CircA (v : AVal) (c : CircD) : Prop := ∃ s, v = .agg [aint c.qubits, aint c.bits, s] ∧ OpsA s c.ops
theorem OpsC.length {cs : List AVal} {os : List OpD} (h : OpsC cs os) : cs.length = os.length * 6 := by
  induction h with
  | nil => rfl
  | cons hq hb h ih => simp only [opCells, List.cons_append, List.nil_append, List.length_cons, ih]; omega
/-- One operation out of a row. -/
structure OpAt (cs : List AVal) (k : Nat) (q : AVal) (o : OpD) : Prop where
  hq : SlI q o.qs
  b : o.qs.length < 2 ^ 62
  lt : k * 6 < cs.length
  seg : seg (cs.drop (k * 6)) 0 6 = some (opCells q o)
  f0 : (cs.drop (k * 6))[0]? = some (aint o.kind)
  f1 : ((cs.drop (k * 6)).drop 1)[0]? = some (aint o.gate)
  f2 : ((cs.drop (k * 6)).drop 2)[0]? = some q
  f3 : ((cs.drop (k * 6)).drop 3)[0]? = some (aint o.bit)
  f4 : ((cs.drop (k * 6)).drop 4)[0]? = some (aint o.ifc)
  f5 : ((cs.drop (k * 6)).drop 5)[0]? = some (aint o.whn)
  l6 : 6 ≤ (cs.drop (k * 6)).length
theorem OpsC.at {cs : List AVal} {os : List OpD} (h : OpsC cs os) : ∀ {k : Nat}, k < os.length → ∃ q, OpAt cs k q (os.getD k default) := by
  induction h with
  | nil => intro k hk; simp at hk
  | @cons q o cs os hq hb h ih =>
    intro k hk
    cases k with
    | zero =>
      refine ⟨q, ?_⟩
      have hl : (opCells q o ++ cs).length = cs.length + 6 := by simp [opCells]
      constructor <;> simp_all [opCells, Am.seg]
    | succ k =>
      obtain ⟨q', h1⟩ := ih (k := k) (by simpa using hk)
      have e : (opCells q o ++ cs).drop ((k + 1) * 6) = cs.drop (k * 6) := by
        have : (k + 1) * 6 = (opCells q o).length + k * 6 := by simp [opCells]; omega
        rw [this, List.drop_append, Nat.add_sub_cancel_left, List.drop_of_length_le (by omega), List.nil_append]
      refine ⟨q', ?_⟩
      have e2 : (o :: os).getD (k + 1) default = os.getD k default := by simp
      rw [e2]
      have hl : (opCells q o ++ cs).length = cs.length + 6 := by simp [opCells]
      exact ⟨h1.hq, h1.b, by rw [hl]; have := h1.lt; omega, by rw [e]; exact h1.seg, by rw [e]; exact h1.f0, by rw [e]; exact h1.f1, by rw [e]; exact h1.f2, by rw [e]; exact h1.f3, by rw [e]; exact h1.f4, by rw [e]; exact h1.f5, by rw [e]; exact h1.l6⟩
theorem OpsC.getE {cs : List AVal} {os : List OpD} {k : Nat} (h : OpsC cs os) (hk : k < os.length) : ∃ q, SlI q (os.getD k default).qs ∧ (os.getD k default).qs.length < 2 ^ 62 ∧ k * 6 < cs.length ∧ Am.seg (cs.drop (k * 6)) 0 6 = some (opCells q (os.getD k default)) := by
  obtain ⟨q, ha⟩ := h.at hk
  exact ⟨q, ha.hq, ha.b, ha.lt, ha.seg⟩
theorem OpsC.bare {cs : List AVal} {os : List OpD} (h : OpsC cs os) : ∀ c ∈ cs, c.bare = true := by
  induction h with
  | nil => intro c hc; simp at hc
  | @cons q o cs os hq hb h ih =>
    intro c hc
    simp only [opCells, List.cons_append, List.nil_append, List.mem_cons] at hc
    rcases hc with rfl | rfl | rfl | rfl | rfl | rfl | hc
    · rfl
    · rfl
    · exact bare_SlI hq
    · rfl
    · rfl
    · rfl
    · exact ih c hc
theorem OpsA.bare {v : AVal} {os : List OpD} (h : OpsA v os) : v.bare = true := by
  obtain ⟨cs, h1, h2, -⟩ := h
  exact bare_Row h1 h2.bare
theorem CircA.bare {v : AVal} {c : CircD} (h : CircA v c) : v.bare = true := by
  obtain ⟨s, rfl, h⟩ := h
  simp [AVal.bare, bareAll, aint, h.bare]

/-! What may be -/
def okAt (n : Int) (l : List Int) (i : Nat) : Prop := 0 ≤ l.getD i 0 ∧ l.getD i 0 < n ∧ ∀ j, j < i → l.getD j 0 ≠ l.getD i 0
def Qs (n : Int) (l : List Int) : Prop := ∀ i, i < l.length → okAt n l i
def arity (k : Int) : Int := if k < 1 ∨ 20 < k then 0 else if k ≤ 10 then 1 else if k ≤ 17 then 2 else 3
/-- Which error: no kind, wires that may not be, none. -/
def gateE (k : Int) (l : List Int) (n e : Int) : Prop := (e = 0 ∧ arity k ≠ 0 ∧ (l.length : Int) = arity k ∧ Qs n l) ∨ (e = 60 ∧ arity k = 0) ∨ (e = 61 ∧ arity k ≠ 0 ∧ ¬((l.length : Int) = arity k ∧ Qs n l))
def condOk (o : OpD) (b : Int) : Prop := (o.ifc = -1 ∧ o.whn = 0) ∨ (0 ≤ o.ifc ∧ o.ifc < b ∧ (o.whn = 0 ∨ o.whn = 1))
def OpOk (o : OpD) (n b : Int) : Prop :=
  (o.kind = 1 ∧ arity o.gate ≠ 0 ∧ (o.qs.length : Int) = arity o.gate ∧ Qs n o.qs ∧ o.bit = 0 ∧ condOk o b) ∨
  (o.kind = 2 ∧ o.gate = 0 ∧ o.ifc = -1 ∧ o.whn = 0 ∧ o.qs.length = 1 ∧ Qs n o.qs ∧ 0 ≤ o.bit ∧ o.bit < b) ∨
  (o.kind = 3 ∧ o.gate = 0 ∧ o.ifc = -1 ∧ o.whn = 0 ∧ o.qs.length = 1 ∧ Qs n o.qs ∧ o.bit = 0) ∨
  (o.kind = 4 ∧ o.gate = 0 ∧ o.ifc = -1 ∧ o.whn = 0 ∧ o.qs.length ≠ 0 ∧ Qs n o.qs ∧ o.bit = 0)
structure CircOk (c : CircD) : Prop where
  q0 : 0 ≤ c.qubits
  q1 : c.qubits ≤ 64
  b0 : 0 ≤ c.bits
  b1 : c.bits ≤ 64
  len : c.ops.length ≤ 4096
  ok : ∀ k, k < c.ops.length → OpOk (c.ops.getD k default) c.qubits c.bits
theorem mem_take_iff {l : List Int} {x : Int} {k : Nat} (hk : k ≤ l.length) : x ∈ l.take k ↔ ∃ j, j < k ∧ l.getD j 0 = x := by
  rw [List.mem_take_iff_getElem]
  constructor
  · rintro ⟨j, hj, e⟩
    exact ⟨j, by omega, by simp [List.getD_eq_getElem?_getD, List.getElem?_eq_getElem (show j < l.length by omega), e]⟩
  · rintro ⟨j, hj, e⟩
    exact ⟨j, by omega, by simpa [List.getD_eq_getElem?_getD, List.getElem?_eq_getElem (show j < l.length by omega)] using e⟩
theorem okAt_iff {n : Int} {l : List Int} {k : Nat} (hk : k < l.length) : okAt n l k ↔ 0 ≤ l.getD k 0 ∧ l.getD k 0 < n ∧ l.getD k 0 ∉ l.take k := by
  unfold okAt
  rw [mem_take_iff (by omega)]
  constructor
  · rintro ⟨h1, h2, h3⟩
    exact ⟨h1, h2, fun ⟨j, hj, e⟩ => h3 j hj e⟩
  · rintro ⟨h1, h2, h3⟩
    exact ⟨h1, h2, fun j hj e => h3 ⟨j, hj, e⟩⟩
end Go.Proofs.YtmflheoafeenfaaGreat
namespace Go.Proofs.YtmflheoafeenfaaGreat
open Go.Am
set_option maxRecDepth 4000
def takesB (o : OpD) : Bool := decide (o.kind = 2) || decide (o.kind = 3)
def setsB (a b : OpD) : Bool := decide (a.kind = 2) && (decide (0 ≤ b.ifc) && decide (a.bit = b.ifc))
def meetB (a b : OpD) : Bool := a.qs.any fun q => b.qs.contains q
def touchB (a b : OpD) : Bool := meetB a b || ((takesB a && takesB b) || (setsB a b || setsB b a))
theorem meetB_iff {a b : OpD} : meetB a b = true ↔ ∃ q, q ∈ a.qs ∧ q ∈ b.qs := by simp [meetB]
theorem meetB_comm (a b : OpD) : meetB a b = meetB b a := by
  rw [Bool.eq_iff_iff, meetB_iff, meetB_iff]
  exact ⟨fun ⟨q, h1, h2⟩ => ⟨q, h2, h1⟩, fun ⟨q, h1, h2⟩ => ⟨q, h2, h1⟩⟩
theorem touchB_comm (a b : OpD) : touchB a b = touchB b a := by
  unfold touchB
  rw [meetB_comm a b, Bool.and_comm (takesB a), Bool.or_comm (setsB a b)]
def cmpI (a b : Int) : Int := if a < b then -1 else if b < a then 1 else 0
def orI (x y : Int) : Int := if x = 0 then y else x
def cmpL : List Int → List Int → Int
  | [], [] => 0
  | [], _ :: _ => -1
  | _ :: _, [] => 1
  | a :: asq, b :: bs => orI (cmpI a b) (cmpL asq bs)
def cmpO (a b : OpD) : Int := orI (cmpI a.kind b.kind) (orI (cmpI a.gate b.gate) (orI (cmpL a.qs b.qs) (orI (cmpI a.bit b.bit) (orI (cmpI a.ifc b.ifc) (cmpI a.whn b.whn)))))
def lessB (a b : OpD) : Bool := decide (cmpO a b < 0)
/-- None of those ahead touches it. -/
def freeB (l : List OpD) (j : Nat) : Bool := (l.take j).all fun x => !touchB x (l.getD j default)
def bestTo (l : List OpD) : Nat → Int
  | 0 => -1
  | k + 1 => if freeB l k = true ∧ (bestTo l k < 0 ∨ lessB (l.getD k default) (l.getD (bestTo l k).toNat default) = true) then (k : Int) else bestTo l k
def bestI (l : List OpD) : Nat := (bestTo l l.length).toNat
def ordF : Nat → List OpD → List OpD
  | 0, _ => []
  | n + 1, l => l.getD (bestI l) default :: ordF n (l.eraseIdx (bestI l))
def ordL (l : List OpD) : List OpD := ordF l.length l
/-- What the best of the first k is. -/
structure BestAt (l : List OpD) (k b : Nat) : Prop where
  lt : b < k
  free : freeB l b = true
  least : ∀ j, j < k → freeB l j = true → lessB (l.getD j default) (l.getD b default) = false
theorem freeB_iff {l : List OpD} {j : Nat} (hj : j < l.length) : freeB l j = true ↔ ∀ i, i < j → touchB (l.getD i default) (l.getD j default) = false := by
  unfold freeB
  rw [List.all_eq_true]
  constructor
  · intro h i hi
    have := h (l.getD i default) (by
      rw [List.mem_take_iff_getElem]
      exact ⟨i, by omega, by simp [show i < l.length by omega]⟩)
    simpa using this
  · intro h x hx
    rw [List.mem_take_iff_getElem] at hx
    obtain ⟨i, hi, rfl⟩ := hx
    have := h i (by omega)
    simp [show i < l.length by omega] at this
    simp [this]
end Go.Proofs.YtmflheoafeenfaaGreat
namespace Go.Proofs.YtmflheoafeenfaaGreat
open Go.Am
set_option maxRecDepth 4000
set_option maxHeartbeats 8000000
variable {E : Env} {L : Hp}
/-- A slice of numbers in a box of its own, or nil. -/
def OwnI (u : AVal) (l : List Int) (B : Hp) : Prop := (u = anil ∧ l = [] ∧ B = []) ∨ ∃ id cap, u = .sl id 0 l.length 1 cap ∧ B = [(id, l.map aint)]
theorem OwnI.isOne {u : AVal} {l : List Int} {B : Hp} (h : OwnI u l B) : u.one = true := by
  rcases h with ⟨rfl, -, -⟩ | ⟨id, cap, rfl, -⟩ <;> rfl
theorem OwnI.view {u : AVal} {l : List Int} {B M : Hp} (h : OwnI u l B) (k : Nat) (hM : ∀ id c, In id c B → In id c M) : ∃ q, ViewO M (k + 2) u q ∧ SlI q l := by
  rcases h with ⟨rfl, rfl, rfl⟩ | ⟨id, cap, rfl, rfl⟩
  · exact ⟨anil, vo_sc, .inl ⟨rfl, rfl, rfl⟩⟩
  · exact ⟨.rs (l.map aint) l.length cap, vo_sl (hM _ _ .here) (by rw [Nat.mul_one]; exact seg_full (by simp)) (vl_sc (sc_ints l)), .inr ⟨cap, rfl⟩⟩
inductive OpsB : List AVal → List OpD → Hp → Prop where
  | nil : OpsB [] [] []
  | snoc {cs : List AVal} {os : List OpD} {H B : Hp} {u : AVal} {o : OpD} (h : OpsB cs os H) (hq : OwnI u o.qs B) (hb : o.qs.length < 2 ^ 62) : OpsB (cs ++ opCells u o) (os ++ [o]) (H ++ B)
def CircO (v : AVal) (c : CircD) (B : Hp) : Prop := ∃ s cs Bs H, v = .agg [aint c.qubits, aint c.bits, s] ∧ BufO 6 s cs c.ops.length Bs ∧ OpsB cs c.ops H ∧ c.ops.length < 2 ^ 62 ∧ B = Bs ++ H
theorem OpsC.snoc {cs : List AVal} {os : List OpD} {q : AVal} {o : OpD} (h : OpsC cs os) (hq : SlI q o.qs) (hb : o.qs.length < 2 ^ 62) : OpsC (cs ++ opCells q o) (os ++ [o]) := by
  induction h with
  | nil => have := OpsC.cons hq hb .nil; simpa using this
  | cons hq' hb' h ih => rw [List.append_assoc]; exact .cons hq' hb' ih
theorem OpsB.view {cs : List AVal} {os : List OpD} {H M : Hp} (h : OpsB cs os H) (k : Nat) (hM : ∀ id c, In id c H → In id c M) : ∃ us, ViewL M (k + 2) cs us ∧ OpsC us os := by
  induction h with
  | nil => exact ⟨[], vl_nil, .nil⟩
  | @snoc cs os H B u o h hq hb ih =>
    obtain ⟨us, h1, h2⟩ := ih fun id c hi => hM id c hi.appl
    obtain ⟨q, h3, h4⟩ := hq.view k fun id c hi => hM id c hi.app
    refine ⟨us ++ opCells q o, vl_app h1 ?_, h2.snoc h4 hb⟩
    exact vl_cons vo_sc (vl_cons vo_sc (vl_cons h3 (vl_cons vo_sc (vl_cons vo_sc (vl_cons vo_sc vl_nil)))))
theorem bufInv {esz n : Nat} {v : AVal} {cs : List AVal} {B : Hp} (h : BufO esz v cs n B) : (v = anil ∧ cs = [] ∧ n = 0 ∧ B = []) ∨ ∃ id, v = .sl id 0 n esz none ∧ B = [(id, cs)] := by
  cases h with
  | nil => exact .inl ⟨rfl, rfl, rfl, rfl⟩
  | box _ _ => exact .inr ⟨_, rfl, rfl⟩
theorem CircO.view {v : AVal} {c : CircD} {B M : Hp} (h : CircO v c B) (k : Nat) (hM : ∀ id c, In id c B → In id c M) : ∃ u, ViewO M (k + 4) v u ∧ CircA u c := by
  obtain ⟨s, cs, Bs, H, rfl, hb, ho, hlt, rfl⟩ := h
  obtain ⟨us, h1, h2⟩ := ho.view k fun id c hi => hM id c hi.app
  have hlen := hb.length
  rcases bufInv hb with ⟨rfl, rfl, e, rfl⟩ | ⟨id, rfl, rfl⟩
  · have h3 := h2.length
    rw [e] at h3
    have h4 : us = [] := List.eq_nil_of_length_eq_zero (by simpa using h3)
    exact ⟨.agg [aint c.qubits, aint c.bits, anil], vo_agg (vl_cons vo_sc (vl_cons vo_sc (vl_cons vo_sc vl_nil))), anil, rfl, us, .inl ⟨rfl, e, h4⟩, h2, hlt⟩
  · exact ⟨_, vo_agg (vl_cons vo_sc (vl_cons vo_sc (vl_cons (vo_sl (hM _ _ (In.appl .here)) (seg_full hlen) h1) vl_nil))), _, rfl, us, .inr ⟨none, rfl⟩, h2, hlt⟩
/-- Of a size that can be. -/
structure Small (c : CircD) : Prop where
  ops : c.ops.length ≤ 1000000
  qs : ∀ k, k < c.ops.length → (c.ops.getD k default).qs.length ≤ 2000000
theorem OpsB.one {cs : List AVal} {os : List OpD} {H : Hp} (h : OpsB cs os H) : cs.length = os.length * 6 := by
  induction h with
  | nil => rfl
  | snoc h hq hb ih => simp only [List.length_append, ih, opCells, List.length_cons, List.length_nil]; omega
end Go.Proofs.YtmflheoafeenfaaGreat
