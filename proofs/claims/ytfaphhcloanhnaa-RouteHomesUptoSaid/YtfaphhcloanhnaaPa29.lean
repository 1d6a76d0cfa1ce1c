/- Parts of the proof, joined by program: LaHT, LaHU, LaHV. -/
import Derived.Test.YtfaphhcloanhnaaPa28
import Derived.Test.YtfaphhcloanhnaaPa24
set_option linter.unusedSimpArgs false
set_option linter.unusedVariables false
namespace Go.Proofs.Ytfaphhcloanhnaa
open Go.Am Go.Dist
set_option maxRecDepth 4000
set_option maxHeartbeats 8000000
variable {E : Env} {L : Hp}
theorem rlswapW_l0 {a b nq nb : Int} {il ip n : Nat} {sw : Int} {cap : Option Nat} {ov : AVal} {pl : List Int} (hn : pl.length = n) (hlt : n ≤ 1000000) :
    ∀ (d k : Nat) (t : Tr AVal), d + k = n → t.get 0 = some (.ptr il 0) → t.get 1 = some (aint a) → t.get 2 = some (aint b) → t.get 6 = some (aint k) →
    WpO E (.loop c_phasorref20_laid_swap_l0) t ((il, [aint nq, aint nb, ov, .sl ip 0 n 1 cap, aint sw]) :: (ip, (midPl a b pl k).map aint) :: L) (fun ex t' L' => ex = .exit 0 ∧ L' = (il, [aint nq, aint nb, ov, .sl ip 0 n 1 cap, aint sw]) :: (ip, (swapPl a b pl).map aint) :: L) := by
  intro d
  induction d with
  | zero =>
    intro k t hk h0 h1 h2 h6
    obtain rfl : k = n := by omega
    refine wo_loop ?_
    repeat (first | intro id | refine goq ?_)
    exact ⟨rfl, by rw [← hn, midPl_all]⟩
  | succ d ih =>
    intro k t hk h0 h1 h2 h6
    have hkl : k < pl.length := by omega
    have hml := midPl_len a b pl k (by omega)
    have hg := midPl_get (a := a) (b := b) hkl
    have hst := midPl_set (a := a) (b := b) hkl
    have hsm := midPl_same (a := a) (b := b) hkl
    have key : ∀ t2 : Tr AVal, t2.get 0 = some (.ptr il 0) → t2.get 1 = some (aint a) → t2.get 2 = some (aint b) → t2.get 6 = some (aint ((k + 1 : Nat) : Int)) →
      ∀ l, l = midPl a b pl (k + 1) → WpO E (.loop c_phasorref20_laid_swap_l0) t2 ((il, [aint nq, aint nb, ov, .sl ip 0 n 1 cap, aint sw]) :: (ip, l.map aint) :: L) (fun ex t' L' => ex = .exit 0 ∧ L' = (il, [aint nq, aint nb, ov, .sl ip 0 n 1 cap, aint sw]) :: (ip, (swapPl a b pl).map aint) :: L) :=
      fun t2 e0 e1 e2 e5 l hl => by rw [hl]; exact ih (k + 1) t2 (by omega) e0 e1 e2 e5
    generalize midPl a b pl k = ml at *
    refine wo_loop ?_
    by_cases c1 : pl.getD k 0 = a
    · have hf : swapF a b (pl.getD k 0) = b := by simp only [swapF, if_pos c1]
      rw [hf] at hst
      repeat (first | intro id | refine goq ?_)
      refine key _ ?_ ?_ ?_ ?_ _ hst
      · exact slotq
      · exact slotq
      · exact slotq
      · exact slotq
    by_cases c2 : pl.getD k 0 = b
    · have hf : swapF a b (pl.getD k 0) = a := by simp only [swapF, if_neg c1, if_pos c2]
      rw [hf] at hst
      repeat (first | intro id | refine goq ?_)
      refine key _ ?_ ?_ ?_ ?_ _ hst
      · exact slotq
      · exact slotq
      · exact slotq
      · exact slotq
    · have hs := hsm c1 c2
      repeat (first | intro id | refine goq ?_)
      refine key _ ?_ ?_ ?_ ?_ _ hs
      · exact slotq
      · exact slotq
      · exact slotq
      · exact slotq
theorem RLSwapW_open (hF : E.fns = fnsT) (hm : E.mode f_phasorref20_laid_swap = .open_) {il : Nat} {l : LaidW} {ov pv : AVal} {B : Hp} {a b nq nb : Int} (h : LaidB l.d ov pv B) (h2 : l.ops.length < 1000000) :
    CallO E f_phasorref20_laid_swap [.ptr il 0, aint a, aint b] ((il, [aint nq, aint nb, ov, pv, aint l.swaps]) :: (B ++ L)) fun v L' => v = .tup [] ∧ ∃ ov' pv' B', LaidB (l.swap a b).d ov' pv' B' ∧ L' = (il, [aint nq, aint nb, ov', pv', aint (l.swap a b).swaps]) :: (B' ++ L) := by
  refine CallO.to (callO_open hm (fns_of hF n_phasorref20_laid_swap) ?_)
  obtain ⟨cs, Bs, H, Pb, hb, ho, hp, -, hpl, rfl⟩ := h
  simp only [LaidW.d] at hb ho hp hpl
  have ov1 := hb.isOne
  have pv1 := hp.isOne
  rw [List.append_assoc, List.append_assoc]
  refine bodyO_of (Nat.le_of_ble_eq_true rfl) ?_; generalize ht : argSlots _ 0 .nil = t; have h0 : t.get 0 = some _ := (by rw [← ht]; rfl); have h1 : t.get 1 = some _ := (by rw [← ht]; rfl); have h2 : t.get 2 = some _ := (by rw [← ht]; rfl); clear ht
  repeat (first | intro id | refine goq ?_)
  rename_i is i17
  have z0 : AVal.sc (Value.int .i64 0) = aint 0 := rfl
  have z1 : AVal.sc (Value.int .i64 1) = aint 1 := rfl
  have z14 : AVal.sc (Value.int .i64 14) = aint 14 := rfl
  have zm : AVal.sc (Value.int .i64 (-1)) = aint (-1) := rfl
  simp only [z0, z1, z14, zm]
  have hb2 := hb.pushed (id := id) (nw := opCells (.sl is 0 2 1 (some 2)) (swapOp a b)) rfl rfl
  have ho2 := ho.snoc (u := .sl is 0 2 1 (some 2)) (o := swapOp a b) (B := [(is, [aint a, aint b])]) (.inr ⟨is, some 2, rfl, rfl⟩) (by simp [swapOp])
  unfold opCells at hb2 ho2
  simp only [swapOp] at hb2 ho2
  rcases bufInv hp with ⟨rfl, hp0, hn0, rfl⟩ | ⟨ip, rfl, rfl⟩
  · have hpl0 : l.place = [] := List.eq_nil_of_length_eq_zero hn0
    refine wo_loop ?_
    repeat (first | intro id | refine goq ?_)
    ((first | apply retO_r | apply retO_n); (focus (exact resq)))
    refine ⟨(il, [aint nq, aint nb, .sl id 0 (l.ops.length + 1) 6 none, anil, aint (IntKind.wrap .i64 (l.swaps + 1))]) :: (([(id, _)] ++ ((H ++ [(is, [aint a, aint b])]) ++ [])) ++ L), ?_, rfl, _, _, _, ⟨_, _, _, [], by simpa [LaidW.swap, LaidW.d] using hb2, ho2, by simpa [LaidW.swap, LaidW.d, swapPl, hpl0] using BufO.nil, by simp [LaidW.swap, LaidW.d]; omega, by simp [LaidW.swap, LaidW.d, swapPl, hpl0], rfl⟩, rfl⟩
    simp only [List.append_assoc, List.cons_append, List.nil_append]
    exact subq
  · refine WpO.weak (WpO.mono (rlswapW_l0 (a := a) (b := b) (nq := nq) (nb := nb) (il := il) (ip := ip) (sw := IntKind.wrap .i64 (l.swaps + 1)) (ov := .sl id 0 (l.ops.length + 1) 6 none) (L := (id, cs ++ [aint 1, aint 14, .sl is 0 2 1 (some 2), aint 0, aint (-1), aint 0]) :: (is, [aint a, aint b]) :: (H ++ L)) (cap := none) (pl := l.place) rfl (by omega) l.place.length 0 _ (by omega) ?_ ?_ ?_ ?_) ?_) ?_
    · exact slotq
    · exact slotq
    · exact slotq
    · exact slotq
    · rintro ex t' L' ⟨rfl, rfl⟩
      repeat (first | intro id | refine goq ?_)
      ((first | apply retO_r | apply retO_n); (focus (exact resq)))
      refine ⟨(il, [aint nq, aint nb, .sl id 0 (l.ops.length + 1) 6 none, .sl ip 0 l.place.length 1 none, aint (IntKind.wrap .i64 (l.swaps + 1))]) :: (([(id, _)] ++ ((H ++ [(is, [aint a, aint b])]) ++ [(ip, (swapPl a b l.place).map aint)])) ++ L), ?_, rfl, _, _, _, ⟨_, _, _, [(ip, (swapPl a b l.place).map aint)], by simpa [LaidW.swap, LaidW.d] using hb2, ho2, ?_, by simp [LaidW.swap, LaidW.d]; omega, by simpa [LaidW.swap, LaidW.d, swapPl] using hpl, rfl⟩, rfl⟩
      · simp only [List.append_assoc, List.cons_append, List.nil_append]
        exact subq
      · have : (l.swap a b).d.place.length = l.place.length := by simp [LaidW.swap, LaidW.d, swapPl]
        rw [this]
        exact .box (by simp [LaidW.swap, LaidW.d, swapPl]) (all_one_ints _)
    · rw [midPl_zero]
      exact subq
theorem routedW_open (hF : E.fns = fnsT) (hm : E.mode f_phasorref20_laid_routed = .open_) (hst : still E c_phasorref20_laid_routed_r3 = true) {il : Nat} {l : LaidW} {ov pv : AVal} {B : Hp} {nq nb : Int} {cs0 : List AVal} (hb : BufO 6 ov cs0 l.ops.length B) (pv1 : pv.one = true) (hl : l.ops.length ≤ 1000000) :
    CallO E f_phasorref20_laid_routed [.ptr il 0] ((il, [aint nq, aint nb, ov, pv, aint l.swaps]) :: (B ++ L)) fun v L' => ((4096 < l.ops.length ∧ v = .tup [.agg zeroR, aint 201]) ∨ (l.ops.length ≤ 4096 ∧ v = .tup [.agg [aint nq, aint nb, ov, pv, aint l.swaps], aint 0])) ∧ L' = (il, [aint nq, aint nb, ov, pv, aint l.swaps]) :: (B ++ L) := by
  refine CallO.to (callO_open hm (fns_of hF n_phasorref20_laid_routed) ?_)
  have ov1 := hb.isOne
  have z0 : AVal.sc (Value.int .i64 0) = aint 0 := rfl
  have z2 : AVal.sc (Value.slice none 0 0) = anil := rfl
  refine bodyO_of (Nat.le_of_ble_eq_true rfl) ?_; generalize ht : argSlots _ 0 .nil = t; have h0 : t.get 0 = some _ := (by rw [← ht]; rfl); clear ht
  by_cases c1 : 4096 < l.ops.length
  · repeat (first | intro id | refine goq ?_)
    ((first | apply retO_r | apply retO_n); (focus (exact resq)))
    exact ⟨_, by exact subq, .inl ⟨c1, rfl⟩, rfl⟩
  · repeat (first | intro id | refine goq ?_)
    simp only [z0, z2]
    have hfl : fillA [aint 0, aint 0, anil, anil, aint 0] [(0, 3, .agg [aint nq, aint nb, ov]), (3, 1, pv), (4, 1, aint l.swaps)] = some [aint nq, aint nb, ov, pv, aint l.swaps] := by
      refine fillA_agg rfl (by simp) (all_one_cons rfl (all_one_cons rfl (all_one_cons ov1 all_one_nil))) ?_
      show fillA [aint nq, aint nb, ov, anil, aint 0] _ = _
      refine fillA_one pv1 (by simp) ?_
      refine fillA_one rfl (by simp) ?_
      rfl
    refine oo_p wanted_none (fun mm hmm => op_build (argParts_cons (v := .agg [aint nq, aint nb, ov]) ?_ (argParts_cons (v := pv) ?_ (argParts_cons (v := aint l.swaps) ?_ argParts_nil))) hfl) ?_
    · exact slotq
    · exact slotq
    · exact slotq
    repeat (first | intro id | refine goq ?_)
    ((first | apply retO_r | apply retO_n); (focus (exact resq)))
    exact ⟨_, by exact subq, .inr ⟨by omega, rfl⟩, rfl⟩
end Go.Proofs.Ytfaphhcloanhnaa
namespace Go.Proofs.Ytfaphhcloanhnaa
open Go.Am Go.Dist
set_option maxRecDepth 4000
set_option maxHeartbeats 8000000
variable {E : Env} {L : Hp}
theorem rhome_l0 (hF : E.fns = fnsT) (hmg : E.mode f_phasorref20_among = .iso false) {c0 c1 c2 c4 q0 q1 sp sw ov s : AVal} {pl : List Int} {N : Nat} {i2 i3 il : Nat} (hq : SlI sp pl) (hlt : pl.length ≤ 64) (hN : N ≤ 64) (hov : ov.one = true) (hsw : sw.one = true) :
    ∀ (d k : Nat) (t : Tr AVal) (pv : AVal) (Pb : Hp), d + k = N → BufO 1 pv ((fullP pl k).map aint) (fullP pl k).length Pb → t.get 2 = some (.ptr i2 0) → t.get 3 = some (.ptr i3 0) → t.get 7 = some (.ptr il 0) → t.get 8 = some (aint k) →
    WpO E (.loop c_phasorref20_Home_l0) t ((il, [q0, q1, ov, pv, sw]) :: (Pb ++ ((i2, [c0, c1, c2, sp, c4]) :: (i3, [aint N, s]) :: L))) (fun ex t' L' => ex = .exit 0 ∧ Keep [2, 3, 4, 6, 7] t t' ∧ ∃ pv' Pb', BufO 1 pv' ((fullP pl N).map aint) (fullP pl N).length Pb' ∧ L' = (il, [q0, q1, ov, pv', sw]) :: (Pb' ++ ((i2, [c0, c1, c2, sp, c4]) :: (i3, [aint N, s]) :: L))) := by
  have sp1 := RowA.isOne hq
  intro d
  induction d with
  | zero =>
    intro k t pv Pb hk hb h2 h3 h7 h8
    obtain rfl : k = N := by omega
    refine wo_loop ?_
    repeat (first | intro id | refine goq ?_)
    exact ⟨rfl, by exact keepq, pv, Pb, hb, rfl⟩
  | succ d ih =>
    intro k t pv Pb hk hb h2 h3 h7 h8
    have hp1 := hb.isOne
    have hfl := fullP_len pl k
    have hrl := restP_len pl k
    refine wo_loop ?_
    repeat (first | intro id | refine goq ?_)
    refine gok ?_
    refine (among_ok hF hmg (vs_bare (bare_SlI hq) (vs_bare rfl vs_nil)) hq (by omega)).mono ?_
    rintro r L' ⟨rfl, rfl⟩
    by_cases c3 : (k : Int) ∈ pl
    · rw [decide_eq_true c3]
      repeat (first | intro id | refine goq ?_)
      refine WpO.mono (ih (k + 1) _ pv Pb (by omega) (by rw [fullP_in c3]; exact hb) (by exact slotq) (by exact slotq) (by exact slotq) (by exact slotq)) ?_
      rintro ex t' L' ⟨e1, e2, e3⟩
      exact ⟨e1, Keep.trans (by exact keepq) e2, e3⟩
    · rw [decide_eq_false c3]
      have hs := fullP_out c3
      have ih1 := ih (k + 1)
      rw [hs] at ih1
      have e0 : (fullP pl k).map aint ++ [aint k] = (fullP pl k ++ [(k : Int)]).map aint := by simp
      have e1 : (fullP pl k ++ [(k : Int)]).length = (fullP pl k).length + 1 := by simp
      rw [e1] at ih1
      generalize fullP pl k = fl at *
      repeat (first | intro id | refine goq ?_)
      have hb2 := hb.pushed (id := id) (nw := [aint k]) rfl rfl
      rw [e0] at hb2
      refine WpO.weak (WpO.mono (ih1 _ (.sl id 0 (fl.length + 1) 1 none) _ (by omega) hb2 ?_ ?_ ?_ ?_) ?_) ?_
      · exact slotq
      · exact slotq
      · exact slotq
      · exact slotq
      · rintro ex t' L' ⟨e1, e2, e3⟩
        exact ⟨e1, Keep.trans (by exact keepq) e2, e3⟩
      · rw [← e0]
        exact subq
/-- The row of distances at hand. -/
theorem row_at {N p : Nat} {ps : List (Nat × Nat)} {dv : AVal} (hd : SlS dv (dists N ps N)) (hp : p < N) : ∃ us up, RowA dv us N ∧ us.length = N ∧ us[p]? = some up ∧ SlI up (dist N ps p) := by
  obtain ⟨us, r1, r2, r3⟩ := hd.row
  rw [dists_length] at r1 r2 r3
  obtain ⟨up, h1, h2⟩ := r3 p hp
  rw [dists_getD hp] at h2
  exact ⟨us, up, r1, r2, h1, h2⟩
theorem rhome_l1n {N b il : Nat} {ps : List (Nat × Nat)} {dv : AVal} {dd : Int} (h0N : 0 < N) (hN : N ≤ 64) (hd : SlS dv (dists N ps N)) (hb : b < N) (hdd : D N ps b 0 ≠ dd) {t : Tr AVal} (h6 : t.get 6 = some dv) (h9 : t.get 9 = some (aint dd)) (h10 : t.get 10 = some (aint b)) :
    WpO E (.loop c_phasorref20_Home_l1) t L (fun ex t' L' => ex = .exit 6 ∧ Keep [2, 3, 4, 6, 7, 9, 10] t t' ∧ L' = L) := by
  obtain ⟨us, up, r1, r2, r3, r4⟩ := row_at hd hb
  have r3' : (us.drop (b * 1))[0]? = some up := by simpa using r3
  have lb := dist_len N ps b
  unfold D at hdd
  refine wo_loop ?_
  repeat (first | intro id | refine goq ?_)
  exact ⟨rfl, by exact keepq, rfl⟩
theorem rhome_l1 (hF : E.fns = fnsT) (hm : E.mode f_phasorref20_laid_swap = .open_) (hmn : E.mode f_phasorref20_next = .iso false) (hmp : E.mode f_phasorref20_parent = .iso false) (hms : E.mode f_phasorref20_step = .iso false) (hst : still E c_phasorref20_Home_r18 = true) {N b il : Nat} {nq nb : Int} {ps : List (Nat × Nat)} {dv : AVal} {dd : Int} (hG : Good N ps) (hne : ∀ p ∈ ps, p.1 ≠ p.2) (hd : SlS dv (dists N ps N)) (hb : b < N) (hdd : D N ps b 0 = dd) :
    ∀ (W : List Nat) (a : Nat) (hw : WalkP (nxtT (parT N ps) (rkT N ps)) b a W) (hWN : ∀ q ∈ W, q < N) (l : LaidW) (ov pv : AVal) (B : Hp) (t : Tr AVal), LaidB l.d ov pv B → l.place.length = N → l.place.getD b 0 = a → l.ops.length + W.length < 1000000 →
    t.get 6 = some dv → t.get 7 = some (.ptr il 0) → t.get 9 = some (aint dd) → t.get 10 = some (aint b) →
    WpO E (.loop c_phasorref20_Home_l1) t ((il, [aint nq, aint nb, ov, pv, aint l.swaps]) :: (B ++ L)) (fun ex t' L' => ex = .exit 6 ∧ Keep [2, 3, 4, 6, 7, 9, 10] t t' ∧ ∃ ov' pv' B', LaidB (alongW W l).d ov' pv' B' ∧ L' = (il, [aint nq, aint nb, ov', pv', aint (alongW W l).swaps]) :: (B' ++ L)) := by
  have hN := hG.hN
  have h0N : 0 < N := by omega
  have hd1 : dv.one = true := by obtain ⟨us, h1, -, -⟩ := hd; exact RowA.isOne h1
  obtain ⟨us, up, r1, r2, r3, r4⟩ := row_at hd hb
  have r3' : (us.drop (b * 1))[0]? = some up := by simpa using r3
  have lb := dist_len N ps b
  unfold D at hdd
  intro W a hw
  induction hw with
  | stop =>
    intro hWN l ov pv B t hB hpl hpb ho h6 h7 h9 h10
    have hB0 := hB
    obtain ⟨cs, Bs, H, Pb, hbb, hob, hpp, -, -, rfl⟩ := hB
    have ov1 := hbb.isOne
    have pv1 := hpp.isOne
    have hpd : l.d.place.length = N := hpl
    rw [hpd] at hpp
    rcases bufInv hpp with ⟨-, -, h0, -⟩ | ⟨ip, rfl, rfl⟩
    · omega
    have hpd2 : l.d.place = l.place := rfl
    rw [hpd2] at *
    refine wo_loop ?_
    rw [List.append_assoc, List.append_assoc]
    repeat (first | intro id | refine goq ?_)
    exact ⟨rfl, by exact keepq, ov, _, _, hB0, by simp only [List.append_assoc]; rfl⟩
  | @step a W hab w ih =>
    intro hWN l ov pv B t hB hpl hpb ho h6 h7 h9 h10
    have haN := hWN a (by simp)
    have hB0 := hB
    have hsw := fun (x y : Int) => RLSwapW_open (L := L) (a := x) (b := y) (nq := nq) (nb := nb) hF hm hB (il := il) (by omega)
    obtain ⟨cs, Bs, H, Pb, hbb, hob, hpp, -, -, rfl⟩ := hB
    have ov1 := hbb.isOne
    have pv1 := hpp.isOne
    have hpd : l.d.place.length = N := hpl
    rw [hpd] at hpp
    rcases bufInv hpp with ⟨-, -, h0, -⟩ | ⟨ip, rfl, rfl⟩
    · omega
    have hpd2 : l.d.place = l.place := rfl
    rw [hpd2] at *
    have hal := along_step w l
    have hlen := (along_len W (l.swap a (nxtT (parT N ps) (rkT N ps) a b))).2
    simp only [List.append_assoc] at hsw
    refine wo_loop ?_
    rw [List.append_assoc, List.append_assoc]
    repeat (first | intro id | refine goq ?_)
    rw [hpb]
    repeat (first | intro id | refine goq ?_)
    refine gok ?_
    refine (next_ok hF hmn hmp hms hG hne haN hb hd).mono ?_
    rintro r L' ⟨rfl, rfl⟩
    repeat (first | intro id | refine goq ?_)
    refine gok ?_
    refine (hsw _ _).mono ?_
    rintro v L' ⟨rfl, ov', pv', B', hB', rfl⟩
    repeat (first | intro id | refine goq ?_)
    rw [hal]
    have hpl2 : (l.swap a (nxtT (parT N ps) (rkT N ps) a b)).place.length = N := by
      show (swapPl _ _ _).length = N
      rw [swapPl_length]
      exact hpl
    refine WpO.mono (ih (fun q hq => hWN q (by simp [hq])) (l.swap a (nxtT (parT N ps) (rkT N ps) a b)) ov' pv' B' _ hB' hpl2 (swap_at (by omega) hpb) ?_ ?_ ?_ ?_ ?_) ?_
    · simp only [LaidW.swap, List.length_append, List.length_cons, List.length_nil] at ho ⊢
      omega
    · exact slotq
    · exact slotq
    · exact slotq
    · exact slotq
    · rintro ex t' L' ⟨e1, e2, e3⟩
      exact ⟨e1, Keep.trans (by exact keepq) e2, e3⟩
/-- One round of the document's loop over the places. -/
def stepD (par rk : Nat → Nat) (d : Nat) (l : LaidW) (p : Nat) : LaidW := if rk p = d then homeOne par rk l p else l
theorem rev_succ (k : Nat) : (List.range (k + 1)).reverse = k :: (List.range k).reverse := by
  rw [List.range_succ, List.reverse_append]
  rfl
theorem homeOne_grow {N : Nat} {ps : List (Nat × Nat)} (hG : Good N ps) {l : LaidW} {p : Nat} (hp : p < N) (hl : l.place.length = N) (hP : PlOk N l.place) : (homeOne (parT N ps) (rkT N ps) l p).ops.length ≤ l.ops.length + 128 := by
  have hlo := hP.lo p (by omega)
  have hN := hG.hN
  have h1 := way_len hG (a := (l.place.getD p 0).toNat) (b := p) (by omega) hp
  have h2 := (along_len (wayP (parT N ps) (rkT N ps) (l.place.getD p 0).toNat p) l).1
  unfold homeOne
  omega
theorem rhome_l2 (hF : E.fns = fnsT) (hm : E.mode f_phasorref20_laid_swap = .open_) (hmn : E.mode f_phasorref20_next = .iso false) (hmp : E.mode f_phasorref20_parent = .iso false) (hms : E.mode f_phasorref20_step = .iso false) (hst : still E c_phasorref20_Home_r18 = true) {N il : Nat} {nq nb : Int} {ps : List (Nat × Nat)} {dv : AVal} {dd : Nat} (hG : Good N ps) (h0N : 0 < N) (hne : ∀ p ∈ ps, p.1 ≠ p.2) (hd : SlS dv (dists N ps N)) :
    ∀ (k : Nat) (l : LaidW) (ov pv : AVal) (B : Hp) (t : Tr AVal), k ≤ N → LaidB l.d ov pv B → l.place.length = N → PlOk N l.place → l.ops.length + 128 * k < 900000 →
    t.get 6 = some dv → t.get 7 = some (.ptr il 0) → t.get 9 = some (aint dd) → t.get 10 = some (aint ((k : Int) - 1)) →
    WpO E (.loop c_phasorref20_Home_l2) t ((il, [aint nq, aint nb, ov, pv, aint l.swaps]) :: (B ++ L)) (fun ex t' L' => ex = .exit 4 ∧ Keep [2, 3, 4, 6, 7, 9] t t' ∧ ∃ l' ov' pv' B', l' = (List.range k).reverse.foldl (stepD (parT N ps) (rkT N ps) dd) l ∧ LaidB l'.d ov' pv' B' ∧ l'.place.length = N ∧ PlOk N l'.place ∧ l'.ops.length ≤ l.ops.length + 128 * k ∧ L' = (il, [aint nq, aint nb, ov', pv', aint l'.swaps]) :: (B' ++ L)) := by
  have hN := hG.hN
  intro k
  induction k with
  | zero =>
    intro l ov pv B t hk hB hpl hP ho h6 h7 h9 h10
    refine wo_loop ?_
    repeat (first | intro id | refine goq ?_)
    exact ⟨rfl, by exact keepq, l, ov, pv, B, rfl, hB, hpl, hP, by omega, rfl⟩
  | succ k ih =>
    intro l ov pv B t hk hB hpl hP ho h6 h7 h9 h10
    have h10' : t.get 10 = some (aint (k : Int)) := by rw [h10]; congr 2; omega
    clear h10
    have hkN : k < N := by omega
    have hrk : rkT N ps k = (D N ps k 0).toNat := by unfold rkT; rw [if_pos hkN, D_sym hG h0N hkN]
    have hc0 := (hG.conn k 0 hkN h0N).1
    have hfold : (List.range (k + 1)).reverse.foldl (stepD (parT N ps) (rkT N ps) dd) l = (List.range k).reverse.foldl (stepD (parT N ps) (rkT N ps) dd) (stepD (parT N ps) (rkT N ps) dd l k) := by rw [rev_succ]; rfl
    rw [hfold]
    have after : ∀ (l1 : LaidW) (ov1 pv1 : AVal) (B1 : Hp) (t1 : Tr AVal), l1 = stepD (parT N ps) (rkT N ps) dd l k → LaidB l1.d ov1 pv1 B1 → l1.place.length = N → PlOk N l1.place → l1.ops.length ≤ l.ops.length + 128 → Keep [2, 3, 4, 6, 7, 9, 10] t t1 →
        blkO 6 (blkO 5 (seqO E (.reg c_phasorref20_Home_r19 false) (seqO E (.loop c_phasorref20_Home_l2) fun ex t' L' => ex = .exit 4 ∧ Keep [2, 3, 4, 6, 7, 9] t t' ∧ ∃ l' ov' pv' B', l' = (List.range k).reverse.foldl (stepD (parT N ps) (rkT N ps) dd) (stepD (parT N ps) (rkT N ps) dd l k) ∧ LaidB l'.d ov' pv' B' ∧ l'.place.length = N ∧ PlOk N l'.place ∧ l'.ops.length ≤ l.ops.length + 128 * (k + 1) ∧ L' = (il, [aint nq, aint nb, ov', pv', aint l'.swaps]) :: (B' ++ L)))) (.exit 6) t1 ((il, [aint nq, aint nb, ov1, pv1, aint l1.swaps]) :: (B1 ++ L)) := by
      intro l1 ov1 pv1 B1 t1 hl1 hB1 hpl1 hP1 ho1 hK
      have e6 := (hK.ex 6 rfl).trans h6
      have e7 := (hK.ex 7 rfl).trans h7
      have e9 := (hK.ex 9 rfl).trans h9
      have e10 := (hK.ex 10 rfl).trans h10'
      have hKs : Keep [2, 3, 4, 6, 7, 9] t t1 := hK.less rfl
      refine blkO.x (blkO.n (seqO.n ?_))
      repeat (first | intro id | refine goq ?_)
      refine WpO.mono (ih l1 ov1 pv1 B1 _ (by omega) hB1 hpl1 hP1 (by omega) ?_ ?_ ?_ ?_) ?_
      · exact slotq
      · exact slotq
      · exact slotq
      · exact slotq
      · rintro ex t' L' ⟨f1, f2, l', ov', pv', B', f3, f4, f5, f6, f7, f8⟩
        exact ⟨f1, Keep.trans (by exact keepq) f2, l', ov', pv', B', by rw [f3, hl1], f4, f5, f6, by omega, f8⟩
    refine wo_loop ?_
    repeat (first | intro id | refine goq ?_)
    by_cases c : rkT N ps k = dd
    · have hlo := hP.lo k (by omega)
      obtain ⟨a, ha⟩ : ∃ a : Nat, l.place.getD k 0 = a := ⟨(l.place.getD k 0).toNat, by omega⟩
      have haN : a < N := by omega
      have hgr := homeOne_grow hG hkN hpl hP
      have hwl := way_len hG haN hkN
      have hsd : stepD (parT N ps) (rkT N ps) dd l k = alongW (wayP (parT N ps) (rkT N ps) a k) l := by
        unfold stepD homeOne
        rw [if_pos c, ha, Int.toNat_natCast]
      have hh : homeOne (parT N ps) (rkT N ps) l k = alongW (wayP (parT N ps) (rkT N ps) a k) l := by
        unfold homeOne
        rw [ha, Int.toNat_natCast]
      have hpl1 : (alongW (wayP (parT N ps) (rkT N ps) a k) l).place.length = N := by rw [(along_len _ _).2]; exact hpl
      have hP1 := along_ok (N := N) (wayP (parT N ps) (rkT N ps) a k) l (way_lt hG haN hkN) hP
      rw [hh] at hgr
      refine WpO.mono (rhome_l1 (L := L) hF hm hmn hmp hms hst (il := il) (nq := nq) (nb := nb) (dd := (dd : Int)) hG hne hd hkN (by omega) (wayP (parT N ps) (rkT N ps) a k) a (walk_way (tree_ok hG h0N) k a) (way_lt hG haN hkN) l ov pv B _ hB hpl ha (by omega) ?_ ?_ ?_ ?_) ?_
      · exact slotq
      · exact slotq
      · exact slotq
      · exact slotq
      · rintro ex t1 L' ⟨rfl, hK1, ov1, pv1, B1, hB1, rfl⟩
        exact after _ ov1 pv1 B1 t1 hsd.symm hB1 hpl1 hP1 hgr (Keep.trans (by exact keepq) hK1)
    · have hsd : stepD (parT N ps) (rkT N ps) dd l k = l := by unfold stepD; rw [if_neg c]
      refine WpO.mono (rhome_l1n (N := N) (b := k) (il := il) (ps := ps) (dv := dv) (dd := (dd : Int)) h0N hN hd hkN (by omega) ?_ ?_ ?_) ?_
      · exact slotq
      · exact slotq
      · exact slotq
      · rintro ex t1 L' ⟨rfl, hK1, rfl⟩
        exact after l ov pv B t1 hsd.symm hB hpl hP (by omega) (Keep.trans (by exact keepq) hK1)
theorem rhome_l3 (hF : E.fns = fnsT) (hm : E.mode f_phasorref20_laid_swap = .open_) (hmn : E.mode f_phasorref20_next = .iso false) (hmp : E.mode f_phasorref20_parent = .iso false) (hms : E.mode f_phasorref20_step = .iso false) (hst : still E c_phasorref20_Home_r18 = true) {N il : Nat} {nq nb : Int} {ps : List (Nat × Nat)} {dv : AVal} (hG : Good N ps) (h0N : 0 < N) (hne : ∀ p ∈ ps, p.1 ≠ p.2) (hd : SlS dv (dists N ps N)) :
    ∀ (k : Nat) (l : LaidW) (ov pv : AVal) (B : Hp) (t : Tr AVal), k ≤ N + 1 → LaidB l.d ov pv B → l.place.length = N → PlOk N l.place → l.ops.length + 8192 * k < 880000 →
    t.get 6 = some dv → t.get 7 = some (.ptr il 0) → t.get 9 = some (aint ((k : Int) - 1)) →
    WpO E (.loop c_phasorref20_Home_l3) t ((il, [aint nq, aint nb, ov, pv, aint l.swaps]) :: (B ++ L)) (fun ex t' L' => ex = .exit 2 ∧ Keep [2, 3, 4, 6, 7] t t' ∧ ∃ l' ov' pv' B', l' = (List.range k).reverse.foldl (fun l d => (List.range N).reverse.foldl (stepD (parT N ps) (rkT N ps) d) l) l ∧ LaidB l'.d ov' pv' B' ∧ l'.place.length = N ∧ PlOk N l'.place ∧ l'.ops.length ≤ 880000 ∧ L' = (il, [aint nq, aint nb, ov', pv', aint l'.swaps]) :: (B' ++ L)) := by
  have hN := hG.hN
  intro k
  induction k with
  | zero =>
    intro l ov pv B t hk hB hpl hP ho h6 h7 h9
    refine wo_loop ?_
    repeat (first | intro id | refine goq ?_)
    exact ⟨rfl, by exact keepq, l, ov, pv, B, rfl, hB, hpl, hP, by omega, rfl⟩
  | succ k ih =>
    intro l ov pv B t hk hB hpl hP ho h6 h7 h9
    have h9' : t.get 9 = some (aint (k : Int)) := by rw [h9]; congr 2; omega
    clear h9
    have hB0 := hB
    obtain ⟨cs, Bs, H, Pb, hbb, hob, hpp, -, -, hBe⟩ := hB0
    have ov1 := hbb.isOne
    have pv1 := hpp.isOne
    have hpd : l.d.place.length = N := hpl
    rw [hpd] at hpp
    have hfold : (List.range (k + 1)).reverse.foldl (fun l d => (List.range N).reverse.foldl (stepD (parT N ps) (rkT N ps) d) l) l = (List.range k).reverse.foldl (fun l d => (List.range N).reverse.foldl (stepD (parT N ps) (rkT N ps) d) l) ((List.range N).reverse.foldl (stepD (parT N ps) (rkT N ps) k) l) := by rw [rev_succ]; rfl
    rw [hfold]
    refine wo_loop ?_
    repeat (first | intro id | refine goq ?_)
    refine WpO.mono (rhome_l2 (L := L) hF hm hmn hmp hms hst (il := il) (nq := nq) (nb := nb) (dd := k) hG h0N hne hd N l ov pv B _ (Nat.le_refl _) hB hpl hP (by omega) ?_ ?_ ?_ ?_) ?_
    · exact slotq
    · exact slotq
    · exact slotq
    · rw [show (N : Int) - 1 = ((N - 1 : Nat) : Int) by omega]
      exact slotq
    · rintro ex t1 L' ⟨rfl, hK1, l1, ov2, pv2, B2, e1, hB2, hpl2, hP2, ho2, rfl⟩
      have g6 : t1.get 6 = some dv := (hK1.ex 6 rfl).trans (by exact slotq)
      have g7 : t1.get 7 = some (.ptr il 0) := (hK1.ex 7 rfl).trans (by exact slotq)
      have g9 : t1.get 9 = some (aint k) := (hK1.ex 9 rfl).trans (by exact slotq)
      have hKs : Keep [2, 3, 4, 6, 7] t t1 := Keep.trans (by exact keepq) (hK1.less rfl)
      clear hK1
      repeat (first | intro id | refine goq ?_)
      refine WpO.mono (ih l1 ov2 pv2 B2 _ (by omega) hB2 hpl2 hP2 (by omega) ?_ ?_ ?_) ?_
      · exact slotq
      · exact slotq
      · exact slotq
      · rintro ex t' L' ⟨f1, f2, l', ov', pv', B', f3, f4⟩
        exact ⟨f1, Keep.trans (by exact keepq) f2, l', ov', pv', B', by rw [f3, e1], f4⟩
end Go.Proofs.Ytfaphhcloanhnaa
namespace Go.Proofs.Ytfaphhcloanhnaa
open Go.Am Go.Dist
set_option maxRecDepth 4000
set_option maxHeartbeats 16000000
variable {E : Env} {L : Hp}
/-- What Home tells, in rows that stay. -/
def HomeA (N : Int) (ps : List (Int × Int)) (c : CircD) (pl : List Int) (sw : Int) (v : AVal) : Prop :=
  (¬ RightP N ps ∧ v = .tup [.agg zeroR, aint 200]) ∨
    (RightP N ps ∧ (HomeBad N c pl ∨ homeW N.toNat (npairs ps) c pl sw = none) ∧ v = .tup [.agg zeroR, aint 201]) ∨
    (RightP N ps ∧ ¬ HomeBad N c pl ∧ ∃ l ov pv, homeW N.toNat (npairs ps) c pl sw = some l ∧ v = .tup [.agg [aint N, aint c.bits, ov, pv, aint l.swaps], aint 0] ∧ OpsA ov l.ops ∧ SlI pv (l.place.take pl.length))
theorem homeW_docs {N : Nat} {ps : List (Nat × Nat)} {c : CircD} {pl : List Int} {sw : Int} (h4 : c.ops.length ≤ 4096) : homeW N ps c pl sw = if 4096 < ((List.range (N + 1)).reverse.foldl (fun l d => (List.range N).reverse.foldl (stepD (parT N ps) (rkT N ps) d) l) ⟨c.ops, fullP pl N, sw⟩).ops.length then none else some ((List.range (N + 1)).reverse.foldl (fun l d => (List.range N).reverse.foldl (stepD (parT N ps) (rkT N ps) d) l) ⟨c.ops, fullP pl N, sw⟩) := by
  unfold homeW
  rw [homeRun_eq _ _ h4, homeAll_docs]
  rfl
/-- A row of operations and places in boxes, seen by a callee or told. -/
theorem viewA_place {M : Hp} {ip n m : Nat} {cap : Option Nat} {l : List Int} (hn : l.length = n) (hm : m ≤ n) (hi : In ip (l.map aint) M) (k : Nat) : ∃ pu, ViewO M (k + 2) (.sl ip 0 m 1 cap) pu ∧ SlI pu (l.take m) := by
  refine ⟨.rs ((l.take m).map aint) m cap, vo_sl hi (r := (l.take m).map aint) ?_ (vl_sc (sc_ints _)), .inr ⟨cap, by simp [Nat.min_eq_left (hn ▸ hm)]⟩⟩
  rw [Nat.mul_one]
  unfold seg
  rw [if_pos (by simp; omega)]
  simp [List.map_take]
/-- The document's copy, in boxes of its own. -/
theorem RCopy_fresh (hF : E.fns = fnsT) (hK : KnownAbove E) (hm : E.mode f_phasorref08_Copy = .fresh) {c : CircD} {v : AVal} (hv : CircA v c) (hsm : Small c) : CallO E f_phasorref08_Copy [v] L fun r L' => ∃ B, CircO r c B ∧ L' = B ++ L := by
  have hbare := hv.bare
  refine CallO.to ((callO_fresh hK hm (fns_of hF n_phasorref08_Copy) (by simp [hbare]) (J := fun r B => ∃ B0, CircO r c B0 ∧ Am.Sub B0 B) ?_).mono ?_)
  · obtain ⟨s, rfl, cs, hr, hcs, hlt⟩ := hv
    have hs1 := RowA.isOne hr
    refine bodyO_of (Nat.le_of_ble_eq_true rfl) ?_; generalize ht : argSlots _ 0 .nil = t; have h0 : t.get 0 = some _ := (by rw [← ht]; rfl); clear ht
    repeat (first | intro id | refine goq ?_)
    rename_i i1 i2
    refine WpO.weak (WpO.mono (rcopy_l0 (L := [(i2, [aint 0, aint 0, anil])]) (i1 := i1) (i3 := id) hr hcs hsm c.ops.length 0 _ anil [] [] [] (by omega) ?_ ?_ ?_ .nil .nil) ?_) ?_
    · exact slotq
    · exact slotq
    · exact slotq
    · rintro ex t' L' ⟨rfl, hK, a', cs', B', H', hb, ho, rfl⟩
      have g2 : t'.get 2 = some (.ptr i2 0) := (hK.ex 2 rfl).trans (by exact slotq)
      have g3 : t'.get 3 = some (.ptr id 0) := (hK.ex 3 rfl).trans (by exact slotq)
      have ha1 := hb.isOne
      repeat (first | intro id | refine goq ?_)
      ((first | apply retO_r | apply retO_n); (focus (exact resq)))
      refine ⟨B' ++ H', ⟨a', cs', B', H', rfl, hb, ho, hlt, rfl⟩, ?_⟩
      rw [show B' ++ H' = B' ++ (H' ++ []) by simp]
      exact subq
    · simp only [List.nil_append]
      exact subq
  · rintro r L' ⟨B, ⟨B0, h1, R, hp⟩, rfl⟩
    refine ⟨B0 ++ L, ⟨R, ?_⟩, B0, h1, rfl⟩
    refine (hp.append_right L).trans ?_
    rw [List.append_assoc, List.append_assoc]
    exact List.Perm.append_left B0 List.perm_append_comm
theorem rHome_ok (hF : E.fns = fnsT) (hK : KnownAbove E) (hmH : E.mode f_phasorref20_Home = .iso true) (hms : E.mode f_phasorref20_step = .iso false) (hm : E.mode f_phasorref20_laid_swap = .open_) (hmrd : E.mode f_phasorref20_laid_routed = .open_) (hstr : still E c_phasorref20_laid_routed_r3 = true)
    (hst6 : still E c_phasorref20_Home_r6 = true) (hst7 : still E c_phasorref20_Home_r7 = true) (hst18 : still E c_phasorref20_Home_r18 = true) (hst21 : still E c_phasorref20_Home_r21 = true) (hmn : E.mode f_phasorref20_next = .iso false) (hmp : E.mode f_phasorref20_parent = .iso false) (hmam : E.mode f_phasorref20_among = .iso false) (hmap : E.mode f_phasorref20_apart = .iso false) (hsta : still E c_phasorref20_apart_r7 = true)
    (hmcp : E.mode f_phasorref08_Copy = .fresh)
    (hmR : E.mode f_phasorref20_Right = .iso false) (hmf : E.mode f_phasorref20_far = .iso true)
    (hmM : E.mode f_phasorref08_May = .iso false) (hmk : E.mode f_phasorref08_Check = .iso false) (hmo : E.mode f_phasorref08_Op = .iso false) (hmg : E.mode f_phasorref06_Check = .iso false) (hma : E.mode f_phasorref06_Arity = .iso false) (hmi : E.mode f_phasorref06_Is = .iso false) (hmu : E.mode f_phasorref08_unlike = .iso false) (hst8 : still E c_phasorref08_Check_r5 = true)
    {N sw : Int} {s so sp : AVal} {ps : List (Int × Int)} {c : CircD} {pl : List Int} (hs : SlP s ps) (hlt : ps.length ≤ 1000000) (hops : OpsA so c.ops) (hsm : Small c) (hsp : SlI sp pl) (hpl : pl.length ≤ 1100000) :
    CallO E f_phasorref20_Home [.agg [aint c.qubits, aint c.bits, so, sp, aint sw], .agg [aint N, s]] L fun r L' => HomeA N ps c pl sw r ∧ L' = L := by
  have hv0 : CircA (.agg [aint c.qubits, aint c.bits, so]) c := ⟨so, rfl, hops⟩
  have hob : so.bare = true := hops.bare
  have hsb : s.bare = true := by have := bare_MapA (v := .agg [aint N, s]) ⟨s, rfl, hs⟩; simpa [AVal.bare, bareAll, aint] using this
  refine callO_iso1 (R := HomeA N ps c pl sw) hmH (fns_of hF n_phasorref20_Home) (by simp [AVal.bare, bareAll, aint, hob, bare_SlI hsp, hsb]) ?_
  have hs1 := hs.isOne
  have hso1 : so.one = true := by obtain ⟨_, hr, -, -⟩ := hops; exact RowA.isOne hr
  have hsp1 := RowA.isOne hsp
  have z1 : AVal.sc (Value.int .i64 0) = aint 0 := rfl
  have z2 : AVal.sc (Value.slice none 0 0) = anil := rfl
  refine bodyO_of (Nat.le_of_ble_eq_true rfl) ?_; generalize ht : argSlots _ 0 .nil = t; have h0 : t.get 0 = some _ := (by rw [← ht]; rfl); have h1 : t.get 1 = some _ := (by rw [← ht]; rfl); clear ht
  repeat (first | intro id | refine goq ?_)
  rename_i i2 i3
  simp only [z1, z2]
  obtain ⟨i4, hi4⟩ : ∃ x, x = id := ⟨_, rfl⟩
  rw [← hi4] at *
  clear hi4
  refine gok ?_
  refine (Right_ok hF hmR hmf hs (by omega)).mono ?_
  rintro u L' ⟨⟨bb, rfl, hbb⟩, rfl⟩
  cases bb with
  | true =>
    have hR := hbb.1 rfl
    obtain ⟨M, rfl⟩ : ∃ k : Nat, N = k := ⟨N.toNat, by have := hR.n1; omega⟩
    have hG := good_of hR
    have hN := hG.hN
    have h0N : 0 < M := by have := hR.n1; omega
    have hnp := npairs_length ps
    have hne : ∀ p ∈ npairs ps, p.1 ≠ p.2 := npairs_ne hR.ok
    repeat (first | intro id | refine goq ?_)
    refine gok ?_
    refine (May_ok hF hmM hmk hmo hmg hma hmi hmu hst8 hv0).mono ?_
    rintro u L' ⟨⟨x, rfl, hx⟩, rfl⟩
    cases x with
    | true =>
      have hC := hx.1 rfl
      by_cases hq : c.qubits = M
      · repeat (first | intro id | refine goq ?_)
        refine gok ?_
        refine (apart_ok hF hmap hsta (vs_bare (bare_SlI hsp) (vs_bare rfl vs_nil)) hsp (by omega)).mono ?_
        rintro u L' ⟨⟨y, rfl, hy⟩, rfl⟩
        cases y with
        | true =>
          have hQs := hy.1 rfl
          have hnb : ¬ HomeBad M c pl := by
            rintro (h | h | h)
            · exact h hC
            · exact h hq
            · exact h hQs
          repeat (first | intro id | refine goq ?_)
          refine gok ?_
          refine (far_ok hF hmf hG.hN (npairs_lt hR.ok) (SlP_N hR.ok hs) (by omega)).mono ?_
          rintro dv L' ⟨hd, rfl⟩
          have hd1 : dv.one = true := by obtain ⟨us, h1, -, -⟩ := hd; exact RowA.isOne h1
          repeat (first | intro id | refine goq ?_)
          refine gok ?_
          refine (RCopy_fresh hF hK hmcp hv0 hsm).mono ?_
          rintro kv L' ⟨KB, hkv, rfl⟩
          obtain ⟨so2, cs, Bs, H, rfl, hb, hob2, hlt2, rfl⟩ := hkv
          have hso21 := hb.isOne
          repeat (first | intro id | refine goq ?_)
          have hfl1 : fillA [aint 0, aint 0, anil, anil, aint 0] [(0, 3, .agg [aint c.qubits, aint c.bits, so2]), (4, 1, aint sw)] = some [aint c.qubits, aint c.bits, so2, anil, aint sw] := by
            refine fillA_agg rfl (by simp) (all_one_cons rfl (all_one_cons rfl (all_one_cons hso21 all_one_nil))) ?_
            show fillA [aint c.qubits, aint c.bits, so2, anil, aint 0] _ = _
            refine fillA_one rfl (by simp) ?_
            rfl
          refine oo_p wanted_none (fun mm hmm => op_build (argParts_cons (v := .agg [aint c.qubits, aint c.bits, so2]) ?_ (argParts_cons (v := aint sw) ?_ argParts_nil)) hfl1) ?_
          · exact slotq
          · exact slotq
          repeat (first | intro id | refine goq ?_)
          obtain ⟨il, hil⟩ : ∃ x, x = id := ⟨_, rfl⟩
          rw [← hil] at *
          clear hil
          refine oo_appendR wanted_none (by exact slotq) .nil (by exact slotq) hsp .nil (by simp) (all_one_ints _) (by omega) (by omega) ?_
          intro pv Pb hpv
          have pv1 := hpv.isOne
          rw [List.nil_append, Nat.zero_add] at hpv
          repeat (first | intro id | refine goq ?_)
          have hfl := fullP_N hQs
          have hple := Qs_len hQs
          refine WpO.weak (WpO.mono (rhome_l0 (L := Bs ++ (H ++ [(i4, zeroR)])) (il := il) (i2 := i2) (i3 := i3) (q0 := aint c.qubits) (q1 := aint c.bits) (ov := so2) (sw := aint sw) (s := s) (c0 := aint c.qubits) (c1 := aint c.bits) (c2 := so) (c4 := aint sw) (N := M) hF hmam hsp (by omega) hN hso21 rfl M 0 _ pv Pb (by omega) (by rw [fullP_zero]; exact hpv) ?_ ?_ ?_ ?_) ?_) ?_
          · exact slotq
          · exact slotq
          · exact slotq
          · exact slotq
          · rintro ex t1 L' ⟨rfl, hK1, pv', Pb', hpv', rfl⟩
            have g2 : t1.get 2 = some (.ptr i2 0) := (hK1.ex 2 rfl).trans (by exact slotq)
            have g3 : t1.get 3 = some (.ptr i3 0) := (hK1.ex 3 rfl).trans (by exact slotq)
            have g4 : t1.get 4 = some (.ptr i4 0) := (hK1.ex 4 rfl).trans (by exact slotq)
            have g6 : t1.get 6 = some dv := (hK1.ex 6 rfl).trans (by exact slotq)
            have g7 : t1.get 7 = some (.ptr il 0) := (hK1.ex 7 rfl).trans (by exact slotq)
            clear hK1
            have hB0 : LaidB (LaidW.d ⟨c.ops, fullP pl M, sw⟩) so2 pv' (Bs ++ (H ++ Pb')) := ⟨cs, Bs, H, Pb', hb, hob2, hpv', hsm.ops, by simp only [LaidW.d]; omega, rfl⟩
            have hhw := homeW_docs (N := M) (ps := npairs ps) (pl := pl) (sw := sw) hC.len
            have hlen4 := hC.len
            have pv1' := hpv'.isOne
            repeat (first | intro id | refine goq ?_)
            refine WpO.re (WpO.weak (WpO.mono (rhome_l3 (L := (i2, [aint c.qubits, aint c.bits, so, sp, aint sw]) :: (i3, [aint M, s]) :: (i4, zeroR) :: []) (il := il) (nq := c.qubits) (nb := c.bits) hF hm hmn hmp hms hst18 hG h0N hne hd (M + 1) ⟨c.ops, fullP pl M, sw⟩ so2 pv' _ _ (Nat.le_refl _) hB0 hfl (fullP_ok hQs) (by simp only; omega) ?_ ?_ ?_) ?_) ?_)
            · exact slotq
            · exact slotq
            · rw [show (((M + 1 : Nat) : Int) - 1) = (M : Int) by omega]
              exact slotq
            · rintro ex t2 L' ⟨rfl, hK2, l', ov', pv2, B', hl', hB', hpl', hP', hol', rfl⟩
              rw [← hl'] at hhw
              clear hl'
              have q2 : t2.get 2 = some (.ptr i2 0) := (hK2.ex 2 rfl).trans (by exact slotq)
              have q4 : t2.get 4 = some (.ptr i4 0) := (hK2.ex 4 rfl).trans (by exact slotq)
              have q7 : t2.get 7 = some (.ptr il 0) := (hK2.ex 7 rfl).trans (by exact slotq)
              clear hK2
              obtain ⟨cs1, Bs1, H1, Pb1, hb1, ho1, hp1, hle1, -, rfl⟩ := hB'
              have ov1 := hb1.isOne
              have hpM : l'.d.place.length = M := hpl'
              rw [hpM] at hp1
              rcases bufInv hp1 with ⟨-, -, h0, -⟩ | ⟨ip2, rfl, rfl⟩
              · omega
              have hpd2 : l'.d.place = l'.place := rfl
              rw [hpd2]
              refine ⟨_, Sub.refl _, blkO.x (seqO.n ?_)⟩
              rw [List.append_assoc, List.append_assoc]
              repeat (first | intro id | refine goq ?_)
              refine gok ?_
              refine CallO.weak (CallO.mono (routedW_open (L := H1 ++ ([(ip2, l'.place.map aint)] ++ ((i2, [aint c.qubits, aint c.bits, so, sp, aint sw]) :: (i3, [aint M, s]) :: (i4, zeroR) :: []))) (nq := c.qubits) (nb := c.bits) (il := il) (l := l') (ov := ov') (pv := .sl ip2 0 pl.length 1 none) hF hmrd hstr hb1 rfl (by omega)) ?_) (by exact subq)
              rintro v L' ⟨⟨hbig, rfl⟩ | ⟨hsmall, rfl⟩, rfl⟩
              · rw [if_pos hbig] at hhw
                unfold zeroR
                repeat (first | intro id | refine goq ?_)
                ((first | apply retO_r | apply retO_n); (focus (exact resq)))
                exact ⟨_, vo_zeroR, .inr (.inl ⟨hR, .inr (by rw [Int.toNat_natCast]; exact hhw), rfl⟩)⟩
              · rw [if_neg (by omega)] at hhw
                unfold zeroR
                repeat (first | intro id | refine goq ?_)
                ((first | apply retO_r | apply retO_n); (focus (exact resq)))
                have key : ∀ M' : Hp, (∀ id c, In id c (Bs1 ++ (H1 ++ [(ip2, l'.place.map aint)])) → In id c M') → ∃ u, ViewO M' 64 (.tup [.agg [aint c.qubits, aint c.bits, ov', .sl ip2 0 pl.length 1 none, aint l'.swaps], aint 0]) u ∧ HomeA M ps c pl sw u := fun M' hM => by
                  obtain ⟨ou, v1, v2⟩ := OpsB.viewA (M := M') hb1 ho1 rfl (by omega) 59 (fun id c hi => hM id c (by rw [← List.append_assoc]; exact hi.appl))
                  obtain ⟨pu, v3, v4⟩ := viewA_place (M := M') (ip := ip2) (n := M) (m := pl.length) (cap := none) hpl' hple (hM _ _ (In.app (In.app .here))) 60
                  exact ⟨_, vo_tup (vl_cons (vo_agg (vl_cons vo_sc (vl_cons vo_sc (vl_cons v1 (vl_cons v3 (vl_cons vo_sc vl_nil)))))) (vl_cons vo_sc vl_nil)), .inr (.inr ⟨hR, hnb, l', ou, pu, by rw [Int.toNat_natCast]; exact hhw, by rw [hq]; rfl, v2, v4⟩)⟩
                refine key _ (fun id cc hi => .next ?_)
                have h2 := hi.appl (L := [(i2, [aint c.qubits, aint c.bits, so, sp, aint sw]), (i3, [aint M, s]), (i4, [aint c.qubits, aint c.bits, ov', .sl ip2 0 pl.length 1 none, aint l'.swaps])])
                simpa only [List.append_assoc, List.cons_append, List.nil_append] using h2
            · simp only [List.append_assoc]
              exact subq
          · simp only [List.append_assoc]
            exact subq
        | false =>
          have hQs : ¬ Qs M pl := fun h => by have := hy.2 h; cases this
          repeat (first | intro id | refine goq ?_)
          ((first | apply retO_r | apply retO_n); (focus (exact resq)))
          exact ⟨_, vo_zeroR, .inr (.inl ⟨hR, .inl (.inr (.inr hQs)), rfl⟩)⟩
      · repeat (first | intro id | refine goq ?_)
        ((first | apply retO_r | apply retO_n); (focus (exact resq)))
        exact ⟨_, vo_zeroR, .inr (.inl ⟨hR, .inl (.inr (.inl hq)), rfl⟩)⟩
    | false =>
      have hC : ¬ CircOk c := fun h => by have := hx.2 h; cases this
      repeat (first | intro id | refine goq ?_)
      ((first | apply retO_r | apply retO_n); (focus (exact resq)))
      exact ⟨_, vo_zeroR, .inr (.inl ⟨hR, .inl (.inl hC), rfl⟩)⟩
  | false =>
    have hR : ¬ RightP N ps := fun h => by have := hbb.2 h; cases this
    repeat (first | intro id | refine goq ?_)
    ((first | apply retO_r | apply retO_n); (focus (exact resq)))
    exact ⟨_, vo_zeroR, .inl ⟨hR, rfl⟩⟩
end Go.Proofs.Ytfaphhcloanhnaa
