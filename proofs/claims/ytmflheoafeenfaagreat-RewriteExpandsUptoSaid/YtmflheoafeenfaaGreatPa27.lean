/- Parts of the proof, joined by program: RwY10, RwY11, RwY12, RwSH. -/
import Derived.Test.YtmflheoafeenfaaGreatPa26
import Derived.Test.YtmflheoafeenfaaGreatPa22
import Derived.Test.YtmflheoafeenfaaGreatPa19
import Derived.Test.YtmflheoafeenfaaGreatRows
import Derived.Test.YtmflheoafeenfaaGreatPa20
set_option linter.unusedSimpArgs false
set_option linter.unusedVariables false
namespace Go.Proofs.YtmflheoafeenfaaGreat
open Go.Am
set_option maxRecDepth 4000
set_option maxHeartbeats 8000000
variable {L : Hp}
/-- Operations' cells, some of which lie in boxes, seen asq rows. -/
def VOps (cs : List AVal) (os : List OpD) (H : Hp) : Prop := cs.length = os.length * 6 ∧ cs.all AVal.one = true ∧ ∀ M : Hp, (∀ id c, In id c H → In id c M) → ∃ us, ViewL M 61 cs us ∧ OpsC us os
theorem VOps.nil : VOps [] [] [] := ⟨rfl, rfl, fun M _ => ⟨[], vl_nil, .nil⟩⟩
theorem VOps.app {c1 c2 : List AVal} {o1 o2 : List OpD} {H1 H2 : Hp} (h : VOps c1 o1 H1) (k : VOps c2 o2 H2) : VOps (c1 ++ c2) (o1 ++ o2) (H1 ++ H2) := ⟨by rw [List.length_append, List.length_append, h.1, k.1, Nat.add_mul], by rw [List.all_append, h.2.1, k.2.1]; rfl, fun M hM => by
  obtain ⟨u1, a1, a2⟩ := h.2.2 M fun id c hi => hM id c hi.appl
  obtain ⟨u2, b1, b2⟩ := k.2.2 M fun id c hi => hM id c hi.app
  exact ⟨u1 ++ u2, vl_app a1 b1, a2.append b2⟩⟩
theorem VOps.ofTr {T : List Trip} (h : TrOk T) : VOps (tpC T) (tpO T) (tpH T) := ⟨by rw [tpC_len, tpO_len], tpC_all h, fun M hM => h.ops.view 59 hM⟩
theorem VOps.ofRow {cs : List AVal} {os : List OpD} (h : OpsC cs os) : VOps cs os [] := ⟨h.length, h.one, fun M _ => ⟨cs, h.viewL, h⟩⟩
/-- An operation's condition put in. -/
def cnT (x y : Int) (p : Trip) : Trip := ⟨p.u, { p.o with ifc := x, whn := y }, p.B⟩
def cnL (x y : Int) (T : List Trip) (k : Nat) : List Trip := (T.take k).map (cnT x y) ++ T.drop k
theorem cnL_ok {x y : Int} {T : List Trip} (h : TrOk T) (k : Nat) : TrOk (cnL x y T k) := by
  intro p hp
  rcases List.mem_append.1 hp with hp | hp
  · obtain ⟨q, hq, rfl⟩ := List.mem_map.1 hp
    exact h q (List.mem_of_mem_take hq)
  · exact h p (List.mem_of_mem_drop hp)
theorem cnL_len {x y : Int} {T : List Trip} {k : Nat} : (cnL x y T k).length = T.length := by
  unfold cnL
  simp only [List.length_append, List.length_map, List.length_take, List.length_drop]
  omega
theorem cnL_H {x y : Int} {T : List Trip} {k : Nat} : tpH (cnL x y T k) = tpH T := by
  unfold cnL
  have h1 : ∀ S : List Trip, tpH (S.map (cnT x y)) = tpH S := by
    intro S
    induction S with
    | nil => rfl
    | cons p S ih =>
      have e1 : tpH (p :: S) = p.B ++ tpH S := by simp [tpH]
      have e2 : tpH ((p :: S).map (cnT x y)) = p.B ++ tpH (S.map (cnT x y)) := by simp [tpH, cnT]
      rw [e1, e2, ih]
  rw [tpH_app, h1, ← tpH_app, List.take_append_drop]
theorem cnL_set {x y : Int} {T : List Trip} {k : Nat} (h : k < T.length) : ((tpC (cnL x y T k)).set (k * 6 + 4) (aint x)).set (k * 6 + 5) (aint y) = tpC (cnL x y T (k + 1)) := by
  have e1 : cnL x y T k = (T.take k).map (cnT x y) ++ T[k] :: T.drop (k + 1) := by unfold cnL; rw [List.drop_eq_getElem_cons h]
  have e2 : cnL x y T (k + 1) = (T.take k).map (cnT x y) ++ cnT x y T[k] :: T.drop (k + 1) := by
    unfold cnL
    rw [List.take_succ_eq_append_getElem h]
    simp only [List.map_append, List.map_cons, List.map_nil, List.append_assoc, List.cons_append, List.nil_append]
  have hl : (tpC ((T.take k).map (cnT x y))).length = k * 6 := by rw [tpC_len]; simp; omega
  rw [e1, e2, tpC_mid, tpC_mid, List.set_append_right _ _ (by omega), List.set_append_right _ _ (by omega), hl, show k * 6 + 4 - k * 6 = 4 by omega, show k * 6 + 5 - k * 6 = 5 by omega]
  rfl
theorem rexp_l0 {i6 ir n : Nat} {cap : Option Nat} {qv : AVal} {o : OpD} {T : List Trip} (hne : i6 ≠ ir) (hn : T.length = n) (hlt : n ≤ 1000) :
    ∀ (d k : Nat) (t : Tr AVal), d + k = n → t.get 6 = some (.ptr i6 0) → t.get 7 = some (.sl ir 0 n 6 cap) → t.get 8 = some (aint k) →
    WpO EX (.loop c_phasorref18_Expand_l0) t ((ir, tpC (cnL o.ifc o.whn T k)) :: (i6, opCells qv o) :: L) (fun ex t' L' => ex = .exit 2 ∧ Keep [1, 2, 3, 4, 5, 7] t t' ∧ L' = (ir, tpC (cnL o.ifc o.whn T n)) :: (i6, opCells qv o) :: L) := by
  have hx : ((false || true) && [i6].any [ir].contains) = false := by simp [hne]
  intro d
  induction d with
  | zero =>
    intro k t hd h6 h7 h8
    obtain rfl : k = n := by omega
    refine wo_loop ?_
    repeat (first | intro id | refine goq ?_)
    exact ⟨rfl, by exact keepq, rfl⟩
  | succ d ih =>
    intro k t hd h6 h7 h8
    have hk : k < n := by omega
    have hcl := tpC_len (cnL o.ifc o.whn T k)
    rw [cnL_len, hn] at hcl
    refine wo_loop ?_
    repeat (first | intro id | refine goq ?_)
    refine wo_drawn (by kernel_rfl) ?_
    intro nx
    repeat (refine goz ?_)
    refine blkO.n (seqO.n ?_)
    rw [cnL_set (by omega)]
    repeat (first | intro id | refine goq ?_)
    refine WpO.mono (ih (k + 1) _ (by omega) ?_ ?_ ?_) ?_
    · exact slotq
    · exact slotq
    · exact slotq
    · rintro ex t' L' ⟨e1, e2, e3⟩
      exact ⟨e1, Keep.trans (by exact keepq) e2, e3⟩
theorem op_sliceBR {t : Tr AVal} {m : Mem} {x y z : Arg} {esz len lo hi : Nat} {cap : Option Nat} {cs r : List AVal} (hx : x.get t = some (.rs cs len cap)) (hy : y.get t = some (aint lo)) (hz : z.get t = some (aint hi)) (hl : lo ≤ hi) (hh : hi ≤ len) (hr : seg cs (lo * esz) ((hi - lo) * esz) = some r) : OpV t m (.sliceB esz x y z) (.rs r (hi - lo) (cap.map (· - lo))) m := ⟨by
  simp only [opVal, hx, hy, hz, AVal.int?, aint, Option.bind_some]
  rw [if_pos ⟨by omega, by omega, by omega⟩]
  simp [hr]⟩
theorem op_sliceB1R {t : Tr AVal} {m : Mem} {x y z : Arg} {esz len lo : Nat} {cap : Option Nat} {cs r : List AVal} (hx : x.get t = some (.rs cs len cap)) (hy : y.get t = some (aint lo)) (hz : z.get t = some (aint ((lo + 1 : Nat) : Int))) (hh : lo + 1 ≤ len) (hr : seg cs (lo * esz) (1 * esz) = some r) : OpV t m (.sliceB esz x y z) (.rs r 1 (cap.map (· - lo))) m := by
  have := op_sliceBR (m := m) hx hy hz (by omega) hh (by rw [show lo + 1 - lo = 1 by omega]; exact hr)
  rwa [show lo + 1 - lo = 1 by omega] at this
theorem row_ids {s : AVal} {cs : List AVal} {n : Nat} (h : RowA s cs n) : s.id? = [] := by rcases h with ⟨rfl, _⟩ | ⟨cap, rfl⟩ <;> rfl
theorem rexp_r9 {t : Tr AVal} {i1 i4 k nn nc : Nat} {q b qi bi : Int} {sD : AVal} {cs cs0 : List AVal} {cap : Option Nat} {BD : Hp} {os : List OpD} (hos : OpsC cs0 os) (hol : os.length = nn) (hk : k < nn) (hnn : nn ≤ 10000) (hql : (os.getD k default).qs.length ≤ 2000000) (h1 : t.get 1 = some (.ptr i1 0)) (h4 : t.get 4 = some (.ptr i4 0)) (h5 : t.get 5 = some (aint k)) (hb : BufO 6 sD cs nc BD) (hnc : nc ≤ 100000) :
    WpO EX (.reg c_phasorref18_Expand_r9 true) t ((i4, [aint qi, aint bi, sD]) :: (BD ++ ((i1, [aint q, aint b, .rs cs0 nn cap]) :: L))) (fun ex t' L' => ex = .normal ∧ Keep [1, 2, 3, 4, 5] t t' ∧ ∃ (nw : List AVal) (sD' : AVal) (BD' : Hp), OpsC nw [os.getD k default] ∧ BufO 6 sD' (cs ++ nw) (nc + 1) BD' ∧ Am.Sub ((i4, [aint qi, aint bi, sD']) :: (BD' ++ ((i1, [aint q, aint b, .rs cs0 nn cap]) :: L))) L') := by
  have hsD := hb.isOne
  obtain ⟨qv, hqv, hqb, hlt6, hseg⟩ := hos.getE (k := k) (by omega)
  have hsg : seg cs0 (k * 6) (1 * 6) = some (opCells qv (os.getD k default)) := by
    unfold seg at hseg ⊢
    rw [List.length_drop] at hseg
    split at hseg
    · rw [if_pos (by omega)]
      simpa using hseg
    · cases hseg
  generalize os.getD k default = o at *
  refine wo_drawn (by kernel_rfl) ?_
  intro nx
  repeat (refine goz ?_)
  refine dro_p (v := .rs (opCells qv o) 1 (cap.map (· - k))) ?_ (fun _ _ => rfl) (fun _ _ hcc => by cases hcc) (fun mm => op_sliceB1R (lo := k) (by exact rslotq) (by exact rslotq) (by exact rslotq) (by omega) hsg) (fun hfr => by exact aptq) ?_
  · simp only [idsOf]
    exact (congrArg (Option.map AVal.id?) (by exact rslotq : Arg.get _ _ = some (.rs cs0 nn cap)))
  repeat (refine goz ?_)
  have hcA : CircA (.agg [aint 0, aint 0, .rs (opCells qv o) 1 (cap.map (· - k))]) ⟨0, 0, [o]⟩ := ⟨_, rfl, opCells qv o, .inr ⟨_, rfl⟩, by have := OpsC.cons hqv hqb .nil; simpa using this, by simp⟩
  have hcS : Small ⟨0, 0, [o]⟩ := ⟨by simp, fun j hj => by
    have : j = 0 := by simpa using hj
    subst this
    exact hql⟩
  refine dro_callO EX_all (b1 := []) (b2 := []) (vs := [.agg [aint 0, aint 0, .rs (opCells qv o) 1 (cap.map (· - k))]]) (Lc := []) (J := fun r L' => CircA r ⟨0, 0, [o]⟩ ∧ L' = []) (argAll_cons rfl (argAll_cons (by exact rslotq) argAll_nil)) (Rem.here (B := [])) ⟨fun p hp => (List.not_mem_nil hp).elim, by simp [cloAll, AVal.clo, aint], by simp [wtAll, AVal.wt, unseen, aint], fun ids _ _ p hp => (List.not_mem_nil hp).elim⟩ (RCopy_ok (E := EX) rfl rfl hcA hcS) ?_ ?_
  · intro ids wr hi hnm hfr
    have he : ∀ i, i ∉ ids := fun i hi => by
      obtain ⟨p, hp, -⟩ := hnm i hi
      cases hp
    repeat (first | exact apart_nil | (apply apart_bit; (focus decide)) | (refine apart_not (by decide) (any_sep (fun i _ => he i) _) (any_none _ _) ?_))
  rintro v L' ids wr hi ⟨hc, rfl⟩ - -
  obtain ⟨s2, rfl, nw, hr2, hc2, -⟩ := hc
  have hs21 := RowA.isOne hr2
  simp only [List.nil_append]
  repeat (refine goz ?_)
  refine DrO.weak (A := BD ++ ((i4, [aint qi, aint bi, sD]) :: (i1, [aint q, aint b, .rs cs0 nn cap]) :: L)) ?_ (by exact subq)
  refine dro_opP EX_all (J := fun v L' => BufO 6 v (cs ++ nw) (nc + 1) L') (List.Perm.refl _) (fun h => ?_) ?_ (fun ids wr hi _ hfr => by exact aptq) ?_
  · rw [idsOf_append (v := sD) (w := s2) (by exact rslotq) (by exact rslotq), BufO.ids hb, row_ids hr2, List.append_nil]
  · have hrem : Rem BD BD [] := by
      have := Rem.here (B := BD) (L := [])
      rwa [List.append_nil] at this
    refine Go.Am.oo_appendR wanted_none (by exact slotq) hb (by exact slotq) hr2 hrem hc2.length hc2.one (by simp; omega) (by simp; omega) ?_
    intro a' B' hb'
    exact oo_nil ⟨a', by exact slotq, by rw [List.append_nil]; exact hb'⟩
  rintro v L' ids2 wr2 hi2 hb2 - -
  have hv1 := hb2.isOne
  repeat (refine goz ?_)
  refine ⟨by trivial, by exact keepq, nw, v, L', hc2, hb2, ?_⟩
  exact subq
end Go.Proofs.YtmflheoafeenfaaGreat
namespace Go.Proofs.YtmflheoafeenfaaGreat
open Go.Am
set_option maxRecDepth 4000
set_option maxHeartbeats 8000000
variable {L : Hp}
def cnO (o x : OpD) : OpD := { x with ifc := o.ifc, whn := o.whn }
theorem cnL_O {o : OpD} {T : List Trip} : tpO (cnL o.ifc o.whn T T.length) = (tpO T).map (cnO o) := by
  unfold cnL
  rw [List.take_length, List.drop_length, List.append_nil]
  simp only [tpO, List.map_map]
  rfl
theorem wrO_cn {o : OpD} (hk : o.kind = 1) (hb : o.bit = 0) : (wrO (o1 o.gate o.qs)).map (cnO o) = wrO o := by
  unfold wrO
  rw [if_pos (show (o1 o.gate o.qs).kind = 1 from rfl), if_pos hk]
  show ((wrK (o1 o.gate o.qs) o.gate (o.qs.getD 0 0) (o.qs.getD 1 0) (o.qs.getD 2 0)).getD [o1 o.gate o.qs]).map (cnO o) = _
  have ho : cnO o (o1 o.gate o.qs) = o := by
    cases o
    simp only at hk hb
    subst hk hb
    rfl
  generalize o.qs.getD 0 0 = a
  generalize o.qs.getD 1 0 = b
  generalize o.qs.getD 2 0 = c
  unfold wrK
  repeat' split
  all_goals first | rfl | (simp only [Option.getD_none, List.map_cons, List.map_nil, ho])
theorem wo_ne {E : Env} {cd : AC} {t : Tr AVal} {Q : Ex → Tr AVal → Hp → Prop} {i j : Nat} {a b : List AVal} {L : Hp} (h : i ≠ j → WpO E cd t ((i, a) :: (j, b) :: L) Q) : WpO E cd t ((i, a) :: (j, b) :: L) Q := ⟨fun m hm => (h (by
  have := hm.nd
  simp only [List.map_cons, List.nodup_cons, List.mem_cons, not_or] at this
  exact this.1.1)).ex m hm⟩
theorem expL_succ {os : List OpD} {k : Nat} (h : k < os.length) : expL (os.take (k + 1)) = expL (os.take k) ++ wrO (os.getD k default) := by
  rw [List.take_succ_eq_append_getElem h]
  unfold expL
  rw [List.flatMap_append]
  simp [h]
theorem rexp_l1 {i1 i4 nn : Nat} {q b qi bi : Int} {cs0 : List AVal} {cap : Option Nat} {os : List OpD} (hos : OpsC cs0 os) (hol : os.length = nn) (hnn : nn ≤ 5000) (hql : ∀ k, k < nn → (os.getD k default).qs.length ≤ 2000000) (hop : ∀ k, k < nn → (os.getD k default).kind = 1 → (os.getD k default).bit = 0 ∧ arity (os.getD k default).gate ≠ 0 ∧ ((os.getD k default).qs.length : Int) = arity (os.getD k default).gate) :
    ∀ (d k : Nat) (t : Tr AVal) (cs : List AVal) (sD : AVal) (BD H : Hp) (nc : Nat), d + k = nn → BufO 6 sD cs nc BD → VOps cs (expL (os.take k)) H → nc ≤ k * 10 → t.get 1 = some (.ptr i1 0) → t.get 4 = some (.ptr i4 0) → t.get 5 = some (aint k) →
    WpO EX (.loop c_phasorref18_Expand_l1) t ((i4, [aint qi, aint bi, sD]) :: (BD ++ (H ++ ((i1, [aint q, aint b, .rs cs0 nn cap]) :: L)))) (fun ex t' L' => ex = .exit 0 ∧ Keep [1, 2, 3, 4] t t' ∧ ∃ (cs : List AVal) (sD : AVal) (BD H : Hp) (nc : Nat), BufO 6 sD cs nc BD ∧ VOps cs (expL os) H ∧ Am.Sub ((i4, [aint qi, aint bi, sD]) :: (BD ++ (H ++ L))) L') := by
  intro d
  induction d with
  | zero =>
    intro k t cs sD BD H nc hd hb hV hnc h1 h4 h5
    obtain rfl : k = nn := by omega
    refine wo_loop ?_
    repeat (first | intro id | refine goq ?_)
    rw [← hol, List.take_length] at hV
    exact ⟨rfl, by exact keepq, cs, sD, BD, H, nc, hb, hV, by exact subq⟩
  | succ d ih =>
    intro k t cs sD BD H nc hd hb hV hnc h1 h4 h5
    have hk : k < nn := by omega
    have hs1 := hb.isOne
    obtain ⟨qv, hqv, hqb, hlt6, hseg⟩ := hos.getE (k := k) (by omega)
    have hq1 := RowA.isOne hqv
    have hE := expL_succ (os := os) (k := k) (by omega)
    have hopk := hop k hk
    have hqk := hql k hk
    by_cases hkd : (os.getD k default).kind = 1
    · obtain ⟨p1, p2, p3⟩ := hopk hkd
      generalize ho : os.getD k default = o at *
      unfold opCells at hseg
      refine wo_loop ?_
      repeat (first | intro id | refine goq ?_)
      obtain ⟨i6, rfl⟩ : ∃ x, x = id := ⟨_, rfl⟩
      refine gok ?_
      refine (rwritten_open hqv p3 p2).mono ?_
      rintro r L' ⟨T2, ir, cp, rfl, a0, a1, a2, a3, rfl⟩
      repeat (first | intro id | refine goq ?_)
      refine WpO.weak (A := (i6, opCells qv o) :: (ir, tpC (cnL o.ifc o.whn T2 0)) :: (tpH T2 ++ ((i4, [aint qi, aint bi, sD]) :: (BD ++ (H ++ ((i1, [aint q, aint b, .rs cs0 nn cap]) :: L)))))) ?_ ?_
      rotate_left
      · show Am.Sub ((i6, [aint o.kind, aint o.gate, qv, aint o.bit, aint o.ifc, aint o.whn]) :: (ir, tpC T2) :: (tpH T2 ++ ((i4, [aint qi, aint bi, sD]) :: (BD ++ (H ++ ((i1, [aint q, aint b, .rs cs0 nn cap]) :: L)))))) _
        exact subq
      refine wo_ne fun hne => ?_
      refine WpO.weak (WpO.mono (rexp_l0 (i6 := i6) (ir := ir) (n := T2.length) (cap := cp) (qv := qv) (o := o) (T := T2) (L := tpH T2 ++ ((i4, [aint qi, aint bi, sD]) :: (BD ++ (H ++ ((i1, [aint q, aint b, .rs cs0 nn cap]) :: L))))) hne rfl (by omega) T2.length 0 _ (by omega) ?_ ?_ ?_) ?_) (by exact subq)
      · exact slotq
      · exact slotq
      · exact slotq
      rintro ex t1 L1 ⟨rfl, hK, rfl⟩
      have g1 : t1.get 1 = some (.ptr i1 0) := (hK.ex 1 rfl).trans (by exact slotq)
      have g4 : t1.get 4 = some (.ptr i4 0) := (hK.ex 4 rfl).trans (by exact slotq)
      have g5 : t1.get 5 = some (aint k) := (hK.ex 5 rfl).trans (by exact slotq)
      have g7 : t1.get 7 = some (.sl ir 0 T2.length 6 cp) := (hK.ex 7 rfl).trans (by exact slotq)
      have hKt : Keep [1, 2, 3, 4] t t1 := Keep.trans (by exact keepq) (hK.less rfl)
      clear hK
      have hT3 := cnL_ok (x := o.ifc) (y := o.whn) a2 T2.length
      refine blkO.x (seqO.n ?_)
      repeat (first | intro id | refine goq ?_)
      refine oo_pushM wanted_none (by exact slotq) hb (by exact slotq) (by exact remq) .here (by rw [tpC_len, cnL_len]) a0 (tpC_all hT3) (by omega) (by omega) ?_
      intro i9
      repeat (first | intro id | refine goq ?_)
      have hE2 : tpO (cnL o.ifc o.whn T2 T2.length) = wrO o := by rw [cnL_O, a3, wrO_cn hkd p1]
      have hV2 := hV.app (VOps.ofTr hT3)
      rw [hE2, cnL_H, ← hE] at hV2
      refine WpO.weak (WpO.mono (ih (k + 1) _ (cs ++ tpC (cnL o.ifc o.whn T2 T2.length)) (.sl i9 0 (nc + T2.length) 6 none) [(i9, cs ++ tpC (cnL o.ifc o.whn T2 T2.length))] (H ++ tpH T2) (nc + T2.length) (by omega) ?_ hV2 (by omega) ?_ ?_ ?_) ?_) ?_
      · exact .box (by rw [List.length_append, hb.length, tpC_len, cnL_len, Nat.add_mul]) (by rw [List.all_append, hb.one, tpC_all hT3]; rfl)
      · exact slotq
      · exact slotq
      · exact slotq
      · rintro ex t' L' ⟨e1, e2, e3⟩
        exact ⟨e1, hKt.trans (Keep.trans (by exact keepq) e2), e3⟩
      · simp only [List.append_assoc, List.cons_append, List.nil_append]
        exact subq
    · have hw1 : wrO (os.getD k default) = [os.getD k default] := by unfold wrO; rw [if_neg hkd]
      unfold opCells at hseg
      refine wo_loop ?_
      repeat (first | intro id | refine goq ?_)
      refine WpO.weak (WpO.mono (rexp_r9 (i1 := i1) (i4 := i4) (k := k) (nn := nn) (nc := nc) (q := q) (b := b) (qi := qi) (bi := bi) (cap := cap) (L := H ++ L) hos hol hk (by omega) hqk (by exact slotq) (by exact slotq) (by exact slotq) hb (by omega)) ?_) (by exact subq)
      rintro ex t1 L1 ⟨rfl, hK, nw, sD', BD', f1, f2, hsub⟩
      have g1 : t1.get 1 = some (.ptr i1 0) := (hK.ex 1 rfl).trans (by exact slotq)
      have g4 : t1.get 4 = some (.ptr i4 0) := (hK.ex 4 rfl).trans (by exact slotq)
      have g5 : t1.get 5 = some (aint k) := (hK.ex 5 rfl).trans (by exact slotq)
      have hKt : Keep [1, 2, 3, 4] t t1 := Keep.trans (by exact keepq) (hK.less rfl)
      clear hK
      refine seqO.n (WpO.weak ?_ hsub)
      repeat (first | intro id | refine goq ?_)
      have hV2 := hV.app (VOps.ofRow f1)
      rw [← hw1, ← hE, List.append_nil] at hV2
      refine WpO.weak (WpO.mono (ih (k + 1) _ (cs ++ nw) sD' BD' H (nc + 1) (by omega) f2 hV2 (by omega) ?_ ?_ ?_) ?_) (by exact subq)
      · exact slotq
      · exact slotq
      · exact slotq
      · rintro ex t' L' ⟨e1, e2, e3⟩
        exact ⟨e1, hKt.trans (Keep.trans (by exact keepq) e2), e3⟩
end Go.Proofs.YtmflheoafeenfaaGreat
namespace Go.Proofs.YtmflheoafeenfaaGreat
open Go.Am Go.Proofs
set_option maxRecDepth 4000
set_option maxHeartbeats 16000000
variable {L : Hp}
def RExpA (c : CircD) (r : AVal) : Prop := (¬ CircOk c ∧ r = .tup [.agg zeroC, aint 80]) ∨ (CircOk c ∧ 4096 < (expL c.ops).length ∧ r = .tup [.agg zeroC, aint 180]) ∨ (CircOk c ∧ (expL c.ops).length ≤ 4096 ∧ ∃ s, r = .tup [.agg [aint c.qubits, aint c.bits, s], aint 0] ∧ OpsA s (expL c.ops))
theorem ops_gate {c : CircD} (hC : CircOk c) : ∀ k, k < c.ops.length → (c.ops.getD k default).kind = 1 → (c.ops.getD k default).bit = 0 ∧ arity (c.ops.getD k default).gate ≠ 0 ∧ ((c.ops.getD k default).qs.length : Int) = arity (c.ops.getD k default).gate := by
  intro k hk hkd
  have ho := hC.ok k hk
  generalize c.ops.getD k default = o at *
  rcases ho with ⟨h1, h2, h3, h4, h5, -⟩ | ⟨h1, -⟩ | ⟨h1, -⟩ | ⟨h1, -⟩
  · exact ⟨h5, h2, h3⟩
  · omega
  · omega
  · omega
theorem rExpand_ok {v : AVal} {c : CircD} (hv : CircA v c) (hsm : Small c) : CallO EX f_phasorref18_Expand [v] L fun r L' => RExpA c r ∧ L' = L := by
  refine callO_iso1 (R := RExpA c) rfl n_phasorref18_Expand (by simp [hv.bare]) ?_
  have hv0 := hv
  obtain ⟨so, rfl, hops⟩ := hv
  have hso1 : so.one = true := by obtain ⟨_, hr, -, -⟩ := hops; exact RowA.isOne hr
  have hsm1 := hsm.ops
  refine bodyO_of (Nat.le_of_ble_eq_true rfl) ?_; generalize ht : argSlots _ 0 .nil = t; have h0 : t.get 0 = some _ := (by rw [← ht]; rfl); clear ht
  repeat (first | intro id | refine goq ?_)
  refine gok ?_
  refine (May_ok (E := EX) rfl rfl rfl rfl rfl rfl rfl rfl (by kernel_rfl) hv0).mono ?_
  rintro u L' ⟨⟨x, rfl, hx⟩, rfl⟩
  cases x with
  | true =>
    have hC := hx.1 rfl
    have hCl := hC.len
    repeat (first | intro id | refine goq ?_)
    refine gok ?_
    refine (RCopy_ok (E := EX) rfl rfl hv0 hsm).mono ?_
    rintro w L' ⟨hw, rfl⟩
    obtain ⟨sw, rfl, hwo⟩ := hw
    have hsw1 : sw.one = true := by obtain ⟨_, hr, -, -⟩ := hwo; exact RowA.isOne hr
    repeat (first | intro id | refine goq ?_)
    rename_i i1 i2
    refine WpO.mono (Q := fun ex t' L' => ex = .exit 0 ∧ t'.get 2 = some (.ptr i2 0) ∧ t'.get 4 = some (.ptr id 0) ∧ ∃ (cs : List AVal) (sD : AVal) (BD H : Hp) (nc : Nat), BufO 6 sD cs nc BD ∧ VOps cs (expL c.ops) H ∧ Am.Sub ((id, [aint c.qubits, aint c.bits, sD]) :: (BD ++ (H ++ [(i2, [aint 0, aint 0, anil])]))) L') ?_ ?_
    · obtain ⟨cs0, hr0, hos, -⟩ := hops
      rcases hr0 with ⟨rfl, e1, -⟩ | ⟨cap, rfl⟩
      · have e2 : c.ops = [] := List.eq_nil_of_length_eq_zero e1
        rw [e2]
        refine wo_loop ?_
        repeat (first | intro id | refine goq ?_)
        exact ⟨rfl, by exact slotq, by exact slotq, [], anil, [], [], 0, .nil, .nil, by exact subq⟩
      · refine WpO.weak (WpO.mono (rexp_l1 (i1 := i1) (i4 := id) (q := c.qubits) (b := c.bits) (qi := c.qubits) (bi := c.bits) (cap := cap) (L := [(i2, [aint 0, aint 0, anil])]) hos rfl (by omega) hsm.qs (ops_gate hC) c.ops.length 0 _ [] anil [] [] 0 (by omega) .nil .nil (by omega) ?_ ?_ ?_) ?_) (by simp only [List.nil_append]; exact subq)
        · exact slotq
        · exact slotq
        · exact slotq
        · rintro ex t1 L1 ⟨rfl, hK, cs, sD, BD, H, nc, f1, f2, f3⟩
          exact ⟨rfl, (hK.ex 2 rfl).trans (by exact slotq), (hK.ex 4 rfl).trans (by exact slotq), cs, sD, BD, H, nc, f1, f2, f3⟩
    · rintro ex t1 L1 ⟨rfl, g2, g4, cs, sD, BD, H, nc, f1, f2, f3⟩
      have hl : nc = (expL c.ops).length := by
        have h1 := f1.length
        have h2 := f2.1
        omega
      have hsD := f1.isOne
      have hub : (expL c.ops).length ≤ 1000000 := by
        have h1 : ∀ l : List OpD, (expL l).length ≤ l.length * 8 := by
          intro l
          induction l with
          | nil => simp [expL]
          | cons o l ih =>
            have h2 : (wrO o).length ≤ 8 := by
              unfold wrO
              split
              · unfold wrK
                repeat' split
                all_goals simp [swq, czq]
              · simp
            unfold expL at ih ⊢
            rw [List.flatMap_cons, List.length_append, List.length_cons]
            omega
        have := h1 c.ops
        omega
      refine blkO.x (seqO.n (WpO.weak ?_ f3))
      by_cases h4 : nc ≤ 4096
      · have key : ∀ M : Hp, (∀ id c, In id c BD → In id c M) → (∀ id c, In id c H → In id c M) → ∃ u, ViewO M 64 (.tup [.agg [aint c.qubits, aint c.bits, sD], aint 0]) u ∧ RExpA c u := fun M hM1 hM2 => by
          obtain ⟨us, u1, u2⟩ := f2.2.2 M hM2
          rcases bufInv f1 with ⟨rfl, rfl, e0, rfl⟩ | ⟨ic, rfl, rfl⟩
          · have h9 : expL c.ops = [] := List.eq_nil_of_length_eq_zero (by omega)
            refine ⟨.tup [.agg [aint c.qubits, aint c.bits, anil], aint 0], vo_tup (vl_cons (vo_agg (vl_cons vo_sc (vl_cons vo_sc (vl_cons vo_sc vl_nil)))) (vl_cons vo_sc vl_nil)), .inr (.inr ⟨hC, by omega, anil, rfl, [], .inl ⟨rfl, by rw [h9]; rfl, rfl⟩, by rw [h9]; exact .nil, by omega⟩)⟩
          · refine ⟨.tup [.agg [aint c.qubits, aint c.bits, .rs us nc none], aint 0], vo_tup (vl_cons (vo_agg (vl_cons vo_sc (vl_cons vo_sc (vl_cons (vo_sl (hM1 _ _ .here) (seg_full f1.length) u1) vl_nil)))) (vl_cons vo_sc vl_nil)), .inr (.inr ⟨hC, by omega, _, rfl, us, .inr ⟨none, by rw [← hl]⟩, u2, by omega⟩)⟩
        repeat (first | intro id | refine goq ?_)
        ((first | apply retO_r | apply retO_n); (focus (exact resq)))
        exact key _ (fun id c hi => .next hi.appl) (fun id c hi => .next (.app hi.appl))
      · repeat (first | intro id | refine goq ?_)
        ((first | apply retO_r | apply retO_n); (focus (exact resq)))
        exact ⟨_, vo_zeroC, .inr (.inl ⟨hC, by omega, rfl⟩)⟩
  | false =>
    have hC : ¬ CircOk c := fun h => by have := hx.2 h; cases this
    repeat (first | intro id | refine goq ?_)
    ((first | apply retO_r | apply retO_n); (focus (exact resq)))
    exact ⟨_, vo_zeroC, .inl ⟨hC, rfl⟩⟩
theorem ExpO.shape {c : CircD} {r : AVal} {B : Hp} (h : ExpO c r B) : ∃ (q b e : Int) (s : AVal) (d : CircD), r = .tup [.agg [aint q, aint b, s], aint e] ∧ s.one = true ∧ CircO (.agg [aint q, aint b, s]) d B ∧ ((¬ CircOk c ∧ e = 80 ∧ d = ⟨0, 0, []⟩) ∨ (CircOk c ∧ 4096 < (expL c.ops).length ∧ e = 180 ∧ d = ⟨0, 0, []⟩) ∨ (CircOk c ∧ (expL c.ops).length ≤ 4096 ∧ e = 0 ∧ d = ⟨c.qubits, c.bits, expL c.ops⟩)) := by
  rcases h with ⟨h, rfl, rfl⟩ | ⟨h, h2, rfl, rfl⟩ | ⟨h, h2, v, rfl, hv⟩
  · exact ⟨0, 0, 80, anil, ⟨0, 0, []⟩, rfl, rfl, ⟨anil, [], [], [], rfl, .nil, .nil, by simp, rfl⟩, .inl ⟨h, rfl, rfl⟩⟩
  · exact ⟨0, 0, 180, anil, ⟨0, 0, []⟩, rfl, rfl, ⟨anil, [], [], [], rfl, .nil, .nil, by simp, rfl⟩, .inr (.inl ⟨h, h2, rfl, rfl⟩)⟩
  · have hv0 := hv
    obtain ⟨s, cs, Bs, H, rfl, hb, -, -, -⟩ := hv
    exact ⟨c.qubits, c.bits, 0, s, _, rfl, hb.isOne, hv0, .inr (.inr ⟨h, h2, rfl, rfl⟩)⟩
theorem RExpA.shape {c : CircD} {r : AVal} (h : RExpA c r) : ∃ (q b e : Int) (s : AVal) (d : CircD), r = .tup [.agg [aint q, aint b, s], aint e] ∧ s.one = true ∧ CircA (.agg [aint q, aint b, s]) d ∧ ((¬ CircOk c ∧ e = 80 ∧ d = ⟨0, 0, []⟩) ∨ (CircOk c ∧ 4096 < (expL c.ops).length ∧ e = 180 ∧ d = ⟨0, 0, []⟩) ∨ (CircOk c ∧ (expL c.ops).length ≤ 4096 ∧ e = 0 ∧ d = ⟨c.qubits, c.bits, expL c.ops⟩)) := by
  rcases h with ⟨h, rfl⟩ | ⟨h, h2, rfl⟩ | ⟨h, h2, s, rfl, hs⟩
  · exact ⟨0, 0, 80, anil, ⟨0, 0, []⟩, rfl, rfl, ⟨anil, rfl, [], .inl ⟨rfl, rfl, rfl⟩, .nil, by simp⟩, .inl ⟨h, rfl, rfl⟩⟩
  · exact ⟨0, 0, 180, anil, ⟨0, 0, []⟩, rfl, rfl, ⟨anil, rfl, [], .inl ⟨rfl, rfl, rfl⟩, .nil, by simp⟩, .inr (.inl ⟨h, h2, rfl, rfl⟩)⟩
  · have hs1 : s.one = true := by obtain ⟨_, hr, -, -⟩ := hs; exact RowA.isOne hr
    exact ⟨c.qubits, c.bits, 0, s, ⟨c.qubits, c.bits, expL c.ops⟩, rfl, hs1, ⟨s, rfl, hs⟩, .inr (.inr ⟨h, h2, rfl, rfl⟩)⟩
theorem expands_law {v : AVal} {c : CircD} (hv : CircA v c) (hsc : Small c) : CallO EX f_phasorlaw18_RewriteExpands [v] [] fun r _ => r = abool true := by
  refine callO_open rfl n_phasorlaw18_RewriteExpands ?_
  have hv0 := hv
  have hsc1 := hsc.ops
  obtain ⟨sv, rfl, hvo⟩ := hv
  have hsv1 : sv.one = true := by obtain ⟨_, hr, -, -⟩ := hvo; exact RowA.isOne hr
  refine bodyO_of (Nat.le_of_ble_eq_true rfl) ?_; generalize ht : argSlots _ 0 .nil = t; have h0 : t.get 0 = some _ := (by rw [← ht]; rfl); clear ht
  repeat (first | intro id | refine goq ?_)
  refine gok ?_
  refine (RCopy_ok (E := EX) rfl rfl hv0 hsc).mono ?_
  rintro kv L' ⟨hkv, rfl⟩
  have hkv0 := hkv
  obtain ⟨sk, rfl, hko⟩ := hkv
  have hsk1 : sk.one = true := by obtain ⟨_, hr, -, -⟩ := hko; exact RowA.isOne hr
  repeat (first | intro id | refine goq ?_)
  refine gok ?_
  refine (Expand_open hv0 hsc).mono ?_
  rintro r L' ⟨B1, hB1, rfl⟩
  obtain ⟨q1, b1, e1, s1, d1, rfl, s11, hC1, h1⟩ := hB1.shape
  repeat (first | intro id | refine goq ?_)
  refine gok ?_
  refine (rExpand_ok hv0 hsc).mono ?_
  rintro r L' ⟨hr1, rfl⟩
  obtain ⟨q2, b2, e2, s2, d2, rfl, s21, hA2, h2⟩ := hr1.shape
  obtain ⟨rfl, rfl, hdl⟩ : e1 = e2 ∧ d1 = d2 ∧ d1.ops.length ≤ 1000000 := by
    rcases h1 with ⟨h1, rfl, rfl⟩ | ⟨h1, k1, rfl, rfl⟩ | ⟨h1, k1, rfl, rfl⟩ <;> rcases h2 with ⟨h2, rfl, rfl⟩ | ⟨h2, k2, rfl, rfl⟩ | ⟨h2, k2, rfl, rfl⟩
    · exact ⟨rfl, rfl, by simp⟩
    · exact (h1 h2).elim
    · exact (h1 h2).elim
    · exact (h2 h1).elim
    · exact ⟨rfl, rfl, by simp⟩
    · omega
    · exact (h2 h1).elim
    · omega
    · exact ⟨rfl, rfl, by show (expL c.ops).length ≤ 1000000; omega⟩
  have key : ∀ M : Hp, (∀ id c, In id c B1 → In id c M) → CallO EX f_phasorref08_Same [.agg [aint q1, aint b1, s1], .agg [aint q2, aint b2, s2]] M fun v L' => v = abool true ∧ L' = M := fun M hM => by
    obtain ⟨u1, k1, v1⟩ := hC1.views hM
    refine (Same8_ok (E := EX) rfl rfl rfl rfl (by kernel_rfl) (v1 _ _ (vs_bare hA2.bare vs_nil)) k1 hA2).mono ?_
    rintro v L' ⟨⟨y, rfl, hy⟩, rfl⟩
    obtain rfl := hy.2 rfl
    exact ⟨rfl, rfl⟩
  repeat (first | intro id | refine goq ?_)
  refine gok ?_
  refine (num18_ok rfl rfl _).mono ?_
  rintro u L' ⟨rfl, rfl⟩
  repeat (first | intro id | refine goq ?_)
  refine gok ?_
  refine (key _ ?_).mono ?_
  · intro id c hi
    repeat (first | exact hi.appl | exact hi | apply In.next | apply In.app)
  rintro u L' ⟨rfl, rfl⟩
  repeat (first | intro id | refine goq ?_)
  refine gok ?_
  refine CallO.weak (CallO.mono (own_ok (E := EX) (L := []) (B := B1) rfl rfl rfl rfl rfl (by kernel_rfl) hv0 hkv0 hC1 hdl) ?_) (by exact subq)
  rintro u L' ⟨rfl, rfl⟩
  repeat (first | intro id | refine goq ?_)
  refine gok ?_
  refine aliveE_ok.mono ?_
  rintro u L' ⟨rfl, rfl⟩
  repeat (first | intro id | refine goq ?_)
  ((first | apply retO_r | apply retO_n); (focus (exact resq)))
  rfl
end Go.Proofs.YtmflheoafeenfaaGreat
namespace Go.Proofs.YtmflheoafeenfaaGreat
open Go.Am Go.Proofs
set_option maxRecDepth 100000
section
variable {H : Type}
theorem six {α : Type} {l : List α} (h : l.length = 6) : ∃ a b c d e f, l = [a, b, c, d, e, f] := by
  match l, h with
  | [a, b, c, d, e, f], _ => exact ⟨a, b, c, d, e, f, rfl⟩
theorem three {α : Type} {l : List α} (h : l.length = 3) : ∃ a b c, l = [a, b, c] := by
  match l, h with
  | [a, b, c], _ => exact ⟨a, b, c, rfl⟩
theorem sh_ints {d : Nat} {x : DataW H} (h : shD Tryz.prog (d + 2) 52 x) : ∃ (s : AVal) (l : List Int), encD Tryz.prog (d + 2) 52 x = [s] ∧ SlI s l ∧ l.length ≤ Rows.uptoBulk x := by
  rcases shD_slice Tryz.underlying52 h with ⟨rfl, e⟩ | ⟨es, sp, rfl, hy, e⟩
  · exact ⟨anil, [], e, .inl ⟨rfl, rfl, rfl⟩, by simp⟩
  · have : ∃ l : List Int, es.flatMap (encD Tryz.prog (d + 1) 3) = l.map aint ∧ l.length = es.length ∧ es.length ≤ Rows.uptoBulkAll es := by
      clear e h sp
      induction es with
      | nil => exact ⟨[], rfl, rfl, by simp⟩
      | cons e r ih =>
        obtain ⟨n, rfl, -, h1⟩ := shD_int (d := d) Tryz.underlying3 (hy e (by simp))
        obtain ⟨l, h2, h3, h4⟩ := ih fun y hy' => hy y (by simp [hy'])
        refine ⟨n :: l, ?_, by simp [h3], by simp only [Rows.uptoBulkAll, Rows.uptoBulk, List.length_cons]; omega⟩
        rw [List.flatMap_cons, h1, h2]
        rfl
    obtain ⟨l, h1, h2, h3⟩ := this
    refine ⟨_, l, e, .inr ⟨some (es.length + sp.length), by rw [h1, h2]⟩, by simp only [Rows.uptoBulk]; omega⟩
theorem sh_op {d : Nat} {x : DataW H} (h : shD Tryz.prog (d + 3) 54 x) : ∃ (q : AVal) (o : OpD), encD Tryz.prog (d + 3) 54 x = opCells q o ∧ SlI q o.qs ∧ o.qs.length + 5 ≤ Rows.uptoBulk x := by
  obtain ⟨ys, rfl, hl, hy, e, -⟩ := shD_struct Tryz.underlying54 h
  obtain ⟨y0, y1, y2, y3, y4, y5, rfl⟩ := six hl
  obtain ⟨n0, rfl, -, e0⟩ := shD_int (d := d + 1) Tryz.underlying50 (hy 0 _ y0 rfl rfl)
  obtain ⟨n1, rfl, -, e1⟩ := shD_int (d := d + 1) Tryz.underlying51 (hy 1 _ y1 rfl rfl)
  obtain ⟨q, l, e2, hq, hb⟩ := sh_ints (d := d) (hy 2 _ y2 rfl rfl)
  obtain ⟨n3, rfl, -, e3⟩ := shD_int (d := d + 1) Tryz.underlying3 (hy 3 _ y3 rfl rfl)
  obtain ⟨n4, rfl, -, e4⟩ := shD_int (d := d + 1) Tryz.underlying3 (hy 4 _ y4 rfl rfl)
  obtain ⟨n5, rfl, -, e5⟩ := shD_int (d := d + 1) Tryz.underlying3 (hy 5 _ y5 rfl rfl)
  refine ⟨q, ⟨n0, n1, l, n3, n4, n5⟩, ?_, hq, by simp only [Rows.uptoBulk, Rows.uptoBulkAll]; omega⟩
  rw [e]
  show List.flatten [encD Tryz.prog (d + 2) 50 _, encD Tryz.prog (d + 2) 51 _, encD Tryz.prog (d + 2) 52 y2, encD Tryz.prog (d + 2) 3 _, encD Tryz.prog (d + 2) 3 _, encD Tryz.prog (d + 2) 3 _] = _
  rw [e0, e1, e2, e3, e4, e5]
  rfl
theorem sh_ops {d : Nat} {x : DataW H} (h : shD Tryz.prog (d + 4) 22 x) (hb : Rows.uptoBulk x ≤ 1048576) : ∃ (s : AVal) (os : List OpD), encD Tryz.prog (d + 4) 22 x = [s] ∧ OpsA s os ∧ 5 * os.length ≤ Rows.uptoBulk x ∧ ∀ k, k < os.length → (os.getD k default).qs.length ≤ Rows.uptoBulk x := by
  rcases shD_slice Tryz.underlying22 h with ⟨rfl, e⟩ | ⟨es, sp, rfl, hy, e⟩
  · exact ⟨anil, [], e, ⟨[], .inl ⟨rfl, rfl, rfl⟩, .nil, by simp⟩, by simp, fun k hk => by simp at hk⟩
  · have hb1 : Rows.uptoBulkAll es ≤ 1048576 := by simp only [Rows.uptoBulk] at hb; omega
    have : ∃ os : List OpD, OpsC (es.flatMap (encD Tryz.prog (d + 3) 54)) os ∧ os.length = es.length ∧ 5 * es.length ≤ Rows.uptoBulkAll es ∧ ∀ k, k < os.length → (os.getD k default).qs.length ≤ Rows.uptoBulkAll es := by
      clear e h sp hb
      induction es with
      | nil => exact ⟨[], .nil, rfl, by simp, fun k hk => by simp at hk⟩
      | cons e r ih =>
        obtain ⟨q, o, h1, h2, h3⟩ := sh_op (d := d) (hy e (by simp))
        simp only [Rows.uptoBulkAll] at hb1
        obtain ⟨os, h4, h5, h6, h7⟩ := ih (fun y hy' => hy y (by simp [hy'])) (by omega)
        refine ⟨o :: os, ?_, by simp [h5], by simp only [Rows.uptoBulkAll, List.length_cons]; omega, fun k hk => ?_⟩
        · rw [List.flatMap_cons, h1]
          exact .cons h2 (by omega) h4
        · simp only [Rows.uptoBulkAll]
          cases k with
          | zero => simp; omega
          | succ k =>
            have := h7 k (by simpa using hk)
            simp only [List.getD_cons_succ]
            omega
    obtain ⟨os, h1, h2, h3, h4⟩ := this
    refine ⟨_, os, e, ⟨_, .inr ⟨some (es.length + sp.length), by rw [h2]⟩, h1, by omega⟩, by simp only [Rows.uptoBulk]; omega, fun k hk => ?_⟩
    have := h4 k hk
    simp only [Rows.uptoBulk]
    omega
theorem sh_circuit {d : Nat} {x : DataW H} (h : shD Tryz.prog (d + 5) 24 x) (hb : Rows.uptoBulk x ≤ 1048576) : ∃ (v : AVal) (c : CircD), valD Tryz.prog (d + 5) 24 x = v ∧ CircA v c ∧ Small c := by
  obtain ⟨ys, rfl, hl, hy, e, ev⟩ := shD_struct Tryz.underlying24 h
  obtain ⟨a, b, o, rfl⟩ := three hl
  obtain ⟨n, -, -, e1⟩ := shD_int (d := d + 3) Tryz.underlying3 (hy 0 _ a rfl rfl)
  obtain ⟨m, -, -, e2⟩ := shD_int (d := d + 3) Tryz.underlying3 (hy 1 _ b rfl rfl)
  simp only [Rows.uptoBulk, Rows.uptoBulkAll] at hb
  obtain ⟨s, os, e3, h2, h3, h4⟩ := sh_ops (d := d) (hy 2 _ o rfl rfl) (by omega)
  refine ⟨_, ⟨n, m, os⟩, rfl, ⟨s, ?_, h2⟩, ⟨by simp only; omega, fun k hk => by have := h4 k hk; simp only at *; omega⟩⟩
  rw [ev, e]
  show AVal.agg (List.flatten [encD Tryz.prog (d + 4) 3 a, encD Tryz.prog (d + 4) 3 b, encD Tryz.prog (d + 4) 22 o]) = _
  rw [e1, e2, e3]
  rfl
end
end Go.Proofs.YtmflheoafeenfaaGreat
