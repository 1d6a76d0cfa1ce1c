/- Parts of the proof, joined by program: LaLI, LaLJ, AmCodeOk. -/
import Derived.Test.YtfaphhcloanhnaaPa26
import Derived.Test.YtfaphhcloanhnaaPa4
import Derived.Test.YtfaphhcloanhnaaPa10
import Derived.Test.YtfaphhcloanhnaaChecked
import Derived.KernelRfl
set_option linter.unusedSimpArgs false
set_option linter.unusedVariables false
namespace Go.Proofs.Ytfaphhcloanhnaa
open Go.Am Go.Dist
set_option maxRecDepth 4000
set_option maxHeartbeats 16000000
variable {E : Env} {L : Hp}
def RL3post (N : Nat) (ps : List (Nat × Nat)) (c : CircD) (il i2 i4 : Nat) (nq nb : Int) (so : AVal) (t : Tr AVal) (L : Hp) (ex : Ex) (t' : Tr AVal) (L' : Hp) : Prop :=
  (ex = .exit 2 ∧ Keep [2, 3, 4, 7] t t' ∧ ¬ WideC c ∧ (laidAll N ps c c.ops.length).ops.length ≤ 1000000 ∧ ∃ ov pv B, LaidB (laidAll N ps c c.ops.length) ov pv B ∧ Am.Sub ((il, [aint nq, aint nb, ov, pv, aint (laidAll N ps c c.ops.length).swaps]) :: (B ++ ((i2, [aint c.qubits, aint c.bits, so]) :: (i4, zeroR) :: L))) L') ∨
  (ex = .ret ∧ t'.get 4 = t.get 4 ∧ t'.get 5 = some (aint 201) ∧ WideC c ∧ Am.Sub ((i4, zeroR) :: L) L')
theorem RL3post.keep {N : Nat} {ps : List (Nat × Nat)} {c : CircD} {il i2 i4 : Nat} {nq nb : Int} {so : AVal} {t t1 : Tr AVal} {ex : Ex} {t' : Tr AVal} {L' : Hp} (hK : Keep [2, 3, 4, 7] t t1) (h : RL3post N ps c il i2 i4 nq nb so t1 L ex t' L') : RL3post N ps c il i2 i4 nq nb so t L ex t' L' := by
  rcases h with ⟨h1, h2, h3⟩ | ⟨h1, h2, h3⟩
  · exact .inl ⟨h1, hK.trans h2, h3⟩
  · exact .inr ⟨h1, h2.trans (hK.ex 4 rfl), h3⟩
theorem ok_qs_pos {o : OpD} {n b : Int} (h : OpOk o n b) : 0 < o.qs.length := by
  unfold OpOk at h
  rcases h with h | h | h | h
  · have := h.2.1; have := h.2.2.1; omega
  · have := h.2.2.2.2.1; omega
  · have := h.2.2.2.2.1; omega
  · have := h.2.2.2.2.1; omega
theorem rroute_l3 (hF : E.fns = fnsT) (hms : E.mode f_phasorref20_step = .iso false) (hm : E.mode f_phasorref20_laid_swap = .open_) (hst18 : still E c_phasorref20_Route_r18 = true) (hst19 : still E c_phasorref20_Route_r19 = true) (hst24 : still E c_phasorref20_Route_r24 = true) (hst27 : still E c_phasorref20_Route_r27 = true)
    {N il i2 i4 : Nat} {ps : List (Nat × Nat)} {fv so : AVal} {nq nb : Int} {c : CircD} {cs : List AVal} (hG : Good N ps) (hne : ∀ p ∈ ps, p.1 ≠ p.2) (hfv : SlS fv (dists N ps N)) (hC : CircOk c) (hq : c.qubits ≤ N) (hsm : Small c) (hr : RowA so cs c.ops.length) (hcs : OpsC cs c.ops) :
    ∀ (d k : Nat) (t : Tr AVal) (ov pv : AVal) (B : Hp), d + k = c.ops.length → LaidB (laidAll N ps c k) ov pv B → (laidAll N ps c k).ops.length ≤ 65 * k → (∀ j, j < k → wideOp (c.ops.getD j default) = false) →
    t.get 2 = some (.ptr i2 0) → t.get 4 = some (.ptr i4 0) → t.get 6 = some fv → t.get 7 = some (.ptr il 0) → t.get 9 = some (aint k) →
    WpO E (.loop c_phasorref20_Route_l3) t ((il, [aint nq, aint nb, ov, pv, aint (laidAll N ps c k).swaps]) :: (B ++ ((i2, [aint c.qubits, aint c.bits, so]) :: (i4, zeroR) :: L))) (RL3post N ps c il i2 i4 nq nb so t L) := by
  have hN := hG.hN
  have hlen := hC.len
  have hso1 := RowA.isOne hr
  intro d
  induction d with
  | zero =>
    intro k t ov pv B hk hB hle hw h2 h4 h6 h7 h9
    obtain rfl : k = c.ops.length := by omega
    refine wo_loop ?_
    repeat (first | intro id | refine goq ?_)
    refine .inl ⟨rfl, by exact keepq, ?_, by omega, ov, pv, B, hB, by exact subq⟩
    rintro ⟨j, hj, h⟩
    have := hw j hj
    rw [h] at this
    cases this
  | succ d ih =>
    intro k t ov pv B hk hB hle hw h2 h4 h6 h7 h9
    have hkl : k < c.ops.length := by omega
    have hlok := laid_ok hG hC hq k (by omega)
    have hok := hC.ok k hkl
    have hsu := laidAll_succ (N := N) (ps := ps) hkl
    have hbro := brought_ok hG hlok hok hC.q0
    have hqsm := hsm.qs k hkl
    obtain ⟨q, ha⟩ := hcs.at hkl
    generalize hO : c.ops.getD k default = o at *
    have hsq := ha.hq
    have hq1 := RowA.isOne hsq
    have hlt6 := ha.lt
    have hseg := ha.seg
    have hqs := gate_qs hok
    obtain ⟨b1, b2, dd, b3, b4, b5⟩ := hbro
    unfold opCells at hseg
    have hqpos := ok_qs_pos hok
    -- behind the gate's being brought together
    have tail : ∀ (t2 : Tr AVal) (i10 : Nat) (ov1 pv1 : AVal) (B1 L2 : Hp), LaidB (broughtOp N ps o (laidAll N ps c k)) ov1 pv1 B1 → wideOp o = false → Keep [2, 3, 4, 6, 7, 9] t t2 → t2.get 10 = some (.ptr i10 0) → t2.get 13 = some anil → t2.get 14 = some (aint 0) →
        Am.Sub ((i10, [aint o.kind, aint o.gate, q, aint o.bit, aint o.ifc, aint o.whn]) :: (il, [aint nq, aint nb, ov1, pv1, aint (broughtOp N ps o (laidAll N ps c k)).swaps]) :: (B1 ++ ((i2, [aint c.qubits, aint c.bits, so]) :: (i4, zeroR) :: L))) L2 →
        WpO E (.loop c_phasorref20_Route_l2) t2 L2 (blkO 6 (seqO E (.seq (.reg c_phasorref20_Route_r26 false) (.reg c_phasorref20_Route_r27 true)) (blkO 3 (seqO E (.reg c_phasorref20_Route_r28 false) (seqO E (.loop c_phasorref20_Route_l3) (RL3post N ps c il i2 i4 nq nb so t L)))))) := by
      intro t2 i10 ov1 pv1 B1 L2 hB1 hnw hKp e10 e13 e14 hsub
      refine WpO.weak ?_ hsub
      obtain ⟨cs1, Bs1, H1, Pb1, hb1, ho1, hp1, hol1, hpl1, rfl⟩ := hB1
      have ov1o := hb1.isOne
      have e7 := (hKp.ex 7 rfl).trans h7
      generalize hbl : broughtOp N ps o (laidAll N ps c k) = bl at *
      rcases bufInv hp1 with ⟨rfl, hp0, hn0, rfl⟩ | ⟨ip, rfl, rfl⟩
      · exfalso
        have := (hqs 0 hqpos).1
        have := (hqs 0 hqpos).2.1
        omega
      refine WpO.weak (WpO.mono (rmove_l2 (i10 := i10) (il := il) (ip := ip) (nq := nq) (nb := nb) (ov := ov1) (sw := bl.swaps) (c0 := aint o.kind) (c1 := aint o.gate) (c3 := aint o.bit) (c4 := aint o.ifc) (c5 := aint o.whn) (pl := bl.place) (L := Bs1 ++ (H1 ++ ((i2, [aint c.qubits, aint c.bits, so]) :: (i4, zeroR) :: L))) hst24 hsq hqsm rfl ?_ o.qs.length 0 t2 anil [] (by omega) (by exact BufO.nil) e7 e10 e13 e14) ?_) ?_
      · intro q hql
        have := (hqs q hql).1
        have := (hqs q hql).2.1
        omega
      · rintro ex t' L' ⟨rfl, hK', u', Bu', f13, hbu, rfl⟩
        have u1 := hbu.isOne
        have hKt : Keep [2, 3, 4, 6, 7, 9] t t' := hKp.trans (hK'.less rfl)
        have f10 := (hK'.ex 10 rfl).trans e10
        have f2 := (hKt.ex 2 rfl).trans h2
        have f4 := (hKt.ex 4 rfl).trans h4
        have f6 := (hKt.ex 6 rfl).trans h6
        have f7 := (hKt.ex 7 rfl).trans h7
        have f9 := (hKt.ex 9 rfl).trans h9
        have hKs : Keep [2, 3, 4, 7] t t' := hKt.less rfl
        clear hK'
        have hBo : OwnI u' (movedOp o bl.place).qs Bu' := by
          rcases bufInv hbu with ⟨rfl, e, -, rfl⟩ | ⟨iq, rfl, rfl⟩
          · exact .inl ⟨rfl, by simpa [movedOp] using e, rfl⟩
          · exact .inr ⟨iq, none, by simp [movedOp], rfl⟩
        have hk1 : laidAll N ps c (k + 1) = ⟨bl.ops ++ [movedOp o bl.place], bl.place, bl.swaps⟩ := by rw [hsu]; unfold layOp; rw [hbl]
        have ih1 := ih (k + 1)
        rw [hk1] at ih1
        refine .x ?_
        constructor
        repeat (first | intro id | refine goq ?_)
        have hb2 := hb1.pushed (id := id) (nw := opCells u' (movedOp o bl.place)) rfl (all_one_cons rfl (all_one_cons rfl (all_one_cons u1 (all_one_cons rfl (all_one_cons rfl (all_one_cons rfl all_one_nil))))))
        have ho2 := ho1.snoc hBo (by simp [movedOp]; omega)
        refine WpO.weak (WpO.mono (ih1 _ (.sl id 0 (bl.ops.length + 1) 6 none) (.sl ip 0 bl.place.length 1 none) ([(id, cs1 ++ opCells u' (movedOp o bl.place))] ++ ((H1 ++ Bu') ++ [(ip, bl.place.map aint)])) (by omega) ?_ ?_ ?_ ?_ ?_ ?_ ?_ ?_) (fun _ _ _ h => h.keep (by exact keepq))) ?_
        · exact ⟨_, _, _, _, by simpa using hb2, ho2, hp1, by simp; omega, hpl1, rfl⟩
        · simp; omega
        · intro j hj
          rcases Nat.lt_or_ge j k with h | h
          · exact hw j h
          · have : j = k := by omega
            rw [this, hO]
            exact hnw
        · exact slotq
        · exact slotq
        · exact slotq
        · exact slotq
        · exact slotq
        · unfold opCells
          simp only [List.append_assoc, List.cons_append, List.nil_append]
          simp only [movedOp]
          exact subq
      · simp only [List.append_assoc, List.nil_append]
        exact subq
    refine wo_loop ?_
    by_cases h1 : o.kind = 1
    · by_cases hwide : 2 < o.qs.length
      · unfold zeroR
        repeat (first | intro id | refine goq ?_)
        refine .inr ⟨rfl, ?_, ?_, ⟨k, hkl, by rw [hO]; exact decide_eq_true ⟨h1, hwide⟩⟩, ?_⟩
        · rw [h4]
          exact slotq
        · exact slotq
        · unfold zeroR
          exact subq
      · have hnw : wideOp o = false := by simp [wideOp]; omega
        by_cases h22 : o.qs.length = 2
        · obtain ⟨x, y, hxy, hx, hy, hne'⟩ := two_qs hqs h22
          have g0 : o.qs.getD 0 0 = (x : Int) := by rw [hxy]; rfl
          have g1 : o.qs.getD 1 0 = (y : Int) := by rw [hxy]; rfl
          have hxl : x < (laidAll N ps c k).place.length := by rw [hlok.len]; omega
          have hyl : y < (laidAll N ps c k).place.length := by rw [hlok.len]; omega
          have p1 := hlok.pl.lo x hxl
          have p2 := hlok.pl.lo y hyl
          have hcn := hG.conn ((laidAll N ps c k).place.getD x 0).toNat ((laidAll N ps c k).place.getD y 0).toNat (by omega) (by omega)
          have hz : D N ps ((laidAll N ps c k).place.getD x 0).toNat ((laidAll N ps c k).place.getD y 0).toNat ≠ 0 := fun e => by
            have := (hG.zero (by omega) (by omega)).1 e
            exact hne' (hlok.pl.inj x y hxl hyl (by omega))
          have hbr : broughtOp N ps o (laidAll N ps c k) = bringN N ps x y (D N ps ((laidAll N ps c k).place.getD x 0).toNat ((laidAll N ps c k).place.getD y 0).toNat - 1).toNat (laidAll N ps c k) := by
            unfold broughtOp
            rw [if_pos ⟨h1, h22⟩, g0, g1, Int.toNat_natCast, Int.toNat_natCast]
          have hol := hlok.lo
          have hsw := hlok.sw
          rcases hsq with ⟨-, h0, -⟩ | ⟨cap, rfl⟩
          · omega
          rw [hxy] at tail hseg
          simp only [List.map_cons, List.map_nil, List.length_cons, List.length_nil, Nat.zero_add, Nat.reduceAdd] at tail hseg
          rw [h1] at hseg tail
          repeat (first | intro id | refine goq ?_)
          refine WpO.weak (WpO.mono (bring_rl1 (L := (i2, [aint c.qubits, aint c.bits, so]) :: (i4, zeroR) :: L) hF hms hm hst18 hst19 (il := il) (i10 := id) (i := x) (j := y) (g1 := aint o.gate) (b1 := aint o.bit) (b2 := aint o.ifc) (b3 := aint o.whn) (cap := cap) (nq := nq) (nb := nb) hG hne hfv (D N ps ((laidAll N ps c k).place.getD x 0).toNat ((laidAll N ps c k).place.getD y 0).toNat - 1).toNat (laidAll N ps c k) ov pv B _ hB hlok.pl hxl hyl hne' (by omega) (by omega) (by omega) ?_ ?_ ?_) ?_) ?_
          · exact slotq
          · exact slotq
          · exact slotq
          · rintro ex t' L' ⟨rfl, hK', ov', pv', B', hB', rfl⟩
            have f10 : t'.get 10 = some (.ptr id 0) := (hK'.ex 10 rfl).trans (by exact slotq)
            have hKt : Keep [2, 3, 4, 6, 7, 9] t t' := Keep.trans (by exact keepq) (hK'.less rfl)
            repeat (first | intro id | refine goq ?_)
            refine tail _ id ov' pv' B' _ (by rw [hbr]; exact hB') hnw (by exact keepq) ?_ ?_ ?_ ?_
            · exact slotq
            · exact slotq
            · exact slotq
            · rw [hbr]
              exact subq
          · exact subq
        · have hbr : broughtOp N ps o (laidAll N ps c k) = laidAll N ps c k := by unfold broughtOp; rw [if_neg (fun h => h22 h.2)]
          rw [hbr] at tail
          repeat (first | intro id | refine goq ?_)
          refine wo_loop ?_
          repeat (first | intro id | refine goq ?_)
          refine tail _ id ov pv B _ hB hnw (by exact keepq) ?_ ?_ ?_ ?_
          · exact slotq
          · exact slotq
          · exact slotq
          · exact subq
    · have hnw : wideOp o = false := by simp [wideOp, h1]
      have hbr : broughtOp N ps o (laidAll N ps c k) = laidAll N ps c k := by unfold broughtOp; rw [if_neg (fun h => h1 h.1)]
      rw [hbr] at tail
      repeat (first | intro id | refine goq ?_)
      refine wo_loop ?_
      repeat (first | intro id | refine goq ?_)
      refine tail _ id ov pv B _ hB hnw (by exact keepq) ?_ ?_ ?_ ?_
      · exact slotq
      · exact slotq
      · exact slotq
      · exact subq
end Go.Proofs.Ytfaphhcloanhnaa
namespace Go.Proofs.Ytfaphhcloanhnaa
open Go.Am Go.Dist
set_option maxRecDepth 4000
set_option maxHeartbeats 16000000
variable {E : Env} {L : Hp}
theorem OpsB.viewA {n : Nat} {s : AVal} {cs : List AVal} {os : List OpD} {Bs H M : Hp} (hb : BufO 6 s cs n Bs) (ho : OpsB cs os H) (hn : n = os.length) (hlt : os.length < 2 ^ 62) (k : Nat) (hM : ∀ id c, In id c (Bs ++ H) → In id c M) : ∃ u, ViewO M (k + 3) s u ∧ OpsA u os := by
  subst hn
  obtain ⟨us, h1, h2⟩ := ho.view k fun id c hi => hM id c hi.app
  have hlen := hb.length
  rcases bufInv hb with ⟨rfl, rfl, e, rfl⟩ | ⟨id, rfl, rfl⟩
  · have h3 := h2.length
    rw [e] at h3
    have h4 : us = [] := List.eq_nil_of_length_eq_zero (by simpa using h3)
    exact ⟨anil, vo_sc, us, .inl ⟨rfl, e, h4⟩, h2, hlt⟩
  · exact ⟨_, vo_sl (hM _ _ (In.appl .here)) (seg_full hlen) h1, us, .inr ⟨none, rfl⟩, h2, hlt⟩
theorem LaidB.view {l : LaidD} {ov pv : AVal} {B M : Hp} (h : LaidB l ov pv B) (k : Nat) (hM : ∀ id c, In id c B → In id c M) : ∃ ou pu, ViewO M (k + 3) ov ou ∧ ViewO M (k + 3) pv pu ∧ OpsA ou l.ops ∧ SlI pu l.place := by
  obtain ⟨cs, Bs, H, Pb, hb, ho, hp, hol, hpl, rfl⟩ := h
  obtain ⟨ou, h1, h2⟩ := OpsB.viewA (M := M) hb ho rfl (by omega) k (fun id c hi => hM id c (by rw [← List.append_assoc]; exact hi.appl))
  obtain ⟨pu, h3, h4⟩ := hp.view (L := M) (k := k + 1) (fun id c hi => hM id c (by rw [← List.append_assoc]; exact hi.app)) (sc_ints _)
  exact ⟨ou, pu, h1, h3, h2, h4⟩
/-- What Route tells, in rows that stay. -/
def RoutedA (N : Int) (ps : List (Int × Int)) (c : CircD) (v : AVal) : Prop :=
  (¬ RightP N ps ∧ v = .tup [.agg zeroR, aint 200]) ∨ (RightP N ps ∧ ¬ CircOk c ∧ v = .tup [.agg zeroR, aint 80]) ∨
    (RightP N ps ∧ CircOk c ∧ (N < c.qubits ∨ WideC c ∨ 4096 < (laidC N ps c).ops.length) ∧ v = .tup [.agg zeroR, aint 201]) ∨
    (RightP N ps ∧ CircOk c ∧ c.qubits ≤ N ∧ ¬ WideC c ∧ (laidC N ps c).ops.length ≤ 4096 ∧ ∃ ov pv, v = .tup [.agg [aint N, aint c.bits, ov, pv, aint (laidC N ps c).swaps], aint 0] ∧ OpsA ov (laidC N ps c).ops ∧ SlI pv (laidC N ps c).place)
theorem vo_zeroR {e : Int} {M : Hp} : ViewO M 64 (.tup [.agg zeroR, aint e]) (.tup [.agg zeroR, aint e]) :=
  vo_tup (vl_cons (vo_agg (vl_cons vo_sc (vl_cons vo_sc (vl_cons vo_sc (vl_cons vo_sc (vl_cons vo_sc vl_nil)))))) (vl_cons vo_sc vl_nil))
theorem rRoute_ok (hF : E.fns = fnsT) (hmR0 : E.mode f_phasorref20_Route = .iso true) (hms : E.mode f_phasorref20_step = .iso false) (hm : E.mode f_phasorref20_laid_swap = .open_) (hmrd : E.mode f_phasorref20_laid_routed = .open_) (hst18 : still E c_phasorref20_Route_r18 = true) (hst19 : still E c_phasorref20_Route_r19 = true) (hst24 : still E c_phasorref20_Route_r24 = true) (hst27 : still E c_phasorref20_Route_r27 = true) (hstr : still E c_phasorref20_laid_routed_r3 = true)
    (hmR : E.mode f_phasorref20_Right = .iso false) (hmf : E.mode f_phasorref20_far = .iso true)
    (hmM : E.mode f_phasorref08_May = .iso false) (hmk : E.mode f_phasorref08_Check = .iso false) (hmo : E.mode f_phasorref08_Op = .iso false) (hmg : E.mode f_phasorref06_Check = .iso false) (hma : E.mode f_phasorref06_Arity = .iso false) (hmi : E.mode f_phasorref06_Is = .iso false) (hmu : E.mode f_phasorref08_unlike = .iso false) (hst8 : still E c_phasorref08_Check_r5 = true)
    {N : Int} {s v : AVal} {ps : List (Int × Int)} {c : CircD} (hs : SlP s ps) (hlt : ps.length ≤ 1000000) (hv : CircA v c) (hsm : Small c) :
    CallO E f_phasorref20_Route [v, .agg [aint N, s]] L fun r L' => RoutedA N ps c r ∧ L' = L := by
  refine callO_iso1 (R := RoutedA N ps c) hmR0 (fns_of hF n_phasorref20_Route) (by simp [hv.bare, bare_MapA ⟨s, rfl, hs⟩]) ?_
  have hv0 := hv
  obtain ⟨so, rfl, cs, hr, hcs, hltc⟩ := hv
  have hs1 := hs.isOne
  have hso1 := RowA.isOne hr
  refine bodyO_of (Nat.le_of_ble_eq_true rfl) ?_; generalize ht : argSlots _ 0 .nil = t; have h0 : t.get 0 = some _ := (by rw [← ht]; rfl); have h1 : t.get 1 = some _ := (by rw [← ht]; rfl); clear ht
  repeat (first | intro id | refine goq ?_)
  rename_i i2 i3
  have z1 : AVal.sc (Value.int .i64 0) = aint 0 := rfl
  have z2 : AVal.sc (Value.slice none 0 0) = anil := rfl
  simp only [z1, z2]
  refine gok ?_
  refine (Right_ok hF hmR hmf hs (by omega)).mono ?_
  rintro u L' ⟨⟨bb, rfl, hbb⟩, rfl⟩
  cases bb with
  | true =>
    have hR := hbb.1 rfl
    obtain ⟨M, rfl⟩ : ∃ k : Nat, N = k := ⟨N.toNat, by have := hR.n1; omega⟩
    have hG := good_of hR
    have hnp := npairs_length ps
    repeat (first | intro id | refine goq ?_)
    refine gok ?_
    refine (May_ok hF hmM hmk hmo hmg hma hmi hmu hst8 hv0).mono ?_
    rintro u L' ⟨⟨x, rfl, hx⟩, rfl⟩
    cases x with
    | true =>
      have hC := hx.1 rfl
      have hq0 := hC.q0
      have hq1 := hC.q1
      by_cases cq : (M : Int) < c.qubits
      · repeat (first | intro id | refine goq ?_)
        ((first | apply retO_r | apply retO_n); (focus (exact resq)))
        exact ⟨_, vo_zeroR, .inr (.inr (.inl ⟨hR, hC, .inl cq, rfl⟩))⟩
      · repeat (first | intro id | refine goq ?_)
        refine gok ?_
        refine (far_ok hF hmf hG.hN (npairs_lt hR.ok) (SlP_N hR.ok hs) (by omega)).mono ?_
        rintro dv L' ⟨hd, rfl⟩
        have hd1 : dv.one = true := by obtain ⟨us, h1, -, -⟩ := hd; exact RowA.isOne h1
        repeat (first | intro id | refine goq ?_)
        have hne : ∀ p ∈ npairs ps, p.1 ≠ p.2 := npairs_ne hR.ok
        have hlc : laidC M ps c = laidAll M (npairs ps) c c.ops.length := rfl
        obtain ⟨n, hn⟩ : ∃ n : Nat, c.qubits = n := ⟨c.qubits.toNat, by omega⟩
        rename_i i4
        have hfl : fillA [aint 0, aint 0, anil, anil, aint 0] [(0, 3, .agg [aint M, aint c.bits, anil])] = some [aint M, aint c.bits, anil, anil, aint 0] := by
          refine fillA_agg rfl (by simp) (all_one_cons rfl (all_one_cons rfl (all_one_cons rfl all_one_nil))) ?_
          rfl
        refine WpO.re (WpO.weak (WpO.mono (rroute_l0 (L := (i4, zeroR) :: (i3, [aint M, s]) :: []) (il := id) (i2 := i2) (ov := anil) (n := n) (nq := M) (nb := c.bits) (nc := c.bits) (s2 := so) rfl (by omega) n 0 _ anil [] (by omega) (by exact BufO.nil) ?_ ?_ ?_) ?_) ?_)
        · exact slotq
        · exact slotq
        · exact slotq
        · rintro ex t1 L' ⟨rfl, hK1, pv, Pb, hpb, rfl⟩
          have g2 : t1.get 2 = some (.ptr i2 0) := (hK1.ex 2 rfl).trans (by exact slotq)
          have g4 : t1.get 4 = some (.ptr i4 0) := (hK1.ex 4 rfl).trans (by exact slotq)
          have g6 : t1.get 6 = some dv := (hK1.ex 6 rfl).trans (by exact slotq)
          have g7 : t1.get 7 = some (.ptr id 0) := (hK1.ex 7 rfl).trans (by exact slotq)
          clear hK1
          refine ⟨_, Sub.refl _, blkO.x (seqO.n ?_)⟩
          repeat (first | intro id | refine goq ?_)
          have hl0 : LaidB (laidAll M (npairs ps) c 0) anil pv Pb := by
            rw [laidAll_zero]
            have e : c.qubits.toNat = n := by omega
            rw [e]
            exact ⟨[], [], [], Pb, BufO.nil, .nil, by simpa [iotaPl_length] using hpb, by simp, by simp [iotaPl_length]; omega, rfl⟩
          have hle0 : (laidAll M (npairs ps) c 0).ops.length ≤ 65 * 0 := by rw [laidAll_zero]; simp
          have hsw0 : (laidAll M (npairs ps) c 0).swaps = 0 := by rw [laidAll_zero]
          refine WpO.re (WpO.weak (WpO.mono (rroute_l3 (L := (i3, [aint M, s]) :: []) hF hms hm hst18 hst19 hst24 hst27 (il := id) (i4 := i4) (i2 := i2) (nq := M) (nb := c.bits) (so := so) (fv := dv) hG hne hd hC (by omega) hsm hr hcs c.ops.length 0 _ anil pv Pb (by omega) hl0 hle0 (fun j hj => by omega) ?_ ?_ ?_ ?_ ?_) ?_) ?_)
          · exact slotq
          · exact slotq
          · exact slotq
          · exact slotq
          · exact slotq
          · rintro ex t' L' (⟨rfl, hK', hnw, hle, ov, pv', B, hB, hsub⟩ | ⟨rfl, k4, k5, hw, hsub⟩)
            · have k4 : t'.get 4 = some (.ptr i4 0) := (hK'.ex 4 rfl).trans (by exact slotq)
              have k7 : t'.get 7 = some (.ptr id 0) := (hK'.ex 7 rfl).trans (by exact slotq)
              clear hK'
              refine ⟨_, hsub, blkO.x (seqO.n ?_)⟩
              repeat (first | intro id | refine goq ?_)
              refine gok ?_
              refine CallO.mono (routed_open (L := (i2, [aint c.qubits, aint c.bits, so]) :: (i4, zeroR) :: (i3, [aint M, s]) :: []) (nq := M) (nb := c.bits) (il := id) hF hmrd hstr hB hle) ?_
              rintro v L' ⟨⟨hbig, rfl⟩ | ⟨hsmall, rfl⟩, rfl⟩
              · unfold zeroR
                repeat (first | intro id | refine goq ?_)
                ((first | apply retO_r | apply retO_n); (focus (exact resq)))
                exact ⟨_, vo_zeroR, .inr (.inr (.inl ⟨hR, hC, .inr (.inr (by rw [hlc]; exact hbig)), rfl⟩))⟩
              · have hB0 := hB
                obtain ⟨_, _, _, _, hb1, _, hp1, -, -, -⟩ := hB0
                have ov1 := hb1.isOne
                have pv1 := hp1.isOne
                unfold zeroR
                repeat (first | intro id | refine goq ?_)
                ((first | apply retO_r | apply retO_n); (focus (exact resq)))
                have key : ∀ M' : Hp, (∀ id c, In id c B → In id c M') → ∃ u, ViewO M' 64 (.tup [.agg [aint M, aint c.bits, ov, pv', aint (laidAll M (npairs ps) c c.ops.length).swaps], aint 0]) u ∧ RoutedA M ps c u := fun M' hM => by
                  obtain ⟨ou, pu, v1, v2, v3, v4⟩ := hB.view (M := M') 59 hM
                  exact ⟨_, vo_tup (vl_cons (vo_agg (vl_cons vo_sc (vl_cons vo_sc (vl_cons v1 (vl_cons v2 (vl_cons vo_sc vl_nil)))))) (vl_cons vo_sc vl_nil)), .inr (.inr (.inr ⟨hR, hC, by omega, hnw, by rw [hlc]; exact hsmall, ou, pu, by rw [hlc]; rfl, by rw [hlc]; exact v3, by rw [hlc]; exact v4⟩))⟩
                exact key _ (fun id c hi => .next hi.appl)
            · refine ⟨_, hsub, .r (.r ?_)⟩
              have k4' : t'.get 4 = some (.ptr i4 0) := k4.trans (by exact slotq)
              unfold zeroR
              ((first | apply retO_r | apply retO_n); (focus (exact resq)))
              exact ⟨_, vo_zeroR, .inr (.inr (.inl ⟨hR, hC, .inr (.inl hw), rfl⟩))⟩
          · rw [hsw0, hn]
            exact subq
        · rw [hn]
          exact subq
    | false =>
      have hC : ¬ CircOk c := fun h => by have := hx.2 h; cases this
      repeat (first | intro id | refine goq ?_)
      ((first | apply retO_r | apply retO_n); (focus (exact resq)))
      exact ⟨_, vo_zeroR, .inr (.inl ⟨hR, hC, rfl⟩)⟩
  | false =>
    have hR : ¬ RightP N ps := fun h => by have := hbb.2 h; cases this
    repeat (first | intro id | refine goq ?_)
    ((first | apply retO_r | apply retO_n); (focus (exact resq)))
    exact ⟨_, vo_zeroR, .inl ⟨hR, rfl⟩⟩
end Go.Proofs.Ytfaphhcloanhnaa
namespace Go.Proofs.Ytfaphhcloanhnaa
open Go.Am
theorem k_phasorlaw20_RouteLays : compFn Try.prog Try.f6 = some c_phasorlaw20_RouteLays := by kernel_rfl
theorem k_route_Line : compFn Try.prog Try.f8 = some c_route_Line := by kernel_rfl
theorem k_route_Ring : compFn Try.prog Try.f10 = some c_route_Ring := by kernel_rfl
theorem k_route_Grid : compFn Try.prog Try.f12 = some c_route_Grid := by kernel_rfl
theorem k_phasorref20_Right : compFn Try.prog Try.f14 = some c_phasorref20_Right := by kernel_rfl
theorem k_phasorlaw20_num : compFn Try.prog Try.f15 = some c_phasorlaw20_num := by kernel_rfl
theorem k_route_Check : compFn Try.prog Try.f16 = some c_route_Check := by kernel_rfl
theorem k_phasorlaw20_alive : compFn Try.prog Try.f18 = some c_phasorlaw20_alive := by kernel_rfl
theorem k_route_Far : compFn Try.prog Try.f19 = some c_route_Far := by kernel_rfl
theorem k_phasorlaw20_ints : compFn Try.prog Try.f21 = some c_phasorlaw20_ints := by kernel_rfl
theorem k_route_Path : compFn Try.prog Try.f22 = some c_route_Path := by kernel_rfl
theorem k_phasorref08_Copy : compFn Try.prog Try.f24 = some c_phasorref08_Copy := by kernel_rfl
theorem k_route_Fits : compFn Try.prog Try.f25 = some c_route_Fits := by kernel_rfl
theorem k_phasorref20_Fits : compFn Try.prog Try.f26 = some c_phasorref20_Fits := by kernel_rfl
theorem k_route_Route : compFn Try.prog Try.f27 = some c_route_Route := by kernel_rfl
theorem k_phasorref20_Route : compFn Try.prog Try.f28 = some c_phasorref20_Route := by kernel_rfl
theorem k_phasorlaw20_routed : compFn Try.prog Try.f29 = some c_phasorlaw20_routed := by kernel_rfl
theorem k_phasorref08_Same : compFn Try.prog Try.f30 = some c_phasorref08_Same := by kernel_rfl
theorem k_route_Home : compFn Try.prog Try.f31 = some c_route_Home := by kernel_rfl
theorem k_route_line : compFn Try.prog Try.f33 = some c_route_line := by kernel_rfl
theorem k_phasorref20_far : compFn Try.prog Try.f34 = some c_phasorref20_far := by kernel_rfl
theorem k_slices_Contains_int_int : compFn Try.prog Try.f35 = some c_slices_Contains_int_int := by kernel_rfl
theorem k_route_steps : compFn Try.prog Try.f36 = some c_route_steps := by kernel_rfl
theorem k_route_near : compFn Try.prog Try.f37 = some c_route_near := by kernel_rfl
theorem k_route_far : compFn Try.prog Try.f38 = some c_route_far := by kernel_rfl
theorem k_route_path : compFn Try.prog Try.f39 = some c_route_path := by kernel_rfl
theorem k_phasorref20_step : compFn Try.prog Try.f40 = some c_phasorref20_step := by kernel_rfl
theorem k_circuit_Check : compFn Try.prog Try.f41 = some c_circuit_Check := by kernel_rfl
theorem k_route_Fits_1 : compFn Try.prog Try.f42 = some c_route_Fits_1 := by kernel_rfl
theorem k_slices_ContainsFunc_api_Op_api_Op : compFn Try.prog Try.f43 = some c_slices_ContainsFunc_api_Op_api_Op := by kernel_rfl
theorem k_phasorref08_May : compFn Try.prog Try.f44 = some c_phasorref08_May := by kernel_rfl
theorem k_route_Route_1 : compFn Try.prog Try.f45 = some c_route_Route_1 := by kernel_rfl
theorem k_circuit_Copy : compFn Try.prog Try.f46 = some c_circuit_Copy := by kernel_rfl
theorem k_route_laid_swap : compFn Try.prog Try.f47 = some c_route_laid_swap := by kernel_rfl
theorem k_phasorref20_laid_swap : compFn Try.prog Try.f48 = some c_phasorref20_laid_swap := by kernel_rfl
theorem k_phasorref20_laid_routed : compFn Try.prog Try.f49 = some c_phasorref20_laid_routed := by kernel_rfl
theorem k_phasorref08_SameOp : compFn Try.prog Try.f50 = some c_phasorref08_SameOp := by kernel_rfl
theorem k_slices_Clone_int_int : compFn Try.prog Try.f51 = some c_slices_Clone_int_int := by kernel_rfl
theorem k_slices_SortFunc_int_int : compFn Try.prog Try.f52 = some c_slices_SortFunc_int_int := by kernel_rfl
theorem k_route_Home_1 : compFn Try.prog Try.f53 = some c_route_Home_1 := by kernel_rfl
theorem k_route_up : compFn Try.prog Try.f54 = some c_route_up := by kernel_rfl
theorem k_slices_IndexFunc_int_int : compFn Try.prog Try.f55 = some c_slices_IndexFunc_int_int := by kernel_rfl
theorem k_route_Home_2 : compFn Try.prog Try.f56 = some c_route_Home_2 := by kernel_rfl
theorem k_slices_Index_int_int : compFn Try.prog Try.f57 = some c_slices_Index_int_int := by kernel_rfl
theorem k_slices_Reverse_int_int : compFn Try.prog Try.f58 = some c_slices_Reverse_int_int := by kernel_rfl
theorem k_slices_Compact_int_int : compFn Try.prog Try.f63 = some c_slices_Compact_int_int := by kernel_rfl
theorem k_route_path_1 : compFn Try.prog Try.f64 = some c_route_path_1 := by kernel_rfl
theorem k_circuit_may : compFn Try.prog Try.f65 = some c_circuit_may := by kernel_rfl
theorem k_slices_IndexFunc_api_Op_api_Op : compFn Try.prog Try.f66 = some c_slices_IndexFunc_api_Op_api_Op := by kernel_rfl
theorem k_phasorref08_Check : compFn Try.prog Try.f67 = some c_phasorref08_Check := by kernel_rfl
theorem k_route_swap : compFn Try.prog Try.f68 = some c_route_swap := by kernel_rfl
theorem k_phasorref08_ints : compFn Try.prog Try.f69 = some c_phasorref08_ints := by kernel_rfl
theorem k_slices_pdqsortCmpFunc_int : compFn Try.prog Try.f70 = some c_slices_pdqsortCmpFunc_int := by kernel_rfl
theorem k_bits_Len : compFn Try.prog Try.f71 = some c_bits_Len := by kernel_rfl
theorem k_route_up_1 : compFn Try.prog Try.f72 = some c_route_up_1 := by kernel_rfl
theorem k_gate_Check : compFn Try.prog Try.f75 = some c_gate_Check := by kernel_rfl
theorem k_phasorref08_Op : compFn Try.prog Try.f76 = some c_phasorref08_Op := by kernel_rfl
theorem k_slices_insertionSortCmpFunc_int : compFn Try.prog Try.f77 = some c_slices_insertionSortCmpFunc_int := by kernel_rfl
theorem k_slices_heapSortCmpFunc_int : compFn Try.prog Try.f78 = some c_slices_heapSortCmpFunc_int := by kernel_rfl
theorem k_slices_breakPatternsCmpFunc_int : compFn Try.prog Try.f79 = some c_slices_breakPatternsCmpFunc_int := by kernel_rfl
theorem k_slices_choosePivotCmpFunc_int : compFn Try.prog Try.f80 = some c_slices_choosePivotCmpFunc_int := by kernel_rfl
theorem k_slices_reverseRangeCmpFunc_int : compFn Try.prog Try.f81 = some c_slices_reverseRangeCmpFunc_int := by kernel_rfl
theorem k_slices_partialInsertionSortCmpFunc_int : compFn Try.prog Try.f82 = some c_slices_partialInsertionSortCmpFunc_int := by kernel_rfl
theorem k_slices_partitionEqualCmpFunc_int : compFn Try.prog Try.f83 = some c_slices_partitionEqualCmpFunc_int := by kernel_rfl
theorem k_slices_partitionCmpFunc_int : compFn Try.prog Try.f84 = some c_slices_partitionCmpFunc_int := by kernel_rfl
theorem k_bits_Len32 : compFn Try.prog Try.f85 = some c_bits_Len32 := by kernel_rfl
theorem k_bits_Len64 : compFn Try.prog Try.f86 = some c_bits_Len64 := by kernel_rfl
theorem k_gate_Arity : compFn Try.prog Try.f96 = some c_gate_Arity := by kernel_rfl
theorem k_phasorref06_Check : compFn Try.prog Try.f97 = some c_phasorref06_Check := by kernel_rfl
theorem k_phasorref08_unlike : compFn Try.prog Try.f98 = some c_phasorref08_unlike := by kernel_rfl
theorem k_slices_siftDownCmpFunc_int : compFn Try.prog Try.f99 = some c_slices_siftDownCmpFunc_int := by kernel_rfl
theorem k_slices_nextPowerOfTwo : compFn Try.prog Try.f100 = some c_slices_nextPowerOfTwo := by kernel_rfl
theorem k_slices_xorshift_Next : compFn Try.prog Try.f101 = some c_slices_xorshift_Next := by kernel_rfl
theorem k_slices_medianAdjacentCmpFunc_int : compFn Try.prog Try.f102 = some c_slices_medianAdjacentCmpFunc_int := by kernel_rfl
theorem k_slices_medianCmpFunc_int : compFn Try.prog Try.f103 = some c_slices_medianCmpFunc_int := by kernel_rfl
theorem k_gate_of : compFn Try.prog Try.f108 = some c_gate_of := by kernel_rfl
theorem k_phasorref06_Is : compFn Try.prog Try.f109 = some c_phasorref06_Is := by kernel_rfl
theorem k_phasorref06_Arity : compFn Try.prog Try.f110 = some c_phasorref06_Arity := by kernel_rfl
theorem k_slices_order2CmpFunc_int : compFn Try.prog Try.f111 = some c_slices_order2CmpFunc_int := by kernel_rfl
theorem k_gate_table : compFn Try.prog Try.f113 = some c_gate_table := by kernel_rfl
theorem tbl_ok : ∀ p ∈ tbl, ∃ fn, Try.prog.funcs[p.1]? = some fn ∧ (fn.name == "runtime.NumGoroutine") = false ∧ compFn Try.prog fn = some p.2 := by
  unfold tbl
  simp only [List.forall_mem_cons]
  exact ⟨⟨Try.f6, Try.func6, by kernel_rfl, k_phasorlaw20_RouteLays⟩, ⟨Try.f8, Try.func8, by kernel_rfl, k_route_Line⟩, ⟨Try.f10, Try.func10, by kernel_rfl, k_route_Ring⟩, ⟨Try.f12, Try.func12, by kernel_rfl, k_route_Grid⟩, ⟨Try.f14, Try.func14, by kernel_rfl, k_phasorref20_Right⟩, ⟨Try.f15, Try.func15, by kernel_rfl, k_phasorlaw20_num⟩, ⟨Try.f16, Try.func16, by kernel_rfl, k_route_Check⟩, ⟨Try.f18, Try.func18, by kernel_rfl, k_phasorlaw20_alive⟩, ⟨Try.f19, Try.func19, by kernel_rfl, k_route_Far⟩, ⟨Try.f21, Try.func21, by kernel_rfl, k_phasorlaw20_ints⟩, ⟨Try.f22, Try.func22, by kernel_rfl, k_route_Path⟩, ⟨Try.f24, Try.func24, by kernel_rfl, k_phasorref08_Copy⟩, ⟨Try.f25, Try.func25, by kernel_rfl, k_route_Fits⟩, ⟨Try.f26, Try.func26, by kernel_rfl, k_phasorref20_Fits⟩, ⟨Try.f27, Try.func27, by kernel_rfl, k_route_Route⟩, ⟨Try.f28, Try.func28, by kernel_rfl, k_phasorref20_Route⟩, ⟨Try.f29, Try.func29, by kernel_rfl, k_phasorlaw20_routed⟩, ⟨Try.f30, Try.func30, by kernel_rfl, k_phasorref08_Same⟩, ⟨Try.f31, Try.func31, by kernel_rfl, k_route_Home⟩, ⟨Try.f33, Try.func33, by kernel_rfl, k_route_line⟩, ⟨Try.f34, Try.func34, by kernel_rfl, k_phasorref20_far⟩, ⟨Try.f35, Try.func35, by kernel_rfl, k_slices_Contains_int_int⟩, ⟨Try.f36, Try.func36, by kernel_rfl, k_route_steps⟩, ⟨Try.f37, Try.func37, by kernel_rfl, k_route_near⟩, ⟨Try.f38, Try.func38, by kernel_rfl, k_route_far⟩, ⟨Try.f39, Try.func39, by kernel_rfl, k_route_path⟩, ⟨Try.f40, Try.func40, by kernel_rfl, k_phasorref20_step⟩, ⟨Try.f41, Try.func41, by kernel_rfl, k_circuit_Check⟩, ⟨Try.f42, Try.func42, by kernel_rfl, k_route_Fits_1⟩, ⟨Try.f43, Try.func43, by kernel_rfl, k_slices_ContainsFunc_api_Op_api_Op⟩, ⟨Try.f44, Try.func44, by kernel_rfl, k_phasorref08_May⟩, ⟨Try.f45, Try.func45, by kernel_rfl, k_route_Route_1⟩, ⟨Try.f46, Try.func46, by kernel_rfl, k_circuit_Copy⟩, ⟨Try.f47, Try.func47, by kernel_rfl, k_route_laid_swap⟩, ⟨Try.f48, Try.func48, by kernel_rfl, k_phasorref20_laid_swap⟩, ⟨Try.f49, Try.func49, by kernel_rfl, k_phasorref20_laid_routed⟩, ⟨Try.f50, Try.func50, by kernel_rfl, k_phasorref08_SameOp⟩, ⟨Try.f51, Try.func51, by kernel_rfl, k_slices_Clone_int_int⟩, ⟨Try.f52, Try.func52, by kernel_rfl, k_slices_SortFunc_int_int⟩, ⟨Try.f53, Try.func53, by kernel_rfl, k_route_Home_1⟩, ⟨Try.f54, Try.func54, by kernel_rfl, k_route_up⟩, ⟨Try.f55, Try.func55, by kernel_rfl, k_slices_IndexFunc_int_int⟩, ⟨Try.f56, Try.func56, by kernel_rfl, k_route_Home_2⟩, ⟨Try.f57, Try.func57, by kernel_rfl, k_slices_Index_int_int⟩, ⟨Try.f58, Try.func58, by kernel_rfl, k_slices_Reverse_int_int⟩, ⟨Try.f63, Try.func63, by kernel_rfl, k_slices_Compact_int_int⟩, ⟨Try.f64, Try.func64, by kernel_rfl, k_route_path_1⟩, ⟨Try.f65, Try.func65, by kernel_rfl, k_circuit_may⟩, ⟨Try.f66, Try.func66, by kernel_rfl, k_slices_IndexFunc_api_Op_api_Op⟩, ⟨Try.f67, Try.func67, by kernel_rfl, k_phasorref08_Check⟩, ⟨Try.f68, Try.func68, by kernel_rfl, k_route_swap⟩, ⟨Try.f69, Try.func69, by kernel_rfl, k_phasorref08_ints⟩, ⟨Try.f70, Try.func70, by kernel_rfl, k_slices_pdqsortCmpFunc_int⟩, ⟨Try.f71, Try.func71, by kernel_rfl, k_bits_Len⟩, ⟨Try.f72, Try.func72, by kernel_rfl, k_route_up_1⟩, ⟨Try.f75, Try.func75, by kernel_rfl, k_gate_Check⟩, ⟨Try.f76, Try.func76, by kernel_rfl, k_phasorref08_Op⟩, ⟨Try.f77, Try.func77, by kernel_rfl, k_slices_insertionSortCmpFunc_int⟩, ⟨Try.f78, Try.func78, by kernel_rfl, k_slices_heapSortCmpFunc_int⟩, ⟨Try.f79, Try.func79, by kernel_rfl, k_slices_breakPatternsCmpFunc_int⟩, ⟨Try.f80, Try.func80, by kernel_rfl, k_slices_choosePivotCmpFunc_int⟩, ⟨Try.f81, Try.func81, by kernel_rfl, k_slices_reverseRangeCmpFunc_int⟩, ⟨Try.f82, Try.func82, by kernel_rfl, k_slices_partialInsertionSortCmpFunc_int⟩, ⟨Try.f83, Try.func83, by kernel_rfl, k_slices_partitionEqualCmpFunc_int⟩, ⟨Try.f84, Try.func84, by kernel_rfl, k_slices_partitionCmpFunc_int⟩, ⟨Try.f85, Try.func85, by kernel_rfl, k_bits_Len32⟩, ⟨Try.f86, Try.func86, by kernel_rfl, k_bits_Len64⟩, ⟨Try.f96, Try.func96, by kernel_rfl, k_gate_Arity⟩, ⟨Try.f97, Try.func97, by kernel_rfl, k_phasorref06_Check⟩, ⟨Try.f98, Try.func98, by kernel_rfl, k_phasorref08_unlike⟩, ⟨Try.f99, Try.func99, by kernel_rfl, k_slices_siftDownCmpFunc_int⟩, ⟨Try.f100, Try.func100, by kernel_rfl, k_slices_nextPowerOfTwo⟩, ⟨Try.f101, Try.func101, by kernel_rfl, k_slices_xorshift_Next⟩, ⟨Try.f102, Try.func102, by kernel_rfl, k_slices_medianAdjacentCmpFunc_int⟩, ⟨Try.f103, Try.func103, by kernel_rfl, k_slices_medianCmpFunc_int⟩, ⟨Try.f108, Try.func108, by kernel_rfl, k_gate_of⟩, ⟨Try.f109, Try.func109, by kernel_rfl, k_phasorref06_Is⟩, ⟨Try.f110, Try.func110, by kernel_rfl, k_phasorref06_Arity⟩, ⟨Try.f111, Try.func111, by kernel_rfl, k_slices_order2CmpFunc_int⟩, ⟨Try.f113, Try.func113, by kernel_rfl, k_gate_table⟩,
    fun _ h => absurd h List.not_mem_nil⟩
end Go.Proofs.Ytfaphhcloanhnaa
