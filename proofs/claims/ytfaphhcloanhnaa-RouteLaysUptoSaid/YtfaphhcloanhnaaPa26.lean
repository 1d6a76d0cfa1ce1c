/- Parts of the proof, joined by program: LaLV, LaLW, LaLX, LaLZ, LaLB, LaLE, LaLH. -/
import Derived.Test.YtfaphhcloanhnaaPa25
import Derived.Test.YtfaphhcloanhnaaPa17
import Derived.Test.YtfaphhcloanhnaaPa16
set_option linter.unusedSimpArgs false
set_option linter.unusedVariables false
namespace Go.Proofs.Ytfaphhcloanhnaa
open Go.Am Go.Dist
set_option maxRecDepth 4000
set_option maxHeartbeats 16000000
variable {E : Env} {L : Hp}
theorem laid_mono {N : Nat} {ps : List (Nat × Nat)} (hG : Good N ps) {c : CircD} (hC : CircOk c) (hq : c.qubits ≤ N) {k m : Nat} (h : k ≤ m) (hm : m ≤ c.ops.length) : (laidAll N ps c k).ops.length ≤ (laidAll N ps c m).ops.length := by
  induction h with
  | refl => exact Nat.le_refl _
  | @step m h ih =>
    have := ih (by omega)
    rw [laidAll_succ (by omega)]
    obtain ⟨-, -, d, -, h4, -⟩ := brought_ok hG (laid_ok hG hC hq m (by omega)) (hC.ok m (by omega)) hC.q0
    simp only [layOp, List.length_append, List.length_singleton]
    omega
theorem OwnI.slen {u : AVal} {l : List Int} {B : Hp} (h : OwnI u l B) : sliceLen u = some l.length := by
  rcases h with ⟨rfl, rfl, -⟩ | ⟨id, cap, rfl, -⟩ <;> rfl
def zeroR : List AVal := [aint 0, aint 0, anil, anil, aint 0]
/-- How the loop ends. -/
def L3post (N : Nat) (ps : List (Nat × Nat)) (c : CircD) (il i4 : Nat) (t : Tr AVal) (L : Hp) (ex : Ex) (t' : Tr AVal) (L' : Hp) : Prop :=
  (ex = .exit 2 ∧ Keep [2, 3, 4, 11] t t' ∧ (laidAll N ps c c.ops.length).ops.length ≤ 4096 ∧ ∃ ov pv B, LaidB (laidAll N ps c c.ops.length) ov pv B ∧ Am.Sub ((il, [ov, pv, aint (laidAll N ps c c.ops.length).swaps]) :: (B ++ ((i4, zeroR) :: L))) L') ∨
  (ex = .ret ∧ t'.get 4 = t.get 4 ∧ t'.get 5 = some (aint 201) ∧ 4096 < (laidAll N ps c c.ops.length).ops.length ∧ Am.Sub ((i4, zeroR) :: L) L')
theorem L3post.keep {N : Nat} {ps : List (Nat × Nat)} {c : CircD} {il i4 : Nat} {t t1 : Tr AVal} {ex : Ex} {t' : Tr AVal} {L' : Hp} (hK : Keep [2, 3, 4, 11] t t1) (h : L3post N ps c il i4 t1 L ex t' L') : L3post N ps c il i4 t L ex t' L' := by
  rcases h with ⟨h1, h2, h3⟩ | ⟨h1, h2, h3⟩
  · exact .inl ⟨h1, hK.trans h2, h3⟩
  · exact .inr ⟨h1, h2.trans (hK.ex 4 rfl), h3⟩
theorem lroute_l3 (hF : E.fns = fnsT) (hK : KnownAbove E) (hmp : E.mode f_route_path = .iso true) (hmi : E.mode f_slices_IndexFunc_int_int = .iso false) (hmp1 : E.mode f_route_path_1 = .iso false) (hst3 : still E c_route_path_r3 = true)
    (hm : E.mode f_route_laid_swap = .open_) (hms : E.mode f_route_swap = .fresh) (hst : still E c_route_laid_swap_r0 = true) (hst21 : still E c_route_Route_r21 = true) (hst22 : still E c_route_Route_r22 = true) (hst23 : still E c_route_Route_r23 = true) (hst24 : still E c_route_Route_r24 = true) (hst28 : still E c_route_Route_r28 = true) (hst30 : still E c_route_Route_r30 = true)
    {N il i4 ic : Nat} {ps : List (Nat × Nat)} {nv fv : AVal} {c : CircD} {cs : List AVal} (hG : Good N ps) (hnv : SlS nv ((nbs N ps).map inat)) (hfv : SlS fv (dists N ps N)) (hC : CircOk c) (hq : c.qubits ≤ N) (hsm : Small c) (hnb : ∀ k, k < c.ops.length → ¬ ((c.ops.getD k default).kind = 1 ∧ 2 < (c.ops.getD k default).qs.length)) :
    ∀ (d k : Nat) (t : Tr AVal) (ov pv : AVal) (B H : Hp), d + k = c.ops.length → LaidB (laidAll N ps c k) ov pv B → (laidAll N ps c k).ops.length ≤ 4096 → OpsS cs c.ops k H →
    t.get 4 = some (.ptr i4 0) → t.get 9 = some nv → t.get 10 = some fv → t.get 11 = some (.ptr il 0) → t.get 70 = some (.sl ic 0 c.ops.length 6 none) → t.get 71 = some (aint c.ops.length) → t.get 72 = some (aint k) →
    WpO E (.loop c_route_Route_l3) t ((il, [ov, pv, aint (laidAll N ps c k).swaps]) :: (B ++ ((ic, cs) :: (H ++ ((i4, zeroR) :: L))))) (fun ex t' L' => L3post N ps c il i4 t L ex t' L') := by
  have hN := hG.hN
  have hlen := hC.len
  intro d
  induction d with
  | zero =>
    intro k t ov pv B H hk hB hle hS h4 h9 h10 h11 h70 h71 h72
    obtain rfl : k = c.ops.length := by omega
    refine wo_loop ?_
    repeat (first | intro id | refine goq ?_)
    exact .inl ⟨rfl, by exact keepq, hle, ov, pv, B, hB, by exact subq⟩
  | succ d ih =>
    intro k t ov pv B H hk hB hle hS h4 h9 h10 h11 h70 h71 h72
    have hkl : k < c.ops.length := by omega
    have hlok := laid_ok hG hC hq k (by omega)
    have hok := hC.ok k hkl
    have hsu := laidAll_succ (N := N) (ps := ps) hkl
    have hbro := brought_ok hG hlok hok hC.q0
    have hnbk := hnb k hkl
    have hqsm := hsm.qs k hkl
    cases hS with
    | done => omega
    | @more _ u Bq H' _ hs hown hS' =>
    generalize hO : c.ops.getD k default = o at *
    have hu1 := hown.isOne
    have hqs := gate_qs hok
    obtain ⟨b1, b2, dd, b3, b4, b5⟩ := hbro
    -- behind the gate's being brought together
    have tail : ∀ (t2 : Tr AVal) (i14 : Nat) (ov1 pv1 : AVal) (B1 L2 : Hp), LaidB (broughtOp N ps o (laidAll N ps c k)) ov1 pv1 B1 → Keep [2, 3, 4, 9, 10, 11, 70, 71, 72] t t2 → t2.get 14 = some (.ptr i14 0) → t2.get 139 = some u → t2.get 140 = some (aint o.qs.length) → t2.get 141 = some (aint 0) →
        Am.Sub ((i14, opCells u o) :: (Bq ++ ((il, [ov1, pv1, aint (broughtOp N ps o (laidAll N ps c k)).swaps]) :: (B1 ++ ((ic, cs) :: (H' ++ ((i4, zeroR) :: L))))))) L2 →
        WpO E (.loop c_route_Route_l2) t2 L2 (blkO 6 (seqO E (.seq (.reg c_route_Route_r30 true) (.seq (.reg c_route_Route_r31 false) (.cond (.t 173) (.seq (.reg c_route_Route_r32 false) .ret) .skip))) (blkO 3 (seqO E (.reg c_route_Route_r33 false) (seqO E (.loop c_route_Route_l3) fun ex t' L' => L3post N ps c il i4 t L ex t' L'))))) := by
      intro t2 i14 ov1 pv1 B1 L2 hB1 hKp e14 e139 e140 e141 hsub
      refine WpO.weak ?_ hsub
      obtain ⟨cs1, Bs1, H1, Pb1, hb1, ho1, hp1, hol1, hpl1, rfl⟩ := hB1
      have ov1o := hb1.isOne
      have pv1o := hp1.isOne
      have e11 := (hKp.ex 11 rfl).trans h11
      have hmono := laid_mono hG hC hq (k := k + 1) (m := c.ops.length) (by omega) (Nat.le_refl _)
      have hol := hlok.lo
      have hsw := hlok.sw
      rw [hsu] at hmono
      simp only [layOp, List.length_append, List.length_singleton] at hmono
      generalize hbl : broughtOp N ps o (laidAll N ps c k) = bl at *
      have mv : WpO E (.loop c_route_Route_l2) t2 ((i14, opCells u o) :: (Bq ++ ((il, [ov1, pv1, aint bl.swaps]) :: ((Bs1 ++ (H1 ++ Pb1)) ++ ((ic, cs) :: (H' ++ ((i4, zeroR) :: L))))))) fun ex t' L' => ex = .exit 6 ∧ Keep [2, 3, 4, 9, 10, 11, 14, 70, 71, 72] t2 t' ∧ ∃ Bo, OwnI u (movedOp o bl.place).qs Bo ∧ Am.Sub ((i14, opCells u o) :: (Bo ++ ((il, [ov1, pv1, aint bl.swaps]) :: (Bs1 ++ (H1 ++ (Pb1 ++ ((ic, cs) :: (H' ++ ((i4, zeroR) :: L))))))))) L' := by
        rcases hown with ⟨rfl, hq0, rfl⟩ | ⟨iq, cap, rfl, rfl⟩
        · rw [hq0] at e140
          refine wo_loop ?_
          repeat (first | intro id | refine goq ?_)
          refine ⟨rfl, by exact keepq, [], .inl ⟨rfl, by simp [movedOp, hq0], rfl⟩, ?_⟩
          simp only [List.append_assoc]
          exact subq
        · rcases bufInv hp1 with ⟨rfl, hp0, hn0, rfl⟩ | ⟨ip, rfl, rfl⟩
          · have hq0 : o.qs.length = 0 := by
              rcases Nat.eq_zero_or_pos o.qs.length with h | h
              · exact h
              · have := (hqs 0 h).1
                have := (hqs 0 h).2.1
                omega
            have hq1 : o.qs = [] := List.eq_nil_of_length_eq_zero hq0
            rw [hq0] at e140
            refine wo_loop ?_
            repeat (first | intro id | refine goq ?_)
            refine ⟨rfl, by exact keepq, _, .inr ⟨iq, cap, by simp [movedOp], rfl⟩, ?_⟩
            simp only [movedOp, hq1, List.map_nil, List.append_assoc]
            exact subq
          · refine WpO.weak (WpO.mono (lmove_l2 (L := Bs1 ++ (H1 ++ ((ic, cs) :: (H' ++ ((i4, zeroR) :: L))))) hst28 (il := il) (i14 := i14) (iq := iq) (ip := ip) (ov := ov1) (sw := bl.swaps) (o := o) (pl := bl.place) (cap := cap) rfl hqsm rfl ?_ o.qs.length 0 t2 (by omega) e11 e14 e139 e140 ?_) ?_) ?_
            · intro q hql
              have := (hqs q hql).1
              have := (hqs q hql).2.1
              omega
            · exact e141
            · rintro ex t' L' ⟨rfl, hK', rfl⟩
              refine ⟨rfl, hK', _, .inr ⟨iq, cap, by simp [movedOp], rfl⟩, ?_⟩
              simp only [movedOp]
              exact subq
            · rw [midF_zero]
              simp only [List.append_assoc]
              exact subq
      refine WpO.mono mv ?_
      rintro ex t3 L3 ⟨rfl, hK3, Bo, hBo, hs3⟩
      have f11 := (hK3.ex 11 rfl).trans e11
      have f14 := (hK3.ex 14 rfl).trans e14
      have f4 := (hK3.ex 4 rfl).trans ((hKp.ex 4 rfl).trans h4)
      have f72 := (hK3.ex 72 rfl).trans ((hKp.ex 72 rfl).trans h72)
      have hKt : Keep [2, 3, 4, 9, 10, 11, 70, 71, 72] t t3 := hKp.trans (hK3.less rfl)
      have hKs : Keep [2, 3, 4, 11] t t3 := hKt.less rfl
      have f9 := (hKt.ex 9 rfl).trans h9
      have f10 := (hKt.ex 10 rfl).trans h10
      have f70 := (hKt.ex 70 rfl).trans h70
      have f71 := (hKt.ex 71 rfl).trans h71
      have hk1 : laidAll N ps c (k + 1) = ⟨bl.ops ++ [movedOp o bl.place], bl.place, bl.swaps⟩ := by rw [hsu]; unfold layOp; rw [hbl]
      have ih1 := ih (k + 1)
      rw [hk1] at ih1
      refine .x ?_
      constructor
      refine WpO.weak ?_ hs3
      unfold opCells
      unfold zeroR
      by_cases hbig : 4096 < bl.ops.length + 1
      · repeat (first | intro id | refine goq ?_)
        refine .inr ⟨rfl, ?_, ?_, by omega, ?_⟩
        · rw [h4]
          exact slotq
        · exact slotq
        · unfold zeroR
          exact subq
      · repeat (first | intro id | refine goq ?_)
        have hb2 := hb1.pushed (id := id) (nw := opCells u (movedOp o bl.place)) rfl (all_one_cons rfl (all_one_cons rfl (all_one_cons hu1 (all_one_cons rfl (all_one_cons rfl (all_one_cons rfl all_one_nil))))))
        have ho2 := ho1.snoc hBo (by simp [movedOp]; omega)
        refine WpO.weak (WpO.mono (ih1 _ (.sl id 0 (bl.ops.length + 1) 6 none) pv1 ([(id, cs1 ++ opCells u (movedOp o bl.place))] ++ ((H1 ++ Bo) ++ Pb1)) H' (by omega) ?_ ?_ hS' ?_ ?_ ?_ ?_ ?_ ?_ ?_) (fun _ _ _ h => h.keep (by exact keepq))) ?_
        · exact ⟨_, _, _, _, by simpa using hb2, ho2, hp1, by simp; omega, hpl1, rfl⟩
        · simp; omega
        · exact slotq
        · exact slotq
        · exact slotq
        · exact slotq
        · exact slotq
        · exact slotq
        · exact slotq
        · unfold zeroR opCells
          simp only [List.append_assoc, List.cons_append, List.nil_append]
          simp only [movedOp]
          exact subq
    refine wo_loop ?_
    have hlu := hown.slen
    by_cases h2 : o.kind = 1 ∧ o.qs.length = 2
    · obtain ⟨x, y, hxy, hx, hy, hne⟩ := two_qs hqs h2.2
      have h1 := h2.1
      have g0 : o.qs.getD 0 0 = (x : Int) := by rw [hxy]; rfl
      have g1 : o.qs.getD 1 0 = (y : Int) := by rw [hxy]; rfl
      have hxl : x < (laidAll N ps c k).place.length := by rw [hlok.len]; omega
      have hyl : y < (laidAll N ps c k).place.length := by rw [hlok.len]; omega
      have p1 := hlok.pl.lo x hxl
      have p2 := hlok.pl.lo y hyl
      have hcn := hG.conn ((laidAll N ps c k).place.getD x 0).toNat ((laidAll N ps c k).place.getD y 0).toNat (by omega) (by omega)
      have hz : D N ps ((laidAll N ps c k).place.getD x 0).toNat ((laidAll N ps c k).place.getD y 0).toNat ≠ 0 := fun e => by
        have := (hG.zero (by omega) (by omega)).1 e
        exact hne (hlok.pl.inj x y hxl hyl (by omega))
      have hbr : broughtOp N ps o (laidAll N ps c k) = bringN N ps x y (D N ps ((laidAll N ps c k).place.getD x 0).toNat ((laidAll N ps c k).place.getD y 0).toNat - 1).toNat (laidAll N ps c k) := by
        unfold broughtOp
        rw [if_pos h2, g0, g1, Int.toNat_natCast, Int.toNat_natCast]
      have hol := hlok.lo
      have hsw := hlok.sw
      rcases hown with ⟨-, h0, -⟩ | ⟨iq, cap, rfl, rfl⟩
      · rw [h0] at hxy
        cases hxy
      rw [hxy] at tail hs hlu ⊢
      simp only [List.map_cons, List.map_nil, List.length_cons, List.length_nil, Nat.zero_add, Nat.reduceAdd] at tail hlu ⊢
      simp only [List.length_cons, List.length_nil, Nat.reduceAdd] at hs
      repeat (first | intro id | refine goq ?_)
      refine oo_loadA wanted_none (by exact slotq) (by exact inq) hs ?_
      unfold opCells
      repeat (first | intro id | refine goq ?_)
      refine WpO.weak (WpO.mono (bring_l1 (L := (id, [aint o.kind, aint o.gate, .sl iq 0 2 1 cap, aint o.bit, aint o.ifc, aint o.whn]) :: (iq, [aint x, aint y]) :: (ic, cs) :: (H' ++ ((i4, zeroR) :: L))) hF hK hmp hmi hmp1 hst3 hm hms hst hst22 hst23 hst24 (il := il) (i := x) (j := y) hG hnv hfv (D N ps ((laidAll N ps c k).place.getD x 0).toNat ((laidAll N ps c k).place.getD y 0).toNat - 1).toNat (laidAll N ps c k) ov pv B _ hB hlok.pl hxl hyl hne (by omega) (by omega) (by omega) ?_ ?_ ?_ ?_ ?_) ?_) ?_
      · exact slotq
      · exact slotq
      · exact slotq
      · exact slotq
      · exact slotq
      · rintro ex t' L' ⟨rfl, hK', ov', pv', B', hB', rfl⟩
        have f14 : t'.get 14 = some (.ptr id 0) := (hK'.ex 14 rfl).trans (by exact slotq)
        have hKt : Keep [2, 3, 4, 9, 10, 11, 70, 71, 72] t t' := Keep.trans (by exact keepq) (hK'.less rfl)
        repeat (first | intro id | refine goq ?_)
        refine tail _ id ov' pv' B' _ (by rw [hbr]; exact hB') (by exact keepq) ?_ ?_ ?_ ?_ ?_
        · exact slotq
        · exact slotq
        · exact slotq
        · exact slotq
        · rw [hbr]
          unfold opCells
          simp only [List.append_assoc, List.cons_append, List.nil_append]
          exact subq
      · simp only [List.append_assoc, List.cons_append, List.nil_append]
        exact subq
    · have hbr : broughtOp N ps o (laidAll N ps c k) = laidAll N ps c k := by unfold broughtOp; rw [if_neg h2]
      rw [hbr] at tail
      by_cases h1 : o.kind = 1
      · have h3 : o.qs.length ≠ 2 := fun e => h2 ⟨h1, e⟩
        repeat (first | intro id | refine goq ?_)
        refine oo_loadA wanted_none (by exact slotq) (by exact inq) hs ?_
        unfold opCells
        repeat (first | intro id | refine goq ?_)
        refine oo_p (wanted_some (by exact slotq) rfl) (fun mm hmm => op_len (by exact slotq) hlu) ?_
        repeat (first | intro id | refine goq ?_)
        refine oo_p wanted_none (fun mm hmm => op_len (by exact slotq) hlu) ?_
        repeat (first | intro id | refine goq ?_)
        refine tail _ id ov pv B _ hB (by exact keepq) ?_ ?_ ?_ ?_ ?_
        · exact slotq
        · exact slotq
        · exact slotq
        · exact slotq
        · unfold opCells
          simp only [List.append_assoc, List.cons_append, List.nil_append]
          exact subq
      · repeat (first | intro id | refine goq ?_)
        refine oo_loadA wanted_none (by exact slotq) (by exact inq) hs ?_
        unfold opCells
        repeat (first | intro id | refine goq ?_)
        refine oo_p wanted_none (fun mm hmm => op_len (by exact slotq) hlu) ?_
        repeat (first | intro id | refine goq ?_)
        refine tail _ id ov pv B _ hB (by exact keepq) ?_ ?_ ?_ ?_ ?_
        · exact slotq
        · exact slotq
        · exact slotq
        · exact slotq
        · unfold opCells
          simp only [List.append_assoc, List.cons_append, List.nil_append]
          exact subq
end Go.Proofs.Ytfaphhcloanhnaa
namespace Go.Proofs.Ytfaphhcloanhnaa
open Go.Am Go.Dist
set_option maxRecDepth 4000
set_option maxHeartbeats 16000000
variable {E : Env} {L : Hp}
theorem iotaPl_succ (k : Nat) : iotaPl (k + 1) = iotaPl k ++ [(k : Int)] := by simp [iotaPl, List.range_succ]
theorem iotaPl_length (k : Nat) : (iotaPl k).length = k := by simp [iotaPl]
theorem lroute_l0 {il n : Nat} {ov : AVal} (hov : ov.one = true) (hn : n ≤ 64) : ∀ (d k : Nat) (t : Tr AVal) (pv : AVal) (Pb : Hp), d + k = n → BufO 1 pv ((iotaPl k).map aint) k Pb → t.get 11 = some (.ptr il 0) → t.get 53 = some (aint n) → t.get 54 = some (aint k) →
    WpO E (.loop c_route_Route_l0) t ((il, [ov, pv, aint 0]) :: (Pb ++ L)) (fun ex t' L' => ex = .exit 0 ∧ Keep [2, 3, 4, 9, 10, 11] t t' ∧ ∃ pv' Pb', BufO 1 pv' ((iotaPl n).map aint) n Pb' ∧ L' = (il, [ov, pv', aint 0]) :: (Pb' ++ L)) := by
  intro d
  induction d with
  | zero =>
    intro k t pv Pb hk hb h11 h53 h54
    obtain rfl : k = n := by omega
    refine wo_loop ?_
    repeat (first | intro id | refine goq ?_)
    exact ⟨rfl, by exact keepq, pv, Pb, hb, rfl⟩
  | succ d ih =>
    intro k t pv Pb hk hb h11 h53 h54
    have hp1 := hb.isOne
    refine wo_loop ?_
    repeat (first | intro id | refine goq ?_)
    have hb2 := hb.pushed (id := id) (nw := [aint k]) rfl rfl
    have e : (iotaPl k).map aint ++ [aint k] = (iotaPl (k + 1)).map aint := by rw [iotaPl_succ, List.map_append]; rfl
    rw [e] at hb2
    refine WpO.weak (WpO.mono (ih (k + 1) _ (.sl id 0 (k + 1) 1 none) _ (by omega) hb2 ?_ ?_ ?_) ?_) ?_
    · exact slotq
    · exact slotq
    · exact slotq
    · rintro ex t' L' ⟨e1, e2, e3⟩
      exact ⟨e1, Keep.trans (by exact keepq) e2, e3⟩
    · rw [← e]
      exact subq
/-- More qubits than a map's edge holds. -/
def wideOp (o : OpD) : Bool := decide (o.kind = 1 ∧ 2 < o.qs.length)
theorem wide_ok (hF : E.fns = fnsT) (hm : E.mode f_route_Route_1 = .iso false) {o : OpD} {q : AVal} (hq : SlI q o.qs) (hlt : o.qs.length < 2 ^ 62) : CallO E f_route_Route_1 ([.agg (opCells q o)] ++ []) [] fun r L' => r = abool (wideOp o) ∧ L' = [] := by
  refine callO_iso0 (R := fun r => r = abool (wideOp o)) hm (fns_of hF n_route_Route_1) (vs_bare (by simp [opCells, AVal.bare, bareAll, aint, bare_SlI hq]) vs_nil) ?_
  have hq1 := RowA.isOne hq
  unfold opCells wideOp
  refine bodyO_of (Nat.le_of_ble_eq_true rfl) ?_; generalize ht : argSlots _ 0 .nil = t; have h0 : t.get 0 = some _ := (by rw [← ht]; rfl); clear ht
  by_cases h1 : o.kind = 1
  · by_cases h2 : 2 < o.qs.length
    · repeat (first | intro id | refine goq ?_)
      ((first | apply retO_r | apply retO_n); (focus (exact resq)))
      exact ⟨rfl, by simp [h1, h2, resultV]⟩
    · repeat (first | intro id | refine goq ?_)
      ((first | apply retO_r | apply retO_n); (focus (exact resq)))
      exact ⟨rfl, by simp [h1, h2, resultV]⟩
  · repeat (first | intro id | refine goq ?_)
    ((first | apply retO_r | apply retO_n); (focus (exact resq)))
    exact ⟨rfl, by simp [h1, resultV, abool]⟩
end Go.Proofs.Ytfaphhcloanhnaa
namespace Go.Proofs.Ytfaphhcloanhnaa
open Go.Am Go.Dist
set_option maxRecDepth 4000
set_option maxHeartbeats 16000000
variable {E : Env} {L : Hp}
def WideC (c : CircD) : Prop := ∃ j, j < c.ops.length ∧ wideOp (c.ops.getD j default) = true
def laidC (N : Int) (ps : List (Int × Int)) (c : CircD) : LaidD := laidAll N.toNat (npairs ps) c c.ops.length
/-- What Route tells, its rows in boxes. -/
structure RoutedO (N : Int) (ps : List (Int × Int)) (c : CircD) (v : AVal) (B : Hp) : Prop where
  ex : (¬ RightP N ps ∧ v = .tup [.agg zeroR, aint 200] ∧ B = []) ∨ (RightP N ps ∧ ¬ CircOk c ∧ v = .tup [.agg zeroR, aint 80] ∧ B = []) ∨
    (RightP N ps ∧ CircOk c ∧ (N < c.qubits ∨ WideC c ∨ 4096 < (laidC N ps c).ops.length) ∧ v = .tup [.agg zeroR, aint 201] ∧ B = []) ∨
    (RightP N ps ∧ CircOk c ∧ c.qubits ≤ N ∧ ¬ WideC c ∧ (laidC N ps c).ops.length ≤ 4096 ∧ ∃ ov pv, LaidB (laidC N ps c) ov pv B ∧ v = .tup [.agg [aint N, aint c.bits, ov, pv, aint (laidC N ps c).swaps], aint 0])
theorem WpO.re {A : AC} {t : Tr AVal} {Q : Ex → Tr AVal → Hp → Prop} (h : WpO E A t L fun ex t' L' => ∃ L0, Am.Sub L0 L' ∧ Q ex t' L0) : WpO E A t L Q := ⟨fun m hm => (h.ex m hm).mono fun _ _ ⟨L', h1, L0, h2, h3⟩ => ⟨L0, h1.sub h2, h3⟩⟩
/-- How Route's main loop ends, for what follows it. -/
def P3 (M : Nat) (ps : List (Nat × Nat)) (c : CircD) (i2 i3 i4 il : Nat) (R : Hp) (ex : Ex) (t' : Tr AVal) (L' : Hp) : Prop :=
  (ex = .exit 2 ∧ t'.get 2 = some (.ptr i2 0) ∧ t'.get 3 = some (.ptr i3 0) ∧ t'.get 4 = some (.ptr i4 0) ∧ t'.get 11 = some (.ptr il 0) ∧ (laidAll M ps c c.ops.length).ops.length ≤ 4096 ∧ ∃ ov pv B, LaidB (laidAll M ps c c.ops.length) ov pv B ∧ Am.Sub ((il, [ov, pv, aint (laidAll M ps c c.ops.length).swaps]) :: (B ++ ((i4, zeroR) :: R))) L') ∨
  (ex = .ret ∧ t'.get 4 = some (.ptr i4 0) ∧ t'.get 5 = some (aint 201) ∧ 4096 < (laidAll M ps c c.ops.length).ops.length ∧ Am.Sub ((i4, zeroR) :: R) L')
theorem Route_open (hF : E.fns = fnsT) (hK : KnownAbove E) (hmR : E.mode f_route_Route = .open_) (hmp : E.mode f_route_path = .iso true) (hmi : E.mode f_slices_IndexFunc_int_int = .iso false) (hmp1 : E.mode f_route_path_1 = .iso false) (hst3 : still E c_route_path_r3 = true)
    (hm : E.mode f_route_laid_swap = .open_) (hms : E.mode f_route_swap = .fresh) (hst : still E c_route_laid_swap_r0 = true) (hst21 : still E c_route_Route_r21 = true) (hst22 : still E c_route_Route_r22 = true) (hst23 : still E c_route_Route_r23 = true) (hst24 : still E c_route_Route_r24 = true) (hst28 : still E c_route_Route_r28 = true) (hst30 : still E c_route_Route_r30 = true) (hst34 : still E c_route_Route_r34 = true)
    (hmC : E.mode f_route_Check = .iso false) (hmn : E.mode f_route_near = .iso true) (hmso : E.mode f_slices_Sort_int_int = .known) (hk : E.known f_slices_Sort_int_int = knSort) (hmc : E.mode f_slices_Compact_int_int = .open_) (hmst : E.mode f_route_steps = .open_) (hmco : E.mode f_slices_Contains_int_int = .iso false) (hmix : E.mode f_slices_Index_int_int = .iso false) (hmf : E.mode f_route_far = .iso true)
    (hcC : E.mode f_circuit_Check = .iso false) (hmm : E.mode f_circuit_may = .iso false) (hmg : E.mode f_gate_Check = .iso false) (hma : E.mode f_gate_Arity = .iso false) (hmo : E.mode f_gate_of = .iso false) (hmt : E.mode f_gate_table = .iso false)
    (hmcf : E.mode f_slices_ContainsFunc_api_Op_api_Op = .iso false) (hmif : E.mode f_slices_IndexFunc_api_Op_api_Op = .iso false) (hmR1 : E.mode f_route_Route_1 = .iso false) (hmcp : E.mode f_circuit_Copy = .open_) (hmcl : E.mode f_slices_Clone_int_int = .open_)
    {N : Int} {s v : AVal} {ps : List (Int × Int)} {c : CircD} (hs : SlP s ps) (hlt : ps.length ≤ 1000000) (hv : CircA v c) (hsm : Small c) :
    CallO E f_route_Route [v, .agg [aint N, s]] L fun r L' => ∃ B, RoutedO N ps c r B ∧ L' = B ++ L := by
  refine CallO.to (callO_open hmR (fns_of hF n_route_Route) ?_)
  have hs1 := hs.isOne
  have hv0 := hv
  obtain ⟨so, rfl, hops⟩ := hv
  have hso1 : so.one = true := by obtain ⟨_, hr, -, -⟩ := hops; exact RowA.isOne hr
  refine bodyO_of (Nat.le_of_ble_eq_true rfl) ?_; generalize ht : argSlots _ 0 .nil = t; have h0 : t.get 0 = some _ := (by rw [← ht]; rfl); have h1 : t.get 1 = some _ := (by rw [← ht]; rfl); clear ht
  repeat (first | intro id | refine goq ?_)
  rename_i i2 i3
  have z1 : AVal.sc (Value.int .i64 0) = aint 0 := rfl
  have z2 : AVal.sc (Value.slice none 0 0) = anil := rfl
  simp only [z1, z2]
  refine gok ?_
  refine (Check_ok hF hmC hmn hmso hk hmc (stepsC_open hF hmst) hmco hmix hs hlt).mono ?_
  rintro u L' ⟨⟨e, rfl, he, he2⟩, rfl⟩
  rcases he2 with rfl | rfl
  · have hR := he.1 rfl
    obtain ⟨M, rfl⟩ : ∃ k : Nat, N = k := ⟨N.toNat, by have := hR.n1; omega⟩
    have hG := good_of hR
    have hN := hG.hN
    have hnp := npairs_length ps
    repeat (first | intro id | refine goq ?_)
    refine gok ?_
    refine (Check_okC hF hcC hmm hmg hma hmo hmt hmco hmix hv0).mono ?_
    rintro u L' ⟨⟨ie, e, rfl, hce⟩, rfl⟩
    rcases hce with ⟨rfl, hC⟩ | ⟨rfl, hC⟩
    · by_cases hq : (M : Int) < c.qubits
      · repeat (first | intro id | refine goq ?_)
        ((first | apply retO_r | apply retO_n); (focus (exact resq)))
        exact ⟨L, by exact subq, [], ⟨.inr (.inr (.inl ⟨hR, hC, .inl hq, rfl, rfl⟩))⟩, rfl⟩
      · repeat (first | intro id | refine goq ?_)
        refine gok ?_
        refine (containsOp_ok (v := so) (cv := []) (p := wideOp) hF hmcf hmif (vs_bare hops.bare (vs_bare rfl vs_nil)) rfl hops (fun j q hj hq hl => wide_ok hF hmR1 hq hl)).mono ?_
        rintro u L' ⟨⟨x, rfl, hx⟩, rfl⟩
        cases x with
        | true =>
          repeat (first | intro id | refine goq ?_)
          ((first | apply retO_r | apply retO_n); (focus (exact resq)))
          exact ⟨L, by exact subq, [], ⟨.inr (.inr (.inl ⟨hR, hC, .inr (.inl (hx.1 rfl)), rfl, rfl⟩))⟩, rfl⟩
        | false =>
          have hnw : ¬ WideC c := fun h => by have := hx.2 h; cases this
          repeat (first | intro id | refine goq ?_)
          refine gok ?_
          refine (near_ok hF hmn hmso hk hmc hG.hN (npairs_lt hR.ok) (SlP_N hR.ok hs) (by omega)).mono ?_
          rintro nv L' ⟨hn, rfl⟩
          have nv1 : nv.one = true := by obtain ⟨us, h1, -, -⟩ := hn; exact RowA.isOne h1
          repeat (first | intro id | refine goq ?_)
          refine gok ?_
          refine (pfar_rows hF hmf hmst hG.hN (npairs_lt hR.ok) hn).mono ?_
          rintro fv L' ⟨hf, rfl⟩
          have fv1 : fv.one = true := by obtain ⟨us, h1, -, -⟩ := hf; exact RowA.isOne h1
          repeat (first | intro id | refine goq ?_)
          rename_i i4
          simp only [z1, z2]
          obtain ⟨n, hqn⟩ : ∃ n : Nat, c.qubits = n := ⟨c.qubits.toNat, by have := hC.q0; omega⟩
          refine WpO.weak (WpO.mono (lroute_l0 (L := (i4, zeroR) :: (i3, [aint M, s]) :: (i2, [aint c.qubits, aint c.bits, so]) :: L) (il := id) (ov := anil) (n := n) rfl (by omega) n 0 _ anil [] (by omega) (by exact BufO.nil) ?_ ?_ ?_) ?_) ?_
          · exact slotq
          · rw [← hqn]
            exact slotq
          · exact slotq
          · rintro ex t1 L' ⟨rfl, hK1, pv, Pb, hpb, rfl⟩
            have g2 : t1.get 2 = some (.ptr i2 0) := (hK1.ex 2 rfl).trans (by exact slotq)
            have g3 : t1.get 3 = some (.ptr i3 0) := (hK1.ex 3 rfl).trans (by exact slotq)
            have g4 : t1.get 4 = some (.ptr i4 0) := (hK1.ex 4 rfl).trans (by exact slotq)
            have g9 : t1.get 9 = some nv := (hK1.ex 9 rfl).trans (by exact slotq)
            have g10 : t1.get 10 = some fv := (hK1.ex 10 rfl).trans (by exact slotq)
            have g11 : t1.get 11 = some (.ptr id 0) := (hK1.ex 11 rfl).trans (by exact slotq)
            clear hK1
            repeat (first | intro id | refine goq ?_)
            refine gok ?_
            refine (CCopy_open hF hmcp hmcl hv0 hsm).mono ?_
            rintro r L' ⟨B, hB, rfl⟩
            obtain ⟨so2, cs, Bs, H, rfl, hb, hob, hlt2, rfl⟩ := hB
            have so21 := hb.isOne
            have hl0 : LaidB (laidAll M (npairs ps) c 0) anil pv Pb := by
              rw [laidAll_zero]
              have e : c.qubits.toNat = n := by omega
              rw [e]
              exact ⟨[], [], [], Pb, BufO.nil, .nil, by simpa [iotaPl_length] using hpb, by simp, by simp [iotaPl_length]; omega, rfl⟩
            have hle0 : (laidAll M (npairs ps) c 0).ops.length ≤ 4096 := by rw [laidAll_zero]; simp
            have hsw0 : (laidAll M (npairs ps) c 0).swaps = 0 := by rw [laidAll_zero]
            have hnb : ∀ k, k < c.ops.length → ¬ ((c.ops.getD k default).kind = 1 ∧ 2 < (c.ops.getD k default).qs.length) := fun k hk h => hnw ⟨k, hk, decide_eq_true h⟩
            have hlc : laidC M ps c = laidAll M (npairs ps) c c.ops.length := rfl
            have fin : ∀ ex t' L', P3 M (npairs ps) c i2 i3 i4 id ((i3, [aint M, s]) :: (i2, [aint c.qubits, aint c.bits, so]) :: L) ex t' L' → ∃ L0, Am.Sub L0 L' ∧ blkO 2 (seqO E ((AC.reg c_route_Route_r34 true).seq AC.ret) (retO c_route_Route fun v L' => ∃ L0, Am.Sub L0 L' ∧ ∃ B, RoutedO (↑M) ps c v B ∧ L0 = B ++ L)) ex t' L0 := by
              rintro ex t' L' (⟨rfl, k2, k3, k4, k11, hle, ov, pv', B, hB, hsub⟩ | ⟨rfl, k4, k5, hbig, hsub⟩)
              · refine ⟨_, hsub, blkO.x (seqO.n ?_)⟩
                have hB0 := hB
                obtain ⟨cs1, Bs1, H1, Pb1, hb1, ho1, hp1, -, -, rfl⟩ := hB
                have ov1 := hb1.isOne
                have pv1 := hp1.isOne
                unfold zeroR
                simp only [List.append_assoc]
                repeat (first | intro id | refine goq ?_)
                have hfl : fillA [aint 0, aint 0, anil, anil, aint 0] [(0, 3, .agg [aint M, aint c.bits, ov]), (3, 1, pv'), (4, 1, aint ((laidAll M (npairs ps) c c.ops.length).swaps : Int))] = some [aint M, aint c.bits, ov, pv', aint ((laidAll M (npairs ps) c c.ops.length).swaps : Int)] := by
                  refine fillA_agg rfl (by simp) (all_one_cons rfl (all_one_cons rfl (all_one_cons ov1 all_one_nil))) ?_
                  show fillA [aint M, aint c.bits, ov, anil, aint 0] _ = _
                  refine fillA_one pv1 (by simp) ?_
                  refine fillA_one rfl (by simp) ?_
                  rfl
                refine oo_p wanted_none (fun mm hmm => op_build (argParts_cons (v := .agg [aint M, aint c.bits, ov]) ?_ (argParts_cons (v := pv') ?_ (argParts_cons (v := aint ((laidAll M (npairs ps) c c.ops.length).swaps : Int)) ?_ argParts_nil))) hfl) ?_
                · exact slotq
                · exact slotq
                · exact slotq
                repeat (first | intro id | refine goq ?_)
                ((first | apply retO_r | apply retO_n); (focus (exact resq)))
                refine ⟨(Bs1 ++ (H1 ++ Pb1)) ++ L, ?_, _, ⟨.inr (.inr (.inr ⟨hR, hC, by omega, hnw, by rw [hlc]; exact hle, ov, pv', by rw [hlc]; exact hB0, by rw [hlc]; rfl⟩))⟩, rfl⟩
                simp only [List.append_assoc]
                exact subq
              · refine ⟨_, hsub, .r (.r ?_)⟩
                unfold zeroR
                ((first | apply retO_r | apply retO_n); (focus (exact resq)))
                exact ⟨L, by exact subq, [], ⟨.inr (.inr (.inl ⟨hR, hC, .inr (.inr (by rw [hlc]; exact hbig)), rfl, rfl⟩))⟩, rfl⟩
            rcases bufInv hb with ⟨rfl, hcs0, hn0, rfl⟩ | ⟨ic, rfl, rfl⟩
            · have hz : laidAll M (npairs ps) c c.ops.length = laidAll M (npairs ps) c 0 := by rw [hn0]
              repeat (first | intro id | refine goq ?_)
              refine WpO.re (WpO.mono ?_ fin)
              refine wo_loop ?_
              repeat (first | intro id | refine goq ?_)
              refine .inl ⟨rfl, ?_, ?_, ?_, ?_, by rw [hz]; exact hle0, anil, pv, Pb, by rw [hz]; exact hl0, ?_⟩
              · exact slotq
              · exact slotq
              · exact slotq
              · exact slotq
              · rw [hz, hsw0]
                simp only [List.append_assoc, List.nil_append]
                exact subq
            · repeat (first | intro id | refine goq ?_)
              refine WpO.re (WpO.mono ?_ fin)
              refine WpO.weak (WpO.mono (lroute_l3 (L := (i3, [aint M, s]) :: (i2, [aint c.qubits, aint c.bits, so]) :: L) hF hK hmp hmi hmp1 hst3 hm hms hst hst21 hst22 hst23 hst24 hst28 hst30 (il := id) (i4 := i4) (ic := ic) (cs := cs) hG hn hf hC (by omega) hsm hnb c.ops.length 0 _ anil pv Pb H (by omega) hl0 hle0 hob.front ?_ ?_ ?_ ?_ ?_ ?_ ?_) ?_) ?_
              · exact slotq
              · exact slotq
              · exact slotq
              · exact slotq
              · exact slotq
              · exact slotq
              · exact slotq
              · rintro ex t' L' (⟨rfl, hK', hle, ov, pv', B, hB, hsub⟩ | ⟨rfl, e4, e5, hbig, hsub⟩)
                · refine .inl ⟨rfl, (hK'.ex 2 rfl).trans ?_, (hK'.ex 3 rfl).trans ?_, (hK'.ex 4 rfl).trans ?_, (hK'.ex 11 rfl).trans ?_, hle, ov, pv', B, hB, hsub⟩
                  · exact slotq
                  · exact slotq
                  · exact slotq
                  · exact slotq
                · refine .inr ⟨rfl, e4.trans ?_, e5, hbig, hsub⟩
                  exact slotq
              · rw [hsw0]
                simp only [List.append_assoc, List.cons_append, List.nil_append]
                exact subq
          · unfold zeroR
            exact subq
    · repeat (first | intro id | refine goq ?_)
      ((first | apply retO_r | apply retO_n); (focus (exact resq)))
      exact ⟨L, by exact subq, [], ⟨.inr (.inl ⟨hR, hC, rfl, rfl⟩)⟩, rfl⟩
  · have hR : ¬ RightP N ps := fun h => by have := he.2 h; omega
    repeat (first | intro id | refine goq ?_)
    ((first | apply retO_r | apply retO_n); (focus (exact resq)))
    exact ⟨L, by exact subq, [], ⟨.inl ⟨hR, rfl, rfl⟩⟩, rfl⟩
end Go.Proofs.Ytfaphhcloanhnaa
namespace Go.Proofs.Ytfaphhcloanhnaa
open Go.Am Go.Dist
set_option maxRecDepth 4000
set_option maxHeartbeats 8000000
variable {E : Env} {L : Hp}
theorem routed_open (hF : E.fns = fnsT) (hm : E.mode f_phasorref20_laid_routed = .open_) (hst : still E c_phasorref20_laid_routed_r3 = true) {il : Nat} {l : LaidD} {ov pv : AVal} {B : Hp} {nq nb : Int} (h : LaidB l ov pv B) (hl : l.ops.length ≤ 1000000) :
    CallO E f_phasorref20_laid_routed [.ptr il 0] ((il, [aint nq, aint nb, ov, pv, aint l.swaps]) :: (B ++ L)) fun v L' => ((4096 < l.ops.length ∧ v = .tup [.agg zeroR, aint 201]) ∨ (l.ops.length ≤ 4096 ∧ v = .tup [.agg [aint nq, aint nb, ov, pv, aint l.swaps], aint 0])) ∧ L' = (il, [aint nq, aint nb, ov, pv, aint l.swaps]) :: (B ++ L) := by
  refine CallO.to (callO_open hm (fns_of hF n_phasorref20_laid_routed) ?_)
  obtain ⟨cs, Bs, H, Pb, hb, ho, hp, -, hpl, rfl⟩ := h
  have ov1 := hb.isOne
  have pv1 := hp.isOne
  have z0 : AVal.sc (Value.int .i64 0) = aint 0 := rfl
  have z2 : AVal.sc (Value.slice none 0 0) = anil := rfl
  rw [List.append_assoc, List.append_assoc]
  refine bodyO_of (Nat.le_of_ble_eq_true rfl) ?_; generalize ht : argSlots _ 0 .nil = t; have h0 : t.get 0 = some _ := (by rw [← ht]; rfl); clear ht
  by_cases c1 : 4096 < l.ops.length
  · repeat (first | intro id | refine goq ?_)
    ((first | apply retO_r | apply retO_n); (focus (exact resq)))
    exact ⟨_, by exact subq, .inl ⟨c1, rfl⟩, rfl⟩
  · repeat (first | intro id | refine goq ?_)
    simp only [z0, z2]
    have hfl : fillA [aint 0, aint 0, anil, anil, aint 0] [(0, 3, .agg [aint nq, aint nb, ov]), (3, 1, pv), (4, 1, aint (l.swaps : Int))] = some [aint nq, aint nb, ov, pv, aint (l.swaps : Int)] := by
      refine fillA_agg rfl (by simp) (all_one_cons rfl (all_one_cons rfl (all_one_cons ov1 all_one_nil))) ?_
      show fillA [aint nq, aint nb, ov, anil, aint 0] _ = _
      refine fillA_one pv1 (by simp) ?_
      refine fillA_one rfl (by simp) ?_
      rfl
    refine oo_p wanted_none (fun mm hmm => op_build (argParts_cons (v := .agg [aint nq, aint nb, ov]) ?_ (argParts_cons (v := pv) ?_ (argParts_cons (v := aint (l.swaps : Int)) ?_ argParts_nil))) hfl) ?_
    · exact slotq
    · exact slotq
    · exact slotq
    repeat (first | intro id | refine goq ?_)
    ((first | apply retO_r | apply retO_n); (focus (exact resq)))
    exact ⟨_, by exact subq, .inr ⟨by omega, rfl⟩, rfl⟩
end Go.Proofs.Ytfaphhcloanhnaa
namespace Go.Proofs.Ytfaphhcloanhnaa
open Go.Am Go.Dist
set_option maxRecDepth 4000
set_option maxHeartbeats 16000000
variable {E : Env} {L : Hp}
theorem bring_rl1 (hF : E.fns = fnsT) (hms : E.mode f_phasorref20_step = .iso false) (hm : E.mode f_phasorref20_laid_swap = .open_) (hst18 : still E c_phasorref20_Route_r18 = true) (hst19 : still E c_phasorref20_Route_r19 = true)
    {N il i10 i j : Nat} {ps : List (Nat × Nat)} {fv g1 b1 b2 b3 : AVal} {cap : Option Nat} {nq nb : Int} (hG : Good N ps) (hne : ∀ p ∈ ps, p.1 ≠ p.2) (hfv : SlS fv (dists N ps N)) :
    ∀ (d : Nat) (l : LaidD) (ov pv : AVal) (B : Hp) (t : Tr AVal), LaidB l ov pv B → PlOk N l.place → i < l.place.length → j < l.place.length → i ≠ j → D N ps (l.place.getD i 0).toNat (l.place.getD j 0).toNat = d + 1 → l.ops.length + d < 1000000 → l.swaps + d < 1000000 →
    t.get 6 = some fv → t.get 7 = some (.ptr il 0) → t.get 10 = some (.ptr i10 0) →
    WpO E (.loop c_phasorref20_Route_l1) t ((il, [aint nq, aint nb, ov, pv, aint l.swaps]) :: (B ++ ((i10, [aint 1, g1, .rs [aint i, aint j] 2 cap, b1, b2, b3]) :: L))) (fun ex t' L' => ex = .exit 4 ∧ Keep [2, 3, 4, 6, 7, 9, 10] t t' ∧ ∃ ov' pv' B', LaidB (bringN N ps i j d l) ov' pv' B' ∧ L' = (il, [aint nq, aint nb, ov', pv', aint (bringN N ps i j d l).swaps]) :: (B' ++ ((i10, [aint 1, g1, .rs [aint i, aint j] 2 cap, b1, b2, b3]) :: L))) := by
  have hN := hG.hN
  obtain ⟨us, r1, r2, r3⟩ := hfv.row
  rw [dists_length] at r1 r2 r3
  have fv1 := RowA.isOne r1
  intro d
  induction d with
  | zero =>
    intro l ov pv B t hB hP hi hj hij hD ho hs h6 h7 h10
    obtain ⟨cs, Bs, H, Pb, hb, hob, hp, hol, hpl, rfl⟩ := hB
    rcases bufInv hp with ⟨-, -, h0, -⟩ | ⟨ip, rfl, rfl⟩
    · omega
    obtain ⟨x, hx⟩ : ∃ x : Nat, l.place.getD i 0 = x := ⟨(l.place.getD i 0).toNat, by have := (hP.lo i hi).1; omega⟩
    obtain ⟨y, hy⟩ : ∃ y : Nat, l.place.getD j 0 = y := ⟨(l.place.getD j 0).toNat, by have := (hP.lo j hj).1; omega⟩
    have hxl : x < N := by have := hP.lo i hi; omega
    have hyl : y < N := by have := hP.lo j hj; omega
    rw [hx, hy, Int.toNat_natCast, Int.toNat_natCast] at hD
    obtain ⟨ux, hx1, hx2⟩ := r3 x hxl
    rw [dists_getD hxl] at hx2
    have hx1' : (us.drop (x * 1))[0]? = some ux := by simpa using hx1
    have lx := dist_len N ps x
    unfold D at hD
    refine wo_loop ?_
    rw [List.append_assoc, List.append_assoc]
    repeat (first | intro id | refine goq ?_)
    rw [hx]
    repeat (first | intro id | refine goq ?_)
    rw [hy]
    repeat (first | intro id | refine goq ?_)
    exact ⟨rfl, by exact keepq, ov, _, _, ⟨cs, Bs, H, _, hb, hob, hp, hol, hpl, rfl⟩, by simp only [List.append_assoc]; rfl⟩
  | succ d ih =>
    intro l ov pv B t hB hP hi hj hij hD ho hs h6 h7 h10
    have hB0 := hB
    obtain ⟨cs, Bs, H, Pb, hb, hob, hp, hol, hpl, rfl⟩ := hB
    rcases bufInv hp with ⟨-, -, h0, -⟩ | ⟨ip, rfl, rfl⟩
    · omega
    obtain ⟨x, hx⟩ : ∃ x : Nat, l.place.getD i 0 = x := ⟨(l.place.getD i 0).toNat, by have := (hP.lo i hi).1; omega⟩
    obtain ⟨y, hy⟩ : ∃ y : Nat, l.place.getD j 0 = y := ⟨(l.place.getD j 0).toNat, by have := (hP.lo j hj).1; omega⟩
    have hxl : x < N := by have := hP.lo i hi; omega
    have hyl : y < N := by have := hP.lo j hj; omega
    have hxy : x ≠ y := fun e => hij (hP.inj i j hi hj (by omega))
    rw [hx, hy, Int.toNat_natCast, Int.toNat_natCast] at hD
    obtain ⟨hn1, hn2⟩ := hG.nxt hxl hyl hxy
    have hnN := (nbl_mem.1 hn1).1
    have hbr : bringN N ps i j (d + 1) l = bringN N ps i j d (l.swap x (nxt N ps y x)) := by
      show bringN N ps i j d (l.swap (l.place.getD i 0) _) = _
      rw [hx, hy, Int.toNat_natCast, Int.toNat_natCast]
    obtain ⟨ux, hx1, hx2⟩ := r3 x hxl
    rw [dists_getD hxl] at hx2
    have hx1' : (us.drop (x * 1))[0]? = some ux := by simpa using hx1
    have lx := dist_len N ps x
    have hD' := hD
    unfold D at hD
    have hsw := fun (a b : Int) => RLSwap_open (L := (i10, [aint 1, g1, .rs [aint i, aint j] 2 cap, b1, b2, b3]) :: L) (a := a) (b := b) (nq := nq) (nb := nb) hF hm hB0 (il := il) (by omega) (by omega)
    simp only [List.append_assoc] at hsw
    refine wo_loop ?_
    rw [List.append_assoc, List.append_assoc]
    repeat (first | intro id | refine goq ?_)
    rw [hx]
    repeat (first | intro id | refine goq ?_)
    rw [hy]
    repeat (first | intro id | refine goq ?_)
    rw [hx]
    repeat (first | intro id | refine goq ?_)
    rw [hy]
    repeat (first | intro id | refine goq ?_)
    refine gok ?_
    refine (step_ok hF hms hG hne hxl hyl hxy hfv).mono ?_
    rintro v L' ⟨rfl, rfl⟩
    repeat (first | intro id | refine goq ?_)
    refine gok ?_
    refine (hsw _ _).mono ?_
    rintro v L' ⟨rfl, ov', pv', B', hB', rfl⟩
    repeat (first | intro id | refine goq ?_)
    have hny : nxt N ps y x ≠ y := fun e => by
      have := (hG.zero hnN hyl).2 e
      omega
    have hpi : (l.swap x (nxt N ps y x)).place.getD i 0 = ((nxt N ps y x : Nat) : Int) := by
      show (swapPl _ _ _).getD i 0 = _
      rw [swapPl_get hi, hx]
      simp [swapF]
    have hpj : (l.swap x (nxt N ps y x)).place.getD j 0 = (y : Int) := by
      show (swapPl _ _ _).getD j 0 = _
      rw [swapPl_get hj, hy]
      unfold swapF
      rw [if_neg (by omega), if_neg (by omega)]
    have hlen : (l.swap x (nxt N ps y x)).place.length = l.place.length := swapPl_length _ _ _
    rw [hbr]
    refine WpO.mono (ih (l.swap x (nxt N ps y x)) ov' pv' B' _ hB' (hP.swap ⟨by omega, by omega⟩ ⟨by omega, by omega⟩) (by omega) (by omega) hij ?_ ?_ ?_ ?_ ?_ ?_) ?_
    · rw [hpi, hpj, Int.toNat_natCast, Int.toNat_natCast, hn2]
      omega
    · simp only [LaidD.swap, List.length_append, List.length_singleton]; omega
    · simp only [LaidD.swap]; omega
    · exact slotq
    · exact slotq
    · exact slotq
    · rintro ex t' L' ⟨e1, e2, e3⟩
      exact ⟨e1, Keep.trans (by exact keepq) e2, e3⟩
end Go.Proofs.Ytfaphhcloanhnaa
namespace Go.Proofs.Ytfaphhcloanhnaa
open Go.Am Go.Dist
set_option maxRecDepth 4000
set_option maxHeartbeats 8000000
variable {E : Env} {L : Hp}
theorem rmove_l2 (hst24 : still E c_phasorref20_Route_r24 = true) {i10 il ip m sw : Nat} {c0 c1 c3 c4 c5 q ov : AVal} {nq nb : Int} {qs pl : List Int} (hq : SlI q qs) (hlt : qs.length ≤ 2000000) (hm : pl.length = m) (hqs : ∀ k, k < qs.length → 0 ≤ qs.getD k 0 ∧ (qs.getD k 0).toNat < m) :
    ∀ (d k : Nat) (t : Tr AVal) (u : AVal) (Bu : Hp), d + k = qs.length → BufO 1 u (((qs.take k).map fun q => pl.getD q.toNat 0).map aint) k Bu → t.get 7 = some (.ptr il 0) → t.get 10 = some (.ptr i10 0) → t.get 13 = some u → t.get 14 = some (aint k) →
    WpO E (.loop c_phasorref20_Route_l2) t (Bu ++ ((i10, [c0, c1, q, c3, c4, c5]) :: (il, [aint nq, aint nb, ov, .sl ip 0 m 1 none, aint sw]) :: (ip, pl.map aint) :: L))
      (fun ex t' L' => ex = .exit 6 ∧ Keep [2, 3, 4, 6, 7, 9, 10] t t' ∧ ∃ u' Bu', t'.get 13 = some u' ∧ BufO 1 u' ((qs.map fun q => pl.getD q.toNat 0).map aint) qs.length Bu' ∧ L' = Bu' ++ ((i10, [c0, c1, q, c3, c4, c5]) :: (il, [aint nq, aint nb, ov, .sl ip 0 m 1 none, aint sw]) :: (ip, pl.map aint) :: L)) := by
  have hq1 := RowA.isOne hq
  intro d
  induction d with
  | zero =>
    intro k t u Bu hk hb h7 h10 h13 h14
    obtain rfl : k = qs.length := by omega
    rw [List.take_length] at hb
    refine wo_loop ?_
    repeat (first | intro id | refine goq ?_)
    exact ⟨rfl, by exact keepq, u, Bu, by exact slotq, hb, rfl⟩
  | succ d ih =>
    intro k t u Bu hk hb h7 h10 h13 h14
    have hkl : k < qs.length := by omega
    have hu1 := hb.isOne
    have hqk := hqs k hkl
    obtain ⟨x, hx⟩ : ∃ x : Nat, qs.getD k 0 = x := ⟨(qs.getD k 0).toNat, by omega⟩
    rw [hx] at hqk
    have hxm : x < pl.length := by omega
    have hs : (((qs.take k).map fun q => pl.getD q.toNat 0).map aint) ++ [aint (pl.getD x 0)] = ((qs.take (k + 1)).map fun q => pl.getD q.toNat 0).map aint := by
      have : qs.getD k 0 = qs[k] := by simp [hkl]
      rw [List.take_succ_eq_append_getElem hkl, List.map_append, List.map_append, ← this, hx]
      simp
    refine wo_loop ?_
    repeat (first | intro id | refine goq ?_)
    rw [hx]
    repeat (first | intro id | refine goq ?_)
    have hb2 := hb.pushed (id := id) (nw := [aint (pl.getD x 0)]) rfl rfl
    rw [hs] at hb2
    refine WpO.weak (WpO.mono (ih (k + 1) _ _ _ (by omega) hb2 ?_ ?_ ?_ ?_) ?_) ?_
    · exact slotq
    · exact slotq
    · exact slotq
    · exact slotq
    · rintro ex t' L' ⟨e1, e2, e3⟩
      exact ⟨e1, Keep.trans (by exact keepq) e2, e3⟩
    · rw [← hs]
      exact subq
end Go.Proofs.Ytfaphhcloanhnaa
namespace Go.Proofs.Ytfaphhcloanhnaa
open Go.Am Go.Dist
set_option maxRecDepth 4000
set_option maxHeartbeats 8000000
variable {E : Env} {L : Hp}
theorem rroute_l0 {il i2 n : Nat} {nq nb nc : Int} {ov s2 : AVal} (hov : ov.one = true) (hn : n ≤ 64) : ∀ (d k : Nat) (t : Tr AVal) (pv : AVal) (Pb : Hp), d + k = n → BufO 1 pv ((iotaPl k).map aint) k Pb → t.get 2 = some (.ptr i2 0) → t.get 7 = some (.ptr il 0) → t.get 8 = some (aint k) →
    WpO E (.loop c_phasorref20_Route_l0) t ((il, [aint nq, aint nb, ov, pv, aint 0]) :: (Pb ++ ((i2, [aint n, aint nc, s2]) :: L))) (fun ex t' L' => ex = .exit 0 ∧ Keep [2, 3, 4, 6, 7] t t' ∧ ∃ pv' Pb', BufO 1 pv' ((iotaPl n).map aint) n Pb' ∧ L' = (il, [aint nq, aint nb, ov, pv', aint 0]) :: (Pb' ++ ((i2, [aint n, aint nc, s2]) :: L))) := by
  intro d
  induction d with
  | zero =>
    intro k t pv Pb hk hb h2 h7 h8
    obtain rfl : k = n := by omega
    refine wo_loop ?_
    repeat (first | intro id | refine goq ?_)
    exact ⟨rfl, by exact keepq, pv, Pb, hb, rfl⟩
  | succ d ih =>
    intro k t pv Pb hk hb h2 h7 h8
    have hp1 := hb.isOne
    refine wo_loop ?_
    repeat (first | intro id | refine goq ?_)
    have hb2 := hb.pushed (id := id) (nw := [aint k]) rfl rfl
    have e : (iotaPl k).map aint ++ [aint k] = (iotaPl (k + 1)).map aint := by rw [iotaPl_succ, List.map_append]; rfl
    rw [e] at hb2
    refine WpO.weak (WpO.mono (ih (k + 1) _ (.sl id 0 (k + 1) 1 none) _ (by omega) hb2 ?_ ?_ ?_) ?_) ?_
    · exact slotq
    · exact slotq
    · exact slotq
    · rintro ex t' L' ⟨e1, e2, e3⟩
      exact ⟨e1, Keep.trans (by exact keepq) e2, e3⟩
    · rw [← e]
      exact subq
end Go.Proofs.Ytfaphhcloanhnaa
