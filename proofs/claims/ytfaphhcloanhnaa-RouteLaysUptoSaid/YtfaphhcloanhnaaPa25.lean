/- Parts of the proof, joined by program: LaLG, LaLR, LaLT, LaLU. -/
import Derived.Test.YtfaphhcloanhnaaPa24
import Derived.Test.YtfaphhcloanhnaaPa16
set_option linter.unusedSimpArgs false
set_option linter.unusedVariables false
namespace Go.Proofs.Ytfaphhcloanhnaa
open Go.Am Go.Dist
set_option maxRecDepth 4000
set_option maxHeartbeats 8000000
variable {E : Env} {L : Hp}
theorem rfits_l0 (hst : still E c_phasorref20_Fits_r11 = true) {N : Nat} {ps : List (Nat × Nat)} {dv so : AVal} {cs : List AVal} {c : CircD} {i2 : Nat} (hN : N ≤ 64) (hd : SlS dv (dists N ps N)) (hr : RowA so cs c.ops.length) (hcs : OpsC cs c.ops) (hlt : c.ops.length < 2 ^ 62) (hC : CircOk c) (hq : c.qubits ≤ N) :
    ∀ (d k : Nat) (t : Tr AVal) (L : Hp), d + k = c.ops.length → In i2 [aint c.qubits, aint c.bits, so] L → t.get 2 = some (.ptr i2 0) → t.get 6 = some dv → t.get 7 = some (aint k) → (∀ j, j < k → badB N ps (c.ops.getD j default) = false) →
    WpO E (.loop c_phasorref20_Fits_l0) t L (fun ex t' L' => (ex = .exit 0 ∧ ∀ j, j < c.ops.length → badB N ps (c.ops.getD j default) = false) ∨ (ex = .ret ∧ t'.get 4 = some (abool false) ∧ t'.get 5 = some (aint 0) ∧ ¬ ∀ j, j < c.ops.length → badB N ps (c.ops.getD j default) = false)) := by
  have hso1 := RowA.isOne hr
  obtain ⟨us, r1, r2, r3⟩ := hd.row
  rw [dists_length] at r1 r2 r3
  intro d
  induction d with
  | zero =>
    intro k t L hk hin h2 h6 h7 hno
    refine wo_loop ?_
    repeat (first | intro id | refine goq ?_)
    exact .inl ⟨rfl, fun j hj => hno j (by omega)⟩
  | succ d ih =>
    intro k t L hk hin h2 h6 h7 hno
    have hkl : k < c.ops.length := by omega
    obtain ⟨q, hq', hqb, hlt6, hseg⟩ := hcs.getE hkl
    have hok := hC.ok k hkl
    have bad : badB N ps (c.ops.getD k default) = true → ¬ ∀ j, j < c.ops.length → badB N ps (c.ops.getD j default) = false := fun h hh => by rw [hh k hkl] at h; cases h
    have good : badB N ps (c.ops.getD k default) = false → ∀ j, j < k + 1 → badB N ps (c.ops.getD j default) = false := fun h j hj => by
      by_cases e : j = k
      · subst e; exact h
      · exact hno j (by omega)
    have hbad : badB N ps (c.ops.getD k default) = (decide ((c.ops.getD k default).kind = 1) && (decide (2 < (c.ops.getD k default).qs.length) || (decide ((c.ops.getD k default).qs.length = 2) && !decide (D N ps ((c.ops.getD k default).qs.getD 0 0).toNat ((c.ops.getD k default).qs.getD 1 0).toNat = 1)))) := rfl
    generalize c.ops.getD k default = o at *
    have hq1 := RowA.isOne hq'
    unfold opCells at hseg
    have next : ∀ (t2 : Tr AVal) (L2 : Hp), In i2 [aint c.qubits, aint c.bits, so] L2 → t2.get 2 = some (.ptr i2 0) → t2.get 6 = some dv → t2.get 7 = some (aint ((k + 1 : Nat) : Int)) → badB N ps o = false → WpO E (.loop c_phasorref20_Fits_l0) t2 L2 (fun ex t' L' => (ex = .exit 0 ∧ ∀ j, j < c.ops.length → badB N ps (c.ops.getD j default) = false) ∨ (ex = .ret ∧ t'.get 4 = some (abool false) ∧ t'.get 5 = some (aint 0) ∧ ¬ ∀ j, j < c.ops.length → badB N ps (c.ops.getD j default) = false)) :=
      fun t2 L2 hi e2 e6 e7 hb => ih (k + 1) t2 L2 (by omega) hi e2 e6 e7 (good hb)
    refine wo_loop ?_
    by_cases c1 : o.kind = 1
    · have hg : Qs c.qubits o.qs := by
        unfold OpOk at hok
        rcases hok with h | h | h | h
        · exact h.2.2.2.1
        · omega
        · omega
        · omega
      rw [decide_eq_true c1, Bool.true_and] at hbad
      by_cases c3 : 2 < o.qs.length
      · rw [decide_eq_true c3] at hbad
        repeat (first | intro id | refine goq ?_)
        exact .inr ⟨rfl, by exact slotq, by exact slotq, bad hbad⟩
      by_cases c2 : o.qs.length = 2
      · obtain ⟨x, y, hxy, hx, hy, hne2⟩ := two_qs hg c2
        rw [decide_eq_false c3, decide_eq_true c2, Bool.false_or, Bool.true_and, hxy] at hbad
        simp only [List.getD_cons_zero, List.getD_cons_succ, Int.toNat_natCast] at hbad
        have g0 : o.qs.getD 0 0 = (x : Int) := by rw [hxy]; rfl
        have g1 : o.qs.getD 1 0 = (y : Int) := by rw [hxy]; rfl
        have hxl : x < N := by omega
        have hyl : y < N := by omega
        obtain ⟨ux, hx1, hx2⟩ := r3 x hxl
        rw [dists_getD hxl] at hx2
        have hx1' : (us.drop (x * 1))[0]? = some ux := by simpa using hx1
        have lx := dist_len N ps x
        repeat (first | intro id | refine goq ?_)
        rw [g0]
        repeat (first | intro id | refine goq ?_)
        rw [g1]
        unfold D at hbad
        by_cases hd1 : (dist N ps x).getD y 0 = 1
        · rw [decide_eq_true hd1] at hbad
          repeat (first | intro id | refine goq ?_)
          refine next _ _ (.next hin) ?_ ?_ ?_ hbad
          · exact slotq
          · exact slotq
          · exact slotq
        · rw [decide_eq_false hd1] at hbad
          repeat (first | intro id | refine goq ?_)
          exact .inr ⟨rfl, by exact slotq, by exact slotq, bad hbad⟩
      · rw [decide_eq_false c3, decide_eq_false c2] at hbad
        repeat (first | intro id | refine goq ?_)
        refine next _ _ (.next hin) ?_ ?_ ?_ hbad
        · exact slotq
        · exact slotq
        · exact slotq
    · rw [decide_eq_false c1, Bool.false_and] at hbad
      repeat (first | intro id | refine goq ?_)
      refine next _ _ (.next hin) ?_ ?_ ?_ hbad
      · exact slotq
      · exact slotq
      · exact slotq
theorem rFits_ok (hF : E.fns = fnsT) (hm : E.mode f_phasorref20_Fits = .iso false) (hmR : E.mode f_phasorref20_Right = .iso false) (hmf : E.mode f_phasorref20_far = .iso true) (hst : still E c_phasorref20_Fits_r11 = true)
    (hmM : E.mode f_phasorref08_May = .iso false) (hmk : E.mode f_phasorref08_Check = .iso false) (hmo : E.mode f_phasorref08_Op = .iso false) (hmg : E.mode f_phasorref06_Check = .iso false) (hma : E.mode f_phasorref06_Arity = .iso false) (hmi : E.mode f_phasorref06_Is = .iso false) (hmu : E.mode f_phasorref08_unlike = .iso false) (hst8 : still E c_phasorref08_Check_r5 = true)
    {N : Int} {s v : AVal} {ps : List (Int × Int)} {c : CircD} (hs : SlP s ps) (hlt : ps.length ≤ 1000000) (hv : CircA v c) :
    CallO E f_phasorref20_Fits [v, .agg [aint N, s]] L fun r L' => FitsR N ps c r ∧ L' = L := by
  refine callO_iso0 (R := FitsR N ps c) hm (fns_of hF n_phasorref20_Fits) (vs_bare hv.bare (vs_bare (bare_MapA ⟨s, rfl, hs⟩) vs_nil)) ?_
  have hv0 := hv
  obtain ⟨so, rfl, cs, hr, hcs, hltc⟩ := hv
  have hs1 := hs.isOne
  have hso1 := RowA.isOne hr
  refine bodyO_of (Nat.le_of_ble_eq_true rfl) ?_; generalize ht : argSlots _ 0 .nil = t; have h0 : t.get 0 = some _ := (by rw [← ht]; rfl); have h1 : t.get 1 = some _ := (by rw [← ht]; rfl); clear ht
  repeat (first | intro id | refine goq ?_)
  refine gok ?_
  refine (Right_ok hF hmR hmf hs (by omega)).mono ?_
  rintro u L' ⟨⟨bb, rfl, hbb⟩, rfl⟩
  cases bb with
  | true =>
    have hR := hbb.1 rfl
    obtain ⟨M, rfl⟩ : ∃ k : Nat, N = k := ⟨N.toNat, by have := hR.n1; omega⟩
    have hG := good_of hR
    have hnp := npairs_length ps
    repeat (first | intro id | refine goq ?_)
    refine gok ?_
    refine (May_ok hF hmM hmk hmo hmg hma hmi hmu hst8 hv0).mono ?_
    rintro u L' ⟨⟨x, rfl, hx⟩, rfl⟩
    cases x with
    | true =>
      have hC := hx.1 rfl
      have hq0 := hC.q0
      repeat (first | intro id | refine goq ?_)
      refine gok ?_
      refine (far_ok hF hmf hG.hN (npairs_lt hR.ok) (SlP_N hR.ok hs) (by omega)).mono ?_
      rintro dv L' ⟨hd, rfl⟩
      have hd1 : dv.one = true := by obtain ⟨us, h1, -, -⟩ := hd; exact RowA.isOne h1
      by_cases cq : c.qubits ≤ M
      · repeat (first | intro id | refine goq ?_)
        refine WpO.mono (rfits_l0 hst hG.hN hd hr hcs hltc hC cq c.ops.length 0 _ _ (by omega) (.next .here) ?_ ?_ ?_ (fun j hj => by omega)) ?_
        · exact slotq
        · exact slotq
        · exact slotq
        rintro ex t' L' (⟨rfl, hall⟩ | ⟨rfl, g4, g5, hno⟩)
        · repeat (first | intro id | refine goq ?_)
          ((first | apply retO_r | apply retO_n); (focus (exact resq)))
          refine ⟨rfl, .inr (.inr ⟨hR, hC, true, rfl, ?_⟩)⟩
          rw [Int.toNat_natCast]
          simp only [true_iff]
          exact ⟨cq, hall⟩
        · repeat (first | intro id | refine goq ?_)
          ((first | apply retO_r | apply retO_n); (focus (exact resq)))
          refine ⟨rfl, .inr (.inr ⟨hR, hC, false, rfl, ?_⟩)⟩
          rw [Int.toNat_natCast]
          simp only [Bool.false_eq_true, false_iff]
          exact fun h => hno h.2
      · repeat (first | intro id | refine goq ?_)
        ((first | apply retO_r | apply retO_n); (focus (exact resq)))
        exact ⟨rfl, .inr (.inr ⟨hR, hC, false, rfl, by simp [cq]⟩)⟩
    | false =>
      have hC : ¬ CircOk c := fun h => by have := hx.2 h; cases this
      repeat (first | intro id | refine goq ?_)
      ((first | apply retO_r | apply retO_n); (focus (exact resq)))
      exact ⟨rfl, .inr (.inl ⟨hR, hC, rfl⟩)⟩
  | false =>
    have hR : ¬ RightP N ps := fun h => by have := hbb.2 h; cases this
    repeat (first | intro id | refine goq ?_)
    ((first | apply retO_r | apply retO_n); (focus (exact resq)))
    exact ⟨rfl, .inl ⟨hR, rfl⟩⟩
end Go.Proofs.Ytfaphhcloanhnaa
namespace Go.Proofs.Ytfaphhcloanhnaa
open Go.Am Go.Dist
set_option maxRecDepth 4000
set_option maxHeartbeats 8000000
variable {E : Env} {L : Hp}
theorem pfar_rows (hF : E.fns = fnsT) (hm : E.mode f_route_far = .iso true) (hms : E.mode f_route_steps = .open_) {N : Nat} {ps : List (Nat × Nat)} {vn : AVal} (hN : N ≤ 64) (hps : ∀ k, k < ps.length → (ps.getD k (0, 0)).1 < N ∧ (ps.getD k (0, 0)).2 < N) (hvn : SlS vn ((nbs N ps).map inat)) :
    CallO E f_route_far [vn] L fun v L' => SlS v (dists N ps N) ∧ L' = L := by
  refine callO_iso1 (R := fun v => SlS v (dists N ps N)) hm (fns_of hF n_route_far) (by simp [hvn.bare]) ?_
  obtain ⟨us, r1, r2, r3⟩ := hvn.row
  have hl : ((nbs N ps).map inat).length = N := by rw [List.length_map, nbs_length]
  rw [hl] at r1
  refine bodyO_of (Nat.le_of_ble_eq_true rfl) ?_; generalize ht : argSlots _ 0 .nil = t; have h0 : t.get 0 = some _ := (by rw [← ht]; rfl); clear ht
  repeat (first | intro id | refine goq ?_)
  refine WpO.mono (far_loop (L := []) hF hms hN hps hvn N 0 _ anil [] [] [] (by omega) ?_ ?_ ?_ ?_ .nil .nil) ?_
  · exact slotq
  · exact slotq
  · exact slotq
  · exact slotq
  rintro ex t1 L' ⟨rfl, a, cs, B, H, g3, hb, hr, rfl⟩
  repeat (first | intro id | refine goq ?_)
  ((first | apply retO_r | apply retO_n); (focus (exact resq)))
  have hw : FarO N ps a (B ++ H) := ⟨cs, B, H, hb, hr, rfl⟩
  obtain ⟨u, hu, hv⟩ := hw.seen
  exact ⟨u, hv _ 61 (fun id c hi => by rw [← List.append_assoc]; exact hi.appl), hu⟩
theorem path_rows (hF : E.fns = fnsT) (hm : E.mode f_route_path = .iso true) (hmi : E.mode f_slices_IndexFunc_int_int = .iso false) (hmp : E.mode f_route_path_1 = .iso false) (hst3 : still E c_route_path_r3 = true) {N a b : Nat} {ps : List (Nat × Nat)} {nv fv : AVal} (hG : Good N ps) (hnv : SlS nv ((nbs N ps).map inat)) (ha : a < N) (hb : b < N) (hfv : SlS fv (dists N ps N)) :
    CallO E f_route_path [nv, fv, aint a, aint b] L fun v L' => SlI v (inat (pathL N ps a b)) ∧ L' = L := by
  refine callO_iso1 (R := fun v => SlI v (inat (pathL N ps a b))) hm (fns_of hF n_route_path) ?_ ?_
  · simp only [List.all_cons, List.all_nil, hnv.bare, hfv.bare]; rfl
  have hw1 : fv.one = true := by obtain ⟨us, h1, -, -⟩ := hfv; exact RowA.isOne h1
  have hcn := hG.conn a b ha hb
  have hN := hG.hN
  refine bodyO_of (Nat.le_of_ble_eq_true rfl) ?_; generalize ht : argSlots _ 0 .nil = t; have h0 : t.get 0 = some _ := (by rw [← ht]; rfl); have h1 : t.get 1 = some _ := (by rw [← ht]; rfl); have h2 : t.get 2 = some _ := (by rw [← ht]; rfl); have h3 : t.get 3 = some _ := (by rw [← ht]; rfl); clear ht
  repeat (first | intro id | refine goq ?_)
  rename_i i5 i6 i7
  refine WpO.mono (path_loop (L := []) (i5 := i5) (i6 := i6) (i7 := i7) hF hmi hmp hst3 rfl hG hnv hb hw1 hfv (fun M hM => vo_SlSn hfv) (D N ps a b).toNat a _ [a] id (some 1) ha (by omega) (by simp only [List.length_singleton]; omega) ?_ ?_ ?_ ?_ ?_) ?_
  · exact slotq
  · exact slotq
  · exact slotq
  · exact slotq
  · exact slotq
  rintro ex t1 L' ⟨rfl, iw, cap, g9, hsub⟩
  refine blkO.x (seqO.n (WpO.weak ?_ hsub))
  repeat (first | intro id | refine goq ?_)
  ((first | apply retO_r | apply retO_n); (focus (exact resq)))
  exact ⟨_, vo_sl .here (by rw [Nat.mul_one]; exact seg_full (by simp [inat])) (vl_sc (sc_ints _)), .inr ⟨cap, by rw [inat_length]; rfl⟩⟩

/-! Brought together -/
/-- Places of qubits: apart, and there. -/
structure PlOk (N : Nat) (pl : List Int) : Prop where
  lo : ∀ i, i < pl.length → 0 ≤ pl.getD i 0 ∧ pl.getD i 0 < N
  inj : ∀ i j, i < pl.length → j < pl.length → pl.getD i 0 = pl.getD j 0 → i = j
theorem swapF_inj {a b x y : Int} (h : swapF a b x = swapF a b y) : x = y := by
  unfold swapF at h
  repeat' (split at h)
  all_goals omega
theorem swapPl_get {a b : Int} {l : List Int} {i : Nat} (h : i < l.length) : (swapPl a b l).getD i 0 = swapF a b (l.getD i 0) := by simp [swapPl, h]
theorem swapPl_length (a b : Int) (l : List Int) : (swapPl a b l).length = l.length := by simp [swapPl]
theorem PlOk.swap {N : Nat} {pl : List Int} {a b : Int} (h : PlOk N pl) (ha : 0 ≤ a ∧ a < N) (hb : 0 ≤ b ∧ b < N) : PlOk N (swapPl a b pl) := by
  refine ⟨fun i hi => ?_, fun i j hi hj e => ?_⟩
  · rw [swapPl_length] at hi
    rw [swapPl_get hi]
    have := h.lo i hi
    unfold swapF
    split
    · exact hb
    · split
      · exact ha
      · exact this
  · rw [swapPl_length] at hi hj
    rw [swapPl_get hi, swapPl_get hj] at e
    exact h.inj i j hi hj (swapF_inj e)
def bringN (N : Nat) (ps : List (Nat × Nat)) (i j : Nat) : Nat → LaidD → LaidD
  | 0, l => l
  | d + 1, l => bringN N ps i j d (l.swap (l.place.getD i 0) ((nxt N ps (l.place.getD j 0).toNat (l.place.getD i 0).toNat : Nat) : Int))
theorem bring_l1 (hF : E.fns = fnsT) (hK : KnownAbove E) (hmp : E.mode f_route_path = .iso true) (hmi : E.mode f_slices_IndexFunc_int_int = .iso false) (hmp1 : E.mode f_route_path_1 = .iso false) (hst3 : still E c_route_path_r3 = true)
    (hm : E.mode f_route_laid_swap = .open_) (hms : E.mode f_route_swap = .fresh) (hst : still E c_route_laid_swap_r0 = true) (hst22 : still E c_route_Route_r22 = true) (hst23 : still E c_route_Route_r23 = true) (hst24 : still E c_route_Route_r24 = true)
    {N il i j : Nat} {ps : List (Nat × Nat)} {nv fv : AVal} (hG : Good N ps) (hnv : SlS nv ((nbs N ps).map inat)) (hfv : SlS fv (dists N ps N)) :
    ∀ (d : Nat) (l : LaidD) (ov pv : AVal) (B : Hp) (t : Tr AVal), LaidB l ov pv B → PlOk N l.place → i < l.place.length → j < l.place.length → i ≠ j → D N ps (l.place.getD i 0).toNat (l.place.getD j 0).toNat = d + 1 → l.ops.length + d < 1000000 → l.swaps + d < 1000000 →
    t.get 9 = some nv → t.get 10 = some fv → t.get 11 = some (.ptr il 0) → t.get 15 = some (aint i) → t.get 16 = some (aint j) →
    WpO E (.loop c_route_Route_l1) t ((il, [ov, pv, aint l.swaps]) :: (B ++ L)) (fun ex t' L' => ex = .exit 4 ∧ Keep [2, 3, 4, 9, 10, 11, 14, 70, 71, 72] t t' ∧ ∃ ov' pv' B', LaidB (bringN N ps i j d l) ov' pv' B' ∧ L' = (il, [ov', pv', aint (bringN N ps i j d l).swaps]) :: (B' ++ L)) := by
  have hN := hG.hN
  obtain ⟨us, r1, r2, r3⟩ := hfv.row
  rw [dists_length] at r1 r2 r3
  intro d
  induction d with
  | zero =>
    intro l ov pv B t hB hP hi hj hij hD ho hs h9 h10 h11 h15 h16
    obtain ⟨cs, Bs, H, Pb, hb, hob, hp, hol, hpl, rfl⟩ := hB
    rcases bufInv hp with ⟨-, -, h0, -⟩ | ⟨ip, rfl, rfl⟩
    · omega
    obtain ⟨x, hx⟩ : ∃ x : Nat, l.place.getD i 0 = x := ⟨(l.place.getD i 0).toNat, by have := (hP.lo i hi).1; omega⟩
    obtain ⟨y, hy⟩ : ∃ y : Nat, l.place.getD j 0 = y := ⟨(l.place.getD j 0).toNat, by have := (hP.lo j hj).1; omega⟩
    have hxl : x < N := by have := hP.lo i hi; omega
    have hyl : y < N := by have := hP.lo j hj; omega
    rw [hx, hy, Int.toNat_natCast, Int.toNat_natCast] at hD
    obtain ⟨ux, hx1, hx2⟩ := r3 x hxl
    rw [dists_getD hxl] at hx2
    have hx1' : (us.drop (x * 1))[0]? = some ux := by simpa using hx1
    have lx := dist_len N ps x
    unfold D at hD
    refine wo_loop ?_
    rw [List.append_assoc, List.append_assoc]
    repeat (first | intro id | refine goq ?_)
    rw [hx]
    repeat (first | intro id | refine goq ?_)
    rw [hy]
    repeat (first | intro id | refine goq ?_)
    exact ⟨rfl, by exact keepq, ov, _, _, ⟨cs, Bs, H, _, hb, hob, hp, hol, hpl, rfl⟩, by simp only [List.append_assoc]; rfl⟩
  | succ d ih =>
    intro l ov pv B t hB hP hi hj hij hD ho hs h9 h10 h11 h15 h16
    have hB0 := hB
    obtain ⟨cs, Bs, H, Pb, hb, hob, hp, hol, hpl, rfl⟩ := hB
    rcases bufInv hp with ⟨-, -, h0, -⟩ | ⟨ip, rfl, rfl⟩
    · omega
    obtain ⟨x, hx⟩ : ∃ x : Nat, l.place.getD i 0 = x := ⟨(l.place.getD i 0).toNat, by have := (hP.lo i hi).1; omega⟩
    obtain ⟨y, hy⟩ : ∃ y : Nat, l.place.getD j 0 = y := ⟨(l.place.getD j 0).toNat, by have := (hP.lo j hj).1; omega⟩
    have hxl : x < N := by have := hP.lo i hi; omega
    have hyl : y < N := by have := hP.lo j hj; omega
    have hxy : x ≠ y := fun e => hij (hP.inj i j hi hj (by omega))
    rw [hx, hy, Int.toNat_natCast, Int.toNat_natCast] at hD
    obtain ⟨hn1, hn2⟩ := hG.nxt hxl hyl hxy
    have hnN := (nbl_mem.1 hn1).1
    have hbr : bringN N ps i j (d + 1) l = bringN N ps i j d (l.swap x (nxt N ps y x)) := by
      show bringN N ps i j d (l.swap (l.place.getD i 0) _) = _
      rw [hx, hy, Int.toNat_natCast, Int.toNat_natCast]
    obtain ⟨ux, hx1, hx2⟩ := r3 x hxl
    rw [dists_getD hxl] at hx2
    have hx1' : (us.drop (x * 1))[0]? = some ux := by simpa using hx1
    have lx := dist_len N ps x
    have hD' := hD
    unfold D at hD
    have q1 : (inat (pathL N ps x y)).length = d + 3 := by
      unfold pathL
      rw [inat_length, List.length_cons, hD']
      have : ∀ n a, (pathFrom N ps y n a).length = n := by
        intro n
        induction n with
        | zero => intro a; rfl
        | succ n ih => intro a; simp only [pathFrom, List.length_cons, ih]
      rw [this]
      omega
    have q2 : (inat (pathL N ps x y)).getD 0 0 = x := rfl
    have q3 : (inat (pathL N ps x y)).getD 1 0 = ((nxt N ps y x : Nat) : Int) := by
      unfold pathL
      rw [hD']
      rfl
    have hsw := fun (a b : Int) => LSwap_open (L := L) (a := a) (b := b) hF hK hm hms hst hB0 (il := il) (by omega) (by omega)
    simp only [List.append_assoc] at hsw
    refine wo_loop ?_
    rw [List.append_assoc, List.append_assoc]
    repeat (first | intro id | refine goq ?_)
    rw [hx]
    repeat (first | intro id | refine goq ?_)
    rw [hy]
    repeat (first | intro id | refine goq ?_)
    rw [hx]
    repeat (first | intro id | refine goq ?_)
    rw [hy]
    repeat (first | intro id | refine goq ?_)
    refine gok ?_
    refine (path_rows hF hmp hmi hmp1 hst3 hG hnv hxl hyl hfv).mono ?_
    rintro pvv L' ⟨hpv, rfl⟩
    have pvv1 := RowA.isOne hpv
    generalize inat (pathL N ps x y) = pl at *
    repeat (first | intro id | refine goq ?_)
    rw [q2, q3]
    refine gok ?_
    refine (hsw _ _).mono ?_
    rintro v L' ⟨rfl, ov', pv', B', hB', rfl⟩
    repeat (first | intro id | refine goq ?_)
    have hny : nxt N ps y x ≠ y := fun e => by
      have := (hG.zero hnN hyl).2 e
      omega
    have hpi : (l.swap x (nxt N ps y x)).place.getD i 0 = ((nxt N ps y x : Nat) : Int) := by
      show (swapPl _ _ _).getD i 0 = _
      rw [swapPl_get hi, hx]
      simp [swapF]
    have hpj : (l.swap x (nxt N ps y x)).place.getD j 0 = (y : Int) := by
      show (swapPl _ _ _).getD j 0 = _
      rw [swapPl_get hj, hy]
      unfold swapF
      rw [if_neg (by omega), if_neg (by omega)]
    have hlen : (l.swap x (nxt N ps y x)).place.length = l.place.length := swapPl_length _ _ _
    rw [hbr]
    refine WpO.mono (ih (l.swap x (nxt N ps y x)) ov' pv' B' _ hB' (hP.swap ⟨by omega, by omega⟩ ⟨by omega, by omega⟩) (by omega) (by omega) hij ?_ ?_ ?_ ?_ ?_ ?_ ?_ ?_) ?_
    · rw [hpi, hpj, Int.toNat_natCast, Int.toNat_natCast, hn2]
      omega
    · simp only [LaidD.swap, List.length_append, List.length_singleton]; omega
    · simp only [LaidD.swap]; omega
    · exact slotq
    · exact slotq
    · exact slotq
    · exact slotq
    · exact slotq
    · rintro ex t' L' ⟨e1, e2, e3⟩
      exact ⟨e1, Keep.trans (by exact keepq) e2, e3⟩
end Go.Proofs.Ytfaphhcloanhnaa
namespace Go.Proofs.Ytfaphhcloanhnaa
open Go.Am Go.Dist
set_option maxRecDepth 4000
set_option maxHeartbeats 8000000
variable {E : Env} {L : Hp}
def iotaPl (n : Nat) : List Int := (List.range n).map fun (i : Nat) => (i : Int)
def movedOp (o : OpD) (pl : List Int) : OpD := { o with qs := o.qs.map fun q => pl.getD q.toNat 0 }
def broughtOp (N : Nat) (ps : List (Nat × Nat)) (o : OpD) (l : LaidD) : LaidD :=
  if o.kind = 1 ∧ o.qs.length = 2 then bringN N ps (o.qs.getD 0 0).toNat (o.qs.getD 1 0).toNat (D N ps (l.place.getD (o.qs.getD 0 0).toNat 0).toNat (l.place.getD (o.qs.getD 1 0).toNat 0).toNat - 1).toNat l else l
def layOp (N : Nat) (ps : List (Nat × Nat)) (l : LaidD) (o : OpD) : LaidD :=
  ⟨(broughtOp N ps o l).ops ++ [movedOp o (broughtOp N ps o l).place], (broughtOp N ps o l).place, (broughtOp N ps o l).swaps⟩
def laidAll (N : Nat) (ps : List (Nat × Nat)) (c : CircD) (k : Nat) : LaidD := (c.ops.take k).foldl (layOp N ps) ⟨[], iotaPl c.qubits.toNat, 0⟩
theorem laidAll_zero {N : Nat} {ps : List (Nat × Nat)} {c : CircD} : laidAll N ps c 0 = ⟨[], iotaPl c.qubits.toNat, 0⟩ := by simp [laidAll]
theorem laidAll_succ {N : Nat} {ps : List (Nat × Nat)} {c : CircD} {k : Nat} (h : k < c.ops.length) : laidAll N ps c (k + 1) = layOp N ps (laidAll N ps c k) (c.ops.getD k default) := by
  unfold laidAll
  rw [takeO_snoc h, List.foldl_append]
  rfl
theorem bringN_inv {N : Nat} {ps : List (Nat × Nat)} (hG : Good N ps) {i j : Nat} : ∀ (d : Nat) (l : LaidD), PlOk N l.place → i < l.place.length → j < l.place.length → i ≠ j → D N ps (l.place.getD i 0).toNat (l.place.getD j 0).toNat = d + 1 →
    PlOk N (bringN N ps i j d l).place ∧ (bringN N ps i j d l).place.length = l.place.length ∧ (bringN N ps i j d l).ops.length = l.ops.length + d ∧ (bringN N ps i j d l).swaps = l.swaps + d := by
  intro d
  induction d with
  | zero => intro l h1 h2 h3 h4 h5; exact ⟨h1, rfl, rfl, rfl⟩
  | succ d ih =>
    intro l hP hi hj hij hD
    obtain ⟨x, hx⟩ : ∃ x : Nat, l.place.getD i 0 = x := ⟨(l.place.getD i 0).toNat, by have := (hP.lo i hi).1; omega⟩
    obtain ⟨y, hy⟩ : ∃ y : Nat, l.place.getD j 0 = y := ⟨(l.place.getD j 0).toNat, by have := (hP.lo j hj).1; omega⟩
    have hxl : x < N := by have := hP.lo i hi; omega
    have hyl : y < N := by have := hP.lo j hj; omega
    have hxy : x ≠ y := fun e => hij (hP.inj i j hi hj (by omega))
    rw [hx, hy, Int.toNat_natCast, Int.toNat_natCast] at hD
    obtain ⟨hn1, hn2⟩ := hG.nxt hxl hyl hxy
    have hnN := (nbl_mem.1 hn1).1
    have hny : nxt N ps y x ≠ y := fun e => by
      have := (hG.zero hnN hyl).2 e
      omega
    have hpi : (l.swap x (nxt N ps y x)).place.getD i 0 = ((nxt N ps y x : Nat) : Int) := by
      show (swapPl _ _ _).getD i 0 = _
      rw [swapPl_get hi, hx]
      simp [swapF]
    have hpj : (l.swap x (nxt N ps y x)).place.getD j 0 = (y : Int) := by
      show (swapPl _ _ _).getD j 0 = _
      rw [swapPl_get hj, hy]
      unfold swapF
      rw [if_neg (by omega), if_neg (by omega)]
    have hlen : (l.swap x (nxt N ps y x)).place.length = l.place.length := swapPl_length _ _ _
    have hbr : bringN N ps i j (d + 1) l = bringN N ps i j d (l.swap x (nxt N ps y x)) := by
      show bringN N ps i j d (l.swap (l.place.getD i 0) _) = _
      rw [hx, hy, Int.toNat_natCast, Int.toNat_natCast]
    rw [hbr]
    obtain ⟨k1, k2, k3, k4⟩ := ih (l.swap x (nxt N ps y x)) (hP.swap ⟨by omega, by omega⟩ ⟨by omega, by omega⟩) (by omega) (by omega) hij (by rw [hpi, hpj, Int.toNat_natCast, Int.toNat_natCast, hn2]; omega)
    refine ⟨k1, by omega, ?_, ?_⟩
    · rw [k3]; simp only [LaidD.swap, List.length_append, List.length_singleton]; omega
    · rw [k4]; simp only [LaidD.swap]; omega
theorem iotaPl_ok {N n : Nat} (h : n ≤ N) : PlOk N (iotaPl n) := by
  have hg : ∀ i, i < n → (iotaPl n).getD i 0 = (i : Int) := fun i hi => by simp [iotaPl, hi]
  have hl : (iotaPl n).length = n := by simp [iotaPl]
  refine ⟨fun i hi => ?_, fun i j hi hj e => ?_⟩
  · rw [hg i (by omega)]; omega
  · rw [hg i (by omega), hg j (by omega)] at e; omega
/-- What holds of what is laid, on the way. -/
structure LaidOk (N : Nat) (c : CircD) (l : LaidD) (k : Nat) : Prop where
  pl : PlOk N l.place
  len : l.place.length = c.qubits.toNat
  lo : k ≤ l.ops.length
  sw : l.ops.length = k + l.swaps
theorem gate_qs {o : OpD} {n b : Int} (h : OpOk o n b) : Qs n o.qs := by
  unfold OpOk at h
  rcases h with h | h | h | h
  · exact h.2.2.2.1
  · exact h.2.2.2.2.2.1
  · exact h.2.2.2.2.2.1
  · exact h.2.2.2.2.2.1
theorem brought_ok {N : Nat} {ps : List (Nat × Nat)} (hG : Good N ps) {c : CircD} {l : LaidD} {k : Nat} {o : OpD} (hl : LaidOk N c l k) (hok : OpOk o c.qubits c.bits) (hq : 0 ≤ c.qubits) :
    PlOk N (broughtOp N ps o l).place ∧ (broughtOp N ps o l).place.length = c.qubits.toNat ∧ ∃ d, d ≤ 64 ∧ (broughtOp N ps o l).ops.length = l.ops.length + d ∧ (broughtOp N ps o l).swaps = l.swaps + d := by
  unfold broughtOp
  split
  · rename_i h
    obtain ⟨x, y, hxy, hx, hy, hne⟩ := two_qs (gate_qs hok) h.2
    have g0 : o.qs.getD 0 0 = (x : Int) := by rw [hxy]; rfl
    have g1 : o.qs.getD 1 0 = (y : Int) := by rw [hxy]; rfl
    rw [g0, g1, Int.toNat_natCast, Int.toNat_natCast]
    have hxl : x < l.place.length := by rw [hl.len]; omega
    have hyl : y < l.place.length := by rw [hl.len]; omega
    have p1 := hl.pl.lo x hxl
    have p2 := hl.pl.lo y hyl
    have hcn := hG.conn (l.place.getD x 0).toNat (l.place.getD y 0).toNat (by omega) (by omega)
    have hz : D N ps (l.place.getD x 0).toNat (l.place.getD y 0).toNat ≠ 0 := fun e => by
      have := (hG.zero (by omega) (by omega)).1 e
      exact hne (hl.pl.inj x y hxl hyl (by omega))
    have hN := hG.hN
    obtain ⟨k1, k2, k3, k4⟩ := bringN_inv hG (i := x) (j := y) (D N ps (l.place.getD x 0).toNat (l.place.getD y 0).toNat - 1).toNat l hl.pl hxl hyl hne (by omega)
    exact ⟨k1, by rw [k2]; exact hl.len, _, by omega, k3, k4⟩
  · exact ⟨hl.pl, hl.len, 0, by omega, rfl, rfl⟩
theorem laid_ok {N : Nat} {ps : List (Nat × Nat)} (hG : Good N ps) {c : CircD} (hC : CircOk c) (hq : c.qubits ≤ N) : ∀ k, k ≤ c.ops.length → LaidOk N c (laidAll N ps c k) k
  | 0, _ => by
    rw [laidAll_zero]
    exact ⟨iotaPl_ok (by have := hC.q0; omega), by simp [iotaPl], Nat.le_refl _, rfl⟩
  | k + 1, h => by
    have ih := laid_ok hG hC hq k (by omega)
    rw [laidAll_succ (by omega)]
    obtain ⟨h1, h2, d, -, h4, h5⟩ := brought_ok hG ih (hC.ok k (by omega)) hC.q0
    have := ih.sw
    have := ih.lo
    exact ⟨h1, h2, by simp only [layOp, List.length_append, List.length_singleton]; omega, by simp only [layOp, List.length_append, List.length_singleton]; omega⟩

/-! A copied circuit, from the front -/
inductive OpsS (cs : List AVal) (os : List OpD) : Nat → Hp → Prop where
  | done : OpsS cs os os.length []
  | more {k : Nat} {u : AVal} {B H : Hp} (hk : k < os.length) (hs : seg cs (0 + k * 6) 6 = some (opCells u (os.getD k default))) (hq : OwnI u (os.getD k default).qs B) (h : OpsS cs os (k + 1) H) : OpsS cs os k (B ++ H)
theorem OpsS.ext {cs : List AVal} {os : List OpD} {k : Nat} {H B : Hp} {u : AVal} {o : OpD} (hl : cs.length = os.length * 6) (h : OpsS cs os k H) (hq : OwnI u o.qs B) : OpsS (cs ++ opCells u o) (os ++ [o]) k (H ++ B) := by
  induction h with
  | done =>
    have e : (os ++ [o]).getD os.length default = o := by simp
    have := OpsS.more (cs := cs ++ opCells u o) (os := os ++ [o]) (k := os.length) (u := u) (B := B) (H := []) (by simp) (by
      rw [e, seg, if_pos (by simp [hl, opCells]), Nat.zero_add, ← hl, List.drop_left]
      simp [opCells]) (by rw [e]; exact hq) (by have := OpsS.done (cs := cs ++ opCells u o) (os := os ++ [o]); simpa using this)
    simpa using this
  | @more k u' B' H' hk hs hq' h ih =>
    have e : (os ++ [o]).getD k default = os.getD k default := by simp [List.getElem?_append_left hk]
    rw [List.append_assoc]
    refine .more (u := u') (by simp; omega) ?_ (by rw [e]; exact hq') ih
    rw [e]
    unfold seg at hs ⊢
    split at hs
    · rename_i hle
      rw [if_pos (by simp; omega), List.drop_append_of_le_length (by omega), List.take_append_of_le_length (by simp; omega)]
      exact hs
    · cases hs
theorem OpsB.front {cs : List AVal} {os : List OpD} {H : Hp} (h : OpsB cs os H) : OpsS cs os 0 H := by
  induction h with
  | nil => exact .done
  | snoc h hq hb ih => exact ih.ext h.one hq
end Go.Proofs.Ytfaphhcloanhnaa
namespace Go.Proofs.Ytfaphhcloanhnaa
open Go.Am Go.Dist
set_option maxRecDepth 4000
set_option maxHeartbeats 8000000
variable {E : Env} {L : Hp}
def midF (f : Int → Int) (l : List Int) (k : Nat) : List Int := (l.take k).map f ++ l.drop k
theorem midF_zero (f : Int → Int) (l : List Int) : midF f l 0 = l := by simp [midF]
theorem midF_all (f : Int → Int) (l : List Int) : midF f l l.length = l.map f := by simp [midF]
theorem midF_len (f : Int → Int) (l : List Int) (k : Nat) (h : k ≤ l.length) : (midF f l k).length = l.length := by simp [midF]; omega
theorem midF_get {f : Int → Int} {l : List Int} {k : Nat} (h : k < l.length) : (midF f l k).getD k 0 = l.getD k 0 := by
  have hl : ((l.take k).map f).length = k := by simp; omega
  simp only [midF, List.getD_eq_getElem?_getD]
  rw [List.getElem?_append_right (by omega), hl, Nat.sub_self, List.getElem?_drop, Nat.add_zero]
theorem midF_set {f : Int → Int} {l : List Int} {k : Nat} (h : k < l.length) : (midF f l k).set k (f (l.getD k 0)) = midF f l (k + 1) := by
  have hl : ((l.take k).map f).length = k := by simp; omega
  unfold midF
  rw [List.set_append_right _ _ (by omega), hl, Nat.sub_self, List.drop_eq_getElem_cons h, List.set_cons_zero, List.take_succ_eq_append_getElem h, List.map_append, List.append_assoc]
  have : l.getD k 0 = l[k] := by simp [h]
  rw [this]
  rfl
theorem lmove_l2 (hst28 : still E c_route_Route_r28 = true) {i14 iq il ip n m sw : Nat} {cap : Option Nat} {o : OpD} {ov : AVal} {pl : List Int} (hn : o.qs.length = n) (hlt : n ≤ 2000000) (hm : pl.length = m) (hqs : ∀ k, k < n → 0 ≤ o.qs.getD k 0 ∧ (o.qs.getD k 0).toNat < m) :
    ∀ (d k : Nat) (t : Tr AVal), d + k = n → t.get 11 = some (.ptr il 0) → t.get 14 = some (.ptr i14 0) → t.get 139 = some (.sl iq 0 n 1 cap) → t.get 140 = some (aint n) → t.get 141 = some (aint k) →
    WpO E (.loop c_route_Route_l2) t ((i14, opCells (.sl iq 0 n 1 cap) o) :: (iq, (midF (fun q => pl.getD q.toNat 0) o.qs k).map aint) :: (il, [ov, .sl ip 0 m 1 none, aint sw]) :: (ip, pl.map aint) :: L)
      (fun ex t' L' => ex = .exit 6 ∧ Keep [2, 3, 4, 9, 10, 11, 14, 70, 71, 72] t t' ∧ L' = (i14, opCells (.sl iq 0 n 1 cap) o) :: (iq, (o.qs.map fun q => pl.getD q.toNat 0).map aint) :: (il, [ov, .sl ip 0 m 1 none, aint sw]) :: (ip, pl.map aint) :: L) := by
  unfold opCells
  intro d
  induction d with
  | zero =>
    intro k t hk h11 h14 h139 h140 h141
    obtain rfl : k = n := by omega
    refine wo_loop ?_
    repeat (first | intro id | refine goq ?_)
    exact ⟨rfl, by exact keepq, by rw [← hn, midF_all]⟩
  | succ d ih =>
    intro k t hk h11 h14 h139 h140 h141
    have hkl : k < o.qs.length := by omega
    have hml := midF_len (fun q => pl.getD q.toNat 0) o.qs k (by omega)
    have hg := midF_get (f := fun q => pl.getD q.toNat 0) hkl
    have hst := midF_set (f := fun q => pl.getD q.toNat 0) hkl
    have hqk := hqs k (by omega)
    obtain ⟨x, hx⟩ : ∃ x : Nat, o.qs.getD k 0 = x := ⟨(o.qs.getD k 0).toNat, by omega⟩
    rw [hx] at hg hst hqk
    have hxm : x < pl.length := by omega
    have key : ∀ t2 : Tr AVal, Keep [2, 3, 4, 9, 10, 11, 14, 70, 71, 72] t t2 → t2.get 139 = some (.sl iq 0 n 1 cap) → t2.get 140 = some (aint n) → t2.get 141 = some (aint ((k + 1 : Nat) : Int)) →
      ∀ l, l = midF (fun q => pl.getD q.toNat 0) o.qs (k + 1) → WpO E (.loop c_route_Route_l2) t2 ((i14, [aint o.kind, aint o.gate, .sl iq 0 n 1 cap, aint o.bit, aint o.ifc, aint o.whn]) :: (iq, l.map aint) :: (il, [ov, .sl ip 0 m 1 none, aint sw]) :: (ip, pl.map aint) :: L)
      (fun ex t' L' => ex = .exit 6 ∧ Keep [2, 3, 4, 9, 10, 11, 14, 70, 71, 72] t t' ∧ L' = (i14, [aint o.kind, aint o.gate, .sl iq 0 n 1 cap, aint o.bit, aint o.ifc, aint o.whn]) :: (iq, (o.qs.map fun q => pl.getD q.toNat 0).map aint) :: (il, [ov, .sl ip 0 m 1 none, aint sw]) :: (ip, pl.map aint) :: L) := by
      intro t2 hK e2 e3 e4 l hl
      rw [hl]
      refine WpO.mono (ih (k + 1) t2 (by omega) ((hK.ex 11 rfl).trans h11) ((hK.ex 14 rfl).trans h14) e2 e3 e4) ?_
      rintro ex t' L' ⟨e1, e2, e3⟩
      exact ⟨e1, hK.trans e2, e3⟩
    generalize midF (fun q => pl.getD q.toNat 0) o.qs k = ml at *
    refine wo_loop ?_
    repeat (first | intro id | refine goq ?_)
    rw [hg]
    repeat (first | intro id | refine goq ?_)
    refine key _ (by exact keepq) ?_ ?_ ?_ _ ?_
    · exact slotq
    · exact slotq
    · exact slotq
    · rw [← hst, Int.toNat_natCast]
end Go.Proofs.Ytfaphhcloanhnaa
