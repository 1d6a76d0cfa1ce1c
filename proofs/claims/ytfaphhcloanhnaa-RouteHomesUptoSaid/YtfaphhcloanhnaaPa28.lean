/- Parts of the proof, joined by program: LaHI, LaLY, LaLZ, LaLB, LaLE, LaLH, LaLI, LaLJ, LaHR. -/
import Derived.Test.YtfaphhcloanhnaaPa26
import Derived.Test.YtfaphhcloanhnaaPa24
import Derived.Test.YtfaphhcloanhnaaPa27
import Derived.Test.YtfaphhcloanhnaaPa23
set_option linter.unusedSimpArgs false
set_option linter.unusedVariables false
namespace Go.Proofs.Ytfaphhcloanhnaa
open Go.Am Go.Dist
set_option maxRecDepth 4000
set_option maxHeartbeats 16000000
variable {E : Env} {L : Hp}
/-- What may not go home. -/
def HomeBad (N : Int) (c : CircD) (pl : List Int) : Prop := ¬ CircOk c ∨ c.qubits ≠ N ∨ ¬ Qs N pl
def homeW (N : Nat) (ps : List (Nat × Nat)) (c : CircD) (pl : List Int) (sw : Int) : Option LaidW := homeRun (parT N ps) (rkT N ps) (homeL (rkT N ps) N) ⟨c.ops, fullP pl N, sw⟩
/-- What Home tells, its rows in boxes. -/
structure HomeO (N : Int) (ps : List (Int × Int)) (c : CircD) (pl : List Int) (sw : Int) (v : AVal) (B : Hp) : Prop where
  ex : (¬ RightP N ps ∧ v = .tup [.agg zeroR, aint 200] ∧ B = []) ∨
    (RightP N ps ∧ (HomeBad N c pl ∨ homeW N.toNat (npairs ps) c pl sw = none) ∧ v = .tup [.agg zeroR, aint 201] ∧ B = []) ∨
    (RightP N ps ∧ ¬ HomeBad N c pl ∧ ∃ l ov ip, homeW N.toNat (npairs ps) c pl sw = some l ∧ LaidB l.d ov (.sl ip 0 N.toNat 1 none) B ∧ l.place.length = N.toNat ∧ v = .tup [.agg [aint N, aint c.bits, ov, .sl ip 0 pl.length 1 none, aint l.swaps], aint 0])
theorem homeL_congr {f g : Nat → Nat} {n : Nat} (h : ∀ p, p < n → f p = g p) : homeL f n = homeL g n := by
  unfold homeL
  have : ∀ d, (List.range n).reverse.filter (fun p => f p == d) = (List.range n).reverse.filter fun p => g p == d := fun d => by
    refine List.filter_congr fun p hp => ?_
    rw [h p (by simpa using hp)]
  simp only [this]
theorem rkOf_dist {N : Nat} {ps : List (Nat × Nat)} {p : Nat} (h : p < N) : rkOf (dist N ps 0) p = rkT N ps p := by
  unfold rkOf rkT D
  rw [if_pos h]
theorem knHome_run {m : Mem} {id n ifr fid : Nat} {cap fcap : Option Nat} {r : List Int} (h1 : m.cells id = some ((inat (List.range n)).map aint)) (h2 : m.cells ifr = some [.sl fid 0 n 1 fcap]) (h3 : m.cells fid = some (r.map aint)) (h0 : 0 < n) (hn : n ≤ 1000) (hl : r.length = n) (hr : ∀ x ∈ r, 0 ≤ x ∧ x ≤ (n : Int)) (hne1 : id ≠ ifr) (hne2 : id ≠ fid) :
    knHome [.sl id 0 n 1 cap, .fn (.func 53) [] [.ptr ifr 0]] m = some (.tup [], m.put id (some (.cells ((inat (homeL (rkOf r) n)).map aint)))) := by
  unfold knHome
  simp only [h1, h2, h3, intsOf_map]
  rw [if_pos]
  exact ⟨trivial, trivial, trivial, trivial, trivial, trivial, h0, hn, trivial, hl, trivial, hr, hne1, hne2⟩
theorem sortH_ok (hm : E.mode f_slices_SortFunc_int_int = .known) (hk : E.known f_slices_SortFunc_int_int = knHome) {io n i12 ifr : Nat} {cap fcap : Option Nat} {r : List Int} (h0 : 0 < n) (hn : n ≤ 1000) (hl : r.length = n) (hr : ∀ x ∈ r, 0 ≤ x ∧ x ≤ (n : Int)) :
    CallO E f_slices_SortFunc_int_int [.sl io 0 n 1 cap, .fn (.func f_route_Home_1) [] [.ptr i12 0]] ((io, (inat (List.range n)).map aint) :: (i12, [.sl ifr 0 n 1 fcap]) :: (ifr, r.map aint) :: L) fun v L' => v = .tup [] ∧ L' = (io, (inat (homeL (rkOf r) n)).map aint) :: (i12, [.sl ifr 0 n 1 fcap]) :: (ifr, r.map aint) :: L := by
  refine callO_known hm fun m ho => ?_
  have hnd := ho.nd
  simp only [List.map_cons, List.nodup_cons, List.mem_cons, not_or] at hnd
  refine ⟨.tup [], m.put io (some (.cells ((inat (homeL (rkOf r) n)).map aint))), _, ?_, ho.upd .here, rfl, rfl⟩
  rw [hk]
  exact knHome_run (ho.get .here) (ho.get (.next .here)) (ho.get (.next (.next .here))) h0 hn hl hr hnd.1.1 hnd.1.2.1
theorem fullP_zero (pl : List Int) : fullP pl 0 = pl := by simp [fullP, restP, inat]
theorem Own1.box {u : AVal} {l : List Int} {B : Hp} {n : Nat} (h : Own1 u l B) (hn : l.length = n) (h0 : 0 < n) : ∃ ip, u = .sl ip 0 n 1 none ∧ B = [(ip, l.map aint)] := by
  subst hn
  rcases h with ⟨-, rfl, -⟩ | ⟨ip, cap, rfl, ⟨rfl, -⟩ | rfl, rfl⟩
  · simp at h0
  · simp at h0
  · exact ⟨ip, rfl, rfl⟩
theorem shut_row {f : FuncId} {u : AVal} {l : List Int} (h : SlI u l) : Shut [] [.fn (.func f) [] [], u] := by
  rcases h with ⟨rfl, -, -⟩ | ⟨cap, rfl⟩
  · exact ⟨fun p hp => (List.not_mem_nil hp).elim, by simp [cloAll, AVal.clo, aint, anil], by simp [wtAll, AVal.wt, unseen, aint, anil], fun ids _ _ p hp => (List.not_mem_nil hp).elim⟩
  · exact ⟨fun p hp => (List.not_mem_nil hp).elim, by simp [cloAll, AVal.clo, aint], by simp [wtAll, AVal.wt, unseen, aint], fun ids _ _ p hp => (List.not_mem_nil hp).elim⟩
theorem Home_open (hF : E.fns = fnsT) (hK : KnownAbove E) (hA : CfAll E) (hmH : E.mode f_route_Home = .open_)
    (hm : E.mode f_route_laid_swap = .open_) (hms : E.mode f_route_swap = .fresh) (hst : still E c_route_laid_swap_r0 = true) (hst16 : still E c_route_Home_r16 = false) (hst34 : still E c_route_Home_r34 = true) (hst36 : still E c_route_Home_r36 = true) (hst38 : still E c_route_Home_r38 = true) (hst42 : still E c_route_Home_r42 = true) (hst48 : still E c_route_Home_r48 = true)
    (hmu : E.mode f_route_up = .open_) (hmi : E.mode f_slices_IndexFunc_int_int = .iso false) (hmp : E.mode f_route_up_1 = .iso false) (hst3 : still E c_route_up_r3 = true) (hst1 : still E c_route_up_1_r1 = true) (hm2 : E.mode f_route_Home_2 = .iso false) (hmr : E.mode f_slices_Reverse_int_int = .open_) (hstr : still E c_slices_Reverse_int_int_r2 = true)
    (hmC : E.mode f_route_Check = .iso false) (hmn : E.mode f_route_near = .iso true) (hmso : E.mode f_slices_Sort_int_int = .known) (hk : E.known f_slices_Sort_int_int = knSort) (hmc : E.mode f_slices_Compact_int_int = .open_) (hmst : E.mode f_route_steps = .open_) (hmco : E.mode f_slices_Contains_int_int = .iso false) (hmix : E.mode f_slices_Index_int_int = .iso false)
    (hmsf : E.mode f_slices_SortFunc_int_int = .known) (hkf : E.known f_slices_SortFunc_int_int = knHome)
    (hcC : E.mode f_circuit_Check = .iso false) (hmm : E.mode f_circuit_may = .iso false) (hmg : E.mode f_gate_Check = .iso false) (hma : E.mode f_gate_Arity = .iso false) (hmo : E.mode f_gate_of = .iso false) (hmt : E.mode f_gate_table = .iso false)
    (hmcp : E.mode f_circuit_Copy = .open_) (hmcl : E.mode f_slices_Clone_int_int = .open_)
    {N sw : Int} {s so sp : AVal} {ps : List (Int × Int)} {c : CircD} {pl : List Int} (hs : SlP s ps) (hlt : ps.length ≤ 1000000) (hops : OpsA so c.ops) (hsm : Small c) (hsp : SlI sp pl) (hpl : pl.length ≤ 1100000) :
    CallO E f_route_Home [.agg [aint c.qubits, aint c.bits, so, sp, aint sw], .agg [aint N, s]] L fun r L' => ∃ B, HomeO N ps c pl sw r B ∧ L' = B ++ L := by
  refine CallO.to (callO_open hmH (fns_of hF n_route_Home) ?_)
  have hs1 := hs.isOne
  have hv0 : CircA (.agg [aint c.qubits, aint c.bits, so]) c := ⟨so, rfl, hops⟩
  have hso1 : so.one = true := by obtain ⟨_, hr, -, -⟩ := hops; exact RowA.isOne hr
  have hsp1 := RowA.isOne hsp
  have spl : sliceLen sp = some pl.length := by
    rcases hsp with ⟨rfl, h0, -⟩ | ⟨cap, rfl⟩
    · rw [h0]; rfl
    · rfl
  have z1 : AVal.sc (Value.int .i64 0) = aint 0 := rfl
  have z2 : AVal.sc (Value.slice none 0 0) = anil := rfl
  refine bodyO_of (Nat.le_of_ble_eq_true rfl) ?_; generalize ht : argSlots _ 0 .nil = t; have h0 : t.get 0 = some _ := (by rw [← ht]; rfl); have h1 : t.get 1 = some _ := (by rw [← ht]; rfl); clear ht
  repeat (first | intro id | refine goq ?_)
  rename_i i2 i3
  simp only [z1, z2]
  refine gok ?_
  refine (Check_ok hF hmC hmn hmso hk hmc (stepsC_open hF hmst) hmco hmix hs hlt).mono ?_
  rintro u L' ⟨⟨e, rfl, he, he2⟩, rfl⟩
  rcases he2 with rfl | rfl
  · have hR := he.1 rfl
    obtain ⟨M, rfl⟩ : ∃ k : Nat, N = k := ⟨N.toNat, by have := hR.n1; omega⟩
    have hG := good_of hR
    have hN := hG.hN
    have h0N : 0 < M := by have := hR.n1; omega
    have hnp := npairs_length ps
    repeat (first | intro id | refine goq ?_)
    refine gok ?_
    refine (Check_okC hF hcC hmm hmg hma hmo hmt hmco hmix hv0).mono ?_
    rintro u L' ⟨⟨ie, e, rfl, hce⟩, rfl⟩
    rcases hce with ⟨rfl, hC⟩ | ⟨rfl, hC⟩
    · by_cases hq : c.qubits = M
      · by_cases hlen : (M : Int) < pl.length
        · repeat (first | intro id | refine goq ?_)
          ((first | apply retO_r | apply retO_n); (focus (exact resq)))
          exact ⟨L, by exact subq, [], ⟨.inr (.inl ⟨hR, .inl (.inr (.inr fun h => by have := Qs_len h; omega)), rfl, rfl⟩)⟩, rfl⟩
        · repeat (first | intro id | refine goq ?_)
          obtain ⟨i4, hi4⟩ : ∃ x, x = id := ⟨_, rfl⟩
          rw [← hi4] at *
          clear hi4
          refine WpO.weak (WpO.mono (home_l0 (L := L) (i2 := i2) (i3 := i3) (i4 := i4) (N := M) (s := s) (c0 := aint c.qubits) (c1 := aint c.bits) (c2 := so) (c4 := aint sw) hF hmco hmix hsp (by omega) pl.length 0 _ (by omega) ?_ ?_ ?_ ?_ ?_ ?_ (fun i hi => by omega)) ?_) ?_
          · exact slotq
          · exact slotq
          · exact slotq
          · exact slotq
          · exact slotq
          · exact slotq
          · rintro ex t1 L' ⟨hK1, rfl, ⟨rfl, hQs⟩ | ⟨rfl, k5, hQs⟩⟩
            · have g2 : t1.get 2 = some (.ptr i2 0) := (hK1.ex 2 rfl).trans (by exact slotq)
              have g3 : t1.get 3 = some (.ptr i3 0) := (hK1.ex 3 rfl).trans (by exact slotq)
              have g4 : t1.get 4 = some (.ptr i4 0) := (hK1.ex 4 rfl).trans (by exact slotq)
              clear hK1
              have hnb : ¬ HomeBad M c pl := by
                rintro (h | h | h)
                · exact h hC
                · exact h hq
                · exact h hQs
              repeat (first | intro id | refine goq ?_)
              refine gok ?_
              refine (near_ok hF hmn hmso hk hmc hG.hN (npairs_lt hR.ok) (SlP_N hR.ok hs) (by omega)).mono ?_
              rintro nv L' ⟨hn, rfl⟩
              have nv1 : nv.one = true := by obtain ⟨us, h1, -, -⟩ := hn; exact RowA.isOne h1
              repeat (first | intro id | refine goq ?_)
              refine gok ?_
              refine (steps_open (src := 0) (adj := Adj (npairs ps)) hF hmst hN h0N (nbs_length _ _) hn (fun a ha b => by rw [nbs_getD ha]; exact nbl_mem) ?_).mono ?_
              · intro a
                by_cases ha : a < M
                · rw [nbs_getD ha]
                  have := nbl_len M (npairs ps) a
                  omega
                · simp [nbs, ha]
              rintro v L' ⟨ifr, r, rfl, hd, rfl⟩
              have hrd : r = dist M (npairs ps) 0 := hd.unique (dist_is hG.lt (by omega))
              subst hrd
              repeat (first | intro id | refine goq ?_)
              obtain ⟨i12, hi12⟩ : ∃ x, x = id := ⟨_, rfl⟩
              rw [← hi12] at *
              clear hi12
              refine gok ?_
              refine (CCopy_open hF hmcp hmcl hv0 hsm).mono ?_
              rintro r L' ⟨B, hB, rfl⟩
              obtain ⟨so2, cs, Bs, H, rfl, hb, hob, hlt2, rfl⟩ := hB
              have so21 := hb.isOne
              repeat (first | intro id | refine goq ?_)
              obtain ⟨i13, hi13⟩ : ∃ x, x = id := ⟨_, rfl⟩
              rw [← hi13] at *
              clear hi13
              refine wo_drawn hst16 ?_
              intro nx
              repeat (refine goz ?_)
              refine dro_fresh fun hfr0 => ?_
              have hlt2 : i2 < nx := hfr0.2 (i2, [aint c.qubits, aint c.bits, so, sp, aint sw]) (by simp)
              refine dro_callO hA (b1 := []) (b2 := []) (vs := [sp]) (Lc := []) (J := fun r L' => Own1 r pl L') (argAll_cons rfl (argAll_cons (by exact rslotq) argAll_nil)) (Rem.here (B := [])) (shut_row hsp) ((Clone_own1 hF hmcl hsp (by omega)).mono fun v L' ⟨B, h1, h2⟩ => by rw [h2, List.append_nil]; exact h1) ?_ ?_
              · intro ids wr hi hnm hfr
                have he : ∀ i, i ∉ ids := fun i hi => by
                  obtain ⟨p, hp, -⟩ := hnm i hi
                  cases hp
                repeat (first | exact apart_nil | (apply apart_bit; (focus decide)) | (refine apart_not (by decide) (any_sep (fun i _ => he i) _) (any_none _ _) ?_))
              rintro pv Pb ids wr hi hpv hnm hle
              obtain rfl : ids = [] := by
                cases ids with
                | nil => rfl
                | cons a r =>
                  obtain ⟨p, hp, -⟩ := hnm a (by simp)
                  cases hp
              have pv1 := hpv.isOne
              repeat (refine goz ?_)
              refine dro_op hA (Lc := []) (ids0 := []) (J := fun v L' => ∃ il, v = .ptr il 0 ∧ L' = [(il, [so2, pv, aint sw])]) (Rem.here (B := [])) (fun h => rfl) ⟨fun i hi => (List.not_mem_nil hi).elim, fun p hp => (List.not_mem_nil hp).elim⟩ ?_ (fun ids wr hi hnm hfr => by exact aptq) ?_
              · refine oo_boxA wanted_none (by exact slotq) (all_one_cons so21 (all_one_cons pv1 (all_one_cons rfl all_one_nil))) ?_
                intro il
                exact oo_nil ⟨_, by exact slotq, il, rfl, rfl⟩
              rintro v L' ids2 wr2 hi2 ⟨il, rfl, rfl⟩ - -
              repeat (refine goz ?_)
              repeat (first | intro id | refine goq ?_)
              have hrk : homeL (rkOf (dist M (npairs ps) 0)) M = homeL (rkT M (npairs ps)) M := homeL_congr fun p hp => rkOf_dist hp
              have hol : (homeL (rkT M (npairs ps)) M).length = M := by rw [(homeL_perm (rkT_le hG h0N)).length_eq, List.length_range]
              have hdl := dist_len M (npairs ps) 0
              have hdr : ∀ x ∈ dist M (npairs ps) 0, 0 ≤ x ∧ x ≤ (M : Int) := fun x hx => by
                obtain ⟨k, hk, e⟩ := List.getElem_of_mem hx
                have := hG.conn 0 k h0N (by omega)
                unfold D at this
                have e2 : (dist M (npairs ps) 0).getD k 0 = x := by simp [hk, e]
                rw [e2] at this
                omega
              have hfl := fullP_N hQs
              refine WpO.weak (WpO.mono (home_l1 (L := (i13, [aint c.qubits, aint c.bits, so2]) :: (Bs ++ (H ++ ((i12, [.sl ifr 0 M 1 (some M)]) :: (ifr, (dist M (npairs ps) 0).map aint) :: (i4, zeroR) :: L)))) (i2 := i2) (il := il) (c0 := aint c.qubits) (c1 := aint c.bits) (c2 := so) (c4 := aint sw) (ov := so2) (sw := aint sw) (N := M) hF hmco hmix hsp (by omega) hN so21 rfl M 0 _ pv Pb (by omega) (by rw [fullP_zero]; exact hpv) ?_ ?_ ?_ ?_) ?_) ?_
              · exact slotq
              · exact slotq
              · exact slotq
              · exact slotq
              · rintro ex t2 L' ⟨rfl, hK2, pv', Pb', hpv', rfl⟩
                have k2 : t2.get 2 = some (.ptr i2 0) := (hK2.ex 2 rfl).trans (by exact slotq)
                have k4 : t2.get 4 = some (.ptr i4 0) := (hK2.ex 4 rfl).trans (by exact slotq)
                have k11 : t2.get 11 = some nv := (hK2.ex 11 rfl).trans (by exact slotq)
                have k12 : t2.get 12 = some (.ptr i12 0) := (hK2.ex 12 rfl).trans (by exact slotq)
                have k13 : t2.get 13 = some (.ptr i13 0) := (hK2.ex 13 rfl).trans (by exact slotq)
                have k14 : t2.get 14 = some (.ptr il 0) := (hK2.ex 14 rfl).trans (by exact slotq)
                clear hK2
                obtain ⟨ip, rfl, rfl⟩ := hpv'.box hfl h0N
                repeat (first | intro id | refine goq ?_)
                refine gok ?_
                refine (CloneN_open hF hmcl (l := fullP pl M) (by exact inq) hfl.symm h0N (by omega)).mono ?_
                rintro r L' ⟨io, rfl, rfl⟩
                repeat (first | intro id | refine goq ?_)
                refine WpO.weak (WpO.mono (home_l2 (io := io) (cap := none) (l := fullP pl M) (L := (i2, [aint c.qubits, aint c.bits, so, sp, aint sw]) :: (il, [so2, .sl ip 0 M 1 none, aint sw]) :: (ip, (fullP pl M).map aint) :: (i13, [aint c.qubits, aint c.bits, so2]) :: (Bs ++ (H ++ ((i12, [.sl ifr 0 M 1 (some M)]) :: (ifr, (dist M (npairs ps) 0).map aint) :: (i4, zeroR) :: L)))) hfl (by omega) M 0 _ (by omega) ?_ ?_ ?_) ?_) ?_
                · exact slotq
                · exact slotq
                · exact slotq
                · rintro ex t3 L' ⟨rfl, hK3, rfl⟩
                  have q2 : t3.get 2 = some (.ptr i2 0) := (hK3.ex 2 rfl).trans (by exact slotq)
                  have q4 : t3.get 4 = some (.ptr i4 0) := (hK3.ex 4 rfl).trans (by exact slotq)
                  have q11 : t3.get 11 = some nv := (hK3.ex 11 rfl).trans (by exact slotq)
                  have q12 : t3.get 12 = some (.ptr i12 0) := (hK3.ex 12 rfl).trans (by exact slotq)
                  have q13 : t3.get 13 = some (.ptr i13 0) := (hK3.ex 13 rfl).trans (by exact slotq)
                  have q14 : t3.get 14 = some (.ptr il 0) := (hK3.ex 14 rfl).trans (by exact slotq)
                  have q16 : t3.get 16 = some (.sl io 0 M 1 none) := (hK3.ex 16 rfl).trans (by exact slotq)
                  clear hK3
                  repeat (first | intro id | refine goq ?_)
                  refine gok ?_
                  refine CallO.weak (CallO.mono (sortH_ok (L := (i2, [aint c.qubits, aint c.bits, so, sp, aint sw]) :: (il, [so2, .sl ip 0 M 1 none, aint sw]) :: (ip, (fullP pl M).map aint) :: (i13, [aint c.qubits, aint c.bits, so2]) :: (Bs ++ (H ++ ((i4, zeroR) :: L)))) hmsf hkf (io := io) (i12 := i12) (ifr := ifr) (cap := none) (fcap := some M) h0N (by omega) hdl hdr) ?_) (by exact subq)
                  rintro v L' ⟨rfl, rfl⟩
                  rw [hrk]
                  repeat (first | intro id | refine goq ?_)
                  have hB0 : LaidB (LaidW.d ⟨c.ops, fullP pl M, sw⟩) so2 (.sl ip 0 M 1 none) (Bs ++ (H ++ [(ip, (fullP pl M).map aint)])) := by
                    have hbx : BufO 1 (.sl ip 0 M 1 none) ((fullP pl M).map aint) M [(ip, (fullP pl M).map aint)] := .box (by simp [hfl]) (all_one_ints _)
                    refine ⟨cs, Bs, H, _, hb, hob, ?_, hsm.ops, by simp only [LaidW.d]; omega, rfl⟩
                    simp only [LaidW.d]
                    rw [hfl]
                    exact hbx
                  have hhw : homeW M (npairs ps) c pl sw = homeRun (parT M (npairs ps)) (rkT M (npairs ps)) ((homeL (rkT M (npairs ps)) M).drop 0) ⟨c.ops, fullP pl M, sw⟩ := rfl
                  have hordN : ∀ p ∈ homeL (rkT M (npairs ps)) M, p < M := fun p hp => by
                    have := (homeL_perm (rkT_le hG h0N)).mem_iff.1 hp
                    simpa using this
                  generalize homeL (rkT M (npairs ps)) M = ord at *
                  refine WpO.re (WpO.weak (WpO.mono (home_l4 (L := (i2, [aint c.qubits, aint c.bits, so, sp, aint sw]) :: (i13, [aint c.qubits, aint c.bits, so2]) :: L) (il := il) (io := io) (i12 := i12) (ifr := ifr) (i4 := i4) (cap := none) hF hK hm hms hst hst34 hst36 hst38 hst42 hmu hmi hmp hst3 hst1 hm2 hmco hmix hmr hstr hG hn hordN (by omega) ord.length 0 _ ⟨c.ops, fullP pl M, sw⟩ so2 _ _ (by omega) hB0 hC.len (fullP_ok hQs) hfl ?_ ?_ ?_ ?_ ?_ ?_ ?_) ?_) ?_)
                  · exact slotq
                  · exact slotq
                  · exact slotq
                  · exact slotq
                  · rw [hol]
                    exact slotq
                  · rw [hol]
                    exact slotq
                  · exact slotq
                  · rintro ex t' L' (⟨rfl, hK', l', ov', pv'', B', hrun, hB', hpl', hsub⟩ | ⟨rfl, e4, e5, hrun, hsub⟩)
                    · have r2 : t'.get 2 = some (.ptr i2 0) := (hK'.ex 2 rfl).trans (by exact slotq)
                      have r4 : t'.get 4 = some (.ptr i4 0) := (hK'.ex 4 rfl).trans (by exact slotq)
                      have r13 : t'.get 13 = some (.ptr i13 0) := (hK'.ex 13 rfl).trans (by exact slotq)
                      have r14 : t'.get 14 = some (.ptr il 0) := (hK'.ex 14 rfl).trans (by exact slotq)
                      refine ⟨_, hsub, blkO.x (seqO.n ?_)⟩
                      have hB1 := hB'
                      obtain ⟨cs1, Bs1, H1, Pb1, hb1, ho1, hp1, -, -, rfl⟩ := hB'
                      have ov1 := hb1.isOne
                      have pv1' := hp1.isOne
                      have hpM : l'.d.place.length = M := hpl'
                      rw [hpM] at hp1
                      rcases bufInv hp1 with ⟨-, -, h0, -⟩ | ⟨ip2, rfl, rfl⟩
                      · omega
                      have hple := Qs_len hQs
                      unfold zeroR
                      repeat (first | intro id | refine goq ?_)
                      have hfl2 : fillA [aint 0, aint 0, anil, anil, aint 0] [(0, 3, .agg [aint c.qubits, aint c.bits, ov']), (3, 1, .sl ip2 0 pl.length 1 none), (4, 1, aint l'.swaps)] = some [aint c.qubits, aint c.bits, ov', .sl ip2 0 pl.length 1 none, aint l'.swaps] := by
                        refine fillA_agg rfl (by simp) (all_one_cons rfl (all_one_cons rfl (all_one_cons ov1 all_one_nil))) ?_
                        show fillA [aint c.qubits, aint c.bits, ov', anil, aint 0] _ = _
                        refine fillA_one rfl (by simp) ?_
                        refine fillA_one rfl (by simp) ?_
                        rfl
                      refine oo_p wanted_none (fun mm hmm => op_build (argParts_cons (v := .agg [aint c.qubits, aint c.bits, ov']) ?_ (argParts_cons (v := .sl ip2 0 pl.length 1 none) ?_ (argParts_cons (v := aint l'.swaps) ?_ argParts_nil))) hfl2) ?_
                      · exact slotq
                      · exact slotq
                      · exact slotq
                      repeat (first | intro id | refine goq ?_)
                      ((first | apply retO_r | apply retO_n); (focus (exact resq)))
                      refine ⟨(Bs1 ++ (H1 ++ [(ip2, l'.d.place.map aint)])) ++ L, ?_, _, ⟨.inr (.inr ⟨hR, hnb, l', ov', ip2, by rw [Int.toNat_natCast, hhw]; exact hrun, by rw [Int.toNat_natCast]; exact hB1, by rw [Int.toNat_natCast]; exact hpl', by rw [hq]; rfl⟩)⟩, rfl⟩
                      simp only [List.append_assoc]
                      exact subq
                    · refine ⟨_, hsub, .r (.r ?_)⟩
                      have r4 : t'.get 4 = some (.ptr i4 0) := e4.trans (by exact slotq)
                      unfold zeroR
                      ((first | apply retO_r | apply retO_n); (focus (exact resq)))
                      exact ⟨L, by exact subq, [], ⟨.inr (.inl ⟨hR, .inr (by rw [Int.toNat_natCast, hhw]; exact hrun), rfl, rfl⟩)⟩, rfl⟩
                  · simp only [List.append_assoc, List.cons_append, List.nil_append]
                    exact subq
                · rw [fillO_zero]
                  exact subq
              · simp only [List.append_eq, List.append_assoc, List.cons_append, List.nil_append]
                exact subq
            · refine .r (.r ?_)
              have g4 : t1.get 4 = some (.ptr i4 0) := (hK1.ex 4 rfl).trans (by exact slotq)
              unfold zeroR
              ((first | apply retO_r | apply retO_n); (focus (exact resq)))
              exact ⟨L, by exact subq, [], ⟨.inr (.inl ⟨hR, .inl (.inr (.inr hQs)), rfl, rfl⟩)⟩, rfl⟩
          · unfold zeroR
            exact subq
      · repeat (first | intro id | refine goq ?_)
        ((first | apply retO_r | apply retO_n); (focus (exact resq)))
        exact ⟨L, by exact subq, [], ⟨.inr (.inl ⟨hR, .inl (.inr (.inl hq)), rfl, rfl⟩)⟩, rfl⟩
    · repeat (first | intro id | refine goq ?_)
      ((first | apply retO_r | apply retO_n); (focus (exact resq)))
      exact ⟨L, by exact subq, [], ⟨.inr (.inl ⟨hR, .inl (.inl hC), rfl, rfl⟩)⟩, rfl⟩
  · have hR : ¬ RightP N ps := fun h => by have := he.2 h; omega
    repeat (first | intro id | refine goq ?_)
    ((first | apply retO_r | apply retO_n); (focus (exact resq)))
    exact ⟨L, by exact subq, [], ⟨.inl ⟨hR, rfl, rfl⟩⟩, rfl⟩
end Go.Proofs.Ytfaphhcloanhnaa
namespace Go.Proofs.Ytfaphhcloanhnaa
open Go.Am
set_option maxRecDepth 4000
set_option maxHeartbeats 8000000
variable {E : Env} {L : Hp}
end Go.Proofs.Ytfaphhcloanhnaa
namespace Go.Proofs.Ytfaphhcloanhnaa
open Go.Am Go.Dist
set_option maxRecDepth 4000
set_option maxHeartbeats 8000000
variable {E : Env} {L : Hp}
end Go.Proofs.Ytfaphhcloanhnaa
namespace Go.Proofs.Ytfaphhcloanhnaa
open Go.Am Go.Dist
set_option maxRecDepth 4000
set_option maxHeartbeats 16000000
variable {E : Env} {L : Hp}
end Go.Proofs.Ytfaphhcloanhnaa
namespace Go.Proofs.Ytfaphhcloanhnaa
open Go.Am Go.Dist
set_option maxRecDepth 4000
set_option maxHeartbeats 8000000
variable {E : Env} {L : Hp}
end Go.Proofs.Ytfaphhcloanhnaa
namespace Go.Proofs.Ytfaphhcloanhnaa
open Go.Am Go.Dist
set_option maxRecDepth 4000
set_option maxHeartbeats 8000000
variable {E : Env} {L : Hp}
end Go.Proofs.Ytfaphhcloanhnaa
namespace Go.Proofs.Ytfaphhcloanhnaa
open Go.Am Go.Dist
set_option maxRecDepth 4000
set_option maxHeartbeats 16000000
variable {E : Env} {L : Hp}
def RL3post (N : Nat) (ps : List (Nat × Nat)) (c : CircD) (il i2 i4 : Nat) (nq nb : Int) (so : AVal) (t : Tr AVal) (L : Hp) (ex : Ex) (t' : Tr AVal) (L' : Hp) : Prop :=
  (ex = .exit 2 ∧ Keep [2, 3, 4, 7] t t' ∧ ¬ WideC c ∧ (laidAll N ps c c.ops.length).ops.length ≤ 1000000 ∧ ∃ ov pv B, LaidB (laidAll N ps c c.ops.length) ov pv B ∧ Am.Sub ((il, [aint nq, aint nb, ov, pv, aint (laidAll N ps c c.ops.length).swaps]) :: (B ++ ((i2, [aint c.qubits, aint c.bits, so]) :: (i4, zeroR) :: L))) L') ∨
  (ex = .ret ∧ t'.get 4 = t.get 4 ∧ t'.get 5 = some (aint 201) ∧ WideC c ∧ Am.Sub ((i4, zeroR) :: L) L')
theorem RL3post.keep {N : Nat} {ps : List (Nat × Nat)} {c : CircD} {il i2 i4 : Nat} {nq nb : Int} {so : AVal} {t t1 : Tr AVal} {ex : Ex} {t' : Tr AVal} {L' : Hp} (hK : Keep [2, 3, 4, 7] t t1) (h : RL3post N ps c il i2 i4 nq nb so t1 L ex t' L') : RL3post N ps c il i2 i4 nq nb so t L ex t' L' := by
  rcases h with ⟨h1, h2, h3⟩ | ⟨h1, h2, h3⟩
  · exact .inl ⟨h1, hK.trans h2, h3⟩
  · exact .inr ⟨h1, h2.trans (hK.ex 4 rfl), h3⟩
end Go.Proofs.Ytfaphhcloanhnaa
namespace Go.Proofs.Ytfaphhcloanhnaa
open Go.Am Go.Dist
set_option maxRecDepth 4000
set_option maxHeartbeats 16000000
variable {E : Env} {L : Hp}
theorem OpsB.viewA {n : Nat} {s : AVal} {cs : List AVal} {os : List OpD} {Bs H M : Hp} (hb : BufO 6 s cs n Bs) (ho : OpsB cs os H) (hn : n = os.length) (hlt : os.length < 2 ^ 62) (k : Nat) (hM : ∀ id c, In id c (Bs ++ H) → In id c M) : ∃ u, ViewO M (k + 3) s u ∧ OpsA u os := by
  subst hn
  obtain ⟨us, h1, h2⟩ := ho.view k fun id c hi => hM id c hi.app
  have hlen := hb.length
  rcases bufInv hb with ⟨rfl, rfl, e, rfl⟩ | ⟨id, rfl, rfl⟩
  · have h3 := h2.length
    rw [e] at h3
    have h4 : us = [] := List.eq_nil_of_length_eq_zero (by simpa using h3)
    exact ⟨anil, vo_sc, us, .inl ⟨rfl, e, h4⟩, h2, hlt⟩
  · exact ⟨_, vo_sl (hM _ _ (In.appl .here)) (seg_full hlen) h1, us, .inr ⟨none, rfl⟩, h2, hlt⟩
theorem LaidB.view {l : LaidD} {ov pv : AVal} {B M : Hp} (h : LaidB l ov pv B) (k : Nat) (hM : ∀ id c, In id c B → In id c M) : ∃ ou pu, ViewO M (k + 3) ov ou ∧ ViewO M (k + 3) pv pu ∧ OpsA ou l.ops ∧ SlI pu l.place := by
  obtain ⟨cs, Bs, H, Pb, hb, ho, hp, hol, hpl, rfl⟩ := h
  obtain ⟨ou, h1, h2⟩ := OpsB.viewA (M := M) hb ho rfl (by omega) k (fun id c hi => hM id c (by rw [← List.append_assoc]; exact hi.appl))
  obtain ⟨pu, h3, h4⟩ := hp.view (L := M) (k := k + 1) (fun id c hi => hM id c (by rw [← List.append_assoc]; exact hi.app)) (sc_ints _)
  exact ⟨ou, pu, h1, h3, h2, h4⟩
/-- What Route tells, in rows that stay. -/
def RoutedA (N : Int) (ps : List (Int × Int)) (c : CircD) (v : AVal) : Prop :=
  (¬ RightP N ps ∧ v = .tup [.agg zeroR, aint 200]) ∨ (RightP N ps ∧ ¬ CircOk c ∧ v = .tup [.agg zeroR, aint 80]) ∨
    (RightP N ps ∧ CircOk c ∧ (N < c.qubits ∨ WideC c ∨ 4096 < (laidC N ps c).ops.length) ∧ v = .tup [.agg zeroR, aint 201]) ∨
    (RightP N ps ∧ CircOk c ∧ c.qubits ≤ N ∧ ¬ WideC c ∧ (laidC N ps c).ops.length ≤ 4096 ∧ ∃ ov pv, v = .tup [.agg [aint N, aint c.bits, ov, pv, aint (laidC N ps c).swaps], aint 0] ∧ OpsA ov (laidC N ps c).ops ∧ SlI pv (laidC N ps c).place)
theorem vo_zeroR {e : Int} {M : Hp} : ViewO M 64 (.tup [.agg zeroR, aint e]) (.tup [.agg zeroR, aint e]) :=
  vo_tup (vl_cons (vo_agg (vl_cons vo_sc (vl_cons vo_sc (vl_cons vo_sc (vl_cons vo_sc (vl_cons vo_sc vl_nil)))))) (vl_cons vo_sc vl_nil))
end Go.Proofs.Ytfaphhcloanhnaa
namespace Go.Proofs.Ytfaphhcloanhnaa
open Go.Am Go.Dist
set_option maxRecDepth 4000
set_option maxHeartbeats 8000000
variable {E : Env} {L : Hp}
theorem among_l0 {v : AVal} {l : List Int} {x : Int} (hv : SlI v l) (hlt : l.length < 2 ^ 62) :
    ∀ (d k : Nat) (t : Tr AVal), d + k = l.length → t.get 0 = some v → t.get 1 = some (aint x) → t.get 5 = some (aint k) → (∀ j, j < k → l.getD j 0 ≠ x) →
    WpO E (.loop c_phasorref20_among_l0) t L (fun ex t' L' => L' = L ∧ ((ex = .exit 0 ∧ x ∉ l) ∨ (ex = .ret ∧ t'.get 4 = some (abool true) ∧ x ∈ l))) := by
  intro d
  induction d with
  | zero =>
    intro k t hk h0 h1 h5 hno
    obtain rfl : k = l.length := by omega
    refine wo_loop ?_
    repeat (first | intro id | refine goq ?_)
    refine ⟨rfl, .inl ⟨rfl, fun hm => ?_⟩⟩
    obtain ⟨j, hj, e⟩ := List.getElem_of_mem hm
    exact hno j hj (by simp [hj, e])
  | succ d ih =>
    intro k t hk h0 h1 h5 hno
    refine wo_loop ?_
    by_cases c : l.getD k 0 = x
    · repeat (first | intro id | refine goq ?_)
      refine ⟨rfl, .inr ⟨rfl, by exact slotq, ?_⟩⟩
      rw [← c]
      have : k < l.length := by omega
      simp [this]
    · repeat (first | intro id | refine goq ?_)
      refine ih (k + 1) _ (by omega) (by exact slotq) (by exact slotq) (by exact slotq) fun j hj => ?_
      by_cases e : j = k
      · subst e; exact c
      · exact hno j (by omega)
theorem among_ok (hF : E.fns = fnsT) (hm : E.mode f_phasorref20_among = .iso false) {v w : AVal} {l : List Int} {x : Int} (hw : ViewsO L [w, aint x] [v, aint x]) (hv : SlI v l) (hlt : l.length < 2 ^ 62) :
    CallO E f_phasorref20_among [w, aint x] L fun r L' => r = abool (decide (x ∈ l)) ∧ L' = L := by
  refine callO_iso0 hm (fns_of hF n_phasorref20_among) hw ?_
  refine bodyO_of (Nat.le_of_ble_eq_true rfl) ?_; generalize ht : argSlots _ 0 .nil = t; have h0 : t.get 0 = some _ := (by rw [← ht]; rfl); have h1 : t.get 1 = some _ := (by rw [← ht]; rfl); clear ht
  repeat (first | intro id | refine goq ?_)
  refine WpO.mono (among_l0 (L := []) (x := x) hv hlt l.length 0 _ (by omega) ?_ ?_ ?_ (fun j hj => by omega)) ?_
  · exact slotq
  · exact slotq
  · exact slotq
  rintro ex t' L' ⟨rfl, ⟨rfl, hx⟩ | ⟨rfl, g4, hx⟩⟩
  · repeat (first | intro id | refine goq ?_)
    ((first | apply retO_r | apply retO_n); (focus (exact resq)))
    exact ⟨rfl, by rw [decide_eq_false hx]; rfl⟩
  · repeat (first | intro id | refine goq ?_)
    ((first | apply retO_r | apply retO_n); (focus (exact resq)))
    exact ⟨rfl, by rw [decide_eq_true hx]; rfl⟩
theorem apart_l0 {v : AVal} {qs : List Int} {n : Int} (hst : still E c_phasorref20_apart_r7 = true) (hq : SlI v qs) {i : Nat} (hi : i < qs.length) (hlt : qs.length < 2 ^ 62) :
    ∀ (d k : Nat) (t : Tr AVal), d + k = i → t.get 0 = some v → t.get 5 = some (aint i) → t.get 6 = some (aint k) → (∀ j, j < k → qs.getD j 0 ≠ qs.getD i 0) →
    WpO E (.loop c_phasorref20_apart_l0) t L (fun ex t' L' => L' = L ∧ ((ex = .exit 2 ∧ Keep [0, 1, 5] t t' ∧ (∀ j, j < i → qs.getD j 0 ≠ qs.getD i 0)) ∨ (ex = .ret ∧ t'.get 4 = some (abool false) ∧ ¬ (∀ j, j < i → qs.getD j 0 ≠ qs.getD i 0)))) := by
  intro d
  induction d with
  | zero =>
    intro k t hk h0 h5 h6 hok
    obtain rfl : k = i := by omega
    refine wo_loop ?_
    repeat (first | intro id | refine goq ?_)
    exact ⟨rfl, .inl ⟨rfl, by exact keepq, hok⟩⟩
  | succ d ih =>
    intro k t hk h0 h5 h6 hok
    refine wo_loop ?_
    by_cases c : qs.getD k 0 = qs.getD i 0
    · repeat (first | intro id | refine goq ?_)
      exact ⟨rfl, .inr ⟨rfl, by exact slotq, fun h => h k (by omega) c⟩⟩
    · repeat (first | intro id | refine goq ?_)
      refine WpO.mono (ih (k + 1) _ (by omega) (by exact slotq) (by exact slotq) (by exact slotq) ?_) ?_
      · intro j hj
        by_cases e : j = k
        · subst e; exact c
        · exact hok j (by omega)
      · rintro ex t' L' ⟨e0, ⟨e1, e2, e3⟩ | h⟩
        · exact ⟨e0, .inl ⟨e1, Keep.trans (by exact keepq) e2, e3⟩⟩
        · exact ⟨e0, .inr h⟩
theorem apart_l1 {v : AVal} {qs : List Int} {n : Int} (hst : still E c_phasorref20_apart_r7 = true) (hq : SlI v qs) (hlt : qs.length < 2 ^ 62) :
    ∀ (d k : Nat) (t : Tr AVal), d + k = qs.length → t.get 0 = some v → t.get 1 = some (aint n) → t.get 5 = some (aint k) → (∀ i, i < k → okAt n qs i) →
    WpO E (.loop c_phasorref20_apart_l1) t L (fun ex t' L' => L' = L ∧ ((ex = .exit 0 ∧ Qs n qs) ∨ (ex = .ret ∧ t'.get 4 = some (abool false) ∧ ¬ Qs n qs))) := by
  intro d
  induction d with
  | zero =>
    intro k t hk h0 h1 h5 hok
    obtain rfl : k = qs.length := by omega
    refine wo_loop ?_
    repeat (first | intro id | refine goq ?_)
    exact ⟨rfl, .inl ⟨rfl, hok⟩⟩
  | succ d ih =>
    intro k t hk h0 h1 h5 hok
    have hkl : k < qs.length := by omega
    have hbad : ¬ okAt n qs k → ¬ Qs n qs := fun h hh => h (hh k hkl)
    refine wo_loop ?_
    by_cases c1 : qs.getD k 0 < 0
    · repeat (first | intro id | refine goq ?_)
      exact ⟨rfl, .inr ⟨rfl, by exact slotq, hbad fun h => by have := h.1; omega⟩⟩
    by_cases c2 : n ≤ qs.getD k 0
    · repeat (first | intro id | refine goq ?_)
      exact ⟨rfl, .inr ⟨rfl, by exact slotq, hbad fun h => by have := h.2.1; omega⟩⟩
    repeat (first | intro id | refine goq ?_)
    refine WpO.mono (apart_l0 (n := n) hst hq hkl hlt k 0 _ (by omega) ?_ ?_ ?_ (fun j hj => by omega)) ?_
    · exact slotq
    · exact slotq
    · exact slotq
    rintro ex t' L' ⟨rfl, ⟨rfl, hK, hno⟩ | ⟨rfl, g4, hno⟩⟩
    · have g0 : t'.get 0 = some v := (hK.ex 0 rfl).trans (by exact slotq)
      have g1 : t'.get 1 = some (aint n) := (hK.ex 1 rfl).trans (by exact slotq)
      have g5 : t'.get 5 = some (aint k) := (hK.ex 5 rfl).trans (by exact slotq)
      repeat (first | intro id | refine goq ?_)
      exact ih (k + 1) _ (by omega) (by exact slotq) (by exact slotq) (by exact slotq) (Qs_snoc hok ⟨by omega, by omega, hno⟩)
    · repeat (first | intro id | refine goq ?_)
      exact ⟨rfl, .inr ⟨rfl, by exact slotq, hbad fun h => hno h.2.2⟩⟩
theorem apart_ok (hF : E.fns = fnsT) (hm : E.mode f_phasorref20_apart = .iso false) (hst : still E c_phasorref20_apart_r7 = true) {v w : AVal} {l : List Int} {n : Int} (hw : ViewsO L [w, aint n] [v, aint n]) (hv : SlI v l) (hlt : l.length < 2 ^ 62) :
    CallO E f_phasorref20_apart [w, aint n] L fun r L' => (∃ x, r = abool x ∧ (x = true ↔ Qs n l)) ∧ L' = L := by
  refine callO_iso0 (R := fun r => ∃ x, r = abool x ∧ (x = true ↔ Qs n l)) hm (fns_of hF n_phasorref20_apart) hw ?_
  refine bodyO_of (Nat.le_of_ble_eq_true rfl) ?_; generalize ht : argSlots _ 0 .nil = t; have h0 : t.get 0 = some _ := (by rw [← ht]; rfl); have h1 : t.get 1 = some _ := (by rw [← ht]; rfl); clear ht
  repeat (first | intro id | refine goq ?_)
  refine WpO.mono (apart_l1 (L := []) (n := n) hst hv hlt l.length 0 _ (by omega) ?_ ?_ ?_ (fun j hj => by omega)) ?_
  · exact slotq
  · exact slotq
  · exact slotq
  rintro ex t' L' ⟨rfl, ⟨rfl, hx⟩ | ⟨rfl, g4, hx⟩⟩
  · repeat (first | intro id | refine goq ?_)
    ((first | apply retO_r | apply retO_n); (focus (exact resq)))
    exact ⟨rfl, true, rfl, by simp [hx]⟩
  · repeat (first | intro id | refine goq ?_)
    ((first | apply retO_r | apply retO_n); (focus (exact resq)))
    exact ⟨rfl, false, rfl, by simp [hx]⟩
theorem parent_ok (hF : E.fns = fnsT) (hm : E.mode f_phasorref20_parent = .iso false) (hms : E.mode f_phasorref20_step = .iso false) {N a : Nat} {ps : List (Nat × Nat)} {dv : AVal} (hG : Good N ps) (hne : ∀ p ∈ ps, p.1 ≠ p.2) (ha : a < N) (hp0 : a ≠ 0) (hd : SlS dv (dists N ps N)) :
    CallO E f_phasorref20_parent [dv, aint a] L fun r L' => r = aint ((parT N ps a : Nat) : Int) ∧ L' = L := by
  have e : parT N ps a = nxt N ps 0 a := by unfold parT; rw [if_pos ha]
  rw [e]
  refine callO_iso0 hm (fns_of hF n_phasorref20_parent) (vs_bare hd.bare (vs_bare rfl vs_nil)) ?_
  have hd1 : dv.one = true := by obtain ⟨us, h1, -, -⟩ := hd; exact RowA.isOne h1
  refine bodyO_of (Nat.le_of_ble_eq_true rfl) ?_; generalize ht : argSlots _ 0 .nil = t; have h0 : t.get 0 = some _ := (by rw [← ht]; rfl); have h1 : t.get 1 = some _ := (by rw [← ht]; rfl); clear ht
  repeat (first | intro id | refine goq ?_)
  refine gok ?_
  refine (step_ok (b := 0) hF hms hG hne ha (by omega) hp0 hd).mono ?_
  rintro r L' ⟨rfl, rfl⟩
  repeat (first | intro id | refine goq ?_)
  ((first | apply retO_r | apply retO_n); (focus (exact resq)))
  exact ⟨rfl, rfl⟩
theorem next_l0 (hF : E.fns = fnsT) (hmp : E.mode f_phasorref20_parent = .iso false) (hms : E.mode f_phasorref20_step = .iso false) {N a : Nat} {ps : List (Nat × Nat)} {dv : AVal} (hG : Good N ps) (hne : ∀ p ∈ ps, p.1 ≠ p.2) (ha : a < N) (hd : SlS dv (dists N ps N)) :
    ∀ (n p last : Nat) (t : Tr AVal), p < N → rkT N ps p = n → (a = 0 → p = 0 ∨ a ∈ upL (parT N ps) (rkT N ps) p) → t.get 0 = some dv → t.get 1 = some (aint a) → t.get 7 = some (aint last) → t.get 8 = some (aint p) →
    WpO E (.loop c_phasorref20_next_l0) t L (fun ex t' L' => L' = L ∧ ex = .ret ∧ t'.get 6 = some (aint ((nxF (parT N ps) a (upL (parT N ps) (rkT N ps) p) last : Nat) : Int))) := by
  have hd1 : dv.one = true := by obtain ⟨us, h1, -, -⟩ := hd; exact RowA.isOne h1
  have h0N : 0 < N := by omega
  have hT := tree_ok hG h0N
  intro n
  induction n with
  | zero =>
    intro p last t hp hr hz h0 h1 h7 h8
    have hp0 := hT.zero p hr
    subst hp0
    rw [upL_zero hT]
    refine wo_loop ?_
    by_cases c : a = 0
    · subst c
      repeat (first | intro id | refine goq ?_)
      refine ⟨rfl, rfl, ?_⟩
      have : nxF (parT N ps) 0 [0] last = last := by simp [nxF]
      rw [this]
      exact slotq
    · have e : nxF (parT N ps) a [0] last = parT N ps a := by unfold nxF; rw [if_neg (fun e => c e.symm), if_pos rfl]
      repeat (first | intro id | refine goq ?_)
      refine gok ?_
      refine (parent_ok hF hmp hms hG hne ha c hd).mono ?_
      rintro r L' ⟨rfl, rfl⟩
      repeat (first | intro id | refine goq ?_)
      refine ⟨rfl, rfl, ?_⟩
      rw [e]
      exact slotq
  | succ n ih =>
    intro p last t hp hr hz h0 h1 h7 h8
    have hp0 : p ≠ 0 := by
      rintro rfl
      have := hT.rk0
      omega
    have hnx := hT.next p hp0
    have hpar : parT N ps p < N := by
      unfold parT
      rw [if_pos hp]
      exact (nbl_mem.1 (hG.nxt hp h0N hp0).1).1
    rw [upL_cons hT hp0]
    refine wo_loop ?_
    by_cases c : p = a
    · have e : nxF (parT N ps) a (p :: upL (parT N ps) (rkT N ps) (parT N ps p)) last = last := by unfold nxF; rw [if_pos c]
      repeat (first | intro id | refine goq ?_)
      refine ⟨rfl, rfl, ?_⟩
      rw [e]
      exact slotq
    · have e : nxF (parT N ps) a (p :: upL (parT N ps) (rkT N ps) (parT N ps p)) last = nxF (parT N ps) a (upL (parT N ps) (rkT N ps) (parT N ps p)) p := by
        show (if p = a then last else if p = 0 then parT N ps a else nxF (parT N ps) a (upL (parT N ps) (rkT N ps) (parT N ps p)) p) = _
        rw [if_neg c, if_neg hp0]
      repeat (first | intro id | refine goq ?_)
      refine gok ?_
      refine (parent_ok hF hmp hms hG hne hp hp0 hd).mono ?_
      rintro r L' ⟨rfl, rfl⟩
      repeat (first | intro id | refine goq ?_)
      rw [e]
      refine ih (parT N ps p) p _ hpar (by omega) (fun h => .inr (h ▸ zero_mem hT _)) ?_ ?_ ?_ ?_
      · exact slotq
      · exact slotq
      · exact slotq
      · exact slotq
theorem next_ok (hF : E.fns = fnsT) (hm : E.mode f_phasorref20_next = .iso false) (hmp : E.mode f_phasorref20_parent = .iso false) (hms : E.mode f_phasorref20_step = .iso false) {N a b : Nat} {ps : List (Nat × Nat)} {dv : AVal} (hG : Good N ps) (hne : ∀ p ∈ ps, p.1 ≠ p.2) (ha : a < N) (hb : b < N) (hd : SlS dv (dists N ps N)) :
    CallO E f_phasorref20_next [dv, aint a, aint b] L fun r L' => r = aint ((nxtT (parT N ps) (rkT N ps) a b : Nat) : Int) ∧ L' = L := by
  refine callO_iso0 hm (fns_of hF n_phasorref20_next) (vs_bare hd.bare (vs_bare rfl (vs_bare rfl vs_nil))) ?_
  have hd1 : dv.one = true := by obtain ⟨us, h1, -, -⟩ := hd; exact RowA.isOne h1
  refine bodyO_of (Nat.le_of_ble_eq_true rfl) ?_; generalize ht : argSlots _ 0 .nil = t; have h0 : t.get 0 = some _ := (by rw [← ht]; rfl); have h1 : t.get 1 = some _ := (by rw [← ht]; rfl); have h2 : t.get 2 = some _ := (by rw [← ht]; rfl); clear ht
  repeat (first | intro id | refine goq ?_)
  refine WpO.mono (next_l0 (L := []) hF hmp hms hG hne ha hd (rkT N ps b) b b _ hb rfl (fun h => .inr (h ▸ zero_mem (tree_ok hG (by omega)) _)) ?_ ?_ ?_ ?_) ?_
  · exact slotq
  · exact slotq
  · exact slotq
  · exact slotq
  rintro ex t' L' ⟨rfl, rfl, g6⟩
  repeat (first | intro id | refine goq ?_)
  ((first | apply retO_r | apply retO_n); (focus (exact resq)))
  exact ⟨rfl, rfl⟩
end Go.Proofs.Ytfaphhcloanhnaa
