/- RouteMetric: the walk. -/
import Derived.Test.YtfaphhcloanhnaaRtP2
import Derived.Test.YtfaphhcloanhnaaRtL2
import Derived.Test.YtfaphhcloanhnaaRtE3
set_option linter.unusedSimpArgs false
set_option linter.unusedVariables false
namespace Go.Proofs.Ytfaphhcloanhnaa
open Go.Am Go.Dist Go.Proofs
set_option maxRecDepth 4000
set_option maxHeartbeats 8000000
section
variable {E : Env} {L : Hp}
theorem Far_rows (hF : E.fns = fnsT) (hm : E.mode f_route_Far = .iso true)
    (hmC : E.mode f_route_Check = .iso false) (hmn : E.mode f_route_near = .iso true) (hms : E.mode f_slices_Sort_int_int = .known) (hk : E.known f_slices_Sort_int_int = knSort) (hmc : E.mode f_slices_Compact_int_int = .open_) (hmst : E.mode f_route_steps = .open_) (hmco : E.mode f_slices_Contains_int_int = .iso false) (hmix : E.mode f_slices_Index_int_int = .iso false) (hmf : E.mode f_route_far = .open_)
    {N : Int} {s : AVal} {ps : List (Int × Int)} (hs : SlP s ps) (hlt : ps.length ≤ 1000000) :
    CallO E f_route_Far [.agg [aint N, s]] L fun v L' => ((¬ RightP N ps ∧ v = .tup [anil, aint 200]) ∨ (RightP N ps ∧ ∃ d, v = .tup [d, aint 0] ∧ SlS d (dists N.toNat (npairs ps) N.toNat))) ∧ L' = L := by
  refine callO_iso1 (R := fun v => (¬ RightP N ps ∧ v = .tup [anil, aint 200]) ∨ (RightP N ps ∧ ∃ d, v = .tup [d, aint 0] ∧ SlS d (dists N.toNat (npairs ps) N.toNat))) hm (fns_of hF n_route_Far) ?_ ?_
  · simp only [List.all_cons, List.all_nil, bare_MapA ⟨s, rfl, hs⟩]; rfl
  have hs1 := hs.isOne
  refine bodyO_of (Nat.le_of_ble_eq_true rfl) ?_; generalize ht : argSlots _ 0 .nil = t; have h0 : t.get 0 = some _ := (by rw [← ht]; rfl); clear ht
  repeat (first | intro id | refine goq ?_)
  refine gok ?_
  refine (Check_ok hF hmC hmn hms hk hmc (stepsC_open hF hmst) hmco hmix hs hlt).mono ?_
  rintro u L' ⟨⟨e, rfl, he, he2⟩, rfl⟩
  rcases he2 with rfl | rfl
  · have hR := he.1 rfl
    obtain ⟨M, rfl⟩ : ∃ k : Nat, N = k := ⟨N.toNat, by have := hR.n1; omega⟩
    have hG := good_of hR
    have hnp := npairs_length ps
    repeat (first | intro id | refine goq ?_)
    refine gok ?_
    refine (near_ok hF hmn hms hk hmc hG.hN (npairs_lt hR.ok) (SlP_N hR.ok hs) (by omega)).mono ?_
    rintro nv L' ⟨hn, rfl⟩
    repeat (first | intro id | refine goq ?_)
    refine gok ?_
    refine (far_open hF hmf hmst hG.hN (npairs_lt hR.ok) hn).mono ?_
    rintro w L' ⟨B, hw, rfl⟩
    obtain ⟨u, hu, hv⟩ := hw.seen
    repeat (first | intro id | refine goq ?_)
    ((first | apply retO_r | apply retO_n); (focus (exact resq)))
    exact ⟨_, vo_tup (vl_cons (hv _ 60 (fun _ _ h => h.appl)) (vl_cons vo_sc vl_nil)), .inr ⟨hR, u, rfl, hu⟩⟩
  · have hR : ¬ RightP N ps := fun h => by have := he.2 h; omega
    repeat (first | intro id | refine goq ?_)
    ((first | apply retO_r | apply retO_n); (focus (exact resq)))
    exact ⟨_, vo_tup (vl_cons vo_sc (vl_cons vo_sc vl_nil)), .inl ⟨hR, rfl⟩⟩

/-- Are two places a pair, either way, of the first k? -/
def nearB (ps : List (Int × Int)) (a b : Int) (k : Nat) : Bool := (ps.take k).any fun p => p == (a, b) || p == (b, a)
theorem pair_beq (p : Int × Int) (a b : Int) : (p == (a, b)) = (p.1 == a && (p.2 == b && true)) := by
  cases p
  rw [Bool.and_true]
  rfl
theorem nearB_succ {ps : List (Int × Int)} {a b : Int} {k : Nat} (h : k < ps.length) : nearB ps a b (k + 1) = (nearB ps a b k || (ps.getD k (0, 0) == (a, b) || ps.getD k (0, 0) == (b, a))) := by
  unfold nearB
  rw [List.take_succ_eq_append_getElem h, List.any_append]
  simp [h]
theorem metric_l0 {N a b : Int} {s : AVal} {ps : List (Int × Int)} {i4 : Nat} (hs : SlP s ps) (hlt : ps.length ≤ 1000000) :
    ∀ (d k : Nat) (t : Tr AVal), d + k = ps.length → t.get 1 = some (aint a) → t.get 2 = some (aint b) → t.get 4 = some (.ptr i4 0) → t.get 11 = some (abool (nearB ps a b k)) → t.get 12 = some (aint k) →
    WpO E (.loop c_phasorlaw20_RouteMetric_l0) t ((i4, [aint N, s]) :: L) (fun ex t' L' => ex = .exit 0 ∧ Keep [1, 2, 3, 4, 9] t t' ∧ t'.get 11 = some (abool (nearB ps a b ps.length)) ∧ L' = (i4, [aint N, s]) :: L) := by
  have hs1 := hs.isOne
  intro d
  induction d with
  | zero =>
    intro k t hk h1 h2 h4 h11 h12
    obtain rfl : k = ps.length := by omega
    refine wo_loop ?_
    repeat (first | intro id | refine goq ?_)
    exact ⟨rfl, by exact keepq, by exact slotq, rfl⟩
  | succ d ih =>
    intro k t hk h1 h2 h4 h11 h12
    have hkl : k < ps.length := by omega
    have hsu := nearB_succ (a := a) (b := b) hkl
    have step : ∀ t2 : Tr AVal, Keep [1, 2, 3, 4, 9] t t2 → t2.get 11 = some (abool (nearB ps a b (k + 1))) → t2.get 12 = some (aint ((k + 1 : Nat) : Int)) → WpO E (.loop c_phasorlaw20_RouteMetric_l0) t2 ((i4, [aint N, s]) :: L) (fun ex t' L' => ex = .exit 0 ∧ Keep [1, 2, 3, 4, 9] t t' ∧ t'.get 11 = some (abool (nearB ps a b ps.length)) ∧ L' = (i4, [aint N, s]) :: L) := by
      intro t2 hK e11 e12
      refine WpO.mono (ih (k + 1) t2 (by omega) ((hK.ex 1 rfl).trans h1) ((hK.ex 2 rfl).trans h2) ((hK.ex 4 rfl).trans h4) e11 e12) ?_
      rintro ex t' L' ⟨e1, e2, e3, e4⟩
      exact ⟨e1, hK.trans e2, e3, e4⟩
    refine wo_loop ?_
    generalize hq : nearB ps a b k = q at *
    cases q with
    | true =>
      repeat (first | intro id | refine goq ?_)
      refine step _ (by exact keepq) ?_ (by exact slotq)
      rw [hsu]; exact slotq
    | false =>
      repeat (first | intro id | refine goq ?_)
      (refine oo_guard (by exact slotq) (fun hc => ?_) (fun hc => ?_) <;> (try simp only [hc]) <;> (try simp only [decide_eq_true_eq, decide_eq_false_iff_not, ne_eq, Decidable.not_not] at hc))
      · have hc1 := hc
        repeat (first | intro id | refine goq ?_)
        refine step _ (by exact keepq) ?_ (by exact slotq)
        rw [hsu, pair_beq, hc1]
        exact slotq
      · have hc1 := hc
        repeat (first | intro id | refine goq ?_)
        refine step _ (by exact keepq) ?_ (by exact slotq)
        rw [hsu, pair_beq, hc1, pair_beq, Bool.false_or, Bool.false_or]
        exact slotq
end
theorem mod_u64 (a : Int) (N : Nat) (h1 : 1 ≤ N) (h2 : N ≤ 64) : ∃ x : Nat, x < N ∧ IntKind.wrap .i64 (Int.tmod (IntKind.wrap .u64 a) (IntKind.wrap .u64 N)) = x := by
  have e1 : 0 ≤ IntKind.wrap .u64 a := by show 0 ≤ a % 18446744073709551616; omega
  have e2 : IntKind.wrap .u64 (N : Int) = N := by show (N : Int) % 18446744073709551616 = N; omega
  generalize IntKind.wrap .u64 a = y at e1
  obtain ⟨z, rfl⟩ : ∃ z : Nat, y = z := ⟨y.toNat, by omega⟩
  refine ⟨z % N, Nat.mod_lt _ h1, ?_⟩
  have : z % N < N := Nat.mod_lt _ h1
  rw [e2, ← Int.ofNat_tmod, wrap64 (by omega)]
theorem op_remU {t : Tr AVal} {m : Mem} {x y : Arg} {a b : Int} (hx : x.get t = some (.sc (.int .u64 a))) (hy : y.get t = some (.sc (.int .u64 b))) (h0 : b ≠ 0) : OpV t m (.bin .rem x y) (.sc (.int .u64 (Int.tmod a b))) m := ⟨by
  simp only [opVal, hx, hy, binS, binOp]
  simp only [ne_eq, not_true, if_false, Op.intDiv]
  rw [if_neg h0]
  rfl⟩
theorem pathFrom_len (N : Nat) (ps : List (Nat × Nat)) (b : Nat) : ∀ n a, (pathFrom N ps b n a).length = n
  | 0, _ => rfl
  | n + 1, a => by simp only [pathFrom, List.length_cons, pathFrom_len N ps b n]
theorem pathFrom_last {N b : Nat} {ps : List (Nat × Nat)} (hG : Good N ps) (hb : b < N) : ∀ (n : Nat) (a : Nat), a < N → D N ps a b = (n : Nat) → (a :: pathFrom N ps b n a).getD n 0 = b
  | 0, a, ha, h => by have := (hG.zero ha hb).1 h; subst this; rfl
  | n + 1, a, ha, h => by
    have hab : a ≠ b := by rintro rfl; have := (hG.zero ha ha).2 rfl; omega
    obtain ⟨hx1, hx2⟩ := hG.nxt ha hb hab
    have := pathFrom_last hG hb n (nxt N ps b a) (nbl_mem.1 hx1).1 (by rw [hx2]; omega)
    rw [pathFrom]
    exact this
theorem near_iff {M x y : Nat} {ps : List (Int × Int)} (h : okAll M ps) : nearB ps x y ps.length = true ↔ Adj (npairs ps) x y := by
  unfold nearB Adj npairs
  rw [List.take_length, List.any_eq_true]
  simp only [Bool.or_eq_true, beq_iff_eq, List.mem_map]
  have key : ∀ p ∈ ps, 0 ≤ p.1 ∧ 0 ≤ p.2 := by
    intro p hp
    obtain ⟨k, hk, e⟩ := List.getElem_of_mem hp
    have := h k hk
    simp only [List.getD_eq_getElem?_getD, List.getElem?_eq_getElem hk, Option.getD_some, e] at this
    unfold okP at this
    omega
  constructor
  · rintro ⟨p, hp, rfl | rfl⟩
    · exact .inl ⟨_, hp, rfl⟩
    · exact .inr ⟨_, hp, rfl⟩
  · rintro (⟨p, hp, e⟩ | ⟨p, hp, e⟩)
    · have := key p hp
      exact ⟨p, hp, .inl (by have h1 := congrArg Prod.fst e; have h2 := congrArg Prod.snd e; simp only at h1 h2; exact Prod.ext (by simp only; omega) (by simp only; omega))⟩
    · have := key p hp
      exact ⟨p, hp, .inr (by have h1 := congrArg Prod.fst e; have h2 := congrArg Prod.snd e; simp only at h1 h2; exact Prod.ext (by simp only; omega) (by simp only; omega))⟩
theorem metric_law {L : Hp} {N a b c : Int} {s : AVal} {ps : List (Int × Int)} (hs : SlP s ps) (hlt : ps.length ≤ 1000000) : CallO E3 f_phasorlaw20_RouteMetric [.agg [aint N, s], aint a, aint b, aint c] L fun v _ => v = abool true := by
  refine callO_open rfl n_phasorlaw20_RouteMetric ?_
  have hs1 := hs.isOne
  refine bodyO_of (Nat.le_of_ble_eq_true rfl) ?_; generalize ht : argSlots _ 0 .nil = t; have h0 : t.get 0 = some _ := (by rw [← ht]; rfl); have h1 : t.get 1 = some _ := (by rw [← ht]; rfl); have h2 : t.get 2 = some _ := (by rw [← ht]; rfl); have h3 : t.get 3 = some _ := (by rw [← ht]; rfl); clear ht
  repeat (first | intro id | refine goq ?_)
  refine gok ?_
  refine (Far_rows rfl rfl rfl rfl rfl rfl rfl rfl rfl rfl rfl hs hlt).mono ?_
  rintro u L' ⟨⟨hR, rfl⟩ | ⟨hR, dv, rfl, hd⟩, rfl⟩
  · repeat (first | intro id | refine goq ?_)
    refine gok ?_
    refine (num_ok rfl rfl _).mono ?_
    rintro u L' ⟨rfl, rfl⟩
    repeat (first | intro id | refine goq ?_)
    refine gok ?_
    refine (num_ok rfl rfl _).mono ?_
    rintro u L' ⟨rfl, rfl⟩
    repeat (first | intro id | refine goq ?_)
    refine gok ?_
    refine alive3_ok.mono ?_
    rintro u L' ⟨rfl, rfl⟩
    repeat (first | intro id | refine goq ?_)
    ((first | apply retO_r | apply retO_n); (focus (exact resq)))
    rfl
  · obtain ⟨M, rfl⟩ : ∃ k : Nat, N = k := ⟨N.toNat, by have := hR.n1; omega⟩
    have hG := good_of hR
    have hM1 := hR.n1
    have hM2 := hR.n2
    rw [Int.toNat_natCast] at hd
    obtain ⟨us, r1, r2, r3⟩ := hd.row
    rw [dists_length] at r1 r2 r3
    have dv1 := RowA.isOne r1
    have hu0 : IntKind.wrap .u64 (M : Int) ≠ 0 := by
      have : IntKind.wrap .u64 (M : Int) = M := by show (M : Int) % 18446744073709551616 = M; omega
      omega
    obtain ⟨x, hx, ex⟩ := mod_u64 a M (by omega) (by omega)
    obtain ⟨y, hy, ey⟩ := mod_u64 b M (by omega) (by omega)
    obtain ⟨z, hz, ez⟩ := mod_u64 c M (by omega) (by omega)
    repeat (first | intro id | refine goq ?_)
    refine gok ?_
    refine (num_ok rfl rfl _).mono ?_
    rintro u L' ⟨rfl, rfl⟩
    repeat (first | intro id | refine goq ?_)
    refine oo_p wanted_none (fun mm hmm => op_remU (by exact slotq) (by exact slotq) hu0) ?_
    repeat (first | intro id | refine goq ?_)
    rw [ex]
    refine oo_p wanted_none (fun mm hmm => op_remU (by exact slotq) (by exact slotq) hu0) ?_
    repeat (first | intro id | refine goq ?_)
    rw [ey]
    refine oo_p wanted_none (fun mm hmm => op_remU (by exact slotq) (by exact slotq) hu0) ?_
    refine oo_p wanted_none (fun mm hmm => op_conv (by exact slotq) rfl) ?_
    rw [ez]
    refine oo_p wanted_none (fun mm hmm => op_mov (by exact slotq)) ?_
    have g1 : ∀ t : Tr AVal, t.get 1 = some (.sc (.int .i64 (x : Int))) → t.get 1 = some (aint (x : Int)) := fun _ h => h
    ((first | apply genO7 (t0 := t) (js := []) 4 8 9 10 1 2 3 | apply genW7 (t0 := t) (js := []) 4 8 9 10 1 2 3); (focus exact keepq); (focus exact slotq); (focus exact slotq); (focus exact slotq); (focus exact slotq); (focus exact slotq); (focus exact slotq); (focus exact slotq); intro t gK g4 g8 g9 g10 g1 g2 g3)
    replace g1 : t.get 1 = some (aint (x : Int)) := g1
    replace g2 : t.get 2 = some (aint (y : Int)) := g2
    replace g3 : t.get 3 = some (aint (z : Int)) := g3
    have hN := hG.hN
    obtain ⟨ux, hx1, hx2⟩ := r3 x hx
    obtain ⟨uy, hy1, hy2⟩ := r3 y hy
    obtain ⟨uz, hz1, hz2⟩ := r3 z hz
    rw [dists_getD hx] at hx2
    rw [dists_getD hy] at hy2
    rw [dists_getD hz] at hz2
    have hx1' : (us.drop (x * 1))[0]? = some ux := by simpa using hx1
    have hy1' : (us.drop (y * 1))[0]? = some uy := by simpa using hy1
    have hz1' : (us.drop (z * 1))[0]? = some uz := by simpa using hz1
    have lx := dist_len M (npairs ps) x
    have ly := dist_len M (npairs ps) y
    have lz := dist_len M (npairs ps) z
    have f1 : (dist M (npairs ps) x).getD y 0 = (dist M (npairs ps) y).getD x 0 := sym_eq adj_sym hG.is hx hy
    have f2 := (hG.conn x y hx hy)
    have f3 := (hG.conn x z hx hz)
    have f4 := (hG.conn z y hz hy)
    have f5 := (hG.zero hx hy)
    unfold D at f2 f3 f4 f5
    have f6 := ((hG.is x hx).tri (hG.is z hz) hz f3.1 ((dist M (npairs ps) z).getD y 0).toNat y hy (by omega)).2
    have f7 : (dist M (npairs ps) x).getD y 0 = 1 ↔ nearB ps x y ps.length = true := by
      rw [near_iff hR.ok]
      exact one_iff (hG.is x hx) hx hy (fun hadj e => by
        subst e
        rcases hadj with h | h <;> exact npairs_ne hR.ok _ h rfl)
    repeat (first | intro id | refine goq ?_)
    refine WpO.mono (metric_l0 hs hlt ps.length 0 _ (by omega) (by exact slotq) (by exact slotq) (by exact slotq) (by exact slotq) (by exact slotq)) ?_
    rintro ex t1 L' ⟨rfl, hK, e11, rfl⟩
    have e1 : t1.get 1 = some (aint (x : Int)) := (hK.ex 1 rfl).trans (by exact slotq)
    have e2 : t1.get 2 = some (aint (y : Int)) := (hK.ex 2 rfl).trans (by exact slotq)
    have e3 : t1.get 3 = some (aint (z : Int)) := (hK.ex 3 rfl).trans (by exact slotq)
    have e4 : t1.get 4 = some (.ptr id 0) := (hK.ex 4 rfl).trans (by exact slotq)
    have e9 : t1.get 9 = some dv := (hK.ex 9 rfl).trans (by exact slotq)
    repeat (first | intro id | refine goq ?_)
    refine gok ?_
    refine (Path_ok rfl rfl rfl rfl rfl rfl rfl rfl rfl rfl rfl rfl rfl rfl rfl hs hlt).mono ?_
    rintro u L' ⟨⟨hu⟩, rfl⟩
    have hin : inR M x y := by unfold inR; omega
    rcases hu with ⟨hR', -⟩ | ⟨-, hi', -⟩ | ⟨-, -, va, rfl, hva⟩
    · exact (hR' hR).elim
    · exact (hi' hin).elim
    have va1 := RowA.isOne hva
    rw [Int.toNat_natCast, Int.toNat_natCast, Int.toNat_natCast] at hva
    obtain ⟨dn, hdn⟩ : ∃ dn : Nat, (dist M (npairs ps) x).getD y 0 = dn := ⟨((dist M (npairs ps) x).getD y 0).toNat, by omega⟩
    have q1 : (inat (pathL M (npairs ps) x y)).length = dn + 1 := by
      unfold pathL D
      rw [inat_length, List.length_cons, pathFrom_len, hdn]
      rfl
    have q2 : (inat (pathL M (npairs ps) x y)).getD 0 0 = x := rfl
    have q3 : (inat (pathL M (npairs ps) x y)).getD dn 0 = y := by
      have := pathFrom_last hG hy dn x hx hdn
      rw [inat_getD (by rw [inat_length] at q1; omega)]
      unfold pathL D
      rw [hdn]
      exact congrArg Nat.cast this
    have q4 : (inat (pathL M (npairs ps) x y)).getD ((inat (pathL M (npairs ps) x y)).length - 1) 0 = y := by rw [q1]; exact q3
    generalize hnb : nearB ps x y ps.length = nb at *
    generalize inat (pathL M (npairs ps) x y) = pl at *
    have fin : (x = y → nb = false) := fun h => by
      cases nb with
      | false => rfl
      | true => have := f7.2 rfl; have := f5.2 h; omega
    by_cases hxy : x = y
    · have hd0 := f5.2 hxy
      obtain rfl := fin hxy
      repeat (first | intro id | refine goq ?_)
      refine gok ?_
      refine (num_ok rfl rfl _).mono ?_
      rintro u L' ⟨rfl, rfl⟩
      repeat (first | intro id | refine goq ?_)
      refine gok ?_
      refine alive3_ok.mono ?_
      rintro u L' ⟨rfl, rfl⟩
      repeat (first | intro id | refine goq ?_)
      ((first | apply retO_r | apply retO_n); (focus (exact resq)))
      rfl
    · cases nb with
      | true =>
        have hd1 := f7.2 rfl
        repeat (first | intro id | refine goq ?_)
        refine gok ?_
        refine (num_ok rfl rfl _).mono ?_
        rintro u L' ⟨rfl, rfl⟩
        repeat (first | intro id | refine goq ?_)
        refine gok ?_
        refine alive3_ok.mono ?_
        rintro u L' ⟨rfl, rfl⟩
        repeat (first | intro id | refine goq ?_)
        ((first | apply retO_r | apply retO_n); (focus (exact resq)))
        rfl
      | false =>
        have hd1 : (dist M (npairs ps) x).getD y 0 ≠ 1 := fun h => by have := f7.1 h; cases this
        repeat (first | intro id | refine goq ?_)
        refine gok ?_
        refine (num_ok rfl rfl _).mono ?_
        rintro u L' ⟨rfl, rfl⟩
        repeat (first | intro id | refine goq ?_)
        refine gok ?_
        refine alive3_ok.mono ?_
        rintro u L' ⟨rfl, rfl⟩
        repeat (first | intro id | refine goq ?_)
        ((first | apply retO_r | apply retO_n); (focus (exact resq)))
        rfl
end Go.Proofs.Ytfaphhcloanhnaa
