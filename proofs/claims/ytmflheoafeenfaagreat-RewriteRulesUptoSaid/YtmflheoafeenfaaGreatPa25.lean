/- Parts of the proof, joined by program: RwU1, RwT2, RwU2. -/
import Derived.Test.YtmflheoafeenfaaGreatPa12
import Derived.Test.YtmflheoafeenfaaGreatPa24
import Derived.Test.YtmflheoafeenfaaGreatPa11
import Derived.Test.YtmflheoafeenfaaGreatPa10
set_option linter.unusedSimpArgs false
set_option linter.unusedVariables false
namespace Go.Proofs.YtmflheoafeenfaaGreat
open Go.Am
set_option maxRecDepth 4000
set_option maxHeartbeats 8000000
section
variable {E : Env} {L L' : Hp} {t : Tr AVal} {K : Tr AVal → Hp → Prop} {l : List AO} {g : Option (Option Nat × Bool)} {n d : Nat} {x y z w : Arg} {bytes id off off2 k esz j i : Nat} {cap cap2 : Option Nat} {cs c2 old nw : List AVal} {m : Mem}
/-- Part of a box is appended to a slice without room. -/
theorem oo_appendFS (hg : wantedA t g = some true) (hx : x.get t = some (.sl id off k esz (some k))) (hi : In id cs L) (hs : seg cs off (k * esz) = some old) (ho : old.all AVal.one = true) (hy : y.get t = some (.sl i off2 j esz cap)) (hj : In i c2 L) (hs2 : seg c2 off2 (j * esz) = some nw) (h0 : 0 < j) (h1 : nw.all AVal.one = true) (hr1 : (k + j) * bytes ≤ 140737488355328) (hr2 : k + j ≤ 140737488355328)
    (h : ∀ id2, OpsO E l (t.set d (some (.sl id2 0 (k + j) esz none))) ((id2, old ++ nw) :: L) K) : OpsO E (⟨some d, .append esz bytes x y, g, n⟩ :: l) t L K := ⟨fun m hm => by
  have hsc : sliceCells m esz j (.sl i off2 j esz cap) = some nw := by
    simp only [sliceCells, if_true, hm.get hj]
    exact hs2
  exact ops_s hg (op_append hx hy (.full (hm.get hi) hs) rfl hsc h0 hr1 hr2 h1 ho) ((h m.next).ex _ hm.new)⟩
theorem op_appendT {b : AVal} {n' : Nat} (hx : x.get t = some (.sl id off k esz none)) (hy : y.get t = some b) (hc : m.cells id = some cs) (hs : seg cs off (k * esz) = some old) (hl : sliceLen b = some n') (hb : sliceCells m esz n' b = some nw) (h0 : 0 < n') (hr : (k + n') * bytes ≤ 140737488355328) (hr' : k + n' ≤ 140737488355328) (h1 : nw.all AVal.one = true) (h2 : old.all AVal.one = true) :
    OpV t m (.append esz bytes x y) (.sl m.next 0 (k + n') esz none) ((m.put id none).new (.cells (old ++ nw ++ cs.drop (off + (k + n') * esz)))) := ⟨by
  have hoc : sliceCells m esz k (.sl id off k esz none) = some old := by simp only [sliceCells, if_true, hc, hs]
  have hk : sliceLen (.sl id off k esz none) = some k := rfl
  simp only [opVal, hx, hy, hk, hl, hoc, hb]
  rw [if_neg (by omega), if_pos ⟨hr, hr', h1, h2⟩]
  simp only [reduceCtorEq, if_false, if_true, hc]⟩
/-- A slice's box is written behind a part of it by another part of it. -/
theorem oo_appendT (hg : wantedA t g = some true) (hx : x.get t = some (.sl id off k esz none)) (hr : Rem [(id, cs)] L L') (hs : seg cs off (k * esz) = some old) (ho : old.all AVal.one = true) (hy : y.get t = some (.sl id off2 j esz cap2)) (hs2 : seg cs off2 (j * esz) = some nw) (h0 : 0 < j) (h1 : nw.all AVal.one = true) (hr1 : (k + j) * bytes ≤ 140737488355328) (hr2 : k + j ≤ 140737488355328)
    (h : ∀ id2, OpsO E l (t.set d (some (.sl id2 0 (k + j) esz none))) ((id2, old ++ nw ++ cs.drop (off + (k + j) * esz)) :: L') K) : OpsO E (⟨some d, .append esz bytes x y, g, n⟩ :: l) t L K := ⟨fun m hm => by
  have hc := hm.get hr.inO
  have hsc : sliceCells m esz j (.sl id off2 j esz cap2) = some nw := by
    simp only [sliceCells, if_true, hc]
    exact hs2
  have hm' := hm.perm hr.perm
  exact ops_s hg (op_appendT hx hy hc hs rfl hsc h0 hr1 hr2 h1 ho) ((h m.next).ex _ (Ows.new (Ows.drop hm')))⟩
theorem op_slice3 {lo hi : Nat} (hx : x.get t = some (.sl id off k esz none)) (hy : y.get t = some (aint lo)) (hz : z.get t = some (aint hi)) (hw : w.get t = some (aint k)) (hl : lo ≤ hi) (hh : hi ≤ k) : OpV t m (.slice esz x (some y) (some z) (some w)) (.sl id (off + lo * esz) (hi - lo) esz (some (k - lo))) m := ⟨by
  have u1 : upTo k none (hi : Int) = true := by simp [upTo]; omega
  have u2 : upTo k none (k : Int) = true := by simp [upTo]
  simp only [opVal, hx, hy, hz, hw, argOpt, AVal.int?, aint, Option.map_some, bounds3, u1, u2, if_true]
  rw [if_pos ⟨by omega, trivial⟩]
  simp only
  rw [if_pos ⟨by omega, by simp, trivial⟩]
  simp only
  rw [if_pos ⟨by omega, by omega⟩]
  simp⟩
theorem op_sliceB1 {lo hi : Nat} (hx : x.get t = some (.sl id off k esz none)) (hc : m.cells id = some cs) (hy : y.get t = some (aint lo)) (hz : z.get t = some (aint hi)) (hl : lo ≤ hi) (hh : off + hi * esz ≤ cs.length) : OpV t m (.sliceB esz x y z) (.sl id (off + lo * esz) (hi - lo) esz none) m := ⟨by
  simp only [opVal, hx, hy, hz, AVal.int?, aint, Option.bind_some, if_true, hc]
  rw [if_pos ⟨by omega, by omega, .inr (by simpa using hh)⟩]
  simp⟩
theorem oo_sliceB1 {lo hi : Nat} (hg : wantedA t g = some true) (hx : x.get t = some (.sl id off k esz none)) (hi' : In id cs L) (hy : y.get t = some (aint lo)) (hz : z.get t = some (aint hi)) (hl : lo ≤ hi) (hh : off + hi * esz ≤ cs.length) (h : OpsO E l (t.set d (some (.sl id (off + lo * esz) (hi - lo) esz none))) L K) : OpsO E (⟨some d, .sliceB esz x y z, g, n⟩ :: l) t L K := oo_p hg (fun mm hmm => op_sliceB1 hx (hmm.get hi') hy hz hl hh) h
end
variable {L : Hp}
theorem CloneOp_open {cs tl : List AVal} {n ic : Nat} {cap : Option Nat} (hn : cs.length = n * 6) (hone : cs.all AVal.one = true) (hpos : 0 < n) (hlt : n ≤ 1000000) (hi : In ic (cs ++ tl) L) : CallO ER f_slices_Clone_api_Op_api_Op [.sl ic 0 n 6 cap] L fun r L' => ∃ id, r = .sl id 0 n 6 none ∧ L' = (id, cs) :: L := by
  refine CallO.to (callO_open rfl n_slices_Clone_api_Op_api_Op ?_)
  have hs : seg (cs ++ tl) 0 (n * 6) = some cs := by
    unfold seg
    rw [if_pos (by simp; omega), List.drop_zero, ← hn, List.take_left]
  refine bodyO_of (Nat.le_of_ble_eq_true rfl) ?_; generalize ht : argSlots _ 0 .nil = t; have h0 : t.get 0 = some _ := (by rw [← ht]; rfl); clear ht
  repeat (first | intro id | refine goq ?_)
  refine oo_appendFS wanted_none (by exact slotq) .here (old := []) rfl rfl (by exact slotq) (.next hi) hs hpos hone (by omega) (by omega) ?_
  intro id2
  repeat (first | intro id | refine goq ?_)
  ((first | apply retO_r | apply retO_n); (focus (exact resq)))
  exact ⟨(id2, cs) :: L, by exact subq, id2, by simp [resultV], rfl⟩
theorem zeroOp_seg {cs : List AVal} {n : Nat} {tl : List AVal} (hn : cs.length = n * 6) (ht : tl.length = 6) : putSeg (cs ++ tl) (n * 6) [.sc (.int .i64 0), .sc (.int .i64 0), .sc (.slice none 0 0), .sc (.int .i64 0), .sc (.int .i64 0), .sc (.int .i64 0)] = cs ++ [.sc (.int .i64 0), .sc (.int .i64 0), .sc (.slice none 0 0), .sc (.int .i64 0), .sc (.int .i64 0), .sc (.int .i64 0)] := by
  unfold putSeg
  rw [← hn, List.take_left, List.drop_of_length_le (by simp [ht]), List.append_nil]
theorem all_one_take {cs : List AVal} (h : cs.all AVal.one = true) (k : Nat) : (cs.take k).all AVal.one = true := by
  rw [List.all_eq_true] at h ⊢
  exact fun x hx => h x (List.mem_of_mem_take hx)
theorem all_one_drop {cs : List AVal} (h : cs.all AVal.one = true) (k : Nat) : (cs.drop k).all AVal.one = true := by
  rw [List.all_eq_true] at h ⊢
  exact fun x hx => h x (List.mem_of_mem_drop hx)
theorem Delete_open {cs : List AVal} {n j ic : Nat} (hst : still ER c_slices_Delete_api_Op_api_Op_r5 = true) (hn : cs.length = n * 6) (hone : cs.all AVal.one = true) (hj : j < n) (hlt : n ≤ 1000000) : CallO ER f_slices_Delete_api_Op_api_Op [.sl ic 0 n 6 none, aint j, aint ((j : Int) + 1)] ((ic, cs) :: L) fun r L' => ∃ id tl, r = .sl id 0 (n - 1) 6 none ∧ L' = (id, (cs.take (j * 6) ++ cs.drop ((j + 1) * 6)) ++ tl) :: L := by
  refine CallO.to (callO_open rfl n_slices_Delete_api_Op_api_Op ?_)
  have s1 : seg cs 0 (j * 6) = some (cs.take (j * 6)) := by
    unfold seg
    rw [if_pos (by omega), List.drop_zero]
  have s2 : seg cs (0 + (j + 1) * 6) ((n - (j + 1)) * 6) = some (cs.drop ((j + 1) * 6)) := by
    unfold seg
    rw [if_pos (by omega), Nat.zero_add, List.take_of_length_le (by simp; omega)]
  have e1 : ((j : Int) + 1) = ((j + 1 : Nat) : Int) := by omega
  rw [e1]
  refine bodyO_of (Nat.le_of_ble_eq_true rfl) ?_; generalize ht : argSlots _ 0 .nil = t; have h0 : t.get 0 = some _ := (by rw [← ht]; rfl); have h1 : t.get 1 = some _ := (by rw [← ht]; rfl); have h2 : t.get 2 = some _ := (by rw [← ht]; rfl); clear ht
  repeat (first | intro id | refine goq ?_)
  refine oo_p wanted_none (fun mm hmm => op_slice3 (by exact slotq) (by exact slotq) (by exact slotq) (by exact slotq) (by omega) (by omega)) ?_
  repeat (first | intro id | refine goq ?_)
  by_cases hlast : j + 1 = n
  · have e2 : n - (j + 1) = 0 := by omega
    have e3 : cs.drop ((j + 1) * 6) = [] := List.drop_of_length_le (by rw [hn, hlast]; exact Nat.le_refl _)
    have e4 : n - 1 = j := by omega
    rw [e3, List.append_nil, e4]
    obtain ⟨ca, cb, rfl, hca⟩ : ∃ ca cb, cs = ca ++ cb ∧ ca.length = j * 6 := ⟨cs.take (j * 6), cs.drop (j * 6), (List.take_append_drop _ _).symm, by simp; omega⟩
    have hcb : cb.length = 6 := by simp at hn; omega
    have e5 : (ca ++ cb).take (j * 6) = ca := by rw [← hca, List.take_left]
    rw [e5]
    refine oo_append0 wanted_none (by exact slotq) rfl (by exact slotq) (by rw [e2]; rfl) ?_
    repeat (first | intro id | refine goq ?_)
    refine oo_sliceB1 (cs := ca ++ cb) wanted_none (by exact slotq) .here (by exact slotq) (by exact slotq) (by omega) (by simp; omega) ?_
    have e6 : n - j = 1 := by omega
    rw [e6]
    refine oo_clear wanted_none (by exact slotq) (by omega) .here (by simp; omega) rfl ?_
    repeat (first | intro id | refine goq ?_)
    ((first | apply retO_r | apply retO_n); (focus (exact resq)))
    have e7 : putSeg (ca ++ cb) (0 + j * 6) (List.replicate 1 [AVal.sc (Value.int .i64 0), AVal.sc (Value.int .i64 0), AVal.sc (Value.slice none 0 0), AVal.sc (Value.int .i64 0), AVal.sc (Value.int .i64 0), AVal.sc (Value.int .i64 0)]).flatten = ca ++ [AVal.sc (Value.int .i64 0), AVal.sc (Value.int .i64 0), AVal.sc (Value.slice none 0 0), AVal.sc (Value.int .i64 0), AVal.sc (Value.int .i64 0), AVal.sc (Value.int .i64 0)] := by
      rw [Nat.zero_add]
      exact zeroOp_seg hca hcb
    exact ⟨_, ⟨[], by rw [List.append_nil, e7]⟩, ic, _, by simp [resultV], rfl⟩
  · have l1 : (cs.take (j * 6)).length = j * 6 := by simp; omega
    have hx2 : j + (n - (j + 1)) = n - 1 := by omega
    refine oo_appendT wanted_none (by exact slotq) Rem.here s1 (all_one_take hone _) (by exact slotq) s2 (by omega) (all_one_drop hone _) (by omega) (by omega) ?_
    intro id2
    rw [hx2]
    have hl : (cs.take (j * 6) ++ cs.drop ((j + 1) * 6)).length = (n - 1) * 6 := by simp; omega
    have hd : (cs.drop (0 + (n - 1) * 6)).length = 6 := by simp; omega
    generalize cs.take (j * 6) ++ cs.drop ((j + 1) * 6) = ca at *
    generalize cs.drop (0 + (n - 1) * 6) = cb at *
    repeat (first | intro id | refine goq ?_)
    refine oo_sliceB1 (cs := ca ++ cb) wanted_none (by exact slotq) .here (by exact slotq) (by exact slotq) (by omega) (by simp; omega) ?_
    have e6 : n - (n - 1) = 1 := by omega
    rw [e6]
    refine oo_clear wanted_none (by exact slotq) (by omega) .here (by simp; omega) rfl ?_
    repeat (first | intro id | refine goq ?_)
    ((first | apply retO_r | apply retO_n); (focus (exact resq)))
    have e7 : putSeg (ca ++ cb) (0 + (n - 1) * 6) (List.replicate 1 [AVal.sc (Value.int .i64 0), AVal.sc (Value.int .i64 0), AVal.sc (Value.slice none 0 0), AVal.sc (Value.int .i64 0), AVal.sc (Value.int .i64 0), AVal.sc (Value.int .i64 0)]).flatten = ca ++ [AVal.sc (Value.int .i64 0), AVal.sc (Value.int .i64 0), AVal.sc (Value.slice none 0 0), AVal.sc (Value.int .i64 0), AVal.sc (Value.int .i64 0), AVal.sc (Value.int .i64 0)] := by
      rw [Nat.zero_add]
      exact zeroOp_seg hl hd
    exact ⟨_, ⟨[], by rw [List.append_nil, e7]⟩, id2, _, by simp [resultV], rfl⟩
theorem without_open {cs tl : List AVal} {n j ic : Nat} (hst : still ER c_slices_Delete_api_Op_api_Op_r5 = true) (hn : cs.length = n * 6) (hone : cs.all AVal.one = true) (hj : j < n) (hlt : n ≤ 1000000) (hi : In ic (cs ++ tl) L) : CallO ER f_rewrite_without [.sl ic 0 n 6 none, aint j] L fun r L' => ∃ id tl, r = .sl id 0 (n - 1) 6 none ∧ L' = (id, (cs.take (j * 6) ++ cs.drop ((j + 1) * 6)) ++ tl) :: L := by
  refine CallO.to (callO_open rfl n_rewrite_without ?_)
  refine bodyO_of (Nat.le_of_ble_eq_true rfl) ?_; generalize ht : argSlots _ 0 .nil = t; have h0 : t.get 0 = some _ := (by rw [← ht]; rfl); have h1 : t.get 1 = some _ := (by rw [← ht]; rfl); clear ht
  repeat (first | intro id | refine goq ?_)
  refine gok ?_
  refine (CloneOp_open hn hone (by omega) hlt hi).mono ?_
  rintro r L' ⟨i1, rfl, rfl⟩
  repeat (first | intro id | refine goq ?_)
  refine gok ?_
  refine (Delete_open hst hn hone hj hlt).mono ?_
  rintro r L' ⟨i2, tl2, rfl, rfl⟩
  repeat (first | intro id | refine goq ?_)
  ((first | apply retO_r | apply retO_n); (focus (exact resq)))
  exact ⟨_, Sub.refl _, i2, tl2, rfl, rfl⟩
theorem tpC_all {T : List Trip} (h : TrOk T) : (tpC T).all AVal.one = true := by
  induction T with
  | nil => rfl
  | cons p T ih =>
    have h1 := (h p (by simp)).1.isOne
    have e : tpC (p :: T) = opCells p.u p.o ++ tpC T := by simp [tpC]
    rw [e, List.all_append, ih fun q hq => h q (by simp [hq])]
    simp only [opCells, List.all_cons, List.all_nil, h1, Bool.and_true]
    rfl
theorem tpC_take : ∀ (T : List Trip) (k : Nat), (tpC T).take (k * 6) = tpC (T.take k)
  | [], k => by simp [tpC]
  | p :: T, 0 => by simp [tpC]
  | p :: T, k + 1 => by
    have e : tpC (p :: T) = opCells p.u p.o ++ tpC T := by simp [tpC]
    have e2 : (k + 1) * 6 = (opCells p.u p.o).length + k * 6 := by simp [opCells]; omega
    rw [e, e2, List.take_length_add_append, tpC_take T k]
    simp [tpC]
theorem tpC_drop : ∀ (T : List Trip) (k : Nat), (tpC T).drop (k * 6) = tpC (T.drop k)
  | [], k => by simp [tpC]
  | p :: T, 0 => by simp
  | p :: T, k + 1 => by
    have e : tpC (p :: T) = opCells p.u p.o ++ tpC T := by simp [tpC]
    have e2 : (k + 1) * 6 = (opCells p.u p.o).length + k * 6 := by simp [opCells]; omega
    rw [e, e2, List.drop_length_add_append, tpC_drop T k]
    simp
theorem tpC_erase (T : List Trip) (j : Nat) : (tpC T).take (j * 6) ++ (tpC T).drop ((j + 1) * 6) = tpC (T.eraseIdx j) := by
  rw [tpC_take, tpC_drop, List.eraseIdx_eq_take_drop_succ]
  simp [tpC]
theorem tpO_erase (T : List Trip) (j : Nat) : tpO (T.eraseIdx j) = (tpO T).eraseIdx j := (eraseIdx_map' Trip.o T j).symm
theorem tpH_erase (T : List Trip) (j : Nat) : Am.Sub (tpH (T.eraseIdx j)) (tpH T) := by
  rw [List.eraseIdx_eq_take_drop_succ]
  by_cases hj : j < T.length
  · have e : T = T.take j ++ T[j] :: T.drop (j + 1) := by rw [← List.drop_eq_getElem_cons hj, List.take_append_drop]
    refine ⟨T[j].B, ?_⟩
    conv => lhs; rw [e]
    simp only [tpH, List.flatMap_append, List.flatMap_cons]
    rw [List.append_assoc]
    exact List.Perm.append_left _ List.perm_append_comm
  · rw [List.take_of_length_le (by omega), List.drop_of_length_le (by omega), List.append_nil]
    exact Sub.refl _
theorem TrOk.erase {T : List Trip} (h : TrOk T) (j : Nat) : TrOk (T.eraseIdx j) := fun p hp => h p (List.mem_of_mem_eraseIdx hp)
end Go.Proofs.YtmflheoafeenfaaGreat
namespace Go.Proofs.YtmflheoafeenfaaGreat
open Go.Am
set_option maxRecDepth 4000
set_option maxHeartbeats 8000000
variable {E : Env} {L : Hp}
theorem rInverse_ok (hF : E.fns = fnsT) (hm : E.mode f_phasorref06_Inverse = .iso false) (hmi : E.mode f_phasorref06_Is = .iso false) {k : Int} : CallO E f_phasorref06_Inverse [aint k] L fun v L' => v = aint (inverse k) ∧ L' = L := by
  refine ai_ex (callO_iso0 (R := fun r => ∃ x, r = aint x ∧ x = inverse k) hm (fns_of hF n_phasorref06_Inverse) (vs_bare rfl vs_nil) ?_)
  by_cases h : k = 5 ∨ k = 7 ∨ k = 9 ∨ k = 15
  · have e : inverse k = k + 1 := by unfold inverse; rw [if_neg (by omega), if_pos h]
    rw [e]
    rcases h with rfl | rfl | rfl | rfl
    all_goals
      refine bodyO_of (Nat.le_of_ble_eq_true rfl) ?_; generalize ht : argSlots _ 0 .nil = t; have h0 : t.get 0 = some _ := (by rw [← ht]; rfl); clear ht
      repeat (first | intro id | refine goq ?_)
      ((first | apply retO_r | apply retO_n); (focus (exact resq)))
      exact ⟨rfl, _, rfl, rfl⟩
  · by_cases h2 : k = 6 ∨ k = 8 ∨ k = 10 ∨ k = 16
    · have e : inverse k = k - 1 := by unfold inverse; rw [if_neg (by omega), if_neg h, if_pos h2]
      rw [e]
      rcases h2 with rfl | rfl | rfl | rfl
      all_goals
        refine bodyO_of (Nat.le_of_ble_eq_true rfl) ?_; generalize ht : argSlots _ 0 .nil = t; have h0 : t.get 0 = some _ := (by rw [← ht]; rfl); clear ht
        repeat (first | intro id | refine goq ?_)
        ((first | apply retO_r | apply retO_n); (focus (exact resq)))
        exact ⟨rfl, _, rfl, rfl⟩
    · have e : inverse k = if arity k ≠ 0 then k else 0 := by
        unfold inverse arity
        by_cases h3 : k < 1 ∨ 20 < k
        · rw [if_pos h3, if_pos h3, if_neg (by simp)]
        · rw [if_neg h3, if_neg h, if_neg h2, if_neg h3, if_pos]
          split <;> (try split) <;> omega
      refine bodyO_of (Nat.le_of_ble_eq_true rfl) ?_; generalize ht : argSlots _ 0 .nil = t; have h0 : t.get 0 = some _ := (by rw [← ht]; rfl); clear ht
      repeat (first | intro id | refine goq ?_)
      refine gok ?_
      refine (Is_ok hF hmi).mono ?_
      rintro r L' ⟨rfl, rfl⟩
      by_cases h3 : arity k ≠ 0
      · rw [if_pos h3] at e
        rw [decide_eq_true h3]
        repeat (first | intro id | refine goq ?_)
        ((first | apply retO_r | apply retO_n); (focus (exact resq)))
        exact ⟨rfl, _, rfl, e.symm⟩
      · rw [if_neg h3] at e
        rw [decide_eq_false h3]
        repeat (first | intro id | refine goq ?_)
        ((first | apply retO_r | apply retO_n); (focus (exact resq)))
        exact ⟨rfl, _, rfl, e.symm⟩
theorem Inverse_ok (hF : E.fns = fnsT) (hm : E.mode f_gate_Inverse = .iso false) (hmo : E.mode f_gate_of = .iso false) (hmt : E.mode f_gate_table = .iso false) {k : Int} : CallO E f_gate_Inverse [aint k] L fun v L' => v = aint (inverse k) ∧ L' = L := by
  refine callO_iso0 hm (fns_of hF n_gate_Inverse) (vs_bare rfl vs_nil) ?_
  refine bodyO_of (Nat.le_of_ble_eq_true rfl) ?_; generalize ht : argSlots _ 0 .nil = t; have h0 : t.get 0 = some _ := (by rw [← ht]; rfl); clear ht
  repeat (first | intro id | refine goq ?_)
  refine gok ?_
  refine (of_ok hF hmo hmt).mono ?_
  rintro v L' ⟨⟨r, rfl, hr, h1, h3⟩, rfl⟩
  repeat (first | intro id | refine goq ?_)
  ((first | apply retO_r | apply retO_n); (focus (exact resq)))
  exact ⟨rfl, rfl⟩
theorem rlist_l0 (hst : still E c_phasorref18_list_r3 = true) {va vb : AVal} {a b : List Int} (ha : SlI va a) (hb : SlI vb b) (hl : a.length = b.length) (hlt : a.length < 2 ^ 62) : ∀ (d k : Nat) (t : Tr AVal), d + k = a.length → t.get 0 = some va → t.get 1 = some vb → t.get 5 = some (aint k) → (∀ j, j < k → a.getD j 0 = b.getD j 0) →
    WpO E (.loop c_phasorref18_list_l0) t L (fun ex t' L' => ((ex = .exit 0 ∧ Keep [0, 1] t t' ∧ a = b) ∨ (ex = .ret ∧ t'.get 4 = some (abool false) ∧ a ≠ b)) ∧ L' = L) := by
  have ha1 := RowA.isOne ha
  have hb1 := RowA.isOne hb
  intro d
  induction d with
  | zero =>
    intro k t hk h0 h1 h5 he
    refine wo_loop ?_
    repeat (first | intro id | refine goq ?_)
    refine ⟨.inl ⟨rfl, by exact keepq, ?_⟩, rfl⟩
    refine List.ext_getElem hl fun i h1 h2 => ?_
    have := he i (by omega)
    simpa [h1, h2] using this
  | succ d ih =>
    intro k t hk h0 h1 h5 he
    refine wo_loop ?_
    by_cases e : a.getD k 0 = b.getD k 0
    · repeat (first | intro id | refine goq ?_)
      refine WpO.mono (ih (k + 1) _ (by omega) ?_ ?_ ?_ ?_) ?_
      · exact slotq
      · exact slotq
      · exact slotq
      · intro j hj
        by_cases ej : j = k
        · subst ej; exact e
        · exact he j (by omega)
      · rintro ex t' L' ⟨⟨e1, e2, e3⟩ | h, e4⟩
        · exact ⟨.inl ⟨e1, Keep.trans (by exact keepq) e2, e3⟩, e4⟩
        · exact ⟨.inr h, e4⟩
    · repeat (first | intro id | refine goq ?_)
      exact ⟨.inr ⟨rfl, by exact slotq, fun h => e (by rw [h])⟩, rfl⟩
theorem rlist_ok (hF : E.fns = fnsT) (hm : E.mode f_phasorref18_list = .iso false) (hst : still E c_phasorref18_list_r3 = true) {va vb : AVal} {a b : List Int} {args : List AVal} (hw : ViewsO L args [va, vb]) (ha : SlI va a) (hb : SlI vb b) (hl : a.length = b.length) (hlt : a.length < 2 ^ 62) : CallO E f_phasorref18_list args L fun r L' => r = abool (decide (a = b)) ∧ L' = L := by
  refine ab_ex (callO_iso0 (R := fun r => ∃ x, r = abool x ∧ x = decide (a = b)) hm (fns_of hF n_phasorref18_list) hw ?_)
  have ha1 := RowA.isOne ha
  have hb1 := RowA.isOne hb
  refine bodyO_of (Nat.le_of_ble_eq_true rfl) ?_; generalize ht : argSlots _ 0 .nil = t; have h0 : t.get 0 = some _ := (by rw [← ht]; rfl); have h1 : t.get 1 = some _ := (by rw [← ht]; rfl); clear ht
  repeat (first | intro id | refine goq ?_)
  refine WpO.mono (rlist_l0 hst ha hb hl hlt a.length 0 _ (by omega) ?_ ?_ ?_ (fun j hj => by omega)) ?_
  · exact slotq
  · exact slotq
  · exact slotq
  rintro ex t1 L' ⟨⟨rfl, hK, e⟩ | ⟨rfl, g4, e⟩, rfl⟩
  · have k0 : t1.get 0 = some va := (hK.ex 0 rfl).trans (by exact slotq)
    have k1 : t1.get 1 = some vb := (hK.ex 1 rfl).trans (by exact slotq)
    clear hK
    refine blkO.x (seqO.n ?_)
    repeat (first | intro id | refine goq ?_)
    ((first | apply retO_r | apply retO_n); (focus (exact resq)))
    exact ⟨rfl, _, rfl, by simp [e]⟩
  · refine blkO.r (seqO.r ?_)
    ((first | apply retO_r | apply retO_n); (focus (exact resq)))
    exact ⟨rfl, _, rfl, by simp [e]⟩
/-- Is one among others? -/
theorem rwithin_l0 (hst : still E c_phasorref18_within_r6 = true) {va vb : AVal} {a b : List Int} (ha : SlI va a) (hb : SlI vb b) {i : Nat} (hi : i < a.length) (hla : a.length < 2 ^ 62) (hlb : b.length < 2 ^ 62) : ∀ (d k : Nat) (t : Tr AVal), d + k = b.length → t.get 0 = some va → t.get 1 = some vb → t.get 5 = some (aint i) → t.get 6 = some (abool ((b.take k).contains (a.getD i 0))) → t.get 7 = some (aint k) →
    WpO E (.loop c_phasorref18_within_l0) t L (fun ex t' L' => ex = .exit 2 ∧ Keep [0, 1, 5] t t' ∧ t'.get 6 = some (abool (b.contains (a.getD i 0))) ∧ L' = L) := by
  have ha1 := RowA.isOne ha
  have hb1 := RowA.isOne hb
  intro d
  induction d with
  | zero =>
    intro k t hk h0 h1 h5 h6 h7
    obtain rfl : k = b.length := by omega
    rw [List.take_length] at h6
    refine wo_loop ?_
    repeat (first | intro id | refine goq ?_)
    exact ⟨rfl, by exact keepq, by exact slotq, rfl⟩
  | succ d ih =>
    intro k t hk h0 h1 h5 h6 h7
    have htk : b.take (k + 1) = b.take k ++ [b.getD k 0] := by
      rw [List.take_succ_eq_append_getElem (by omega)]
      simp [show k < b.length by omega]
    have hc : (b.take (k + 1)).contains (a.getD i 0) = ((b.take k).contains (a.getD i 0) || decide (a.getD i 0 = b.getD k 0)) := by
      rw [htk, Bool.eq_iff_iff]
      simp
    refine wo_loop ?_
    cases hcb : (b.take k).contains (a.getD i 0) with
    | true =>
      rw [hcb] at h6 hc
      repeat (first | intro id | refine goq ?_)
      refine WpO.mono (ih (k + 1) _ (by omega) ?_ ?_ ?_ ?_ ?_) ?_
      · exact slotq
      · exact slotq
      · exact slotq
      · rw [hc]; exact slotq
      · exact slotq
      · rintro ex t' L' ⟨e1, e2, e3⟩
        exact ⟨e1, Keep.trans (by exact keepq) e2, e3⟩
    | false =>
      rw [hcb] at h6 hc
      by_cases e : a.getD i 0 = b.getD k 0
      · rw [decide_eq_true e] at hc
        repeat (first | intro id | refine goq ?_)
        refine WpO.mono (ih (k + 1) _ (by omega) ?_ ?_ ?_ ?_ ?_) ?_
        · exact slotq
        · exact slotq
        · exact slotq
        · rw [hc]; exact slotq
        · exact slotq
        · rintro ex t' L' ⟨e1, e2, e3⟩
          exact ⟨e1, Keep.trans (by exact keepq) e2, e3⟩
      · rw [decide_eq_false e] at hc
        repeat (first | intro id | refine goq ?_)
        refine WpO.mono (ih (k + 1) _ (by omega) ?_ ?_ ?_ ?_ ?_) ?_
        · exact slotq
        · exact slotq
        · exact slotq
        · rw [hc]; exact slotq
        · exact slotq
        · rintro ex t' L' ⟨e1, e2, e3⟩
          exact ⟨e1, Keep.trans (by exact keepq) e2, e3⟩
theorem rwithin_l1 (hst : still E c_phasorref18_within_r6 = true) {va vb : AVal} {a b : List Int} (ha : SlI va a) (hb : SlI vb b) (hla : a.length < 2 ^ 62) (hlb : b.length < 2 ^ 62) : ∀ (d k : Nat) (t : Tr AVal), d + k = a.length → t.get 0 = some va → t.get 1 = some vb → t.get 5 = some (aint k) → (∀ j, j < k → b.contains (a.getD j 0) = true) →
    WpO E (.loop c_phasorref18_within_l1) t L (fun ex t' L' => ((ex = .exit 0 ∧ Keep [0, 1] t t' ∧ ∀ j, j < a.length → b.contains (a.getD j 0) = true) ∨ (ex = .ret ∧ t'.get 4 = some (abool false) ∧ ∃ j, j < a.length ∧ b.contains (a.getD j 0) = false)) ∧ L' = L) := by
  have ha1 := RowA.isOne ha
  have hb1 := RowA.isOne hb
  intro d
  induction d with
  | zero =>
    intro k t hk h0 h1 h5 hall
    refine wo_loop ?_
    repeat (first | intro id | refine goq ?_)
    exact ⟨.inl ⟨rfl, by exact keepq, fun j hj => hall j (by omega)⟩, rfl⟩
  | succ d ih =>
    intro k t hk h0 h1 h5 hall
    refine wo_loop ?_
    repeat (first | intro id | refine goq ?_)
    refine WpO.mono (rwithin_l0 hst ha hb (i := k) (by omega) hla hlb b.length 0 _ (by omega) ?_ ?_ ?_ ?_ ?_) ?_
    · exact slotq
    · exact slotq
    · exact slotq
    · rw [List.take_zero]; exact slotq
    · exact slotq
    rintro ex t1 L' ⟨rfl, hK, g6, rfl⟩
    have g0 : t1.get 0 = some va := (hK.ex 0 rfl).trans (by exact slotq)
    have g1 : t1.get 1 = some vb := (hK.ex 1 rfl).trans (by exact slotq)
    have g5 : t1.get 5 = some (aint k) := (hK.ex 5 rfl).trans (by exact slotq)
    have hKt : Keep [0, 1] t t1 := Keep.trans (by exact keepq) (hK.less rfl)
    clear hK
    refine blkO.x (seqO.n ?_)
    cases hc : b.contains (a.getD k 0) with
    | true =>
      rw [hc] at g6
      repeat (first | intro id | refine goq ?_)
      refine WpO.mono (ih (k + 1) _ (by omega) ?_ ?_ ?_ ?_) ?_
      · exact slotq
      · exact slotq
      · exact slotq
      · intro j hj
        by_cases ej : j = k
        · subst ej; exact hc
        · exact hall j (by omega)
      · rintro ex t' L' ⟨⟨e1, e2, e3⟩ | h, e4⟩
        · exact ⟨.inl ⟨e1, hKt.trans (Keep.trans (by exact keepq) e2), e3⟩, e4⟩
        · exact ⟨.inr h, e4⟩
    | false =>
      rw [hc] at g6
      repeat (first | intro id | refine goq ?_)
      exact ⟨.inr ⟨rfl, by exact slotq, k, by omega, hc⟩, rfl⟩
theorem rwithin_ok (hF : E.fns = fnsT) (hm : E.mode f_phasorref18_within = .iso false) (hst : still E c_phasorref18_within_r6 = true) {va vb : AVal} {a b : List Int} {args : List AVal} (hw : ViewsO L args [va, vb]) (ha : SlI va a) (hb : SlI vb b) (hla : a.length < 2 ^ 62) (hlb : b.length < 2 ^ 62) : CallO E f_phasorref18_within args L fun r L' => r = abool (withinB a b) ∧ L' = L := by
  refine ab_ex (callO_iso0 (R := fun r => ∃ x, r = abool x ∧ x = withinB a b) hm (fns_of hF n_phasorref18_within) hw ?_)
  have ha1 := RowA.isOne ha
  have hb1 := RowA.isOne hb
  refine bodyO_of (Nat.le_of_ble_eq_true rfl) ?_; generalize ht : argSlots _ 0 .nil = t; have h0 : t.get 0 = some _ := (by rw [← ht]; rfl); have h1 : t.get 1 = some _ := (by rw [← ht]; rfl); clear ht
  repeat (first | intro id | refine goq ?_)
  refine WpO.mono (rwithin_l1 hst ha hb hla hlb a.length 0 _ (by omega) ?_ ?_ ?_ (fun j hj => by omega)) ?_
  · exact slotq
  · exact slotq
  · exact slotq
  rintro ex t1 L' ⟨⟨rfl, hK, hall⟩ | ⟨rfl, g4, j, hj, hno⟩, rfl⟩
  · have k0 : t1.get 0 = some va := (hK.ex 0 rfl).trans (by exact slotq)
    have k1 : t1.get 1 = some vb := (hK.ex 1 rfl).trans (by exact slotq)
    clear hK
    have e : withinB a b = decide (a.length = b.length) := by
      unfold withinB
      have : a.all (fun x => b.contains x) = true := by
        rw [List.all_eq_true]
        intro x hx
        obtain ⟨j, hj, rfl⟩ := List.getElem_of_mem hx
        have := hall j hj
        simpa [hj] using this
      rw [this, Bool.true_and]
    refine blkO.x (seqO.n ?_)
    by_cases hl : a.length = b.length
    · rw [decide_eq_true hl] at e
      repeat (first | intro id | refine goq ?_)
      ((first | apply retO_r | apply retO_n); (focus (exact resq)))
      exact ⟨rfl, _, rfl, e.symm⟩
    · rw [decide_eq_false hl] at e
      repeat (first | intro id | refine goq ?_)
      ((first | apply retO_r | apply retO_n); (focus (exact resq)))
      exact ⟨rfl, _, rfl, e.symm⟩
  · refine blkO.r (seqO.r ?_)
    ((first | apply retO_r | apply retO_n); (focus (exact resq)))
    refine ⟨rfl, _, rfl, ?_⟩
    unfold withinB
    have : a.all (fun x => b.contains x) = false := by
      rw [List.all_eq_false]
      exact ⟨a.getD j 0, by simp [hj], by rw [hno]; simp⟩
    rw [this]
    rfl
end Go.Proofs.YtmflheoafeenfaaGreat
namespace Go.Proofs.YtmflheoafeenfaaGreat
open Go.Am
set_option maxRecDepth 4000
set_option maxHeartbeats 8000000
variable {L : Hp}
theorem insQ_I (x : Int) : ∀ l, insQ x l = insI x l
  | [] => rfl
  | y :: r => by unfold insQ insI; rw [insQ_I x r]
theorem sortQ_I : ∀ l, sortQ l = sortI l
  | [] => rfl
  | x :: r => by unfold sortQ sortI; rw [sortQ_I r, insQ_I]
theorem touchR {q p : AVal} {a b : OpD} {args : List AVal} {L : Hp} (hq : SlI q a.qs) (hp : SlI p b.qs) (hql : a.qs.length < 2 ^ 62) (hpl : b.qs.length < 2 ^ 62) (hv : ViewsO L args [opV q a, opV p b]) : CallO ER f_rewrite_Touch args L fun r L' => r = abool (touchB a b) ∧ L' = L :=
  Touch_ok rfl rfl rfl rfl rfl rfl rfl rfl rfl hq hp hql hpl hv
theorem partner_l0 (hst : still ER c_rewrite_partner_r3 = true) {v : AVal} {cs : List AVal} {l : List OpD} {j : Nat} (hv : RowA v cs l.length) (hcs : OpsC cs l) (hj : j < l.length) (hlt : l.length < 2 ^ 62) :
    ∀ (k : Nat) (t : Tr AVal), k ≤ j → t.get 0 = some v → t.get 1 = some (aint j) → t.get 5 = some (aint ((k : Int) - 1)) → partI l j = partTo l (l.getD j default) k →
    WpO ER (.loop c_rewrite_partner_l0) t L (fun ex t' L' => ((ex = .exit 0 ∧ partI l j = -1) ∨ (ex = .ret ∧ t'.get 4 = some (aint (partI l j)))) ∧ L' = L) := by
  have hv1 := RowA.isOne hv
  intro k
  induction k with
  | zero =>
    intro t hk h0 h1 h5 hp
    refine wo_loop ?_
    repeat (first | intro id | refine goq ?_)
    exact ⟨.inl ⟨rfl, hp⟩, rfl⟩
  | succ k ih =>
    intro t hk h0 h1 h5 hp
    have e : (((k + 1 : Nat) : Int) - 1) = (k : Int) := by omega
    rw [e] at h5
    obtain ⟨q, hq, hqb, hlt6, hseg⟩ := hcs.getE (show k < l.length by omega)
    obtain ⟨p, hp', hpb, plt6, pseg⟩ := hcs.getE hj
    have hq1 := RowA.isOne hq
    have hp1 := RowA.isOne hp'
    have tt := touchR (L := L) hq hp' hqb hpb (vs_bare (bare_opV hq) (vs_bare (bare_opV hp') vs_nil))
    unfold opV opCells at tt
    unfold opCells at hseg pseg
    unfold partTo at hp
    refine wo_loop ?_
    repeat (first | intro id | refine goq ?_)
    refine gok ?_
    refine tt.mono ?_
    rintro r L' ⟨rfl, rfl⟩
    cases ht : touchB (l.getD k default) (l.getD j default) with
    | true =>
      rw [if_pos ht] at hp
      repeat (first | intro id | refine goq ?_)
      exact ⟨.inr ⟨rfl, by rw [hp]; exact slotq⟩, rfl⟩
    | false =>
      rw [if_neg (by rw [ht]; simp)] at hp
      repeat (first | intro id | refine goq ?_)
      refine ih _ (by omega) ?_ ?_ ?_ hp
      · exact slotq
      · exact slotq
      · exact slotq
theorem partner_ok (hst : still ER c_rewrite_partner_r3 = true) {s v : AVal} {l : List OpD} {j : Nat} (hw : ViewsO L [s, aint j] [v, aint j]) (hv : OpsA v l) (hj : j < l.length) :
    CallO ER f_rewrite_partner [s, aint j] L fun r L' => r = aint (partI l j) ∧ L' = L := by
  refine ai_ex (callO_iso0 (R := fun r => ∃ x, r = aint x ∧ x = partI l j) rfl n_rewrite_partner hw ?_)
  obtain ⟨cs, hr, hcs, hlt⟩ := hv
  have hv1 := RowA.isOne hr
  refine bodyO_of (Nat.le_of_ble_eq_true rfl) ?_; generalize ht : argSlots _ 0 .nil = t; have h0 : t.get 0 = some _ := (by rw [← ht]; rfl); have h1 : t.get 1 = some _ := (by rw [← ht]; rfl); clear ht
  repeat (first | intro id | refine goq ?_)
  refine WpO.mono (partner_l0 hst hr hcs hj hlt j _ (Nat.le_refl _) ?_ ?_ ?_ rfl) ?_
  · exact slotq
  · exact slotq
  · exact slotq
  rintro ex t1 L' ⟨⟨rfl, hp⟩ | ⟨rfl, h4⟩, rfl⟩
  · repeat (first | intro id | refine goq ?_)
    ((first | apply retO_r | apply retO_n); (focus (exact resq)))
    exact ⟨rfl, _, rfl, hp.symm⟩
  · repeat (first | intro id | refine goq ?_)
    ((first | apply retO_r | apply retO_n); (focus (exact resq)))
    exact ⟨rfl, _, rfl, rfl⟩
theorem putSeg_all (l m : List Int) (h : m.length = l.length) : putSeg (l.map aint) 0 (m.map aint) = m.map aint := by
  unfold putSeg
  simp [h]
theorem normal_ok {q : AVal} {o : OpD} (hq : SlI q o.qs) (hal : (o.qs.length : Int) = arity o.gate) (hpos : 0 < o.qs.length) : CallO ER f_rewrite_normal [opV q o] L fun r L' => SlI r (normQ o.gate o.qs) ∧ L' = L := by
  have hl3 : o.qs.length ≤ 3 := by
    have : arity o.gate ≤ 3 := by unfold arity; (repeat' split) <;> omega
    omega
  refine callO_iso1 (R := fun r => SlI r (normQ o.gate o.qs)) rfl n_rewrite_normal (by simp [bare_opV hq]) ?_
  have hq1 := RowA.isOne hq
  have cl := fun (M : Hp) => Clone_open (L := M) (E := ER) rfl rfl hq (by omega)
  by_cases hs : symG o.gate = true
  · have e : normQ o.gate o.qs = sortI o.qs := by unfold normQ; rw [if_pos hs, sortQ_I]
    rw [e]
    have hk : o.gate = 13 ∨ o.gate = 14 ∨ o.gate = 15 ∨ o.gate = 16 ∨ o.gate = 17 ∨ o.gate = 19 := by simpa [symG, or_assoc] using hs
    unfold opV opCells
    generalize o.gate = gk at *
    rcases hk with rfl | rfl | rfl | rfl | rfl | rfl
    all_goals
      refine bodyO_of (Nat.le_of_ble_eq_true rfl) ?_; generalize ht : argSlots _ 0 .nil = t; have h0 : t.get 0 = some _ := (by rw [← ht]; rfl); clear ht
      repeat (first | intro id | refine goq ?_)
      refine gok ?_
      refine (cl _).mono ?_
      rintro r L' ⟨B, hB, rfl⟩
      rcases hB with ⟨-, e0, -⟩ | ⟨iq, cap, rfl, rfl⟩
      · rw [e0] at hpos
        simp at hpos
      repeat (first | intro id | refine goq ?_)
      refine gok ?_
      refine (sort_seg (l := o.qs) (cs := o.qs.map aint) (by have := seg_full (cs := o.qs.map aint) (n := o.qs.length) (by simp); simpa using this) hpos (by omega) .here).mono ?_
      rintro r L' ⟨rfl, rfl⟩
      rw [putSeg_all _ _ (sortI_length _)]
      repeat (first | intro id | refine goq ?_)
      ((first | apply retO_r | apply retO_n); (focus (exact resq)))
      have hv : OwnI (.sl iq 0 o.qs.length 1 cap) (sortI o.qs) [(iq, (sortI o.qs).map aint)] := .inr ⟨iq, cap, by rw [sortI_length], rfl⟩
      exact hv.view 62 (fun id c hi => hi.appl)
  · have hk : ¬ (o.gate = 13 ∨ o.gate = 14 ∨ o.gate = 15 ∨ o.gate = 16 ∨ o.gate = 17 ∨ o.gate = 19) := by simpa [symG, or_assoc] using hs
    by_cases e18 : o.gate = 18
    · have e : normQ o.gate o.qs = sortI (o.qs.take 2) ++ o.qs.drop 2 := by unfold normQ; rw [if_neg hs, if_pos e18, sortQ_I]
      rw [e]
      have ha : o.qs.length = 3 := by rw [e18] at hal; have : arity 18 = 3 := rfl; omega
      unfold opV opCells
      generalize o.gate = gk at *
      subst e18
      refine bodyO_of (Nat.le_of_ble_eq_true rfl) ?_; generalize ht : argSlots _ 0 .nil = t; have h0 : t.get 0 = some _ := (by rw [← ht]; rfl); clear ht
      repeat (first | intro id | refine goq ?_)
      refine gok ?_
      refine (cl _).mono ?_
      rintro r L' ⟨B, hB, rfl⟩
      rcases hB with ⟨-, e0, -⟩ | ⟨iq, cap, rfl, rfl⟩
      · rw [e0] at hpos
        simp at hpos
      repeat (first | intro id | refine goq ?_)
      refine gok ?_
      refine (sort_seg (off := 0) (len := 2) (l := o.qs.take 2) (cs := o.qs.map aint) (by unfold seg; rw [if_pos (by simp; omega), List.drop_zero, List.map_take]) (by omega) (by omega) .here).mono ?_
      rintro r L' ⟨rfl, rfl⟩
      have e2 : putSeg (o.qs.map aint) 0 ((sortI (o.qs.take 2)).map aint) = (sortI (o.qs.take 2) ++ o.qs.drop 2).map aint := by
        unfold putSeg
        simp only [List.take_zero, List.nil_append, List.length_map, sortI_length, List.length_take, Nat.zero_add]
        rw [Nat.min_eq_left (by omega), List.map_append, List.map_drop]
      rw [e2]
      repeat (first | intro id | refine goq ?_)
      ((first | apply retO_r | apply retO_n); (focus (exact resq)))
      have hv : OwnI (.sl iq 0 o.qs.length 1 cap) (sortI (o.qs.take 2) ++ o.qs.drop 2) [(iq, (sortI (o.qs.take 2) ++ o.qs.drop 2).map aint)] := .inr ⟨iq, cap, by simp [sortI_length]; omega, rfl⟩
      exact hv.view 62 (fun id c hi => hi.appl)
    · by_cases e20 : o.gate = 20
      · have e : normQ o.gate o.qs = o.qs.take 1 ++ sortI (o.qs.drop 1) := by unfold normQ; rw [if_neg hs, if_neg e18, if_pos e20, sortQ_I]
        rw [e]
        have ha : o.qs.length = 3 := by rw [e20] at hal; have : arity 20 = 3 := rfl; omega
        unfold opV opCells
        generalize o.gate = gk at *
        subst e20
        refine bodyO_of (Nat.le_of_ble_eq_true rfl) ?_; generalize ht : argSlots _ 0 .nil = t; have h0 : t.get 0 = some _ := (by rw [← ht]; rfl); clear ht
        repeat (first | intro id | refine goq ?_)
        refine gok ?_
        refine (cl _).mono ?_
        rintro r L' ⟨B, hB, rfl⟩
        rcases hB with ⟨-, e0, -⟩ | ⟨iq, cap, rfl, rfl⟩
        · rw [e0] at hpos
          simp at hpos
        repeat (first | intro id | refine goq ?_)
        refine gok ?_
        refine (sort_seg (off := 1) (len := o.qs.length - 1) (l := o.qs.drop 1) (cs := o.qs.map aint) (by unfold seg; rw [if_pos (by simp; omega), List.take_of_length_le (by simp), List.map_drop]) (by omega) (by omega) .here).mono ?_
        rintro r L' ⟨rfl, rfl⟩
        have e2 : putSeg (o.qs.map aint) 1 ((sortI (o.qs.drop 1)).map aint) = (o.qs.take 1 ++ sortI (o.qs.drop 1)).map aint := by
          unfold putSeg
          rw [show (o.qs.map aint).drop (1 + ((sortI (o.qs.drop 1)).map aint).length) = [] from List.drop_of_length_le (by simp [sortI_length]; omega), List.append_nil, List.map_append, List.map_take]
        rw [e2]
        repeat (first | intro id | refine goq ?_)
        ((first | apply retO_r | apply retO_n); (focus (exact resq)))
        have hv : OwnI (.sl iq 0 o.qs.length 1 cap) (o.qs.take 1 ++ sortI (o.qs.drop 1)) [(iq, (o.qs.take 1 ++ sortI (o.qs.drop 1)).map aint)] := .inr ⟨iq, cap, by simp [sortI_length]; omega, rfl⟩
        exact hv.view 62 (fun id c hi => hi.appl)
      · have e : normQ o.gate o.qs = o.qs := by unfold normQ; rw [if_neg hs, if_neg e18, if_neg e20]
        rw [e]
        unfold opV opCells
        generalize o.gate = gk at *
        refine bodyO_of (Nat.le_of_ble_eq_true rfl) ?_; generalize ht : argSlots _ 0 .nil = t; have h0 : t.get 0 = some _ := (by rw [← ht]; rfl); clear ht
        repeat (first | intro id | refine goq ?_)
        refine gok ?_
        refine (cl _).mono ?_
        rintro r L' ⟨B, hB, rfl⟩
        have hr1 := hB.isOne
        repeat (first | intro id | refine goq ?_)
        ((first | apply retO_r | apply retO_n); (focus (exact resq)))
        exact hB.view 62 (fun id c hi => hi.appl)
theorem arity_le (k : Int) : arity k ≤ 3 := by unfold arity; (repeat' split) <;> omega
theorem normQ_len (k : Int) (q : List Int) : (normQ k q).length = q.length := by
  unfold normQ
  repeat' split
  · exact sortQ_len q
  · simp only [List.length_append, sortQ_len, List.length_take, List.length_drop]; omega
  · simp only [List.length_append, sortQ_len, List.length_take, List.length_drop]; omega
  · rfl
def undoP (a b : OpD) : Bool := plainB a && (decide (a.gate = inverse b.gate) && decide (normQ a.gate a.qs = normQ b.gate b.qs))
theorem undoes_ok (hst : still ER c_rewrite_undoes_r1 = true) (hse : still ER c_slices_Equal_int_int_r6 = true) {q p : AVal} {a b : OpD} {args : List AVal} (hq : SlI q a.qs) (hp : SlI p b.qs) (ha : plainB a = true → (a.qs.length : Int) = arity a.gate ∧ 0 < a.qs.length) (hb : (b.qs.length : Int) = arity b.gate ∧ 0 < b.qs.length) (hv : ViewsO L args [opV q a, opV p b]) :
    CallO ER f_rewrite_undoes args L fun r L' => r = abool (undoP a b) ∧ L' = L := by
  refine ab_ex (callO_iso0 (R := fun r => ∃ x, r = abool x ∧ x = undoP a b) rfl n_rewrite_undoes hv ?_)
  have hq1 := RowA.isOne hq
  have hp1 := RowA.isOne hp
  have pl := fun (M : Hp) => plain_ok (L := M) (E := ER) rfl rfl hq (vs_bare (bare_opV hq) vs_nil)
  have inv := fun (M : Hp) => Inverse_ok (L := M) (E := ER) (k := b.gate) rfl rfl rfl rfl
  have nb := fun (M : Hp) => normal_ok (L := M) hp hb.1 hb.2
  have na := fun (M : Hp) (h : plainB a = true) => normal_ok (L := M) hq (ha h).1 (ha h).2
  unfold opV opCells at pl nb na ⊢
  refine bodyO_of (Nat.le_of_ble_eq_true rfl) ?_; generalize ht : argSlots _ 0 .nil = t; have h0 : t.get 0 = some _ := (by rw [← ht]; rfl); have h1 : t.get 1 = some _ := (by rw [← ht]; rfl); clear ht
  repeat (first | intro id | refine goq ?_)
  refine gok ?_
  refine (pl _).mono ?_
  rintro r L' ⟨rfl, rfl⟩
  cases hpa : plainB a with
  | false =>
    repeat (first | intro id | refine goq ?_)
    ((first | apply retO_r | apply retO_n); (focus (exact resq)))
    exact ⟨rfl, _, rfl, by unfold undoP; rw [hpa]; rfl⟩
  | true =>
    have e0 : undoP a b = (decide (a.gate = inverse b.gate) && decide (normQ a.gate a.qs = normQ b.gate b.qs)) := by unfold undoP; rw [hpa, Bool.true_and]
    rw [e0]
    repeat (first | intro id | refine goq ?_)
    refine gok ?_
    refine (inv _).mono ?_
    rintro r L' ⟨rfl, rfl⟩
    by_cases hg : a.gate = inverse b.gate
    · rw [decide_eq_true hg, Bool.true_and]
      repeat (first | intro id | refine goq ?_)
      refine gok ?_
      refine (na _ hpa).mono ?_
      rintro r L' ⟨hr, rfl⟩
      have hr1 := RowA.isOne hr
      repeat (first | intro id | refine goq ?_)
      refine gok ?_
      refine (nb _).mono ?_
      rintro r2 L' ⟨hr2, rfl⟩
      have hr21 := RowA.isOne hr2
      repeat (first | intro id | refine goq ?_)
      refine gok ?_
      refine (equalI_ok (E := ER) rfl rfl hse (vs_bare (bare_SlI hr) (vs_bare (bare_SlI hr2) vs_nil)) hr hr2 (by rw [normQ_len]; have := ha hpa; have : arity a.gate ≤ 3 := arity_le _; omega)).mono ?_
      rintro r3 L' ⟨rfl, rfl⟩
      repeat (first | intro id | refine goq ?_)
      ((first | apply retO_r | apply retO_n); (focus (exact resq)))
      exact ⟨rfl, _, rfl, rfl⟩
    · rw [decide_eq_false hg, Bool.false_and]
      repeat (first | intro id | refine goq ?_)
      ((first | apply retO_r | apply retO_n); (focus (exact resq)))
      exact ⟨rfl, _, rfl, rfl⟩
end Go.Proofs.YtmflheoafeenfaaGreat
