/- Parts of the proof, joined by program: RwY2, RwY3. -/
import Derived.Test.YtmflheoafeenfaaGreatPa23
set_option linter.unusedSimpArgs false
set_option linter.unusedVariables false
namespace Go.Proofs.YtmflheoafeenfaaGreat
open Go.Am
set_option maxRecDepth 4000
set_option maxHeartbeats 16000000
section
variable {E : Env} {L L' : Hp} {t : Tr AVal} {K : Tr AVal → Hp → Prop} {l : List AO} {g : Option (Option Nat × Bool)} {n d : Nat} {x y : Arg} {bytes id off off2 k esz j i : Nat} {cap2 : Option Nat} {cs c2 old nw : List AVal} {m : Mem}
theorem op_capNil (hx : x.get t = some anil) : OpV t m (.cap x) (aint 0) m := ⟨by simp [opVal, hx, anil, aint]⟩
theorem oo_appendZ {zero : List AVal} (hg : wantedA t g = some true) (hx : x.get t = some anil) (hy : y.get t = some (aint k)) (h0 : 0 < k) (h1 : k * bytes ≤ 140737488355328) (h2 : k ≤ 140737488355328) (h : ∀ id, OpsO E l (t.set d (some (.sl id 0 k esz none))) ((id, (List.replicate k zero).flatten) :: L) K) : OpsO E (⟨some d, .appendZeros esz bytes zero x y, g, n⟩ :: l) t L K :=
  ⟨fun m hm => ops_s hg (show OpV t m (.appendZeros esz bytes zero x y) (.sl m.next 0 k esz none) (m.new (.cells (List.replicate k zero).flatten)) from ⟨by
    simp only [opVal, hx, hy, Option.bind_some, AVal.int?, aint, anil]
    rw [if_pos ⟨by omega, by simpa using h1, by omega⟩, if_neg (by omega)]
    simp⟩) ((h m.next).ex _ hm.new)⟩
/-- A slice with room is written behind, out of another box. -/
theorem oo_appendR (hg : wantedA t g = some true) (hx : x.get t = some (.sl id off k esz none)) (hr : Rem [(id, cs)] L L') (hs : seg cs off (k * esz) = some old) (ho : old.all AVal.one = true) (hy : y.get t = some (.sl i off2 j esz cap2)) (hi : In i c2 L') (hs2 : seg c2 off2 (j * esz) = some nw) (h0 : 0 < j) (h1 : nw.all AVal.one = true) (hr1 : (k + j) * bytes ≤ 140737488355328) (hr2 : k + j ≤ 140737488355328)
    (h : ∀ id2, OpsO E l (t.set d (some (.sl id2 0 (k + j) esz none))) ((id2, old ++ nw ++ cs.drop (off + (k + j) * esz)) :: L') K) : OpsO E (⟨some d, .append esz bytes x y, g, n⟩ :: l) t L K := ⟨fun m hm => by
  have hc := hm.get hr.inO
  have hm' := hm.perm hr.perm
  have hsc : sliceCells m esz j (.sl i off2 j esz cap2) = some nw := by
    simp only [sliceCells, if_true, hm'.right.get hi]
    exact hs2
  exact ops_s hg (op_appendT hx hy hc hs rfl hsc h0 hr1 hr2 h1 ho) ((h m.next).ex _ (Ows.new (Ows.drop hm')))⟩
end
variable {L : Hp}
def zop : List AVal := [aint 0, aint 0, anil, aint 0, aint 0, aint 0]
theorem Grow_open {n : Nat} (h0 : 0 < n) (hn : n ≤ 100000) : CallO EX f_slices_Grow_api_Op_api_Op [anil, aint n] L fun r L' => ∃ id, r = .sl id 0 0 6 none ∧ L' = (id, (List.replicate n zop).flatten) :: L := by
  refine CallO.to (callO_open rfl n_slices_Grow_api_Op_api_Op ?_)
  refine bodyO_of (Nat.le_of_ble_eq_true rfl) ?_; generalize ht : argSlots _ 0 .nil = t; have h0 : t.get 0 = some _ := (by rw [← ht]; rfl); have h1 : t.get 1 = some _ := (by rw [← ht]; rfl); clear ht
  repeat (first | intro id | refine goq ?_)
  refine oo_p wanted_none (fun mm hmm => op_capNil (by exact slotq)) ?_
  repeat (first | intro id | refine goq ?_)
  refine oo_p wanted_none (fun mm hmm => op_capNil (by exact slotq)) ?_
  refine oo_p wanted_none (fun mm hmm => op_sliceNilHi (by exact slotq) (by exact slotq)) ?_
  repeat (first | intro id | refine goq ?_)
  rw [show ((n : Int) - (0 - ((0 : Nat) : Int))) = (n : Int) by omega]
  refine oo_appendZ (k := n) wanted_none (by exact slotq) (by exact slotq) (by omega) (by omega) (by omega) ?_
  intro id
  repeat (first | intro id | refine goq ?_)
  ((first | apply retO_r | apply retO_n); (focus (exact resq)))
  exact ⟨_, Sub.refl _, id, rfl, rfl⟩
def Pieces (L : Hp) (vs : List AVal) (Ts : List (List Trip)) : Prop := vs.length = Ts.length ∧ ∀ k, k < vs.length → ∃ id cap tl, vs[k]? = some (.sl id 0 (Ts.getD k []).length 6 cap) ∧ In id (tpC (Ts.getD k []) ++ tl) L ∧ 0 < (Ts.getD k []).length
def sumT (Ts : List (List Trip)) (k : Nat) : Nat := (Ts.take k).flatten.length
theorem sumT_zero {Ts : List (List Trip)} : sumT Ts 0 = 0 := by simp [sumT]
theorem sumT_succ {Ts : List (List Trip)} {k : Nat} (h : k < Ts.length) : sumT Ts (k + 1) = sumT Ts k + (Ts.getD k []).length := by
  unfold sumT
  rw [List.take_succ_eq_append_getElem h, List.flatten_append, List.length_append]
  simp only [List.flatten_cons, List.flatten_nil, List.append_nil, List.getD_eq_getElem?_getD, List.getElem?_eq_getElem h, Option.getD_some]
theorem sumT_le {Ts : List (List Trip)} : ∀ d k, k + d = Ts.length → sumT Ts k ≤ sumT Ts Ts.length := by
  intro d
  induction d with
  | zero => intro k hk; rw [show k = Ts.length by omega]; exact Nat.le_refl _
  | succ d ih =>
    intro k hk
    have h1 := sumT_succ (Ts := Ts) (k := k) (by omega)
    have h2 := ih (k + 1) (by omega)
    omega
theorem concat_l0 {vs : List AVal} {Ts : List (List Trip)} {ib : Nat} {cap : Option Nat} (hP : Pieces L vs Ts) (hin : In ib vs L) (hS : sumT Ts Ts.length ≤ 1000) (hn : Ts.length ≤ 1000) :
    ∀ (d k : Nat) (t : Tr AVal), d + k = Ts.length → t.get 3 = some (aint (sumT Ts k)) → t.get 9 = some (.sl ib 0 Ts.length 1 cap) → t.get 10 = some (aint Ts.length) → t.get 11 = some (aint k) →
    WpO EX (.loop c_slices_Concat_api_Op_api_Op_l0) t L (fun ex t' L' => ex = .exit 0 ∧ Keep [0, 2] t t' ∧ t'.get 3 = some (aint (sumT Ts Ts.length)) ∧ L' = L) := by
  obtain ⟨hl, hp⟩ := hP
  intro d
  induction d with
  | zero =>
    intro k t hd h3 h9 h10 h11
    obtain rfl : k = Ts.length := by omega
    refine wo_loop ?_
    repeat (first | intro id | refine goq ?_)
    exact ⟨rfl, by exact keepq, by exact slotq, rfl⟩
  | succ d ih =>
    intro k t hd h3 h9 h10 h11
    obtain ⟨id, cp, tl, e1, e2, e3⟩ := hp k (by omega)
    have e4 := sumT_succ (Ts := Ts) (k := k) (by omega)
    have e5 := sumT_le (Ts := Ts) d (k + 1) (by omega)
    have e6 : vs[0 + k * 1]? = some (.sl id 0 (Ts.getD k []).length 6 cp) := by rw [Nat.zero_add, Nat.mul_one]; exact e1
    refine wo_loop ?_
    repeat (first | intro id | refine goq ?_)
    rw [← e4]
    refine WpO.mono (ih (k + 1) _ (by omega) ?_ ?_ ?_ ?_) ?_
    · exact slotq
    · exact slotq
    · exact slotq
    · exact slotq
    · rintro ex t' L' ⟨f1, f2, f3, f4⟩
      exact ⟨f1, Keep.trans (by exact keepq) f2, f3, f4⟩
theorem Pieces.weak {L L1 : Hp} {vs : List AVal} {Ts : List (List Trip)} (h : Pieces L vs Ts) (hs : ∀ id c, In id c L → In id c L1) : Pieces L1 vs Ts := ⟨h.1, fun k hk => by
  obtain ⟨id, cap, tl, e1, e2, e3⟩ := h.2 k hk
  exact ⟨id, cap, tl, e1, hs _ _ e2, e3⟩⟩
theorem zop_len (n : Nat) : (List.replicate n zop).flatten.length = n * 6 := by simp [List.length_flatten, zop]
theorem zop_drop {a b : Nat} (h : b ≤ a) : (List.replicate a zop).flatten.drop (b * 6) = (List.replicate (a - b) zop).flatten := by
  have e : List.replicate a zop = List.replicate b zop ++ List.replicate (a - b) zop := by rw [List.replicate_append_replicate, show b + (a - b) = a by omega]
  rw [e, List.flatten_append, ← zop_len b, List.drop_left]
theorem seg_tp {X : List Trip} {Z : List AVal} {n : Nat} (h : X.length = n) : seg (tpC X ++ Z) 0 (n * 6) = some (tpC X) := by
  subst h
  unfold seg
  have := tpC_len X
  rw [if_pos (by simp; omega), List.drop_zero, ← this, List.take_left]
theorem tpC_app (X Y : List Trip) : tpC (X ++ Y) = tpC X ++ tpC Y := by simp [tpC]
theorem take_flat {Ts : List (List Trip)} {k : Nat} (h : k < Ts.length) : (Ts.take (k + 1)).flatten = (Ts.take k).flatten ++ Ts.getD k [] := by
  rw [List.take_succ_eq_append_getElem h, List.flatten_append]
  simp only [List.flatten_cons, List.flatten_nil, List.append_nil, List.getD_eq_getElem?_getD, List.getElem?_eq_getElem h, Option.getD_some]
theorem flat_ok {Ts : List (List Trip)} (hF : TrOk Ts.flatten) (k : Nat) : TrOk (Ts.take k).flatten ∧ TrOk (Ts.getD k []) := by
  refine ⟨fun p hp => hF p ?_, fun p hp => hF p ?_⟩
  · obtain ⟨T, h1, h2⟩ := List.mem_flatten.1 hp
    exact List.mem_flatten.2 ⟨T, List.mem_of_mem_take h1, h2⟩
  · by_cases h : k < Ts.length
    · refine List.mem_flatten.2 ⟨Ts.getD k [], ?_, hp⟩
      rw [List.getD_eq_getElem?_getD, List.getElem?_eq_getElem h]
      exact List.getElem_mem h
    · rw [List.getD_eq_getElem?_getD, List.getElem?_eq_none (by omega)] at hp
      cases hp
theorem concat_l1 {vs : List AVal} {Ts : List (List Trip)} {ib : Nat} {cap : Option Nat} (hP : Pieces L vs Ts) (hin : In ib vs L) (hF : TrOk Ts.flatten) (hS : sumT Ts Ts.length ≤ 1000) (hn : Ts.length ≤ 1000) :
    ∀ (d k : Nat) (t : Tr AVal) (id : Nat), d + k = Ts.length → t.get 6 = some (.sl id 0 (sumT Ts k) 6 none) → t.get 25 = some (.sl ib 0 Ts.length 1 cap) → t.get 26 = some (aint Ts.length) → t.get 27 = some (aint k) →
    WpO EX (.loop c_slices_Concat_api_Op_api_Op_l1) t ((id, tpC (Ts.take k).flatten ++ (List.replicate (sumT Ts Ts.length - sumT Ts k) zop).flatten) :: L) (fun ex t' L' => ex = .exit 2 ∧ ∃ id, t'.get 6 = some (.sl id 0 (sumT Ts Ts.length) 6 none) ∧ L' = (id, tpC Ts.flatten) :: L) := by
  have hP0 := hP
  obtain ⟨hl, hp⟩ := hP
  intro d
  induction d with
  | zero =>
    intro k t id hd h6 h25 h26 h27
    obtain rfl : k = Ts.length := by omega
    refine wo_loop ?_
    repeat (first | intro id | refine goq ?_)
    refine ⟨rfl, id, by exact slotq, ?_⟩
    rw [Nat.sub_self, List.take_length]
    simp
  | succ d ih =>
    intro k t id hd h6 h25 h26 h27
    obtain ⟨ip, cp, tl, e1, e2, e3⟩ := hp k (by omega)
    have e4 := sumT_succ (Ts := Ts) (k := k) (by omega)
    have e5 := sumT_le (Ts := Ts) d (k + 1) (by omega)
    have e6 : vs[0 + k * 1]? = some (.sl ip 0 (Ts.getD k []).length 6 cp) := by rw [Nat.zero_add, Nat.mul_one]; exact e1
    refine wo_loop ?_
    repeat (first | intro id | refine goq ?_)
    obtain ⟨f1, f2⟩ := flat_ok hF k
    refine oo_appendR (k := sumT Ts k) (j := (Ts.getD k []).length) (cs := tpC (Ts.take k).flatten ++ (List.replicate (sumT Ts Ts.length - sumT Ts k) zop).flatten) wanted_none (by exact slotq) Rem.here (seg_tp rfl) (tpC_all f1) (by exact slotq) e2 (seg_tp rfl) e3 (tpC_all f2) (by omega) (by omega) ?_
    intro id2
    have hb : tpC (Ts.take k).flatten ++ tpC (Ts.getD k []) ++ (tpC (Ts.take k).flatten ++ (List.replicate (sumT Ts Ts.length - sumT Ts k) zop).flatten).drop (0 + (sumT Ts k + (Ts.getD k []).length) * 6) = tpC (Ts.take (k + 1)).flatten ++ (List.replicate (sumT Ts Ts.length - sumT Ts (k + 1)) zop).flatten := by
      have h1 : (tpC (Ts.take k).flatten).length = sumT Ts k * 6 := tpC_len _
      rw [show 0 + (sumT Ts k + (Ts.getD k []).length) * 6 = (tpC (Ts.take k).flatten).length + (Ts.getD k []).length * 6 by rw [h1]; omega, ← List.drop_drop, List.drop_left, zop_drop (by omega), take_flat (by omega), tpC_app, show sumT Ts Ts.length - sumT Ts k - (Ts.getD k []).length = sumT Ts Ts.length - sumT Ts (k + 1) by omega]
    rw [hb, ← e4]
    repeat (first | intro id | refine goq ?_)
    refine ih (k + 1) _ id2 (by omega) ?_ ?_ ?_ ?_
    · exact slotq
    · exact slotq
    · exact slotq
    · exact slotq
theorem Concat_open {vs : List AVal} {Ts : List (List Trip)} {ib : Nat} {cap : Option Nat} (hP : Pieces L vs Ts) (hin : In ib vs L) (hF : TrOk Ts.flatten) (hS : Ts.flatten.length ≤ 1000) (hpos : 0 < Ts.flatten.length) (hn : Ts.length ≤ 1000) : CallO EX f_slices_Concat_api_Op_api_Op [.sl ib 0 Ts.length 1 cap] L fun r L' => ∃ id, r = .sl id 0 Ts.flatten.length 6 none ∧ L' = (id, tpC Ts.flatten) :: L := by
  refine CallO.to (callO_open rfl n_slices_Concat_api_Op_api_Op ?_)
  have hs : sumT Ts Ts.length = Ts.flatten.length := by unfold sumT; rw [List.take_length]
  refine bodyO_of (Nat.le_of_ble_eq_true rfl) ?_; generalize ht : argSlots _ 0 .nil = t; have h0 : t.get 0 = some _ := (by rw [← ht]; rfl); clear ht
  repeat (first | intro id | refine goq ?_)
  refine WpO.mono (concat_l0 (cap := cap) hP hin (by omega) hn Ts.length 0 _ (by omega) ?_ ?_ ?_ ?_) ?_
  · rw [sumT_zero]
    exact slotq
  · exact slotq
  · exact slotq
  · exact slotq
  rintro ex t1 L1 ⟨rfl, hK, g3, rfl⟩
  have g0 : t1.get 0 = some (.sl ib 0 Ts.length 1 cap) := (hK.ex 0 rfl).trans (by exact slotq)
  rw [hs] at g3
  clear hK
  refine blkO.x (seqO.n ?_)
  repeat (first | intro id | refine goq ?_)
  refine gok ?_
  refine (Grow_open hpos (by omega)).mono ?_
  rintro r L' ⟨id, rfl, rfl⟩
  repeat (first | intro id | refine goq ?_)
  refine WpO.weak (WpO.mono (concat_l1 (cap := cap) hP hin hF (by omega) hn Ts.length 0 _ id (by omega) ?_ ?_ ?_ ?_) ?_) ?_
  · rw [sumT_zero]
    exact slotq
  · exact slotq
  · exact slotq
  · exact slotq
  · rintro ex t2 L2 ⟨rfl, id2, g6, rfl⟩
    rw [hs] at g6
    refine blkO.x (seqO.n ?_)
    repeat (first | intro id | refine goq ?_)
    ((first | apply retO_r | apply retO_n); (focus (exact resq)))
    exact ⟨_, Sub.refl _, id2, rfl, rfl⟩
  · rw [sumT_zero, Nat.sub_zero, hs]
    exact Sub.refl _
end Go.Proofs.YtmflheoafeenfaaGreat
namespace Go.Proofs.YtmflheoafeenfaaGreat
open Go.Am
set_option maxRecDepth 4000
set_option maxHeartbeats 16000000
theorem cloAll_ints (P : Nat → Prop) : ∀ l : List Int, cloAll P (l.map aint)
  | [] => trivial
  | x :: l => ⟨trivial, cloAll_ints P l⟩
theorem wtAll_ints : ∀ l : List Int, wtAll (l.map aint) = l.length
  | [] => rfl
  | x :: l => by
    rw [List.map_cons, wtAll, wtAll_ints l]
    simp [AVal.wt, aint]
    omega
theorem unseen_nil : ∀ L : Hp, unseen [] L = (L.map fun p => wtAll p.2).sum
  | [] => rfl
  | p :: L => by rw [unseen, unseen_nil L]; simp
section
variable {t : Tr AVal} {L : Hp} {K : Tr AVal → Hp → Prop} {l : List AO} {j nx : Nat} {done : List (Nat × Eff)}
theorem shut_g {i1 iq ia n1 n2 : Nat} {cap cap2 : Option Nat} {k : Int} {o : OpD} {q : List Int} (h1 : o.qs.length ≤ 10) (h2 : q.length ≤ 10) : Shut [(i1, opCells (.sl iq 0 n1 1 cap) o), (iq, o.qs.map aint), (ia, q.map aint)] [.fn (.func f_rewrite_written_1) [] [.ptr i1 0], aint k, .sl ia 0 n2 1 cap2] where
  cells := by
    intro p hp
    simp only [List.mem_cons, List.not_mem_nil, or_false] at hp
    rcases hp with rfl | rfl | rfl
    · simp [opCells, cloAll, AVal.clo, Named, aint]
    · exact cloAll_ints _ _
    · exact cloAll_ints _ _
  vals := by simp [cloAll, AVal.clo, Named, aint]
  size := by
    rw [unseen_nil]
    simp only [List.map_cons, List.map_nil, wtAll_ints, List.sum_cons, List.sum_nil, opCells, wtAll, AVal.wt, aint]
    omega
  cov := by
    intro ids h1 h2 p hp
    simp only [cloAll, AVal.clo, and_true, true_and, aint] at h1
    have h3 := h2 (i1, opCells (.sl iq 0 n1 1 cap) o) (by simp) h1.1
    simp only [opCells, cloAll, AVal.clo, and_true, true_and, aint] at h3
    simp only [List.mem_cons, List.not_mem_nil, or_false] at hp
    rcases hp with rfl | rfl | rfl
    · exact h1.1
    · exact h3
    · exact h1.2
theorem shut_cx {i1 iq i3 n1 : Nat} {cap : Option Nat} {a b : Int} {o : OpD} (h1 : o.qs.length ≤ 10) : Shut [(i3, [.fn (.func f_rewrite_written_1) [] [.ptr i1 0]]), (i1, opCells (.sl iq 0 n1 1 cap) o), (iq, o.qs.map aint)] [.fn (.func f_rewrite_written_2) [] [.ptr i3 0], aint a, aint b] where
  cells := by
    intro p hp
    simp only [List.mem_cons, List.not_mem_nil, or_false] at hp
    rcases hp with rfl | rfl | rfl
    · simp [cloAll, AVal.clo, Named]
    · simp [opCells, cloAll, AVal.clo, Named, aint]
    · exact cloAll_ints _ _
  vals := by simp [cloAll, AVal.clo, Named, aint]
  size := by
    rw [unseen_nil]
    simp only [List.map_cons, List.map_nil, wtAll_ints, List.sum_cons, List.sum_nil, opCells, wtAll, AVal.wt, aint]
    omega
  cov := by
    intro ids h1 h2 p hp
    simp only [cloAll, AVal.clo, and_true, true_and, aint] at h1
    have h3 := h2 (i3, [.fn (.func f_rewrite_written_1) [] [.ptr i1 0]]) (by simp) h1
    simp only [cloAll, AVal.clo, and_true, true_and] at h3
    have h4 := h2 (i1, opCells (.sl iq 0 n1 1 cap) o) (by simp) h3
    simp only [opCells, cloAll, AVal.clo, and_true, true_and, aint] at h4
    simp only [List.mem_cons, List.not_mem_nil, or_false] at hp
    rcases hp with rfl | rfl | rfl
    · exact h1
    · exact h3
    · exact h4
theorem dro_g {d a i1 iq ia n1 : Nat} {x : Arg} {xs : List Arg} {cap : Option Nat} {k : Int} {o : OpD} {q : List Int} (h1 : o.qs.length ≤ 10) (h2 : q.length ≤ 10)
    (hx : argAll (restrict t (slotsOf ⟨some d, .call x xs, none, a⟩)) (x :: xs) = some [.fn (.func f_rewrite_written_1) [] [.ptr i1 0], aint k, .sl ia 0 q.length 1 (some q.length)])
    (hL : Am.Sub [(i1, opCells (.sl iq 0 n1 1 cap) o), (iq, o.qs.map aint), (ia, q.map aint)] L)
    (ha : ∀ ids, Fresh L nx → apartFrom (fpOf ⟨some d, .call x xs, none, a⟩ ids false nx (nx + 1)) done = true)
    (h : ∀ ids, DrO EX (j + 1) ((j, fpOf ⟨some d, .call x xs, none, a⟩ ids false nx (nx + 1)) :: done) l (t.set d (some (.sl nx 0 1 6 (some 1)))) ((nx, opCells (.sl ia 0 q.length 1 (some q.length)) (gq o k q)) :: L) (nx + 1) K) : DrO EX j done (⟨some d, .call x xs, none, a⟩ :: l) t L nx K :=
  dro_callX (b1 := []) (b2 := [.ptr i1 0]) (vs := [aint k, .sl ia 0 q.length 1 (some q.length)]) hx hL (shut_g h1 h2) (g_x (u := .sl iq 0 n1 1 cap) (o := o) (by simp) rfl) ha h
theorem dro_cx {d a i1 iq i3 n1 : Nat} {x : Arg} {xs : List Arg} {cap : Option Nat} {p q : Int} {o : OpD} (h1 : o.qs.length ≤ 10)
    (hx : argAll (restrict t (slotsOf ⟨some d, .call x xs, none, a⟩)) (x :: xs) = some [.fn (.func f_rewrite_written_2) [] [.ptr i3 0], aint p, aint q])
    (hL : Am.Sub [(i3, [.fn (.func f_rewrite_written_1) [] [.ptr i1 0]]), (i1, opCells (.sl iq 0 n1 1 cap) o), (iq, o.qs.map aint)] L)
    (ha : ∀ ids, Fresh L nx → apartFrom (fpOf ⟨some d, .call x xs, none, a⟩ ids false nx (nx + 2)) done = true)
    (h : ∀ ids, DrO EX (j + 1) ((j, fpOf ⟨some d, .call x xs, none, a⟩ ids false nx (nx + 2)) :: done) l (t.set d (some (.sl (nx + 1) 0 1 6 (some 1)))) ((nx + 1, opCells (.sl nx 0 2 1 (some 2)) (gq o 11 [p, q])) :: (nx, [p, q].map aint) :: L) (nx + 2) K) : DrO EX j done (⟨some d, .call x xs, none, a⟩ :: l) t L nx K :=
  dro_callX (b1 := []) (b2 := [.ptr i3 0]) (vs := [aint p, aint q]) hx hL (shut_cx h1) (cx_x (i1 := i1) (u := .sl iq 0 n1 1 cap) (o := o) (by simp) (by simp)) ha h
end
/-- Pieces to be put together: a box, what lies in it. -/
abbrev Piece := Nat × List Trip × Option Nat
def pcV (ps : List Piece) : List AVal := ps.map fun p => .sl p.1 0 p.2.1.length 6 p.2.2
def pcB (ps : List Piece) : Hp := ps.map fun p => (p.1, tpC p.2.1)
def pcT (ps : List Piece) : List Trip := ps.flatMap fun p => p.2.1
theorem pcT_flat (ps : List Piece) : pcT ps = (ps.map fun p => p.2.1).flatten := by simp [pcT, List.flatMap]
theorem in_of_mem {L : Hp} : ∀ {p : Nat × List AVal}, p ∈ L → In p.1 p.2 L := by
  induction L with
  | nil => intro p h; cases h
  | cons q L ih =>
    intro p h
    rcases List.mem_cons.1 h with rfl | h
    · exact .here
    · exact .next (ih h)
theorem pieces_of {ps : List Piece} {L : Hp} (h : ∀ p ∈ ps, In p.1 (tpC p.2.1) L ∧ 0 < p.2.1.length) : Pieces L (pcV ps) (ps.map fun p => p.2.1) := by
  refine ⟨by simp [pcV], fun k hk => ?_⟩
  have hk' : k < ps.length := by simpa [pcV] using hk
  obtain ⟨h1, h2⟩ := h ps[k] (List.getElem_mem hk')
  refine ⟨ps[k].1, ps[k].2.2, [], ?_, ?_, ?_⟩
  · simp [pcV, hk']
  · simpa [hk'] using h1
  · simpa [hk'] using h2
theorem tpC_clo {P : Nat → Prop} {T : List Trip} (h : ∀ p ∈ T, p.u.clo P) : cloAll P (tpC T) := by
  induction T with
  | nil => exact trivial
  | cons p T ih =>
    have e : tpC (p :: T) = opCells p.u p.o ++ tpC T := by simp [tpC]
    rw [e, cloAll_app]
    refine ⟨?_, ih fun q hq => h q (by simp [hq])⟩
    simp only [opCells, cloAll, AVal.clo, and_true, true_and, aint]
    exact h p (by simp)
theorem clo_tpC {P : Nat → Prop} {T : List Trip} (h : cloAll P (tpC T)) : ∀ p ∈ T, p.u.clo P := by
  induction T with
  | nil => intro p hp; cases hp
  | cons q T ih =>
    have e : tpC (q :: T) = opCells q.u q.o ++ tpC T := by simp [tpC]
    rw [e, cloAll_app] at h
    intro p hp
    rcases List.mem_cons.1 hp with rfl | hp
    · have := h.1
      simp only [opCells, cloAll, AVal.clo, and_true, true_and, aint] at this
      exact this
    · exact ih h.2 p hp
theorem shut_concat {ps : List Piece} {ib n : Nat} {cap : Option Nat} (hT : TrOk (pcT ps)) (hs : 2 + wtAll (pcV ps) + (((pcB ps) ++ tpH (pcT ps)).map fun p => wtAll p.2).sum ≤ 100000) : Shut ((ib, pcV ps) :: (pcB ps ++ tpH (pcT ps))) [.fn (.func f_slices_Concat_api_Op_api_Op) [] [], .sl ib 0 n 1 cap] := by
  have hown : ∀ p ∈ ps, ∀ q ∈ p.2.1, q ∈ pcT ps := fun p hp q hq => List.mem_flatMap.2 ⟨p, hp, hq⟩
  have hpv : ∀ (P : Nat → Prop), cloAll P (pcV ps) ↔ ∀ p ∈ ps, P p.1 := by
    intro P
    unfold pcV
    clear hT hs hown
    induction ps with
    | nil => simp [cloAll]
    | cons p ps ih => simp [cloAll, AVal.clo, ih]
  refine ⟨fun p hp => ?_, ?_, ?_, fun ids h1 h2 p hp => ?_⟩
  · rcases List.mem_cons.1 hp with rfl | hp
    · exact (hpv _).2 fun p hp => ⟨(p.1, tpC p.2.1), List.mem_cons_of_mem _ (List.mem_append_left _ (List.mem_map.2 ⟨p, hp, rfl⟩)), rfl⟩
    · rcases List.mem_append.1 hp with hp | hp
      · obtain ⟨x, hx, rfl⟩ := List.mem_map.1 hp
        refine tpC_clo fun q hq => ?_
        have hqT := hown x hx q hq
        rcases (hT q hqT).1 with ⟨e, -, -⟩ | ⟨id, cp, e, e2⟩
        · rw [e]; simp [AVal.clo, anil]
        · rw [e]
          simp only [AVal.clo]
          refine ⟨(id, q.o.qs.map aint), List.mem_cons_of_mem _ (List.mem_append_right _ (List.mem_flatMap.2 ⟨q, hqT, ?_⟩)), rfl⟩
          rw [e2]; simp
      · obtain ⟨q, hq, hqp⟩ := List.mem_flatMap.1 hp
        rcases (hT q hq).1 with ⟨-, -, e⟩ | ⟨id, cp, e, e2⟩
        · rw [e] at hqp; cases hqp
        · rw [e2] at hqp
          simp only [List.mem_cons, List.not_mem_nil, or_false] at hqp
          subst hqp
          exact cloAll_ints _ _
  · simp [cloAll, AVal.clo, Named]
  · rw [unseen_nil]
    simp only [List.map_cons, List.sum_cons, wtAll, AVal.wt]
    omega
  · simp only [cloAll, AVal.clo, and_true, true_and] at h1
    have h3 := (hpv _).1 (h2 (ib, pcV ps) (by simp) h1)
    rcases List.mem_cons.1 hp with rfl | hp
    · exact h1
    · rcases List.mem_append.1 hp with hp | hp
      · obtain ⟨x, hx, rfl⟩ := List.mem_map.1 hp
        exact h3 x hx
      · obtain ⟨q, hq, hqp⟩ := List.mem_flatMap.1 hp
        obtain ⟨x, hx, hxq⟩ := List.mem_flatMap.1 hq
        have h4 := clo_tpC (h2 (x.1, tpC x.2.1) (List.mem_cons_of_mem _ (List.mem_append_left _ (List.mem_map.2 ⟨x, hx, rfl⟩))) (h3 x hx)) q hxq
        rcases (hT q hq).1 with ⟨-, -, e⟩ | ⟨id, cp, e, e2⟩
        · rw [e] at hqp; cases hqp
        · rw [e2] at hqp
          simp only [List.mem_cons, List.not_mem_nil, or_false] at hqp
          subst hqp
          rw [e] at h4
          exact h4
section
variable {t : Tr AVal} {L : Hp} {K : Tr AVal → Hp → Prop} {l : List AO} {j nx : Nat} {done : List (Nat × Eff)}
theorem dro_concat {d a ib : Nat} {x : Arg} {ps : List Piece} {cap : Option Nat} (hT : TrOk (pcT ps)) (hp : ∀ p ∈ ps, 0 < p.2.1.length) (hn : ps.length ≤ 1000) (h0 : 0 < (pcT ps).length) (hm : (pcT ps).length ≤ 1000) (hs : 2 + wtAll (pcV ps) + (((pcB ps) ++ tpH (pcT ps)).map fun p => wtAll p.2).sum ≤ 100000)
    (hx : x.get (restrict t (slotsOf ⟨some d, .call (.k (.fn (.func f_slices_Concat_api_Op_api_Op) [] [])) [x], none, a⟩)) = some (.sl ib 0 ps.length 1 cap))
    (hL : Am.Sub ((ib, pcV ps) :: (pcB ps ++ tpH (pcT ps))) L)
    (ha : ∀ ids wr hi, Fresh L nx → apartFrom (fpOf ⟨some d, .call (.k (.fn (.func f_slices_Concat_api_Op_api_Op) [] [])) [x], none, a⟩ ids wr nx hi) done = true)
    (h : ∀ id ids wr hi, DrO EX (j + 1) ((j, fpOf ⟨some d, .call (.k (.fn (.func f_slices_Concat_api_Op_api_Op) [] [])) [x], none, a⟩ ids wr nx hi) :: done) l (t.set d (some (.sl id 0 (pcT ps).length 6 none))) ((id, tpC (pcT ps)) :: L) hi K) : DrO EX j done (⟨some d, .call (.k (.fn (.func f_slices_Concat_api_Op_api_Op) [] [])) [x], none, a⟩ :: l) t L nx K := by
  refine dro_callK (J := fun v N => ∃ id, v = .sl id 0 (pcT ps).length 6 none ∧ N = [(id, tpC (pcT ps))]) EX_all (b1 := []) (b2 := []) (vs := [.sl ib 0 ps.length 1 cap]) (argAll_cons rfl (argAll_cons hx argAll_nil)) hL (shut_concat hT hs) ?_ (fun ids wr hi _ => ha ids wr hi) ?_
  · have hl : (ps.map fun p => p.2.1).length = ps.length := by simp
    rw [pcT_flat] at hT h0 hm
    have := Concat_open (L := (ib, pcV ps) :: (pcB ps ++ tpH (pcT ps))) (vs := pcV ps) (Ts := ps.map fun p => p.2.1) (ib := ib) (cap := cap) (pieces_of fun p hp' => ⟨in_of_mem (p := (p.1, tpC p.2.1)) (List.mem_cons_of_mem _ (List.mem_append_left _ (List.mem_map.2 ⟨p, hp', rfl⟩))), hp p hp'⟩) .here hT hm h0 (by omega)
    rw [hl, ← pcT_flat] at this
    refine this.mono ?_
    rintro r L' ⟨id, rfl, rfl⟩
    exact ⟨_, ⟨id, rfl, rfl⟩, rfl⟩
  · rintro v N ids wr hi ⟨id, rfl, rfl⟩ - -
    exact h id ids wr hi
end
end Go.Proofs.YtmflheoafeenfaaGreat
