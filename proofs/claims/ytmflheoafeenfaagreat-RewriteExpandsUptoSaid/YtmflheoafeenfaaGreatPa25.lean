/- Parts of the proof, joined by program: RwY4, RwY5. -/
import Derived.Test.YtmflheoafeenfaaGreatPa24
set_option linter.unusedSimpArgs false
set_option linter.unusedVariables false
namespace Go.Proofs.YtmflheoafeenfaaGreat
open Go.Am
set_option maxRecDepth 4000
set_option maxHeartbeats 16000000
/-- A gate in a box of its own. -/
def gT (o : OpD) (id : Nat) (k : Int) (q : List Int) : Trip := ⟨.sl id 0 q.length 1 (some q.length), gq o k q, [(id, q.map aint)]⟩
theorem trOk_nil : TrOk [] := fun p hp => (List.not_mem_nil hp).elim
theorem trOk_g {o : OpD} {id : Nat} {k : Int} {q : List Int} {T : List Trip} (h : q.length < 2 ^ 62) (hT : TrOk T) : TrOk (gT o id k q :: T) := fun p hp => by
  rcases List.mem_cons.1 hp with rfl | hp
  · exact ⟨.inr ⟨id, _, rfl, rfl⟩, h⟩
  · exact hT p hp
def czT (o : OpD) (a b : Int) (j1 j2 j3 : Nat) : List Trip := [gT o j1 9 [b], gT o j2 11 [a, b], gT o j3 10 [b]]
def swT (o : OpD) (a b : Int) (j1 j2 j3 : Nat) : List Trip := [gT o j1 11 [a, b], gT o j2 11 [b, a], gT o j3 11 [a, b]]
variable {t : Tr AVal} {L : Hp} {i1 i3 iq n1 : Nat} {cap : Option Nat} {a b c : Int} {o : OpD}
theorem wr_r8 (hq : o.qs.length ≤ 10) (h3 : t.get 3 = some (.ptr i3 0)) (h5 : t.get 5 = some (aint a)) (h6 : t.get 6 = some (aint b)) (h7 : t.get 7 = some (aint c)) (h8 : t.get 8 = some (.fn (.func f_rewrite_written_2) [] [.ptr i3 0])) : WpO EX (.reg c_rewrite_written_r8 true) t ((i3, [.fn (.func f_rewrite_written_1) [] [.ptr i1 0]]) :: (i1, opCells (.sl iq 0 n1 1 cap) o) :: (iq, o.qs.map aint) :: L) (fun ex t' L' => ex = .normal ∧ Keep [1, 3, 5, 6, 7, 8, 9] t t' ∧ ∃ (id j1 j2 j3 : Nat), t'.get 10 = some (.sl id 0 3 6 none) ∧ Am.Sub ((id, tpC [gT o j1 9 [b], gT o j2 11 [a, b], gT o j3 10 [b]]) :: (tpH [gT o j1 9 [b], gT o j2 11 [a, b], gT o j3 10 [b]] ++ ((i3, [.fn (.func f_rewrite_written_1) [] [.ptr i1 0]]) :: (i1, opCells (.sl iq 0 n1 1 cap) o) :: (iq, o.qs.map aint) :: L))) L') := by
  refine wo_drawn (by kernel_rfl) ?_
  intro nx
  refine dro_fresh ?_
  intro hfr0
  have hlt : i3 < nx := hfr0.2 (i3, [.fn (.func f_rewrite_written_1) [] [.ptr i1 0]]) List.mem_cons_self
  clear hfr0
  repeat (refine goz ?_)
  refine dro_g (iq := iq) (o := o) (k := 9) (q := [b]) hq (by simp) (argAll_cons (by first | rfl | exact rslotq) (argAll_cons (by first | rfl | exact rslotq) (argAll_cons (by first | rfl | exact rslotq) argAll_nil))) (by exact subq) (fun ids hfr => by exact aptq) ?_
  intro ids
  repeat (refine goz ?_)
  refine dro_cx (iq := iq) (o := o) (p := a) (q := b) hq (argAll_cons (by first | rfl | exact rslotq) (argAll_cons (by first | rfl | exact rslotq) (argAll_cons (by first | rfl | exact rslotq) argAll_nil))) (by exact subq) (fun ids hfr => by exact aptq) ?_
  intro ids
  repeat (refine goz ?_)
  refine dro_g (iq := iq) (o := o) (k := 10) (q := [b]) hq (by simp) (argAll_cons (by first | rfl | exact rslotq) (argAll_cons (by first | rfl | exact rslotq) (argAll_cons (by first | rfl | exact rslotq) argAll_nil))) (by exact subq) (fun ids hfr => by exact aptq) ?_
  intro ids
  repeat (refine goz ?_)
  refine dro_concat (ps := [(nx + 1, [gT o (nx) 9 [b]], some 1), (nx + 1 + 1 + 1, [gT o (nx + 1 + 1) 11 [a, b]], some 1), (nx + 1 + 1 + 2 + 1, [gT o (nx + 1 + 1 + 2) 10 [b]], some 1)]) (trOk_g (by simp) (trOk_g (by simp) (trOk_g (by simp) trOk_nil))) (by simp [czT, swT]) (by simp) (by simp [pcT, czT, swT]) (by simp [pcT, czT, swT]) (by simp only [pcV, pcB, pcT, gT, czT, swT, List.map_cons, List.map_nil, List.flatMap_cons, List.flatMap_nil, List.append_nil, tpC, tpH, List.cons_append, List.nil_append, List.length_cons, List.length_nil, Nat.reduceAdd]; simp [wtAll, AVal.wt, opCells, aint]) (by exact rslotq) (by simp only [pcV, pcB, pcT, gT, czT, swT, List.map_cons, List.map_nil, List.flatMap_cons, List.flatMap_nil, List.append_nil, tpC, tpH, List.cons_append, List.nil_append, List.length_cons, List.length_nil, Nat.reduceAdd]; exact subq) (fun ids wr hi hfr => by exact aptq) ?_
  intro id ids wr hi
  repeat (refine goz ?_)
  refine ⟨rfl, by exact keepq, id, (nx), (nx + 1 + 1), (nx + 1 + 1 + 2), by exact slotq, ?_⟩
  simp only [pcV, pcB, pcT, gT, czT, swT, List.map_cons, List.map_nil, List.flatMap_cons, List.flatMap_nil, List.append_nil, tpC, tpH, List.cons_append, List.nil_append, List.length_cons, List.length_nil, Nat.reduceAdd]
  exact subq
theorem wr_r13 {icz c1 c2 c3 isw s1 s2 s3 : Nat} (hq : o.qs.length ≤ 10) (h3 : t.get 3 = some (.ptr i3 0)) (h5 : t.get 5 = some (aint a)) (h6 : t.get 6 = some (aint b)) (h7 : t.get 7 = some (aint c)) (h8 : t.get 8 = some (.fn (.func f_rewrite_written_2) [] [.ptr i3 0])) (h9 : t.get 9 = some (.sl isw 0 3 6 none)) (h10 : t.get 10 = some (.sl icz 0 3 6 none)) : WpO EX (.reg c_rewrite_written_r13 true) t ((i3, [.fn (.func f_rewrite_written_1) [] [.ptr i1 0]]) :: (i1, opCells (.sl iq 0 n1 1 cap) o) :: (iq, o.qs.map aint) :: (icz, tpC (czT o a b c1 c2 c3)) :: (c1, [b].map aint) :: (c2, [a, b].map aint) :: (c3, [b].map aint) :: (isw, tpC (swT o a b s1 s2 s3)) :: (s1, [a, b].map aint) :: (s2, [b, a].map aint) :: (s3, [a, b].map aint) :: L) (fun ex t' L' => ex = .normal ∧ Keep [1] t t' ∧ ∃ (id j1 j2 j3 j4 j5 j6 j7 j8 : Nat), t'.get 2 = some (.sl id 0 8 6 none) ∧ Am.Sub ((id, tpC [gT o j1 5 [a], gT o j2 5 [b], gT o j3 9 [b], gT o j4 11 [a, b], gT o j5 10 [b], gT o j6 11 [a, b], gT o j7 11 [b, a], gT o j8 11 [a, b]]) :: (tpH [gT o j1 5 [a], gT o j2 5 [b], gT o j3 9 [b], gT o j4 11 [a, b], gT o j5 10 [b], gT o j6 11 [a, b], gT o j7 11 [b, a], gT o j8 11 [a, b]] ++ ((i3, [.fn (.func f_rewrite_written_1) [] [.ptr i1 0]]) :: (i1, opCells (.sl iq 0 n1 1 cap) o) :: (iq, o.qs.map aint) :: L))) L') := by
  refine wo_drawn (by kernel_rfl) ?_
  intro nx
  refine dro_fresh ?_
  intro hfr0
  have hlt : i3 < nx := hfr0.2 (i3, [.fn (.func f_rewrite_written_1) [] [.ptr i1 0]]) List.mem_cons_self
  clear hfr0
  repeat (refine goz ?_)
  refine dro_g (iq := iq) (o := o) (k := 5) (q := [a]) hq (by simp) (argAll_cons (by first | rfl | exact rslotq) (argAll_cons (by first | rfl | exact rslotq) (argAll_cons (by first | rfl | exact rslotq) argAll_nil))) (by exact subq) (fun ids hfr => by exact aptq) ?_
  intro ids
  repeat (refine goz ?_)
  refine dro_g (iq := iq) (o := o) (k := 5) (q := [b]) hq (by simp) (argAll_cons (by first | rfl | exact rslotq) (argAll_cons (by first | rfl | exact rslotq) (argAll_cons (by first | rfl | exact rslotq) argAll_nil))) (by exact subq) (fun ids hfr => by exact aptq) ?_
  intro ids
  repeat (refine goz ?_)
  refine dro_concat (ps := [(nx + 1, [gT o (nx) 5 [a]], some 1), (nx + 1 + 1 + 1, [gT o (nx + 1 + 1) 5 [b]], some 1), (icz, czT o a b c1 c2 c3, none), (isw, swT o a b s1 s2 s3, none)]) (trOk_g (by simp) (trOk_g (by simp) (trOk_g (by simp) (trOk_g (by simp) (trOk_g (by simp) (trOk_g (by simp) (trOk_g (by simp) (trOk_g (by simp) trOk_nil)))))))) (by simp [czT, swT]) (by simp) (by simp [pcT, czT, swT]) (by simp [pcT, czT, swT]) (by simp only [pcV, pcB, pcT, gT, czT, swT, List.map_cons, List.map_nil, List.flatMap_cons, List.flatMap_nil, List.append_nil, tpC, tpH, List.cons_append, List.nil_append, List.length_cons, List.length_nil, Nat.reduceAdd]; simp [wtAll, AVal.wt, opCells, aint]) (by exact rslotq) (by simp only [pcV, pcB, pcT, gT, czT, swT, List.map_cons, List.map_nil, List.flatMap_cons, List.flatMap_nil, List.append_nil, tpC, tpH, List.cons_append, List.nil_append, List.length_cons, List.length_nil, Nat.reduceAdd]; exact subq) (fun ids wr hi hfr => by exact aptq) ?_
  intro id ids wr hi
  repeat (refine goz ?_)
  refine ⟨rfl, by exact keepq, id, (nx), (nx + 1 + 1), c1, c2, c3, s1, s2, s3, by exact slotq, ?_⟩
  simp only [pcV, pcB, pcT, gT, czT, swT, List.map_cons, List.map_nil, List.flatMap_cons, List.flatMap_nil, List.append_nil, tpC, tpH, List.cons_append, List.nil_append, List.length_cons, List.length_nil, Nat.reduceAdd]
  exact subq
theorem wr_r15 {icz c1 c2 c3 isw s1 s2 s3 : Nat} (hq : o.qs.length ≤ 10) (h3 : t.get 3 = some (.ptr i3 0)) (h5 : t.get 5 = some (aint a)) (h6 : t.get 6 = some (aint b)) (h7 : t.get 7 = some (aint c)) (h8 : t.get 8 = some (.fn (.func f_rewrite_written_2) [] [.ptr i3 0])) (h9 : t.get 9 = some (.sl isw 0 3 6 none)) (h10 : t.get 10 = some (.sl icz 0 3 6 none)) : WpO EX (.reg c_rewrite_written_r15 true) t ((i3, [.fn (.func f_rewrite_written_1) [] [.ptr i1 0]]) :: (i1, opCells (.sl iq 0 n1 1 cap) o) :: (iq, o.qs.map aint) :: (icz, tpC (czT o a b c1 c2 c3)) :: (c1, [b].map aint) :: (c2, [a, b].map aint) :: (c3, [b].map aint) :: (isw, tpC (swT o a b s1 s2 s3)) :: (s1, [a, b].map aint) :: (s2, [b, a].map aint) :: (s3, [a, b].map aint) :: L) (fun ex t' L' => ex = .normal ∧ Keep [1] t t' ∧ ∃ (id j1 j2 j3 j4 j5 j6 j7 j8 : Nat), t'.get 2 = some (.sl id 0 8 6 none) ∧ Am.Sub ((id, tpC [gT o j1 11 [a, b], gT o j2 11 [b, a], gT o j3 11 [a, b], gT o j4 9 [b], gT o j5 11 [a, b], gT o j6 10 [b], gT o j7 6 [a], gT o j8 6 [b]]) :: (tpH [gT o j1 11 [a, b], gT o j2 11 [b, a], gT o j3 11 [a, b], gT o j4 9 [b], gT o j5 11 [a, b], gT o j6 10 [b], gT o j7 6 [a], gT o j8 6 [b]] ++ ((i3, [.fn (.func f_rewrite_written_1) [] [.ptr i1 0]]) :: (i1, opCells (.sl iq 0 n1 1 cap) o) :: (iq, o.qs.map aint) :: L))) L') := by
  refine wo_drawn (by kernel_rfl) ?_
  intro nx
  refine dro_fresh ?_
  intro hfr0
  have hlt : i3 < nx := hfr0.2 (i3, [.fn (.func f_rewrite_written_1) [] [.ptr i1 0]]) List.mem_cons_self
  clear hfr0
  repeat (refine goz ?_)
  refine dro_g (iq := iq) (o := o) (k := 6) (q := [a]) hq (by simp) (argAll_cons (by first | rfl | exact rslotq) (argAll_cons (by first | rfl | exact rslotq) (argAll_cons (by first | rfl | exact rslotq) argAll_nil))) (by exact subq) (fun ids hfr => by exact aptq) ?_
  intro ids
  repeat (refine goz ?_)
  refine dro_g (iq := iq) (o := o) (k := 6) (q := [b]) hq (by simp) (argAll_cons (by first | rfl | exact rslotq) (argAll_cons (by first | rfl | exact rslotq) (argAll_cons (by first | rfl | exact rslotq) argAll_nil))) (by exact subq) (fun ids hfr => by exact aptq) ?_
  intro ids
  repeat (refine goz ?_)
  refine dro_concat (ps := [(isw, swT o a b s1 s2 s3, none), (icz, czT o a b c1 c2 c3, none), (nx + 1, [gT o (nx) 6 [a]], some 1), (nx + 1 + 1 + 1, [gT o (nx + 1 + 1) 6 [b]], some 1)]) (trOk_g (by simp) (trOk_g (by simp) (trOk_g (by simp) (trOk_g (by simp) (trOk_g (by simp) (trOk_g (by simp) (trOk_g (by simp) (trOk_g (by simp) trOk_nil)))))))) (by simp [czT, swT]) (by simp) (by simp [pcT, czT, swT]) (by simp [pcT, czT, swT]) (by simp only [pcV, pcB, pcT, gT, czT, swT, List.map_cons, List.map_nil, List.flatMap_cons, List.flatMap_nil, List.append_nil, tpC, tpH, List.cons_append, List.nil_append, List.length_cons, List.length_nil, Nat.reduceAdd]; simp [wtAll, AVal.wt, opCells, aint]) (by exact rslotq) (by simp only [pcV, pcB, pcT, gT, czT, swT, List.map_cons, List.map_nil, List.flatMap_cons, List.flatMap_nil, List.append_nil, tpC, tpH, List.cons_append, List.nil_append, List.length_cons, List.length_nil, Nat.reduceAdd]; exact subq) (fun ids wr hi hfr => by exact aptq) ?_
  intro id ids wr hi
  repeat (refine goz ?_)
  refine ⟨rfl, by exact keepq, id, s1, s2, s3, c1, c2, c3, (nx), (nx + 1 + 1), by exact slotq, ?_⟩
  simp only [pcV, pcB, pcT, gT, czT, swT, List.map_cons, List.map_nil, List.flatMap_cons, List.flatMap_nil, List.append_nil, tpC, tpH, List.cons_append, List.nil_append, List.length_cons, List.length_nil, Nat.reduceAdd]
  exact subq
theorem wr_r17 (hq : o.qs.length ≤ 10) (h3 : t.get 3 = some (.ptr i3 0)) (h5 : t.get 5 = some (aint a)) (h6 : t.get 6 = some (aint b)) (h7 : t.get 7 = some (aint c)) (h8 : t.get 8 = some (.fn (.func f_rewrite_written_2) [] [.ptr i3 0])) : WpO EX (.reg c_rewrite_written_r17 true) t ((i3, [.fn (.func f_rewrite_written_1) [] [.ptr i1 0]]) :: (i1, opCells (.sl iq 0 n1 1 cap) o) :: (iq, o.qs.map aint) :: L) (fun ex t' L' => ex = .normal ∧ Keep [1] t t' ∧ ∃ (id j1 j2 j3 : Nat), t'.get 2 = some (.sl id 0 3 6 none) ∧ Am.Sub ((id, tpC [gT o j1 6 [b], gT o j2 11 [a, b], gT o j3 5 [b]]) :: (tpH [gT o j1 6 [b], gT o j2 11 [a, b], gT o j3 5 [b]] ++ ((i3, [.fn (.func f_rewrite_written_1) [] [.ptr i1 0]]) :: (i1, opCells (.sl iq 0 n1 1 cap) o) :: (iq, o.qs.map aint) :: L))) L') := by
  refine wo_drawn (by kernel_rfl) ?_
  intro nx
  refine dro_fresh ?_
  intro hfr0
  have hlt : i3 < nx := hfr0.2 (i3, [.fn (.func f_rewrite_written_1) [] [.ptr i1 0]]) List.mem_cons_self
  clear hfr0
  repeat (refine goz ?_)
  refine dro_g (iq := iq) (o := o) (k := 6) (q := [b]) hq (by simp) (argAll_cons (by first | rfl | exact rslotq) (argAll_cons (by first | rfl | exact rslotq) (argAll_cons (by first | rfl | exact rslotq) argAll_nil))) (by exact subq) (fun ids hfr => by exact aptq) ?_
  intro ids
  repeat (refine goz ?_)
  refine dro_cx (iq := iq) (o := o) (p := a) (q := b) hq (argAll_cons (by first | rfl | exact rslotq) (argAll_cons (by first | rfl | exact rslotq) (argAll_cons (by first | rfl | exact rslotq) argAll_nil))) (by exact subq) (fun ids hfr => by exact aptq) ?_
  intro ids
  repeat (refine goz ?_)
  refine dro_g (iq := iq) (o := o) (k := 5) (q := [b]) hq (by simp) (argAll_cons (by first | rfl | exact rslotq) (argAll_cons (by first | rfl | exact rslotq) (argAll_cons (by first | rfl | exact rslotq) argAll_nil))) (by exact subq) (fun ids hfr => by exact aptq) ?_
  intro ids
  repeat (refine goz ?_)
  refine dro_concat (ps := [(nx + 1, [gT o (nx) 6 [b]], some 1), (nx + 1 + 1 + 1, [gT o (nx + 1 + 1) 11 [a, b]], some 1), (nx + 1 + 1 + 2 + 1, [gT o (nx + 1 + 1 + 2) 5 [b]], some 1)]) (trOk_g (by simp) (trOk_g (by simp) (trOk_g (by simp) trOk_nil))) (by simp [czT, swT]) (by simp) (by simp [pcT, czT, swT]) (by simp [pcT, czT, swT]) (by simp only [pcV, pcB, pcT, gT, czT, swT, List.map_cons, List.map_nil, List.flatMap_cons, List.flatMap_nil, List.append_nil, tpC, tpH, List.cons_append, List.nil_append, List.length_cons, List.length_nil, Nat.reduceAdd]; simp [wtAll, AVal.wt, opCells, aint]) (by exact rslotq) (by simp only [pcV, pcB, pcT, gT, czT, swT, List.map_cons, List.map_nil, List.flatMap_cons, List.flatMap_nil, List.append_nil, tpC, tpH, List.cons_append, List.nil_append, List.length_cons, List.length_nil, Nat.reduceAdd]; exact subq) (fun ids wr hi hfr => by exact aptq) ?_
  intro id ids wr hi
  repeat (refine goz ?_)
  refine ⟨rfl, by exact keepq, id, (nx), (nx + 1 + 1), (nx + 1 + 1 + 2), by exact slotq, ?_⟩
  simp only [pcV, pcB, pcT, gT, czT, swT, List.map_cons, List.map_nil, List.flatMap_cons, List.flatMap_nil, List.append_nil, tpC, tpH, List.cons_append, List.nil_append, List.length_cons, List.length_nil, Nat.reduceAdd]
  exact subq
theorem wr_r21 (hq : o.qs.length ≤ 10) (h3 : t.get 3 = some (.ptr i3 0)) (h5 : t.get 5 = some (aint a)) (h6 : t.get 6 = some (aint b)) (h7 : t.get 7 = some (aint c)) (h8 : t.get 8 = some (.fn (.func f_rewrite_written_2) [] [.ptr i3 0])) : WpO EX (.reg c_rewrite_written_r21 true) t ((i3, [.fn (.func f_rewrite_written_1) [] [.ptr i1 0]]) :: (i1, opCells (.sl iq 0 n1 1 cap) o) :: (iq, o.qs.map aint) :: L) (fun ex t' L' => ex = .normal ∧ Keep [1] t t' ∧ ∃ (id j1 j2 j3 j4 j5 j6 : Nat), t'.get 2 = some (.sl id 0 6 6 none) ∧ Am.Sub ((id, tpC [gT o j1 5 [a], gT o j2 7 [a], gT o j3 5 [a], gT o j4 6 [b], gT o j5 8 [b], gT o j6 6 [b]]) :: (tpH [gT o j1 5 [a], gT o j2 7 [a], gT o j3 5 [a], gT o j4 6 [b], gT o j5 8 [b], gT o j6 6 [b]] ++ ((i3, [.fn (.func f_rewrite_written_1) [] [.ptr i1 0]]) :: (i1, opCells (.sl iq 0 n1 1 cap) o) :: (iq, o.qs.map aint) :: L))) L') := by
  refine wo_drawn (by kernel_rfl) ?_
  intro nx
  refine dro_fresh ?_
  intro hfr0
  have hlt : i3 < nx := hfr0.2 (i3, [.fn (.func f_rewrite_written_1) [] [.ptr i1 0]]) List.mem_cons_self
  clear hfr0
  repeat (refine goz ?_)
  refine dro_g (iq := iq) (o := o) (k := 5) (q := [a]) hq (by simp) (argAll_cons (by first | rfl | exact rslotq) (argAll_cons (by first | rfl | exact rslotq) (argAll_cons (by first | rfl | exact rslotq) argAll_nil))) (by exact subq) (fun ids hfr => by exact aptq) ?_
  intro ids
  repeat (refine goz ?_)
  refine dro_g (iq := iq) (o := o) (k := 7) (q := [a]) hq (by simp) (argAll_cons (by first | rfl | exact rslotq) (argAll_cons (by first | rfl | exact rslotq) (argAll_cons (by first | rfl | exact rslotq) argAll_nil))) (by exact subq) (fun ids hfr => by exact aptq) ?_
  intro ids
  repeat (refine goz ?_)
  refine dro_g (iq := iq) (o := o) (k := 5) (q := [a]) hq (by simp) (argAll_cons (by first | rfl | exact rslotq) (argAll_cons (by first | rfl | exact rslotq) (argAll_cons (by first | rfl | exact rslotq) argAll_nil))) (by exact subq) (fun ids hfr => by exact aptq) ?_
  intro ids
  repeat (refine goz ?_)
  refine dro_g (iq := iq) (o := o) (k := 6) (q := [b]) hq (by simp) (argAll_cons (by first | rfl | exact rslotq) (argAll_cons (by first | rfl | exact rslotq) (argAll_cons (by first | rfl | exact rslotq) argAll_nil))) (by exact subq) (fun ids hfr => by exact aptq) ?_
  intro ids
  repeat (refine goz ?_)
  refine dro_g (iq := iq) (o := o) (k := 8) (q := [b]) hq (by simp) (argAll_cons (by first | rfl | exact rslotq) (argAll_cons (by first | rfl | exact rslotq) (argAll_cons (by first | rfl | exact rslotq) argAll_nil))) (by exact subq) (fun ids hfr => by exact aptq) ?_
  intro ids
  repeat (refine goz ?_)
  refine dro_g (iq := iq) (o := o) (k := 6) (q := [b]) hq (by simp) (argAll_cons (by first | rfl | exact rslotq) (argAll_cons (by first | rfl | exact rslotq) (argAll_cons (by first | rfl | exact rslotq) argAll_nil))) (by exact subq) (fun ids hfr => by exact aptq) ?_
  intro ids
  repeat (refine goz ?_)
  refine dro_concat (ps := [(nx + 1, [gT o (nx) 5 [a]], some 1), (nx + 1 + 1 + 1, [gT o (nx + 1 + 1) 7 [a]], some 1), (nx + 1 + 1 + 1 + 1 + 1, [gT o (nx + 1 + 1 + 1 + 1) 5 [a]], some 1), (nx + 1 + 1 + 1 + 1 + 1 + 1 + 1, [gT o (nx + 1 + 1 + 1 + 1 + 1 + 1) 6 [b]], some 1), (nx + 1 + 1 + 1 + 1 + 1 + 1 + 1 + 1 + 1, [gT o (nx + 1 + 1 + 1 + 1 + 1 + 1 + 1 + 1) 8 [b]], some 1), (nx + 1 + 1 + 1 + 1 + 1 + 1 + 1 + 1 + 1 + 1 + 1, [gT o (nx + 1 + 1 + 1 + 1 + 1 + 1 + 1 + 1 + 1 + 1) 6 [b]], some 1)]) (trOk_g (by simp) (trOk_g (by simp) (trOk_g (by simp) (trOk_g (by simp) (trOk_g (by simp) (trOk_g (by simp) trOk_nil)))))) (by simp [czT, swT]) (by simp) (by simp [pcT, czT, swT]) (by simp [pcT, czT, swT]) (by simp only [pcV, pcB, pcT, gT, czT, swT, List.map_cons, List.map_nil, List.flatMap_cons, List.flatMap_nil, List.append_nil, tpC, tpH, List.cons_append, List.nil_append, List.length_cons, List.length_nil, Nat.reduceAdd]; simp [wtAll, AVal.wt, opCells, aint]) (by exact rslotq) (by simp only [pcV, pcB, pcT, gT, czT, swT, List.map_cons, List.map_nil, List.flatMap_cons, List.flatMap_nil, List.append_nil, tpC, tpH, List.cons_append, List.nil_append, List.length_cons, List.length_nil, Nat.reduceAdd]; exact subq) (fun ids wr hi hfr => by exact aptq) ?_
  intro id ids wr hi
  repeat (refine goz ?_)
  refine ⟨rfl, by exact keepq, id, (nx), (nx + 1 + 1), (nx + 1 + 1 + 1 + 1), (nx + 1 + 1 + 1 + 1 + 1 + 1), (nx + 1 + 1 + 1 + 1 + 1 + 1 + 1 + 1), (nx + 1 + 1 + 1 + 1 + 1 + 1 + 1 + 1 + 1 + 1), by exact slotq, ?_⟩
  simp only [pcV, pcB, pcT, gT, czT, swT, List.map_cons, List.map_nil, List.flatMap_cons, List.flatMap_nil, List.append_nil, tpC, tpH, List.cons_append, List.nil_append, List.length_cons, List.length_nil, Nat.reduceAdd]
  exact subq
theorem wr_r23 (hq : o.qs.length ≤ 10) (h3 : t.get 3 = some (.ptr i3 0)) (h5 : t.get 5 = some (aint a)) (h6 : t.get 6 = some (aint b)) (h7 : t.get 7 = some (aint c)) (h8 : t.get 8 = some (.fn (.func f_rewrite_written_2) [] [.ptr i3 0])) : WpO EX (.reg c_rewrite_written_r23 true) t ((i3, [.fn (.func f_rewrite_written_1) [] [.ptr i1 0]]) :: (i1, opCells (.sl iq 0 n1 1 cap) o) :: (iq, o.qs.map aint) :: L) (fun ex t' L' => ex = .normal ∧ Keep [1] t t' ∧ ∃ (id j1 j2 j3 : Nat), t'.get 2 = some (.sl id 0 3 6 none) ∧ Am.Sub ((id, tpC [gT o j1 9 [c], gT o j2 18 [a, b, c], gT o j3 10 [c]]) :: (tpH [gT o j1 9 [c], gT o j2 18 [a, b, c], gT o j3 10 [c]] ++ ((i3, [.fn (.func f_rewrite_written_1) [] [.ptr i1 0]]) :: (i1, opCells (.sl iq 0 n1 1 cap) o) :: (iq, o.qs.map aint) :: L))) L') := by
  refine wo_drawn (by kernel_rfl) ?_
  intro nx
  refine dro_fresh ?_
  intro hfr0
  have hlt : i3 < nx := hfr0.2 (i3, [.fn (.func f_rewrite_written_1) [] [.ptr i1 0]]) List.mem_cons_self
  clear hfr0
  repeat (refine goz ?_)
  refine dro_g (iq := iq) (o := o) (k := 9) (q := [c]) hq (by simp) (argAll_cons (by first | rfl | exact rslotq) (argAll_cons (by first | rfl | exact rslotq) (argAll_cons (by first | rfl | exact rslotq) argAll_nil))) (by exact subq) (fun ids hfr => by exact aptq) ?_
  intro ids
  repeat (refine goz ?_)
  refine dro_g (iq := iq) (o := o) (k := 18) (q := [a, b, c]) hq (by simp) (argAll_cons (by first | rfl | exact rslotq) (argAll_cons (by first | rfl | exact rslotq) (argAll_cons (by first | rfl | exact rslotq) argAll_nil))) (by exact subq) (fun ids hfr => by exact aptq) ?_
  intro ids
  repeat (refine goz ?_)
  refine dro_g (iq := iq) (o := o) (k := 10) (q := [c]) hq (by simp) (argAll_cons (by first | rfl | exact rslotq) (argAll_cons (by first | rfl | exact rslotq) (argAll_cons (by first | rfl | exact rslotq) argAll_nil))) (by exact subq) (fun ids hfr => by exact aptq) ?_
  intro ids
  repeat (refine goz ?_)
  refine dro_concat (ps := [(nx + 1, [gT o (nx) 9 [c]], some 1), (nx + 1 + 1 + 1, [gT o (nx + 1 + 1) 18 [a, b, c]], some 1), (nx + 1 + 1 + 1 + 1 + 1, [gT o (nx + 1 + 1 + 1 + 1) 10 [c]], some 1)]) (trOk_g (by simp) (trOk_g (by simp) (trOk_g (by simp) trOk_nil))) (by simp [czT, swT]) (by simp) (by simp [pcT, czT, swT]) (by simp [pcT, czT, swT]) (by simp only [pcV, pcB, pcT, gT, czT, swT, List.map_cons, List.map_nil, List.flatMap_cons, List.flatMap_nil, List.append_nil, tpC, tpH, List.cons_append, List.nil_append, List.length_cons, List.length_nil, Nat.reduceAdd]; simp [wtAll, AVal.wt, opCells, aint]) (by exact rslotq) (by simp only [pcV, pcB, pcT, gT, czT, swT, List.map_cons, List.map_nil, List.flatMap_cons, List.flatMap_nil, List.append_nil, tpC, tpH, List.cons_append, List.nil_append, List.length_cons, List.length_nil, Nat.reduceAdd]; exact subq) (fun ids wr hi hfr => by exact aptq) ?_
  intro id ids wr hi
  repeat (refine goz ?_)
  refine ⟨rfl, by exact keepq, id, (nx), (nx + 1 + 1), (nx + 1 + 1 + 1 + 1), by exact slotq, ?_⟩
  simp only [pcV, pcB, pcT, gT, czT, swT, List.map_cons, List.map_nil, List.flatMap_cons, List.flatMap_nil, List.append_nil, tpC, tpH, List.cons_append, List.nil_append, List.length_cons, List.length_nil, Nat.reduceAdd]
  exact subq
theorem wr_r25 (hq : o.qs.length ≤ 10) (h3 : t.get 3 = some (.ptr i3 0)) (h5 : t.get 5 = some (aint a)) (h6 : t.get 6 = some (aint b)) (h7 : t.get 7 = some (aint c)) (h8 : t.get 8 = some (.fn (.func f_rewrite_written_2) [] [.ptr i3 0])) : WpO EX (.reg c_rewrite_written_r25 true) t ((i3, [.fn (.func f_rewrite_written_1) [] [.ptr i1 0]]) :: (i1, opCells (.sl iq 0 n1 1 cap) o) :: (iq, o.qs.map aint) :: L) (fun ex t' L' => ex = .normal ∧ Keep [1] t t' ∧ ∃ (id j1 j2 j3 : Nat), t'.get 2 = some (.sl id 0 3 6 none) ∧ Am.Sub ((id, tpC [gT o j1 11 [c, b], gT o j2 18 [a, b, c], gT o j3 11 [c, b]]) :: (tpH [gT o j1 11 [c, b], gT o j2 18 [a, b, c], gT o j3 11 [c, b]] ++ ((i3, [.fn (.func f_rewrite_written_1) [] [.ptr i1 0]]) :: (i1, opCells (.sl iq 0 n1 1 cap) o) :: (iq, o.qs.map aint) :: L))) L') := by
  refine wo_drawn (by kernel_rfl) ?_
  intro nx
  refine dro_fresh ?_
  intro hfr0
  have hlt : i3 < nx := hfr0.2 (i3, [.fn (.func f_rewrite_written_1) [] [.ptr i1 0]]) List.mem_cons_self
  clear hfr0
  repeat (refine goz ?_)
  refine dro_cx (iq := iq) (o := o) (p := c) (q := b) hq (argAll_cons (by first | rfl | exact rslotq) (argAll_cons (by first | rfl | exact rslotq) (argAll_cons (by first | rfl | exact rslotq) argAll_nil))) (by exact subq) (fun ids hfr => by exact aptq) ?_
  intro ids
  repeat (refine goz ?_)
  refine dro_g (iq := iq) (o := o) (k := 18) (q := [a, b, c]) hq (by simp) (argAll_cons (by first | rfl | exact rslotq) (argAll_cons (by first | rfl | exact rslotq) (argAll_cons (by first | rfl | exact rslotq) argAll_nil))) (by exact subq) (fun ids hfr => by exact aptq) ?_
  intro ids
  repeat (refine goz ?_)
  refine dro_cx (iq := iq) (o := o) (p := c) (q := b) hq (argAll_cons (by first | rfl | exact rslotq) (argAll_cons (by first | rfl | exact rslotq) (argAll_cons (by first | rfl | exact rslotq) argAll_nil))) (by exact subq) (fun ids hfr => by exact aptq) ?_
  intro ids
  repeat (refine goz ?_)
  refine dro_concat (ps := [(nx + 1, [gT o (nx) 11 [c, b]], some 1), (nx + 2 + 1, [gT o (nx + 2) 18 [a, b, c]], some 1), (nx + 2 + 1 + 1 + 1, [gT o (nx + 2 + 1 + 1) 11 [c, b]], some 1)]) (trOk_g (by simp) (trOk_g (by simp) (trOk_g (by simp) trOk_nil))) (by simp [czT, swT]) (by simp) (by simp [pcT, czT, swT]) (by simp [pcT, czT, swT]) (by simp only [pcV, pcB, pcT, gT, czT, swT, List.map_cons, List.map_nil, List.flatMap_cons, List.flatMap_nil, List.append_nil, tpC, tpH, List.cons_append, List.nil_append, List.length_cons, List.length_nil, Nat.reduceAdd]; simp [wtAll, AVal.wt, opCells, aint]) (by exact rslotq) (by simp only [pcV, pcB, pcT, gT, czT, swT, List.map_cons, List.map_nil, List.flatMap_cons, List.flatMap_nil, List.append_nil, tpC, tpH, List.cons_append, List.nil_append, List.length_cons, List.length_nil, Nat.reduceAdd]; exact subq) (fun ids wr hi hfr => by exact aptq) ?_
  intro id ids wr hi
  repeat (refine goz ?_)
  refine ⟨rfl, by exact keepq, id, (nx), (nx + 2), (nx + 2 + 1 + 1), by exact slotq, ?_⟩
  simp only [pcV, pcB, pcT, gT, czT, swT, List.map_cons, List.map_nil, List.flatMap_cons, List.flatMap_nil, List.append_nil, tpC, tpH, List.cons_append, List.nil_append, List.length_cons, List.length_nil, Nat.reduceAdd]
  exact subq
end Go.Proofs.YtmflheoafeenfaaGreat
namespace Go.Proofs.YtmflheoafeenfaaGreat
open Go.Am
set_option maxRecDepth 4000
set_option maxHeartbeats 8000000
variable {L : Hp}
theorem CloneX_open {l : List Int} {iq n : Nat} {cap : Option Nat} (hn : l.length = n) (hpos : 0 < n) (hlt : n ≤ 1000000) (hi : In iq (l.map aint) L) : CallO EX f_slices_Clone_int_int [.sl iq 0 n 1 cap] L fun r L' => ∃ id, r = .sl id 0 n 1 none ∧ L' = (id, l.map aint) :: L := by
  refine CallO.to (callO_open rfl n_slices_Clone_int_int ?_)
  have hs : seg (l.map aint) 0 (n * 1) = some (l.map aint) := by rw [Nat.mul_one]; exact seg_full (by simp [hn])
  refine bodyO_of (Nat.le_of_ble_eq_true rfl) ?_; generalize ht : argSlots _ 0 .nil = t; have h0 : t.get 0 = some _ := (by rw [← ht]; rfl); clear ht
  repeat (first | intro id | refine goq ?_)
  refine oo_appendFS wanted_none (by exact slotq) .here (old := []) rfl rfl (by exact slotq) (.next hi) hs hpos (all_one_ints _) (by omega) (by omega) ?_
  intro id2
  repeat (first | intro id | refine goq ?_)
  ((first | apply retO_r | apply retO_n); (focus (exact resq)))
  exact ⟨(id2, l.map aint) :: L, by exact subq, id2, by simp [resultV], rfl⟩
theorem concat_call {ps : List Piece} {ib : Nat} {cap : Option Nat} (hT : TrOk (pcT ps)) (hp : ∀ p ∈ ps, 0 < p.2.1.length ∧ In p.1 (tpC p.2.1) L) (hn : ps.length ≤ 1000) (h0 : 0 < (pcT ps).length) (hm : (pcT ps).length ≤ 1000) (hi : In ib (pcV ps) L) : CallO EX f_slices_Concat_api_Op_api_Op [.sl ib 0 ps.length 1 cap] L fun r L' => ∃ id, r = .sl id 0 (pcT ps).length 6 none ∧ L' = (id, tpC (pcT ps)) :: L := by
  have hl : (ps.map fun p => p.2.1).length = ps.length := by simp
  rw [pcT_flat] at hT h0 hm
  have := Concat_open (L := L) (vs := pcV ps) (Ts := ps.map fun p => p.2.1) (ib := ib) (cap := cap) (pieces_of fun p hp' => ⟨(hp p hp').2, (hp p hp').1⟩) hi hT hm h0 (by omega)
  rw [hl, ← pcT_flat] at this
  exact this
/-- What an operation's fewer kinds are laid asq. -/
def WrR (o : OpD) (L : Hp) (r : AVal) (L0 : Hp) : Prop := ∃ (T : List Trip) (id : Nat) (cap : Option Nat), r = .sl id 0 T.length 6 cap ∧ 0 < T.length ∧ T.length ≤ 10 ∧ TrOk T ∧ tpO T = wrO o ∧ L0 = (id, tpC T) :: (tpH T ++ L)
theorem qs_get {l : List Int} {i : Nat} (h : i < l.length + 2) : (l.map aint ++ [aint 0, aint 0])[i]? = some (aint (l.getD i 0)) := by
  by_cases e : i < l.length
  · rw [List.getElem?_append_left (by simpa using e)]
    simp [e]
  · have h0 : l.getD i 0 = 0 := by rw [List.getD_eq_getElem?_getD, List.getElem?_eq_none (by omega)]; rfl
    rw [h0, List.getElem?_append_right (by simpa using e), List.length_map]
    have : i - l.length = 0 ∨ i - l.length = 1 := by omega
    rcases this with h1 | h1 <;> rw [h1] <;> rfl
theorem sub_mid {A L : Hp} {p x y z : Nat × List AVal} : Am.Sub (p :: (A ++ L)) (p :: (A ++ (x :: y :: z :: L))) := ⟨[x, y, z], by
  refine List.Perm.cons _ ?_
  show List.Perm (A ++ (x :: y :: z :: L)) ((A ++ L) ++ [x, y, z])
  rw [List.append_assoc]
  refine List.Perm.append_left A ?_
  exact (List.perm_append_comm (l₁ := [x, y, z]) (l₂ := L))⟩
theorem written_switch {o : OpD} {iq n i1 i3 isw s1 s2 s3 icz c1 c2 c3 : Nat} {cap : Option Nat} {a b c : Int} {t : Tr AVal} (hk : o.kind = 1) (hn : o.qs.length = n) (hpos : 0 < n) (hlt : n ≤ 10) (ea : o.qs.getD 0 0 = a) (eb : o.qs.getD 1 0 = b) (ec : o.qs.getD 2 0 = c)
    (g1 : t.get 1 = some (.ptr i1 0)) (g3 : t.get 3 = some (.ptr i3 0)) (g5 : t.get 5 = some (aint a)) (g6 : t.get 6 = some (aint b)) (g7 : t.get 7 = some (aint c)) (g8 : t.get 8 = some (.fn (.func f_rewrite_written_2) [] [.ptr i3 0])) (g9 : t.get 9 = some (.sl isw 0 3 6 none)) (g10 : t.get 10 = some (.sl icz 0 3 6 none)) :
    WpO EX (AC.seq (AC.seq (AC.reg c_rewrite_written_r9 false) (AC.blk 0 (AC.seq (AC.reg c_rewrite_written_r10 false) (AC.cond (Arg.t 62) (AC.seq (AC.reg c_rewrite_written_r11 false) AC.ret) (AC.seq (AC.reg c_rewrite_written_r12 false) (AC.cond (Arg.t 65) (AC.seq (AC.reg c_rewrite_written_r13 true) AC.ret) (AC.seq (AC.reg c_rewrite_written_r14 false) (AC.cond (Arg.t 79) (AC.seq (AC.reg c_rewrite_written_r15 true) AC.ret) (AC.seq (AC.reg c_rewrite_written_r16 false) (AC.cond (Arg.t 93) (AC.seq (AC.reg c_rewrite_written_r17 true) AC.ret) (AC.seq (AC.reg c_rewrite_written_r18 false) (AC.cond (Arg.t 109) (AC.seq (AC.reg c_rewrite_written_r19 false) AC.ret) (AC.seq (AC.reg c_rewrite_written_r20 false) (AC.cond (Arg.t 112) (AC.seq (AC.reg c_rewrite_written_r21 true) AC.ret) (AC.seq (AC.reg c_rewrite_written_r22 false) (AC.cond (Arg.t 140) (AC.seq (AC.reg c_rewrite_written_r23 true) AC.ret) (AC.seq (AC.reg c_rewrite_written_r24 false) (AC.cond (Arg.t 158) (AC.seq (AC.reg c_rewrite_written_r25 true) AC.ret) AC.skip)))))))))))))))))) (AC.seq (AC.reg c_rewrite_written_r26 false) AC.ret)) t ((icz, tpC (czT o a b c1 c2 c3)) :: (c1, [b].map aint) :: (c2, [a, b].map aint) :: (c3, [b].map aint) :: (i3, [.fn (.func f_rewrite_written_1) [] [.ptr i1 0]]) :: (i1, opCells (.sl iq 0 n 1 cap) o) :: (iq, o.qs.map aint) :: (isw, tpC (swT o a b s1 s2 s3)) :: (s1, [a, b].map aint) :: (s2, [b, a].map aint) :: (s3, [a, b].map aint) :: L) (retO c_rewrite_written fun v L' => ∃ L0, Am.Sub L0 L' ∧ WrR o L v L0) := by
  have hw : wrO o = (wrK o o.gate a b c).getD [o] := by unfold wrO; rw [if_pos hk, ea, eb, ec]
  have hq10 : o.qs.length ≤ 10 := by omega
  by_cases k14 : o.gate = 14
  · repeat (first | intro id | refine goq ?_)
    ((first | apply retO_r | apply retO_n); (focus (exact resq)))
    refine ⟨(isw, tpC (swT o a b s1 s2 s3)) :: (s1, [a, b].map aint) :: (s2, [b, a].map aint) :: (s3, [a, b].map aint) :: L, by exact subq, swT o a b s1 s2 s3, isw, none, rfl, by simp [swT], by simp [swT], trOk_g (by simp) (trOk_g (by simp) (trOk_g (by simp) trOk_nil)), by rw [hw, k14]; rfl, rfl⟩
  by_cases k15 : o.gate = 15
  · repeat (first | intro id | refine goq ?_)
    refine WpO.weak (WpO.mono (wr_r13 (i1 := i1) (i3 := i3) (iq := iq) (n1 := n) (cap := cap) (a := a) (b := b) (c := c) (o := o) (icz := icz) (c1 := c1) (c2 := c2) (c3 := c3) (isw := isw) (s1 := s1) (s2 := s2) (s3 := s3) (L := L) hq10 (by exact slotq) (by exact slotq) (by exact slotq) (by exact slotq) (by exact slotq) (by exact slotq) (by exact slotq)) ?_) (by exact subq)
    rintro ex t1 L1 ⟨rfl, -, idr, j1, j2, j3, j4, j5, j6, j7, j8, g2, hsub⟩
    refine seqO.n ?_
    repeat (first | intro id | refine goq ?_)
    ((first | apply retO_r | apply retO_n); (focus (exact resq)))
    refine ⟨_, sub_mid.trans hsub, _, idr, none, rfl, by simp, by simp, (trOk_g (by simp) (trOk_g (by simp) (trOk_g (by simp) (trOk_g (by simp) (trOk_g (by simp) (trOk_g (by simp) (trOk_g (by simp) (trOk_g (by simp) trOk_nil)))))))), by rw [hw, k15]; rfl, rfl⟩
  by_cases k16 : o.gate = 16
  · repeat (first | intro id | refine goq ?_)
    refine WpO.weak (WpO.mono (wr_r15 (i1 := i1) (i3 := i3) (iq := iq) (n1 := n) (cap := cap) (a := a) (b := b) (c := c) (o := o) (icz := icz) (c1 := c1) (c2 := c2) (c3 := c3) (isw := isw) (s1 := s1) (s2 := s2) (s3 := s3) (L := L) hq10 (by exact slotq) (by exact slotq) (by exact slotq) (by exact slotq) (by exact slotq) (by exact slotq) (by exact slotq)) ?_) (by exact subq)
    rintro ex t1 L1 ⟨rfl, -, idr, j1, j2, j3, j4, j5, j6, j7, j8, g2, hsub⟩
    refine seqO.n ?_
    repeat (first | intro id | refine goq ?_)
    ((first | apply retO_r | apply retO_n); (focus (exact resq)))
    refine ⟨_, sub_mid.trans hsub, _, idr, none, rfl, by simp, by simp, (trOk_g (by simp) (trOk_g (by simp) (trOk_g (by simp) (trOk_g (by simp) (trOk_g (by simp) (trOk_g (by simp) (trOk_g (by simp) (trOk_g (by simp) trOk_nil)))))))), by rw [hw, k16]; rfl, rfl⟩
  by_cases k12 : o.gate = 12
  · repeat (first | intro id | refine goq ?_)
    refine WpO.weak (WpO.mono (wr_r17 (i1 := i1) (i3 := i3) (iq := iq) (n1 := n) (cap := cap) (a := a) (b := b) (c := c) (o := o) (L := L) hq10 (by exact slotq) (by exact slotq) (by exact slotq) (by exact slotq) (by exact slotq)) ?_) (by exact subq)
    rintro ex t1 L1 ⟨rfl, -, idr, j1, j2, j3, g2, hsub⟩
    refine seqO.n ?_
    repeat (first | intro id | refine goq ?_)
    ((first | apply retO_r | apply retO_n); (focus (exact resq)))
    refine ⟨_, sub_mid.trans hsub, _, idr, none, rfl, by simp, by simp, (trOk_g (by simp) (trOk_g (by simp) (trOk_g (by simp) trOk_nil))), by rw [hw, k12]; rfl, rfl⟩
  by_cases k13 : o.gate = 13
  · repeat (first | intro id | refine goq ?_)
    ((first | apply retO_r | apply retO_n); (focus (exact resq)))
    refine ⟨(icz, tpC (czT o a b c1 c2 c3)) :: (c1, [b].map aint) :: (c2, [a, b].map aint) :: (c3, [b].map aint) :: L, by exact subq, czT o a b c1 c2 c3, icz, none, rfl, by simp [czT], by simp [czT], trOk_g (by simp) (trOk_g (by simp) (trOk_g (by simp) trOk_nil)), by rw [hw, k13]; rfl, rfl⟩
  by_cases k17 : o.gate = 17
  · repeat (first | intro id | refine goq ?_)
    refine WpO.weak (WpO.mono (wr_r21 (i1 := i1) (i3 := i3) (iq := iq) (n1 := n) (cap := cap) (a := a) (b := b) (c := c) (o := o) (L := L) hq10 (by exact slotq) (by exact slotq) (by exact slotq) (by exact slotq) (by exact slotq)) ?_) (by exact subq)
    rintro ex t1 L1 ⟨rfl, -, idr, j1, j2, j3, j4, j5, j6, g2, hsub⟩
    refine seqO.n ?_
    repeat (first | intro id | refine goq ?_)
    ((first | apply retO_r | apply retO_n); (focus (exact resq)))
    refine ⟨_, sub_mid.trans hsub, _, idr, none, rfl, by simp, by simp, (trOk_g (by simp) (trOk_g (by simp) (trOk_g (by simp) (trOk_g (by simp) (trOk_g (by simp) (trOk_g (by simp) trOk_nil)))))), by rw [hw, k17]; rfl, rfl⟩
  by_cases k19 : o.gate = 19
  · repeat (first | intro id | refine goq ?_)
    refine WpO.weak (WpO.mono (wr_r23 (i1 := i1) (i3 := i3) (iq := iq) (n1 := n) (cap := cap) (a := a) (b := b) (c := c) (o := o) (L := L) hq10 (by exact slotq) (by exact slotq) (by exact slotq) (by exact slotq) (by exact slotq)) ?_) (by exact subq)
    rintro ex t1 L1 ⟨rfl, -, idr, j1, j2, j3, g2, hsub⟩
    refine seqO.n ?_
    repeat (first | intro id | refine goq ?_)
    ((first | apply retO_r | apply retO_n); (focus (exact resq)))
    refine ⟨_, sub_mid.trans hsub, _, idr, none, rfl, by simp, by simp, (trOk_g (by simp) (trOk_g (by simp) (trOk_g (by simp) trOk_nil))), by rw [hw, k19]; rfl, rfl⟩
  by_cases k20 : o.gate = 20
  · repeat (first | intro id | refine goq ?_)
    refine WpO.weak (WpO.mono (wr_r25 (i1 := i1) (i3 := i3) (iq := iq) (n1 := n) (cap := cap) (a := a) (b := b) (c := c) (o := o) (L := L) hq10 (by exact slotq) (by exact slotq) (by exact slotq) (by exact slotq) (by exact slotq)) ?_) (by exact subq)
    rintro ex t1 L1 ⟨rfl, -, idr, j1, j2, j3, g2, hsub⟩
    refine seqO.n ?_
    repeat (first | intro id | refine goq ?_)
    ((first | apply retO_r | apply retO_n); (focus (exact resq)))
    refine ⟨_, sub_mid.trans hsub, _, idr, none, rfl, by simp, by simp, (trOk_g (by simp) (trOk_g (by simp) (trOk_g (by simp) trOk_nil))), by rw [hw, k20]; rfl, rfl⟩
  repeat (first | intro id | refine goq ?_)
  ((first | apply retO_r | apply retO_n); (focus (exact resq)))
  refine ⟨(id, opCells (.sl iq 0 n 1 cap) o) :: (iq, o.qs.map aint) :: L, by exact subq, [⟨.sl iq 0 n 1 cap, o, [(iq, o.qs.map aint)]⟩], id, _, rfl, by simp, by simp, ?_, ?_, rfl⟩
  · intro p hp
    rw [List.mem_singleton.1 hp]
    exact ⟨.inr ⟨iq, cap, by rw [hn], rfl⟩, by show o.qs.length < _; omega⟩
  · rw [hw]
    unfold wrK
    rw [if_neg k14, if_neg k15, if_neg k16, if_neg k12, if_neg k13, if_neg k17, if_neg k19, if_neg k20]
    rfl
theorem written_open {o : OpD} {iq n : Nat} {cap : Option Nat} (hk : o.kind = 1) (hn : o.qs.length = n) (hpos : 0 < n) (hlt : n ≤ 10) : CallO EX f_rewrite_written [.agg (opCells (.sl iq 0 n 1 cap) o)] ((iq, o.qs.map aint) :: L) fun r L' => WrR o L r L' := by
  refine CallO.to (callO_open rfl n_rewrite_written ?_)
  have s5 : still EX c_rewrite_written_r5 = true := by kernel_rfl
  refine bodyO_of (Nat.le_of_ble_eq_true rfl) ?_; generalize ht : argSlots _ 0 .nil = t; have h0 : t.get 0 = some _ := (by rw [← ht]; rfl); clear ht
  repeat (first | intro id | refine goq ?_)
  rename_i i1
  refine gok ?_
  refine (CloneX_open hn hpos (by omega) (.next (.next .here))).mono ?_
  rintro r L' ⟨il, rfl, rfl⟩
  repeat (first | intro id | refine goq ?_)
  rename_i i3
  refine oo_appendR (k := n) (j := 2) (nw := [aint 0, aint 0]) (cs := o.qs.map aint) (old := o.qs.map aint) wanted_none (by exact slotq) (Rem.next Rem.here) (by rw [Nat.mul_one]; exact seg_full (by simp [hn])) (all_one_ints _) (by exact slotq) .here rfl (by omega) rfl (by omega) (by omega) ?_
  intro i4
  rw [List.drop_eq_nil_of_le (show (o.qs.map aint).length ≤ 0 + (n + 2) * 1 by simp; omega), List.append_nil]
  have q0 := qs_get (l := o.qs) (i := 0) (by omega)
  have q1 := qs_get (l := o.qs) (i := 1) (by omega)
  have q2 := qs_get (l := o.qs) (i := 2) (by omega)
  have hl4 : (o.qs.map aint ++ [aint 0, aint 0]).length = n + 2 := by simp [hn]
  have two : 2 < n + 2 := by omega
  repeat (first | intro id | refine goq ?_)
  generalize ea : o.qs.getD 0 0 = a
  generalize eb : o.qs.getD 1 0 = b
  generalize ec : o.qs.getD 2 0 = c
  refine gok ?_
  refine (CallX.toO (fun nx => cx_x (i1 := i1) (i3 := i3) (nx := nx) (u := .sl iq 0 n 1 cap) (o := o) (Lc := [(i1, opCells (.sl iq 0 n 1 cap) o), (i3, [.fn (.func f_rewrite_written_1) [] [.ptr i1 0]])]) (by simp) (by simp)) (by exact subq)).mono ?_
  rintro r L' ⟨s1, rfl, rfl⟩
  simp only [newH]
  repeat (first | intro id | refine goq ?_)
  refine gok ?_
  refine (CallX.toO (fun nx => cx_x (i1 := i1) (i3 := i3) (nx := nx) (u := .sl iq 0 n 1 cap) (o := o) (Lc := [(i1, opCells (.sl iq 0 n 1 cap) o), (i3, [.fn (.func f_rewrite_written_1) [] [.ptr i1 0]])]) (by simp) (by simp)) (by exact subq)).mono ?_
  rintro r L' ⟨s2, rfl, rfl⟩
  simp only [newH]
  repeat (first | intro id | refine goq ?_)
  refine gok ?_
  refine (CallX.toO (fun nx => cx_x (i1 := i1) (i3 := i3) (nx := nx) (u := .sl iq 0 n 1 cap) (o := o) (Lc := [(i1, opCells (.sl iq 0 n 1 cap) o), (i3, [.fn (.func f_rewrite_written_1) [] [.ptr i1 0]])]) (by simp) (by simp)) (by exact subq)).mono ?_
  rintro r L' ⟨s3, rfl, rfl⟩
  simp only [newH]
  repeat (first | intro id | refine goq ?_)
  refine gok ?_
  refine (concat_call (ps := [(s1 + 1, [gT o s1 11 [a, b]], some 1), (s2 + 1, [gT o s2 11 [b, a]], some 1), (s3 + 1, [gT o s3 11 [a, b]], some 1)]) (trOk_g (by simp) (trOk_g (by simp) (trOk_g (by simp) trOk_nil))) ?_ (by simp) (by simp [pcT]) (by simp [pcT]) .here).mono ?_
  · intro p hp
    simp only [List.mem_cons, List.not_mem_nil, or_false] at hp
    rcases hp with rfl | rfl | rfl
    · exact ⟨by simp, by exact inq⟩
    · exact ⟨by simp, by exact inq⟩
    · exact ⟨by simp, by exact inq⟩
  rintro r L' ⟨isw, rfl, rfl⟩
  repeat (first | intro id | refine goq ?_)
  have ep : pcT [(s1 + 1, [gT o s1 11 [a, b]], some 1), (s2 + 1, [gT o s2 11 [b, a]], some 1), (s3 + 1, [gT o s3 11 [a, b]], some 1)] = swT o a b s1 s2 s3 := rfl
  have e1 : ([aint a, aint b] : List AVal) = [a, b].map aint := rfl
  have e2 : ([aint b, aint a] : List AVal) = [b, a].map aint := rfl
  rw [ep, show (swT o a b s1 s2 s3).length = 3 from rfl, e1, e2]
  refine WpO.weak (WpO.mono (wr_r8 (i1 := i1) (i3 := i3) (iq := iq) (n1 := n) (cap := cap) (a := a) (b := b) (c := c) (o := o) (L := (isw, tpC (swT o a b s1 s2 s3)) :: (s1, [a, b].map aint) :: (s2, [b, a].map aint) :: (s3, [a, b].map aint) :: L) (by omega) (by exact slotq) (by exact slotq) (by exact slotq) (by exact slotq) (by exact slotq)) ?_) (by exact subq)
  rintro ex t1 L1 ⟨rfl, hK, icz, c1, c2, c3, g10, hsub⟩
  have g1 : t1.get 1 = some (.ptr i1 0) := (hK.ex 1 rfl).trans (by exact slotq)
  have g3 : t1.get 3 = some (.ptr i3 0) := (hK.ex 3 rfl).trans (by exact slotq)
  have g5 : t1.get 5 = some (aint a) := (hK.ex 5 rfl).trans (by exact slotq)
  have g6 : t1.get 6 = some (aint b) := (hK.ex 6 rfl).trans (by exact slotq)
  have g7 : t1.get 7 = some (aint c) := (hK.ex 7 rfl).trans (by exact slotq)
  have g8 : t1.get 8 = some (.fn (.func f_rewrite_written_2) [] [.ptr i3 0]) := (hK.ex 8 rfl).trans (by exact slotq)
  have g9 : t1.get 9 = some (.sl isw 0 3 6 none) := (hK.ex 9 rfl).trans (by exact slotq)
  clear hK h0
  have hsub2 : Am.Sub ((icz, tpC (czT o a b c1 c2 c3)) :: (c1, [b].map aint) :: (c2, [a, b].map aint) :: (c3, [b].map aint) :: (i3, [.fn (.func f_rewrite_written_1) [] [.ptr i1 0]]) :: (i1, opCells (.sl iq 0 n 1 cap) o) :: (iq, o.qs.map aint) :: (isw, tpC (swT o a b s1 s2 s3)) :: (s1, [a, b].map aint) :: (s2, [b, a].map aint) :: (s3, [a, b].map aint) :: L) L1 := hsub
  clear hsub
  refine seqO.n (WpO.weak ?_ hsub2)
  clear hsub2
  exact written_switch hk hn hpos hlt ea eb ec g1 g3 g5 g6 g7 g8 g9 g10
end Go.Proofs.YtmflheoafeenfaaGreat
