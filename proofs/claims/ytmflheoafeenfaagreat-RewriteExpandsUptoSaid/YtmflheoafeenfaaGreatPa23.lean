/- Parts of the proof, joined by program: AmDrc, AmTac2, RwY0, RwY1. -/
import Derived.Test.YtmflheoafeenfaaGreatPa22
import Derived.Test.YtmflheoafeenfaaGreatPa8
import Derived.Test.YtmflheoafeenfaaGreatPa18
import Derived.Test.YtmflheoafeenfaaGreatPa17
import Derived.Test.YtmflheoafeenfaaGreatPa19
set_option linter.unusedSimpArgs false
set_option linter.unusedVariables false
namespace Go.Am
structure Shut (Lc : Hp) (vs : List AVal) : Prop where
  cells : ∀ p ∈ Lc, cloAll (Named Lc) p.2
  vals : cloAll (Named Lc) vs
  size : wtAll vs + unseen [] Lc ≤ 100000
  cov : ∀ ids : List Nat, cloAll (· ∈ ids) vs → (∀ p ∈ Lc, p.1 ∈ ids → cloAll (· ∈ ids) p.2) → ∀ p ∈ Lc, p.1 ∈ ids
structure CfAll (E : Env) : Prop where
  stay : ∀ n, CfStay (callF E n)
  grow : ∀ n g args m v m', callF E n g args m = some (v, m') → Grow m m'
theorem cfAll_of {P : Program} {E : Env} (hE : EnvOk P E) (hk : ∀ f args m v m', E.mode f = .known → E.known f args m = some (v, m') → Stay m m') : CfAll E :=
  ⟨fun n => (stay_all hk n).call, fun n => ((claim hE n).call).grow⟩
theorem cells_iff {m : Mem} {id : Nat} {cs : List AVal} : m.cells id = some cs ↔ id < m.next ∧ m.heap.get id = some (.cells cs) := by
  unfold Mem.cells
  constructor
  · intro h
    split at h
    · rename_i hl
      refine ⟨hl, ?_⟩
      split at h
      · rename_i c hc
        simp only [Option.some.injEq] at h
        rw [hc, h]
      · simp at h
    · simp at h
  · rintro ⟨h1, h2⟩
    rw [if_pos h1, h2]
section
variable {E : Env} {t : Tr AVal} {L : Hp} {K : Tr AVal → Hp → Prop} {l : List AO} {j nx : Nat} {done : List (Nat × Eff)}
theorem dro_fresh (h : Fresh L nx → DrO E j done l t L nx K) : DrO E j done l t L nx K := ⟨fun m hm hn => (h ⟨hm.nd, fun p hp => by have := hm.lt hp; omega⟩).ex m hm hn⟩
theorem shut_reach {Lc : Hp} {vs : List AVal} (hS : Shut Lc vs) {m : Mem} (hm : Ows m Lc) : ∃ ids, reach m.heap 100000 vs [] = some ids ∧ (∀ i ∈ ids, Named Lc i) ∧ ∀ p ∈ Lc, p.1 ∈ ids := by
  obtain ⟨ids, r1, -, r3, r4, r5⟩ := reach_ok (h := m.heap) (L := Lc) (fun p hp => (cells_iff.1 (hm.at_ p hp)).2) hS.cells 100000 vs [] hS.vals hS.size
  exact ⟨ids, r1, fun i hi => (r3 i hi).resolve_left (by simp), hS.cov ids r4 fun p hp hi => (r5 p hp hi).resolve_left (by simp)⟩
theorem eff_call {d a : Nat} {x : Arg} {asq : List Arg} {g : Fn} {b1 b2 vs : List AVal} {ids : List Nat} {m : Mem} (hx : argAll (restrict t (slotsOf ⟨some d, .call x asq, none, a⟩)) (x :: asq) = some (.fn g b1 b2 :: vs)) (hr : reach m.heap 100000 (.fn g b1 b2 :: vs) [] = some ids) (hl : ∀ i ∈ ids, i < m.next)
    {cf : CallF} {v : AVal} {m1 : Mem} (hc : cf g (b1 ++ vs ++ b2) ⟨restrict m.heap ids, m.next, m.next⟩ = some (v, m1)) :
    effO cf ⟨some d, .call x asq, none, a⟩ ⟨t, m⟩ = some ⟨some d, v, slotsOf ⟨some d, .call x asq, none, a⟩, ids, decide (m1.low < m.next), m.next, m1.next, m1.low, m1.heap, a, false, false⟩ := by
  have hx' := hx
  unfold argAll at hx'
  split at hx'
  · rename_i w ws h1 h2
    simp only [Option.some.injEq, List.cons.injEq] at hx'
    obtain ⟨rfl, rfl⟩ := hx'
    unfold effO
    simp only [wantedA, idsOf, hx, hr]
    rw [if_pos (List.all_eq_true.2 fun i hi => decide_eq_true (hl i hi))]
    simp only [stepVal, h1, h2, hc]
  · simp at hx'
theorem stepVal_growA (hA : CfAll E) {n : Nat} {u : Tr AVal} {op : AOp} {m m' : Mem} {v : AVal} (h : stepVal (callF E n) u m op = some (v, m')) : Grow m m' := by
  unfold stepVal at h
  split at h
  · split at h
    · exact hA.grow _ _ _ _ _ _ h
    · simp at h
  · exact opVal_grow h
theorem eff_any {o : AO} (hg : o.guard = none) {ids : List Nat} {m : Mem} (hi : idsOf (restrict t (slotsOf o)) m.heap o.op = some ids) (hl : ∀ i ∈ ids, i < m.next) {cf : CallF} {v : AVal} {m1 : Mem} (hc : stepVal cf (restrict t (slotsOf o)) ⟨restrict m.heap ids, m.next, m.next⟩ o.op = some (v, m1)) :
    effO cf o ⟨t, m⟩ = some ⟨o.dst, v, slotsOf o, ids, decide (m1.low < m.next), m.next, m1.next, m1.low, m1.heap, o.after, false, false⟩ := by
  unfold effO
  simp only [hg, wantedA, hi]
  rw [if_pos (List.all_eq_true.2 fun i hi => decide_eq_true (hl i hi))]
  simp only [hc]
/-- Any step: on the boxes that it can come to, it does what it does. -/
theorem dro_any (hA : CfAll E) {o : AO} {Lc Lr : Hp} {J : AVal → Hp → Prop} (hg : o.guard = none) (hr : L.Perm (Lc ++ Lr))
    (hids : ∀ m, Ows m Lc → ∃ ids, idsOf (restrict t (slotsOf o)) m.heap o.op = some ids ∧ (∀ i ∈ ids, Named Lc i) ∧ ∀ p ∈ Lc, p.1 ∈ ids)
    (hC : ∀ m, Ows m Lc → ∃ n v m1, stepVal (callF E n) (restrict t (slotsOf o)) m o.op = some (v, m1) ∧ ∃ L', Ows m1 L' ∧ J v L')
    (ha : ∀ ids wr hi, (∀ i ∈ ids, Named Lc i) → Fresh L nx → apartFrom (fpOf o ids wr nx hi) done = true)
    (h : ∀ v L' ids wr hi, J v L' → (∀ i ∈ ids, Named Lc i) → nx ≤ hi → DrO E (j + 1) ((j, fpOf o ids wr nx hi) :: done) l (setDst t o.dst v) (L' ++ Lr) hi K) : DrO E j done (o :: l) t L nx K := ⟨fun m hm hn => by
  have hm2 := hm.perm hr
  obtain ⟨ids, r1, r2, r3⟩ := hids m hm2.left
  have h0 : Ows ⟨restrict m.heap ids, m.next, m.next⟩ Lc := ⟨hm2.left.nd, fun p hp => restrict_cells (hm2.left.at_ p hp) (by simpa using r3 p hp)⟩
  have hil : ∀ i ∈ ids, i < m.next := fun i hi => by
    obtain ⟨q, hq, rfl⟩ := r2 i hi
    exact hm2.left.lt hq
  obtain ⟨n1, v, m1, hc, L', h1, hJ⟩ := hC _ h0
  have hst := stepVal_stay (hA.stay n1) hc
  have hgr := stepVal_growA hA hc
  have hnx : m.next ≤ m1.next := hst.next
  let e : Eff := ⟨o.dst, v, slotsOf o, ids, decide (m1.low < m.next), m.next, m1.next, m1.low, m1.heap, o.after, false, false⟩
  have hcov : ∀ id, Eff.cov id e = ((decide (m.next ≤ id) && decide (id < m1.next)) || (decide (m1.low < m.next) && ids.contains id)) := fun id => by simp [Eff.cov, e]
  have hh := fun id => app_heap e ⟨t, m⟩ id rfl hnx
  have old : ∀ id c, m1.cells id = some c → id < m.next → id ∈ ids := by
    intro id c hcc hlt
    by_cases hi : id ∈ ids
    · exact hi
    · have := hst.none_ id hlt (by
        show (restrict m.heap ids).get id = none
        rw [restrict_get, if_neg hi])
      rw [(cells_iff.1 hcc).2] at this
      simp at this
  have k1 : ∀ id c, m1.cells id = some c → (e.app ⟨t, m⟩).mem.cells id = some c := by
    intro id c hcc
    have hcc' := cells_iff.1 hcc
    refine cells_iff.2 ⟨hcc'.1, ?_⟩
    rw [hh]
    split
    · exact hcc'.2
    · rename_i hcv
      rw [hcov] at hcv
      by_cases hlt : id < m.next
      · have hi := old id c hcc hlt
        have hlow : ¬ m1.low < m.next := fun hl => hcv (by simp [hl, hi])
        rcases hgr.same id hlt with h2 | h2
        · omega
        · have h3 : m1.heap.get id = (restrict m.heap ids).get id := h2
          rw [restrict_get, if_pos hi] at h3
          show m.heap.get id = _
          rw [← h3]
          exact hcc'.2
      · exfalso
        refine hcv ?_
        have := hcc'.1
        simp only [Bool.or_eq_true, Bool.and_eq_true, decide_eq_true_eq]
        omega
  have hnd := hm2.nd
  rw [List.map_append, List.nodup_append] at hnd
  have nin : ∀ p ∈ Lr, p.1 ∉ ids := by
    intro p hp hi
    obtain ⟨q, hq, hqe⟩ := r2 _ hi
    exact hnd.2.2 q.1 (List.mem_map_of_mem hq) p.1 (List.mem_map_of_mem hp) hqe
  have k2 : Ows (e.app ⟨t, m⟩).mem (L' ++ Lr) := by
    refine ⟨?_, fun p hp => ?_⟩
    · rw [List.map_append, List.nodup_append]
      refine ⟨h1.nd, hm2.right.nd, fun i hi1 i2 hi2 e => ?_⟩
      subst e
      obtain ⟨p, hp, rfl⟩ := List.mem_map.1 hi1
      obtain ⟨q, hq, hqe⟩ := List.mem_map.1 hi2
      have hql := hm2.right.lt hq
      exact nin q hq (hqe ▸ old p.1 p.2 (h1.at_ p hp) (by omega))
    · rcases List.mem_append.1 hp with hp | hp
      · exact k1 _ _ (h1.at_ p hp)
      · have hc2 := cells_iff.1 (hm2.right.at_ p hp)
        refine cells_iff.2 ⟨Nat.lt_of_lt_of_le hc2.1 hnx, ?_⟩
        rw [hh, if_neg]
        · exact hc2.2
        · rw [hcov]
          have h9 := nin p hp
          have := hc2.1
          simp only [Bool.or_eq_true, Bool.and_eq_true, decide_eq_true_eq, List.contains_iff_mem]
          rintro (⟨h10, -⟩ | ⟨-, h10⟩)
          · omega
          · exact h9 h10
  subst hn
  obtain ⟨n2, s', es, h6, h7, h8⟩ := (h v L' ids (decide (m1.low < m.next)) m1.next hJ r2 hnx).ex (e.app ⟨t, m⟩).mem k2 rfl
  have he : effO (callF E (n1 + n2)) o ⟨t, m⟩ = some e := eff_any hg r1 hil (stepVal_mono (callF_le (Nat.le_add_right _ _)) hc)
  refine ⟨n1 + n2, s', e :: es, ?_, ?_, h8⟩
  · rw [drawOs, he]
    have : e.app ⟨t, m⟩ = ⟨setDst t o.dst v, (e.app ⟨t, m⟩).mem⟩ := rfl
    simp only
    rw [this, drawOs_mono (callF_le (Nat.le_add_left _ _)) h6]
  · unfold allApart
    have e0 : e.fp = fpOf o ids (decide (m1.low < m.next)) m.next m1.next := rfl
    rw [apartFrom_fp, e0, ha ids _ _ r2 ⟨hm.nd, fun p hp => hm.lt hp⟩]
    have := allApart_fp es (j + 1) [] j e done
    simp only [List.nil_append] at this
    rw [this, e0, h7]
    rfl⟩
theorem dro_callO (hA : CfAll E) {d a : Nat} {x : Arg} {asq : List Arg} {f : FuncId} {b1 b2 vs : List AVal} {Lc Lr : Hp} {J : AVal → Hp → Prop}
    (hx : argAll (restrict t (slotsOf ⟨some d, .call x asq, none, a⟩)) (x :: asq) = some (.fn (.func f) b1 b2 :: vs)) (hr : Rem Lc L Lr) (hS : Shut Lc (.fn (.func f) b1 b2 :: vs)) (hC : CallO E f (b1 ++ vs ++ b2) Lc J)
    (ha : ∀ ids wr hi, (∀ i ∈ ids, Named Lc i) → Fresh L nx → apartFrom (fpOf ⟨some d, .call x asq, none, a⟩ ids wr nx hi) done = true)
    (h : ∀ v L' ids wr hi, J v L' → (∀ i ∈ ids, Named Lc i) → nx ≤ hi → DrO E (j + 1) ((j, fpOf ⟨some d, .call x asq, none, a⟩ ids wr nx hi) :: done) l (t.set d (some v)) (L' ++ Lr) hi K) : DrO E j done (⟨some d, .call x asq, none, a⟩ :: l) t L nx K := by
  refine dro_any hA rfl hr.perm (fun m hm => ?_) (fun m hm => ?_) ha h
  · obtain ⟨ids, r1, r2, r3⟩ := shut_reach hS hm
    exact ⟨ids, by simp only [idsOf, hx, r1], r2, r3⟩
  · obtain ⟨n, v, m1, hc, L', h1, hJ⟩ := hC.ex m hm
    refine ⟨n, v, m1, ?_, L', h1, hJ⟩
    unfold argAll at hx
    split at hx
    · rename_i w ws h1 h2
      simp only [Option.some.injEq, List.cons.injEq] at hx
      obtain ⟨rfl, rfl⟩ := hx
      simp only [stepVal, h1, h2, hc]
    · simp at hx
/-- A call that keeps all that it is handed. -/
theorem dro_callK (hA : CfAll E) {d a : Nat} {x : Arg} {asq : List Arg} {f : FuncId} {b1 b2 vs : List AVal} {Lc : Hp} {J : AVal → Hp → Prop}
    (hx : argAll (restrict t (slotsOf ⟨some d, .call x asq, none, a⟩)) (x :: asq) = some (.fn (.func f) b1 b2 :: vs)) (hL : Sub Lc L) (hS : Shut Lc (.fn (.func f) b1 b2 :: vs)) (hC : CallO E f (b1 ++ vs ++ b2) Lc fun v L' => ∃ N, J v N ∧ L' = N ++ Lc)
    (ha : ∀ ids wr hi, (∀ i ∈ ids, Named Lc i) → Fresh L nx → apartFrom (fpOf ⟨some d, .call x asq, none, a⟩ ids wr nx hi) done = true)
    (h : ∀ v N ids wr hi, J v N → (∀ i ∈ ids, Named Lc i) → nx ≤ hi → DrO E (j + 1) ((j, fpOf ⟨some d, .call x asq, none, a⟩ ids wr nx hi) :: done) l (t.set d (some v)) (N ++ L) hi K) : DrO E j done (⟨some d, .call x asq, none, a⟩ :: l) t L nx K := by
  obtain ⟨R, hp⟩ := hL
  refine dro_any hA rfl hp (J := fun v L' => ∃ N, J v N ∧ L' = N ++ Lc) (fun m hm => ?_) (fun m hm => ?_) ha ?_
  · obtain ⟨ids, r1, r2, r3⟩ := shut_reach hS hm
    exact ⟨ids, by simp only [idsOf, hx, r1], r2, r3⟩
  · obtain ⟨n, v, m1, hc, L', h1, hJ⟩ := hC.ex m hm
    refine ⟨n, v, m1, ?_, L', h1, hJ⟩
    unfold argAll at hx
    split at hx
    · rename_i w ws h1 h2
      simp only [Option.some.injEq, List.cons.injEq] at hx
      obtain ⟨rfl, rfl⟩ := hx
      simp only [stepVal, h1, h2, hc]
    · simp at hx
  · rintro v L' ids wr hi ⟨N, hJ, rfl⟩ h2 h3
    refine (h v N ids wr hi hJ h2 h3).weak ⟨[], ?_⟩
    rw [List.append_nil, List.append_assoc]
    exact (List.Perm.append_left N hp.symm)
theorem any_sep {ids1 ids : List Nat} (h : ∀ i ∈ ids1, i ∉ ids) (b : Bool) : (b && ids1.any ids.contains) = false := by
  have : ids1.any ids.contains = false := by
    rw [List.any_eq_false]
    intro x hx hc
    exact h x hx (by simpa using hc)
  rw [this, Bool.and_false]
def news (m : Mem) : List (List AVal) → Mem
  | [] => m
  | c :: r => news (m.new (.cells c)) r
def newH (nx : Nat) (L : Hp) : List (List AVal) → Hp
  | [] => L
  | c :: r => newH (nx + 1) ((nx, c) :: L) r
theorem news_next : ∀ (N : List (List AVal)) (m : Mem), (news m N).next = m.next + N.length
  | [], m => rfl
  | c :: r, m => by rw [news, news_next r]; simp [Mem.new]; omega
theorem news_old : ∀ (N : List (List AVal)) (m : Mem) (id : Nat), id < m.next → (news m N).heap.get id = m.heap.get id
  | [], m, id, h => rfl
  | c :: r, m, id, h => by
    rw [news, news_old r _ id (by simp [Mem.new]; omega)]
    simp only [Mem.new, Tr.get_set]
    rw [if_neg (by omega)]
theorem news_in : ∀ (N : List (List AVal)) (m m0 : Mem) (id : Nat), m.next = m0.next → m.next ≤ id → id < m.next + N.length → (news m N).heap.get id = (news m0 N).heap.get id
  | [], m, m0, id, h, h1, h2 => by simp at h2; omega
  | c :: r, m, m0, id, h, h1, h2 => by
    simp only [news]
    by_cases e : id = m.next
    · rw [news_old r _ id (by simp [Mem.new]; omega), news_old r _ id (by simp [Mem.new]; omega)]
      simp only [Mem.new, Tr.get_set]
      rw [if_pos e, if_pos (by omega)]
    · exact news_in r _ _ id (by simp [Mem.new, h]) (by simp [Mem.new]; omega) (by simp [Mem.new] at h2 ⊢; omega)
theorem ows_news : ∀ (N : List (List AVal)) (m : Mem) (L : Hp), Ows m L → Ows (news m N) (newH m.next L N)
  | [], m, L, h => h
  | c :: r, m, L, h => ows_news r (m.new (.cells c)) ((m.next, c) :: L) h.new
/-- A call that makes so many boxes, and writes none. -/
structure CallX (E : Env) (f : FuncId) (args : List AVal) (Lc : Hp) (nx : Nat) (v : AVal) (N : List (List AVal)) : Prop where
  ex : ∀ m, (∀ p ∈ Lc, m.cells p.1 = some p.2) → m.next = nx → CallW E f args m fun v' m' => v' = v ∧ (m'.heap = (news m N).heap ∧ m'.next = (news m N).next ∧ m'.low = min m.low m.next)
theorem dro_callX {d a : Nat} {x : Arg} {asq : List Arg} {f : FuncId} {b1 b2 vs : List AVal} {Lc : Hp} {v : AVal} {N : List (List AVal)}
    (hx : argAll (restrict t (slotsOf ⟨some d, .call x asq, none, a⟩)) (x :: asq) = some (.fn (.func f) b1 b2 :: vs)) (hL : Sub Lc L) (hS : Shut Lc (.fn (.func f) b1 b2 :: vs)) (hC : CallX E f (b1 ++ vs ++ b2) Lc nx v N)
    (ha : ∀ ids, Fresh L nx → apartFrom (fpOf ⟨some d, .call x asq, none, a⟩ ids false nx (nx + N.length)) done = true)
    (h : ∀ ids, DrO E (j + 1) ((j, fpOf ⟨some d, .call x asq, none, a⟩ ids false nx (nx + N.length)) :: done) l (t.set d (some v)) (newH nx L N) (nx + N.length) K) : DrO E j done (⟨some d, .call x asq, none, a⟩ :: l) t L nx K := ⟨fun m hm hn => by
  have hm2 := hm.sub hL
  obtain ⟨ids, r1, r2, r3⟩ := shut_reach hS hm2
  have hil : ∀ i ∈ ids, i < m.next := fun i hi => by
    obtain ⟨q, hq, rfl⟩ := r2 i hi
    exact hm2.lt hq
  obtain ⟨n1, v', m1, hc, rfl, q1, q2, q3⟩ := hC.ex ⟨restrict m.heap ids, m.next, m.next⟩ (fun p hp => restrict_cells (hm2.at_ p hp) (by simpa using r3 p hp)) hn
  have q3 : m1.low = m.next := q3.trans (Nat.min_self _)
  rw [news_next] at q2
  let e : Eff := ⟨some d, v', slotsOf ⟨some d, .call x asq, none, a⟩, ids, decide (m1.low < m.next), m.next, m1.next, m1.low, m1.heap, a, false, false⟩
  have hwr : decide (m1.low < m.next) = false := by rw [q3]; simp
  have hh := fun id => app_heap e ⟨t, m⟩ id rfl (show m.next ≤ m1.next by rw [q2]; simp)
  have hcov : ∀ id, Eff.cov id e = (decide (m.next ≤ id) && decide (id < m1.next)) := fun id => by simp [Eff.cov, e, hwr]
  have k2 : Ows (e.app ⟨t, m⟩).mem (newH nx L N) := by
    subst hn
    refine Ows.same (ows_news N m L hm) fun id c hcc => ?_
    have hcc' := cells_iff.1 hcc
    rw [news_next] at hcc'
    refine cells_iff.2 ⟨show id < m1.next by rw [q2]; exact hcc'.1, ?_⟩
    rw [hh, ← hcc'.2]
    by_cases hlt : id < m.next
    · rw [if_neg (by rw [hcov]; simp; omega), news_old N m id hlt]
    · rw [if_pos (by rw [hcov]; simp; rw [q2]; constructor; omega; exact hcc'.1)]
      show m1.heap.get id = _
      rw [q1]
      exact news_in N _ _ id rfl (by simpa using hlt) hcc'.1
  have hm1n : m1.next = nx + N.length := by rw [q2, ← hn]
  obtain ⟨n2, s', es, h6, h7, h8⟩ := (h ids).ex (e.app ⟨t, m⟩).mem k2 hm1n
  have he : effO (callF E (n1 + n2)) ⟨some d, .call x asq, none, a⟩ ⟨t, m⟩ = some e := eff_call hx r1 hil (callF_le (Nat.le_add_right _ _) _ _ _ _ hc)
  have e0 : e.fp = fpOf ⟨some d, .call x asq, none, a⟩ ids (decide (m1.low < m.next)) m.next m1.next := rfl
  rw [hwr, hm1n, hn] at e0
  refine ⟨n1 + n2, s', e :: es, ?_, ?_, h8⟩
  · rw [drawOs, he]
    have : e.app ⟨t, m⟩ = ⟨t.set d (some v'), (e.app ⟨t, m⟩).mem⟩ := rfl
    simp only
    rw [this, drawOs_mono (callF_le (Nat.le_add_left _ _)) h6]
  · unfold allApart
    rw [apartFrom_fp, e0, ha ids ⟨hm.nd, fun p hp => by have := hm.lt hp; omega⟩]
    have := allApart_fp es (j + 1) [] j e done
    simp only [List.nil_append] at this
    rw [this, e0, h7]
    rfl⟩
end
end Go.Am
namespace Go.Am
theorem dro_loadA {E : Env} {t : Tr AVal} {L : Hp} {K : Tr AVal → Hp → Prop} {l : List AO} {j nx : Nat} {done : List (Nat × Eff)} {d a id off k : Nat} {x : Arg} {cs r : List AVal} (hx : x.get (restrict t (slotsOf ⟨some d, .load true k x, none, a⟩)) = some (.ptr id off)) (hin : In id cs L) (hv : seg cs off k = some r)
    (ha : Fresh L nx → apartFrom (fpOf ⟨some d, .load true k x, none, a⟩ [id] false nx nx) done = true) (h : DrO E (j + 1) ((j, fpOf ⟨some d, .load true k x, none, a⟩ [id] false nx nx) :: done) l (t.set d (some (.agg r))) L nx K) : DrO E j done (⟨some d, .load true k x, none, a⟩ :: l) t L nx K := by
  refine dro_cons ha (fun m hm hn => ?_) h
  have hcs := hm.get hin
  have hlt := cells_next hcs
  refine ⟨⟨some d, .agg r, slotsOf ⟨some d, .load true k x, none, a⟩, [id], decide (m.next < m.next), m.next, m.next, m.next, restrict m.heap [id], a, false, false⟩, fun cf => ?_, ?_, ?_, rfl, ?_⟩
  · unfold effO
    simp only [wantedA, idsOf, hx, Option.map_some, AVal.id?, List.all_cons, List.all_nil, Bool.and_true, decide_eq_true hlt, if_true]
    have : stepVal cf (restrict t (slotsOf ⟨some d, .load true k x, none, a⟩)) ⟨restrict m.heap [id], m.next, m.next⟩ (.load true k x) = some (.agg r, ⟨restrict m.heap [id], m.next, m.next⟩) := (op_loadA hx (restrict_cells hcs (by simp)) hv).ex
    rw [this]
  · simp [Eff.fp, fpOf, hn]
  · refine hm.same fun i c hc => ?_
    simpa [Eff.app, mergeNew, Mem.cells] using hc
  · simp [Eff.app, hn]
theorem purer {P : Prop} (h : P := by (first | (apply op_mov; (focus (exact rslotq))) | (apply op_inc; (focus (exact rslotq)); (focus (exact numq))) | (apply op_dec; (focus (exact rslotq)); (focus (exact numq)); (focus (exact numq))) | (apply op_rem; (focus (exact rslotq)); (focus (exact rslotq)); (focus (exact numq))) | (apply op_quo; (focus (exact rslotq)); (focus (exact rslotq)); (focus (exact numq)); (focus (exact numq))) | (apply op_mulN; (focus (exact rslotq)); (focus (exact rslotq)); (focus (exact numq))) | (apply op_addN; (focus (exact rslotq)); (focus (exact rslotq)); (focus (exact numq))) | (apply op_lssT; (focus (exact rslotq)); (focus (exact rslotq)); (focus (omega))) | (apply op_lssF; (focus (exact rslotq)); (focus (exact rslotq)); (focus (omega))) | (apply op_leqT; (focus (exact rslotq)); (focus (exact rslotq)); (focus (omega))) | (apply op_leqF; (focus (exact rslotq)); (focus (exact rslotq)); (focus (omega))) | (apply op_gtrT; (focus (exact rslotq)); (focus (exact rslotq)); (focus (omega))) | (apply op_gtrF; (focus (exact rslotq)); (focus (exact rslotq)); (focus (omega))) | (apply op_geqT; (focus (exact rslotq)); (focus (exact rslotq)); (focus (omega))) | (apply op_geqF; (focus (exact rslotq)); (focus (exact rslotq)); (focus (omega))) | (apply op_eqlT; (focus (exact rslotq)); (focus (exact rslotq)); (focus (omega))) | (apply op_eqlF; (focus (exact rslotq)); (focus (exact rslotq)); (focus (omega))) | (apply op_neqT; (focus (exact rslotq)); (focus (exact rslotq)); (focus (omega))) | (apply op_neqF; (focus (exact rslotq)); (focus (exact rslotq)); (focus (omega))) | (apply op_lssI; (focus (exact rslotq)); (focus (exact rslotq))) | (apply op_leqI; (focus (exact rslotq)); (focus (exact rslotq))) | (apply op_gtrI; (focus (exact rslotq)); (focus (exact rslotq))) | (apply op_geqI; (focus (exact rslotq)); (focus (exact rslotq))) | (apply op_eqlI; (focus (exact rslotq)); (focus (exact rslotq))) | (apply op_neqI; (focus (exact rslotq)); (focus (exact rslotq))) | (apply op_addI; (focus (exact rslotq)); (focus (exact rslotq)); (focus (omega))) | (apply op_subI; (focus (exact rslotq)); (focus (exact rslotq)); (focus (omega))) | (apply op_mulI; (focus (exact rslotq)); (focus (exact rslotq)); (focus (omega))) | (apply op_bin; (focus (exact rslotq)); (focus (exact rslotq)); (focus (rfl))) | (apply op_fieldAddr0; (focus (exact rslotq))) | (apply op_fieldAddr; (focus (exact rslotq))) | (apply op_fieldAddrR; (focus (exact rslotq)); (focus (exact numq))) | (apply op_loadR; (focus (exact rslotq)); (focus (first | exact get_inat (by omega) | exact get_ints (by omega) | exact get_ints (k := 0) (by omega) | exact get_ints (k := 1) (by omega) | exact get_ints (k := 2) (by omega) | exact get_np0 (by omega) | exact get_np1 (by omega) | exact get_pair00 (by omega) | exact get_pair1 (by omega) | (first | rfl | assumption | (simp [List.getElem?_append, List.getElem?_cons]; done) | (simp; omega))))) | (apply op_loadRA; (focus (exact rslotq)); (focus (first | assumption | exact seg_np (by omega) | exact seg_pair (by omega) | (first | exact seg_full rfl | ((simp only [seg, List.length_cons, List.length_nil, Nat.reduceAdd, Nat.reduceLeDiff, reduceIte, List.drop_zero, List.drop_succ_cons, List.take_succ_cons, List.take_zero]); rfl) | rfl)))) | (apply op_len; (focus (exact rslotq)); (focus (first | rfl | exact len_Row (by assumption) | exact BufO.slen (by assumption)))) | (apply op_indexRow; (focus (exact rslotq)); (focus (assumption)); (focus (exact rslotq)); (focus (exact numq)); (focus (exact numq))) | (apply op_indexRow (i := 0); (focus (exact rslotq)); (focus (assumption)); (focus (rfl)); (focus (exact numq)); (focus (exact numq))) | (apply op_indexRow (i := 1); (focus (exact rslotq)); (focus (assumption)); (focus (rfl)); (focus (exact numq)); (focus (exact numq))) | (apply op_indexRow (i := 2); (focus (exact rslotq)); (focus (assumption)); (focus (rfl)); (focus (exact numq)); (focus (exact numq))) | (apply op_indexR; (focus (exact rslotq)); (focus (exact rslotq)); (focus (exact numq)); (focus (exact numq))) | (apply op_indexR (i := 0); (focus (exact rslotq)); (focus (rfl)); (focus (exact numq)); (focus (exact numq))) | (apply op_indexR (i := 1); (focus (exact rslotq)); (focus (rfl)); (focus (exact numq)); (focus (exact numq))) | (apply op_indexR (i := 2); (focus (exact rslotq)); (focus (rfl)); (focus (exact numq)); (focus (exact numq))) | (apply op_index01; (focus (exact rslotq)); (focus (exact rslotq)); (focus (exact numq))) | (apply op_index1; (focus (exact rslotq)); (focus (exact rslotq)); (focus (exact numq))) | (apply op_indexL; (focus (exact rslotq)); (focus (exact rslotq)); (focus (exact numq))) | (apply op_indexP (i := 0); (focus (exact rslotq)); (focus (rfl)); (focus (decide))) | (apply op_indexP (i := 1); (focus (exact rslotq)); (focus (rfl)); (focus (decide))) | (apply op_indexO (i := 0); (focus (exact rslotq)); (focus (rfl)); (focus (decide)); (focus (exact numq))) | (apply op_indexO (i := 1); (focus (exact rslotq)); (focus (rfl)); (focus (decide)); (focus (exact numq))) | (apply op_extract; (focus (exact rslotq)); (focus ((first | rfl | assumption | (simp [List.getElem?_append, List.getElem?_cons]; done) | (simp; omega))))) | (apply op_field; (focus (exact rslotq)); (focus ((first | rfl | assumption | (simp [List.getElem?_append, List.getElem?_cons]; done) | (simp; omega))))) | (apply op_pick_t; (focus (exact rslotq)); (focus (exact rslotq))) | (apply op_pick_f; (focus (exact rslotq)); (focus (exact rslotq))) | (apply op_eqNilF; (focus (exact rslotq)); (focus (exact rslotq)); (focus (rfl)); (focus (rfl)); (focus (rfl))) | (apply op_eqNilT; (focus (exact rslotq)); (focus (exact rslotq)); (focus (rfl)); (focus (rfl)); (focus (rfl))) | (apply op_makeFunc; (focus ((repeat (first | exact argAll_nil | (apply argAll_cons; (focus (exact rslotq))))))); (focus ((repeat (first | exact argAll_nil | (apply argAll_cons; (focus (exact rslotq)))))))) | (apply op_un; (focus (exact rslotq)); (focus (rfl))) | (apply op_conv; (focus (exact rslotq)); (focus (rfl))) | (apply op_build; (focus ((repeat (first | exact argParts_nil | (apply argParts_cons; (focus (exact rslotq))))))); (focus ((repeat (first | (apply fillA_one; (focus ((first | rfl | assumption | exact BufO.isOne (by assumption) | exact RowA.isOne (by assumption)))); (focus (first | decide | simp))) | (apply fillA_agg; (focus rfl); (focus (first | decide | simp)); (focus ((first | rfl | assumption | (repeat (first | exact all_one_nil | exact all_one_ints _ | (apply all_one_cons; (focus ((first | rfl | assumption | exact BufO.isOne (by assumption) | exact RowA.isOne (by assumption))))))))))) | (apply fillA_nilE; (focus ((try simp only [List.set_cons_zero, List.set_cons_succ, putSeg, List.take, List.drop, List.take_zero, List.drop_zero, List.take_succ_cons, List.drop_succ_cons, List.nil_append, List.cons_append, List.length_cons, List.length_nil, Nat.reduceAdd, Nat.zero_add, List.append_nil]); (first | exact set_ints _ _ _ | rfl))))))))) | (apply op_eqBoolF; (focus (exact rslotq)); (focus (exact rslotq))) | (apply op_eqBoolT; (focus (exact rslotq)); (focus (exact rslotq))) | (apply op_eqAggF; (focus (exact rslotq)); (focus (exact rslotq)); (focus (rfl))) | (apply op_eqAggT; (focus (exact rslotq)); (focus (exact rslotq)); (focus (rfl))) | (apply op_nilCheck; (focus (exact rslotq))) | (apply op_lenC) | (apply op_lenStr; (focus (exact rslotq))) | (apply op_sliceLo01; (focus (exact rslotq)); (focus (exact rslotq)); (focus (exact numq))) | (apply op_sliceLo1 (lo := 1); (focus (exact rslotq)); (focus (rfl)); (focus (exact numq))) | (apply op_sliceLo1; (focus (exact rslotq)); (focus (exact rslotq)); (focus (exact numq))) | (apply op_sliceLo; (focus (exact rslotq)); (focus (exact rslotq)); (focus (exact numq))) | (apply op_sliceHi; (focus (exact rslotq)); (focus (exact rslotq)); (focus (exact numq))) | (apply op_sliceHiI; (focus (exact rslotq)); (focus (assumption)); (focus (exact rslotq)); (focus (exact numq))) | (apply op_indexAgg; (focus (exact rslotq)); (focus (exact rslotq)); (focus (exact numq)); (focus (assumption))))) : P := h
theorem goz {A B : Prop} (hB : B) (h : Hid B → A := by intro hB; (first | exact dro_nil hB.h | (apply dro_p; (focus (first | rfl | (simp only [idsOf]; rfl))); (focus (intro _ _; rfl)); (focus (intro _ _ hcc; cases hcc)); (focus (intro mm; exact purer)); (focus ((intro hfr; repeat (first | exact apart_nil | (apply apart_bit; (focus decide)) | (apply apart_not; (focus decide); (focus (first | rfl | assumption | (simp; done))); (focus (first | rfl | exact any_none _ _ | (simp; omega)))))))); exact hB.h) | (apply dro_loadA; (focus (exact rslotq)); (focus (exact inq)); (focus (first | assumption | exact seg_full rfl | ((simp only [seg, List.length_cons, List.length_nil, Nat.reduceAdd, Nat.reduceLeDiff, reduceIte, List.drop_zero, List.drop_succ_cons, List.take_succ_cons, List.take_zero]); rfl) | rfl)); (focus ((intro hfr; repeat (first | exact apart_nil | (apply apart_bit; (focus decide)) | (apply apart_not; (focus decide); (focus (first | rfl | assumption | (simp; done))); (focus (first | rfl | exact any_none _ _ | (simp; omega)))))))); exact hB.h) | (apply dro_load; (focus (exact rslotq)); (focus (exact inq)); (focus (first | assumption | rfl)); (focus ((intro hfr; repeat (first | exact apart_nil | (apply apart_bit; (focus decide)) | (apply apart_not; (focus decide); (focus (first | rfl | assumption | (simp; done))); (focus (first | rfl | exact any_none _ _ | (simp; omega)))))))); exact hB.h) | (apply dro_buildSlice; (focus ((repeat (first | exact argParts_nil | (apply argParts_cons; (focus (exact rslotq))))))); (focus ((repeat (first | (apply fillA_one; (focus ((first | rfl | assumption | exact BufO.isOne (by assumption) | exact RowA.isOne (by assumption)))); (focus (first | decide | simp))) | (apply fillA_agg; (focus rfl); (focus (first | decide | simp)); (focus ((first | rfl | assumption | (repeat (first | exact all_one_nil | exact all_one_ints _ | (apply all_one_cons; (focus ((first | rfl | assumption | exact BufO.isOne (by assumption) | exact RowA.isOne (by assumption))))))))))) | (apply fillA_nilE; (focus ((try simp only [List.set_cons_zero, List.set_cons_succ, putSeg, List.take, List.drop, List.take_zero, List.drop_zero, List.take_succ_cons, List.drop_succ_cons, List.nil_append, List.cons_append, List.length_cons, List.length_nil, Nat.reduceAdd, Nat.zero_add, List.append_nil]); (first | exact set_ints _ _ _ | rfl)))))))); (focus ((intro hfr; repeat (first | exact apart_nil | (apply apart_bit; (focus decide)) | (apply apart_not; (focus decide); (focus (first | rfl | assumption | (simp; done))); (focus (first | rfl | exact any_none _ _ | (simp; omega)))))))); exact hB.h) | (apply dro_store; (focus (exact rslotq)); (focus (exact rslotq)); (focus ((first | rfl | assumption | exact BufO.isOne (by assumption) | exact RowA.isOne (by assumption)))); (focus (exact updq)); (focus (exact numq)); (focus (((try simp only [List.set_cons_zero, List.set_cons_succ, putSeg, List.take, List.drop, List.take_zero, List.drop_zero, List.take_succ_cons, List.drop_succ_cons, List.nil_append, List.cons_append, List.length_cons, List.length_nil, Nat.reduceAdd, Nat.zero_add, List.append_nil]); (first | exact set_ints _ _ _ | rfl)))); (focus ((intro hfr; repeat (first | exact apart_nil | (apply apart_bit; (focus decide)) | (apply apart_not; (focus decide); (focus (first | rfl | assumption | (simp; done))); (focus (first | rfl | exact any_none _ _ | (simp; omega)))))))); exact hB.h))) : A := h ⟨hB⟩
end Go.Am
namespace Go.Proofs.YtmflheoafeenfaaGreat
open Go.Am Go.Proofs
set_option maxRecDepth 100000
def mdRowsE : List FuncId := mdRowsO ++ [f_phasorref18_Expand]
def EX : Env := EnvR mdFlatO mdRowsE []
theorem EX_ok : EnvOk Tryz.prog EX := EnvR_ok _ _ _
theorem EX_all : CfAll EX := cfAll_of EX_ok (fun f args m v m' _ h => by simp [EX, EnvR] at h)
theorem aliveE_ok {L : Hp} : CallO EX f_phasorlaw18_alive [] L fun v L' => v = abool true ∧ L' = L := alive18_of rfl n_phasorlaw18_alive (by kernel_rfl)
end Go.Proofs.YtmflheoafeenfaaGreat
namespace Go.Proofs.YtmflheoafeenfaaGreat
open Go.Am Go.Proofs
set_option maxRecDepth 4000
/-- One gate of an operation's condition. -/
def gq (o : OpD) (k : Int) (qs : List Int) : OpD := ⟨1, k, qs, 0, o.ifc, o.whn⟩
def swq (o : OpD) (a b : Int) : List OpD := [gq o 11 [a, b], gq o 11 [b, a], gq o 11 [a, b]]
def czq (o : OpD) (a b : Int) : List OpD := [gq o 9 [b], gq o 11 [a, b], gq o 10 [b]]
def wrK (o : OpD) (k a b c : Int) : Option (List OpD) :=
  if k = 14 then some (swq o a b)
  else if k = 15 then some ([gq o 5 [a]] ++ [gq o 5 [b]] ++ czq o a b ++ swq o a b)
  else if k = 16 then some (swq o a b ++ czq o a b ++ [gq o 6 [a]] ++ [gq o 6 [b]])
  else if k = 12 then some [gq o 6 [b], gq o 11 [a, b], gq o 5 [b]]
  else if k = 13 then some (czq o a b)
  else if k = 17 then some [gq o 5 [a], gq o 7 [a], gq o 5 [a], gq o 6 [b], gq o 8 [b], gq o 6 [b]]
  else if k = 19 then some [gq o 9 [c], gq o 18 [a, b, c], gq o 10 [c]]
  else if k = 20 then some [gq o 11 [c, b], gq o 18 [a, b, c], gq o 11 [c, b]]
  else none
/-- An operation by fewer kinds. -/
def wrO (o : OpD) : List OpD := if o.kind = 1 then (wrK o o.gate (o.qs.getD 0 0) (o.qs.getD 1 0) (o.qs.getD 2 0)).getD [o] else [o]
def expL (l : List OpD) : List OpD := l.flatMap wrO
variable {L : Hp}
/-- What tells nothing of memory but its boxes. -/
theorem CallX.toO {E : Env} {f : FuncId} {args : List AVal} {Lc L : Hp} {v : Nat → AVal} {N : Nat → List (List AVal)} (h : ∀ nx, CallX E f args Lc nx (v nx) (N nx)) (hL : Am.Sub Lc L) : CallO E f args L fun r L' => ∃ nx, r = v nx ∧ L' = newH nx L (N nx) :=
  ⟨fun m hm => ((h m.next).ex m (hm.sub hL).at_ rfl).mono fun r m' ⟨h1, h2, h3, h4⟩ => ⟨newH m.next L (N m.next), (ows_news (N m.next) m L hm).same fun id cs hc => by
    have := cells_iff.1 hc
    exact cells_iff.2 ⟨by rw [h3]; exact this.1, by rw [h2]; exact this.2⟩, m.next, h1, rfl⟩⟩
theorem g_x {i1 nx : Nat} {k : Int} {q u : AVal} {o : OpD} {Lc : Hp} (hi : (i1, opCells u o) ∈ Lc) (hq : q.one = true) : CallX EX f_rewrite_written_1 [aint k, q, .ptr i1 0] Lc nx (.sl nx 0 1 6 (some 1)) [[aint 1, aint k, q, aint 0, aint o.ifc, aint o.whn]] := ⟨fun m hm hn => by
  have hc := hm _ hi
  refine call_open rfl n_rewrite_written_1 ?_
  have hc' : (⟨m.heap, m.next, m.next⟩ : Mem).cells i1 = some (opCells u o) := hc
  refine body_of (Nat.le_of_ble_eq_true rfl) ?_
  generalize ht : argSlots _ 0 .nil = t
  have h0 : t.get 0 = some _ := (by rw [← ht]; rfl)
  have h1 : t.get 1 = some _ := (by rw [← ht]; rfl)
  have h2 : t.get 2 = some _ := (by rw [← ht]; rfl)
  clear ht
  refine aw_seq (aw_reg ?_)
  refine ops_s wanted_none pureq ?_
  refine ops_nil ?_
  refine seqK.n (aw_seq (aw_reg ?_))
  refine ops_s wanted_none pureq ?_
  refine ops_s wanted_none pureq ?_
  refine ops_s wanted_none pureq ?_
  refine ops_s wanted_none (op_load (by exact slotq) hc' rfl) ?_
  refine ops_s wanted_none pureq ?_
  refine ops_s wanted_none (op_load (by exact slotq) hc' rfl) ?_
  refine ops_s wanted_none pureq ?_
  refine ops_s wanted_none (op_buildSlice (argParts_cons (by exact slotq) argParts_nil) (fillA_agg rfl (by decide) (all_one_cons rfl (all_one_cons rfl (all_one_cons hq (all_one_cons rfl (all_one_cons rfl (all_one_cons rfl all_one_nil)))))) (fillA_nilE rfl))) ?_
  refine ops_s wanted_none pureq ?_
  refine ops_nil ?_
  refine seqK.n (aw_ret ?_)
  subst hn
  exact ⟨_, (ResO.tmp (by exact slotq) ResO.nil).ok Ows.nil, rfl, rfl, rfl, rfl⟩⟩
/-- What the closure that makes two qubits' sum is handed. -/
theorem cx_x {i1 i3 nx : Nat} {a b : Int} {u : AVal} {o : OpD} {Lc : Hp} (hi : (i1, opCells u o) ∈ Lc) (h3 : (i3, [.fn (.func f_rewrite_written_1) [] [.ptr i1 0]]) ∈ Lc) : CallX EX f_rewrite_written_2 [aint a, aint b, .ptr i3 0] Lc nx (.sl (nx + 1) 0 1 6 (some 1)) [[aint a, aint b], [aint 1, aint 11, .sl nx 0 2 1 (some 2), aint 0, aint o.ifc, aint o.whn]] := ⟨fun m hm hn => by
  have hc := hm _ h3
  refine call_open rfl n_rewrite_written_2 ?_
  have hc' : (⟨m.heap, m.next, m.next⟩ : Mem).cells i3 = some [.fn (.func f_rewrite_written_1) [] [.ptr i1 0]] := hc
  refine body_of (Nat.le_of_ble_eq_true rfl) ?_
  generalize ht : argSlots _ 0 .nil = t
  have h0 : t.get 0 = some _ := (by rw [← ht]; rfl)
  have h1 : t.get 1 = some _ := (by rw [← ht]; rfl)
  have h2 : t.get 2 = some _ := (by rw [← ht]; rfl)
  clear ht
  refine aw_seq (aw_reg ?_)
  refine ops_s wanted_none pureq ?_
  refine ops_nil ?_
  refine seqK.n (aw_seq (aw_reg ?_))
  refine ops_s wanted_none (op_load (by exact slotq) hc' rfl) ?_
  refine ops_s wanted_none pureq ?_
  refine ops_s wanted_none pureq ?_
  refine ops_s wanted_none (op_buildSlice (argParts_cons (by exact slotq) (argParts_cons (by exact slotq) argParts_nil)) (fillA_one rfl (by simp) (fillA_one rfl (by simp) (fillA_nilE rfl)))) ?_
  subst hn
  refine ops_cs wanted_none (by exact slotq) (argAll_cons rfl (argAll_cons (by exact slotq) argAll_nil)) ?_
  refine ((g_x (k := 11) (q := .sl m.next 0 2 1 (some 2)) (u := u) (o := o) (Lc := Lc) (nx := m.next + 1) hi rfl).ex _ (fun p hp => ?_) rfl).mono ?_
  · have := cells_iff.1 (hm p hp)
    refine cells_iff.2 ⟨by show p.1 < m.next + 1; omega, ?_⟩
    show (m.heap.set m.next _).get p.1 = _
    rw [Tr.get_set_ne _ _ (by omega)]
    exact this.2
  rintro v m' ⟨rfl, e1, e2, e3⟩
  refine ops_s wanted_none pureq ?_
  refine ops_nil ?_
  refine seqK.n (aw_ret ?_)
  have e3 := e3
  exact ⟨_, (ResO.tmp (by exact slotq) ResO.nil).ok Ows.nil, rfl, e1, e2, by show min m.low m'.low = min m.low m.next; rw [e3]; show min m.low (min m.next (m.next + 1)) = _; omega⟩⟩
end Go.Proofs.YtmflheoafeenfaaGreat
