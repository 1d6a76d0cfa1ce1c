/- Parts of the proof, joined by program: LaHD, LaHE, LaHC, LaKH. -/
import Derived.Test.YtfaphhcloanhnaaPa24
import Derived.Test.YtfaphhcloanhnaaChecked
import Derived.Deep.QuietTactic
import Derived.BigQuiet
import Derived.WalkKit
import Derived.IntWalk
import Derived.Shelf.SlSortCmp.NoneTotal
import Derived.Test.YtfaphhcloanhnaaPa22
set_option linter.unusedSimpArgs false
set_option linter.unusedVariables false
namespace Go.Proofs.Ytfaphhcloanhnaa
open Go.Am Go.Dist
set_option maxRecDepth 4000
set_option maxHeartbeats 8000000
variable {E : Env} {L : Hp}
theorem home_l0 (hF : E.fns = fnsT) (hmc : E.mode f_slices_Contains_int_int = .iso false) (hmi : E.mode f_slices_Index_int_int = .iso false) {c0 c1 c2 c4 sp s : AVal} {pl : List Int} {N : Int} {i2 i3 i4 : Nat} (hq : SlI sp pl) (hlt : pl.length < 2 ^ 62) :
    ∀ (d k : Nat) (t : Tr AVal), d + k = pl.length → t.get 2 = some (.ptr i2 0) → t.get 3 = some (.ptr i3 0) → t.get 4 = some (.ptr i4 0) → t.get 56 = some sp → t.get 57 = some (aint pl.length) → t.get 58 = some (aint k) → (∀ i, i < k → okAt N pl i) →
    WpO E (.loop c_route_Home_l0) t ((i4, zeroR) :: (i3, [aint N, s]) :: (i2, [c0, c1, c2, sp, c4]) :: L) (fun ex t' L' => Keep [2, 3, 4] t t' ∧ L' = (i4, zeroR) :: (i3, [aint N, s]) :: (i2, [c0, c1, c2, sp, c4]) :: L ∧ ((ex = .exit 0 ∧ Qs N pl) ∨ (ex = .ret ∧ t'.get 5 = some (aint 201) ∧ ¬ Qs N pl))) := by
  have sp1 := RowA.isOne hq
  have z1 : AVal.sc (Value.int .i64 0) = aint 0 := rfl
  have z2 : AVal.sc (Value.slice none 0 0) = anil := rfl
  intro d
  induction d with
  | zero =>
    intro k t hk h2 h3 h4 h56 h57 h58 hok
    obtain rfl : k = pl.length := by omega
    refine wo_loop ?_
    repeat (first | intro id | refine goq ?_)
    exact ⟨by exact keepq, rfl, .inl ⟨rfl, hok⟩⟩
  | succ d ih =>
    intro k t hk h2 h3 h4 h56 h57 h58 hok
    have hkl : k < pl.length := by omega
    have hat := okAt_iff (n := N) hkl
    have hbad : ¬ okAt N pl k → ¬ Qs N pl := fun h hh => h (hh k hkl)
    refine wo_loop ?_
    by_cases c1 : pl.getD k 0 < 0
    · unfold zeroR
      repeat (first | intro id | refine goq ?_)
      exact ⟨by exact keepq, rfl, .inr ⟨rfl, by exact slotq, hbad fun h => by have := hat.1 h; omega⟩⟩
    by_cases c2 : N ≤ pl.getD k 0
    · unfold zeroR
      repeat (first | intro id | refine goq ?_)
      exact ⟨by exact keepq, rfl, .inr ⟨rfl, by exact slotq, hbad fun h => by have := hat.1 h; omega⟩⟩
    repeat (first | intro id | refine goq ?_)
    refine gok ?_
    have hh := hiI_is hq (Nat.le_of_lt hkl)
    refine (contains_ok hF hmc hmi (vs_bare (bare_SlI hh) (vs_bare rfl vs_nil)) hh (by rw [List.length_take]; omega)).mono ?_
    rintro r L' ⟨rfl, rfl⟩
    by_cases c3 : pl.getD k 0 ∈ pl.take k
    · rw [decide_eq_true c3]
      unfold zeroR
      repeat (first | intro id | refine goq ?_)
      exact ⟨by exact keepq, rfl, .inr ⟨rfl, by exact slotq, hbad fun h => (hat.1 h).2.2 c3⟩⟩
    · rw [decide_eq_false c3]
      repeat (first | intro id | refine goq ?_)
      refine WpO.mono (ih (k + 1) _ (by omega) (by exact slotq) (by exact slotq) (by exact slotq) (by exact slotq) (by exact slotq) (by exact slotq) (Qs_snoc hok (hat.2 ⟨by omega, by omega, c3⟩))) ?_
      rintro ex t' L' ⟨e1, e2, e3⟩
      exact ⟨Keep.trans (by exact keepq) e1, e2, e3⟩
/-- A slice of numbers in a box of its own, or nil; its room known. -/
def Own1 (u : AVal) (l : List Int) (B : Hp) : Prop := (u = anil ∧ l = [] ∧ B = []) ∨ ∃ id cap, u = .sl id 0 l.length 1 cap ∧ ((l = [] ∧ cap = some 0) ∨ cap = none) ∧ B = [(id, l.map aint)]
theorem Own1.isOne {u : AVal} {l : List Int} {B : Hp} (h : Own1 u l B) : u.one = true := by
  rcases h with ⟨rfl, -, -⟩ | ⟨id, cap, rfl, -, -⟩ <;> rfl
theorem Clone_own1 (hF : E.fns = fnsT) (hm : E.mode f_slices_Clone_int_int = .open_) {v : AVal} {l : List Int} (hv : SlI v l) (hl : l.length ≤ 2000000) : CallO E f_slices_Clone_int_int [v] L fun r L' => ∃ B, Own1 r l B ∧ L' = B ++ L := by
  refine CallO.to (callO_open hm (fns_of hF n_slices_Clone_int_int) ?_)
  have hv1 := RowA.isOne hv
  rcases hv with ⟨rfl, h0, h1⟩ | ⟨cap, rfl⟩
  · have : l = [] := List.eq_nil_of_length_eq_zero h0
    subst this
    refine bodyO_of (Nat.le_of_ble_eq_true rfl) ?_; generalize ht : argSlots _ 0 .nil = t; have h0 : t.get 0 = some _ := (by rw [← ht]; rfl); clear ht
    repeat (first | intro id | refine goq ?_)
    ((first | apply retO_r | apply retO_n); (focus (exact resq)))
    exact ⟨_, by exact subq, [], .inl ⟨rfl, rfl, rfl⟩, rfl⟩
  · have hrow : RowA (.rs (l.map aint) l.length cap) (l.map aint) l.length := .inr ⟨cap, rfl⟩
    refine bodyO_of (Nat.le_of_ble_eq_true rfl) ?_; generalize ht : argSlots _ 0 .nil = t; have h0 : t.get 0 = some _ := (by rw [← ht]; rfl); clear ht
    repeat (first | intro id | refine goq ?_)
    by_cases hl0 : l.length = 0
    · have : l = [] := List.eq_nil_of_length_eq_zero hl0
      subst this
      refine oo_append0 wanted_none (by exact slotq) rfl (by exact slotq) rfl ?_
      repeat (first | intro id | refine goq ?_)
      ((first | apply retO_r | apply retO_n); (focus (exact resq)))
      exact ⟨_, by exact subq, [(id, [])], .inr ⟨id, some 0, rfl, .inl ⟨rfl, rfl⟩, rfl⟩, rfl⟩
    · refine oo_appendF wanted_none (by exact slotq) .here (old := []) rfl rfl (by exact slotq) hrow (by omega) (by simp) (all_one_ints _) (by omega) (by omega) ?_
      intro id2
      repeat (first | intro id | refine goq ?_)
      ((first | apply retO_r | apply retO_n); (focus (exact resq)))
      exact ⟨_, by exact subq, [(id2, l.map aint)], .inr ⟨id2, none, by simp [resultV], .inr rfl, rfl⟩, rfl⟩
/-- The places where no qubit is, below k. -/
def restP (pl : List Int) (k : Nat) : List Nat := (List.range k).filter fun p => !decide ((p : Int) ∈ pl)
theorem restP_in {pl : List Int} {k : Nat} (h : (k : Int) ∈ pl) : restP pl (k + 1) = restP pl k := by simp [restP, List.range_succ, h]
theorem restP_out {pl : List Int} {k : Nat} (h : ¬ (k : Int) ∈ pl) : restP pl (k + 1) = restP pl k ++ [k] := by simp [restP, List.range_succ, h]
theorem restP_len (pl : List Int) (k : Nat) : (restP pl k).length ≤ k := by
  have := List.length_filter_le (fun p : Nat => !decide ((p : Int) ∈ pl)) (List.range k)
  simpa [restP] using this
def fullP (pl : List Int) (k : Nat) : List Int := pl ++ inat (restP pl k)
theorem fullP_len (pl : List Int) (k : Nat) : (fullP pl k).length = pl.length + (restP pl k).length := by simp [fullP, inat]
theorem fullP_out {pl : List Int} {k : Nat} (h : ¬ (k : Int) ∈ pl) : fullP pl (k + 1) = fullP pl k ++ [(k : Int)] := by
  unfold fullP
  rw [restP_out h, inat_app, ← List.append_assoc]
  rfl
theorem fullP_in {pl : List Int} {k : Nat} (h : (k : Int) ∈ pl) : fullP pl (k + 1) = fullP pl k := by
  unfold fullP
  rw [restP_in h]
theorem home_l1 (hF : E.fns = fnsT) (hmc : E.mode f_slices_Contains_int_int = .iso false) (hmi : E.mode f_slices_Index_int_int = .iso false) {c0 c1 c2 c4 sp sw ov : AVal} {pl : List Int} {N : Nat} {i2 il : Nat} (hq : SlI sp pl) (hlt : pl.length ≤ 64) (hN : N ≤ 64) (hov : ov.one = true) (hsw : sw.one = true) :
    ∀ (d k : Nat) (t : Tr AVal) (pv : AVal) (Pb : Hp), d + k = N → Own1 pv (fullP pl k) Pb → t.get 2 = some (.ptr i2 0) → t.get 14 = some (.ptr il 0) → t.get 98 = some (aint N) → t.get 99 = some (aint k) →
    WpO E (.loop c_route_Home_l1) t ((il, [ov, pv, sw]) :: (Pb ++ ((i2, [c0, c1, c2, sp, c4]) :: L))) (fun ex t' L' => ex = .exit 2 ∧ Keep [2, 4, 11, 12, 13, 14] t t' ∧ ∃ pv' Pb', Own1 pv' (fullP pl N) Pb' ∧ L' = (il, [ov, pv', sw]) :: (Pb' ++ ((i2, [c0, c1, c2, sp, c4]) :: L))) := by
  have sp1 := RowA.isOne hq
  intro d
  induction d with
  | zero =>
    intro k t pv Pb hk hb h2 h14 h98 h99
    obtain rfl : k = N := by omega
    refine wo_loop ?_
    repeat (first | intro id | refine goq ?_)
    exact ⟨rfl, by exact keepq, pv, Pb, hb, rfl⟩
  | succ d ih =>
    intro k t pv Pb hk hb h2 h14 h98 h99
    have hp1 := hb.isOne
    have hfl := fullP_len pl k
    have hrl := restP_len pl k
    refine wo_loop ?_
    repeat (first | intro id | refine goq ?_)
    refine gok ?_
    refine (contains_ok hF hmc hmi (vs_bare (bare_SlI hq) (vs_bare rfl vs_nil)) hq (by omega)).mono ?_
    rintro r L' ⟨rfl, rfl⟩
    by_cases c3 : (k : Int) ∈ pl
    · rw [decide_eq_true c3]
      repeat (first | intro id | refine goq ?_)
      refine WpO.mono (ih (k + 1) _ pv Pb (by omega) (by rw [fullP_in c3]; exact hb) (by exact slotq) (by exact slotq) (by exact slotq) (by exact slotq)) ?_
      rintro ex t' L' ⟨e1, e2, e3⟩
      exact ⟨e1, Keep.trans (by exact keepq) e2, e3⟩
    · rw [decide_eq_false c3]
      have hs := fullP_out c3
      have ih1 := ih (k + 1)
      rw [hs] at ih1
      have e0 : (fullP pl k).map aint ++ [aint k] = (fullP pl k ++ [(k : Int)]).map aint := by simp
      generalize fullP pl k = fl at *
      have hlac : (fl.map aint).length = fl.length := by simp
      have hsg : seg (fl.map aint) 0 (fl.length * 1) = some (fl.map aint) := by rw [Nat.mul_one]; exact seg_full (by simp)
      rcases hb with ⟨rfl, rfl, rfl⟩ | ⟨ip, cap, rfl, hcp, rfl⟩
      · repeat (first | intro id | refine goq ?_)
        refine WpO.weak (WpO.mono (ih1 _ (.sl id 0 1 1 none) [(id, [aint k])] (by omega) (.inr ⟨id, none, rfl, .inr rfl, rfl⟩) ?_ ?_ ?_ ?_) ?_) ?_
        · exact slotq
        · exact slotq
        · exact slotq
        · exact slotq
        · rintro ex t' L' ⟨e1, e2, e3⟩
          exact ⟨e1, Keep.trans (by exact keepq) e2, e3⟩
        · exact subq
      have hcp2 : cap = some fl.length ∨ cap = none := by
        rcases hcp with ⟨q1, q2⟩ | q
        · left; rw [q2, q1]; rfl
        · exact .inr q
      rcases hcp2 with rfl | rfl
      all_goals
        repeat (first | intro id | refine goq ?_)
        rw [e0]
        refine WpO.weak (WpO.mono (ih1 _ (.sl id 0 (fl.length + 1) 1 none) [(id, (fl ++ [(k : Int)]).map aint)] (by omega) (.inr ⟨id, none, by simp, .inr rfl, rfl⟩) (by exact slotq) (by exact slotq) (by exact slotq) (by exact slotq)) ?_) ?_
        · rintro ex t' L' ⟨e1, e2, e3⟩
          exact ⟨e1, Keep.trans (by exact keepq) e2, e3⟩
        · exact subq
theorem fullP_perm {pl : List Int} {N : Nat} (h : Qs N pl) : (fullP pl N).Perm (inat (List.range N)) := by
  have hn : pl.Nodup := by
    rw [List.nodup_iff_pairwise_ne, List.pairwise_iff_getElem]
    intro i j hi hj hij e
    have := (h j hj).2.2 i hij
    simp [hi, hj] at this
    exact this e
  have hm : ∀ x ∈ pl, 0 ≤ x ∧ x < N := fun x hx => by
    obtain ⟨k, hk, e⟩ := List.getElem_of_mem hx
    have := h k hk
    have e2 : pl.getD k 0 = x := by simp [hk, e]
    rw [← e2]
    exact ⟨this.1, this.2.1⟩
  have hir : (inat (List.range N)).Nodup := by
    unfold inat
    rw [List.nodup_iff_pairwise_ne, List.pairwise_map]
    have := List.nodup_range (n := N)
    rw [List.nodup_iff_pairwise_ne] at this
    exact this.imp fun h e => h (by omega)
  have hrn : (inat (restP pl N)).Nodup := by
    refine List.Nodup.sublist ?_ hir
    unfold inat restP
    exact (List.filter_sublist).map _
  refine (List.perm_ext_iff_of_nodup ?_ hir).2 fun x => ?_
  · unfold fullP
    rw [List.nodup_append]
    refine ⟨hn, hrn, fun a ha b hb e => ?_⟩
    subst e
    unfold inat restP at hb
    simp only [List.mem_map, List.mem_filter, Bool.not_eq_true', decide_eq_false_iff_not] at hb
    obtain ⟨k, ⟨-, h2⟩, rfl⟩ := hb
    exact h2 ha
  · unfold fullP inat restP
    simp only [List.mem_append, List.mem_map, List.mem_filter, List.mem_range, Bool.not_eq_true', decide_eq_false_iff_not]
    constructor
    · rintro (h1 | ⟨k, ⟨h2, -⟩, rfl⟩)
      · have := hm x h1
        exact ⟨x.toNat, by omega, by omega⟩
      · exact ⟨k, h2, rfl⟩
    · rintro ⟨k, h1, rfl⟩
      by_cases h2 : (k : Int) ∈ pl
      · exact .inl h2
      · exact .inr ⟨k, ⟨h1, h2⟩, rfl⟩
theorem fullP_N {pl : List Int} {N : Nat} (h : Qs N pl) : (fullP pl N).length = N := by
  rw [(fullP_perm h).length_eq, inat_length, List.length_range]
theorem Qs_len {pl : List Int} {N : Nat} (h : Qs N pl) : pl.length ≤ N := by
  have := fullP_N h
  rw [fullP_len] at this
  omega
theorem fullP_ok {pl : List Int} {N : Nat} (h : Qs N pl) : PlOk N (fullP pl N) := by
  have hp := fullP_perm h
  have hn : (fullP pl N).Nodup := by
    rw [hp.nodup_iff]
    unfold inat
    rw [List.nodup_iff_pairwise_ne, List.pairwise_map]
    have := List.nodup_range (n := N)
    rw [List.nodup_iff_pairwise_ne] at this
    exact this.imp fun h e => h (by omega)
  refine ⟨fun i hi => ?_, fun i j hi hj e => ?_⟩
  · have hm : (fullP pl N).getD i 0 ∈ fullP pl N := by simp [hi]
    have h2 := hp.mem_iff.1 hm
    unfold inat at h2
    simp only [List.mem_map, List.mem_range] at h2
    obtain ⟨k, h3, h4⟩ := h2
    omega
  · have e1 : (fullP pl N)[i] = (fullP pl N)[j] := by simpa [hi, hj] using e
    rw [List.nodup_iff_pairwise_ne, List.pairwise_iff_getElem] at hn
    rcases Nat.lt_trichotomy i j with h1 | h1 | h1
    · exact (hn i j hi hj h1 e1).elim
    · exact h1
    · exact (hn j i hj hi h1 e1.symm).elim
end Go.Proofs.Ytfaphhcloanhnaa
namespace Go.Proofs.Ytfaphhcloanhnaa
open Go.Am Go.Dist
set_option maxRecDepth 4000
set_option maxHeartbeats 8000000
section
variable {E : Env} {L L' : Hp} {t : Tr AVal} {K : Tr AVal → Hp → Prop} {l : List AO} {g : Option (Option Nat × Bool)} {n d : Nat} {x y z w : Arg} {bytes id off off2 k esz j i : Nat} {cap cap2 : Option Nat} {cs c2 old nw : List AVal} {m : Mem}
/-- Part of a box is appended to a slice without room. -/
theorem oo_appendHS (hg : wantedA t g = some true) (hx : x.get t = some (.sl id off k esz (some k))) (hi : In id cs L) (hs : seg cs off (k * esz) = some old) (ho : old.all AVal.one = true) (hy : y.get t = some (.sl i off2 j esz cap)) (hj : In i c2 L) (hs2 : seg c2 off2 (j * esz) = some nw) (h0 : 0 < j) (h1 : nw.all AVal.one = true) (hr1 : (k + j) * bytes ≤ 140737488355328) (hr2 : k + j ≤ 140737488355328)
    (h : ∀ id2, OpsO E l (t.set d (some (.sl id2 0 (k + j) esz none))) ((id2, old ++ nw) :: L) K) : OpsO E (⟨some d, .append esz bytes x y, g, n⟩ :: l) t L K := ⟨fun m hm => by
  have hsc : sliceCells m esz j (.sl i off2 j esz cap) = some nw := by
    simp only [sliceCells, if_true, hm.get hj]
    exact hs2
  exact ops_s hg (op_append hx hy (.full (hm.get hi) hs) rfl hsc h0 hr1 hr2 h1 ho) ((h m.next).ex _ hm.new)⟩
theorem op_sliceMx {hi mx len : Nat} (hx : x.get t = some (.sl id off len esz cap)) (hy : y.get t = some (aint hi)) (hz : z.get t = some (aint mx)) (h1 : hi ≤ mx) (h2 : mx ≤ len) : OpV t m (.slice esz x none (some y) (some z)) (.sl id off hi esz (some mx)) m := ⟨by
  simp only [opVal, hx, hy, hz, argOpt, AVal.int?, aint, Option.map_some, if_true, bounds3]
  rw [if_pos ⟨by omega, by simp [upTo]; omega⟩]
  simp only []
  rw [if_pos ⟨by omega, rfl, by simp [upTo, h2]⟩]
  simp⟩
end
variable {E : Env} {L : Hp}
theorem CloneN_open (hF : E.fns = fnsT) (hm : E.mode f_slices_Clone_int_int = .open_) {ip n : Nat} {cap : Option Nat} {l : List Int} (hi : In ip (l.map aint) L) (hn : n = l.length) (h0 : 0 < n) (hl : n ≤ 2000000) : CallO E f_slices_Clone_int_int [.sl ip 0 n 1 cap] L fun r L' => ∃ id, r = .sl id 0 n 1 none ∧ L' = (id, l.map aint) :: L := by
  subst hn
  refine CallO.to (callO_open hm (fns_of hF n_slices_Clone_int_int) ?_)
  refine bodyO_of (Nat.le_of_ble_eq_true rfl) ?_; generalize ht : argSlots _ 0 .nil = t; have h0 : t.get 0 = some _ := (by rw [← ht]; rfl); clear ht
  repeat (first | intro id | refine goq ?_)
  refine oo_appendHS wanted_none (by exact slotq) .here (old := []) rfl rfl (by exact slotq) (.next hi) (nw := l.map aint) (by rw [Nat.mul_one]; exact seg_full (by simp)) (by omega) (all_one_ints _) (by omega) (by omega) ?_
  intro id2
  repeat (first | intro id | refine goq ?_)
  ((first | apply retO_r | apply retO_n); (focus (exact resq)))
  refine ⟨_, ?_, id2, by simp [resultV], rfl⟩
  exact subq
/-- An order laid out up to k. -/
def fillO (l : List Int) (k : Nat) : List Int := inat (List.range k) ++ l.drop k
theorem fillO_zero (l : List Int) : fillO l 0 = l := by simp [fillO, inat]
theorem fillO_len {l : List Int} {k : Nat} (h : k ≤ l.length) : (fillO l k).length = l.length := by simp [fillO, inat]; omega
theorem fillO_set {l : List Int} {k : Nat} (h : k < l.length) : (fillO l k).set k (k : Int) = fillO l (k + 1) := by
  unfold fillO
  have hl : (inat (List.range k)).length = k := by simp [inat]
  rw [List.set_append_right _ _ (by omega), hl, Nat.sub_self, List.drop_eq_getElem_cons h, List.set_cons_zero, List.range_succ, inat_app, List.append_assoc]
  rfl
theorem fillO_all {l : List Int} {n : Nat} (h : l.length = n) : fillO l n = inat (List.range n) := by
  unfold fillO
  rw [List.drop_of_length_le (by omega), List.append_nil]
theorem home_l2 {io n : Nat} {cap : Option Nat} {l : List Int} (hn : l.length = n) (hlt : n ≤ 1000000) :
    ∀ (d k : Nat) (t : Tr AVal), d + k = n → t.get 16 = some (.sl io 0 n 1 cap) → t.get 124 = some (aint n) → t.get 125 = some (aint k) →
    WpO E (.loop c_route_Home_l2) t ((io, (fillO l k).map aint) :: L) (fun ex t' L' => ex = .exit 4 ∧ Keep [2, 4, 11, 12, 13, 14, 16] t t' ∧ L' = (io, (inat (List.range n)).map aint) :: L) := by
  intro d
  induction d with
  | zero =>
    intro k t hk h16 h124 h125
    obtain rfl : k = n := by omega
    refine wo_loop ?_
    repeat (first | intro id | refine goq ?_)
    exact ⟨rfl, by exact keepq, by rw [fillO_all hn]⟩
  | succ d ih =>
    intro k t hk h16 h124 h125
    have hfl := fillO_len (l := l) (k := k) (by omega)
    have hs := fillO_set (l := l) (k := k) (by omega)
    have ih1 := ih (k + 1)
    rw [← hs] at ih1
    generalize fillO l k = fl at *
    refine wo_loop ?_
    repeat (first | intro id | refine goq ?_)
    refine WpO.mono (ih1 _ (by omega) (by exact slotq) (by exact slotq) (by exact slotq)) ?_
    rintro ex t' L' ⟨e1, e2, e3⟩
    exact ⟨e1, Keep.trans (by exact keepq) e2, e3⟩
/-- A row's first n numbers turned round, k from each end. -/
def revM (l : List Int) (n k : Nat) : List Int := (List.range l.length).map fun i => if i < n ∧ (i < k ∨ n - k ≤ i) then l.getD (n - 1 - i) 0 else l.getD i 0
theorem revM_len (l : List Int) (n k : Nat) : (revM l n k).length = l.length := by simp [revM]
theorem revM_get {l : List Int} {n k i : Nat} (h : i < l.length) : (revM l n k).getD i 0 = if i < n ∧ (i < k ∨ n - k ≤ i) then l.getD (n - 1 - i) 0 else l.getD i 0 := by
  have hl := revM_len l n k
  rw [List.getD_eq_getElem?_getD, List.getElem?_eq_getElem (by omega)]
  simp [revM]
theorem ext_getD {a b : List Int} (hl : a.length = b.length) (h : ∀ i, i < a.length → a.getD i 0 = b.getD i 0) : a = b := by
  refine List.ext_getElem hl fun i h1 h2 => ?_
  have := h i h1
  simpa [h1, h2] using this
theorem revM_zero (l : List Int) (n : Nat) : revM l n 0 = l := by
  refine ext_getD (revM_len _ _ _) fun i hi => ?_
  rw [revM_len] at hi
  rw [revM_get hi]
  rw [if_neg (by omega)]
theorem revM_step {l : List Int} {n k : Nat} (hn : n ≤ l.length) (h : k < n - 1 - k) : ((revM l n k).set k (l.getD (n - 1 - k) 0)).set (n - 1 - k) (l.getD k 0) = revM l n (k + 1) := by
  refine ext_getD (by simp [revM_len]) fun i hi => ?_
  simp only [List.length_set, revM_len] at hi
  rw [revM_get hi, getD_set, getD_set, revM_get hi]
  simp only [List.length_set, revM_len]
  by_cases c1 : i = n - 1 - k
  · subst c1
    rw [if_pos (by omega), if_pos (by omega), show n - 1 - (n - 1 - k) = k by omega]
  · rw [if_neg (by omega)]
    by_cases c2 : i = k
    · subst c2
      rw [if_pos (by omega), if_pos (by omega)]
    · rw [if_neg (by omega)]
      by_cases c3 : i < n ∧ (i < k ∨ n - k ≤ i)
      · rw [if_pos c3, if_pos (by omega)]
      · rw [if_neg c3, if_neg (by omega)]
theorem revM_end {l : List Int} {n k : Nat} (hn : n ≤ l.length) (hk : k ≤ n) (h : n ≤ 2 * k + 1) : revM l n k = (l.take n).reverse ++ l.drop n := by
  refine ext_getD (by simp [revM_len]; omega) fun i hi => ?_
  rw [revM_len] at hi
  rw [revM_get hi]
  have hl : (l.take n).reverse.length = n := by simp; omega
  by_cases c1 : i < n
  · have hx : ((l.take n).reverse ++ l.drop n).getD i 0 = l.getD (n - 1 - i) 0 := by
      rw [List.getD_eq_getElem?_getD, List.getElem?_append_left (by omega), List.getElem?_reverse (by simp; omega), List.length_take, Nat.min_eq_left hn, List.getElem?_take, if_pos (by omega), ← List.getD_eq_getElem?_getD]
    rw [hx]
    by_cases c2 : i < k ∨ n - k ≤ i
    · rw [if_pos ⟨c1, c2⟩]
    · rw [if_neg (by omega)]
      congr 1
      omega
  · rw [if_neg (by omega), List.getD_eq_getElem?_getD (l := _ ++ _), List.getElem?_append_right (by omega), hl]
    simp only [List.getD_eq_getElem?_getD, List.getElem?_drop]
    congr 2
    omega
theorem rev_l0 (hst : still E c_slices_Reverse_int_int_r2 = true) {id n : Nat} {cap : Option Nat} {l : List Int} (hn : n ≤ l.length) (hlt : l.length ≤ 1000000) :
    ∀ (d k : Nat) (t : Tr AVal), d + k = n → t.get 0 = some (.sl id 0 n 1 cap) → t.get 2 = some (aint k) → t.get 3 = some (aint ((n : Int) - 1 - k)) →
    WpO E (.loop c_slices_Reverse_int_int_l0) t ((id, (revM l n k).map aint) :: L) (fun ex t' L' => ex = .exit 0 ∧ L' = (id, ((l.take n).reverse ++ l.drop n).map aint) :: L) := by
  intro d
  induction d with
  | zero =>
    intro k t hk h0 h2 h3
    obtain rfl : k = n := by omega
    refine wo_loop ?_
    repeat (first | intro id | refine goq ?_)
    exact ⟨rfl, by rw [revM_end hn (Nat.le_refl _) (by omega)]⟩
  | succ d ih =>
    intro k t hk h0 h2 h3
    by_cases c : k < n - 1 - k
    · have h3' : t.get 3 = some (aint ((n - 1 - k : Nat) : Int)) := by rw [h3]; congr 2; omega
      have hl := revM_len l n k
      have g1 : (revM l n k).getD k 0 = l.getD k 0 := by rw [revM_get (by omega), if_neg (by omega)]
      have g2 : (revM l n k).getD (n - 1 - k) 0 = l.getD (n - 1 - k) 0 := by rw [revM_get (by omega), if_neg (by omega)]
      have hs := revM_step hn c
      have ih1 := ih (k + 1)
      rw [← hs] at ih1
      clear h3
      obtain ⟨j, hj⟩ : ∃ j, j = n - 1 - k := ⟨_, rfl⟩
      rw [← hj] at c h3' hs ih1 g2
      generalize revM l n k = rl at *
      refine wo_loop ?_
      repeat (first | intro id | refine goq ?_)
      rw [g1, g2]
      refine WpO.mono (ih1 _ (by omega) ?_ ?_ ?_) (fun _ _ _ h => h)
      · exact slotq
      · exact slotq
      · rw [show (n : Int) - 1 - ((k + 1 : Nat) : Int) = ((j - 1 : Nat) : Int) by omega]
        exact slotq
    · refine wo_loop ?_
      repeat (first | intro id | refine goq ?_)
      exact ⟨rfl, by rw [revM_end hn (by omega) (by omega)]⟩
theorem reverse_open (hF : E.fns = fnsT) (hm : E.mode f_slices_Reverse_int_int = .open_) (hst : still E c_slices_Reverse_int_int_r2 = true) {id n : Nat} {cap : Option Nat} {l : List Int} (hn : n ≤ l.length) (hlt : l.length ≤ 1000000) :
    CallO E f_slices_Reverse_int_int [.sl id 0 n 1 cap] ((id, l.map aint) :: L) fun v L' => v = .tup [] ∧ L' = (id, ((l.take n).reverse ++ l.drop n).map aint) :: L := by
  refine CallO.to (callO_open hm (fns_of hF n_slices_Reverse_int_int) ?_)
  refine bodyO_of (Nat.le_of_ble_eq_true rfl) ?_; generalize ht : argSlots _ 0 .nil = t; have h0 : t.get 0 = some _ := (by rw [← ht]; rfl); clear ht
  repeat (first | intro id | refine goq ?_)
  refine WpO.weak (WpO.mono (rev_l0 (L := L) (id := id) (cap := cap) hst hn hlt n 0 _ (by omega) ?_ ?_ ?_) ?_) ?_
  · exact slotq
  · exact slotq
  · rw [show (n : Int) - 1 - ((0 : Nat) : Int) = (n : Int) - 1 by omega]
    exact slotq
  · rintro ex t' L' ⟨rfl, rfl⟩
    repeat (first | intro id | refine goq ?_)
    ((first | apply retO_r | apply retO_n); (focus (exact resq)))
    exact ⟨_, by exact subq, rfl, rfl⟩
  · rw [revM_zero]
    exact subq
theorem alongW_drop {W : List Nat} {i : Nat} (h : i + 1 < W.length) (l : LaidW) : alongW (W.drop i) l = alongW (W.drop (i + 1)) (l.swap (W.getD i 0 : Nat) (W.getD (i + 1) 0 : Nat)) := by
  rw [List.drop_eq_getElem_cons (by omega), List.drop_eq_getElem_cons h]
  have e1 : W.getD i 0 = W[i] := by simp [show i < W.length by omega]
  have e2 : W.getD (i + 1) 0 = W[i + 1] := by simp [h]
  rw [e1, e2]
  rfl
theorem alongW_one {W : List Nat} {i : Nat} (h : i + 1 = W.length) (l : LaidW) : alongW (W.drop i) l = l := by
  rw [List.drop_eq_getElem_cons (by omega), List.drop_of_length_le (by omega)]
  rfl
theorem home_l3 (hF : E.fns = fnsT) (hK : KnownAbove E) (hm : E.mode f_route_laid_swap = .open_) (hms : E.mode f_route_swap = .fresh) (hst : still E c_route_laid_swap_r0 = true) (hst42 : still E c_route_Home_r42 = true) {il iw : Nat} {cap : Option Nat} {W X : List Nat} (hX : X.length ≤ 1000) (hW : 0 < W.length) (hWl : W.length ≤ 1000) :
    ∀ (d i : Nat) (t : Tr AVal) (l : LaidW) (ov pv : AVal) (B : Hp), d + i + 1 = W.length → LaidB l.d ov pv B → l.ops.length + d < 1000000 → t.get 14 = some (.ptr il 0) → t.get 21 = some (.sl iw 0 W.length 1 cap) → t.get 179 = some (aint ((W.length - 1 : Nat) : Int)) → t.get 180 = some (aint i) →
    WpO E (.loop c_route_Home_l3) t ((il, [ov, pv, aint l.swaps]) :: (B ++ ((iw, (inat (W ++ X)).map aint) :: L))) (fun ex t' L' => ex = .exit 8 ∧ Keep [2, 4, 11, 12, 13, 14, 136, 137, 138] t t' ∧ ∃ ov' pv' B', LaidB (alongW (W.drop i) l).d ov' pv' B' ∧ Am.Sub ((il, [ov', pv', aint (alongW (W.drop i) l).swaps]) :: (B' ++ L)) L') := by
  have hil := inat_length (W ++ X)
  rw [List.length_append] at hil
  intro d
  induction d with
  | zero =>
    intro i t l ov pv B hk hB ho h14 h21 h179 h180
    refine wo_loop ?_
    repeat (first | intro id | refine goq ?_)
    rw [alongW_one (by omega)]
    exact ⟨rfl, by exact keepq, ov, pv, B, hB, by exact subq⟩
  | succ d ih =>
    intro i t l ov pv B hk hB ho h14 h21 h179 h180
    have hsw := fun (a b : Int) => LSwapW_open (L := (iw, (inat (W ++ X)).map aint) :: L) (a := a) (b := b) hF hK hm hms hst hB (il := il) (by omega)
    have e1 : (inat (W ++ X)).getD i 0 = ((W.getD i 0 : Nat) : Int) := by rw [inat_getD (by rw [List.length_append]; omega)]; simp [List.getD_eq_getElem?_getD, List.getElem?_append_left (show i < W.length by omega)]
    have e2 : (inat (W ++ X)).getD (i + 1) 0 = ((W.getD (i + 1) 0 : Nat) : Int) := by rw [inat_getD (by rw [List.length_append]; omega)]; simp [List.getD_eq_getElem?_getD, List.getElem?_append_left (show i + 1 < W.length by omega)]
    have hB0 := hB
    obtain ⟨_, _, _, _, hb1, _, hp1, -, -, -⟩ := hB0
    have ov1 := hb1.isOne
    have pv1 := hp1.isOne
    rw [alongW_drop (by omega)]
    refine wo_loop ?_
    repeat (first | intro id | refine goq ?_)
    rw [e1, e2]
    refine gok ?_
    refine (hsw _ _).mono ?_
    rintro v L' ⟨rfl, ov', pv', B', hB', rfl⟩
    repeat (first | intro id | refine goq ?_)
    refine WpO.mono (ih (i + 1) _ (l.swap (W.getD i 0 : Nat) (W.getD (i + 1) 0 : Nat)) ov' pv' B' (by omega) hB' ?_ ?_ ?_ ?_ ?_) ?_
    · simp only [LaidW.swap, List.length_append, List.length_singleton]; omega
    · exact slotq
    · exact slotq
    · exact slotq
    · exact slotq
    · rintro ex t' L' ⟨e1, e2, e3⟩
      exact ⟨e1, Keep.trans (by exact keepq) e2, e3⟩
end Go.Proofs.Ytfaphhcloanhnaa
namespace Go.Proofs.Ytfaphhcloanhnaa
open Go.Proofs
set_option maxHeartbeats 4000000
theorem home1_walk {W : World} {bi oi bf fo N c : Nat} {rk : Nat → Nat} (hb : W.cell? ⟨bi, oi, none⟩ = some (.slice (some ⟨bf, fo, none⟩) N c)) (hc : ∀ j, j < N → W.cell? ⟨bf, fo + j, none⟩ = some (.int .i64 (rk j : Nat)))
    (hr : ∀ j, j < N → rk j ≤ 1000) {x y : Nat} (hx : x < N) (hy : y < N) (hN : N ≤ 1000) :
    Calls Try.prog 53 #[.int .i64 (x : Nat), .int .i64 (y : Nat), .pointer (some ⟨bi, oi, none⟩)] W fun e w' => e = .returned (.int .i64 (homeC rk x y)) ∧ ∃ q, w' = W.drewN q := by
  have hrx := hr x hx
  have hry := hr y hy
  have cx := hc x hx
  have cy := hc y hy
  have ix : (x : Int) < (N : Int) := by omega
  have iy : (y : Int) < (N : Int) := by omega
  have i0 : (0 : Int) ≤ (x : Int) := by omega
  have i1 : (0 : Int) ≤ (y : Int) := by omega
  clear hc hr
  by_cases h : rk x = rk y
  · have hv : homeC rk x y = (y : Int) - x := by simp [homeC, h]
    have w1 : IntKind.i64.wrap ((y : Int) - (x : Int)) = (y : Int) - x := IntWalk.i64_in _ (by omega)
    have hd : (((rk x : Nat) : Int) != ((rk y : Nat) : Int)) = false := by simp [h]
    rw [hv]
    go_enter Try.func53, Try.ntmps53
    go_wp2
    go_quiet (fail)
    try rw [hd]
    go_wp2
    go_ret
    exact ⟨rfl, nq, rfl⟩
  · have hv : homeC rk x y = (rk y : Int) - rk x := by simp [homeC, h]
    have w1 : IntKind.i64.wrap ((rk y : Int) - (rk x : Int)) = (rk y : Int) - rk x := IntWalk.i64_in _ (by omega)
    have hd : (((rk x : Nat) : Int) != ((rk y : Nat) : Int)) = true := by simp; omega
    rw [hv]
    go_enter Try.func53, Try.ntmps53
    go_wp2
    go_quiet (fail)
    try rw [hd]
    go_wp2
    go_quiet (fail)
    go_wp2
    go_ret
    exact ⟨rfl, _, World.drewN_drewN _ _ _⟩
end Go.Proofs.Ytfaphhcloanhnaa
namespace Go.Proofs.Ytfaphhcloanhnaa
open Go.Shelf Go.Proofs
/-- Where the library's numbers lie here. -/
def sortF_ren : Go.Shelf.Ren := ⟨fun | 6 => 52 | 15 => 71 | 14 => 70 | 28 => 85 | 29 => 86 | 20 => 77 | 21 => 78 | 22 => 79 | 23 => 80 | 24 => 81 | 25 => 82 | 26 => 83 | 27 => 84 | 46 => 99 | 47 => 100 | 48 => 101 | 49 => 102 | 50 => 103 | 57 => 111 | n => n, fun | 22 => 44 | 24 => 3 | 25 => 99 | 3 => 3 | 39 => 112 | 0 => 0 | 53 => 125 | 55 => 49 | 4 => 4 | 46 => 118 | 45 => 117 | 50 => 122 | 5 => 5 | 9 => 9 | 66 => 135 | 70 => 139 | 76 => 147 | 77 => 107 | n => n, fun | n => n⟩
set_option maxRecDepth 100000 in
theorem sortF : Go.Proofs.SlLaysF.n6 Try.prog sortF_ren := {
  mixed := by kernel_rfl
  f6 := ⟨Try.f52.name, by decide, Try.func52.trans (congrArg some (by kernel_rfl))⟩
  f14 := ⟨Try.f70.name, by decide, Try.func70.trans (congrArg some (by kernel_rfl))⟩
  f15 := Try.func71.trans (congrArg some (by kernel_rfl))
  f20 := ⟨Try.f77.name, by decide, Try.func77.trans (congrArg some (by kernel_rfl))⟩
  f21 := ⟨Try.f78.name, by decide, Try.func78.trans (congrArg some (by kernel_rfl))⟩
  f22 := ⟨Try.f79.name, by decide, Try.func79.trans (congrArg some (by kernel_rfl))⟩
  f23 := ⟨Try.f80.name, by decide, Try.func80.trans (congrArg some (by kernel_rfl))⟩
  f24 := ⟨Try.f81.name, by decide, Try.func81.trans (congrArg some (by kernel_rfl))⟩
  f25 := ⟨Try.f82.name, by decide, Try.func82.trans (congrArg some (by kernel_rfl))⟩
  f26 := ⟨Try.f83.name, by decide, Try.func83.trans (congrArg some (by kernel_rfl))⟩
  f27 := ⟨Try.f84.name, by decide, Try.func84.trans (congrArg some (by kernel_rfl))⟩
  f28 := Try.func85.trans (congrArg some (by kernel_rfl))
  f29 := Try.func86.trans (congrArg some (by kernel_rfl))
  f46 := ⟨Try.f99.name, by decide, Try.func99.trans (congrArg some (by kernel_rfl))⟩
  f47 := Try.func100.trans (congrArg some (by kernel_rfl))
  f48 := Try.func101.trans (congrArg some (by kernel_rfl))
  f49 := ⟨Try.f102.name, by decide, Try.func102.trans (congrArg some (by kernel_rfl))⟩
  f50 := ⟨Try.f103.name, by decide, Try.func103.trans (congrArg some (by kernel_rfl))⟩
  f57 := ⟨Try.f111.name, by decide, Try.func111.trans (congrArg some (by kernel_rfl))⟩
  t0 := Try.underlying0
  a0 := Try.isAgg0
  z0 := Try.sizeOf0
  v0 := Try.zeroValue0
  t3 := Try.underlying3
  a3 := Try.isAgg3
  z3 := Try.sizeOf3
  v3 := Try.zeroValue3
  t4 := Try.underlying4
  a4 := Try.isAgg4
  z4 := Try.sizeOf4
  v4 := Try.zeroValue4
  t5 := Try.underlying5
  a5 := Try.isAgg5
  z5 := Try.sizeOf5
  v5 := Try.zeroValue5
  t9 := Try.underlying9
  a9 := Try.isAgg9
  z9 := Try.sizeOf9
  v9 := Try.zeroValue9
  t22 := Try.underlying44
  a22 := Try.isAgg44
  z22 := Try.sizeOf44
  v22 := Try.zeroValue44
  a24 := Try.isAgg3
  z24 := Try.sizeOf3
  t25 := Try.underlying99
  a25 := Try.isAgg99
  z25 := Try.sizeOf99
  v25 := Try.zeroValue99
  t39 := Try.underlying112
  a39 := Try.isAgg112
  z39 := Try.sizeOf112
  v39 := Try.zeroValue112
  t45 := Try.underlying117
  a45 := Try.isAgg117
  z45 := Try.sizeOf117
  v45 := Try.zeroValue117
  t46 := Try.underlying118
  a46 := Try.isAgg118
  z46 := Try.sizeOf118
  v46 := Try.zeroValue118
  t50 := Try.underlying122
  a50 := Try.isAgg122
  z50 := Try.sizeOf122
  v50 := Try.zeroValue122
  t53 := Try.underlying125
  a53 := Try.isAgg125
  z53 := Try.sizeOf125
  v53 := Try.zeroValue125
  t55 := Try.underlying49
  a55 := Try.isAgg49
  z55 := Try.sizeOf49
  v55 := Try.zeroValue49
  t66 := Try.underlying135
  a66 := Try.isAgg135
  z66 := Try.sizeOf135
  v66 := Try.zeroValue135
  t70 := Try.underlying139
  a70 := Try.isAgg139
  z70 := Try.sizeOf139
  v70 := Try.zeroValue139
  t76 := Try.underlying147
  a76 := Try.isAgg147
  z76 := Try.sizeOf147
  v76 := Try.zeroValue147
  t77 := Try.underlying107
  a77 := Try.isAgg107
  z77 := Try.sizeOf107
  v77 := Try.zeroValue107 }
end Go.Proofs.Ytfaphhcloanhnaa
namespace Go.Proofs.Ytfaphhcloanhnaa
open Go.Am Go.Sort Go.Proofs Go.Shelf
set_option maxHeartbeats 4000000
/-- The order of the places, of a row of distances. -/
def rkOf (r : List Int) (p : Nat) : Nat := (r.getD p 0).toNat
def encF {n : Nat} (x : Fin (n + 1)) : Value := .int .i64 (x.val : Int)
def cfF {n : Nat} (rk : Nat → Nat) (x y : Fin (n + 1)) : Int := homeC rk x.val y.val
theorem ltF {n : Nat} (rk : Nat → Nat) (x y : Fin (n + 1)) : ltOf (cfF rk) x y = decide (homeR rk x.val y.val) := by
  unfold ltOf cfF
  exact decide_eq_decide.2 homeC_lt
theorem swoF {n : Nat} (rk : Nat → Nat) : SWO (ltOf (cfF (n := n) rk)) where
  irrefl x := by rw [ltF, decide_eq_false_iff_not]; exact fun h => homeR_asym _ _ h h
  trans x y z h1 h2 := by rw [ltF, decide_eq_true_eq] at *; exact homeR_trans h1 h2
  ntrans x y z h1 h2 := by rw [ltF, decide_eq_false_iff_not] at *; unfold homeR at *; omega
theorem totF {n : Nat} (rk : Nat → Nat) (x y : Fin (n + 1)) (h1 : ltOf (cfF rk) x y = false) (h2 : ltOf (cfF rk) y x = false) : x = y := by
  rw [ltF, decide_eq_false_iff_not] at *
  apply Fin.ext
  unfold homeR at *
  omega
theorem putCells_lst {α : Type} [Inhabited α] (enc : α → Value) (off : Nat) (d : List α) (vs : Array Value) (h : off + d.length ≤ vs.size) : (putCells enc off d.toArray vs).toList = vs.toList.take off ++ d.map enc ++ vs.toList.drop (off + d.length) := by
  refine List.ext_getElem? fun k => ?_
  have hl : (vs.toList.take off).length = off := by simp; omega
  simp only [Array.getElem?_toList, putCells, Array.getElem?_mapIdx]
  by_cases h1 : k < off
  · rw [List.append_assoc, List.getElem?_append_left (by omega), List.getElem?_take, if_pos h1, Array.getElem?_toList]
    cases vs[k]? with
    | none => rfl
    | some x => simp; intro h2; omega
  · by_cases h2 : k < off + d.length
    · rw [List.getElem?_append_left (by simp; omega), List.getElem?_append_right (by omega), hl, List.getElem?_map]
      have hk : vs[k]? = some vs[k] := Array.getElem?_eq_getElem (by omega)
      rw [hk]
      have hd : k - off < d.length := by omega
      simp [show off ≤ k by omega, h2, hd]
    · rw [List.getElem?_append_right (by simp; omega), List.getElem?_drop, Array.getElem?_toList]
      have e : off + d.length + (k - (List.take off vs.toList ++ d.map enc).length) = k := by simp; omega
      rw [e]
      cases vs[k]? with
      | none => rfl
      | some x => simp; intro h3 h4; omega
theorem home_sorted {n : Nat} {rk : Nat → Nat} (h : ∀ p, p < n + 1 → rk p ≤ n + 1) : (((List.finRange (n + 1)).mergeSort fun x y => !(ltOf (cfF rk)) y x).map encF) = ((inat (homeL rk (n + 1))).map (Value.int .i64)) := by
  have e1 : (encF (n := n)) = (fun x : Nat => Value.int .i64 (x : Int)) ∘ (fun x : Fin (n + 1) => x.val) := rfl
  rw [e1, ← List.map_map, List.map_mergeSort (s := fun x y => !decide (homeR rk y x)) (fun a _ b _ => by rw [ltF]), show List.map (fun x : Fin (n + 1) => x.val) (List.finRange (n + 1)) = List.range (n + 1) from List.ext_getElem (by simp) (by simp), homeSort h]
  simp [inat]
theorem sortHome_calls {w : World} {b o bi oi bf fo n c c2 : Nat} {vs : Array Value} {el : TypeId} {rk : Nat → Nat} (hb : w.heap[b]? = some (.cells vs el (0, 0))) (hv : ∀ j, j < n + 1 → vs[o + j]? = some (.int .i64 (j : Int)))
    (hi : w.cell? ⟨bi, oi, none⟩ = some (.slice (some ⟨bf, fo, none⟩) (n + 1) c2)) (hf : ∀ j, j < n + 1 → w.cell? ⟨bf, fo + j, none⟩ = some (.int .i64 (rk j : Nat))) (hr : ∀ p, p < n + 1 → rk p ≤ n + 1) (hn : n + 1 ≤ 1000) (h1 : bi ≠ b) (h2 : bf ≠ b) (h3 : bi < w.heap.size) (h4 : bf < w.heap.size) :
    Calls Try.prog 52 #[.slice (some ⟨b, o, none⟩) (n + 1) c, .func (.func 53) #[] #[.pointer (some ⟨bi, oi, none⟩)]] w fun e w' => e = .returned (.tuple #[]) ∧ ∃ k os vs', vs'.size = vs.size ∧ vs'.toList = vs.toList.take o ++ (inat (homeL rk (n + 1))).map (Value.int .i64) ++ vs.toList.drop (o + (n + 1)) ∧ w' = grow ((Go.Sort.ahead w k).setRow b vs') os := by
  have hsz : ((List.finRange (n + 1)).toArray).size = n + 1 := by simp
  have ho : o + (n + 1) ≤ vs.size := by
    have := hv n (by omega)
    have := (Array.getElem?_eq_some_iff.1 this).1
    omega
  have hH : Holds encF w b o (List.finRange (n + 1)).toArray := by
    intro j hj
    rw [hsz] at hj
    refine ⟨?_, ?_⟩
    · unfold World.cell?
      simp only [hb]
      rw [hv j hj]
      simp [encF, hj]
    · unfold World.frozen?
      simp only [hb]
      simp
  have hcmp : CmpLays1 (α := Fin (n + 1)) Try.prog 53 #[.pointer (some ⟨bi, oi, none⟩)] encF (cfF rk) b o (List.finRange (n + 1)).toArray.size w := by
    intro m os dk hs x y
    have hw : ∀ a : Addr, a.block ≠ b → a.block < w.heap.size → (sortWorld encF w b o m dk os).cell? a = w.cell? a := by
      intro a ha hl
      unfold sortWorld
      rw [cell?_grow _ _ _ (by rw [Go.Sort.size_putRow]; exact hl), cell?_putRow_other _ _ _ _ _ _ (.inl ha)]
      rfl
    have := home1_walk (W := sortWorld encF w b o m dk os) (rk := rk) (x := x.val) (y := y.val) ((hw _ h1 h3).trans hi) (fun j hj => (hw _ h2 h4).trans (hf j hj)) (fun j hj => by have := hr j hj; omega) x.isLt y.isLt hn
    refine this.mono ?_
    rintro e w' ⟨rfl, q, rfl⟩
    exact ⟨rfl, q, #[], by rw [grow_empty]⟩
  have eg : ∀ args w, (callFunc 53 args).run Try.prog w = .ok (.enter 53 args) w := enters_of Try.func53 (by kernel_rfl) rfl
  have hS := Any.slices_SortFunc_total sortF encF (fun _ => rfl) (cfF rk) (swoF rk) 53 #[.pointer (some ⟨bi, oi, none⟩)] b o c (List.finRange (n + 1)).toArray w eg hcmp hH (lt_of_heap hb) (by rw [hsz]; omega) (totF rk)
  rw [hsz] at hS
  change Calls Try.prog 52 _ _ _ at hS
  refine hS.mono ?_
  rintro e w' ⟨rfl, k, os, rfl⟩
  have hl : ((List.finRange (n + 1)).mergeSort fun x y => !(ltOf (cfF rk)) y x).length = n + 1 := by simp
  refine ⟨rfl, k, os, _, putCells_size encF o ((List.finRange (n + 1)).mergeSort fun x y => !(ltOf (cfF rk)) y x).toArray vs, ?_, ?_⟩
  · rw [putCells_lst _ _ _ _ (by rw [hl]; omega), home_sorted hr, hl]
  · unfold sortWorld
    rw [putRow_setRow (vs := vs) (el := el) (fr := (0, 0))]
    exact hb
theorem setRow_grow {w : World} {k b : Nat} {vs' : Array Value} {os : Array Obj} (hb : b < w.heap.size) : grow ((Go.Sort.ahead w k).setRow b vs') os = grow (Go.Sort.ahead (w.setRow b vs') k) os := rfl
end Go.Proofs.Ytfaphhcloanhnaa
namespace Go.Am
open Go.Proofs.Ytfaphhcloanhnaa
/-- What slices.SortFunc does with places, by their distances. -/
def knHome : List AVal → Mem → Option (AVal × Mem)
  | [.sl id off len e cap, .fn (.func g) [] [.ptr ifr io]], m => match m.cells id, m.cells ifr with
    | some cs, some [.sl fid fo fn fe fcap] => match m.cells fid with
      | some fc => match intsOf cs, intsOf fc with
        | some l, some r => if off = 0 ∧ e = 1 ∧ g = 53 ∧ io = 0 ∧ fo = 0 ∧ fe = 1 ∧ 0 < len ∧ len ≤ 1000 ∧ fn = len ∧ r.length = len ∧ l = inat (List.range len) ∧ (∀ x ∈ r, 0 ≤ x ∧ x ≤ (len : Int)) ∧ id ≠ ifr ∧ id ≠ fid then some (.tup [], m.put id (some (.cells ((inat (homeL (rkOf r) len)).map aint)))) else none
        | _, _ => none
      | none => none
    | _, _ => none
  | _, _ => none
end Go.Am
namespace Go.Proofs.Ytfaphhcloanhnaa
open Go.Am Go.Sort Go.Proofs Go.Shelf
set_option maxHeartbeats 4000000
theorem knHome_spec {args : List AVal} {m m' : Mem} {v : AVal} (h : knHome args m = some (v, m')) : ∃ id n cap ifr fid fcap r, args = [.sl id 0 (n + 1) 1 cap, .fn (.func 53) [] [.ptr ifr 0]] ∧ m.cells id = some ((inat (List.range (n + 1))).map aint) ∧ m.cells ifr = some [.sl fid 0 (n + 1) 1 fcap] ∧ m.cells fid = some (r.map aint) ∧ n + 1 ≤ 1000 ∧ r.length = n + 1 ∧ (∀ x ∈ r, 0 ≤ x ∧ x ≤ ((n + 1 : Nat) : Int)) ∧ id ≠ ifr ∧ id ≠ fid ∧ v = .tup [] ∧ m' = m.put id (some (.cells ((inat (homeL (rkOf r) (n + 1))).map aint))) := by
  unfold knHome at h
  split at h
  · split at h
    · rename_i h1 h2
      split at h
      · rename_i h3
        split at h
        · rename_i h4 h5
          split at h
          · rename_i hc
            obtain ⟨rfl, rfl, rfl, rfl, rfl, rfl, c1, c2, c7, c3, rfl, c4, c5, c6⟩ := hc
            subst c7
            simp only [Option.some.injEq, Prod.mk.injEq] at h
            obtain ⟨rfl, rfl⟩ := h
            rw [intsOf_some h4] at h1
            rw [intsOf_some h5] at h3
            obtain ⟨n, rfl⟩ := Nat.exists_eq_succ_of_ne_zero (Nat.pos_iff_ne_zero.1 c1)
            exact ⟨_, n, _, _, _, _, _, rfl, h1, h2, h3, c2, c3, c4, c5, c6, rfl, rfl⟩
          · simp at h
        · simp at h
      · simp at h
    · simp at h
  · simp at h
theorem sortHome_sim {args : List AVal} {m m' : Mem} {v : AVal} (h : knHome args m = some (v, m')) : Sim Try.prog 52 args m v m' ∧ Grow m m' := by
  obtain ⟨id, n, cap, ifr, fid, fcap, r, rfl, h1, h2, h3, hn, hrl, hr, hne1, hne2, rfl, rfl⟩ := knHome_spec h
  refine ⟨fun ι S w vargs hrp hm hfr => ?_, ?_⟩
  · obtain ⟨l1, l2⟩ := hrp
    match vargs, l1 with
    | [x, y], _ =>
      obtain ⟨b, o, c, a, rfl, hid, hlc, -, ha, -⟩ := rep_sl (l2 0 _ x rfl rfl)
      have ha' := ha (by omega)
      subst ha'
      obtain ⟨vf, vc, rfl, f1, f2⟩ := rep_fn (l2 1 _ y rfl rfl)
      have hvf : vf = #[] := Array.toList_eq_nil_iff.1 (List.eq_nil_of_length_eq_zero f1.1.symm)
      subst hvf
      obtain ⟨p, hp⟩ : ∃ p, vc.toList = [p] := by
        have := f2.1
        match e : vc.toList with
        | [] => rw [e] at this; simp at this
        | [p] => exact ⟨p, rfl⟩
        | _ :: _ :: _ => rw [e] at this; simp at this
      have hvc : vc = #[p] := by rw [← Array.toList_inj, hp]
      subst hvc
      obtain ⟨bi, oi, hifr, rfl⟩ := rep_ptr (f2.2 0 _ p rfl rfl)
      obtain ⟨vs, el, hb, hlen, hrep, hone, hnS⟩ := box_cells hm h1 hid
      obtain ⟨vs2, el2, hb2, hlen2, hrep2, -, -⟩ := box_cells hm h2 hifr
      have hq := hrep2.2 0 (.sl fid 0 (n + 1) 1 fcap) (vs2.toList[oi]'(by simp at hlen2; simp; omega)) rfl (by
        rw [List.getElem?_take, if_pos (by simp), List.getElem?_drop, Nat.add_zero]
        exact List.getElem?_eq_getElem _)
      obtain ⟨bf, fo, c2, a2, hq2, hfid, hlc2, -, ha2, -⟩ := rep_sl hq
      have ha2' := ha2 (by omega)
      subst ha2'
      obtain ⟨vs3, el3, hb3, hlen3, hrep3, -, -⟩ := box_cells hm h3 hfid
      have hi : w.cell? ⟨bi, oi, none⟩ = some (.slice (some ⟨bf, fo + 0, none⟩) (n + 1) c2) := by
        unfold World.cell?
        simp only [hb2]
        rw [← hq2]
        simp at hlen2
        simp [show oi < vs2.size by omega]
      have hus := rep_ints (l := inat (List.range (n + 1))) (us := (vs.toList.drop o).take (n + 1)) (by simpa [inat] using hrep)
      have hus3 := rep_ints (l := r) (us := (vs3.toList.drop fo).take (n + 1)) (by simpa [hrl] using hrep3)
      have hv : ∀ j, j < n + 1 → vs[o + j]? = some (.int .i64 (j : Int)) := by
        intro j hj
        have e := congrArg (·[j]?) hus
        simp only [List.getElem?_take, List.getElem?_drop, List.getElem?_map] at e
        rw [if_pos hj] at e
        simp only [Array.getElem?_toList] at e
        rw [e]
        simp [inat, hj]
      have hrk : ∀ j, j < n + 1 → r.getD j 0 = ((rkOf r j : Nat) : Int) ∧ rkOf r j ≤ n + 1 := by
        intro j hj
        have hm1 : r.getD j 0 ∈ r := by
          have hj' : j < r.length := by omega
          simp [hj']
        have := hr _ hm1
        unfold rkOf
        omega
      have hf : ∀ j, j < n + 1 → w.cell? ⟨bf, fo + 0 + j, none⟩ = some (.int .i64 (rkOf r j : Nat)) := by
        intro j hj
        have e := congrArg (·[j]?) hus3
        simp only [List.getElem?_take, List.getElem?_drop, List.getElem?_map] at e
        rw [if_pos hj] at e
        simp only [Array.getElem?_toList] at e
        unfold World.cell?
        simp only [hb3, Nat.add_zero]
        rw [← (hrk j hj).1]
        have hj' : j < r.length := by omega
        simp only [Option.isSome_none, Bool.false_eq_true, if_false]
        rw [e]
        simp [hj']
      have ne1 : bi ≠ b := hm.apart _ _ _ _ _ _ _ _ (cells_spec h2) (cells_spec h1) (Ne.symm hne1) hifr hid
      have ne2 : bf ≠ b := hm.apart _ _ _ _ _ _ _ _ (cells_spec h3) (cells_spec h1) (Ne.symm hne2) hfid hid
      have hcon := sortHome_calls (c := c) (o := o) hb hv hi hf (fun p hp => (hrk p hp).2) hn ne1 ne2 (lt_of_heap hb2) (lt_of_heap hb3)
      refine hcon.mono ?_
      rintro e w' ⟨rfl, k, os, vs', hs', htl, rfl⟩
      refine ⟨_, ι, S, rfl, ?_⟩
      rw [setRow_grow (lt_of_heap hb)]
      refine Post.after ?_ (grow_step _ k os)
      have hll : (inat (homeL (rkOf r) (n + 1))).length = n + 1 := by
        rw [inat_length, (homeL_perm fun p hp => (hrk p hp).2).length_eq, List.length_range]
      have hlo : o + (n + 1) ≤ vs.size := by simpa [inat] using hlen
      refine post_put hm (cells_spec h1) hid hb hs' ?_ ?_ (one_all (all_one_ints _)) (.inr trivial) (.tup rfl (fun j c v hc => by simp at hc))
      · rw [List.length_map, hll, hs']; exact hlo
      · have e : (vs'.toList.drop o).take ((inat (homeL (rkOf r) (n + 1))).map aint).length = (inat (homeL (rkOf r) (n + 1))).map (Value.int .i64) := by
          rw [List.length_map, hll, htl, List.append_assoc, List.drop_append_of_le_length (by simp; omega), List.drop_eq_nil_of_le (by simp; omega), List.nil_append, List.take_append_of_le_length (by simp [hll]), List.take_of_length_le (by simp [hll])]
        rw [e]
        refine ⟨by simp, fun j c v hc hv => ?_⟩
        simp only [List.getElem?_map, Option.map_eq_some_iff] at hc hv
        obtain ⟨x, e1, rfl⟩ := hc
        obtain ⟨y, e2, rfl⟩ := hv
        rw [e1] at e2
        cases e2
        exact rep_int_mk .i64 x
  · refine ⟨Nat.le_refl _, by simp only [Mem.put]; omega, fun i hi => ?_⟩
    simp only [Mem.put, Tr.get_set]
    by_cases e : i = id
    · left; omega
    · right; rw [if_neg e]
end Go.Proofs.Ytfaphhcloanhnaa
